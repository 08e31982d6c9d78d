import Derived.Test.YtkdpclfhapphhaaGreatAbK2
import Derived.Test.YtkdpclfhapphhaaGreatAbF4
import Derived.Test.YtkdpclfhapphhaaGreatAbS1
import Derived.KernelRfl
import Derived.Test.YtkdpclfhapphhaaGreatProg
namespace Go.Proofs.YtkdpclfhapphhaaGreat.Ab
open Go
set_option linter.unusedVariables false
noncomputable section
abbrev d1g:Ty:=(.pair .str (.sl (.int .i64)))
abbrev j5u:Ty:=(.pair .str d1g)
abbrev j0a:Ty:=(.pair (.int .i64) j5u)
abbrev s0o:Ty:=(.pair (.int .i64) j0a)
abbrev d40:Ty:=(.pair .bool (.int .i64))
abbrev j70:Ty:=(.pair .str d40)
abbrev u0h:Ty:=(.pair .str j70)
abbrev s4z:Ty:=(.pair .str .str)
abbrev d43:Ty:=(.pair .str .bool)
abbrev u2g:Ty:=(.pair .str d43)
abbrev d41:Ty:=(.pair .bool .str)
abbrev o5i:Ty:=(.pair (.sl u2g) d41)
abbrev p0o:Ty:=(.pair (.sl s4z) o5i)
abbrev q49:Ty:=(.pair (.int .i64) p0o)
abbrev q0z:Ty:=(.pair (.int .i64) q49)
abbrev r6q:Ty:=(.pair (.int .i64) q0z)
abbrev u0a:Ty:=(.pair (.int .i64) r6q)
abbrev r67:Ty:=(.pair (.int .i64) .str)
abbrev d19:Ty:=(.pair (.int .i64) (.int .i64))
abbrev s22:Ty:=(.pair (.sl u0a) d19)
abbrev o9x:Ty:=(.pair (.sl u0a) s22)
abbrev p2b:Ty:=(.pair (.sl u0h) o9x)
abbrev o1z:Ty:=(.pair p2b (.sl u0a))
abbrev o6p:Ty:=(.pair (.sl .str) (.sl r67))
abbrev o1y:Ty:=(.pair o1z o6p)
abbrev j7z:Ty:=(.pair (.sl (.int .i64)) (.sl .str))
abbrev o9s:Ty:=(.pair (.sl u0a) j7z)
abbrev o9w:Ty:=(.pair o1y o9s)
abbrev o9t:Ty:=(.pair .bool p2b)
abbrev o9y:Ty:=(.pair .str o9t)
abbrev o9v:Ty:=(.pair u0a o9y)
abbrev o9u:Ty:=(.pair (.int .i64) o9v)
abbrev d42:Ty:=(.pair (.int .i64) .bool)
abbrev j4q:Ty:=(.pair .str d42)
abbrev j5t:Ty:=(.pair (.sl (.int .u8)) d19)
abbrev t0r:=((Hu Hs)×(Hu r67.den))
abbrev j91:=((Hu s4z.den)×(Hu u2g.den))
abbrev j90:=((Hs×Hs)×Hs)
abbrev d4k:=((Hu s4z.den)×(Hs×Int))
abbrev j9z:=((Hu u2g.den)×(Hu u2g.den))
abbrev d4j:=(Hs×((Hu Int)×(Int×Int)))
abbrev j9y:=(Hs×(Hs×(Int×Bool)))
abbrev d4i:=(((Hu Int)×(Int×Int))×(Hu Int))
abbrev d4h:=((Hu Int)×((Hu Int)×(Int×Int)))
abbrev d4g:=(Hs×(Int×(Int×(Int×Int))))
abbrev j4v:=((Hu u0h.den)×(Hs×Int))
abbrev j4u:=(Hu (Hu u0a.den))
abbrev j2y:=((Hu u0a.den)×Int)
abbrev d4f:=((Hu s4z.den)×(Hs×Hs))
abbrev p2q:=(t0r×Int)
abbrev d4e:=(Int×t0r)
abbrev d4d:=((Hu Hs)×((Hu Hs)×Int))
abbrev q72:=(t0r×Bool)
abbrev j9x:=((Hu s4z.den)×((Hu u2g.den)×Int))
abbrev j9w:=((Hu u2g.den)×((Hu u2g.den)×Int))
abbrev d4c:=(((Hu Int)×(Int×Int))×(Hu Hs))
abbrev d1p:=((Hu u0h.den)×(Hs×Hs))
abbrev d4b:=((Hu Int)×((Hu Hs)×(Int×Int)))
abbrev j9v:=((Hu u0h.den)×((Hu u2g.den)×Int))
abbrev j7i:=((Hu u0a.den)×Hs)
abbrev d4a:=((Hu u0a.den)×(Hu Int))
abbrev d39:=(j4u×Int)
abbrev d38:=(t0r×Hs)
abbrev d1o:=((Hu u0h.den)×((Hu u0h.den)×Int))
abbrev d1n:=((Hu s4z.den)×((Hu s4z.den)×(Int×Int)))
abbrev j9u:=(Int×((Hu u0h.den)×(Hu u0h.den)))
abbrev j0c:=((Hu u0a.den)×(Int×Int))
abbrev d37:=((Hu u0h.den)×(Int×(Hu u0h.den)))
abbrev j5z:=(t0r×(Int×Int))
abbrev d36:=(Int×p2q)
abbrev j5y:=((Hu s4z.den)×((Hu u2g.den)×(Int×Int)))
abbrev j9t:=((Hu u2g.den)×((Hu s4z.den)×(Int×Int)))
abbrev d35:=(Int×(Hs×((Hu r67.den)×(Int×Int))))
abbrev d34:=((Hu u2g.den)×(Hs×(Hs×Bool)))
abbrev j9s:=(Int×(Int×(Hs×(Hs×(Hu Int)))))
abbrev j4t:=((Hu u2g.den)×((Hu u2g.den)×(Int×Int)))
abbrev d33:=((Hu u0h.den)×((Hs×Hs)×Int))
abbrev d32:=((Hu Hs)×((Hu u0h.den)×(Int×Int)))
abbrev j9r:=(t0r×(Hu Hs))
abbrev d31:=((Hu u0h.den)×(Hs×(Int×(Int×Int))))
abbrev d30:=(Hs×(Int×((Hu u0h.den)×(Int×Int))))
abbrev d3z:=((Hu u0a.den)×(Hs×Int))
abbrev d3y:=((Hu u2g.den)×(Int×((Hu u0h.den)×Int)))
abbrev j4s:=(t0r×(Int×Hs))
abbrev d3x:=((Hu u0a.den)×((Hu Int)×Bool))
abbrev j9q:=((Hu u0a.den)×(Int×(Int×Int)))
abbrev d3w:=(Int×d1o)
abbrev j7h:=(Int×j0c)
abbrev j9p:=((Hu u0h.den)×((Hu u0h.den)×(Int×Int)))
abbrev d1m:=(t0r×((Hu Int)×Int))
abbrev d3v:=((Hu u0h.den)×(Int×((Hu u0h.den)×Int)))
abbrev d3u:=((Hu u0h.den)×(Hs×(Hs×(Bool×Int))))
abbrev d3t:=(Int×((Hu u0h.den)×((Hu u2g.den)×(Int×Int))))
abbrev j7g:=((Hu u0a.den)×(Hs×(Int×Int)))
abbrev d3s:=(t0r×(Int×(Int×Hs)))
abbrev d3r:=((Hu u0h.den)×((Hu (Hu u0h.den))×(Int×Int)))
abbrev d3q:=((Hu u0a.den)×(Hs×(Int×Bool)))
abbrev j9o:=((Hs×(Int×Bool))×(Hu u0a.den))
abbrev d1l:=(Int×j9p)
abbrev d3p:=(t0r×((Hu r67.den)×(Int×Int)))
abbrev d3o:=(t0r×((Hu Hs)×(Int×Int)))
abbrev j9n:=((Hu Int)×(j4u×(Int×Int)))
abbrev d3n:=((Hu u0a.den)×((Hu Int)×(Hu u0h.den)))
abbrev d3m:=(Int×(Int×(t0r×(Hs×Int))))
abbrev d3l:=(Int×((Hu u0h.den)×((Hu u0h.den)×(Int×(Int×Int)))))
abbrev d3k:=(Int×(Int×d1m))
abbrev d3j:=((Hu u2g.den)×((Hs×(Hs×Bool))×(Hu u2g.den)))
abbrev d3i:=((Hu u0h.den)×((Hs×Hs)×((Hu Hs)×Int)))
abbrev d3h:=((Hu u0h.den)×((Hs×Hs)×(Int×(Hu Hs))))
abbrev j78:=(t0r×t0r)
abbrev d3g:=((Hs×Hs)×d1n)
abbrev d3f:=((Hu u0h.den)×((Hs×(Hs×(Bool×Int)))×(Int×Int)))
abbrev d3e:=(t0r×(Hs×(Int×((Hu Int)×Int))))
abbrev d3d:=((Hu (Hu u0h.den))×(Int×((Hu (Hu u0h.den))×(Int×Int))))
abbrev d3c:=((Hu u0a.den)×j2y)
abbrev j9m:=(((Hu Int)×(Int×Int))×(Int×((Hu s0o.den)×(Int×(Hu Int)))))
abbrev d3b:=((Hu u0a.den)×((Hu u0a.den)×Unit))
abbrev j9l:=((Hu u2g.den)×((Hs×(Hs×Bool))×((Hu u2g.den)×Int)))
abbrev j9k:=((Hs×(Hs×(Bool×Int)))×(Hs×(Hs×(Bool×Int))))
abbrev d3a:=(t0r×q72)
abbrev d29:=((Hu u0h.den)×(Hs×(Int×(Int×((Hu u0h.den)×(Int×Int))))))
abbrev d28:=((Hs×(Int×Bool))×j7h)
abbrev d27:=(Int×(((Hu u0h.den)×(Hu u0h.den))×((Hu u0h.den)×(Int×Int))))
abbrev d26:=(Int×((Hu u0h.den)×j9p))
abbrev d1k:=((Hu u0a.den)×j0c)
abbrev d25:=((Hu u0h.den)×d1l)
abbrev u87:=(Int×(Int×(Int×(Int×((Hu s4z.den)×((Hu u2g.den)×(Bool×Hs)))))))
abbrev d24:=(Int×(t0r×p2q))
abbrev d23:=(t0r×j9s)
abbrev d22:=(Int×(t0r×(Hs×((Hu Hs)×(Int×Int)))))
abbrev d21:=((Hu u0a.den)×(j4u×(Int×Int)))
abbrev d20:=((Hu u0a.den)×j7h)
abbrev d2z:=((Hu u0a.den)×(Unit×j0c))
abbrev j0b:=(u87×Int)
abbrev j7f:=(u87×Bool)
abbrev j2x:=(u87×Hs)
abbrev j9j:=(u87×(Hu Int))
abbrev d2y:=(u87×(Int×Bool))
abbrev d2x:=((Hu u0a.den)×((Hu u0h.den)×((Hu s4z.den)×((Hu Int)×(Int×Int)))))
abbrev d2w:=((Hu s4z.den)×((Hs×(Hs×Bool))×j5y))
abbrev d2v:=((Hu u0h.den)×((Hs×Hs)×((Hu Hs)×(Int×(Hs×(Hu Hs))))))
abbrev d2u:=((Hu u0h.den)×(Int×((Hs×Hs)×((Hu s4z.den)×((Hu Hs)×(Int×Int))))))
abbrev d2t:=((Hu s4z.den)×u87)
abbrev d2s:=(j4u×(Int×(j4u×(Int×Int))))
abbrev j9i:=(u87×(Hs×Int))
abbrev d2r:=((Hu u0a.den)×((Hu Int)×(Bool×j0c)))
abbrev d2q:=(((Hu Int)×(Int×Int))×(Int×((Hu s0o.den)×(Int×((Hu Int)×(Int×((Hu Int)×Int)))))))
abbrev u7f:=((Hu u0h.den)×d1k)
abbrev d2p:=(Int×(t0r×((Hu Hs)×(Hs×((Hu Hs)×(Int×Int))))))
abbrev d2o:=((Hu u2g.den)×((Hs×Hs)×((Hu s4z.den)×(Int×(Int×((Hu u2g.den)×(Int×Int)))))))
abbrev j9h:=((Hu u0h.den)×((Hs×Hs)×((Hu Hs)×(Int×(Hs×((Hu Hs)×Int))))))
abbrev d2n:=(u87×(Hs×Hs))
abbrev j77:=(u7f×Int)
abbrev j7e:=(u87×(Hs×(Int×Bool)))
abbrev j76:=((Hs×(Int×Bool))×u87)
abbrev d2m:=((Hu Hs)×(t0r×(Int×(t0r×(Bool×Int)))))
abbrev o6r:=(u7f×Bool)
abbrev j9g:=(t0r×(t0r×p2q))
abbrev d1j:=((Hs×(Hs×Bool))×((Hu s4z.den)×((Hu u2g.den)×(Int×(Int×((Hu s4z.den)×(Int×Int)))))))
abbrev d2l:=(u87×((Hu s4z.den)×(Int×Int)))
abbrev d2k:=(u87×(Hs×(Hs×Bool)))
abbrev j2k:=(u7f×Hs)
abbrev d2j:=((Hu Int)×(j4u×(Int×j7h)))
abbrev j7d:=(u7f×(Hu Int))
abbrev d2i:=((Hu u0h.den)×(Hs×u87))
abbrev d2h:=((Hu u2g.den)×((Hs×(Hs×Bool))×((Hu u2g.den)×(Int×(Int×((Hu u2g.den)×(Int×Int)))))))
abbrev d2g:=((Hu u0a.den)×((Hu Int)×((Hu u0h.den)×j0c)))
abbrev d2f:=(u87×((Hu u0h.den)×Hs))
abbrev o9h:=(u87×(Hu u0a.den))
abbrev d2e:=((Hu u0a.den)×((Hu Int)×(Bool×(Int×(Bool×j0c)))))
abbrev d2d:=(u7f×(Int×Bool))
abbrev o4z:=((Hu u0a.den)×u87)
abbrev j7c:=((Hs×(Int×Bool))×(u87×Unit))
abbrev j7b:=((Hs×(Int×Bool))×(Unit×u87))
abbrev j9f:=((Hu u2g.den)×(Int×((Hu u0h.den)×(Int×((Hs×(Hs×(Bool×Int)))×((Hu u0h.den)×Int))))))
abbrev d2c:=(u7f×(Hs×Int))
abbrev d2b:=(Hs×j77)
abbrev Z99:=((Hu u0h.den)×(Hs×j0b))
abbrev Z98:=(u7f×((Hu Int)×Int))
abbrev Z97:=((Hu u0a.den)×j0b)
abbrev Z96:=(u87×((Hu Int)×((Hu s4z.den)×(Int×Int))))
abbrev Z95:=(u87×d1p)
abbrev Z94:=(u87×((Hu Int)×((Hu u2g.den)×(Int×Int))))
abbrev Z93:=((Hu s4z.den)×d1j)
abbrev Z92:=((Hs×(Int×Bool))×u7f)
abbrev Z91:=(u7f×(Hs×(Int×Bool)))
abbrev Z90:=(u7f×((Hu Int)×(Int×Int)))
abbrev Z89:=((Hu u0a.den)×(u87×(Int×Int)))
abbrev Z88:=((Hs×(Int×Bool))×((u87×Unit)×(Int×Int)))
abbrev Z87:=((Hs×(Int×Bool))×((Unit×u87)×(Int×Int)))
abbrev Z86:=((Hu Int)×(Int×j9g))
abbrev Z85:=((Hu u0a.den)×(u87×(Bool×Int)))
abbrev Z84:=(u7f×(Hu u0a.den))
abbrev Z83:=((Hs×(Int×Bool))×(u7f×Unit))
abbrev Z82:=(u7f×((Hu u0h.den)×(Int×Int)))
abbrev Z81:=((Hs×(Int×Bool))×(Unit×u7f))
abbrev Z80:=(Int×(Int×(Hs×j9g)))
abbrev Z79:=((Hu Int)×(Int×(t0r×(t0r×j5z))))
abbrev Z78:=((Hu Int)×(t0r×(t0r×(t0r×(Int×(Int×Int))))))
abbrev Z77:=(Z84×Int)
abbrev Z76:=((Hu u0h.den)×(u87×((Hu s4z.den)×((Hu Hs)×Int))))
abbrev Z75:=((Hu u0h.den)×(u87×((Hs×Hs)×(Hu u0h.den))))
abbrev Z74:=(u7f×((Hu Int)×((Hu u0h.den)×(Int×Int))))
abbrev Z73:=((Hs×(Int×Bool))×((u7f×Unit)×(Int×Int)))
abbrev Z72:=((Hs×(Int×Bool))×((Unit×u7f)×(Int×Int)))
abbrev Z71:=(u7f×j0c)
abbrev Z70:=(Int×Z77)
abbrev Z69:=(Z84×(Int×Int))
abbrev Z68:=((Hu u0h.den)×(u87×((Hs×Hs)×((Hu u0h.den)×Int))))
abbrev Z67:=(Z84×(Int×Hs))
abbrev Z66:=(Z84×(Hs×Bool))
abbrev Z65:=(Z84×((Hu s4z.den)×Int))
abbrev Z64:=(Z84×(Hs×(Bool×Int)))
abbrev Z63:=(u87×u87)
abbrev Z62:=(Z84×(Int×(Hs×Hs)))
abbrev Z61:=(Z84×(Hu u0a.den))
abbrev Z60:=(Z84×t0r)
abbrev Z59:=(Z84×(Int×(Hs×(Hs×Bool))))
abbrev Z58:=(Z60×Bool)
abbrev Z57:=((Hu u0a.den)×((Hu u0h.den)×((Hu s4z.den)×(u87×((Hu Int)×(Int×Int))))))
abbrev Z56:=(Z84×j0c)
abbrev Z55:=(Z84×(Int×j2y))
abbrev Z54:=(u7f×u87)
abbrev Z53:=(u87×j76)
abbrev Z52:=(u7f×j2x)
abbrev Z51:=(u7f×u7f)
abbrev Z50:=(u87×((Hs×(Int×Bool))×(u87×(Int×Int))))
abbrev Z49:=(Int×(u87×(Hs×(Bool×u7f))))
abbrev Z48:=((Hu u0a.den)×((Hu u0h.den)×((Hu s4z.den)×(u87×((Hu Int)×(Int×(Int×((Hu s4z.den)×(Int×Int)))))))))
abbrev Z47:=((Hu u0a.den)×(u87×(Int×j0b)))
abbrev Z46:=(Z49×Bool)
abbrev Z45:=((Hu u0a.den)×(u87×(Bool×(Int×j0b))))
abbrev Z44:=(Z84×(Int×u87))
abbrev Z43:=(u7f×(u7f×((Hu Hs)×Int)))
abbrev Z42:=(u7f×Z92)
abbrev Z41:=(Z84×(Int×j0b))
abbrev Z40:=(u7f×(u7f×((Hu Hs)×(Int×Int))))
abbrev Z39:=(Z60×((Hu u0a.den)×((Hu Int)×(Hu Hs))))
abbrev Z38:=(Int×Z39)
abbrev Z37:=(Z39×Int)
abbrev Z36:=(Z39×Bool)
abbrev Z35:=(Bool×Z39)
abbrev Z34:=(u7f×((Hs×(Int×Bool))×(u7f×(Int×Int))))
abbrev Z33:=((Hu u0a.den)×((Hu Int)×(Bool×(Int×(u87×(Bool×((Hu u0a.den)×(Int×j7h))))))))
abbrev Z32:=(Z39×(Hu s4z.den))
abbrev Z31:=(Int×(Hs×Z39))
abbrev Z30:=(Z39×(Int×Hs))
abbrev Z29:=(Z39×(Hs×Bool))
abbrev Z28:=((Hu s0o.den)×Z36)
abbrev Z27:=((Hu u0a.den)×((Hu u0h.den)×((Hu u0a.den)×((Hu u0a.den)×(Int×(Int×((Hu u0a.den)×((Hu Hs)×((Hu r67.den)×((Hu u0a.den)×((Hu Int)×(Hu Hs))))))))))))
abbrev Z26:=((Hu u0a.den)×Z39)
abbrev Z25:=(u87×((Hs×Hs)×Z63))
abbrev Z24:=((Hu s0o.den)×(Z39×(Bool×Int)))
abbrev Z23:=(u87×((Hs×Hs)×(u87×j0b)))
abbrev Z22:=((Hu u0a.den)×(((Hu u0h.den)×((Hu u0a.den)×((Hu u0a.den)×(Int×(Int×((Hu u0a.den)×((Hu Hs)×((Hu r67.den)×((Hu u0a.den)×((Hu Int)×(Hu Hs)))))))))))×(Int×Int)))
abbrev Z21:=(Z39×j9s)
abbrev Z20:=(u87×Z51)
abbrev Z19:=(Z39×((Hu s4z.den)×j0c))
abbrev Z18:=(u7f×(u7f×j77))
abbrev Z17:=(u7f×Z49)
abbrev Z16:=(u87×((Hu u0h.den)×((Hu u0a.den)×((Hu u0a.den)×(Int×(Int×((Hu u0a.den)×((Hu Hs)×((Hu r67.den)×((Hu u0a.den)×((Hu Int)×(Hu Hs))))))))))))
abbrev Z15:=(u7f×(u7f×(u7f×(Int×Int))))
abbrev Z14:=(Z39×(Int×u87))
abbrev Z13:=(Hs×Z18)
abbrev Z12:=(Z84×(Z49×Int))
abbrev Z11:=(u87×(u7f×Z54))
abbrev Z10:=(u87×(u7f×(u7f×(u87×(Unit×(Int×Int))))))
abbrev Z9:=(Hs×(u7f×(u87×(u7f×j77))))
abbrev Z8:=(u87×(u7f×(u7f×(u87×((Hu u0a.den)×(Hu u0a.den))))))
abbrev Z7:=(Z39×Z49)
abbrev Z6:=(Hs×(u87×(u7f×(u7f×(u87×((Hu u0a.den)×((Hu u0a.den)×(Unit×(Int×Int)))))))))
abbrev Z5:=(Z39×Z39)
abbrev Z4:=(u7f×(u87×(u7f×(u7f×j0b))))
abbrev Z3:=(Hs×(u7f×Z11))
abbrev Z2:=(Hs×Z4)
abbrev Z1:=((Hu s0o.den)×(Z39×Z37))
def d4p:Tabs where
 ty:= [(3,(.int .i64)),(4, .bool),(5,(.int .u8)),(9, .str),(22,(.sl (.int .u8))),(24,(.sl u0h)),(25,(.sl u0a)),(27,p2b),(29,o1z),(30,(.sl .str)),(31,(.sl r67)),(33,o6p),(35,o1y),(51,u2g),(56,(.sl s0o)),(58,(.sl (.int .i64))),(60,o9w),(67,(.sl s4z)),(68,(.sl u2g)),(70,u0a),(72,o9u),(133,u0h),(136,s0o),(143,(.sl s4z)),(145,s4z),(147,(.sl s4z)),(149,s4z),(167,j4q),(175,j4q),(182,(.sl (.sl u0a))),(211,j5t),(238,s4z),(242,(.int .u32)),(278,r67),(295,(.sl (.sl u0h)))]
 lay:= [(3,1,false),(4,1,false),(5,1,false),(9,1,false),(22,1,false),(24,1,false),(25,1,false),(27,5,true),(29,6,true),(30,1,false),(31,1,false),(33,2,true),(35,8,true),(51,3,true),(58,1,false),(60,11,true),(67,1,false),(68,1,false),(70,8,true),(72,16,true),(133,4,true),(136,5,true),(145,2,true),(149,2,true),(165,1,false),(238,2,true),(278,2,true)]
 fld:= [(27, [(0,1,false),(1,1,false),(2,1,false),(3,1,false),(4,1,false)]),(29, [(0,5,true),(5,1,false)]),(33, [(0,1,false),(1,1,false)]),(35, [(0,6,true),(6,2,true)]),(51, [(0,1,false),(1,1,false),(2,1,false)]),(60, [(0,8,true),(8,1,false),(9,1,false),(10,1,false)]),(70, [(0,1,false),(1,1,false),(2,1,false),(3,1,false),(4,1,false),(5,1,false),(6,1,false),(7,1,false)]),(72, [(0,1,false),(1,8,true),(9,1,false),(10,1,false),(11,5,true)]),(133, [(0,1,false),(1,1,false),(2,1,false),(3,1,false)]),(136, [(0,1,false),(1,1,false),(2,1,false),(3,1,false),(4,1,false)]),(145, [(0,1,false),(1,1,false)]),(149, [(0,1,false),(1,1,false)]),(160, [(0,1,false)]),(167, [(0,1,false),(1,1,false),(2,1,false)]),(175, [(0,1,false),(1,1,false),(2,1,false)]),(211, [(0,1,false),(1,1,false),(2,1,false)]),(238, [(0,1,false),(1,1,false)]),(278, [(0,1,false),(1,1,false)])]
 eqs:= [(145, [.s, .s]),(149, [.s, .s])]
 tz:= [(160,(.sl (.int .u8)))]
abbrev zL (a:Hu Nat) (s:Sh) (n:Nat) (b:Hu Nat) (t:Sh) (c:Hu Nat) (u:Sh):LoopA:=⟨⟨a,s, []⟩,n,⟨b,t, []⟩,⟨c,u, []⟩⟩
def zS (i o:Sh) (n:Nat:=1) (b:Hu Bool:= []):Sig:=⟨i,b,o,n⟩
abbrev j6y:Ty:=.int .u8
abbrev d1y:Ty:=.int .i64
abbrev d5c:Ty:=.sl u0a
abbrev d5d:Ty:=.sl u0h
abbrev u06:Sh:=.int .i64
abbrev s16:Sh:=.tr false u0a
abbrev q7x:Sh:=.own true u0a
abbrev s0f:Sh:=.pair u06 u06
abbrev r3g:Sh:=.tr false u0h
abbrev q84:Sh:=.tr false u2g
abbrev q85:Sh:=.pair .str .bool
abbrev p5h:Sh:=.own true u0h
abbrev j84:Sh:=.pair p5h (.pair q7x (.pair q7x s0f))
abbrev r6z:Sh:=.box j84
abbrev p84:Sh:=.box (.own true j6y)
abbrev d10:Sh:=.pair .str .str
abbrev p5i:Sh:=.own true .str
abbrev d0k:Sh:=.pair p5i (.own true r67)
abbrev o41:Sh:=.pair .str u06
abbrev o6j:Sh:=.tr false s4z
abbrev d0g:Sh:=.pair u06 (.pair u06 (.pair u06 (.pair u06 (.pair o6j (.pair q84 (.pair .bool .str))))))
abbrev q45:Sh:=.agg d0g
abbrev q0g:Sh:=.box d0g
abbrev o7v:Sh:=.tr true u0h
abbrev j63:Sh:=.pair j84 q7x
abbrev o4w:Sh:=.own true s4z
abbrev d0i:Sh:=.pair u06 (.pair u06 (.pair u06 (.pair u06 (.pair o4w (.pair (.own true u2g) (.pair .bool .str))))))
abbrev p17:Sh:=.box d0i
abbrev o9m:Sh:=.pair s16 s0f
abbrev d0h:Sh:=.pair r3g (.pair s16 o9m)
abbrev j5h:Sh:=.agg (.pair u06 (.pair d0g (.pair .str (.pair .bool d0h))))
abbrev d0n:Sh:=.pair d0h s16
abbrev p5j:Sh:=.agg d0h
abbrev q86:Sh:=.box d0h
abbrev d0o:Sh:=.rbox (.ref 0)
abbrev o9f:Sh:=.box d0k
abbrev j64:Sh:=.pair u06 .bool
abbrev s64:Sh:=.box (.pair .str j64)
abbrev j2p:Sh:=.pair .str q85
abbrev j4n:Sh:=.pair q84 s0f
abbrev o9g:Sh:=.own true d1y
abbrev d1z:Sh:=.pair (.pair j63 d0k) (.pair q7x (.pair o9g p5i))
abbrev o1q:Sh:=.box d1z
abbrev d0p:Sh:=.pair q0g u06
abbrev j2e:Sh:=.tr true d1y
abbrev j2f:Sh:=.tr false d1y
abbrev j85:Sh:=.agg (.pair u06 (.pair u06 (.pair .str (.pair .str j2f))))
abbrev o6k:Sh:=.agg j84
abbrev j2g:Sh:=.rbox d0g
abbrev d0q:Sh:=.own false u0a
abbrev j4o:Sh:=.tr true s4z
abbrev o9n:Sh:=.agg d0n
abbrev o9o:Sh:=.int .u32
abbrev j86:Sh:=.own true s0o
abbrev j5i:Sh:=.pair u06 s0f
abbrev j87:Sh:=.pair u06 .str
abbrev d4t:Sh:=.pair (.box j2p) (.pair o4w (.pair q84 (.pair u06 (.pair u06 (.pair j4o s0f)))))
abbrev j88:Sh:=.tr false d5c
abbrev j89:Sh:=.agg (.pair j63 d0k)
abbrev j65:Sh:=.pair q84 u06
abbrev j66:Sh:=.pair q45 q45
abbrev d0r:Sh:=.pair o9f (.pair o9f u06)
abbrev j67:Sh:=.pair o6j s0f
abbrev j68:Sh:=.pair r3g s0f
abbrev d0s:Sh:=.pair u06 (.own true j6y)
abbrev d4u:Sh:=.pair (.agg (.pair u06 (.pair d0i (.pair .str (.pair .bool j84))))) .bool
abbrev j5k:Sh:=.tr false j6y
abbrev o9e:Sh:=.box (.pair j5k s0f)
abbrev j2h:Sh:=.tr false .str
abbrev d0j:Sh:=.pair j2h (.tr false r67)
abbrev d0l:Sh:=.rbox (.pair r3g (.pair s16 (.pair s16 (.pair u06 (.pair u06 (.pair s16 (.pair j2h (.pair (.tr false r67) (.pair s16 (.pair j2f j2h))))))))))
abbrev j61:Sh:=.pair (.pair d0n d0j) (.pair s16 (.pair j2f j2h))
abbrev q43:Sh:=.agg d0j
abbrev o1t:Sh:=.box d0j
abbrev j5j:Sh:=.pair q43 u06
abbrev j69:Sh:=.rbox s64
abbrev j2i:Sh:=.agg d10
abbrev j5l:Sh:=.tr true .str
abbrev j7t:Sh:=.pair q45 s16
abbrev j7u:Sh:=.pair r6z d0o
abbrev j2j:Sh:=.box d10
abbrev d4r:Sh:=.pair r3g (.pair j2j (.pair j5l (.pair u06 (.pair .str (.pair p5i u06)))))
abbrev d4v:Sh:=.pair q84 (.pair (.box j2p) (.pair (.own true u2g) u06))
abbrev d0t:Sh:=.tr false s0o
abbrev d0u:Sh:=.clo 174 (.rbox u06)
abbrev d0v:Sh:=.clo 289 (.rbox .str)
abbrev j7v:Sh:=.pair .bool u06
abbrev j62:Sh:=.pair .str (.pair .str j7v)
abbrev d4w:Sh:=.pair o9e (.pair u06 (.pair j86 (.pair u06 j2e)))
abbrev j9a:Sh:=.pair q7x u06
abbrev d11:Sh:=.pair r6z (.pair r6z u06)
abbrev j9b:Sh:=.pair s16 d0p
abbrev j9c:Sh:=.pair r6z r6z
abbrev j4p:Sh:=.agg j63
abbrev d0m:Sh:=.pair j4p (.pair (.agg (.pair u06 (.pair d0i (.pair .str (.pair .bool j84))))) u06)
abbrev d12:Sh:=.pair s16 (.clo 366 j2g)
abbrev d13:Sh:=.pair s16 (.clo 290 j2g)
abbrev d14:Sh:=.clo 215 (.pair d0o r6z)
abbrev d15:Sh:=.clo 218 (.pair p17 d0o)
abbrev d16:Sh:=.clo 219 (.pair d0o p17)
abbrev j9d:Sh:=.tr false d5d
abbrev j5m:Sh:=.agg d0k
abbrev o9l:Sh:=.pair j5m .bool
abbrev d0w:Sh:=.pair o6k .bool
abbrev j7a:Sh:=.box d0n
abbrev d17:Sh:=.agg (.pair d0n d0j)
abbrev d0x:Sh:=.pair u06 j64
abbrev d0y:Sh:=.pair p5i j64
abbrev d0z:Sh:=.pair p5j s16
abbrev d00:Sh:=.pair r3g o41
abbrev d01:Sh:=.pair r3g u06
abbrev d02:Sh:=.pair p5j .str
abbrev d03:Sh:=.pair q43 j87
abbrev d04:Sh:=.pair o9n u06
abbrev d05:Sh:=.pair j2f u06
abbrev d06:Sh:=.pair u06 o1q
abbrev d07:Sh:=.pair r6z j69
abbrev d08:Sh:=.pair o9f o9f
abbrev d4x:Sh:=.pair p17 (.pair s64 (.pair p17 s0f))
abbrev d09:Sh:=.pair o9o o41
abbrev j9e:Sh:=.pair p5h u06
abbrev d4s:Sh:=.pair q84 (.pair u06 (.pair o7v (.pair u06 (.pair (.box j62) j9e))))
abbrev d4y:Sh:=.pair q0g (.pair r6z (.pair r6z p17))
abbrev d1a:Sh:=.pair u06 d0p
abbrev d1b:Sh:=.pair q84 j4n
abbrev d1c:Sh:=.pair u06 o9m
abbrev d1d:Sh:=.pair j88 s0f
abbrev d4z:Sh:=.clo 176 (.pair (.box r3g) (.box r3g))
abbrev j7w:Sh:=.agg d0i
def j6o:Nat→Sig
 | 8=>zS j5k .bool
 | 57=>zS j5k o9e
 | 220=>zS o9e (.pair u06 o9e) 1 [true]
 | 106=>zS (.pair o9e u06) (.pair u06 o9e) 1 [true,false]
 | 187=>zS (.pair o9e j2h) (.pair .str o9e) 1 [true,false]
 | 188=>zS (.pair o9e j2f) (.pair u06 o9e) 1 [true,false]
 | 189=>zS (.pair o9e u06) (.pair .bool o9e) 1 [true,false]
 | 80=>zS j5k j86
 | 21=>zS j5k j86
 | 120=>zS j5i .bool
 | 81=>zS j85 .bool
 | 152=>zS .unit o6k
 | 267=>zS .unit j4p
 | 320=>zS (.pair u06 (.int .u8)) .str
 | 406=>zS .unit .str
 | 356=>zS u06 o9l 2
 | 357=>zS .unit u06
 | 268=>zS .unit j5m
 | 160=>zS .unit j89
 | 82=>zS .unit (.agg d1z)
 | 70=>zS q45 j7w
 | 178=>zS s16 q7x
 | 68=>zS p5j o6k
 | 72=>zS o9n j4p
 | 261=>zS q43 j5m
 | 155=>zS d17 j89
 | 123=>zS .str .bool
 | 75=>zS (.agg j2p) .bool
 | 180=>zS q84 .bool
 | 235=>zS j2i .bool
 | 121=>zS q45 .bool
 | 131=>zS r3g .bool
 | 42=>zS p5j .bool
 | 232=>zS u06 .str
 | 234=>zS o41 d0x 3
 | 227=>zS o41 (.pair .str j64) 3
 | 111=>zS s64 (.pair .str s64) 1 [true]
 | 112=>zS s64 (.pair .bool s64) 1 [true]
 | 118=>zS s64 (.pair u06 s64) 1 [true]
 | 113=>zS o41 (.pair j7w j64) 3
 | 119=>zS (.pair s64 u06) (.pair q7x s64) 1 [true,false]
 | 38=>zS o41 (.pair o6k j64) 3
 | 122=>zS q45 .bool
 | 124=>zS p5j .bool
 | 39=>zS j5h .bool
 | 224=>zS o9o .str
 | 318=>zS (.pair o9o .str) o9o
 | 225=>zS .str o9o
 | 109=>zS .str q85 2
 | 221=>zS .str .str
 | 222=>zS .bool .str
 | 223=>zS q45 q85 2
 | 233=>zS s16 .str
 | 117=>zS p5j q85 2
 | 107=>zS j5h q85 2
 | 108=>zS .str q85 2
 | 33=>zS .str d4u 2
 | 355=>zS j5j q85 2
 | 263=>zS (.pair q43 s0f) q85 2
 | 264=>zS u06 u06
 | 266=>zS j5j u06
 | 265=>zS j5j u06
 | 157=>zS j5j d0y 3
 | 158=>zS q43 u06
 | 53=>zS q43 p5i
 | 69=>zS d0z u06
 | 79=>zS d00 u06
 | 71=>zS d01 p5h
 | 14=>zS d0z o6k
 | 307=>zS d02 u06
 | 387=>zS (.pair r3g j65) p5h
 | 330=>zS (.pair j2i .str) .bool
 | 427=>zS (.pair o6j q84) .bool
 | 429=>zS j66 .bool
 | 394=>zS j66 .bool
 | 393=>zS j7t .bool
 | 333=>zS (.pair p5j q45) o6k
 | 334=>zS d02 o6k
 | 346=>zS (.pair p5j (.pair q45 .str)) o6k
 | 258=>zS (.pair p5j j5h) (.pair p5j .bool) 2
 | 153=>zS (.pair p5j j5h) d0w 2
 | 50=>zS q43 d0w 2
 | 375=>zS q43 .bool
 | 303=>zS q43 .bool
 | 351=>zS q43 j5m
 | 352=>zS d03 o9l 2
 | 349=>zS (.pair q43 (.pair u06 j87)) o9l 2
 | 350=>zS u06 .str
 | 379=>zS (.pair q43 s0f) o9l 2
 | 377=>zS d03 o9l 2
 | 405=>zS d03 o9l 2
 | 353=>zS (.pair q43 j2h) o9l 2
 | 354=>zS q43 o9l 2
 | 262=>zS (.pair q43 j2h) o9l 2
 | 156=>zS q43 o9l 2
 | 52=>zS d17 (.pair j89 .bool) 2
 | 73=>zS o9n .bool
 | 17=>zS o9n (.pair j4p s0f) 3
 | 74=>zS d04 u06
 | 179=>zS (.pair q84 (.agg j2p)) (.own true u2g)
 | 76=>zS (.pair q45 (.agg j2p)) (.pair j7w .bool) 2
 | 18=>zS (.pair o9n (.pair u06 (.agg j2p))) (.pair j4p u06) 2
 | 358=>zS (.pair q45 j2i) (.pair j7w .bool) 2
 | 20=>zS d00 q85 2
 | 359=>zS (.pair q45 (.pair r3g .str)) q85 2
 | 269=>zS (.pair o9n j87) (.pair j4p (.pair .str j7v)) 4
 | 331=>zS (.pair r3g j2i) p5i
 | 360=>zS (.pair q45 (.pair r3g j2i)) o4w
 | 271=>zS (.pair o9n (.pair u06 j2i)) (.pair j4p (.pair o4w u06)) 3
 | 374=>zS u06 (.int .u8)
 | 301=>zS u06 .str
 | 302=>zS o6j .str
 | 190=>zS (.pair o1q j85) (.pair u06 (.pair .str o1q)) 2 [true,false]
 | 191=>zS q43 (.pair j89 .bool) 2
 | 413=>zS d03 o9l 2
 | 376=>zS (.pair q43 .str) o9l 2
 | 378=>zS (.pair q43 d05) j5m
 | 304=>zS (.pair q43 (.pair .str (.pair u06 d05))) j5m
 | 305=>zS (.pair q43 q43) .bool
 | 192=>zS (.pair q43 j85) j5m
 | 363=>zS (.pair (.box j63) u06) (.box j63) 0 [true,false]
 | 332=>zS p5j .bool
 | 409=>zS p5j d0q
 | 428=>zS (.pair q84 q84) .bool
 | 433=>zS j7t .bool
 | 435=>zS j7t .bool
 | 434=>zS j7t .bool
 | 407=>zS d04 u06
 | 361=>zS d04 d0m 3
 | 362=>zS (.pair o1q j5h) (.pair .bool o1q) 1 [true,false]
 | 274=>zS (.pair o1q u06) d06 1 [true,false]
 | 408=>zS j7t .bool
 | 364=>zS (.pair o9n j87) d0m 3
 | 275=>zS (.pair o1q j87) d06 1 [true,false,false]
 | 250=>zS (.pair o9n q85) d0m 3
 | 276=>zS (.pair o1q q85) d06 1 [true,false,false]
 | 277=>zS d04 (.pair j4p u06) 2
 | 306=>zS (.pair o1q (.pair u06 q45)) o1q 0 [true,false,false]
 | 193=>zS (.pair o1q j85) d06 1 [true,false]
 | 83=>zS (.pair o1q j85) (.pair u06 (.pair .str o1q)) 2 [true,false]
 | 22=>zS d0t (.pair (.agg d1z) .bool) 2
 | 194=>zS d05 u06
 | 84=>zS d05 .bool
 | 91=>zS q45 .bool
 | 201=>zS (.pair j2i .str) .bool
 | 195=>zS (.pair o6j q84) .bool
 | 196=>zS (.pair q84 q84) .bool
 | 85=>zS j66 .bool
 | 23=>zS s16 (.pair o9g .bool) 2
 | 200=>zS (.pair p5h (.pair u06 p5h)) p5h
 | 380=>zS .str .bool
 | 308=>zS d10 u06
 | 381=>zS u06 .bool
 | 309=>zS s0f u06
 | 199=>zS (.pair (.agg j62) (.agg j62)) u06
 | 198=>zS (.pair (.agg j62) (.rbox j62)) .bool
 | 10006=>zS (.pair r3g (.clo 198 (.rbox j62))) u06
 | 86=>zS (.pair r3g j65) p5h
 | 87=>zS (.pair o6j o6j) .bool
 | 88=>zS (.pair o6j j2i) o4w
 | 312=>zS p5i p5i 0 [true]
 | 313=>zS p5i p5i
 | 202=>zS r3g p5i
 | 292=>zS d00 u06
 | 203=>zS d00 q85 2
 | 89=>zS (.pair r3g (.pair j2i u06)) o4w
 | 90=>zS (.pair o6j q45) o4w
 | 24=>zS s16 .bool
 | 25=>zS (.agg j61) .bool
 | 92=>zS .unit j2i
 | 26=>zS (.agg j61) .bool
 | 185=>zS q45 j7w
 | 283=>zS s16 q7x
 | 165=>zS p5j o6k
 | 172=>zS d0z u06
 | 293=>zS (.pair .str (.rbox r3g)) u06
 | 175=>zS d01 p5h
 | 174=>zS (.pair q45 (.rbox u06)) .bool
 | 10002=>zS (.pair s16 d0u) u06
 | 10001=>zS (.pair q7x d0u) q7x
 | 64=>zS d0z o6k
 | 410=>zS j66 .bool
 | 367=>zS j66 .bool
 | 286=>zS j66 .bool
 | 366=>zS (.pair q45 j2g) .bool
 | 10009=>zS d12 u06
 | 10008=>zS d12 .bool
 | 10007=>zS d12 .bool
 | 284=>zS j7t .bool
 | 285=>zS (.pair q45 j2g) .bool
 | 10011=>zS (.pair s16 (.clo 285 j2g)) u06
 | 10010=>zS (.pair q7x (.clo 285 j2g)) q7x
 | 166=>zS (.pair p5j q45) o6k
 | 288=>zS (.pair q45 (.rbox .str)) .bool
 | 10012=>zS (.pair s16 (.clo 288 (.rbox .str))) u06
 | 167=>zS d02 u06
 | 289=>zS (.pair q45 (.rbox .str)) .bool
 | 10014=>zS (.pair s16 d0v) u06
 | 10013=>zS (.pair q7x d0v) q7x
 | 169=>zS d02 o6k
 | 205=>zS o9n j4p
 | 206=>zS p5j .bool
 | 95=>zS (.pair o9n q85) d0m 3
 | 94=>zS (.pair q45 d0l) .bool
 | 10022=>zS (.pair s16 (.clo 94 d0l)) u06
 | 10021=>zS (.pair s16 (.clo 94 d0l)) .bool
 | 10020=>zS (.pair s16 (.clo 94 (.rbox j61))) .bool
 | 27=>zS (.agg j61) .bool
 | 212=>zS j5i .bool
 | 231=>zS u06 q85 2
 | 209=>zS .str q85 2
 | 97=>zS (.pair p84 j2h) p84 0 [true,false]
 | 98=>zS (.pair p84 .bool) p84 0 [true,false]
 | 116=>zS (.pair p84 j2f) p84 0 [true,false]
 | 129=>zS .str .bool
 | 236=>zS j2i .bool
 | 321=>zS (.agg j2p) .bool
 | 237=>zS q84 .bool
 | 127=>zS q45 .bool
 | 99=>zS q45 q85 2
 | 128=>zS q45 .bool
 | 290=>zS (.pair q45 j2g) .bool
 | 10005=>zS d13 u06
 | 10004=>zS d13 .bool
 | 10003=>zS d13 .bool
 | 170=>zS (.pair s16 u06) .bool
 | 291=>zS (.pair .nil u06) q7x
 | 171=>zS j88 d0q
 | 230=>zS r3g .bool
 | 115=>zS p5j .bool
 | 35=>zS p5j q85 2
 | 125=>zS q45 .bool
 | 126=>zS p5j .bool
 | 40=>zS j5h .bool
 | 316=>zS (.pair o9o .str) o9o
 | 210=>zS .str o9o
 | 100=>zS .str q85 2
 | 30=>zS j5h q85 2
 | 101=>zS .str q85 2
 | 317=>zS o41 d0x 3
 | 211=>zS o41 (.pair .str j64) 3
 | 102=>zS s64 (.pair .str s64) 1 [true]
 | 103=>zS s64 (.pair .bool s64) 1 [true]
 | 213=>zS s64 (.pair u06 s64) 1 [true]
 | 215=>zS (.pair j69 r6z) (.pair j69 r6z) 0 [true,true]
 | 10015=>zS (.pair s64 d14) (.pair s64 (.clo 215 (.pair .skip r6z))) 0 [true,true]
 | 218=>zS (.pair p17 j69) (.pair p17 j69) 0 [true,true]
 | 10017=>zS (.pair s64 d15) (.pair s64 (.clo 218 (.pair p17 .skip))) 0 [true,true]
 | 219=>zS (.pair j69 p17) (.pair j69 p17) 0 [true,true]
 | 10018=>zS (.pair s64 d16) (.pair s64 (.clo 219 (.pair .skip p17))) 0 [true,true]
 | 105=>zS s64 (.pair j7w s64) 1 [true]
 | 216=>zS d07 d07 0 [true,true]
 | 10016=>zS (.pair s64 (.clo 216 j7u)) (.pair s64 (.clo 216 (.pair r6z .skip))) 0 [true,true]
 | 217=>zS d07 d07 0 [true,true]
 | 10019=>zS (.pair s64 (.clo 217 j7u)) (.pair s64 (.clo 217 (.pair r6z .skip))) 0 [true,true]
 | 104=>zS s64 (.pair o6k s64) 1 [true]
 | 31=>zS .str d4u 2
 | 60=>zS .unit o6k
 | 365=>zS j5j q85 2
 | 278=>zS (.pair q43 s0f) q85 2
 | 280=>zS u06 .bool
 | 279=>zS u06 u06
 | 282=>zS j5j u06
 | 281=>zS j5j u06
 | 162=>zS j5j d0y 3
 | 164=>zS q43 u06
 | 61=>zS q43 p5i
 | 168=>zS (.pair p5j (.pair q45 .str)) o6k
 | 62=>zS (.pair p5j j5h) d0w 2
 | 11=>zS q43 d0w 2
 | 163=>zS q43 .bool
 | 58=>zS q43 .bool
 | 59=>zS q43 j5m
 | 10=>zS q43 (.pair j89 .bool) 2
 | 176=>zS (.pair u06 (.pair (.rbox r3g) (.rbox r3g))) .bool
 | 294=>zS (.pair .nil u06) p5h
 | 177=>zS j9d p5h
 | 67=>zS (.pair r3g d01) .bool
 | 66=>zS j66 .bool
 | 10000=>zS (.pair s16 (.pair s16 (.clo 66 .unit))) .bool
 | 13=>zS (.pair p5j p5j) .bool
 | 63=>zS o9n .bool
 | 12=>zS d17 .bool
 | 28=>zS (.agg j61) .bool
 | 4=>zS j5k .bool
 | _=>zS .unit .unit 0
def j8g:Nat→Nat→Ht Join
 | 57,7=>some ⟨[15],.bool,[]⟩
 | 80,31=>some ⟨[49],.bool,[]⟩
 | 120,3=>some ⟨[6],.bool,[]⟩
 | 81,3=>some ⟨[29],.bool,[]⟩
 | 81,7=>some ⟨[2],.bool,[]⟩
 | 123,9=>some ⟨[19],.bool,[]⟩
 | 75,3=>some ⟨[2],.bool,[]⟩
 | 180,9=>some ⟨[33],.bool,[]⟩
 | 235,3=>some ⟨[2],.bool,[]⟩
 | 121,3=>some ⟨[31],.bool,[]⟩
 | 121,17=>some ⟨[67],.bool,[]⟩
 | 121,21=>some ⟨[86],.bool,[]⟩
 | 121,25=>some ⟨[2],.bool,[]⟩
 | 131,11=>some ⟨[39],.bool,[]⟩
 | 131,15=>some ⟨[74],.bool,[]⟩
 | 42,3=>some ⟨[38],.bool,[]⟩
 | 42,27=>some ⟨[98],.bool,[]⟩
 | 42,41=>some ⟨[146],.bool,[]⟩
 | 234,13=>some ⟨[25],.bool,[]⟩
 | 234,23=>some ⟨[54],.bool,[]⟩
 | 227,5=>some ⟨[30],.bool,[]⟩
 | 111,5=>some ⟨[26],.bool,[]⟩
 | 112,3=>some ⟨[30],.bool,[]⟩
 | 118,5=>some ⟨[26],.bool,[]⟩
 | 113,17=>some ⟨[46],.bool,[]⟩
 | 113,31=>some ⟨[76],.bool,[]⟩
 | 113,47=>some ⟨[108],.bool,[]⟩
 | 119,9=>some ⟨[28],.bool,[]⟩
 | 38,13=>some ⟨[37],.bool,[]⟩
 | 38,31=>some ⟨[72],.bool,[]⟩
 | 122,3=>some ⟨[2],.bool,[]⟩
 | 124,3=>some ⟨[2],.bool,[]⟩
 | 39,7=>some ⟨[3],.bool,[]⟩
 | 39,9=>some ⟨[54],.bool,[]⟩
 | 39,13=>some ⟨[77],.bool,[]⟩
 | 108,5=>some ⟨[24],.bool,[]⟩
 | 33,5=>some ⟨[20],.bool,[]⟩
 | 33,29=>some ⟨[66],.bool,[]⟩
 | 263,15=>some ⟨[28],.bool,[]⟩
 | 266,5=>some ⟨[18],.bool,[]⟩
 | 157,27=>some ⟨[52],.bool,[]⟩
 | 79,11=>some ⟨[47],.bool,[]⟩
 | 71,13=>some ⟨[38],.bool,[]⟩
 | 71,37=>some ⟨[90],.bool,[]⟩
 | 387,17=>some ⟨[72],.bool,[]⟩
 | 330,3=>some ⟨[4],.bool,[]⟩
 | 429,7=>some ⟨[31],.bool,[]⟩
 | 394,3=>some ⟨[4],.bool,[]⟩
 | 393,9=>some ⟨[25],.bool,[]⟩
 | 258,15=>some ⟨[36],.bool,[]⟩
 | 153,3=>some ⟨[16],.bool,[]⟩
 | 50,17=>some ⟨[39],.bool,[]⟩
 | 375,3=>some ⟨[15],.bool,[]⟩
 | 375,23=>some ⟨[58],.bool,[]⟩
 | 303,3=>some ⟨[24],.bool,[]⟩
 | 303,11=>some ⟨[2],.bool,[]⟩
 | 352,5=>some ⟨[33],.bool,[]⟩
 | 349,5=>some ⟨[37],.bool,[]⟩
 | 349,25=>some ⟨[77],.bool,[]⟩
 | 377,5=>some ⟨[35],.bool,[]⟩
 | 353,11=>some ⟨[27],.bool,[]⟩
 | 156,7=>some ⟨[24],.bool,[]⟩
 | 73,3=>some ⟨[16],.bool,[]⟩
 | 73,15=>some ⟨[68],.bool,[]⟩
 | 17,5=>some ⟨[23],.bool,[]⟩
 | 76,5=>some ⟨[21],.bool,[]⟩
 | 358,5=>some ⟨[22],.bool,[]⟩
 | 20,5=>some ⟨[21],.bool,[]⟩
 | 190,23=>some ⟨[71],.bool,[]⟩
 | 191,5=>some ⟨[17],.bool,[]⟩
 | 413,3=>some ⟨[17],.bool,[]⟩
 | 378,13=>some ⟨[29],.bool,[]⟩
 | 332,3=>some ⟨[2],.bool,[]⟩
 | 433,11=>some ⟨[45],.bool,[]⟩
 | 435,9=>some ⟨[33],.bool,[]⟩
 | 434,3=>some ⟨[16],.bool,[]⟩
 | 434,15=>some ⟨[43],.bool,[]⟩
 | 434,19=>some ⟨[56],.bool,[]⟩
 | 434,25=>some ⟨[70],.bool,[]⟩
 | 434,31=>some ⟨[91],.bool,[]⟩
 | 408,17=>some ⟨[33],.bool,[]⟩
 | 408,29=>some ⟨[64],.bool,[]⟩
 | 364,21=>some ⟨[52],.bool,[]⟩
 | 364,25=>some ⟨[61],.bool,[]⟩
 | 250,11=>some ⟨[26],.bool,[]⟩
 | 22,7=>some ⟨[19],.bool,[]⟩
 | 201,3=>some ⟨[4],.bool,[]⟩
 | 85,3=>some ⟨[19],.bool,[]⟩
 | 85,7=>some ⟨[4],.bool,[]⟩
 | 23,25=>some ⟨[8],.bool,[]⟩
 | 292,11=>some ⟨[40],.bool,[]⟩
 | 203,5=>some ⟨[21],.bool,[]⟩
 | 89,13=>some ⟨[31],.bool,[]⟩
 | 26,11=>some ⟨[33],.bool,[]⟩
 | 175,11=>some ⟨[31],.bool,[]⟩
 | 410,3=>some ⟨[4],.bool,[]⟩
 | 286,3=>some ⟨[4],.bool,[]⟩
 | 366,3=>some ⟨[3],.bool,[]⟩
 | 206,3=>some ⟨[2],.bool,[]⟩
 | 95,13=>some ⟨[27],.bool,[]⟩
 | 94,5=>some ⟨[3],.bool,[]⟩
 | 212,3=>some ⟨[6],.bool,[]⟩
 | 129,9=>some ⟨[19],.bool,[]⟩
 | 236,3=>some ⟨[2],.bool,[]⟩
 | 321,3=>some ⟨[2],.bool,[]⟩
 | 237,9=>some ⟨[29],.bool,[]⟩
 | 127,15=>some ⟨[52],.bool,[]⟩
 | 127,19=>some ⟨[74],.bool,[]⟩
 | 127,23=>some ⟨[2],.bool,[]⟩
 | 230,9=>some ⟨[50],.bool,[]⟩
 | 115,3=>some ⟨[36],.bool,[]⟩
 | 115,25=>some ⟨[88],.bool,[]⟩
 | 115,37=>some ⟨[128],.bool,[]⟩
 | 125,3=>some ⟨[2],.bool,[]⟩
 | 126,3=>some ⟨[2],.bool,[]⟩
 | 40,11=>some ⟨[3],.bool,[]⟩
 | 40,15=>some ⟨[3],.bool,[]⟩
 | 40,25=>some ⟨[2],.bool,[]⟩
 | 101,11=>some ⟨[26],.bool,[]⟩
 | 317,11=>some ⟨[26],.bool,[]⟩
 | 317,23=>some ⟨[57],.bool,[]⟩
 | 211,5=>some ⟨[30],.bool,[]⟩
 | 102,5=>some ⟨[26],.bool,[]⟩
 | 103,3=>some ⟨[32],.bool,[]⟩
 | 213,5=>some ⟨[26],.bool,[]⟩
 | 10015,5=>some ⟨[17],.bool,[]⟩
 | 10017,5=>some ⟨[17],.bool,[]⟩
 | 10018,5=>some ⟨[17],.bool,[]⟩
 | 10016,5=>some ⟨[17],.bool,[]⟩
 | 10019,5=>some ⟨[17],.bool,[]⟩
 | 31,5=>some ⟨[20],.bool,[]⟩
 | 31,29=>some ⟨[64],.bool,[]⟩
 | 280,3=>some ⟨[2],.bool,[]⟩
 | 282,5=>some ⟨[18],.bool,[]⟩
 | 162,5=>some ⟨[29],.bool,[]⟩
 | 162,21=>some ⟨[49],.bool,[]⟩
 | 62,3=>some ⟨[16],.bool,[]⟩
 | 62,23=>some ⟨[6],.bool,[]⟩
 | 62,33=>some ⟨[72],.bool,[]⟩
 | 62,41=>some ⟨[92],.bool,[]⟩
 | 11,15=>some ⟨[35],.bool,[]⟩
 | 163,21=>some ⟨[38],.bool,[]⟩
 | 163,27=>some ⟨[2],.bool,[]⟩
 | 58,7=>some ⟨[2],.bool,[]⟩
 | 10,5=>some ⟨[17],.bool,[]⟩
 | 66,7=>some ⟨[4],.bool,[]⟩
 | 63,13=>some ⟨[71],.bool,[]⟩
 | 12,5=>some ⟨[2],.bool,[]⟩
 | 28,5=>some ⟨[2],.bool,[]⟩
 | 4,13=>some ⟨[2],.bool,[]⟩
 | _,_=>none
abbrev r88:=zL [0,3,4] (.pair j5k s0f) 0 [0,3] (.pair j5k u06) [] .unit
abbrev s70:=zL [3,4,5,6,7] d4w 0 [5] j86 [] .unit
abbrev s5u:=zL [3,4,5,6,7,9,12,13] (.pair o9e (.pair u06 (.pair j86 (.pair u06 (.pair j2e (.pair u06 (.pair o9g u06))))))) 3 [3,4,5,6,12] d4w [] .unit
abbrev r5i:=zL [0,1,5,6] (.pair u06 (.pair (.int .u8) (.pair (.own true j6y) u06))) 0 [5] (.tr true j6y) [] .unit
abbrev r44:=zL [0,2,4,5] (.pair u06 d0r) 0 [2,4] d08 [] .unit
abbrev r5m:=zL [0,3,4] (.pair s16 j9a) 0 [3] q7x [] .unit
abbrev q3k:=zL [0,3] o41 0 [0] .str [2] .bool
abbrev r05:=zL [0,3] j65 0 [0] q84 [2] .bool
abbrev q3o:=zL [1,3] d0p 0 [1] q0g [2] .bool
abbrev s5s:=zL [0,3] d01 0 [0] r3g [2] .bool
abbrev r81:=zL [1,3] (.pair q86 u06) 0 [1] q86 [2] .bool
abbrev r4x:=zL [1,4,5] (.pair q86 (.pair o9g u06)) 2 [1,4] (.pair q86 o9g) [2] .bool
abbrev r4y:=zL [1,4,7] (.pair q86 (.pair o9g u06)) 4 [1,4] (.pair q86 j2e) [2] .bool
abbrev r4z:=zL [1,4,9] (.pair q86 (.pair j2e u06)) 6 [] .unit [2] .bool
abbrev r40:=zL [1,4,9,10] (.pair q86 (.pair j2e s0f)) 8 [1,4,9] (.pair q86 (.pair j2e u06)) [2] .bool
abbrev r89:=zL [0,3] d0s 0 [0,3] d0s [] .unit
abbrev r5a:=zL [0,1,7,8,9] (.pair .str (.pair u06 j5i)) 0 [] .unit [4,5,6] d0x
abbrev r49:=zL [4,7,8,9,10] d4x 0 [4,7,8] (.pair p17 (.pair s64 p17)) [] .unit
abbrev r0z:=zL [4,7,8,12,13] d4x 2 [4,7,8] (.pair p17 (.pair s64 p17)) [] .unit
abbrev s34:=zL [0,1,5,6,7] (.pair s64 (.pair u06 (.pair q7x s0f))) 0 [0,5] (.pair s64 q7x) [0,4] (.pair s64 q7x)
abbrev r0y:=zL [4,7,8,9,10] (.pair r6z (.pair s64 (.pair r6z s0f))) 0 [4,7,8] (.pair r6z (.pair s64 r6z)) [] .unit
abbrev r5c:=zL [0,1,5] d09 0 [0] o9o [] .unit
abbrev r5d:=zL [0,1,5,6] (.pair o9o (.pair .str s0f)) 2 [0,1,5] d09 [] .unit
abbrev r5h:=zL [1,4,5] (.pair q0g o41) 0 [1,4] (.pair q0g .str) [] .unit
abbrev r04:=zL [1,4,6] (.pair q0g o41) 2 [1,4] (.pair q0g .str) [] .unit
abbrev r5n:=zL [0,3,4] (.pair s16 o41) 0 [3] .str [] .unit
abbrev r0t:=zL [1,4,5] (.pair q86 o41) 0 [1,4] (.pair q86 .str) [] .unit
abbrev s5q:=zL [1,2,6] (.pair u06 (.pair o1t u06)) 0 [1,2] (.pair u06 o1t) [4,5] q85
abbrev s5r:=zL [1,2,3,8,9] (.pair u06 (.pair u06 (.pair o1t o41))) 0 [8] .str [6,7] q85
abbrev s7w:=zL [1,2,7,8,10,11,12] (.pair u06 (.pair o1t (.pair p5i (.pair .str (.pair p5i s0f))))) 0 [10,11] (.pair p5i u06) [4,5,6] d0y
abbrev r0v:=zL [1,5,6] o9m 0 [5] u06 [] .unit
abbrev q3p:=zL [0,1,2,7,8] (.pair r3g (.pair .str j5i)) 0 [7] u06 [] .unit
abbrev r5g:=zL [0,1,5,6] (.pair r3g (.pair u06 j9e)) 0 [1,5] (.pair u06 o7v) [] .unit
abbrev r02:=zL [1,5,8,9] (.pair u06 (.pair o7v j9e)) 2 [8] p5h [] .unit
abbrev r03:=zL [1,5,8,9,10,11] (.pair u06 (.pair o7v (.pair p5h j5i))) 4 [1,5,8,9,10] (.pair u06 (.pair o7v (.pair p5h s0f))) [] .unit
abbrev r87:=zL [2,4,5,6,7] (.pair q86 (.pair r6z (.pair r6z s0f))) 0 [2,4,5,6] (.pair q86 d11) [] .unit
abbrev r5b:=zL [1,2,5] (.pair .str (.pair q86 u06)) 0 [] .unit [4] u06
abbrev s31:=zL [1,2,7,8] (.pair q84 (.pair u06 j9e)) 0 [7] p5h [] .unit
abbrev s32:=zL [1,2,7,8,9,10,11] d4s 2 [1,2,7,8,9,10,11] d4s [] .unit
abbrev r5e:=zL [0,1,5] (.pair o6j j65) 0 [] .unit [4] .bool
abbrev r5f:=zL [0,1,5,6] (.pair o6j j4n) 2 [0,1,5] (.pair o6j j65) [4] .bool
abbrev q3n:=zL [1,2,5] j9b 0 [] .unit [4] .bool
abbrev r01:=zL [2,3,4,5,6,7] (.pair q86 (.pair q0g (.pair r6z (.pair r6z (.pair (.box (.pair u06 (.pair u06 (.pair u06 (.pair u06 (.pair j4o (.pair (.tr true u2g) (.pair .bool .str)))))))) u06))))) 0 [3,4,5] (.pair q0g j9c) [] .unit
abbrev r45:=zL [1,2,4,5,6] (.pair .str (.pair q86 d11)) 0 [4,5] j9c [] .unit
abbrev s7v:=zL [2,3,4,6,7,8,9] (.pair .str (.pair q86 (.pair q0g (.pair r6z (.pair r6z (.pair p17 u06)))))) 0 [2,3,4,6,7,8] (.pair .str (.pair q86 d4y)) [] .unit
abbrev s5p:=zL [2,3,4,6,7,10] (.pair .str (.pair q86 (.pair q0g d11))) 2 [4,6,7] (.pair q0g j9c) [] .unit
abbrev r48:=zL [2,4,5,6] (.pair r6z (.pair r6z (.pair j5l u06))) 0 [2,4] j9c [2,3] (.pair r6z .bool)
abbrev r83:=zL [1,3] (.pair o1t u06) 0 [1] o1t [2] .bool
abbrev r84:=zL [1,4] (.pair o1t u06) 2 [] .unit [2] .bool
abbrev s7u:=zL [1,2,3,4] (.pair o1t d0r) 0 [2,3] d08 [] .unit
abbrev s5t:=zL [1,2,3,4,8,10,11] (.pair u06 (.pair u06 (.pair .str (.pair o1t d0r)))) 0 [8,10] d08 [8,9] (.pair o9f .bool)
abbrev r5j:=zL [1,4,6,7,8,9] (.pair j2h (.pair o9f (.pair u06 (.pair o9f j7v)))) 0 [4,7,8] (.pair o9f (.pair o9f .bool)) [] .unit
abbrev r0u:=zL [1,3] (.pair j7a u06) 0 [] .unit [2] .bool
abbrev s7s:=zL [1,3,4,5] (.pair j7a d1a) 2 [1,3,4] (.pair j7a (.pair u06 q0g)) [2] .bool
abbrev s7t:=zL [1,3,4,6] (.pair j7a d1a) 4 [1,3] (.pair j7a u06) [2] .bool
abbrev r85:=zL [1,2,5] (.pair u06 (.pair j7a u06)) 0 [] .unit [4] u06
abbrev r0w:=zL [0,3,5,6] d4v 0 [0,3,5] (.pair q84 (.pair (.box j2p) (.own true u2g))) [] .unit
abbrev r0x:=zL [0,3,5,7] d4v 2 [5] (.own true u2g) [] .unit
abbrev s7x:=zL [2,3,4,6,7] (.pair q0g (.pair j2j (.pair p17 (.pair p17 u06)))) 0 [2,3,4,6] (.pair q0g (.pair j2j (.pair p17 p17))) [4,5] (.pair p17 .bool)
abbrev r86:=zL [1,2,3,8] (.pair r3g (.pair .str d0p)) 0 [1,2,3] (.pair r3g (.pair .str q0g)) [6,7] q85
abbrev r5k:=zL [0,3,5,6] (.pair r3g (.pair j2j (.pair p5i u06))) 0 [5] p5i [] .unit
abbrev r5l:=zL [0,3,5,6,7,8,9] d4r 2 [0,3,5,6,7,8] (.pair r3g (.pair j2j (.pair j5l (.pair u06 (.pair .str p5i))))) [] .unit
abbrev r06:=zL [0,3,5,6,7,8,10] d4r 4 [0,3,6,8] (.pair r3g (.pair j2j (.pair u06 p5i))) [] .unit
abbrev r46:=zL [1,3,5,7,8] (.pair r3g (.pair q0g (.pair j2j j9e))) 0 [1,3,5,7] (.pair r3g (.pair q0g (.pair j2j o7v))) [] .unit
abbrev r47:=zL [1,3,9,10,11] (.pair r3g (.pair q0g (.pair o4w (.pair j5l u06)))) 2 [9] o4w [] .unit
abbrev r43:=zL [0,3,4] (.pair u06 (.pair .bool .str)) 0 [3,4] (.pair .bool .str) [] .unit
abbrev r07:=zL [0,3,4] (.pair o6j o41) 0 [3] .str [] .unit
abbrev s7r:=zL [1,2,3,6,7,8,9] (.pair j2f (.pair u06 (.pair o1t (.pair o9f (.pair o9f s0f))))) 0 [1,2,3,6,7,8] (.pair j2f (.pair u06 (.pair o1t d0r))) [] .unit
abbrev s5o:=zL [1,3,6,7,8,10,11] (.pair j2f (.pair o1t (.pair o9f (.pair o9f j5i)))) 2 [6,7] d08 [] .unit
abbrev s7z:=zL [5,6,7] (.pair j5l (.pair j5l u06)) 0 [] .unit [4] .bool
abbrev r9a:=zL [0,1,4,5] (.pair (.box j63) (.pair u06 j9a)) 0 [0,4] (.pair (.box j63) q7x) [] .unit
abbrev q3l:=zL [0,1,5] (.pair q84 j65) 0 [] .unit [4] .bool
abbrev q3m:=zL [0,1,5,6] d1b 2 [0,1,5] (.pair q84 j65) [4] .bool
abbrev r41:=zL [1,2,5] j9b 0 [] .unit [4] .bool
abbrev q66:=zL [1,2,5] j9b 0 [] .unit [4] .bool
abbrev r82:=zL [1,2,5] j9b 0 [] .unit [4] .bool
abbrev r42:=zL [1,2,5,6,7] (.pair s16 (.pair q0g d1a)) 2 [1,2,5] j9b [4] .bool
abbrev s33:=zL [1,2,5,6] (.pair s16 (.pair q0g j7v)) 0 [] .unit [4] .bool
abbrev s2m:=zL [1,2,5,6,7,8] (.pair s16 (.pair q0g (.pair .bool d1a))) 2 [1,2,5,6] (.pair s16 (.pair q0g j7v)) [4] .bool
abbrev r00:=zL [0,2,4,5] (.pair d0t (.pair o1q j7v)) 0 [0,2,4] (.pair d0t (.pair o1q .bool)) [] .unit
abbrev s7y:=zL [0,2,6,7] (.pair d0t (.pair o1q (.pair o1q u06))) 2 [2,6] (.pair o1q o1q) [] .unit
abbrev t8y:=zL [0,1,7,8] (.pair j2f j5i) 0 [] .unit [4] u06
abbrev r4s:=zL [1,9,10,11] (.pair q84 j67) 0 [] .unit [4] .bool
abbrev r4t:=zL [1,6,9,10,11,15,16,17] (.pair q84 (.pair j2j (.pair o6j (.pair u06 (.pair u06 j4n))))) 2 [1,9,10,11] (.pair q84 j67) [4] .bool
abbrev q3h:=zL [1,9,10,11] d1b 0 [] .unit [4] .bool
abbrev q3i:=zL [1,6,9,10,11,15,16,17] (.pair q84 (.pair (.box j2p) (.pair q84 (.pair u06 (.pair u06 j4n))))) 2 [1,9,10,11] d1b [4] .bool
abbrev s3y:=zL [0,4] (.pair s16 o9g) 0 [4] o9g [2,3] (.pair o9g .bool)
abbrev s3z:=zL [0,4,5,16,17,18] (.pair s16 (.pair o9g (.pair .bool o9m))) 2 [0,4,5] (.pair s16 (.pair o9g .bool)) [] .unit
abbrev s2j:=zL [0,4,5,6,7,8,16,17,18,26,27,28] (.pair s16 (.pair o9g (.pair .bool (.pair u06 (.pair q0g (.pair .bool (.pair s16 (.pair u06 d1c)))))))) 4 [0,4,5,6,8,16,17,18] (.pair s16 (.pair o9g (.pair .bool (.pair u06 (.pair .bool o9m))))) [] .unit
abbrev u2p:=zL [0,1,7,8] (.pair r3g (.pair (.clo 198 (.rbox j62)) s0f)) 0 [] .unit [4] u06
abbrev s3x:=zL [2,7,14,15,16] (.pair u06 (.pair p5h j4n)) 0 [7] p5h [] .unit
abbrev t5w:=zL [0,1,12,13] (.pair o6j j67) 0 [] .unit [4] .bool
abbrev r8y:=zL [3,5,8,9,10] (.pair j2j (.pair o4w j67)) 0 [5] o4w [] .unit
abbrev r8z:=zL [3,6,7,8] (.pair p5i j68) 0 [3] p5i [] .unit
abbrev r80:=zL [0,1,2,7,10,11,12] (.pair r3g (.pair .str (.pair u06 (.pair u06 j68)))) 0 [7] u06 [] .unit
abbrev r8x:=zL [0,2,4,7,13,14,15] (.pair r3g (.pair u06 (.pair j2j (.pair o4w (.pair j5l s0f))))) 0 [7] o4w [] .unit
abbrev r4m:=zL [5,16,17,18] (.pair o4w j4n) 0 [5] o4w [] .unit
abbrev r4n:=zL [5,7,8,16,17,18,22,23,24] (.pair j4o d4t) 2 [5,7,8,16,17,18] (.pair j4o (.pair (.box j2p) (.pair o4w j4n))) [] .unit
abbrev r0l:=zL [7,8,16,17,18,49,50,51] d4t 4 [8,16,17,18] (.pair o4w j4n) [] .unit
abbrev s30:=zL [0,3,5,21,22,23] (.pair s16 (.pair j2e (.pair o7v o9m))) 0 [0,3,5] (.pair s16 (.pair j2e o7v)) [] .unit
abbrev s2k:=zL [0,5,8,34,35,36] (.pair s16 (.pair o7v (.pair j4o (.pair j2e s0f)))) 2 [] .unit [2] .bool
abbrev s2l:=zL [0,5,8,11,34,35,36,45,46,47] (.pair s16 (.pair o7v (.pair j4o (.pair q0g (.pair j2e (.pair u06 (.pair u06 j67))))))) 4 [0,5,8,11,34,35,36] (.pair s16 (.pair o7v (.pair j4o (.pair q0g (.pair j2e s0f))))) [2] .bool
abbrev s7n:=zL [1,3,8,9,10] (.pair (.box j61) (.pair j4o o9m)) 0 [1,3] (.pair (.box j61) j4o) [2] .bool
abbrev r0r:=zL [3,6,7,8] (.pair q7x o9m) 0 [3] q7x [] .unit
abbrev r0k:=zL [5,10,11,12] d1c 0 [5] u06 [] .unit
abbrev s7o:=zL [0,4,7,8,9] (.pair .str (.pair u06 j68)) 0 [4] u06 [] .unit
abbrev r4u:=zL [0,1,5,12,13,14] (.pair r3g (.pair u06 (.pair (.box p5h) j68))) 0 [1,5] (.pair u06 (.box p5h)) [] .unit
abbrev r0o:=zL [1,8,9,38,39,40] (.pair u06 (.pair (.clo 293 (.rbox o7v)) (.pair p5h (.pair o7v s0f)))) 2 [9] p5h [] .unit
abbrev u4p:=zL [0,1,7,8] (.pair s16 (.pair d0u s0f)) 0 [] .unit [4] u06
abbrev u4c:=zL [0,1,5,6] (.pair q7x (.pair d0u s0f)) 0 [0,5] j9a [] .unit
abbrev u40:=zL [0,1,7,8] (.pair s16 (.pair (.clo 366 j2g) s0f)) 0 [] .unit [4] u06
abbrev u4f:=zL [0,1,7,8] (.pair s16 (.pair (.clo 285 j2g) s0f)) 0 [] .unit [4] u06
abbrev u3y:=zL [0,1,5,6] (.pair q7x (.pair (.clo 285 j2g) s0f)) 0 [0,5] j9a [] .unit
abbrev r4r:LoopA:=⟨⟨[3,4,5,6,46,47,48],(.pair q0g (.pair r6z (.pair r6z (.pair p17 (.pair .skip s0f))))),[(46,5,2,u0a)]⟩,0,⟨[3,4,5,6],d4y,[]⟩,⟨[],.unit,[]⟩⟩
abbrev u4e:=zL [0,1,7,8] (.pair s16 (.pair (.clo 288 (.rbox .str)) s0f)) 0 [] .unit [4] u06
abbrev u4d:=zL [0,1,7,8] (.pair s16 (.pair d0v s0f)) 0 [] .unit [4] u06
abbrev u3x:=zL [0,1,5,6] (.pair q7x (.pair d0v s0f)) 0 [0,5] j9a [] .unit
abbrev u3j:=zL [0,1,7,8] (.pair s16 (.pair (.clo 94 d0l) s0f)) 0 [] .unit [4] u06
abbrev r4w:=zL [0,4] d0s 0 [0,4] d0s [] .unit
abbrev s7q:=zL [0,8,9,10] (.pair p84 (.pair j2h s0f)) 0 [0] p84 [] .unit
abbrev r0s:=zL [0,8,9,10] (.pair p84 (.pair j2f s0f)) 0 [0] p84 [] .unit
abbrev q3g:=zL [0,3] o41 0 [0] .str [2] .bool
abbrev r0q:=zL [0,5,6,7] d1b 0 [0] q84 [2] .bool
abbrev q3j:=zL [1,6,7,8] (.pair q0g j67) 0 [1] q0g [2] .bool
abbrev r4v:=zL [1,4,29,30,31] (.pair q0g (.pair p84 j67)) 0 [1,4] (.pair q0g p84) [] .unit
abbrev r0p:=zL [1,4,50,51,52] (.pair q0g (.pair p84 j4n)) 2 [1,4] (.pair q0g p84) [] .unit
abbrev u3r:=zL [0,1,7,8] (.pair s16 (.pair (.clo 290 j2g) s0f)) 0 [] .unit [4] u06
abbrev s7p:=zL [0,1,7,8,9] (.pair s16 d1c) 0 [] .unit [4] .bool
abbrev t5v:=zL [0,3,9,10,11] (.pair j88 (.pair u06 d1d)) 0 [0,3] (.pair j88 u06) [] .unit
abbrev t34:=zL [6,25,26,27] (.pair d0q d1d) 2 [6] d0q [] .unit
abbrev s5n:=zL [0,5,6,7] (.pair r3g j68) 0 [0] r3g [2] .bool
abbrev r8u:=zL [1,38,39,40] (.pair q86 j68) 0 [1] q86 [2] .bool
abbrev r4j:=zL [1,51,52,53] (.pair q86 o9m) 2 [1] q86 [2] .bool
abbrev r4k:=zL [1,91,92,93] (.pair q86 o9m) 4 [1] q86 [2] .bool
abbrev r0i:=zL [1,4,29,30,31] (.pair q86 (.pair p84 j68)) 0 [1,4] (.pair q86 p84) [] .unit
abbrev s7k:=zL [4,56,57,58] (.pair p84 d1d) 2 [4] p84 [] .unit
abbrev s7l:=zL [4,56,57,58,67,68,69] (.pair p84 (.pair j88 (.pair u06 d1c))) 4 [4,56,57,58] (.pair p84 d1d) [] .unit
abbrev r4p:=zL [0,1,5] d09 0 [0] o9o [] .unit
abbrev r4q:=zL [0,1,5,6] (.pair o9o (.pair .str s0f)) 2 [0,1,5] d09 [] .unit
abbrev r4o:=zL [0,1,7,8] (.pair .str j5i) 0 [] .unit [4,5,6] d0x
abbrev u5q:=zL [0,1,4,5] (.pair s64 (.pair d14 s0f)) 0 [0,1] (.pair s64 d14) [] .unit
abbrev u56:=zL [0,1,4,5] (.pair s64 (.pair d15 s0f)) 0 [0,1] (.pair s64 d15) [] .unit
abbrev u57:=zL [0,1,4,5] (.pair s64 (.pair d16 s0f)) 0 [0,1] (.pair s64 d16) [] .unit
abbrev u5r:=zL [0,1,4,5] (.pair s64 (.pair (.clo 216 j7u) s0f)) 0 [0,1] (.pair s64 (.clo 216 j7u)) [] .unit
abbrev u5s:=zL [0,1,4,5] (.pair s64 (.pair (.clo 217 j7u) s0f)) 0 [0,1] (.pair s64 (.clo 217 j7u)) [] .unit
abbrev s5l:=zL [1,6,22,23,24] (.pair u06 (.pair .str (.pair (.tr false r67) s0f))) 0 [6] .str [] .unit
abbrev s5m:=zL [1,2,3,8,9] (.pair u06 (.pair u06 (.pair o1t (.pair (.own true j6y) u06)))) 0 [8] (.tr true j6y) [6,7] q85
abbrev r0m:=zL [1,2,7,9,10,11] (.pair u06 (.pair o1t (.pair .str (.pair p5i s0f)))) 0 [9,10] (.pair p5i u06) [4,5,6] d0y
abbrev s7m:LoopA:=⟨⟨[2,4,6,7,8,9,10,30,31,32],(.pair .str (.pair q0g (.pair r6z (.pair r6z (.pair p17 (.pair q7x (.pair q7x (.pair .skip s0f)))))))),[(30,7,2,u0a)]⟩,0,⟨[4,6,7,8,9,10],(.pair q0g (.pair r6z (.pair r6z (.pair p17 (.pair q7x (.tr true u0a)))))),[]⟩,⟨[],.unit,[]⟩⟩
abbrev r4l:=zL [2,4,13,14,15] (.pair r6z (.pair r6z (.pair j5l s0f))) 0 [2,4] j9c [2,3] (.pair r6z .bool)
abbrev r8v:=zL [1,8,9,10] (.pair o1t (.pair j2h s0f)) 0 [1] o1t [2] .bool
abbrev r8w:=zL [1,19,20,21] (.pair o1t (.pair (.tr false r67) s0f)) 2 [1] o1t [2] .bool
abbrev u96:=zL [0,3,9,10,11] (.pair j9d (.pair u06 (.pair j9d s0f))) 0 [0,3] (.pair j9d u06) [] .unit
abbrev u9q:=zL [6,25,26,27] (.pair p5h (.pair j9d s0f)) 2 [6] p5h [] .unit
abbrev r0n:=zL [2,7,14,15,16] (.pair u06 (.pair d4z (.pair o7v s0f))) 0 [2,7] (.pair u06 d4z) [6] .bool
abbrev u4o:=zL [1,2,15,16,17] (.pair s16 (.pair (.clo 66 .unit) o9m)) 0 [] .unit [6] .bool
abbrev r0j:=zL [1,33,34,35] (.pair j7a o9m) 0 [] .unit [2] .bool
def j8l:Nat→Nat→Ht LoopA
 | 57,3=>some r88
 | 80,8=>some s70
 | 80,34=>some s5u
 | 320,3=>some r5i
 | 356,5=>some r44
 | 178,3=>some r5m
 | 123,2=>some q3k
 | 180,2=>some r05
 | 121,4=>some q3o
 | 131,2=>some s5s
 | 42,4=>some r81
 | 42,10=>some r4x
 | 42,17=>some r4y
 | 42,24=>some r4z
 | 42,27=>some r40
 | 232,2=>some r89
 | 234,6=>some r5a
 | 113,8=>some r49
 | 113,15=>some r0z
 | 119,4=>some s34
 | 38,6=>some r0y
 | 318,2=>some r5c
 | 318,6=>some r5d
 | 223,5=>some r5h
 | 223,10=>some r04
 | 233,3=>some r5n
 | 117,5=>some r0t
 | 355,4=>some s5q
 | 263,5=>some s5r
 | 157,10=>some s7w
 | 69,3=>some r0v
 | 79,3=>some q3p
 | 71,3=>some r5g
 | 71,10=>some r02
 | 71,14=>some r03
 | 14,5=>some r87
 | 307,2=>some r5b
 | 387,3=>some s31
 | 387,8=>some s32
 | 427,2=>some r5e
 | 427,5=>some r5f
 | 393,2=>some q3n
 | 333,12=>some r01
 | 334,4=>some r45
 | 346,8=>some s7v
 | 346,14=>some s5p
 | 50,4=>some r48
 | 375,4=>some r83
 | 375,9=>some r84
 | 351,5=>some s7u
 | 349,5=>some s5t
 | 353,5=>some r5j
 | 73,4=>some r0u
 | 73,10=>some s7s
 | 73,15=>some s7t
 | 74,2=>some r85
 | 179,3=>some r0w
 | 179,9=>some r0x
 | 358,5=>some s7x
 | 359,2=>some r86
 | 331,3=>some r5k
 | 331,9=>some r5l
 | 331,15=>some r06
 | 360,3=>some r46
 | 360,9=>some r47
 | 301,5=>some r43
 | 302,3=>some r07
 | 378,6=>some s7r
 | 378,14=>some s5o
 | 305,6=>some s7z
 | 363,2=>some r9a
 | 428,2=>some q3l
 | 428,5=>some q3m
 | 433,2=>some r41
 | 435,2=>some q66
 | 434,4=>some r82
 | 434,12=>some r42
 | 408,5=>some s33
 | 408,12=>some s2m
 | 22,3=>some r00
 | 22,10=>some s7y
 | 194,2=>some t8y
 | 195,2=>some r4s
 | 195,5=>some r4t
 | 196,2=>some q3h
 | 196,5=>some q3i
 | 23,2=>some s3y
 | 23,5=>some s3z
 | 23,10=>some s2j
 | 10006,2=>some u2p
 | 86,3=>some s3x
 | 87,4=>some t5w
 | 88,3=>some r8y
 | 202,3=>some r8z
 | 292,3=>some r80
 | 89,3=>some r8x
 | 90,3=>some r4m
 | 90,7=>some r4n
 | 90,15=>some r0l
 | 24,6=>some s30
 | 24,12=>some s2k
 | 24,16=>some s2l
 | 26,3=>some s7n
 | 283,3=>some r0r
 | 172,3=>some r0k
 | 293,3=>some s7o
 | 175,3=>some r4u
 | 175,11=>some r0o
 | 10002,2=>some u4p
 | 10001,5=>some u4c
 | 10009,2=>some u40
 | 10011,2=>some u4f
 | 10010,5=>some u3y
 | 166,9=>some r4r
 | 10012,2=>some u4e
 | 10014,2=>some u4d
 | 10013,5=>some u3x
 | 10022,2=>some u3j
 | 231,4=>some r4w
 | 97,1=>some s7q
 | 116,1=>some r0s
 | 129,2=>some q3g
 | 237,2=>some r0q
 | 127,2=>some q3j
 | 99,6=>some r4v
 | 99,12=>some r0p
 | 10005,2=>some u3r
 | 170,2=>some s7p
 | 171,3=>some t5v
 | 171,11=>some t34
 | 230,2=>some s5n
 | 115,4=>some r8u
 | 115,10=>some r4j
 | 115,16=>some r4k
 | 35,6=>some r0i
 | 35,13=>some s7k
 | 35,17=>some s7l
 | 316,2=>some r4p
 | 316,6=>some r4q
 | 317,5=>some r4o
 | 10015,2=>some u5q
 | 10017,2=>some u56
 | 10018,2=>some u57
 | 10016,2=>some u5r
 | 10019,2=>some u5s
 | 365,5=>some s5l
 | 278,5=>some s5m
 | 162,7=>some r0m
 | 168,6=>some s7m
 | 11,3=>some r4l
 | 163,2=>some r8v
 | 163,8=>some r8w
 | 177,3=>some u96
 | 177,11=>some u9q
 | 67,3=>some r0n
 | 10000,4=>some u4o
 | 63,4=>some r0j
 | _,_=>none
def d47:Nat→Nat
 | 10000=>65
 | 10001=>173
 | 10002=>287
 | 10003=>93
 | 10004=>204
 | 10005=>287
 | 10006=>197
 | 10007=>93
 | 10008=>204
 | 10009=>287
 | 10010=>173
 | 10011=>287
 | 10012=>287
 | 10013=>173
 | 10014=>287
 | 10015=>214
 | 10016=>214
 | 10017=>214
 | 10018=>214
 | 10019=>214
 | 10020=>93
 | 10021=>204
 | 10022=>287
 | f=>f
def j8s:Nat→Hu Nat→Nat
 | 65, [66] =>10000
 | 173, [174] =>10001
 | 287, [174] =>10002
 | 93, [290] =>10003
 | 204, [290] =>10004
 | 287, [290] =>10005
 | 197, [198] =>10006
 | 93, [366] =>10007
 | 204, [366] =>10008
 | 287, [366] =>10009
 | 173, [285] =>10010
 | 287, [285] =>10011
 | 287, [288] =>10012
 | 173, [289] =>10013
 | 287, [289] =>10014
 | 214, [215] =>10015
 | 214, [216] =>10016
 | 214, [218] =>10017
 | 214, [219] =>10018
 | 214, [217] =>10019
 | 93, [94] =>10020
 | 204, [94] =>10021
 | 287, [94] =>10022
 | f,_=>f
def j1i:(f:Nat)→Ht ((j6o f).ins.den→Ht (j6o f).out.den)
 | 200=>some (y2q u0h)
 | 312=>some (y7a)
 | 313=>some (y0m)
 | _=>none
def j42:Plan:= {sig:=j6o,join:=j8g,loop:=j8l,fn:=d47,pick:=j8s,prim:=j1i,gd:=y8a}
def A:Ann:=ann d4p j42
set_option maxRecDepth 100000
abbrev q42:Type:=(Hu u0a.den)
abbrev s63:Type:=(Hs×Bool)
abbrev q08:Type:=(Hu u0h.den)
abbrev q09:Type:=(Hu Int)
abbrev r6y:Type:=(Unit⊕Bool)
abbrev p0k:Type:=(Hu Hs)
abbrev o4v:Type:=(Hs×Int)
abbrev o6i:Type:=(Hu s4z.den)
abbrev p5l:Type:=(Unit⊕Int)
abbrev o7t:Type:=(Hu u2g.den)
abbrev j47:Type:=(Hs×Hs)
abbrev j6z:Type:=(Int×Bool)
abbrev q44:Type:=(Hs×j6z)
abbrev o7u:Type:=(Int⊕Unit)
abbrev j48:Type:=(Hu s0o.den)
abbrev j60:Type:=(Int×Int)
abbrev o9d:Type:=(q09×j60)
abbrev j2o:Type:=(q08⊕Unit)
abbrev j99:Type:=((p0k×Int)⊕(p0k×j6z))
abbrev j7l:Type:=(Hs⊕Unit)
abbrev j49:Type:=(q09⊕Unit)
abbrev j5a:Type:=(u7f⊕Bool)
abbrev j5b:Type:=(o6i⊕Unit)
abbrev d0a:Type:=(Int×(Hs×j60))
abbrev j5c:Type:=(q09×Int)
abbrev j5d:Type:=(Int×j60)
abbrev j5e:Type:=(Int×q09)
abbrev j5f:Type:=(Int×j6z)
abbrev j5g:Type:=(Int×o4v)
abbrev d0b:Type:=((Int×q08)⊕Unit)
abbrev j7m:Type:=(j78⊕Unit)
abbrev j7n:Type:=(q42⊕Unit)
abbrev j7o:Type:=(t0r⊕Bool)
abbrev j7p:Type:=(j2y⊕Unit)
abbrev j7q:Type:=(q09×Bool)
abbrev d0c:Type:=(Hs⊕Bool)
abbrev j7r:Type:=(Int×o9d)
abbrev d0d:Type:=(Hs×s63)
abbrev j7s:Type:=(q08×Int)
abbrev d0e:Type:=(Bool×Hs)
abbrev d0f:Type:=(Int×Hs)
abbrev zLv:=y5x Tryz.prog A
abbrev zK (f:Nat) (x:(A.sig f).ins.den):=zLv.call f x
theorem zC (f:Nat) {fn:Func} {X:(A.sig f).ins.den→Ht (A.sig f).out.den} (hp:A.prim f=none) (hf:Tryz.prog.funcs[A.fn f]? =some fn) (hb:z7s A zLv lpW f fn=X):zK f=X:=funext (y7p hp hf (congrFun hb))
theorem zW (l:LoopA) (f:Nat) (fn:Func) (r n:Nat) {S:(l.head.sh.den→Ht (l.out.sh.den⊕l.ret.sh.den))→l.head.sh.den→Ht (l.out.sh.den⊕l.ret.sh.den)} (x:l.head.sh.den) (h:S=z7n A zLv lpW f (y7w fn r) l n):lpW _ _ S x=S (lpW _ _ S) x:=y7x h x
def p8k(x:q09):Ht Bool:=zK 8 x
def p71 (x:q09):Ht Bool:=some (decide ((x.length:Int)>(1048576:Int)))
theorem o8j:p8k=p71:=zC 8 rfl Tryz.func8 (by kernel_rfl)
def r3a(x:q09):Ht o9d:=zK 57 x
def t3p(g:o9d→Ht (j5c⊕Unit))(x:o9d):Ht (j5c⊕Unit):=((cond (decide (x.2.2<(x.1.length:Int))) (some (decide (x.2.2<4000))) (some false)):Ht Bool).bind fun j1=>cond j1 (cond (y4q x.2.2 x.1.length) (g (x.1,IntKind.i64.wrap ((BitVec.ofInt IntKind.i64.bits (IntKind.i64.wrap ((IntKind.i64.wrap ((IntKind.i64.wrap (x.2.1*131))+(IntKind.i64.wrap (rdL (Ty.int .u8) x.1 x.2.2.toNat))))+7))&&&BitVec.ofInt IntKind.i64.bits (1073741823:Int)).toNat:Int),IntKind.i64.wrap (x.2.2+1))) none) (some (.inl (x.1,x.2.1)))
def t3y:=lpW _ _ t3p
theorem s60 x:t3y x=t3p t3y x:=zW r88 57 Tryz.f57 3 32 x (by kernel_rfl)
def q57 (x:q09):Ht o9d:=(t3y (x,IntKind.i64.wrap ((77601:Int)+(x.length:Int)),0)).bind fun r2=>match r2 with | .inl o3=>some (o3.1,0,o3.2) | .inr z4=>none
theorem o0r:r3a=q57:=zC 57 rfl Tryz.func57 (by kernel_rfl)
def u8p(x:o9d):Ht j7r:=zK 220 x
def q2k (x:o9d):Ht j7r:=cond (decide (x.2.1<(x.1.length:Int))) (cond (y4q x.2.1 x.1.length) (some (IntKind.i64.wrap ((BitVec.ofInt IntKind.i64.bits (IntKind.i64.wrap ((IntKind.i64.wrap ((BitVec.ofInt IntKind.i64.bits (IntKind.i64.wrap ((BitVec.ofInt IntKind.i64.bits (Int.fdiv (IntKind.i64.wrap ((IntKind.i64.wrap (x.2.2*6364136223846793005))+1442695040888963407)) (2^(min (33:Int).toNat IntKind.i64.bits)))^^^BitVec.ofInt IntKind.i64.bits (Int.fdiv (IntKind.i64.wrap ((IntKind.i64.wrap (x.2.2*6364136223846793005))+1442695040888963407)) (2^(min (45:Int).toNat IntKind.i64.bits)))).toNat:Int))&&&BitVec.ofInt IntKind.i64.bits (255:Int)).toNat:Int))+(IntKind.i64.wrap (rdL (Ty.int .u8) x.1 x.2.1.toNat))))&&&BitVec.ofInt IntKind.i64.bits (255:Int)).toNat:Int),x.1,IntKind.i64.wrap (x.2.1+1),IntKind.i64.wrap ((IntKind.i64.wrap (x.2.2*6364136223846793005))+1442695040888963407))) none) (some (IntKind.i64.wrap ((BitVec.ofInt IntKind.i64.bits (IntKind.i64.wrap ((BitVec.ofInt IntKind.i64.bits (Int.fdiv (IntKind.i64.wrap ((IntKind.i64.wrap (x.2.2*6364136223846793005))+1442695040888963407)) (2^(min (33:Int).toNat IntKind.i64.bits)))^^^BitVec.ofInt IntKind.i64.bits (Int.fdiv (IntKind.i64.wrap ((IntKind.i64.wrap (x.2.2*6364136223846793005))+1442695040888963407)) (2^(min (45:Int).toNat IntKind.i64.bits)))).toNat:Int))&&&BitVec.ofInt IntKind.i64.bits (255:Int)).toNat:Int),x.1,x.2.1,IntKind.i64.wrap ((IntKind.i64.wrap (x.2.2*6364136223846793005))+1442695040888963407)))
theorem p61:u8p=q2k:=zC 220 rfl Tryz.func220 (by kernel_rfl)
def u2w(x:(o9d×Int)):Ht j7r:=zK 106 x
def r8d (x:(o9d×Int)):Ht j7r:=cond (decide (x.2≤0)) (some (0,x.1)) (cond (decide (x.2≤256)) ((u8p x.1).bind fun y1=>cond (!decide (x.2=0)) (some (Int.tmod y1.1 x.2,y1.2)) none) ((u8p x.1).bind fun y2=>(u8p y2.2).bind fun y3=>(u8p y3.2).bind fun y4=>(u8p y4.2).bind fun y5=>cond (!decide (x.2=0)) (some (Int.tmod (IntKind.i64.wrap ((IntKind.i64.wrap ((IntKind.i64.wrap ((IntKind.i64.wrap (y2.1*16777216))+(IntKind.i64.wrap (y3.1*65536))))+(IntKind.i64.wrap (y4.1*256))))+y5.1)) x.2,y5.2)) none))
theorem p30:u2w=r8d:=zC 106 rfl Tryz.func106 (by kernel_rfl)
def u1x(x:d4c):Ht d4j:=zK 187 x
def q2n (x:d4c):Ht d4j:=(u2w (x.1,(x.2.length:Int))).bind fun y1=>cond (y4q y1.1 x.2.length) (some (rdL Ty.str x.2 y1.1.toNat,y1.2)) none
theorem p64:u1x=q2n:=zC 187 rfl Tryz.func187 (by kernel_rfl)
def t5q(x:d4i):Ht j7r:=zK 188 x
def s97 (x:d4i):Ht j7r:=(u2w (x.1,(x.2.length:Int))).bind fun y1=>cond (y4q y1.1 x.2.length) (some (rdL (Ty.int .i64) x.2 y1.1.toNat,y1.2)) none
theorem q8q:t5q=s97:=zC 188 rfl Tryz.func188 (by kernel_rfl)
def s12(x:(o9d×Int)):Ht (Bool×o9d):=zK 189 x
def q2m (x:(o9d×Int)):Ht (Bool×o9d):=(u2w x).bind fun y1=>some (decide (y1.1=0),y1.2)
theorem p63:s12=q2m:=zC 189 rfl Tryz.func189 (by kernel_rfl)
def r5o(x:q09):Ht j48:=zK 80 x
def t0k(g:d2q→Ht (j9m⊕Unit))(x:d2q):Ht (j9m⊕Unit):=cond (decide (x.2.2.2.2.2.2.2<(x.2.2.2.2.1.length:Int))) (cond (y4q x.2.2.2.2.2.2.2 x.2.2.2.2.1.length) (cond (!decide ((rdL (Ty.int .i64) x.2.2.2.2.1 x.2.2.2.2.2.2.2.toNat)=x.2.2.2.2.2.1)) (cond (y4q x.2.2.2.2.2.2.2 x.2.2.2.2.1.length) (cond (Nat.ble (x.2.2.2.2.2.2.1.length+([(rdL (Ty.int .i64) x.2.2.2.2.1 x.2.2.2.2.2.2.2.toNat)]:Hu Int).length) z7w) (g (x.1,x.2.1,x.2.2.1,x.2.2.2.1,x.2.2.2.2.1,x.2.2.2.2.2.1,x.2.2.2.2.2.2.1++([(rdL (Ty.int .i64) x.2.2.2.2.1 x.2.2.2.2.2.2.2.toNat)]:Hu Int),IntKind.i64.wrap (x.2.2.2.2.2.2.2+1))) none) none) (g (x.1,x.2.1,x.2.2.1,x.2.2.2.1,x.2.2.2.2.1,x.2.2.2.2.2.1,x.2.2.2.2.2.2.1,IntKind.i64.wrap (x.2.2.2.2.2.2.2+1)))) none) (some (.inl (x.1,x.2.1,x.2.2.1,x.2.2.2.1,x.2.2.2.2.2.2.1)))
def u2j:=lpW _ _ t0k
theorem s61 x:u2j x=t0k u2j x:=zW s5u 80 Tryz.f80 34 189 x (by kernel_rfl)
def t22(g:j9m→Ht (j48⊕Unit))(x:j9m):Ht (j48⊕Unit):=cond (decide ((x.2.2.1.length:Int)<x.2.1)) ((u2w (x.1,18)).bind fun y2=>cond (decide ((x.2.2.2.2.length:Int)>(0:Int))) ((u2w (y2.2,(x.2.2.2.2.length:Int))).bind fun y3=>cond (y4q y3.1 x.2.2.2.2.length) ((u1x (y3.2,([(⟨#[97]⟩:Hs),(⟨#[98]⟩:Hs),(⟨#[99]⟩:Hs)]:Hu Hs))).bind fun y4=>((cond (decide ((x.2.2.2.2.length:Int)=(0:Int))) (some true) (cond (decide (y2.1<3)) (some (decide ((x.2.2.2.2.length:Int)<(4:Int)))) (some false))):Ht Bool).bind fun j5=>cond j5 (cond (Nat.ble (x.2.2.1.length+([(1,0,(⟨#[]⟩:Hs),(⟨#[]⟩:Hs),([]:Hu Int))]:Hu s0o.den).length) z7w) (cond (Nat.ble (([]:Hu Int).length+x.2.2.2.2.length) z7w) (cond (Nat.ble ((([]:Hu Int)++x.2.2.2.2).length+([x.2.2.2.1]:Hu Int).length) z7w) (g (y4.2,x.2.1,x.2.2.1++([(1,0,(⟨#[]⟩:Hs),(⟨#[]⟩:Hs),([]:Hu Int))]:Hu s0o.den),IntKind.i64.wrap (x.2.2.2.1+1),(([]:Hu Int)++x.2.2.2.2)++([x.2.2.2.1]:Hu Int))) none) none) none) (cond (decide (y2.1<6)) (cond (Nat.ble (x.2.2.1.length+([(2,rdL (Ty.int .i64) x.2.2.2.2 y3.1.toNat,y4.1,(⟨#[]⟩:Hs),([]:Hu Int))]:Hu s0o.den).length) z7w) (g (y4.2,x.2.1,x.2.2.1++([(2,rdL (Ty.int .i64) x.2.2.2.2 y3.1.toNat,y4.1,(⟨#[]⟩:Hs),([]:Hu Int))]:Hu s0o.den),x.2.2.2)) none) (cond (decide (y2.1=6)) (cond (Nat.ble (x.2.2.1.length+([(3,rdL (Ty.int .i64) x.2.2.2.2 y3.1.toNat,(⟨#[97]⟩:Hs),y4.1,([]:Hu Int))]:Hu s0o.den).length) z7w) (g (y4.2,x.2.1,x.2.2.1++([(3,rdL (Ty.int .i64) x.2.2.2.2 y3.1.toNat,(⟨#[97]⟩:Hs),y4.1,([]:Hu Int))]:Hu s0o.den),x.2.2.2)) none) (cond (decide (y2.1<10)) ((u1x (y4.2,([(⟨#[111,110,101]⟩:Hs),(⟨#[116,119,111]⟩:Hs),(⟨#[116,104,114,101,101]⟩:Hs)]:Hu Hs))).bind fun y6=>cond (Nat.ble (x.2.2.1.length+([(4,rdL (Ty.int .i64) x.2.2.2.2 y3.1.toNat,y4.1,y6.1,([]:Hu Int))]:Hu s0o.den).length) z7w) (g (y6.2,x.2.1,x.2.2.1++([(4,rdL (Ty.int .i64) x.2.2.2.2 y3.1.toNat,y4.1,y6.1,([]:Hu Int))]:Hu s0o.den),x.2.2.2)) none) (cond (decide (y2.1=10)) (cond (Nat.ble (x.2.2.1.length+([(5,rdL (Ty.int .i64) x.2.2.2.2 y3.1.toNat,y4.1,(⟨#[]⟩:Hs),([]:Hu Int))]:Hu s0o.den).length) z7w) (g (y4.2,x.2.1,x.2.2.1++([(5,rdL (Ty.int .i64) x.2.2.2.2 y3.1.toNat,y4.1,(⟨#[]⟩:Hs),([]:Hu Int))]:Hu s0o.den),x.2.2.2)) none) (cond (decide (y2.1<14)) (cond (decide (y2.1=13)) ((u1x (y4.2,([(⟨#[112]⟩:Hs),(⟨#[113]⟩:Hs),(⟨#[114]⟩:Hs)]:Hu Hs))).bind fun y7=>cond (Nat.ble (x.2.2.1.length+([(8,rdL (Ty.int .i64) x.2.2.2.2 y3.1.toNat,y7.1,(⟨#[]⟩:Hs),([]:Hu Int))]:Hu s0o.den).length) z7w) ((u2j (y7.2,x.2.1,x.2.2.1++([(8,rdL (Ty.int .i64) x.2.2.2.2 y3.1.toNat,y7.1,(⟨#[]⟩:Hs),([]:Hu Int))]:Hu s0o.den),x.2.2.2.1,x.2.2.2.2,rdL (Ty.int .i64) x.2.2.2.2 y3.1.toNat,([]:Hu Int),0)).bind fun r8=>match r8 with | .inl o9=>g o9 | .inr z10=>some (.inr ())) none) ((u1x (y4.2,([(⟨#[112]⟩:Hs),(⟨#[113]⟩:Hs),(⟨#[114]⟩:Hs)]:Hu Hs))).bind fun y11=>cond (Nat.ble (x.2.2.1.length+([(6,rdL (Ty.int .i64) x.2.2.2.2 y3.1.toNat,y11.1,(⟨#[]⟩:Hs),([]:Hu Int))]:Hu s0o.den).length) z7w) ((u2j (y11.2,x.2.1,x.2.2.1++([(6,rdL (Ty.int .i64) x.2.2.2.2 y3.1.toNat,y11.1,(⟨#[]⟩:Hs),([]:Hu Int))]:Hu s0o.den),x.2.2.2.1,x.2.2.2.2,rdL (Ty.int .i64) x.2.2.2.2 y3.1.toNat,([]:Hu Int),0)).bind fun r12=>match r12 with | .inl o13=>g o13 | .inr z14=>some (.inr ())) none)) (cond (decide (y2.1=14)) ((t5q (y4.2,([(9:Int),10,(9:Int)]:Hu Int))).bind fun y15=>(u1x (y15.2,([(⟨#[112]⟩:Hs),(⟨#[113]⟩:Hs),(⟨#[114]⟩:Hs)]:Hu Hs))).bind fun y16=>cond (Nat.ble (x.2.2.1.length+([(y15.1,0,y16.1,(⟨#[]⟩:Hs),([]:Hu Int))]:Hu s0o.den).length) z7w) (g (y16.2,x.2.1,x.2.2.1++([(y15.1,0,y16.1,(⟨#[]⟩:Hs),([]:Hu Int))]:Hu s0o.den),x.2.2.2)) none) (cond (decide (y2.1=15)) (cond (Nat.ble (x.2.2.1.length+([(11,0,(⟨#[]⟩:Hs),(⟨#[]⟩:Hs),([]:Hu Int))]:Hu s0o.den).length) z7w) (g (y4.2,x.2.1,x.2.2.1++([(11,0,(⟨#[]⟩:Hs),(⟨#[]⟩:Hs),([]:Hu Int))]:Hu s0o.den),x.2.2.2)) none) (cond (decide (y2.1=16)) ((s12 (y4.2,3)).bind fun y17=>cond y17.1 ((u2w (y17.2,70)).bind fun y18=>(u2w (y18.2,2)).bind fun y19=>cond (Nat.ble (x.2.2.1.length+([(12,y18.1,(⟨#[]⟩:Hs),(⟨#[]⟩:Hs),([(1:Int),y19.1]:Hu Int))]:Hu s0o.den).length) z7w) (g (y19.2,x.2.1,x.2.2.1++([(12,y18.1,(⟨#[]⟩:Hs),(⟨#[]⟩:Hs),([(1:Int),y19.1]:Hu Int))]:Hu s0o.den),x.2.2.2.1,([]:Hu Int))) none) (cond (Nat.ble (x.2.2.1.length+([(7,rdL (Ty.int .i64) x.2.2.2.2 y3.1.toNat,(⟨#[]⟩:Hs),(⟨#[]⟩:Hs),([]:Hu Int))]:Hu s0o.den).length) z7w) (g (y17.2,x.2.1,x.2.2.1++([(7,rdL (Ty.int .i64) x.2.2.2.2 y3.1.toNat,(⟨#[]⟩:Hs),(⟨#[]⟩:Hs),([]:Hu Int))]:Hu s0o.den),x.2.2.2)) none)) (cond (Nat.ble (x.2.2.1.length+([(2,99,y4.1,(⟨#[]⟩:Hs),([]:Hu Int))]:Hu s0o.den).length) z7w) (g (y4.2,x.2.1,x.2.2.1++([(2,99,y4.1,(⟨#[]⟩:Hs),([]:Hu Int))]:Hu s0o.den),x.2.2.2)) none)))))))))) none) ((u1x (y2.2,([(⟨#[97]⟩:Hs),(⟨#[98]⟩:Hs),(⟨#[99]⟩:Hs)]:Hu Hs))).bind fun y20=>((cond (decide ((x.2.2.2.2.length:Int)=(0:Int))) (some true) (cond (decide (y2.1<3)) (some (decide ((x.2.2.2.2.length:Int)<(4:Int)))) (some false))):Ht Bool).bind fun j21=>cond j21 (cond (Nat.ble (x.2.2.1.length+([(1,0,(⟨#[]⟩:Hs),(⟨#[]⟩:Hs),([]:Hu Int))]:Hu s0o.den).length) z7w) (cond (Nat.ble (([]:Hu Int).length+x.2.2.2.2.length) z7w) (cond (Nat.ble ((([]:Hu Int)++x.2.2.2.2).length+([x.2.2.2.1]:Hu Int).length) z7w) (g (y20.2,x.2.1,x.2.2.1++([(1,0,(⟨#[]⟩:Hs),(⟨#[]⟩:Hs),([]:Hu Int))]:Hu s0o.den),IntKind.i64.wrap (x.2.2.2.1+1),(([]:Hu Int)++x.2.2.2.2)++([x.2.2.2.1]:Hu Int))) none) none) none) (cond (decide (y2.1<6)) (cond (Nat.ble (x.2.2.1.length+([(2,x.2.2.2.1,y20.1,(⟨#[]⟩:Hs),([]:Hu Int))]:Hu s0o.den).length) z7w) (g (y20.2,x.2.1,x.2.2.1++([(2,x.2.2.2.1,y20.1,(⟨#[]⟩:Hs),([]:Hu Int))]:Hu s0o.den),x.2.2.2)) none) (cond (decide (y2.1=6)) (cond (Nat.ble (x.2.2.1.length+([(3,x.2.2.2.1,(⟨#[97]⟩:Hs),y20.1,([]:Hu Int))]:Hu s0o.den).length) z7w) (g (y20.2,x.2.1,x.2.2.1++([(3,x.2.2.2.1,(⟨#[97]⟩:Hs),y20.1,([]:Hu Int))]:Hu s0o.den),x.2.2.2)) none) (cond (decide (y2.1<10)) ((u1x (y20.2,([(⟨#[111,110,101]⟩:Hs),(⟨#[116,119,111]⟩:Hs),(⟨#[116,104,114,101,101]⟩:Hs)]:Hu Hs))).bind fun y22=>cond (Nat.ble (x.2.2.1.length+([(4,x.2.2.2.1,y20.1,y22.1,([]:Hu Int))]:Hu s0o.den).length) z7w) (g (y22.2,x.2.1,x.2.2.1++([(4,x.2.2.2.1,y20.1,y22.1,([]:Hu Int))]:Hu s0o.den),x.2.2.2)) none) (cond (decide (y2.1=10)) (cond (Nat.ble (x.2.2.1.length+([(5,x.2.2.2.1,y20.1,(⟨#[]⟩:Hs),([]:Hu Int))]:Hu s0o.den).length) z7w) (g (y20.2,x.2.1,x.2.2.1++([(5,x.2.2.2.1,y20.1,(⟨#[]⟩:Hs),([]:Hu Int))]:Hu s0o.den),x.2.2.2)) none) (cond (decide (y2.1<14)) (cond (decide (y2.1=13)) ((u1x (y20.2,([(⟨#[112]⟩:Hs),(⟨#[113]⟩:Hs),(⟨#[114]⟩:Hs)]:Hu Hs))).bind fun y23=>cond (Nat.ble (x.2.2.1.length+([(8,x.2.2.2.1,y23.1,(⟨#[]⟩:Hs),([]:Hu Int))]:Hu s0o.den).length) z7w) ((u2j (y23.2,x.2.1,x.2.2.1++([(8,x.2.2.2.1,y23.1,(⟨#[]⟩:Hs),([]:Hu Int))]:Hu s0o.den),x.2.2.2.1,x.2.2.2.2,x.2.2.2.1,([]:Hu Int),0)).bind fun r24=>match r24 with | .inl o25=>g o25 | .inr z26=>some (.inr ())) none) ((u1x (y20.2,([(⟨#[112]⟩:Hs),(⟨#[113]⟩:Hs),(⟨#[114]⟩:Hs)]:Hu Hs))).bind fun y27=>cond (Nat.ble (x.2.2.1.length+([(6,x.2.2.2.1,y27.1,(⟨#[]⟩:Hs),([]:Hu Int))]:Hu s0o.den).length) z7w) ((u2j (y27.2,x.2.1,x.2.2.1++([(6,x.2.2.2.1,y27.1,(⟨#[]⟩:Hs),([]:Hu Int))]:Hu s0o.den),x.2.2.2.1,x.2.2.2.2,x.2.2.2.1,([]:Hu Int),0)).bind fun r28=>match r28 with | .inl o29=>g o29 | .inr z30=>some (.inr ())) none)) (cond (decide (y2.1=14)) ((t5q (y20.2,([(9:Int),10,(9:Int)]:Hu Int))).bind fun y31=>(u1x (y31.2,([(⟨#[112]⟩:Hs),(⟨#[113]⟩:Hs),(⟨#[114]⟩:Hs)]:Hu Hs))).bind fun y32=>cond (Nat.ble (x.2.2.1.length+([(y31.1,0,y32.1,(⟨#[]⟩:Hs),([]:Hu Int))]:Hu s0o.den).length) z7w) (g (y32.2,x.2.1,x.2.2.1++([(y31.1,0,y32.1,(⟨#[]⟩:Hs),([]:Hu Int))]:Hu s0o.den),x.2.2.2)) none) (cond (decide (y2.1=15)) (cond (Nat.ble (x.2.2.1.length+([(11,0,(⟨#[]⟩:Hs),(⟨#[]⟩:Hs),([]:Hu Int))]:Hu s0o.den).length) z7w) (g (y20.2,x.2.1,x.2.2.1++([(11,0,(⟨#[]⟩:Hs),(⟨#[]⟩:Hs),([]:Hu Int))]:Hu s0o.den),x.2.2.2)) none) (cond (decide (y2.1=16)) ((s12 (y20.2,3)).bind fun y33=>cond y33.1 ((u2w (y33.2,70)).bind fun y34=>(u2w (y34.2,2)).bind fun y35=>cond (Nat.ble (x.2.2.1.length+([(12,y34.1,(⟨#[]⟩:Hs),(⟨#[]⟩:Hs),([(1:Int),y35.1]:Hu Int))]:Hu s0o.den).length) z7w) (g (y35.2,x.2.1,x.2.2.1++([(12,y34.1,(⟨#[]⟩:Hs),(⟨#[]⟩:Hs),([(1:Int),y35.1]:Hu Int))]:Hu s0o.den),x.2.2.2.1,([]:Hu Int))) none) (cond (Nat.ble (x.2.2.1.length+([(7,x.2.2.2.1,(⟨#[]⟩:Hs),(⟨#[]⟩:Hs),([]:Hu Int))]:Hu s0o.den).length) z7w) (g (y33.2,x.2.1,x.2.2.1++([(7,x.2.2.2.1,(⟨#[]⟩:Hs),(⟨#[]⟩:Hs),([]:Hu Int))]:Hu s0o.den),x.2.2.2)) none)) (cond (Nat.ble (x.2.2.1.length+([(2,99,y20.1,(⟨#[]⟩:Hs),([]:Hu Int))]:Hu s0o.den).length) z7w) (g (y20.2,x.2.1,x.2.2.1++([(2,99,y20.1,(⟨#[]⟩:Hs),([]:Hu Int))]:Hu s0o.den),x.2.2.2)) none))))))))))) (some (.inl x.2.2.1))
def u29:=lpW _ _ t22
theorem s8t x:u29 x=t22 u29 x:=zW s70 80 Tryz.f80 8 189 x (by kernel_rfl)
def r4i (x:q09):Ht j48:=(r3a x).bind fun y1=>cond (decide ((IntKind.i64.wrap ((16:Int)+(IntKind.i64.wrap (Int.tdiv (x.length:Int) (3:Int)))))>74)) ((u29 (y1,74,([]:Hu s0o.den),1,([]:Hu Int))).bind fun r36=>match r36 with | .inl o37=>some o37 | .inr z38=>none) ((u29 (y1,IntKind.i64.wrap ((16:Int)+(IntKind.i64.wrap (Int.tdiv (x.length:Int) (3:Int)))),([]:Hu s0o.den),1,([]:Hu Int))).bind fun r73=>match r73 with | .inl o74=>some o74 | .inr z75=>none)
theorem p1r:r5o=r4i:=zC 80 rfl Tryz.func80 (by kernel_rfl)
def s0y(x:q09):Ht j48:=zK 21 x
def s90 (x:q09):Ht j48:=(r5o x).bind fun y1=>some y1
theorem q8j:s0y=s90:=zC 21 rfl Tryz.func21 (by kernel_rfl)
def u0r(x:j5d):Ht Bool:=zK 120 x
def r8e (x:j5d):Ht Bool:=((cond (decide (x.1≥x.2.1)) (some (decide (x.1≤x.2.2))) (some false)):Ht Bool).bind fun j1=>some j1
theorem q93:u0r=r8e:=zC 120 rfl Tryz.func120 (by kernel_rfl)
def s9c(x:j9s):Ht Bool:=zK 81 x
def q14 (x:j9s):Ht Bool:=(((u0r (x.1,1,12)).bind fun y1=>cond (!y1) (some true) (cond (decide (x.2.1<0)) (some true) (cond (decide ((x.2.2.1.size:Int)>(6:Int))) (some true) (cond (decide ((x.2.2.2.1.size:Int)>(20:Int))) (some true) (some (decide ((x.2.2.2.2.length:Int)>(10:Int)))))))):Ht Bool).bind fun j2=>cond j2 (some false) (((cond (decide (x.1=12)) (some true) (some (decide ((x.2.2.2.2.length:Int)=(0:Int))))):Ht Bool).bind fun j3=>some j3)
theorem p6l:s9c=q14:=zC 81 rfl Tryz.func81 (by kernel_rfl)
def s89(x:Unit):Ht u7f:=zK 152 x
def q1z (x:Unit):Ht u7f:=some (([]:Hu u0h.den),([]:Hu u0a.den),([]:Hu u0a.den),0,1)
theorem q29:s89=q1z:=zC 152 rfl Tryz.func152 (by kernel_rfl)
def s3c(x:Unit):Ht Z84:=zK 267 x
def r34 (x:Unit):Ht Z84:=(s89 ()).bind fun y1=>some (y1,([]:Hu u0a.den))
theorem p1e:s3c=r34:=zC 267 rfl Tryz.func267 (by kernel_rfl)
def q3u(x:j60):Ht Hs:=zK 320 x
def s21(g:(Int×(Int×j5c))→Ht j49)(x:(Int×(Int×j5c))):Ht j49:=cond (decide (x.2.2.2<x.1)) (cond (y4q x.2.2.2 x.2.2.1.length) (g (x.1,x.2.1,x.2.2.1.set x.2.2.2.toNat x.2.1,IntKind.i64.wrap (x.2.2.2+1))) none) (some (.inl x.2.2.1))
def t1r:=lpW _ _ s21
theorem r6k x:t1r x=s21 t1r x:=zW r5i 320 Tryz.f320 3 20 x (by kernel_rfl)
def q2l (x:j60):Ht Hs:=cond (decide (0≤x.1)&&decide (x.1≤1099511627776)) ((t1r (x.1,x.2,List.replicate x.1.toNat (Ty.int .u8).zero,0)).bind fun r1=>match r1 with | .inl o2=>some (y7g o2) | .inr z3=>none) none
theorem p62:q3u=q2l:=zC 320 rfl Tryz.func320 (by kernel_rfl)
def s9i(x:Unit):Ht Hs:=zK 406 x
def q2q (x:Unit):Ht Hs:=(q3u (64,0)).bind fun y1=>some y1
theorem p66:s9i=q2q:=zC 406 rfl Tryz.func406 (by kernel_rfl)
def q3t(x:Int):Ht q72:=zK 356 x
def s20(g:d24→Ht j7m)(x:d24):Ht j7m:=cond (decide (x.2.2.2<x.1)) ((s9i ()).bind fun y2=>cond (Nat.ble (x.2.2.1.1.length+([y2]:Hu Hs).length) z7w) (g (x.1,x.2.1,(x.2.2.1.1++([y2]:Hu Hs),x.2.2.1.2),IntKind.i64.wrap (x.2.2.2+1))) none) (some (.inl (x.2.1,x.2.2.1)))
def t1j:=lpW _ _ s20
theorem r57 x:t1j x=s20 t1j x:=zW r44 356 Tryz.f356 5 23 x (by kernel_rfl)
def q13 (x:Int):Ht q72:=(u0r (x,1,100)).bind fun y1=>cond (!y1) (some ((([]:Hu Hs),([]:Hu r67.den)),false)) ((t1j (x,(([]:Hu Hs),([]:Hu r67.den)),(([]:Hu Hs),([]:Hu r67.den)),0)).bind fun r3=>match r3 with | .inl o4=>some (o4.2,true) | .inr z5=>none)
theorem p6k:q3t=q13:=zC 356 rfl Tryz.func356 (by kernel_rfl)
def u9x(x:Unit):Ht Int:=zK 357 x
def q71 (x:Unit):Ht Int:=some (97:Int)
theorem r0f:u9x=q71:=zC 357 rfl Tryz.func357 (by kernel_rfl)
def r26(x:Unit):Ht t0r:=zK 268 x
def q5z (x:Unit):Ht t0r:=(u9x ()).bind fun y1=>(q3t y1).bind fun y2=>some y2.1
theorem o0j:r26=q5z:=zC 268 rfl Tryz.func268 (by kernel_rfl)
def s6i(x:Unit):Ht Z60:=zK 160 x
def r77 (x:Unit):Ht Z60:=(s3c ()).bind fun y1=>(r26 ()).bind fun y2=>some (y1,y2)
theorem p3v:s6i=r77:=zC 160 rfl Tryz.func160 (by kernel_rfl)
def s6k(x:Unit):Ht Z39:=zK 82 x
def r8a (x:Unit):Ht Z39:=(s6i ()).bind fun y1=>some (y1,([]:Hu u0a.den),([]:Hu Int),([]:Hu Hs))
theorem p3x:s6k=r8a:=zC 82 rfl Tryz.func82 (by kernel_rfl)
def u02(x:u87):Ht u87:=zK 70 x
def s8w (x:u87):Ht u87:=cond (Nat.ble (([]:Hu s4z.den).length+x.2.2.2.2.1.length) z7w) (cond (Nat.ble (([]:Hu u2g.den).length+x.2.2.2.2.2.1.length) z7w) (some (x.1,x.2.1,x.2.2.1,x.2.2.2.1,([]:Hu s4z.den)++x.2.2.2.2.1,([]:Hu u2g.den)++x.2.2.2.2.2.1,x.2.2.2.2.2.2)) none) none
theorem q3b:u02=s8w:=zC 70 rfl Tryz.func70 (by kernel_rfl)
def t6r(x:q42):Ht q42:=zK 178 x
def t7r(g:d3c→Ht j7n)(x:d3c):Ht j7n:=cond (decide (x.2.2<(x.1.length:Int))) (cond (y4q x.2.2 x.1.length) ((u02 (rdL u0a x.1 x.2.2.toNat)).bind fun y1=>cond (Nat.ble (x.2.1.length+([y1]:Hu u0a.den).length) z7w) (g (x.1,x.2.1++([y1]:Hu u0a.den),IntKind.i64.wrap (x.2.2+1))) none) none) (some (.inl x.2.1))
def t76:=lpW _ _ t7r
theorem r6n x:t76 x=t7r t76 x:=zW r5m 178 Tryz.f178 3 21 x (by kernel_rfl)
def q2w (x:q42):Ht q42:=(t76 (x,([]:Hu u0a.den),0)).bind fun r2=>match r2 with | .inl o3=>some o3 | .inr z4=>none
theorem p7c:t6r=q2w:=zC 178 rfl Tryz.func178 (by kernel_rfl)
def u3o(x:u7f):Ht u7f:=zK 68 x
def q2v (x:u7f):Ht u7f:=cond (Nat.ble (([]:Hu u0h.den).length+x.1.length) z7w) ((t6r x.2.1).bind fun y1=>(t6r x.2.2.1).bind fun y2=>some (([]:Hu u0h.den)++x.1,y1,y2,x.2.2.2)) none
theorem p7b:u3o=q2v:=zC 68 rfl Tryz.func68 (by kernel_rfl)
def u0p(x:Z84):Ht Z84:=zK 72 x
def q2z (x:Z84):Ht Z84:=(u3o x.1).bind fun y1=>(t6r x.2).bind fun y2=>some (y1,y2)
theorem p7f:u0p=q2z:=zC 72 rfl Tryz.func72 (by kernel_rfl)
def u0u(x:t0r):Ht t0r:=zK 261 x
def q2p (x:t0r):Ht t0r:=cond (Nat.ble (([]:Hu Hs).length+x.1.length) z7w) (cond (Nat.ble (([]:Hu r67.den).length+x.2.length) z7w) (some (([]:Hu Hs)++x.1,([]:Hu r67.den)++x.2)) none) none
theorem p65:u0u=q2p:=zC 261 rfl Tryz.func261 (by kernel_rfl)
def s9n(x:Z60):Ht Z60:=zK 155 x
def q21 (x:Z60):Ht Z60:=(u0p x.1).bind fun y1=>(u0u x.2).bind fun y2=>some (y1,y2)
theorem p7h:s9n=q21:=zC 155 rfl Tryz.func155 (by kernel_rfl)
def u64(x:Hs):Ht Bool:=zK 123 x
def s1c(g:o4v→Ht d0c)(x:o4v):Ht d0c:=cond (decide (x.2<(x.1.size:Int))) (((cond (y4q x.2 x.1.size) (cond (decide (((x.1.data.toList.getD x.2.toNat 0).toNat:Int)<(97:Int))) (some true) (cond (y4q x.2 x.1.size) (some (decide (((x.1.data.toList.getD x.2.toNat 0).toNat:Int)>(122:Int)))) none)) none):Ht Bool).bind fun j1=>cond j1 (some (.inr false)) (g (x.1,IntKind.i64.wrap (x.2+1)))) (some (.inl x.1))
def s1l:=lpW _ _ s1c
theorem q33 x:s1l x=s1c s1l x:=zW q3k 123 Tryz.f123 2 23 x (by kernel_rfl)
def q9r (x:Hs):Ht Bool:=(s1l (x,0)).bind fun r2=>match r2 with | .inl o3=>((u0r ((o3.size:Int),1,3)).bind fun y4=>some y4) | .inr z5=>some z5
theorem o3b:u64=q9r:=zC 123 rfl Tryz.func123 (by kernel_rfl)
def t6p(x:d0d):Ht Bool:=zK 75 x
def q2j (x:d0d):Ht Bool:=(((u64 x.1).bind fun y1=>cond y1 (cond (decide ((x.2.1.size:Int)≤(12:Int))) (cond (!x.2.2) (some true) (some (z7o x.2.1 (⟨#[]⟩:Hs)))) (some false)) (some false)):Ht Bool).bind fun j2=>some j2
theorem p60:t6p=q2j:=zC 75 rfl Tryz.func75 (by kernel_rfl)
def t96(x:o7t):Ht Bool:=zK 180 x
def t42(g:(o7t×Int)→Ht (o7t⊕Bool))(x:(o7t×Int)):Ht (o7t⊕Bool):=cond (decide (x.2<(x.1.length:Int))) (((cond (y4q x.2 x.1.length) ((t6p (rdL u2g x.1 x.2.toNat)).bind fun y1=>cond (!y1) (some true) (cond (decide (x.2>0)) (cond (y4q (IntKind.i64.wrap (x.2 - 1)) x.1.length) (cond (y4q x.2 x.1.length) (some (!y3c (rdL u2g x.1 (IntKind.i64.wrap (x.2 - 1)).toNat).1 (rdL u2g x.1 x.2.toNat).1)) none) none) (some false))) none):Ht Bool).bind fun j2=>cond j2 (some (.inr false)) (g (x.1,IntKind.i64.wrap (x.2+1)))) (some (.inl x.1))
def t5i:=lpW _ _ t42
theorem r2b x:t5i x=t42 t5i x:=zW r05 180 Tryz.f180 2 37 x (by kernel_rfl)
def r8c (x:o7t):Ht Bool:=(t5i (x,0)).bind fun r3=>match r3 with | .inl o4=>some (decide ((o4.length:Int)≤(8:Int))) | .inr z5=>some z5
theorem p3z:t96=r8c:=zC 180 rfl Tryz.func180 (by kernel_rfl)
def t6o(x:j47):Ht Bool:=zK 235 x
def q2a (x:j47):Ht Bool:=(((u64 x.1).bind fun y1=>cond y1 ((u64 x.2).bind fun y2=>cond y2 (some (y3c x.1 x.2||z7o x.1 x.2)) (some false)) (some false)):Ht Bool).bind fun j3=>some j3
theorem p6r:t6o=q2a:=zC 235 rfl Tryz.func235 (by kernel_rfl)
def u66(x:u87):Ht Bool:=zK 121 x
def s1g(g:j0b→Ht (u87⊕Bool))(x:j0b):Ht (u87⊕Bool):=cond (decide (x.2<(x.1.2.2.2.2.1.length:Int))) (cond (y4q x.2 x.1.2.2.2.2.1.length) ((t6o (rdL s4z x.1.2.2.2.2.1 x.2.toNat)).bind fun y6=>cond (!y6) (some (.inr false)) (g (x.1,IntKind.i64.wrap (x.2+1)))) none) (some (.inl x.1))
def s1o:=lpW _ _ s1g
theorem q37 x:s1o x=s1g s1o x:=zW q3o 121 Tryz.f121 4 95 x (by kernel_rfl)
def q9w (x:u87):Ht Bool:=(((u0r (x.1,1,9999)).bind fun y1=>cond (!y1) (some true) ((u0r (x.2.1,1,3)).bind fun y2=>cond (!y2) (some true) ((u0r (x.2.2.1,0,9999)).bind fun y3=>cond (!y3) (some true) (cond (decide ((x.2.2.2.2.1.length:Int)>(8:Int))) (some true) ((t96 x.2.2.2.2.2.1).bind fun y4=>some (!y4)))))):Ht Bool).bind fun j5=>cond j5 (some false) ((s1o (x,0)).bind fun r7=>match r7 with | .inl o8=>(((cond (decide (o8.2.1=3)) ((u0r (o8.2.2.2.1,IntKind.i64.wrap (o8.2.2.1+1),9999)).bind fun y9=>cond (!y9) (some true) (cond (!decide (o8.2.1=3)) (some (!decide (o8.2.2.2.1=0))) (some false))) (cond (!decide (o8.2.1=3)) (some (!decide (o8.2.2.2.1=0))) (some false))):Ht Bool).bind fun j10=>cond j10 (some false) (((cond (decide (o8.2.1=2)) ((u64 o8.2.2.2.2.2.2.2).bind fun y11=>cond (!y11) (some true) (cond (!decide (o8.2.1=2)) (some (!z7o o8.2.2.2.2.2.2.2 (⟨#[]⟩:Hs))) (some false))) (cond (!decide (o8.2.1=2)) (some (!z7o o8.2.2.2.2.2.2.2 (⟨#[]⟩:Hs))) (some false))):Ht Bool).bind fun j12=>cond j12 (some false) (((cond (!decide (o8.2.1=1)) (some true) (some (!o8.2.2.2.2.2.2.1))):Ht Bool).bind fun j13=>some j13))) | .inr z14=>some z14)
theorem o3g:u66=q9w:=zC 121 rfl Tryz.func121 (by kernel_rfl)
def s01(x:q08):Ht Bool:=zK 131 x
def t0j(g:j7s→Ht (q08⊕Bool))(x:j7s):Ht (q08⊕Bool):=cond (decide (x.2<(x.1.length:Int))) (cond (y4q x.2 x.1.length) ((((u64 (rdL u0h x.1 x.2.toNat).1).bind fun y1=>cond (!y1) (some true) (cond (decide (((rdL u0h x.1 x.2.toNat).2.1.size:Int)>(12:Int))) (some true) (cond (rdL u0h x.1 x.2.toNat).2.2.1 (cond (!z7o (rdL u0h x.1 x.2.toNat).2.1 (⟨#[]⟩:Hs)) (some true) ((u0r ((rdL u0h x.1 x.2.toNat).2.2.2,1,9999)).bind fun y2=>some (!y2))) ((u0r ((rdL u0h x.1 x.2.toNat).2.2.2,1,9999)).bind fun y3=>some (!y3))))):Ht Bool).bind fun j4=>cond j4 (some (.inr false)) (((cond (decide (x.2>0)) (cond (y4q (IntKind.i64.wrap (x.2 - 1)) x.1.length) (cond (!(y3c (rdL u0h x.1 (IntKind.i64.wrap (x.2 - 1)).toNat).1 (rdL u0h x.1 x.2.toNat).1||z7o (rdL u0h x.1 (IntKind.i64.wrap (x.2 - 1)).toNat).1 (rdL u0h x.1 x.2.toNat).1)) (some true) (cond (y4q (IntKind.i64.wrap (x.2 - 1)) x.1.length) (cond (z7o (rdL u0h x.1 (IntKind.i64.wrap (x.2 - 1)).toNat).1 (rdL u0h x.1 x.2.toNat).1) (cond (y4q (IntKind.i64.wrap (x.2 - 1)) x.1.length) (some (decide ((rdL u0h x.1 (IntKind.i64.wrap (x.2 - 1)).toNat).2.2.2≥(rdL u0h x.1 x.2.toNat).2.2.2))) none) (some false)) none)) none) (some false)):Ht Bool).bind fun j5=>cond j5 (some (.inr false)) (g (x.1,IntKind.i64.wrap (x.2+1))))) none) (some (.inl x.1))
def t0q:=lpW _ _ t0j
theorem s6z x:t0q x=t0j t0q x:=zW s5s 131 Tryz.f131 2 78 x (by kernel_rfl)
def s95 (x:q08):Ht Bool:=(t0q (x,0)).bind fun r6=>match r6 with | .inl o7=>some (decide ((o7.length:Int)≤(120:Int))) | .inr z8=>some z8
theorem q8o:s01=s95:=zC 131 rfl Tryz.func131 (by kernel_rfl)
def u8h(x:u7f):Ht Bool:=zK 42 x
def t9c(g:j77→Ht j5a)(x:j77):Ht j5a:=cond (decide (x.2<(x.1.1.length:Int))) (cond (y4q x.2 x.1.1.length) (cond (decide ((rdL u0h x.1.1 x.2.toNat).2.2.2>x.1.2.2.2.1)) (some (.inr false)) (g (x.1,IntKind.i64.wrap (x.2+1)))) none) (some (.inl x.1))
def t3u:=lpW _ _ t9c
theorem r98 x:t3u x=t9c t3u x:=zW r81 42 Tryz.f42 4 179 x (by kernel_rfl)
def t69(g:Z98→Ht (j7d⊕Bool))(x:Z98):Ht (j7d⊕Bool):=cond (decide (x.2.2<(x.1.2.1.length:Int))) (cond (y4q x.2.2 x.1.2.1.length) ((((u66 (rdL u0a x.1.2.1 x.2.2.toNat)).bind fun y7=>cond (!y7) (some true) (cond (!decide ((rdL u0a x.1.2.1 x.2.2.toNat).2.1=3)) (some true) (cond (decide ((rdL u0a x.1.2.1 x.2.2.toNat).2.2.2.1>x.1.2.2.2.1)) (some true) (cond (decide (x.2.2>0)) (cond (y4q (IntKind.i64.wrap (x.2.2 - 1)) x.1.2.1.length) (some (decide ((rdL u0a x.1.2.1 (IntKind.i64.wrap (x.2.2 - 1)).toNat).2.2.2.1≥(rdL u0a x.1.2.1 x.2.2.toNat).2.2.2.1))) none) (some false))))):Ht Bool).bind fun j8=>cond j8 (some (.inr false)) (cond (Nat.ble (x.2.1.length+([(rdL u0a x.1.2.1 x.2.2.toNat).1]:Hu Int).length) z7w) (g (x.1,x.2.1++([(rdL u0a x.1.2.1 x.2.2.toNat).1]:Hu Int),IntKind.i64.wrap (x.2.2+1))) none)) none) (some (.inl (x.1,x.2.1)))
def u7t:=lpW _ _ t69
theorem r52 x:u7t x=t69 u7t x:=zW r4x 42 Tryz.f42 10 179 x (by kernel_rfl)
def t7a(g:Z98→Ht (j7d⊕Bool))(x:Z98):Ht (j7d⊕Bool):=cond (decide (x.2.2<(x.1.2.2.1.length:Int))) (cond (y4q x.2.2 x.1.2.2.1.length) ((((u66 (rdL u0a x.1.2.2.1 x.2.2.toNat)).bind fun y11=>cond (!y11) (some true) (cond (!decide ((rdL u0a x.1.2.2.1 x.2.2.toNat).2.1=2)) (some true) (cond (decide ((rdL u0a x.1.2.2.1 x.2.2.toNat).2.2.1>x.1.2.2.2.1)) (some true) (cond (decide (x.2.2>0)) (cond (y4q (IntKind.i64.wrap (x.2.2 - 1)) x.1.2.2.1.length) (some (!y3c (rdL u0a x.1.2.2.1 (IntKind.i64.wrap (x.2.2 - 1)).toNat).2.2.2.2.2.2.2 (rdL u0a x.1.2.2.1 x.2.2.toNat).2.2.2.2.2.2.2)) none) (some false))))):Ht Bool).bind fun j12=>cond j12 (some (.inr false)) (cond (Nat.ble (x.2.1.length+([(rdL u0a x.1.2.2.1 x.2.2.toNat).1]:Hu Int).length) z7w) (g (x.1,x.2.1++([(rdL u0a x.1.2.2.1 x.2.2.toNat).1]:Hu Int),IntKind.i64.wrap (x.2.2+1))) none)) none) (some (.inl (x.1,x.2.1)))
def t1g:=lpW _ _ t7a
theorem r53 x:t1g x=t7a t1g x:=zW r4y 42 Tryz.f42 17 179 x (by kernel_rfl)
def t7c(g:Z90→Ht (Z98⊕Bool))(x:Z90):Ht (Z98⊕Bool):=cond (decide (x.2.2.2<x.2.2.1)) (cond (y4q x.2.2.2 x.2.1.length) (cond (y4q x.2.2.1 x.2.1.length) (cond (decide ((rdL (Ty.int .i64) x.2.1 x.2.2.2.toNat)=(rdL (Ty.int .i64) x.2.1 x.2.2.1.toNat))) (some (.inr false)) (g (x.1,x.2.1,x.2.2.1,IntKind.i64.wrap (x.2.2.2+1)))) none) none) (some (.inl (x.1,x.2.1,x.2.2.1)))
def t1h:=lpW _ _ t7c
theorem r55 x:t1h x=t7c t1h x:=zW r40 42 Tryz.f42 27 179 x (by kernel_rfl)
def t7b(g:Z98→Ht r6y)(x:Z98):Ht r6y:=cond (decide (x.2.2<(x.2.1.length:Int))) ((t1h (x.1,x.2.1,x.2.2,0)).bind fun r15=>match r15 with | .inl o16=>cond (y4q o16.2.2 o16.2.1.length) (cond (decide ((rdL (Ty.int .i64) o16.2.1 o16.2.2.toNat)≥o16.1.2.2.2.2)) (some (.inr false)) (g (o16.1,o16.2.1,IntKind.i64.wrap (o16.2.2+1)))) none | .inr z17=>some (.inr z17)) (some (.inl ()))
def u7u:=lpW _ _ t7b
theorem r54 x:u7u x=t7b u7u x:=zW r4z 42 Tryz.f42 24 179 x (by kernel_rfl)
def q5s (x:u7f):Ht Bool:=(((s01 x.1).bind fun y1=>cond (!y1) (some true) (cond (decide ((x.2.1.length:Int)>(12:Int))) (some true) (cond (decide ((x.2.2.1.length:Int)>(3:Int))) (some true) ((u0r (x.2.2.2.1,0,9999)).bind fun y2=>cond (!y2) (some true) ((u0r (x.2.2.2.2,1,9999)).bind fun y3=>some (!y3)))))):Ht Bool).bind fun j4=>cond j4 (some false) ((t3u (x,0)).bind fun r5=>match r5 with | .inl o6=>((u7t (o6,([]:Hu Int),0)).bind fun r9=>match r9 with | .inl o10=>((t1g (o10.1,o10.2,0)).bind fun r13=>match r13 with | .inl o14=>((u7u (o14.1,o14.2,0)).bind fun r18=>match r18 with | .inl o19=>some true | .inr z20=>some z20) | .inr z21=>some z21) | .inr z22=>some z22) | .inr z23=>some z23)
theorem o0c:u8h=q5s:=zC 42 rfl Tryz.func42 (by kernel_rfl)
def u13(x:Int):Ht Hs:=zK 232 x
def r65(g:j5e→Ht (j5e⊕Unit))(x:j5e):Ht (j5e⊕Unit):=cond (decide (x.1>127)) (cond (Nat.ble (x.2.length+([(IntKind.u8.wrap (IntKind.i64.wrap ((Int.tmod x.1 (128:Int))+128)))]:Hu Int).length) z7w) (g (IntKind.i64.wrap (Int.tdiv x.1 (128:Int)),x.2++([(IntKind.u8.wrap (IntKind.i64.wrap ((Int.tmod x.1 (128:Int))+128)))]:Hu Int))) none) (some (.inl x))
def t9r:=lpW _ _ r65
theorem p5g x:t9r x=r65 t9r x:=zW r89 232 Tryz.f232 2 22 x (by kernel_rfl)
def q58 (x:Int):Ht Hs:=(t9r (x,([]:Hu Int))).bind fun r1=>match r1 with | .inl o2=>cond (Nat.ble (o2.2.length+([(IntKind.u8.wrap o2.1)]:Hu Int).length) z7w) (some (y7g (o2.2++([(IntKind.u8.wrap o2.1)]:Hu Int)))) none | .inr z3=>none
theorem o0s:u13=q58:=zC 232 rfl Tryz.func232 (by kernel_rfl)
def s10(x:o4v):Ht j5f:=zK 234 x
def t7j(g:d4g→Ht (Unit⊕j5f))(x:d4g):Ht (Unit⊕j5f):=((cond (decide (x.2.2.2.2<(x.1.size:Int))) (some (decide (x.2.2.2.2<(IntKind.i64.wrap (x.2.1+5))))) (some false)):Ht Bool).bind fun j2=>cond j2 (cond (y4q x.2.2.2.2 x.1.size) (cond (y4q x.2.2.2.2 x.1.size) (cond (decide (((x.1.data.toList.getD x.2.2.2.2.toNat 0).toNat:Int)<(128:Int))) (((cond (decide ((IntKind.i64.wrap (x.2.2.1+(IntKind.i64.wrap ((Int.tmod (IntKind.i64.wrap ((x.1.data.toList.getD x.2.2.2.2.toNat 0).toNat:Int)) (128:Int))*x.2.2.2.1))))>1000000000)) (some true) ((u13 (IntKind.i64.wrap (x.2.2.1+(IntKind.i64.wrap ((Int.tmod (IntKind.i64.wrap ((x.1.data.toList.getD x.2.2.2.2.toNat 0).toNat:Int)) (128:Int))*x.2.2.2.1))))).bind fun y3=>cond (decide (0≤x.2.1)&&decide (x.2.1≤(IntKind.i64.wrap (x.2.2.2.2+1)))&&decide ((IntKind.i64.wrap (x.2.2.2.2+1))≤(x.1.size:Int))) (some (!z7o y3 (x.1.extract x.2.1.toNat (IntKind.i64.wrap (x.2.2.2.2+1)).toNat))) none)):Ht Bool).bind fun j4=>cond j4 (some (.inr (0,0,false))) (some (.inr (IntKind.i64.wrap (x.2.2.1+(IntKind.i64.wrap ((Int.tmod (IntKind.i64.wrap ((x.1.data.toList.getD x.2.2.2.2.toNat 0).toNat:Int)) (128:Int))*x.2.2.2.1))),IntKind.i64.wrap (x.2.2.2.2+1),true)))) (g (x.1,x.2.1,IntKind.i64.wrap (x.2.2.1+(IntKind.i64.wrap ((Int.tmod (IntKind.i64.wrap ((x.1.data.toList.getD x.2.2.2.2.toNat 0).toNat:Int)) (128:Int))*x.2.2.2.1))),IntKind.i64.wrap (x.2.2.2.1*128),IntKind.i64.wrap (x.2.2.2.2+1)))) none) none) (some (.inl ()))
def t71:=lpW _ _ t7j
theorem r6d x:t71 x=t7j t71 x:=zW r5a 234 Tryz.f234 6 58 x (by kernel_rfl)
def q2c (x:o4v):Ht j5f:=(u0r (x.2,0,(x.1.size:Int))).bind fun y1=>cond (!y1) (some (0,0,false)) ((t71 (x.1,x.2,0,1,x.2)).bind fun r5=>match r5 with | .inl o6=>some (0,0,false) | .inr z7=>some z7)
theorem p6t:s10=q2c:=zC 234 rfl Tryz.func234 (by kernel_rfl)
def t8f(x:o4v):Ht q44:=zK 227 x
def r4a (x:o4v):Ht q44:=(s10 x).bind fun y1=>((cond (!y1.2.2) (some true) (cond (decide (y1.1>20000)) (some true) (some (decide (y1.1>(IntKind.i64.wrap ((x.1.size:Int) - y1.2.1))))))):Ht Bool).bind fun j2=>cond j2 (some ((⟨#[]⟩:Hs),0,false)) (cond (decide (0≤y1.2.1)&&decide (y1.2.1≤(IntKind.i64.wrap (y1.2.1+y1.1)))&&decide ((IntKind.i64.wrap (y1.2.1+y1.1))≤(x.1.size:Int))) (some (x.1.extract y1.2.1.toNat (IntKind.i64.wrap (y1.2.1+y1.1)).toNat,IntKind.i64.wrap (y1.2.1+y1.1),true)) none)
theorem p1j:t8f=r4a:=zC 227 rfl Tryz.func227 (by kernel_rfl)
def u16(x:q44):Ht j9y:=zK 111 x
def s5e (x:q44):Ht j9y:=(t8f (x.1,x.2.1)).bind fun y1=>((cond x.2.2 (some true) (some (!y1.2.2))):Ht Bool).bind fun j2=>cond j2 (some ((⟨#[]⟩:Hs),x.1,x.2.1,true)) (some (y1.1,x.1,y1.2.1,x.2.2))
theorem q4j:u16=s5e:=zC 111 rfl Tryz.func111 (by kernel_rfl)
def u7d(x:q44):Ht (Bool×q44):=zK 112 x
def s98 (x:q44):Ht (Bool×q44):=((cond x.2.2 (some true) (cond (decide (x.2.1≥(x.1.size:Int))) (some true) (cond (y4q x.2.1 x.1.size) (some (decide (((x.1.data.toList.getD x.2.1.toNat 0).toNat:Int)>(1:Int)))) none))):Ht Bool).bind fun j1=>cond j1 (some (false,x.1,x.2.1,true)) (cond (y4q (IntKind.i64.wrap ((IntKind.i64.wrap (x.2.1+1)) - 1)) x.1.size) (some (decide (((x.1.data.toList.getD (IntKind.i64.wrap ((IntKind.i64.wrap (x.2.1+1)) - 1)).toNat 0).toNat:Int)=(1:Int)),x.1,IntKind.i64.wrap (x.2.1+1),x.2.2)) none)
theorem q8r:u7d=s98:=zC 112 rfl Tryz.func112 (by kernel_rfl)
def u23(x:q44):Ht (Int×q44):=zK 118 x
def q6b (x:q44):Ht (Int×q44):=(s10 (x.1,x.2.1)).bind fun y1=>((cond x.2.2 (some true) (some (!y1.2.2))):Ht Bool).bind fun j2=>cond j2 (some (0,x.1,x.2.1,true)) (some (y1.1,x.1,y1.2.1,x.2.2))
theorem o0v:u23=q6b:=zC 118 rfl Tryz.func118 (by kernel_rfl)
def s1z(x:o4v):Ht d2y:=zK 113 x
def t7i(g:Z50→Ht (Z53⊕Unit))(x:Z50):Ht (Z53⊕Unit):=((cond (decide (x.2.2.2.2<x.2.2.2.1)) (cond (decide (x.2.2.2.2<10)) (some (!x.2.1.2.2)) (some false)) (some false)):Ht Bool).bind fun j6=>cond j6 ((u16 x.2.1).bind fun y7=>(u16 y7.2).bind fun y8=>cond (Nat.ble (x.2.2.1.2.2.2.2.1.length+([(y7.1,y8.1)]:Hu s4z.den).length) z7w) (g (x.1,y8.2,(x.2.2.1.1,x.2.2.1.2.1,x.2.2.1.2.2.1,x.2.2.1.2.2.2.1,x.2.2.1.2.2.2.2.1++([(y7.1,y8.1)]:Hu s4z.den),x.2.2.1.2.2.2.2.2),x.2.2.2.1,IntKind.i64.wrap (x.2.2.2.2+1))) none) (some (.inl (x.1,x.2.1,x.2.2.1)))
def t1m:=lpW _ _ t7i
theorem r6c x:t1m x=t7i t1m x:=zW r49 113 Tryz.f113 8 115 x (by kernel_rfl)
def t4w(g:Z50→Ht (Z53⊕Unit))(x:Z50):Ht (Z53⊕Unit):=((cond (decide (x.2.2.2.2<x.2.2.2.1)) (cond (decide (x.2.2.2.2<10)) (some (!x.2.1.2.2)) (some false)) (some false)):Ht Bool).bind fun j12=>cond j12 ((u16 x.2.1).bind fun y13=>(u16 y13.2).bind fun y14=>(u7d y14.2).bind fun y15=>cond (Nat.ble (x.2.2.1.2.2.2.2.2.1.length+([(y13.1,y14.1,y15.1)]:Hu u2g.den).length) z7w) (g (x.1,y15.2,(x.2.2.1.1,x.2.2.1.2.1,x.2.2.1.2.2.1,x.2.2.1.2.2.2.1,x.2.2.1.2.2.2.2.1,x.2.2.1.2.2.2.2.2.1++([(y13.1,y14.1,y15.1)]:Hu u2g.den),x.2.2.1.2.2.2.2.2.2),x.2.2.2.1,IntKind.i64.wrap (x.2.2.2.2+1))) none) (some (.inl (x.1,x.2.1,x.2.2.1)))
def u9g:=lpW _ _ t4w
theorem r1w x:u9g x=t4w u9g x:=zW r0z 113 Tryz.f113 15 115 x (by kernel_rfl)
def q2b (x:o4v):Ht d2y:=(u23 (x.1,x.2,false)).bind fun y1=>(u23 y1.2).bind fun y2=>(u23 y2.2).bind fun y3=>(u23 y3.2).bind fun y4=>(u23 y4.2).bind fun y5=>(t1m ((0,0,0,0,([]:Hu s4z.den),([]:Hu u2g.den),false,(⟨#[]⟩:Hs)),y5.2,(y1.1,y2.1,y3.1,y4.1,([]:Hu s4z.den),([]:Hu u2g.den),false,(⟨#[]⟩:Hs)),y5.1,0)).bind fun r9=>match r9 with | .inl o10=>((u23 o10.2.1).bind fun y11=>(u9g (o10.1,y11.2,o10.2.2,y11.1,0)).bind fun r16=>match r16 with | .inl o17=>((u7d o17.2.1).bind fun y18=>(u16 y18.2).bind fun y19=>((cond y19.2.2.2 (some true) ((u66 (o17.2.2.1,o17.2.2.2.1,o17.2.2.2.2.1,o17.2.2.2.2.2.1,o17.2.2.2.2.2.2.1,o17.2.2.2.2.2.2.2.1,y18.1,y19.1)).bind fun y20=>some (!y20))):Ht Bool).bind fun j21=>cond j21 (some ((0,0,0,0,([]:Hu s4z.den),([]:Hu u2g.den),false,(⟨#[]⟩:Hs)),0,false)) (some ((o17.2.2.1,o17.2.2.2.1,o17.2.2.2.2.1,o17.2.2.2.2.2.1,o17.2.2.2.2.2.2.1,o17.2.2.2.2.2.2.2.1,y18.1,y19.1),y19.2.2.1,true))) | .inr z22=>none) | .inr z23=>none
theorem p6s:s1z=q2b:=zC 113 rfl Tryz.func113 (by kernel_rfl)
def t3i(x:(q44×Int)):Ht d3q:=zK 119 x
def u4t(g:d28→Ht (j9o⊕j9o))(x:d28):Ht (j9o⊕j9o):=((cond (decide (x.2.2.2.2<x.2.2.2.1)) (cond (decide (x.2.2.2.2≤x.2.1)) (some (!x.1.2.2)) (some false)) (some false)):Ht Bool).bind fun j2=>cond j2 ((s1z (x.1.1,x.1.2.1)).bind fun y3=>cond (!y3.2.2) (some (.inr ((x.1.1,x.1.2.1,true),x.2.2.1))) (cond (Nat.ble (x.2.2.1.length+([y3.1]:Hu u0a.den).length) z7w) (g ((x.1.1,y3.2.1,x.1.2.2),x.2.1,x.2.2.1++([y3.1]:Hu u0a.den),x.2.2.2.1,IntKind.i64.wrap (x.2.2.2.2+1))) none)) (some (.inl (x.1,x.2.2.1)))
def u6p:=lpW _ _ u4t
theorem u9a x:u6p x=u4t u6p x:=zW s34 119 Tryz.f119 4 59 x (by kernel_rfl)
def s7i (x:(q44×Int)):Ht d3q:=(u23 x.1).bind fun y1=>(u6p (y1.2,x.2,([]:Hu u0a.den),y1.1,0)).bind fun r4=>match r4 with | .inl o5=>some (o5.2,o5.1) | .inr z6=>some (z6.2,z6.1)
theorem q6x:t3i=s7i:=zC 119 rfl Tryz.func119 (by kernel_rfl)
def s6f(x:o4v):Ht d2d:=zK 38 x
def t4v(g:Z34→Ht (Z42⊕Unit))(x:Z34):Ht (Z42⊕Unit):=((cond (decide (x.2.2.2.2<x.2.2.2.1)) (cond (decide (x.2.2.2.2<130)) (some (!x.2.1.2.2)) (some false)) (some false)):Ht Bool).bind fun j4=>cond j4 ((u16 x.2.1).bind fun y5=>(u16 y5.2).bind fun y6=>(u7d y6.2).bind fun y7=>(u23 y7.2).bind fun y8=>cond (Nat.ble (x.2.2.1.1.length+([(y5.1,y6.1,y7.1,y8.1)]:Hu u0h.den).length) z7w) (g (x.1,y8.2,(x.2.2.1.1++([(y5.1,y6.1,y7.1,y8.1)]:Hu u0h.den),x.2.2.1.2),x.2.2.2.1,IntKind.i64.wrap (x.2.2.2.2+1))) none) (some (.inl (x.1,x.2.1,x.2.2.1)))
def u9f:=lpW _ _ t4v
theorem r1v x:u9f x=t4v u9f x:=zW r0y 38 Tryz.f38 6 79 x (by kernel_rfl)
def r72 (x:o4v):Ht d2d:=(u23 (x.1,x.2,false)).bind fun y1=>(u23 y1.2).bind fun y2=>(u23 y2.2).bind fun y3=>(u9f ((([]:Hu u0h.den),([]:Hu u0a.den),([]:Hu u0a.den),0,0),y3.2,(([]:Hu u0h.den),([]:Hu u0a.den),([]:Hu u0a.den),y1.1,y2.1),y3.1,0)).bind fun r9=>match r9 with | .inl o10=>((t3i (o10.2.1,12)).bind fun y11=>(t3i (y11.2,3)).bind fun y12=>((cond y12.2.2.2 (some true) ((u8h (o10.2.2.1,y11.1,y12.1,o10.2.2.2.2.2)).bind fun y13=>some (!y13))):Ht Bool).bind fun j14=>cond j14 (some ((([]:Hu u0h.den),([]:Hu u0a.den),([]:Hu u0a.den),0,0),0,false)) (some ((o10.2.2.1,y11.1,y12.1,o10.2.2.2.2.2),y12.2.2.1,true))) | .inr z15=>none
theorem p3r:s6f=r72:=zC 38 rfl Tryz.func38 (by kernel_rfl)
def t99(x:u87):Ht Bool:=zK 122 x
def r8i (x:u87):Ht Bool:=((cond (decide (x.1=0)) (cond (decide (x.2.1=0)) (cond (decide (x.2.2.1=0)) (cond (decide (x.2.2.2.1=0)) (cond (decide ((x.2.2.2.2.1.length:Int)=(0:Int))) (cond (decide ((x.2.2.2.2.2.1.length:Int)=(0:Int))) (cond (!x.2.2.2.2.2.2.1) (some (z7o x.2.2.2.2.2.2.2 (⟨#[]⟩:Hs))) (some false)) (some false)) (some false)) (some false)) (some false)) (some false)) (some false)):Ht Bool).bind fun j1=>some j1
theorem p34:t99=r8i:=zC 122 rfl Tryz.func122 (by kernel_rfl)
def s3g(x:u7f):Ht Bool:=zK 124 x
def r4f (x:u7f):Ht Bool:=((cond (decide (x.2.2.2.1=0)) (cond (decide (x.2.2.2.2=0)) (cond (decide ((x.1.length:Int)=(0:Int))) (cond (decide ((x.2.1.length:Int)=(0:Int))) (some (decide ((x.2.2.1.length:Int)=(0:Int)))) (some false)) (some false)) (some false)) (some false)):Ht Bool).bind fun j1=>some j1
theorem p1o:s3g=r4f:=zC 124 rfl Tryz.func124 (by kernel_rfl)
def t94(x:Z49):Ht Bool:=zK 39 x
def r74 (x:Z49):Ht Bool:=(u0r (x.1,1,4)).bind fun y1=>cond (!y1) (some false) (((cond (decide (x.1=1)) (some true) (some (decide (x.1=2)))):Ht Bool).bind fun j2=>((cond j2 ((u66 x.2.1).bind fun y3=>cond (!y3) (some true) (cond (!j2) ((t99 x.2.1).bind fun y4=>cond (!y4) (some true) (cond (decide (x.1=1)) (cond (!decide (x.2.1.2.1=3)) (some true) (cond (decide (x.1=2)) (some (!decide (x.2.1.2.1=2))) (some false))) (cond (decide (x.1=2)) (some (!decide (x.2.1.2.1=2))) (some false)))) (cond (decide (x.1=1)) (cond (!decide (x.2.1.2.1=3)) (some true) (cond (decide (x.1=2)) (some (!decide (x.2.1.2.1=2))) (some false))) (cond (decide (x.1=2)) (some (!decide (x.2.1.2.1=2))) (some false))))) (cond (!j2) ((t99 x.2.1).bind fun y5=>cond (!y5) (some true) (cond (decide (x.1=1)) (cond (!decide (x.2.1.2.1=3)) (some true) (cond (decide (x.1=2)) (some (!decide (x.2.1.2.1=2))) (some false))) (cond (decide (x.1=2)) (some (!decide (x.2.1.2.1=2))) (some false)))) (cond (decide (x.1=1)) (cond (!decide (x.2.1.2.1=3)) (some true) (cond (decide (x.1=2)) (some (!decide (x.2.1.2.1=2))) (some false))) (cond (decide (x.1=2)) (some (!decide (x.2.1.2.1=2))) (some false))))):Ht Bool).bind fun j6=>cond j6 (some false) (((cond (decide (x.1=3)) ((u64 x.2.2.1).bind fun y7=>cond (!y7) (some true) (cond (!decide (x.1=3)) (cond (!z7o x.2.2.1 (⟨#[]⟩:Hs)) (some true) (some x.2.2.2.1)) (some false))) (cond (!decide (x.1=3)) (cond (!z7o x.2.2.1 (⟨#[]⟩:Hs)) (some true) (some x.2.2.2.1)) (some false))):Ht Bool).bind fun j8=>cond j8 (some false) (cond (decide (x.1=4)) ((u8h x.2.2.2.2).bind fun y9=>some y9) ((s3g x.2.2.2.2).bind fun y10=>some y10))))
theorem p3s:t94=r74:=zC 39 rfl Tryz.func39 (by kernel_rfl)
def s13(x:Int):Ht Hs:=zK 224 x
def q2o (x:Int):Ht Hs:=some (y7g ([IntKind.u8.wrap (Int.fdiv x (2^(min (24:Int).toNat IntKind.u32.bits))),IntKind.u8.wrap (Int.fdiv x (2^(min (16:Int).toNat IntKind.u32.bits))),IntKind.u8.wrap (Int.fdiv x (2^(min (8:Int).toNat IntKind.u32.bits))),IntKind.u8.wrap x]:Hu Int))
theorem q3a:s13=q2o:=zC 224 rfl Tryz.func224 (by kernel_rfl)
def s9f(x:d0f):Ht Int:=zK 318 x
def r3k(g:d0a→Ht (j5g⊕Unit))(x:d0a):Ht (j5g⊕Unit):=cond (decide (x.2.2.2<8)) (cond (decide ((Int.tmod x.1 (2:Int))=1)) (g (IntKind.u32.wrap ((BitVec.ofInt IntKind.u32.bits (IntKind.u32.wrap (Int.tdiv x.1 (2:Int)))^^^BitVec.ofInt IntKind.u32.bits (3558460437:Int)).toNat:Int),x.2.1,x.2.2.1,IntKind.i64.wrap (x.2.2.2+1))) (g (IntKind.u32.wrap (Int.tdiv x.1 (2:Int)),x.2.1,x.2.2.1,IntKind.i64.wrap (x.2.2.2+1)))) (some (.inl (x.1,x.2.1,x.2.2.1)))
def t73:=lpW _ _ r3k
theorem p1v x:t73 x=r3k t73 x:=zW r5d 318 Tryz.f318 6 33 x (by kernel_rfl)
def t7k(g:j5g→Ht o7u)(x:j5g):Ht o7u:=cond (decide (x.2.2<(x.2.1.size:Int))) (cond (y4q x.2.2 x.2.1.size) ((t73 (IntKind.u32.wrap ((BitVec.ofInt IntKind.u32.bits x.1^^^BitVec.ofInt IntKind.u32.bits (IntKind.u32.wrap ((x.2.1.data.toList.getD x.2.2.toNat 0).toNat:Int))).toNat:Int),x.2.1,x.2.2,0)).bind fun r1=>match r1 with | .inl o2=>g (o2.1,o2.2.1,IntKind.i64.wrap (o2.2.2+1)) | .inr z3=>some (.inr ())) none) (some (.inl x.1))
def t72:=lpW _ _ t7k
theorem r6f x:t72 x=t7k t72 x:=zW r5c 318 Tryz.f318 2 33 x (by kernel_rfl)
def q2e (x:d0f):Ht Int:=(t72 (x.1,x.2,0)).bind fun r4=>match r4 with | .inl o5=>some o5 | .inr z6=>none
theorem p6v:s9f=q2e:=zC 318 rfl Tryz.func318 (by kernel_rfl)
def s79(x:Hs):Ht Int:=zK 225 x
def r78 (x:Hs):Ht Int:=(s9f (4294967295,x)).bind fun y1=>some y1
theorem q92:s79=r78:=zC 225 rfl Tryz.func225 (by kernel_rfl)
def t95(x:Hs):Ht s63:=zK 109 x
def q54 (x:Hs):Ht s63:=cond (decide ((x.size:Int)>(20000:Int))) (some ((⟨#[]⟩:Hs),false)) ((s79 x).bind fun y1=>(s13 y1).bind fun y2=>cond (decide (x.size+y2.size≤140737488355328)) (some (x++y2,true)) none)
theorem o0o:t95=q54:=zC 109 rfl Tryz.func109 (by kernel_rfl)
def u3n(x:Hs):Ht Hs:=zK 221 x
def r8h (x:Hs):Ht Hs:=(u13 (x.size:Int)).bind fun y1=>cond (decide (y1.size+x.size≤140737488355328)) (some (y1++x)) none
theorem p33:u3n=r8h:=zC 221 rfl Tryz.func221 (by kernel_rfl)
def t5r(x:Bool):Ht Hs:=zK 222 x
def q6a (x:Bool):Ht Hs:=cond x (some (⟨#[1]⟩:Hs)) (some (⟨#[0]⟩:Hs))
theorem o0u:t5r=q6a:=zC 222 rfl Tryz.func222 (by kernel_rfl)
def s11(x:u87):Ht s63:=zK 223 x
def t7o(g:j9i→Ht (j2x⊕Unit))(x:j9i):Ht (j2x⊕Unit):=cond (decide (x.2.2<(x.1.2.2.2.2.1.length:Int))) (cond (y4q x.2.2 x.1.2.2.2.2.1.length) ((u3n (rdL s4z x.1.2.2.2.2.1 x.2.2.toNat).1).bind fun y7=>cond (decide (x.2.1.size+y7.size≤140737488355328)) (cond (y4q x.2.2 x.1.2.2.2.2.1.length) ((u3n (rdL s4z x.1.2.2.2.2.1 x.2.2.toNat).2).bind fun y8=>cond (decide ((x.2.1++y7).size+y8.size≤140737488355328)) (g (x.1,(x.2.1++y7)++y8,IntKind.i64.wrap (x.2.2+1))) none) none) none) none) (some (.inl (x.1,x.2.1)))
def t1q:=lpW _ _ t7o
theorem r6j x:t1q x=t7o t1q x:=zW r5h 223 Tryz.f223 5 101 x (by kernel_rfl)
def t41(g:j9i→Ht (j2x⊕Unit))(x:j9i):Ht (j2x⊕Unit):=cond (decide (x.2.2<(x.1.2.2.2.2.2.1.length:Int))) (cond (y4q x.2.2 x.1.2.2.2.2.2.1.length) ((u3n (rdL u2g x.1.2.2.2.2.2.1 x.2.2.toNat).1).bind fun y12=>cond (decide (x.2.1.size+y12.size≤140737488355328)) (cond (y4q x.2.2 x.1.2.2.2.2.2.1.length) ((u3n (rdL u2g x.1.2.2.2.2.2.1 x.2.2.toNat).2.1).bind fun y13=>cond (decide ((x.2.1++y12).size+y13.size≤140737488355328)) (cond (y4q x.2.2 x.1.2.2.2.2.2.1.length) ((t5r (rdL u2g x.1.2.2.2.2.2.1 x.2.2.toNat).2.2).bind fun y14=>cond (decide (((x.2.1++y12)++y13).size+y14.size≤140737488355328)) (g (x.1,((x.2.1++y12)++y13)++y14,IntKind.i64.wrap (x.2.2+1))) none) none) none) none) none) none) (some (.inl (x.1,x.2.1)))
def u9j:=lpW _ _ t41
theorem r2a x:u9j x=t41 u9j x:=zW r04 223 Tryz.f223 10 101 x (by kernel_rfl)
def q2i (x:u87):Ht s63:=(u66 x).bind fun y1=>cond (!y1) (some ((⟨#[]⟩:Hs),false)) ((u13 x.1).bind fun y2=>(u13 x.2.1).bind fun y3=>cond (decide (y2.size+y3.size≤140737488355328)) ((u13 x.2.2.1).bind fun y4=>cond (decide ((y2++y3).size+y4.size≤140737488355328)) ((u13 x.2.2.2.1).bind fun y5=>cond (decide (((y2++y3)++y4).size+y5.size≤140737488355328)) ((u13 (x.2.2.2.2.1.length:Int)).bind fun y6=>cond (decide ((((y2++y3)++y4)++y5).size+y6.size≤140737488355328)) ((t1q (x,(((y2++y3)++y4)++y5)++y6,0)).bind fun r9=>match r9 with | .inl o10=>((u13 (o10.1.2.2.2.2.2.1.length:Int)).bind fun y11=>cond (decide (o10.2.size+y11.size≤140737488355328)) ((u9j (o10.1,o10.2++y11,0)).bind fun r15=>match r15 with | .inl o16=>((t5r o16.1.2.2.2.2.2.2.1).bind fun y17=>cond (decide (o16.2.size+y17.size≤140737488355328)) ((u3n o16.1.2.2.2.2.2.2.2).bind fun y18=>cond (decide ((o16.2++y17).size+y18.size≤140737488355328)) (some ((o16.2++y17)++y18,true)) none) none) | .inr z19=>none) none) | .inr z20=>none) none) none) none) none)
theorem p6z:s11=q2i:=zC 223 rfl Tryz.func223 (by kernel_rfl)
def s14(x:q42):Ht Hs:=zK 233 x
def t7s(g:d3z→Ht j7l)(x:d3z):Ht j7l:=cond (decide (x.2.2<(x.1.length:Int))) (cond (y4q x.2.2 x.1.length) ((s11 (rdL u0a x.1 x.2.2.toNat)).bind fun y2=>cond (decide (x.2.1.size+y2.1.size≤140737488355328)) (g (x.1,x.2.1++y2.1,IntKind.i64.wrap (x.2.2+1))) none) none) (some (.inl x.2.1))
def t1u:=lpW _ _ t7s
theorem r6o x:t1u x=t7s t1u x:=zW r5n 233 Tryz.f233 3 28 x (by kernel_rfl)
def q2y (x:q42):Ht Hs:=(u13 (x.length:Int)).bind fun y1=>(t1u (x,y1,0)).bind fun r3=>match r3 with | .inl o4=>some o4 | .inr z5=>none
theorem p7e:s14=q2y:=zC 233 rfl Tryz.func233 (by kernel_rfl)
end
end Go.Proofs.YtkdpclfhapphhaaGreat.Ab
