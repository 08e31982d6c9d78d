import Derived.Test.YtkdpclfhapphhaaGreatAbK2
import Derived.Test.YtkdpclfhapphhaaGreatAbF4
import Derived.Test.YtkdpclfhapphhaaGreatAbS1
import Derived.KernelRfl
import Derived.Test.YtkdpclfhapphhaaGreatProg
namespace Go.Proofs.YtkdpclfhapphhaaGreat.Ab
open Go
set_option linter.unusedVariables false
noncomputable section
abbrev t7u:Ty:=(.pair .str .str)
abbrev j5r:Ty:=(.pair .str .bool)
abbrev u12:Ty:=(.pair .str j5r)
abbrev j5o:Ty:=(.pair .bool .str)
abbrev p9m:Ty:=(.pair (.sl u12) j5o)
abbrev q6j:Ty:=(.pair (.sl t7u) p9m)
abbrev q01:Ty:=(.pair (.int .i64) q6j)
abbrev r7k:Ty:=(.pair (.int .i64) q01)
abbrev r3p:Ty:=(.pair (.int .i64) r7k)
abbrev u0a:Ty:=(.pair (.int .i64) r3p)
abbrev j5n:Ty:=(.pair .bool (.int .i64))
abbrev o9l:Ty:=(.pair .str j5n)
abbrev u0d:Ty:=(.pair .str o9l)
abbrev q7m:Ty:=(.pair (.int .i64) .str)
abbrev j5q:Ty:=(.pair (.int .i64) (.int .i64))
abbrev t99:Ty:=(.pair (.sl u0a) j5q)
abbrev o29:Ty:=(.pair (.sl u0a) t99)
abbrev q7t:Ty:=(.pair (.sl u0d) o29)
abbrev p6q:Ty:=(.pair q7t (.sl u0a))
abbrev o0h:Ty:=(.pair (.sl .str) (.sl q7m))
abbrev p6p:Ty:=(.pair p6q o0h)
abbrev o9k:Ty:=(.pair (.sl (.int .i64)) (.sl .str))
abbrev o24:Ty:=(.pair (.sl u0a) o9k)
abbrev o28:Ty:=(.pair p6p o24)
abbrev o25:Ty:=(.pair .bool q7t)
abbrev o3a:Ty:=(.pair .str o25)
abbrev o27:Ty:=(.pair u0a o3a)
abbrev o26:Ty:=(.pair (.int .i64) o27)
abbrev j5p:Ty:=(.pair (.int .i64) .bool)
abbrev o6v:Ty:=(.pair .str j5p)
abbrev s1j:=((Hu Hs)×(Hu q7m.den))
abbrev j1c:=((Hs×Hs)×Hs)
abbrev j45:=((Hu Hs)×(Hu Hs))
abbrev j1b:=((Hu t7u.den)×(Hu u12.den))
abbrev j44:=((Int×Hs)×(Int×Hs))
abbrev o87:=((Hu u12.den)×(Hu u12.den))
abbrev o47:=(Hs×(Hs×(Bool×Int)))
abbrev j43:=((Hs×(Hs×Bool))×Int)
abbrev j1a:=(Hs×(Hs×(Int×Bool)))
abbrev j42:=(Hs×(Int×(Int×(Int×Int))))
abbrev j41:=((Hu Int)×((Hu Int)×(Int×Int)))
abbrev o61:=((Hu u0d.den)×(Hs×Int))
abbrev o60:=(Hu (Hu u0a.den))
abbrev j09:=((Hu u0d.den)×(Hu u0d.den))
abbrev j08:=((Hu q7m.den)×((Hu q7m.den)×Int))
abbrev j07:=((Hu t7u.den)×(Hs×Hs))
abbrev o86:=((Hu t7u.den)×((Hu t7u.den)×Int))
abbrev o46:=((Hu u0a.den)×Int)
abbrev q75:=(s1j×Int)
abbrev j40:=(Int×s1j)
abbrev j06:=((Hu t7u.den)×((Hu u12.den)×Int))
abbrev j05:=((Hu Hs)×((Hu Hs)×Int))
abbrev j4z:=((Hu u0d.den)×(Hs×Hs))
abbrev o6z:=((Hu u12.den)×((Hu u12.den)×Int))
abbrev j4y:=((Hu Int)×((Hu Hs)×(Int×Int)))
abbrev j4x:=(o47×Int)
abbrev o85:=((Hu u0a.den)×Hs)
abbrev j04:=((Hu u0d.den)×((Hu u12.den)×Int))
abbrev j4w:=(o60×Int)
abbrev j4v:=((Hu u0a.den)×(Hu Int))
abbrev j2n:=((Hu t7u.den)×((Hu t7u.den)×(Int×Int)))
abbrev j4u:=((Hu u0a.den)×(Hu Bool))
abbrev j03:=(Int×j09)
abbrev j4t:=((Hu u0d.den)×(Int×(Hu u0d.den)))
abbrev j4s:=((Hs×Hs)×(Hs×Hs))
abbrev o1x:=((Hu u0a.den)×(Int×Int))
abbrev o5k:=((Hu u0d.den)×((Hu u0d.den)×Int))
abbrev j4r:=(Int×q75)
abbrev j02:=(s1j×(Int×Int))
abbrev j4q:=(Int×(Hs×((Hu q7m.den)×(Int×Int))))
abbrev j01:=((Hu u12.den)×((Hu t7u.den)×(Int×Int)))
abbrev o7s:=((Hu t7u.den)×((Hu u12.den)×(Int×Int)))
abbrev o6y:=((Hu u12.den)×((Hu u12.den)×(Int×Int)))
abbrev j00:=((Hu u0d.den)×((Hs×Hs)×Int))
abbrev j4p:=((Hu Hs)×((Hu u0d.den)×(Int×Int)))
abbrev j4o:=(Hs×(Int×((Hu u0d.den)×(Int×Int))))
abbrev j4n:=((Hu u0d.den)×(Hs×(Int×(Int×Int))))
abbrev j4m:=((Hu u12.den)×(Int×((Hu u0d.den)×Int)))
abbrev j4l:=((Hu u0a.den)×(Hs×Int))
abbrev j4k:=((Hu u0d.den)×(Int×((Hu u0d.den)×Int)))
abbrev j4j:=(Int×o5k)
abbrev j4i:=((Hu u0a.den)×((Hu Bool)×Int))
abbrev j0z:=((Hu u0d.den)×((Hu u0d.den)×(Int×Int)))
abbrev j0y:=((Hu u0a.den)×(Int×(Int×Int)))
abbrev j4h:=((Hu u0a.den)×((Hu Int)×Bool))
abbrev o84:=(Int×o1x)
abbrev j4g:=((Hu u0d.den)×o47)
abbrev j4f:=(Int×((Hu u0d.den)×((Hu u12.den)×(Int×Int))))
abbrev o83:=((Hu u0a.den)×(Hs×(Int×Int)))
abbrev j0x:=((Hs×(Int×Bool))×(Hu u0a.den))
abbrev j4e:=((Hu u0d.den)×((Hu (Hu u0d.den))×(Int×Int)))
abbrev j4d:=((Hu u0a.den)×((Hu Bool)×(Hu Int)))
abbrev j4c:=((Hu u0a.den)×(Hs×(Int×Bool)))
abbrev j2m:=(Int×j0z)
abbrev j4b:=((Hu u0a.den)×((Hu u0d.den)×Int))
abbrev j4a:=((Hs×(Hs×Bool))×(Hs×(Hs×Bool)))
abbrev j39:=((Hu t7u.den)×((Hs×Hs)×((Hu t7u.den)×Int)))
abbrev j38:=(s1j×((Hu q7m.den)×(Int×Int)))
abbrev j37:=(s1j×((Hu Hs)×(Int×Int)))
abbrev j0w:=((Hu Int)×(o60×(Int×Int)))
abbrev j36:=((Hu u0a.den)×((Hu Bool)×((Hu Int)×Int)))
abbrev j35:=(Int×(Int×(s1j×(Hs×Int))))
abbrev j34:=((Hu u0a.den)×((Hu Int)×(Hu u0d.den)))
abbrev j32:=(Int×(Int×(s1j×((Hu Int)×Int))))
abbrev j31:=(Int×((Hu u0d.den)×((Hu u0d.den)×(Int×(Int×Int)))))
abbrev o9o:=((Hu u0a.den)×(Hu u0a.den))
abbrev j30:=((Hu u0d.den)×((Hs×Hs)×(Int×(Hu Hs))))
abbrev j3z:=((Hu u0d.den)×(Int×((Hu t7u.den)×((Hu Hs)×Int))))
abbrev j3y:=((Hu u0d.den)×((Hs×Hs)×((Hu Hs)×Int)))
abbrev j3x:=(s1j×s1j)
abbrev j3w:=((Hs×Hs)×j2n)
abbrev j3v:=((Hu u0d.den)×(o47×(Int×Int)))
abbrev j3u:=((Hu (Hu u0d.den))×(Int×((Hu (Hu u0d.den))×(Int×Int))))
abbrev j3t:=((Hu u0a.den)×((Hu Bool)×((Hu Int)×(Int×Int))))
abbrev o6x:=((Hu u0a.den)×o46)
abbrev j3s:=((Hu u0a.den)×((Hu u0a.den)×Unit))
abbrev o82:=(o47×o47)
abbrev j3r:=((Hu u0d.den)×((Hu u0d.den)×(Int×((Hs×Hs)×Int))))
abbrev j3q:=((Hu u0d.den)×(Hs×(Int×(Int×((Hu u0d.den)×(Int×Int))))))
abbrev j3p:=((Hs×(Int×Bool))×o84)
abbrev j3o:=((Hu u0d.den)×j2m)
abbrev j3n:=((Hu u0a.den)×((Hu Bool)×((Hu Int)×(Int×(Int×Bool)))))
abbrev j2l:=((Hu u0a.den)×o1x)
abbrev j3m:=(Int×((Hu u0d.den)×j0z))
abbrev j3l:=(Int×(j09×((Hu u0d.den)×(Int×Int))))
abbrev u9x:=(Int×(Int×(Int×(Int×((Hu t7u.den)×((Hu u12.den)×(Bool×Hs)))))))
abbrev j3k:=(Int×(s1j×(Hs×((Hu Hs)×(Int×Int)))))
abbrev j3j:=((Hu u0a.den)×(o60×(Int×Int)))
abbrev j3i:=((Hu u0a.den)×((Hu Bool)×((Hu Int)×(Int×(Int×(Bool×Int))))))
abbrev j3h:=((Hu u0a.den)×o84)
abbrev j3g:=((Hu u0a.den)×(Unit×o1x))
abbrev o45:=(u9x×Int)
abbrev j3f:=((Hu u0a.den)×((Hu Int)×((Hu u0d.den)×((Hu t7u.den)×Int))))
abbrev o5j:=(u9x×Hs)
abbrev j0v:=(u9x×(Hu Int))
abbrev j3e:=(u9x×(Int×Bool))
abbrev j3d:=((Hu u0a.den)×((Hu u0d.den)×((Hu t7u.den)×((Hu Int)×(Int×Int)))))
abbrev j3c:=((Hu t7u.den)×((Hs×(Hs×Bool))×o7s))
abbrev j3b:=((Hu u0d.den)×((Hs×Hs)×((Hu Hs)×(Int×(Hs×(Hu Hs))))))
abbrev j3a:=((Hu u0d.den)×(Int×((Hs×Hs)×((Hu t7u.den)×((Hu Hs)×(Int×Int))))))
abbrev j0u:=((Hu t7u.den)×u9x)
abbrev j29:=(o60×(Int×(o60×(Int×Int))))
abbrev j0t:=(u9x×(Hs×Int))
abbrev Z99:=((Hu u0d.den)×j2l)
abbrev Z98:=((Hu u0a.den)×((Hu Int)×(Bool×o1x)))
abbrev Z97:=(Int×(s1j×((Hu Hs)×(Hs×((Hu Hs)×(Int×Int))))))
abbrev Z96:=((Hu u12.den)×((Hs×Hs)×((Hu t7u.den)×(Int×(Int×((Hu u12.den)×(Int×Int)))))))
abbrev Z95:=((Hu u0d.den)×((Hs×Hs)×((Hu Hs)×(Int×(Hs×((Hu Hs)×Int))))))
abbrev Z94:=(u9x×(Int×(Hu t7u.den)))
abbrev Z93:=(u9x×((Hu t7u.den)×Int))
abbrev Z92:=((Hs×(Int×Bool))×u9x)
abbrev Z91:=(u9x×(Hs×(Int×Bool)))
abbrev Z90:=(Z99×Int)
abbrev Z89:=(Z99×Bool)
abbrev Z88:=((Hs×(Hs×Bool))×((Hu t7u.den)×((Hu u12.den)×(Int×(Int×((Hu t7u.den)×(Int×Int)))))))
abbrev Z87:=(u9x×((Hu t7u.den)×(Int×Int)))
abbrev Z86:=((Hu Int)×(o60×(Int×o84)))
abbrev Z85:=(Z99×Hs)
abbrev Z84:=((Hu u12.den)×((Hs×(Hs×Bool))×((Hu u12.den)×(Int×(Int×((Hu u12.den)×(Int×Int)))))))
abbrev Z83:=((Hu u0a.den)×((Hu Int)×((Hu u0d.den)×o1x)))
abbrev Z82:=(Z99×(Hu Int))
abbrev Z81:=((Hu u0a.den)×u9x)
abbrev Z80:=(Z99×(Int×Bool))
abbrev Z79:=((Hu u0a.den)×((Hu Int)×(Bool×(Int×(Bool×o1x)))))
abbrev Z78:=(u9x×(Hu u0a.den))
abbrev Z77:=((Hs×(Int×Bool))×(u9x×Unit))
abbrev Z76:=((Hs×(Int×Bool))×(Unit×u9x))
abbrev Z75:=((Hu u12.den)×(Int×((Hu u0d.den)×(Int×(o47×((Hu u0d.den)×Int))))))
abbrev Z74:=(Hs×Z90)
abbrev Z73:=(Z99×(Hs×Int))
abbrev Z72:=(Z99×((Hu Int)×Int))
abbrev Z71:=((Hu u0a.den)×o45)
abbrev Z70:=(u9x×((Hu Int)×((Hu t7u.den)×(Int×Int))))
abbrev Z69:=(u9x×((Hu Int)×((Hu u12.den)×(Int×Int))))
abbrev Z68:=((Hu t7u.den)×Z88)
abbrev Z67:=(Z99×((Hu Int)×(Int×Int)))
abbrev Z66:=((Hs×(Int×Bool))×Z99)
abbrev Z65:=(Z99×(Hs×(Int×Bool)))
abbrev Z64:=((Hu u0a.den)×(u9x×(Int×Int)))
abbrev Z63:=((Hs×(Int×Bool))×((Unit×u9x)×(Int×Int)))
abbrev Z62:=((Hs×(Int×Bool))×((u9x×Unit)×(Int×Int)))
abbrev Z61:=(Z99×(Hu u0a.den))
abbrev Z60:=(Z99×((Hu u0d.den)×(Int×Int)))
abbrev Z59:=((Hs×(Int×Bool))×(Z99×Unit))
abbrev Z58:=((Hs×(Int×Bool))×(Unit×Z99))
abbrev Z57:=(Z61×Int)
abbrev Z56:=(Z99×((Hu Int)×((Hu u0d.den)×(Int×Int))))
abbrev Z55:=((Hs×(Int×Bool))×((Unit×Z99)×(Int×Int)))
abbrev Z54:=(Z99×o1x)
abbrev Z53:=((Hs×(Int×Bool))×((Z99×Unit)×(Int×Int)))
abbrev Z52:=(u9x×((Hu t7u.den)×(Int×((Hs×(Hs×Bool))×(Hu t7u.den)))))
abbrev Z51:=(Z61×(Hs×Bool))
abbrev Z50:=(u9x×((Hu t7u.den)×(Int×((Hs×(Hs×Bool))×((Hu t7u.den)×Int)))))
abbrev Z49:=(u9x×u9x)
abbrev Z48:=(Z61×s1j)
abbrev Z47:=((Hu u0a.den)×((Hu Int)×((Hu u0d.den)×((Hu t7u.den)×(Int×u9x)))))
abbrev Z46:=(Z48×Int)
abbrev Z45:=(Z48×Bool)
abbrev Z44:=((Hu u0a.den)×((Hu Int)×((Hu u0d.den)×((Hu t7u.den)×(Int×o45)))))
abbrev Z43:=((Hu u0a.den)×((Hu u0d.den)×((Hu t7u.den)×(u9x×((Hu Int)×(Int×Int))))))
abbrev Z42:=(Z61×o1x)
abbrev Z41:=(Z99×u9x)
abbrev Z40:=(u9x×Z92)
abbrev Z39:=(Z99×o5j)
abbrev Z38:=(Z99×Z99)
abbrev Z37:=(u9x×((Hs×(Int×Bool))×(u9x×(Int×Int))))
abbrev Z36:=((Hu u0a.den)×((Hu u0d.den)×((Hu t7u.den)×(u9x×((Hu Int)×(Int×(Int×((Hu t7u.den)×(Int×Int)))))))))
abbrev Z35:=(Int×(u9x×(Hs×(Bool×Z99))))
abbrev Z34:=(Z35×Bool)
abbrev Z33:=(Z61×(Int×u9x))
abbrev Z32:=(Z99×(Z99×((Hu Hs)×Int)))
abbrev Z31:=(Z99×Z66)
abbrev Z30:=(Z61×(Int×o45))
abbrev Z29:=(Z48×((Hu u0a.den)×((Hu Int)×(Hu Hs))))
abbrev Z28:=(Z99×(Z99×((Hu Hs)×(Int×Int))))
abbrev Z27:=(Z29×Int)
abbrev Z26:=(Z99×((Hs×(Int×Bool))×(Z99×(Int×Int))))
abbrev Z25:=((Hu u0a.den)×((Hu Int)×(Bool×(Int×(u9x×(Bool×((Hu u0a.den)×(Int×o84))))))))
abbrev Z24:=(Z29×(Hu t7u.den))
abbrev Z23:=(Z29×((Hu t7u.den)×Int))
abbrev Z22:=((Hu u0a.den)×Z29)
abbrev Z21:=((Hu u0a.den)×((Hu u0d.den)×((Hu u0a.den)×((Hu u0a.den)×(Int×(Int×((Hu u0a.den)×((Hu Hs)×((Hu q7m.den)×((Hu u0a.den)×((Hu Int)×(Hu Hs))))))))))))
abbrev Z20:=(Z61×Z61)
abbrev Z19:=((Hu u0a.den)×(((Hu u0d.den)×((Hu u0a.den)×((Hu u0a.den)×(Int×(Int×((Hu u0a.den)×((Hu Hs)×((Hu q7m.den)×((Hu u0a.den)×((Hu Int)×(Hu Hs)))))))))))×(Int×Int)))
abbrev Z18:=(u9x×Z38)
abbrev Z17:=(Z29×((Hu t7u.den)×o1x))
abbrev Z16:=(Z99×Z35)
abbrev Z15:=(Z99×(Z99×Z90))
abbrev Z14:=(u9x×((Hu u0d.den)×((Hu u0a.den)×((Hu u0a.den)×(Int×(Int×((Hu u0a.den)×((Hu Hs)×((Hu q7m.den)×((Hu u0a.den)×((Hu Int)×(Hu Hs))))))))))))
abbrev Z13:=(Z99×(Z99×(Z99×(Int×Int))))
abbrev Z12:=(Hs×Z15)
abbrev Z11:=(Z48×Z48)
abbrev Z10:=(Z61×(Z35×Int))
abbrev Z9:=(u9x×(Z99×Z41))
abbrev Z8:=(u9x×(Z99×(Z99×(u9x×(Unit×(Int×Int))))))
abbrev Z7:=(Hs×(Z99×(u9x×(Z99×Z90))))
abbrev Z6:=(u9x×(Z99×(Z99×(u9x×o9o))))
abbrev Z5:=(Hs×(u9x×(Z99×(Z99×(u9x×((Hu u0a.den)×((Hu u0a.den)×(Unit×(Int×Int)))))))))
abbrev Z4:=(Z29×Z29)
abbrev Z3:=(Z99×(u9x×(Z99×(Z99×o45))))
abbrev Z2:=(Hs×(Z99×Z9))
abbrev Z1:=(Hs×Z3)
def j5e:Tabs where
 ty:= [(3,(.int .i64)),(4, .bool),(5,(.int .u8)),(9, .str),(22,(.sl (.int .u8))),(24,(.sl u0d)),(25,(.sl u0a)),(27,q7t),(29,p6q),(30,(.sl .str)),(31,(.sl q7m)),(33,o0h),(35,p6p),(51,u12),(58,(.sl (.int .i64))),(60,o28),(67,(.sl t7u)),(68,(.sl u12)),(70,u0a),(72,o26),(87,(.sl u0d)),(88,(.sl u0a)),(93,(.sl q7m)),(133,u0d),(143,(.sl t7u)),(145,t7u),(147,(.sl t7u)),(149,t7u),(167,o6v),(175,o6v),(182,(.sl (.sl u0a))),(238,t7u),(242,(.int .u32)),(264,(.sl t7u)),(265,(.sl u12)),(267,u0a),(278,q7m),(295,(.sl (.sl u0d))),(339,q7m),(341,t7u),(343,u12),(344,(.sl .bool)),(368,u0d)]
 lay:= [(3,1,false),(4,1,false),(9,1,false),(22,1,false),(24,1,false),(25,1,false),(27,5,true),(29,6,true),(30,1,false),(31,1,false),(33,2,true),(35,8,true),(51,3,true),(58,1,false),(60,11,true),(67,1,false),(68,1,false),(70,8,true),(72,16,true),(87,1,false),(88,1,false),(90,5,true),(92,6,true),(93,1,false),(95,2,true),(97,8,true),(99,11,true),(133,4,true),(145,2,true),(149,2,true),(165,1,false),(238,2,true),(264,1,false),(265,1,false),(267,8,true),(278,2,true),(339,2,true),(341,2,true),(343,3,true),(368,4,true)]
 fld:= [(27, [(0,1,false),(1,1,false),(2,1,false),(3,1,false),(4,1,false)]),(29, [(0,5,true),(5,1,false)]),(33, [(0,1,false),(1,1,false)]),(35, [(0,6,true),(6,2,true)]),(51, [(0,1,false),(1,1,false),(2,1,false)]),(60, [(0,8,true),(8,1,false),(9,1,false),(10,1,false)]),(70, [(0,1,false),(1,1,false),(2,1,false),(3,1,false),(4,1,false),(5,1,false),(6,1,false),(7,1,false)]),(72, [(0,1,false),(1,8,true),(9,1,false),(10,1,false),(11,5,true)]),(90, [(0,1,false),(1,1,false),(2,1,false),(3,1,false),(4,1,false)]),(92, [(0,5,true),(5,1,false)]),(95, [(0,1,false),(1,1,false)]),(97, [(0,6,true),(6,2,true)]),(99, [(0,8,true),(8,1,false),(9,1,false),(10,1,false)]),(133, [(0,1,false),(1,1,false),(2,1,false),(3,1,false)]),(145, [(0,1,false),(1,1,false)]),(149, [(0,1,false),(1,1,false)]),(160, [(0,1,false)]),(167, [(0,1,false),(1,1,false),(2,1,false)]),(175, [(0,1,false),(1,1,false),(2,1,false)]),(238, [(0,1,false),(1,1,false)]),(267, [(0,1,false),(1,1,false),(2,1,false),(3,1,false),(4,1,false),(5,1,false),(6,1,false),(7,1,false)]),(278, [(0,1,false),(1,1,false)]),(339, [(0,1,false),(1,1,false)]),(341, [(0,1,false),(1,1,false)]),(343, [(0,1,false),(1,1,false),(2,1,false)]),(368, [(0,1,false),(1,1,false),(2,1,false),(3,1,false)])]
 eqs:= [(149, [.s, .s])]
 tz:= [(160,(.sl (.int .u8)))]
abbrev zL (a:Hu Nat) (s:Sh) (n:Nat) (b:Hu Nat) (t:Sh) (c:Hu Nat) (u:Sh):LoopA:=⟨⟨a,s, []⟩,n,⟨b,t, []⟩,⟨c,u, []⟩⟩
def zS (i o:Sh) (n:Nat:=1) (b:Hu Bool:= []):Sig:=⟨i,b,o,n⟩
abbrev j2u:Ty:=.int .i64
abbrev j1i:Ty:=.int .u8
abbrev j53:Ty:=.sl u0a
abbrev j54:Ty:=.sl u0d
abbrev t03:Sh:=.tr false u0a
abbrev u0n:Sh:=.int .i64
abbrev t8j:Sh:=.pair u0n u0n
abbrev q0v:Sh:=.own true u0a
abbrev s6i:Sh:=.tr false u0d
abbrev q3l:Sh:=.tr false u12
abbrev q7r:Sh:=.pair .str .bool
abbrev q4z:Sh:=.own true u0d
abbrev j0f:Sh:=.pair q4z (.pair q0v (.pair q0v t8j))
abbrev j0g:Sh:=.pair .str (.pair .str (.pair .bool u0n))
abbrev p0n:Sh:=.own true .str
abbrev r3v:Sh:=.box j0f
abbrev q40:Sh:=.tr false t7u
abbrev j1p:Sh:=.pair u0n (.pair u0n (.pair u0n (.pair u0n (.pair q40 (.pair q3l (.pair .bool .str))))))
abbrev p30:Sh:=.box (.own true j1i)
abbrev j2v:Sh:=.pair .str .str
abbrev q3p:Sh:=.own true t7u
abbrev o8t:Sh:=.pair u0n (.pair u0n (.pair u0n (.pair u0n (.pair q3p (.pair (.own true u12) (.pair .bool .str))))))
abbrev q3m:Sh:=.agg j1p
abbrev p81:Sh:=.own true j2u
abbrev o0d:Sh:=.pair .str u0n
abbrev q0w:Sh:=.box j1p
abbrev p82:Sh:=.tr true u0d
abbrev p83:Sh:=.tr true t7u
abbrev o2v:Sh:=.pair t03 t8j
abbrev j1o:Sh:=.pair s6i (.pair t03 o2v)
abbrev o8v:Sh:=.agg (.pair u0n (.pair j1p (.pair .str (.pair .bool j1o))))
abbrev j1s:Sh:=.pair j1o t03
abbrev q3q:Sh:=.agg j1o
abbrev q41:Sh:=.box j1o
abbrev j1t:Sh:=.agg (.pair u0n (.pair o8t (.pair .str (.pair .bool j0f))))
abbrev p6i:Sh:=.box o8t
abbrev o9e:Sh:=.pair .str q7r
abbrev o8w:Sh:=.pair u0n .bool
abbrev s3z:Sh:=.box (.pair .str o8w)
abbrev j1u:Sh:=.rbox (.ref 0)
abbrev o5d:Sh:=.pair q3l t8j
abbrev j1v:Sh:=.pair (.pair j0f q0v) (.pair p0n (.own true q7m))
abbrev o43:Sh:=.tr false j2u
abbrev p84:Sh:=.agg j0f
abbrev o2z:Sh:=.tr true j2u
abbrev o0e:Sh:=.tr false .str
abbrev o44:Sh:=.rbox j1p
abbrev o20:Sh:=.tr false q7m
abbrev j1q:Sh:=.pair o0e o20
abbrev o8u:Sh:=.pair (.pair j1s j1q) (.pair t03 (.pair o43 o0e))
abbrev j1r:Sh:=.rbox (.pair s6i (.pair t03 (.pair t03 (.pair u0n (.pair u0n (.pair t03 (.pair o0e (.pair o20 (.pair t03 (.pair o43 o0e))))))))))
abbrev p31:Sh:=.agg j1q
abbrev p85:Sh:=.agg j2v
abbrev o6r:Sh:=.pair q3l u0n
abbrev o6s:Sh:=.pair p31 u0n
abbrev o6t:Sh:=.pair q3m q3m
abbrev o9f:Sh:=.agg (.pair j1s j1q)
abbrev o0f:Sh:=.agg o8u
abbrev o21:Sh:=.int .u32
abbrev o7k:Sh:=.pair q40 t8j
abbrev o7l:Sh:=.pair s6i t8j
abbrev j5i:Sh:=.pair (.box o9e) (.pair q3p (.pair q3l (.pair u0n (.pair u0n (.pair p83 t8j)))))
abbrev j0h:Sh:=.tr false j53
abbrev o2w:Sh:=.box j1q
abbrev j0i:Sh:=.agg (.pair u0n .str)
abbrev j0j:Sh:=.agg (.pair j0f q0v)
abbrev o8x:Sh:=.pair s6i u0n
abbrev o8y:Sh:=.pair u0n t8j
abbrev o8z:Sh:=.own true .bool
abbrev j1w:Sh:=.pair u0n (.own true j1i)
abbrev o80:Sh:=.rbox s3z
abbrev j5j:Sh:=.pair q0w (.pair p83 (.pair u0n (.pair (.box o9e) (.pair q3p u0n))))
abbrev j2w:Sh:=.own false u0a
abbrev o9g:Sh:=.pair r3v j1u
abbrev j2x:Sh:=.agg (.pair p0n (.own true q7m))
abbrev o5e:Sh:=.agg j1s
abbrev j1x:Sh:=.clo 174 (.rbox u0n)
abbrev j1y:Sh:=.clo 289 (.rbox .str)
abbrev j0k:Sh:=.pair p81 .bool
abbrev j0l:Sh:=.pair u0n o8w
abbrev o9h:Sh:=.pair q4z u0n
abbrev j5h:Sh:=.pair q3l (.pair u0n (.pair p82 (.pair u0n (.pair (.box j0g) o9h))))
abbrev j0m:Sh:=.pair q0w u0n
abbrev j0n:Sh:=.pair q0v u0n
abbrev j2y:Sh:=.pair r3v (.pair r3v u0n)
abbrev j0o:Sh:=.pair r3v r3v
abbrev o7m:Sh:=.agg j0g
abbrev o6u:Sh:=.box j2v
abbrev j2z:Sh:=.pair t03 (.clo 366 o44)
abbrev j20:Sh:=.pair t03 (.clo 290 o44)
abbrev j22:Sh:=.clo 215 (.pair j1u r3v)
abbrev j24:Sh:=.clo 218 (.pair p6i j1u)
abbrev j25:Sh:=.clo 219 (.pair j1u p6i)
abbrev j0p:Sh:=.tr false j54
abbrev o9i:Sh:=.tr true .str
abbrev o81:Sh:=.agg o9e
abbrev j1z:Sh:=.pair p84 .bool
abbrev j15:Sh:=.pair t03 u0n
abbrev j17:Sh:=.pair o43 u0n
abbrev j18:Sh:=.pair s6i o0d
abbrev j2a:Sh:=.pair q3q t03
abbrev j2b:Sh:=.pair p0n o8w
abbrev j2c:Sh:=.pair q3q .str
abbrev j2d:Sh:=.pair r3v o80
abbrev j0q:Sh:=.pair p0n u0n
abbrev j5g:Sh:=.pair s6i (.pair o6u (.pair o9i (.pair u0n (.pair .str j0q))))
abbrev j2e:Sh:=.pair q3l o5d
abbrev j2f:Sh:=.pair p81 u0n
abbrev j5k:Sh:=.pair p6i (.pair s3z (.pair p6i t8j))
abbrev j2g:Sh:=.pair o21 o0d
abbrev j5l:Sh:=.pair q0w (.pair r3v (.pair r3v p6i))
abbrev j2h:Sh:=.pair u0n o2v
abbrev j2i:Sh:=.pair j0h t8j
abbrev j5m:Sh:=.clo 176 (.pair (.box s6i) (.box s6i))
abbrev o9j:Sh:=.box j1s
def o79:Nat→Sig
 | 390=>zS (.pair p85 u0n) u0n
 | 324=>zS (.pair q40 u0n) u0n
 | 391=>zS (.pair o81 u0n) u0n
 | 325=>zS o6r u0n
 | 241=>zS (.pair q3m u0n) u0n
 | 135=>zS j15 u0n
 | 426=>zS (.pair o7m u0n) u0n
 | 388=>zS o8x u0n
 | 322=>zS (.pair q3q u0n) u0n
 | 239=>zS (.pair o5e u0n) u0n
 | 137=>zS (.pair o0e u0n) u0n
 | 389=>zS (.pair j0i u0n) u0n
 | 323=>zS (.pair o20 u0n) u0n
 | 240=>zS o6s u0n
 | 134=>zS (.pair o9f u0n) u0n
 | 136=>zS j17 u0n
 | 44=>zS (.pair o0f u0n) u0n
 | 245=>zS (.pair q40 q3m) q3p
 | 246=>zS (.pair q40 q40) .bool
 | 330=>zS (.pair p85 .str) .bool
 | 247=>zS (.pair q40 p85) q3p
 | 79=>zS j18 u0n
 | 20=>zS j18 q7r 2
 | 331=>zS (.pair s6i p85) p0n
 | 249=>zS (.pair s6i (.pair p85 u0n)) q3p
 | 427=>zS (.pair q40 q3l) .bool
 | 428=>zS (.pair q3l q3l) .bool
 | 392=>zS o6t .bool
 | 326=>zS t03 j0k 2
 | 387=>zS (.pair s6i o6r) q4z
 | 327=>zS t03 q4z
 | 242=>zS t03 .bool
 | 138=>zS o0f .bool
 | 70=>zS q3m (.agg o8t)
 | 178=>zS t03 q0v
 | 68=>zS q3q p84
 | 69=>zS j2a u0n
 | 71=>zS o8x q4z
 | 14=>zS j2a p84
 | 120=>zS o8y .bool
 | 123=>zS .str .bool
 | 75=>zS o81 .bool
 | 180=>zS q3l .bool
 | 235=>zS p85 .bool
 | 121=>zS q3m .bool
 | 131=>zS s6i .bool
 | 42=>zS q3q .bool
 | 232=>zS u0n .str
 | 234=>zS o0d j0l 3
 | 227=>zS o0d (.pair .str o8w) 3
 | 111=>zS s3z (.pair .str s3z) 1 [true]
 | 112=>zS s3z (.pair .bool s3z) 1 [true]
 | 118=>zS s3z (.pair u0n s3z) 1 [true]
 | 113=>zS o0d (.pair (.agg o8t) o8w) 3
 | 119=>zS (.pair s3z u0n) (.pair q0v s3z) 1 [true,false]
 | 38=>zS o0d (.pair p84 o8w) 3
 | 122=>zS q3m .bool
 | 124=>zS q3q .bool
 | 39=>zS o8v .bool
 | 224=>zS o21 .str
 | 318=>zS (.pair o21 .str) o21
 | 225=>zS .str o21
 | 109=>zS .str q7r 2
 | 221=>zS .str .str
 | 222=>zS .bool .str
 | 223=>zS q3m q7r 2
 | 233=>zS t03 .str
 | 117=>zS q3q q7r 2
 | 107=>zS o8v q7r 2
 | 108=>zS .str q7r 2
 | 33=>zS .str (.pair j1t .bool) 2
 | 355=>zS o6s q7r 2
 | 263=>zS (.pair p31 t8j) q7r 2
 | 264=>zS u0n u0n
 | 266=>zS o6s u0n
 | 265=>zS o6s u0n
 | 157=>zS o6s j2b 3
 | 158=>zS p31 u0n
 | 53=>zS p31 p0n
 | 152=>zS .unit p84
 | 307=>zS j2c u0n
 | 429=>zS o6t .bool
 | 394=>zS o6t .bool
 | 393=>zS (.pair q3m t03) .bool
 | 333=>zS (.pair q3q q3m) p84
 | 334=>zS j2c p84
 | 346=>zS (.pair q3q (.pair q3m .str)) p84
 | 258=>zS (.pair q3q o8v) (.pair q3q .bool) 2
 | 153=>zS (.pair q3q o8v) j1z 2
 | 50=>zS p31 j1z 2
 | 261=>zS p31 j2x
 | 357=>zS .unit u0n
 | 375=>zS p31 .bool
 | 303=>zS p31 .bool
 | 191=>zS p31 (.pair (.agg j1v) .bool) 2
 | 73=>zS o5e .bool
 | 328=>zS (.pair t03 t03) .bool
 | 248=>zS .unit p85
 | 329=>zS (.pair s6i o8x) .bool
 | 244=>zS (.pair q3q q3q) .bool
 | 243=>zS o9f .bool
 | 139=>zS o0f .bool
 | 140=>zS o0f .bool
 | 72=>zS o5e j0j
 | 332=>zS q3q .bool
 | 250=>zS (.pair o5e q7r) (.pair j0j (.pair j1t u0n)) 3
 | 141=>zS o0f .bool
 | 45=>zS o0f .bool
 | 397=>zS p85 p85
 | 337=>zS q40 q3p
 | 398=>zS o81 o81
 | 338=>zS q3l (.own true u12)
 | 253=>zS q3m (.agg o8t)
 | 143=>zS t03 q0v
 | 430=>zS o7m o7m
 | 395=>zS s6i q4z
 | 335=>zS q3q p84
 | 251=>zS o5e j0j
 | 145=>zS o0e p0n
 | 396=>zS j0i j0i
 | 336=>zS o20 (.own true q7m)
 | 252=>zS p31 j2x
 | 142=>zS o9f (.agg j1v)
 | 144=>zS o43 p81
 | 46=>zS o0f (.agg (.pair j1v (.pair q0v (.pair p81 p0n))))
 | 194=>zS j17 u0n
 | 84=>zS j17 .bool
 | 91=>zS q3m .bool
 | 201=>zS (.pair p85 .str) .bool
 | 195=>zS (.pair q40 q3l) .bool
 | 196=>zS (.pair q3l q3l) .bool
 | 85=>zS o6t .bool
 | 23=>zS t03 j0k 2
 | 200=>zS (.pair q4z (.pair u0n q4z)) q4z
 | 380=>zS .str .bool
 | 308=>zS j2v u0n
 | 381=>zS u0n .bool
 | 309=>zS t8j u0n
 | 199=>zS (.pair o7m o7m) u0n
 | 198=>zS (.pair o7m (.rbox j0g)) .bool
 | 10005=>zS (.pair s6i (.clo 198 (.rbox j0g))) u0n
 | 86=>zS (.pair s6i o6r) q4z
 | 87=>zS (.pair q40 q40) .bool
 | 88=>zS (.pair q40 p85) q3p
 | 312=>zS p0n p0n 0 [true]
 | 313=>zS p0n p0n
 | 202=>zS s6i p0n
 | 292=>zS j18 u0n
 | 203=>zS j18 q7r 2
 | 89=>zS (.pair s6i (.pair p85 u0n)) q3p
 | 90=>zS (.pair q40 q3m) q3p
 | 24=>zS t03 .bool
 | 25=>zS o0f .bool
 | 92=>zS .unit p85
 | 26=>zS o0f .bool
 | 185=>zS q3m (.agg o8t)
 | 283=>zS t03 q0v
 | 165=>zS q3q p84
 | 172=>zS j2a u0n
 | 293=>zS (.pair .str (.rbox s6i)) u0n
 | 175=>zS o8x q4z
 | 174=>zS (.pair q3m (.rbox u0n)) .bool
 | 10004=>zS (.pair t03 j1x) u0n
 | 10003=>zS (.pair q0v j1x) q0v
 | 64=>zS j2a p84
 | 410=>zS o6t .bool
 | 367=>zS o6t .bool
 | 286=>zS o6t .bool
 | 366=>zS (.pair q3m o44) .bool
 | 10008=>zS j2z u0n
 | 10007=>zS j2z .bool
 | 10006=>zS j2z .bool
 | 284=>zS (.pair q3m t03) .bool
 | 285=>zS (.pair q3m o44) .bool
 | 10010=>zS (.pair t03 (.clo 285 o44)) u0n
 | 10009=>zS (.pair q0v (.clo 285 o44)) q0v
 | 166=>zS (.pair q3q q3m) p84
 | 288=>zS (.pair q3m (.rbox .str)) .bool
 | 10013=>zS (.pair t03 (.clo 288 (.rbox .str))) u0n
 | 167=>zS j2c u0n
 | 289=>zS (.pair q3m (.rbox .str)) .bool
 | 10012=>zS (.pair t03 j1y) u0n
 | 10011=>zS (.pair q0v j1y) q0v
 | 169=>zS j2c p84
 | 205=>zS o5e j0j
 | 206=>zS q3q .bool
 | 95=>zS (.pair o5e q7r) (.pair j0j (.pair j1t u0n)) 3
 | 94=>zS (.pair q3m j1r) .bool
 | 10002=>zS (.pair t03 (.clo 94 j1r)) u0n
 | 10001=>zS (.pair t03 (.clo 94 j1r)) .bool
 | 10000=>zS (.pair t03 (.clo 94 (.rbox o8u))) .bool
 | 27=>zS o0f .bool
 | 212=>zS o8y .bool
 | 231=>zS u0n q7r 2
 | 209=>zS .str q7r 2
 | 97=>zS (.pair p30 o0e) p30 0 [true,false]
 | 98=>zS (.pair p30 .bool) p30 0 [true,false]
 | 116=>zS (.pair p30 o43) p30 0 [true,false]
 | 129=>zS .str .bool
 | 236=>zS p85 .bool
 | 321=>zS o81 .bool
 | 237=>zS q3l .bool
 | 127=>zS q3m .bool
 | 99=>zS q3m q7r 2
 | 128=>zS q3m .bool
 | 290=>zS (.pair q3m o44) .bool
 | 10017=>zS j20 u0n
 | 10016=>zS j20 .bool
 | 10015=>zS j20 .bool
 | 170=>zS j15 .bool
 | 291=>zS (.pair .nil u0n) q0v
 | 171=>zS j0h j2w
 | 230=>zS s6i .bool
 | 115=>zS q3q .bool
 | 35=>zS q3q q7r 2
 | 125=>zS q3m .bool
 | 126=>zS q3q .bool
 | 40=>zS o8v .bool
 | 316=>zS (.pair o21 .str) o21
 | 210=>zS .str o21
 | 100=>zS .str q7r 2
 | 30=>zS o8v q7r 2
 | 101=>zS .str q7r 2
 | 317=>zS o0d j0l 3
 | 211=>zS o0d (.pair .str o8w) 3
 | 102=>zS s3z (.pair .str s3z) 1 [true]
 | 103=>zS s3z (.pair .bool s3z) 1 [true]
 | 213=>zS s3z (.pair u0n s3z) 1 [true]
 | 215=>zS (.pair o80 r3v) (.pair o80 r3v) 0 [true,true]
 | 10018=>zS (.pair s3z j22) (.pair s3z (.clo 215 (.pair .skip r3v))) 0 [true,true]
 | 218=>zS (.pair p6i o80) (.pair p6i o80) 0 [true,true]
 | 10020=>zS (.pair s3z j24) (.pair s3z (.clo 218 (.pair p6i .skip))) 0 [true,true]
 | 219=>zS (.pair o80 p6i) (.pair o80 p6i) 0 [true,true]
 | 10021=>zS (.pair s3z j25) (.pair s3z (.clo 219 (.pair .skip p6i))) 0 [true,true]
 | 105=>zS s3z (.pair (.agg o8t) s3z) 1 [true]
 | 216=>zS j2d j2d 0 [true,true]
 | 10019=>zS (.pair s3z (.clo 216 o9g)) (.pair s3z (.clo 216 (.pair r3v .skip))) 0 [true,true]
 | 217=>zS j2d j2d 0 [true,true]
 | 10022=>zS (.pair s3z (.clo 217 o9g)) (.pair s3z (.clo 217 (.pair r3v .skip))) 0 [true,true]
 | 104=>zS s3z (.pair p84 s3z) 1 [true]
 | 31=>zS .str (.pair j1t .bool) 2
 | 60=>zS .unit p84
 | 365=>zS o6s q7r 2
 | 278=>zS (.pair p31 t8j) q7r 2
 | 280=>zS u0n .bool
 | 279=>zS u0n u0n
 | 282=>zS o6s u0n
 | 281=>zS o6s u0n
 | 162=>zS o6s j2b 3
 | 164=>zS p31 u0n
 | 61=>zS p31 p0n
 | 168=>zS (.pair q3q (.pair q3m .str)) p84
 | 62=>zS (.pair q3q o8v) j1z 2
 | 11=>zS p31 j1z 2
 | 163=>zS p31 .bool
 | 58=>zS p31 .bool
 | 59=>zS p31 j2x
 | 10=>zS p31 (.pair (.agg j1v) .bool) 2
 | 176=>zS (.pair u0n (.pair (.rbox s6i) (.rbox s6i))) .bool
 | 294=>zS (.pair .nil u0n) q4z
 | 177=>zS j0p q4z
 | 67=>zS (.pair s6i o8x) .bool
 | 66=>zS o6t .bool
 | 10014=>zS (.pair t03 (.pair t03 (.clo 66 .unit))) .bool
 | 13=>zS (.pair q3q q3q) .bool
 | 63=>zS o5e .bool
 | 12=>zS o9f .bool
 | 28=>zS o0f .bool
 | 47=>zS o0f .bool
 | 401=>zS (.pair p85 p85) .bool
 | 341=>zS (.pair q40 q40) .bool
 | 402=>zS (.pair o81 o81) .bool
 | 342=>zS (.pair q3l q3l) .bool
 | 256=>zS o6t .bool
 | 147=>zS (.pair t03 t03) .bool
 | 431=>zS (.pair o7m o7m) .bool
 | 399=>zS (.pair s6i s6i) .bool
 | 339=>zS (.pair q3q q3q) .bool
 | 254=>zS (.pair o5e o5e) .bool
 | 149=>zS (.pair o0e o0e) .bool
 | 400=>zS (.pair j0i j0i) .bool
 | 340=>zS (.pair o20 o20) .bool
 | 255=>zS (.pair p31 p31) .bool
 | 146=>zS (.pair o9f o9f) .bool
 | 148=>zS (.pair o43 o43) .bool
 | 48=>zS (.pair o0f o0f) .bool
 | 6=>zS o0f .bool
 | _=>zS .unit .unit 0
def o9z:Nat→Nat→Ht Join
 | 330,3=>some ⟨[4],.bool,[]⟩
 | 79,11=>some ⟨[47],.bool,[]⟩
 | 20,5=>some ⟨[21],.bool,[]⟩
 | 392,3=>some ⟨[19],.bool,[]⟩
 | 392,7=>some ⟨[31],.bool,[]⟩
 | 392,11=>some ⟨[43],.bool,[]⟩
 | 392,15=>some ⟨[4],.bool,[]⟩
 | 326,21=>some ⟨[36],.bool,[]⟩
 | 326,29=>some ⟨[49],.bool,[]⟩
 | 326,33=>some ⟨[9],.bool,[]⟩
 | 387,17=>some ⟨[72],.bool,[]⟩
 | 71,13=>some ⟨[38],.bool,[]⟩
 | 71,37=>some ⟨[90],.bool,[]⟩
 | 120,3=>some ⟨[6],.bool,[]⟩
 | 123,9=>some ⟨[19],.bool,[]⟩
 | 75,3=>some ⟨[2],.bool,[]⟩
 | 180,9=>some ⟨[33],.bool,[]⟩
 | 235,3=>some ⟨[2],.bool,[]⟩
 | 121,3=>some ⟨[31],.bool,[]⟩
 | 121,17=>some ⟨[67],.bool,[]⟩
 | 121,21=>some ⟨[86],.bool,[]⟩
 | 121,25=>some ⟨[2],.bool,[]⟩
 | 131,11=>some ⟨[39],.bool,[]⟩
 | 131,15=>some ⟨[74],.bool,[]⟩
 | 42,3=>some ⟨[38],.bool,[]⟩
 | 42,27=>some ⟨[98],.bool,[]⟩
 | 42,41=>some ⟨[146],.bool,[]⟩
 | 234,13=>some ⟨[25],.bool,[]⟩
 | 234,23=>some ⟨[54],.bool,[]⟩
 | 227,5=>some ⟨[30],.bool,[]⟩
 | 111,5=>some ⟨[26],.bool,[]⟩
 | 112,3=>some ⟨[30],.bool,[]⟩
 | 118,5=>some ⟨[26],.bool,[]⟩
 | 113,17=>some ⟨[46],.bool,[]⟩
 | 113,31=>some ⟨[76],.bool,[]⟩
 | 113,47=>some ⟨[108],.bool,[]⟩
 | 119,9=>some ⟨[28],.bool,[]⟩
 | 38,13=>some ⟨[37],.bool,[]⟩
 | 38,31=>some ⟨[72],.bool,[]⟩
 | 122,3=>some ⟨[2],.bool,[]⟩
 | 124,3=>some ⟨[2],.bool,[]⟩
 | 39,7=>some ⟨[3],.bool,[]⟩
 | 39,9=>some ⟨[54],.bool,[]⟩
 | 39,13=>some ⟨[77],.bool,[]⟩
 | 108,5=>some ⟨[24],.bool,[]⟩
 | 33,5=>some ⟨[20],.bool,[]⟩
 | 33,29=>some ⟨[66],.bool,[]⟩
 | 263,15=>some ⟨[28],.bool,[]⟩
 | 266,5=>some ⟨[18],.bool,[]⟩
 | 157,27=>some ⟨[52],.bool,[]⟩
 | 429,7=>some ⟨[31],.bool,[]⟩
 | 394,3=>some ⟨[4],.bool,[]⟩
 | 393,9=>some ⟨[25],.bool,[]⟩
 | 258,15=>some ⟨[36],.bool,[]⟩
 | 153,3=>some ⟨[16],.bool,[]⟩
 | 50,17=>some ⟨[39],.bool,[]⟩
 | 375,3=>some ⟨[15],.bool,[]⟩
 | 375,23=>some ⟨[58],.bool,[]⟩
 | 303,3=>some ⟨[24],.bool,[]⟩
 | 303,11=>some ⟨[2],.bool,[]⟩
 | 191,5=>some ⟨[17],.bool,[]⟩
 | 73,3=>some ⟨[16],.bool,[]⟩
 | 73,15=>some ⟨[68],.bool,[]⟩
 | 328,17=>some ⟨[44],.bool,[]⟩
 | 329,23=>some ⟨[61],.bool,[]⟩
 | 244,3=>some ⟨[4],.bool,[]⟩
 | 243,3=>some ⟨[14],.bool,[]⟩
 | 140,11=>some ⟨[40],.bool,[]⟩
 | 332,3=>some ⟨[2],.bool,[]⟩
 | 250,11=>some ⟨[26],.bool,[]⟩
 | 141,11=>some ⟨[39],.bool,[]⟩
 | 45,3=>some ⟨[2],.bool,[]⟩
 | 201,3=>some ⟨[4],.bool,[]⟩
 | 85,3=>some ⟨[19],.bool,[]⟩
 | 85,7=>some ⟨[4],.bool,[]⟩
 | 23,25=>some ⟨[8],.bool,[]⟩
 | 292,11=>some ⟨[40],.bool,[]⟩
 | 203,5=>some ⟨[21],.bool,[]⟩
 | 89,13=>some ⟨[31],.bool,[]⟩
 | 26,11=>some ⟨[33],.bool,[]⟩
 | 175,11=>some ⟨[31],.bool,[]⟩
 | 410,3=>some ⟨[4],.bool,[]⟩
 | 286,3=>some ⟨[4],.bool,[]⟩
 | 366,3=>some ⟨[3],.bool,[]⟩
 | 206,3=>some ⟨[2],.bool,[]⟩
 | 95,13=>some ⟨[27],.bool,[]⟩
 | 94,5=>some ⟨[3],.bool,[]⟩
 | 212,3=>some ⟨[6],.bool,[]⟩
 | 129,9=>some ⟨[19],.bool,[]⟩
 | 236,3=>some ⟨[2],.bool,[]⟩
 | 321,3=>some ⟨[2],.bool,[]⟩
 | 237,9=>some ⟨[29],.bool,[]⟩
 | 127,15=>some ⟨[52],.bool,[]⟩
 | 127,19=>some ⟨[74],.bool,[]⟩
 | 127,23=>some ⟨[2],.bool,[]⟩
 | 230,9=>some ⟨[50],.bool,[]⟩
 | 115,3=>some ⟨[36],.bool,[]⟩
 | 115,25=>some ⟨[88],.bool,[]⟩
 | 115,37=>some ⟨[128],.bool,[]⟩
 | 125,3=>some ⟨[2],.bool,[]⟩
 | 126,3=>some ⟨[2],.bool,[]⟩
 | 40,11=>some ⟨[3],.bool,[]⟩
 | 40,15=>some ⟨[3],.bool,[]⟩
 | 40,25=>some ⟨[2],.bool,[]⟩
 | 101,11=>some ⟨[26],.bool,[]⟩
 | 317,11=>some ⟨[26],.bool,[]⟩
 | 317,23=>some ⟨[57],.bool,[]⟩
 | 211,5=>some ⟨[30],.bool,[]⟩
 | 102,5=>some ⟨[26],.bool,[]⟩
 | 103,3=>some ⟨[32],.bool,[]⟩
 | 213,5=>some ⟨[26],.bool,[]⟩
 | 10018,5=>some ⟨[17],.bool,[]⟩
 | 10020,5=>some ⟨[17],.bool,[]⟩
 | 10021,5=>some ⟨[17],.bool,[]⟩
 | 10019,5=>some ⟨[17],.bool,[]⟩
 | 10022,5=>some ⟨[17],.bool,[]⟩
 | 31,5=>some ⟨[20],.bool,[]⟩
 | 31,29=>some ⟨[64],.bool,[]⟩
 | 280,3=>some ⟨[2],.bool,[]⟩
 | 282,5=>some ⟨[18],.bool,[]⟩
 | 162,5=>some ⟨[29],.bool,[]⟩
 | 162,21=>some ⟨[49],.bool,[]⟩
 | 62,3=>some ⟨[16],.bool,[]⟩
 | 62,23=>some ⟨[6],.bool,[]⟩
 | 62,33=>some ⟨[72],.bool,[]⟩
 | 62,41=>some ⟨[92],.bool,[]⟩
 | 11,15=>some ⟨[35],.bool,[]⟩
 | 163,21=>some ⟨[38],.bool,[]⟩
 | 163,27=>some ⟨[2],.bool,[]⟩
 | 58,7=>some ⟨[2],.bool,[]⟩
 | 10,5=>some ⟨[17],.bool,[]⟩
 | 66,7=>some ⟨[4],.bool,[]⟩
 | 63,13=>some ⟨[71],.bool,[]⟩
 | 12,5=>some ⟨[2],.bool,[]⟩
 | 28,5=>some ⟨[2],.bool,[]⟩
 | 47,3=>some ⟨[2],.bool,[]⟩
 | _,_=>none
abbrev s7x:=zL [0,1,5] o7k 0 [1] u0n [4] u0n
abbrev s7y:=zL [0,1,5] o5d 0 [1] u0n [4] u0n
abbrev r53:=zL [0,1,5] o2v 0 [1] u0n [4] u0n
abbrev s2j:=zL [0,1,5] o7l 0 [1] u0n [4] u0n
abbrev s4o:=zL [0,1,5] (.pair o0e t8j) 0 [1] u0n [4] u0n
abbrev r52:=zL [0,1,5] (.pair o20 t8j) 0 [1] u0n [4] u0n
abbrev r2d:=zL [3,5,6] (.pair q0w (.pair q3p u0n)) 0 [5] q3p [] .unit
abbrev r2e:=zL [3,5,6,7,8,9] j5j 2 [3,5,6,7,8] (.pair q0w (.pair p83 (.pair u0n (.pair (.box o9e) q3p)))) [] .unit
abbrev s74:=zL [3,5,6,7,8,10] j5j 4 [3,6,8] (.pair q0w (.pair u0n q3p)) [] .unit
abbrev s8e:=zL [0,1,5] (.pair q40 (.pair q40 u0n)) 0 [] .unit [4] .bool
abbrev r6c:=zL [0,3,5,6] (.pair q40 (.pair o6u (.pair q3p u0n))) 0 [5] q3p [] .unit
abbrev r9u:=zL [0,1,2,7,8] (.pair s6i (.pair .str o8y)) 0 [7] u0n [] .unit
abbrev r2o:=zL [0,3,5,6] (.pair s6i (.pair o6u j0q)) 0 [5] p0n [] .unit
abbrev r2p:=zL [0,3,5,6,7,8,9] j5g 2 [0,3,5,6,7,8] (.pair s6i (.pair o6u (.pair o9i (.pair u0n (.pair .str p0n))))) [] .unit
abbrev s8d:=zL [0,3,5,6,7,8,10] j5g 4 [0,3,6,8] (.pair s6i (.pair o6u (.pair u0n p0n))) [] .unit
abbrev r6a:=zL [0,2,7,8,9] (.pair s6i (.pair u0n (.pair q3p (.pair o9i u0n)))) 0 [7] q3p [] .unit
abbrev r2k:=zL [0,1,5] (.pair q40 o6r) 0 [] .unit [4] .bool
abbrev r2l:=zL [0,1,5,6] (.pair q40 o5d) 2 [0,1,5] (.pair q40 o6r) [4] .bool
abbrev r9q:=zL [0,1,5] (.pair q3l o6r) 0 [] .unit [4] .bool
abbrev r9r:=zL [0,1,5,6] j2e 2 [0,1,5] (.pair q3l o6r) [4] .bool
abbrev s0x:=zL [0,4,5] (.pair t03 (.pair o8z u0n)) 0 [0,4] (.pair t03 o8z) [] .unit
abbrev s0y:=zL [0,4,6] (.pair t03 (.pair o8z p81)) 2 [6] p81 [2,3] j0k
abbrev t9w:=zL [0,4,6,7,8] (.pair t03 (.pair o8z (.pair p81 t8j))) 4 [0,4,6,7] (.pair t03 (.pair o8z j2f)) [] .unit
abbrev t9x:=zL [0,4,6,7,8,9,10] (.pair t03 (.pair o8z (.pair p81 (.pair u0n (.pair u0n (.pair .bool u0n)))))) 6 [0,4,6,7,8,9] (.pair t03 (.pair o8z (.pair p81 j0l))) [] .unit
abbrev s0v:=zL [1,2,7,8] (.pair q3l (.pair u0n o9h)) 0 [7] q4z [] .unit
abbrev s0w:=zL [1,2,7,8,9,10,11] j5h 2 [1,2,7,8,9,10,11] j5h [] .unit
abbrev s01:=zL [0,3,4] (.pair t03 o9h) 0 [3] q4z [] .unit
abbrev s0z:=zL [0,3,5,6,7] (.pair t03 (.pair o2z (.pair p82 (.pair p83 u0n)))) 0 [] .unit [2] .bool
abbrev t9y:=zL [0,3,5,6,7,8,9] (.pair t03 (.pair o2z (.pair p82 (.pair p83 (.pair u0n j0m))))) 2 [0,3,5,6,7,8] (.pair t03 (.pair o2z (.pair p82 (.pair p83 (.pair u0n q0w))))) [2] .bool
abbrev r2q:=zL [0,3,4] (.pair t03 j0n) 0 [3] q0v [] .unit
abbrev s73:=zL [1,5,6] o2v 0 [5] u0n [] .unit
abbrev r2m:=zL [0,1,5,6] (.pair s6i (.pair u0n o9h)) 0 [1,5] (.pair u0n p82) [] .unit
abbrev s79:=zL [1,5,8,9] (.pair u0n (.pair p82 o9h)) 2 [8] q4z [] .unit
abbrev s8a:=zL [1,5,8,9,10,11] (.pair u0n (.pair p82 (.pair q4z o8y))) 4 [1,5,8,9,10] (.pair u0n (.pair p82 (.pair q4z t8j))) [] .unit
abbrev r6b:=zL [2,4,5,6,7] (.pair q41 (.pair r3v (.pair r3v t8j))) 0 [2,4,5,6] (.pair q41 j2y) [] .unit
abbrev r9p:=zL [0,3] o0d 0 [0] .str [2] .bool
abbrev s8c:=zL [0,3] o6r 0 [0] q3l [2] .bool
abbrev r9t:=zL [1,3] j0m 0 [1] q0w [2] .bool
abbrev s2p:=zL [0,3] o8x 0 [0] s6i [2] .bool
abbrev r57:=zL [1,3] (.pair q41 u0n) 0 [1] q41 [2] .bool
abbrev r14:=zL [1,4,5] (.pair q41 j2f) 2 [1,4] (.pair q41 p81) [2] .bool
abbrev r17:=zL [1,4,7] (.pair q41 j2f) 4 [1,4] (.pair q41 o2z) [2] .bool
abbrev r19:=zL [1,4,9] (.pair q41 (.pair o2z u0n)) 6 [] .unit [2] .bool
abbrev r2a:=zL [1,4,9,10] (.pair q41 (.pair o2z t8j)) 8 [1,4,9] (.pair q41 (.pair o2z u0n)) [2] .bool
abbrev r6d:=zL [0,3] j1w 0 [0,3] j1w [] .unit
abbrev r2g:=zL [0,1,7,8,9] (.pair .str (.pair u0n o8y)) 0 [] .unit [4,5,6] j0l
abbrev r2f:=zL [4,7,8,9,10] j5k 0 [4,7,8] (.pair p6i (.pair s3z p6i)) [] .unit
abbrev s76:=zL [4,7,8,12,13] j5k 2 [4,7,8] (.pair p6i (.pair s3z p6i)) [] .unit
abbrev s00:=zL [0,1,5,6,7] (.pair s3z (.pair u0n (.pair q0v t8j))) 0 [0,5] (.pair s3z q0v) [0,4] (.pair s3z q0v)
abbrev s75:=zL [4,7,8,9,10] (.pair r3v (.pair s3z (.pair r3v t8j))) 0 [4,7,8] (.pair r3v (.pair s3z r3v)) [] .unit
abbrev r2i:=zL [0,1,5] j2g 0 [0] o21 [] .unit
abbrev r2j:=zL [0,1,5,6] (.pair o21 (.pair .str t8j)) 2 [0,1,5] j2g [] .unit
abbrev r2n:=zL [1,4,5] (.pair q0w o0d) 0 [1,4] (.pair q0w .str) [] .unit
abbrev s8b:=zL [1,4,6] (.pair q0w o0d) 2 [1,4] (.pair q0w .str) [] .unit
abbrev r2r:=zL [0,3,4] (.pair t03 o0d) 0 [3] .str [] .unit
abbrev s71:=zL [1,4,5] (.pair q41 o0d) 0 [1,4] (.pair q41 .str) [] .unit
abbrev s2n:=zL [1,2,6] (.pair u0n (.pair o2w u0n)) 0 [1,2] (.pair u0n o2w) [4,5] q7r
abbrev s2o:=zL [1,2,3,8,9] (.pair u0n (.pair u0n (.pair o2w o0d))) 0 [8] .str [6,7] q7r
abbrev s4u:=zL [1,2,7,8,10,11,12] (.pair u0n (.pair o2w (.pair p0n (.pair .str (.pair p0n t8j))))) 0 [10,11] j0q [4,5,6] j2b
abbrev r2h:=zL [1,2,5] (.pair .str (.pair q41 u0n)) 0 [] .unit [4] u0n
abbrev r9s:=zL [1,2,5] (.pair t03 j0m) 0 [] .unit [4] .bool
abbrev s78:=zL [2,3,4,5,6,7] (.pair q41 (.pair q0w (.pair r3v (.pair r3v (.pair (.box (.pair u0n (.pair u0n (.pair u0n (.pair u0n (.pair p83 (.pair (.tr true u12) (.pair .bool .str)))))))) u0n))))) 0 [3,4,5] (.pair q0w j0o) [] .unit
abbrev r2b:=zL [1,2,4,5,6] (.pair .str (.pair q41 j2y)) 0 [4,5] j0o [] .unit
abbrev s4s:=zL [2,3,4,6,7,8,9] (.pair .str (.pair q41 (.pair q0w (.pair r3v (.pair r3v (.pair p6i u0n)))))) 0 [2,3,4,6,7,8] (.pair .str (.pair q41 j5l)) [] .unit
abbrev s2m:=zL [2,3,4,6,7,10] (.pair .str (.pair q41 (.pair q0w j2y))) 2 [4,6,7] (.pair q0w j0o) [] .unit
abbrev r2c:=zL [2,4,5,6] (.pair r3v (.pair r3v (.pair o9i u0n))) 0 [2,4] j0o [2,3] (.pair r3v .bool)
abbrev r58:=zL [1,3] (.pair o2w u0n) 0 [1] o2w [2] .bool
abbrev r59:=zL [1,4] (.pair o2w u0n) 2 [] .unit [2] .bool
abbrev s72:=zL [1,3] (.pair o9j u0n) 0 [] .unit [2] .bool
abbrev s4q:=zL [1,3,4,5] (.pair o9j (.pair u0n j0m)) 2 [1,3,4] (.pair o9j (.pair u0n q0w)) [2] .bool
abbrev s4r:=zL [1,3,4,6] (.pair o9j (.pair u0n j0m)) 4 [1,3] (.pair o9j u0n) [2] .bool
abbrev s8f:=zL [0,1,5] (.pair t03 j15) 0 [] .unit [4] .bool
abbrev s77:=zL [0,1,2,7,8] (.pair s6i (.pair s6i (.pair u0n (.pair o6u u0n)))) 0 [] .unit [6] .bool
abbrev s4t:=zL [1,3,4] (.pair (.box o8u) (.pair p83 u0n)) 0 [1,3] (.pair (.box o8u) p83) [2] .bool
abbrev s2l:=zL [1,3] (.pair (.box o8u) u0n) 0 [] .unit [2] .bool
abbrev s7z:=zL [0,3,4] (.pair q40 (.pair q3p u0n)) 0 [3] q3p [] .unit
abbrev s70:=zL [0,3,4] (.pair q3l (.pair (.own true u12) u0n)) 0 [3] (.own true u12) [] .unit
abbrev r56:=zL [0,3,4] (.pair t03 j0n) 0 [3] q0v [] .unit
abbrev s2k:=zL [0,3,4] (.pair s6i o9h) 0 [3] q4z [] .unit
abbrev s4p:=zL [0,3,4] (.pair o0e j0q) 0 [3] p0n [] .unit
abbrev r55:=zL [0,3,4] (.pair o20 (.pair (.own true q7m) u0n)) 0 [3] (.own true q7m) [] .unit
abbrev r54:=zL [0,3,4] (.pair o43 j2f) 0 [3] p81 [] .unit
abbrev t58:=zL [0,1,7,8] (.pair o43 o8y) 0 [] .unit [4] u0n
abbrev r1v:=zL [1,9,10,11] (.pair q3l o7k) 0 [] .unit [4] .bool
abbrev r1w:=zL [1,6,9,10,11,15,16,17] (.pair q3l (.pair o6u (.pair q40 (.pair u0n (.pair u0n o5d))))) 2 [1,9,10,11] (.pair q3l o7k) [4] .bool
abbrev r9m:=zL [1,9,10,11] j2e 0 [] .unit [4] .bool
abbrev r9n:=zL [1,6,9,10,11,15,16,17] (.pair q3l (.pair (.box o9e) (.pair q3l (.pair u0n (.pair u0n o5d))))) 2 [1,9,10,11] j2e [4] .bool
abbrev s0s:=zL [0,4] (.pair t03 p81) 0 [4] p81 [2,3] j0k
abbrev s0t:=zL [0,4,5,16,17,18] (.pair t03 (.pair p81 (.pair .bool o2v))) 2 [0,4,5] (.pair t03 j0k) [] .unit
abbrev t9t:=zL [0,4,5,6,7,8,16,17,18,26,27,28] (.pair t03 (.pair p81 (.pair .bool (.pair u0n (.pair q0w (.pair .bool (.pair t03 (.pair u0n j2h)))))))) 4 [0,4,5,6,8,16,17,18] (.pair t03 (.pair p81 (.pair .bool (.pair u0n (.pair .bool o2v))))) [] .unit
abbrev u13:=zL [0,1,7,8] (.pair s6i (.pair (.clo 198 (.rbox j0g)) t8j)) 0 [] .unit [4] u0n
abbrev s0r:=zL [2,7,14,15,16] (.pair u0n (.pair q4z o5d)) 0 [7] q4z [] .unit
abbrev t28:=zL [0,1,12,13] (.pair q40 o7k) 0 [] .unit [4] .bool
abbrev r5w:=zL [3,5,8,9,10] (.pair o6u (.pair q3p o7k)) 0 [5] q3p [] .unit
abbrev r5x:=zL [3,6,7,8] (.pair p0n o7l) 0 [3] p0n [] .unit
abbrev r5y:=zL [0,1,2,7,10,11,12] (.pair s6i (.pair .str (.pair u0n (.pair u0n o7l)))) 0 [7] u0n [] .unit
abbrev r5v:=zL [0,2,4,7,13,14,15] (.pair s6i (.pair u0n (.pair o6u (.pair q3p (.pair o9i t8j))))) 0 [7] q3p [] .unit
abbrev r1p:=zL [5,16,17,18] (.pair q3p o5d) 0 [5] q3p [] .unit
abbrev r1q:=zL [5,7,8,16,17,18,22,23,24] (.pair p83 j5i) 2 [5,7,8,16,17,18] (.pair p83 (.pair (.box o9e) (.pair q3p o5d))) [] .unit
abbrev s7n:=zL [7,8,16,17,18,49,50,51] j5i 4 [8,16,17,18] (.pair q3p o5d) [] .unit
abbrev s0u:=zL [0,3,5,21,22,23] (.pair t03 (.pair o2z (.pair p82 o2v))) 0 [0,3,5] (.pair t03 (.pair o2z p82)) [] .unit
abbrev t9u:=zL [0,5,8,34,35,36] (.pair t03 (.pair p82 (.pair p83 (.pair o2z t8j)))) 2 [] .unit [2] .bool
abbrev t9v:=zL [0,5,8,11,34,35,36,45,46,47] (.pair t03 (.pair p82 (.pair p83 (.pair q0w (.pair o2z (.pair u0n (.pair u0n o7k))))))) 4 [0,5,8,11,34,35,36] (.pair t03 (.pair p82 (.pair p83 (.pair q0w (.pair o2z t8j))))) [2] .bool
abbrev s4j:=zL [1,3,8,9,10] (.pair (.box o8u) (.pair p83 o2v)) 0 [1,3] (.pair (.box o8u) p83) [2] .bool
abbrev s7t:=zL [3,6,7,8] (.pair q0v o2v) 0 [3] q0v [] .unit
abbrev s7m:=zL [5,10,11,12] j2h 0 [5] u0n [] .unit
abbrev s4k:=zL [0,4,7,8,9] (.pair .str (.pair u0n o7l)) 0 [4] u0n [] .unit
abbrev r1x:=zL [0,1,5,12,13,14] (.pair s6i (.pair u0n (.pair (.box q4z) o7l))) 0 [1,5] (.pair u0n (.box q4z)) [] .unit
abbrev s7q:=zL [1,8,9,38,39,40] (.pair u0n (.pair (.clo 293 (.rbox p82)) (.pair q4z (.pair p82 t8j)))) 2 [9] q4z [] .unit
abbrev u3v:=zL [0,1,7,8] (.pair t03 (.pair j1x t8j)) 0 [] .unit [4] u0n
abbrev u3h:=zL [0,1,5,6] (.pair q0v (.pair j1x t8j)) 0 [0,5] j0n [] .unit
abbrev u38:=zL [0,1,7,8] (.pair t03 (.pair (.clo 366 o44) t8j)) 0 [] .unit [4] u0n
abbrev u3k:=zL [0,1,7,8] (.pair t03 (.pair (.clo 285 o44) t8j)) 0 [] .unit [4] u0n
abbrev u26:=zL [0,1,5,6] (.pair q0v (.pair (.clo 285 o44) t8j)) 0 [0,5] j0n [] .unit
abbrev r1u:LoopA:=⟨⟨[3,4,5,6,46,47,48],(.pair q0w (.pair r3v (.pair r3v (.pair p6i (.pair .skip t8j))))),[(46,5,2,u0a)]⟩,0,⟨[3,4,5,6],j5l,[]⟩,⟨[],.unit,[]⟩⟩
abbrev u3j:=zL [0,1,7,8] (.pair t03 (.pair (.clo 288 (.rbox .str)) t8j)) 0 [] .unit [4] u0n
abbrev u3i:=zL [0,1,7,8] (.pair t03 (.pair j1y t8j)) 0 [] .unit [4] u0n
abbrev u25:=zL [0,1,5,6] (.pair q0v (.pair j1y t8j)) 0 [0,5] j0n [] .unit
abbrev u2q:=zL [0,1,7,8] (.pair t03 (.pair (.clo 94 j1r) t8j)) 0 [] .unit [4] u0n
abbrev r1z:=zL [0,4] j1w 0 [0,4] j1w [] .unit
abbrev s4m:=zL [0,8,9,10] (.pair p30 (.pair o0e t8j)) 0 [0] p30 [] .unit
abbrev s7u:=zL [0,8,9,10] (.pair p30 (.pair o43 t8j)) 0 [0] p30 [] .unit
abbrev r9l:=zL [0,3] o0d 0 [0] .str [2] .bool
abbrev s7s:=zL [0,5,6,7] j2e 0 [0] q3l [2] .bool
abbrev r9o:=zL [1,6,7,8] (.pair q0w o7k) 0 [1] q0w [2] .bool
abbrev r1y:=zL [1,4,29,30,31] (.pair q0w (.pair p30 o7k)) 0 [1,4] (.pair q0w p30) [] .unit
abbrev s7r:=zL [1,4,50,51,52] (.pair q0w (.pair p30 o5d)) 2 [1,4] (.pair q0w p30) [] .unit
abbrev u2z:=zL [0,1,7,8] (.pair t03 (.pair (.clo 290 o44) t8j)) 0 [] .unit [4] u0n
abbrev s4l:=zL [0,1,7,8,9] (.pair t03 j2h) 0 [] .unit [4] .bool
abbrev t27:=zL [0,3,9,10,11] (.pair j0h (.pair u0n j2i)) 0 [0,3] (.pair j0h u0n) [] .unit
abbrev t1f:=zL [6,25,26,27] (.pair j2w j2i) 2 [6] j2w [] .unit
abbrev s2h:=zL [0,5,6,7] (.pair s6i o7l) 0 [0] s6i [2] .bool
abbrev r5s:=zL [1,38,39,40] (.pair q41 o7l) 0 [1] q41 [2] .bool
abbrev r1m:=zL [1,51,52,53] (.pair q41 o2v) 2 [1] q41 [2] .bool
abbrev r1n:=zL [1,91,92,93] (.pair q41 o2v) 4 [1] q41 [2] .bool
abbrev s7k:=zL [1,4,29,30,31] (.pair q41 (.pair p30 o7l)) 0 [1,4] (.pair q41 p30) [] .unit
abbrev s4g:=zL [4,56,57,58] (.pair p30 j2i) 2 [4] p30 [] .unit
abbrev s4h:=zL [4,56,57,58,67,68,69] (.pair p30 (.pair j0h (.pair u0n j2h))) 4 [4,56,57,58] (.pair p30 j2i) [] .unit
abbrev r1s:=zL [0,1,5] j2g 0 [0] o21 [] .unit
abbrev r1t:=zL [0,1,5,6] (.pair o21 (.pair .str t8j)) 2 [0,1,5] j2g [] .unit
abbrev r1r:=zL [0,1,7,8] (.pair .str o8y) 0 [] .unit [4,5,6] j0l
abbrev u4t:=zL [0,1,4,5] (.pair s3z (.pair j22 t8j)) 0 [0,1] (.pair s3z j22) [] .unit
abbrev u46:=zL [0,1,4,5] (.pair s3z (.pair j24 t8j)) 0 [0,1] (.pair s3z j24) [] .unit
abbrev u47:=zL [0,1,4,5] (.pair s3z (.pair j25 t8j)) 0 [0,1] (.pair s3z j25) [] .unit
abbrev u4u:=zL [0,1,4,5] (.pair s3z (.pair (.clo 216 o9g) t8j)) 0 [0,1] (.pair s3z (.clo 216 o9g)) [] .unit
abbrev u4v:=zL [0,1,4,5] (.pair s3z (.pair (.clo 217 o9g) t8j)) 0 [0,1] (.pair s3z (.clo 217 o9g)) [] .unit
abbrev s2f:=zL [1,6,22,23,24] (.pair u0n (.pair .str (.pair o20 t8j))) 0 [6] .str [] .unit
abbrev s2g:=zL [1,2,3,8,9] (.pair u0n (.pair u0n (.pair o2w (.pair (.own true j1i) u0n)))) 0 [8] (.tr true j1i) [6,7] q7r
abbrev s7o:=zL [1,2,7,9,10,11] (.pair u0n (.pair o2w (.pair .str (.pair p0n t8j)))) 0 [9,10] j0q [4,5,6] j2b
abbrev s4i:LoopA:=⟨⟨[2,4,6,7,8,9,10,30,31,32],(.pair .str (.pair q0w (.pair r3v (.pair r3v (.pair p6i (.pair q0v (.pair q0v (.pair .skip t8j)))))))),[(30,7,2,u0a)]⟩,0,⟨[4,6,7,8,9,10],(.pair q0w (.pair r3v (.pair r3v (.pair p6i (.pair q0v (.tr true u0a)))))),[]⟩,⟨[],.unit,[]⟩⟩
abbrev r1o:=zL [2,4,13,14,15] (.pair r3v (.pair r3v (.pair o9i t8j))) 0 [2,4] j0o [2,3] (.pair r3v .bool)
abbrev r5t:=zL [1,8,9,10] (.pair o2w (.pair o0e t8j)) 0 [1] o2w [2] .bool
abbrev r5u:=zL [1,19,20,21] (.pair o2w (.pair o20 t8j)) 2 [1] o2w [2] .bool
abbrev u8d:=zL [0,3,9,10,11] (.pair j0p (.pair u0n (.pair j0p t8j))) 0 [0,3] (.pair j0p u0n) [] .unit
abbrev u7y:=zL [6,25,26,27] (.pair q4z (.pair j0p t8j)) 2 [6] q4z [] .unit
abbrev s7p:=zL [2,7,14,15,16] (.pair u0n (.pair j5m (.pair p82 t8j))) 0 [2,7] (.pair u0n j5m) [6] .bool
abbrev u3u:=zL [1,2,15,16,17] (.pair t03 (.pair (.clo 66 .unit) o2v)) 0 [] .unit [6] .bool
abbrev s7l:=zL [1,33,34,35] (.pair o9j o2v) 0 [] .unit [2] .bool
abbrev s7v:=zL [0,1,5] (.pair q40 (.pair q40 u0n)) 0 [] .unit [4] .bool
abbrev s7w:=zL [0,1,5] (.pair q3l o6r) 0 [] .unit [4] .bool
abbrev r51:=zL [0,1,5] (.pair t03 j15) 0 [] .unit [4] .bool
abbrev s2i:=zL [0,1,5] (.pair s6i o8x) 0 [] .unit [4] .bool
abbrev s4n:=zL [0,1,5] (.pair o0e (.pair o0e u0n)) 0 [] .unit [4] .bool
abbrev r50:=zL [0,1,5] (.pair o20 (.pair o20 u0n)) 0 [] .unit [4] .bool
abbrev r5z:=zL [0,1,5] (.pair o43 j17) 0 [] .unit [4] .bool
def o93:Nat→Nat→Ht LoopA
 | 324,5=>some s7x
 | 325,5=>some s7y
 | 135,5=>some r53
 | 388,5=>some s2j
 | 137,5=>some s4o
 | 323,5=>some r52
 | 245,3=>some r2d
 | 245,8=>some r2e
 | 245,15=>some s74
 | 246,4=>some s8e
 | 247,3=>some r6c
 | 79,3=>some r9u
 | 331,3=>some r2o
 | 331,9=>some r2p
 | 331,15=>some s8d
 | 249,4=>some r6a
 | 427,2=>some r2k
 | 427,5=>some r2l
 | 428,2=>some r9q
 | 428,5=>some r9r
 | 326,3=>some s0x
 | 326,7=>some s0y
 | 326,10=>some t9w
 | 326,14=>some t9x
 | 387,3=>some s0v
 | 387,8=>some s0w
 | 327,3=>some s01
 | 242,7=>some s0z
 | 242,11=>some t9y
 | 178,3=>some r2q
 | 69,3=>some s73
 | 71,3=>some r2m
 | 71,10=>some s79
 | 71,14=>some s8a
 | 14,5=>some r6b
 | 123,2=>some r9p
 | 180,2=>some s8c
 | 121,4=>some r9t
 | 131,2=>some s2p
 | 42,4=>some r57
 | 42,10=>some r14
 | 42,17=>some r17
 | 42,24=>some r19
 | 42,27=>some r2a
 | 232,2=>some r6d
 | 234,6=>some r2g
 | 113,8=>some r2f
 | 113,15=>some s76
 | 119,4=>some s00
 | 38,6=>some s75
 | 318,2=>some r2i
 | 318,6=>some r2j
 | 223,5=>some r2n
 | 223,10=>some s8b
 | 233,3=>some r2r
 | 117,5=>some s71
 | 355,4=>some s2n
 | 263,5=>some s2o
 | 157,10=>some s4u
 | 307,2=>some r2h
 | 393,2=>some r9s
 | 333,12=>some s78
 | 334,4=>some r2b
 | 346,8=>some s4s
 | 346,14=>some s2m
 | 50,4=>some r2c
 | 375,4=>some r58
 | 375,9=>some r59
 | 73,4=>some s72
 | 73,10=>some s4q
 | 73,15=>some s4r
 | 328,4=>some s8f
 | 329,5=>some s77
 | 140,3=>some s4t
 | 141,2=>some s2l
 | 337,3=>some s7z
 | 338,3=>some s70
 | 143,3=>some r56
 | 395,3=>some s2k
 | 145,3=>some s4p
 | 336,3=>some r55
 | 144,3=>some r54
 | 194,2=>some t58
 | 195,2=>some r1v
 | 195,5=>some r1w
 | 196,2=>some r9m
 | 196,5=>some r9n
 | 23,2=>some s0s
 | 23,5=>some s0t
 | 23,10=>some t9t
 | 10005,2=>some u13
 | 86,3=>some s0r
 | 87,4=>some t28
 | 88,3=>some r5w
 | 202,3=>some r5x
 | 292,3=>some r5y
 | 89,3=>some r5v
 | 90,3=>some r1p
 | 90,7=>some r1q
 | 90,15=>some s7n
 | 24,6=>some s0u
 | 24,12=>some t9u
 | 24,16=>some t9v
 | 26,3=>some s4j
 | 283,3=>some s7t
 | 172,3=>some s7m
 | 293,3=>some s4k
 | 175,3=>some r1x
 | 175,11=>some s7q
 | 10004,2=>some u3v
 | 10003,5=>some u3h
 | 10008,2=>some u38
 | 10010,2=>some u3k
 | 10009,5=>some u26
 | 166,9=>some r1u
 | 10013,2=>some u3j
 | 10012,2=>some u3i
 | 10011,5=>some u25
 | 10002,2=>some u2q
 | 231,4=>some r1z
 | 97,1=>some s4m
 | 116,1=>some s7u
 | 129,2=>some r9l
 | 237,2=>some s7s
 | 127,2=>some r9o
 | 99,6=>some r1y
 | 99,12=>some s7r
 | 10017,2=>some u2z
 | 170,2=>some s4l
 | 171,3=>some t27
 | 171,11=>some t1f
 | 230,2=>some s2h
 | 115,4=>some r5s
 | 115,10=>some r1m
 | 115,16=>some r1n
 | 35,6=>some s7k
 | 35,13=>some s4g
 | 35,17=>some s4h
 | 316,2=>some r1s
 | 316,6=>some r1t
 | 317,5=>some r1r
 | 10018,2=>some u4t
 | 10020,2=>some u46
 | 10021,2=>some u47
 | 10019,2=>some u4u
 | 10022,2=>some u4v
 | 365,5=>some s2f
 | 278,5=>some s2g
 | 162,7=>some s7o
 | 168,6=>some s4i
 | 11,3=>some r1o
 | 163,2=>some r5t
 | 163,8=>some r5u
 | 177,3=>some u8d
 | 177,11=>some u7y
 | 67,3=>some s7p
 | 10014,4=>some u3u
 | 63,4=>some s7l
 | 341,4=>some s7v
 | 342,4=>some s7w
 | 147,4=>some r51
 | 399,4=>some s2i
 | 149,4=>some s4n
 | 340,4=>some r50
 | 148,4=>some r5z
 | _,_=>none
def j5w:Nat→Nat
 | 10000=>93
 | 10001=>204
 | 10002=>287
 | 10003=>173
 | 10004=>287
 | 10005=>197
 | 10006=>93
 | 10007=>204
 | 10008=>287
 | 10009=>173
 | 10010=>287
 | 10011=>173
 | 10012=>287
 | 10013=>287
 | 10014=>65
 | 10015=>93
 | 10016=>204
 | 10017=>287
 | 10018=>214
 | 10019=>214
 | 10020=>214
 | 10021=>214
 | 10022=>214
 | f=>f
def o97:Nat→Hu Nat→Nat
 | 93, [94] =>10000
 | 204, [94] =>10001
 | 287, [94] =>10002
 | 173, [174] =>10003
 | 287, [174] =>10004
 | 197, [198] =>10005
 | 93, [366] =>10006
 | 204, [366] =>10007
 | 287, [366] =>10008
 | 173, [285] =>10009
 | 287, [285] =>10010
 | 173, [289] =>10011
 | 287, [289] =>10012
 | 287, [288] =>10013
 | 65, [66] =>10014
 | 93, [290] =>10015
 | 204, [290] =>10016
 | 287, [290] =>10017
 | 214, [215] =>10018
 | 214, [216] =>10019
 | 214, [218] =>10020
 | 214, [219] =>10021
 | 214, [217] =>10022
 | f,_=>f
def o4j:(f:Nat)→Ht ((o79 f).ins.den→Ht (o79 f).out.den)
 | 200=>some (y2q u0d)
 | 312=>some (y7a)
 | 313=>some (y0m)
 | _=>none
def o66:Plan:= {sig:=o79,join:=o9z,loop:=o93,fn:=j5w,pick:=o97,prim:=o4j,gd:=y8a}
def A:Ann:=ann j5e o66
set_option maxRecDepth 100000
abbrev r0o:Type:=(Hu u0a.den)
abbrev s9h:Type:=(Hu u0d.den)
abbrev s6h:Type:=(Hs×Bool)
abbrev s1h:Type:=(Unit⊕Bool)
abbrev p0m:Type:=(Hu t7u.den)
abbrev q0t:Type:=(Hu Hs)
abbrev r3u:Type:=(Hu Int)
abbrev p8u:Type:=(Hs×Int)
abbrev p80:Type:=(Hs×Hs)
abbrev p3y:Type:=(Hu u12.den)
abbrev p3z:Type:=(Unit⊕Int)
abbrev o1g:Type:=(Int×Int)
abbrev o1h:Type:=(Hu q7m.den)
abbrev o1i:Type:=(p0m⊕Unit)
abbrev o1j:Type:=(s9h⊕Unit)
abbrev o8s:Type:=(Int×Bool)
abbrev q0u:Type:=(Hs×o8s)
abbrev o1k:Type:=(Int⊕Unit)
abbrev o5a:Type:=(Int×Hs)
abbrev o7b:Type:=(Hs×s6h)
abbrev o2y:Type:=(Int⊕Int)
abbrev o5b:Type:=(r3u×Bool)
abbrev j1j:Type:=((q0t×Int)⊕(q0t×o8s))
abbrev o5c:Type:=(r3u×Int)
abbrev o7c:Type:=(r0o⊕Unit)
abbrev o7d:Type:=(r3u⊕Unit)
abbrev j1k:Type:=(Int×(Hs×o1g))
abbrev o7e:Type:=(Z99⊕Bool)
abbrev o7f:Type:=(s9h×Int)
abbrev o7g:Type:=(Int×o1g)
abbrev o7h:Type:=(Int×r3u)
abbrev o7i:Type:=(Int×o8s)
abbrev o7j:Type:=(Int×p8u)
abbrev j1l:Type:=((Int×s9h)⊕Unit)
abbrev o9a:Type:=(q0t⊕Unit)
abbrev o9b:Type:=(s1j⊕Bool)
abbrev o9c:Type:=(o46⊕Unit)
abbrev o9d:Type:=(p0m×p0m)
abbrev j1m:Type:=(Hs⊕Bool)
abbrev j1n:Type:=(Hs⊕Unit)
abbrev zLv:=y5x Tryz.prog A
abbrev zK (f:Nat) (x:(A.sig f).ins.den):=zLv.call f x
theorem zC (f:Nat) {fn:Func} {X:(A.sig f).ins.den→Ht (A.sig f).out.den} (hp:A.prim f=none) (hf:Tryz.prog.funcs[A.fn f]? =some fn) (hb:z7s A zLv lpW f fn=X):zK f=X:=funext (y7p hp hf (congrFun hb))
theorem zW (l:LoopA) (f:Nat) (fn:Func) (r n:Nat) {S:(l.head.sh.den→Ht (l.out.sh.den⊕l.ret.sh.den))→l.head.sh.den→Ht (l.out.sh.den⊕l.ret.sh.den)} (x:l.head.sh.den) (h:S=z7n A zLv lpW f (y7w fn r) l n):lpW _ _ S x=S (lpW _ _ S) x:=y7x h x
def t89(x:(p80×Int)):Ht Int:=zK 390 x
def r8i (x:(p80×Int)):Ht Int:=cond (decide ((IntKind.i64.wrap (x.2 - (x.1.1.size:Int)))<0)) (some (- 1:Int)) (cond (decide ((IntKind.i64.wrap ((IntKind.i64.wrap (x.2 - (x.1.1.size:Int))) - (x.1.2.size:Int)))<0)) (some (- 1:Int)) (some (IntKind.i64.wrap ((IntKind.i64.wrap (x.2 - (x.1.1.size:Int))) - (x.1.2.size:Int)))))
theorem p1n:t89=r8i:=zC 390 rfl Tryz.func390 (by kernel_rfl)
def s29(x:(p0m×Int)):Ht Int:=zK 324 x
def s6l(g:(p0m×o1g)→Ht o2y)(x:(p0m×o1g)):Ht o2y:=cond (decide (x.2.2<(x.1.length:Int))) (cond (y4q x.2.2 x.1.length) ((t89 (rdL t7u x.1 x.2.2.toNat,x.2.1)).bind fun y1=>cond (decide (y1<0)) (some (.inr (- 1:Int))) (g (x.1,y1,IntKind.i64.wrap (x.2.2+1)))) none) (some (.inl x.2.1))
def t2n:=lpW _ _ s6l
theorem q4u x:t2n x=s6l t2n x:=zW s7x 324 Tryz.f324 5 27 x (by kernel_rfl)
def r42 (x:(p0m×Int)):Ht Int:=cond (decide ((IntKind.i64.wrap (x.2 - (x.1.length:Int)))<0)) (some (- 1:Int)) ((t2n (x.1,IntKind.i64.wrap (x.2 - (x.1.length:Int)),0)).bind fun r2=>match r2 with | .inl o3=>some o3 | .inr z4=>some z4)
theorem q8z:s29=r42:=zC 324 rfl Tryz.func324 (by kernel_rfl)
def t9a(x:j43):Ht Int:=zK 391 x
def r8l (x:j43):Ht Int:=cond (decide ((IntKind.i64.wrap (x.2 - (x.1.1.size:Int)))<0)) (some (- 1:Int)) (cond (decide ((IntKind.i64.wrap ((IntKind.i64.wrap (x.2 - (x.1.1.size:Int))) - (x.1.2.1.size:Int)))<0)) (some (- 1:Int)) (some (IntKind.i64.wrap ((IntKind.i64.wrap (x.2 - (x.1.1.size:Int))) - (x.1.2.1.size:Int)))))
theorem p1q:t9a=r8l:=zC 391 rfl Tryz.func391 (by kernel_rfl)
def s3a(x:(p3y×Int)):Ht Int:=zK 325 x
def s6m(g:(p3y×o1g)→Ht o2y)(x:(p3y×o1g)):Ht o2y:=cond (decide (x.2.2<(x.1.length:Int))) (cond (y4q x.2.2 x.1.length) ((t9a (rdL u12 x.1 x.2.2.toNat,x.2.1)).bind fun y1=>cond (decide (y1<0)) (some (.inr (- 1:Int))) (g (x.1,y1,IntKind.i64.wrap (x.2.2+1)))) none) (some (.inl x.2.1))
def t2o:=lpW _ _ s6m
theorem q4v x:t2o x=s6m t2o x:=zW s7y 325 Tryz.f325 5 27 x (by kernel_rfl)
def r43 (x:(p3y×Int)):Ht Int:=cond (decide ((IntKind.i64.wrap (x.2 - (x.1.length:Int)))<0)) (some (- 1:Int)) ((t2o (x.1,IntKind.i64.wrap (x.2 - (x.1.length:Int)),0)).bind fun r2=>match r2 with | .inl o3=>some o3 | .inr z4=>some z4)
theorem q80:s3a=r43:=zC 325 rfl Tryz.func325 (by kernel_rfl)
def s43(x:o45):Ht Int:=zK 241 x
def q5o (x:o45):Ht Int:=(s29 (x.1.2.2.2.2.1,x.2)).bind fun y1=>cond (decide (y1<0)) (some (- 1:Int)) ((s3a (x.1.2.2.2.2.2.1,y1)).bind fun y2=>cond (decide (y2<0)) (some (- 1:Int)) (cond (decide ((IntKind.i64.wrap (y2 - (x.1.2.2.2.2.2.2.2.size:Int)))<0)) (some (- 1:Int)) (some (IntKind.i64.wrap (y2 - (x.1.2.2.2.2.2.2.2.size:Int))))))
theorem p7l:s43=q5o:=zC 241 rfl Tryz.func241 (by kernel_rfl)
def t21(x:o46):Ht Int:=zK 135 x
def r36(g:o1x→Ht o2y)(x:o1x):Ht o2y:=cond (decide (x.2.2<(x.1.length:Int))) (cond (y4q x.2.2 x.1.length) ((s43 (rdL u0a x.1 x.2.2.toNat,x.2.1)).bind fun y1=>cond (decide (y1<0)) (some (.inr (- 1:Int))) (g (x.1,y1,IntKind.i64.wrap (x.2.2+1)))) none) (some (.inl x.2.1))
def t6w:=lpW _ _ r36
theorem p0h x:t6w x=r36 t6w x:=zW r53 135 Tryz.f135 5 27 x (by kernel_rfl)
def q1s (x:o46):Ht Int:=cond (decide ((IntKind.i64.wrap (x.2 - (x.1.length:Int)))<0)) (some (- 1:Int)) ((t6w (x.1,IntKind.i64.wrap (x.2 - (x.1.length:Int)),0)).bind fun r2=>match r2 with | .inl o3=>some o3 | .inr z4=>some z4)
theorem p5c:t21=q1s:=zC 135 rfl Tryz.func135 (by kernel_rfl)
def t5q(x:j4x):Ht Int:=zK 426 x
def r1b (x:j4x):Ht Int:=cond (decide ((IntKind.i64.wrap (x.2 - (x.1.1.size:Int)))<0)) (some (- 1:Int)) (cond (decide ((IntKind.i64.wrap ((IntKind.i64.wrap (x.2 - (x.1.1.size:Int))) - (x.1.2.1.size:Int)))<0)) (some (- 1:Int)) (some (IntKind.i64.wrap ((IntKind.i64.wrap (x.2 - (x.1.1.size:Int))) - (x.1.2.1.size:Int)))))
theorem q66:t5q=r1b:=zC 426 rfl Tryz.func426 (by kernel_rfl)
def t8a(x:o7f):Ht Int:=zK 388 x
def s14(g:(s9h×o1g)→Ht o2y)(x:(s9h×o1g)):Ht o2y:=cond (decide (x.2.2<(x.1.length:Int))) (cond (y4q x.2.2 x.1.length) ((t5q (rdL u0d x.1 x.2.2.toNat,x.2.1)).bind fun y1=>cond (decide (y1<0)) (some (.inr (- 1:Int))) (g (x.1,y1,IntKind.i64.wrap (x.2.2+1)))) none) (some (.inl x.2.1))
def u8x:=lpW _ _ s14
theorem q0r x:u8x x=s14 u8x x:=zW s2j 388 Tryz.f388 5 27 x (by kernel_rfl)
def s62 (x:o7f):Ht Int:=cond (decide ((IntKind.i64.wrap (x.2 - (x.1.length:Int)))<0)) (some (- 1:Int)) ((u8x (x.1,IntKind.i64.wrap (x.2 - (x.1.length:Int)),0)).bind fun r2=>match r2 with | .inl o3=>some o3 | .inr z4=>some z4)
theorem q4c:t8a=s62:=zC 388 rfl Tryz.func388 (by kernel_rfl)
def s99(x:Z90):Ht Int:=zK 322 x
def q1o (x:Z90):Ht Int:=(t8a (x.1.1,x.2)).bind fun y1=>cond (decide (y1<0)) (some (- 1:Int)) ((t21 (x.1.2.1,y1)).bind fun y2=>cond (decide (y2<0)) (some (- 1:Int)) ((t21 (x.1.2.2.1,y2)).bind fun y3=>cond (decide (y3<0)) (some (- 1:Int)) (some y3)))
theorem p48:s99=q1o:=zC 322 rfl Tryz.func322 (by kernel_rfl)
def s28(x:Z57):Ht Int:=zK 239 x
def r41 (x:Z57):Ht Int:=(s99 (x.1.1,x.2)).bind fun y1=>cond (decide (y1<0)) (some (- 1:Int)) ((t21 (x.1.2,y1)).bind fun y2=>cond (decide (y2<0)) (some (- 1:Int)) (some y2))
theorem q8y:s28=r41:=zC 239 rfl Tryz.func239 (by kernel_rfl)
def t5p(x:(q0t×Int)):Ht Int:=zK 137 x
def s32(g:(q0t×o1g)→Ht o2y)(x:(q0t×o1g)):Ht o2y:=cond (decide (x.2.2<(x.1.length:Int))) (cond (y4q x.2.2 x.1.length) (cond (decide ((IntKind.i64.wrap (x.2.1 - ((rdL Ty.str x.1 x.2.2.toNat).size:Int)))<0)) (some (.inr (- 1:Int))) (g (x.1,IntKind.i64.wrap (x.2.1 - ((rdL Ty.str x.1 x.2.2.toNat).size:Int)),IntKind.i64.wrap (x.2.2+1)))) none) (some (.inl x.2.1))
def t0v:=lpW _ _ s32
theorem q3g x:t0v x=s32 t0v x:=zW s4o 137 Tryz.f137 5 28 x (by kernel_rfl)
def r1a (x:(q0t×Int)):Ht Int:=cond (decide ((IntKind.i64.wrap (x.2 - (x.1.length:Int)))<0)) (some (- 1:Int)) ((t0v (x.1,IntKind.i64.wrap (x.2 - (x.1.length:Int)),0)).bind fun r1=>match r1 with | .inl o2=>some o2 | .inr z3=>some z3)
theorem q65:t5p=r1a:=zC 137 rfl Tryz.func137 (by kernel_rfl)
def s42(x:(o5a×Int)):Ht Int:=zK 389 x
def q5n (x:(o5a×Int)):Ht Int:=cond (decide ((IntKind.i64.wrap (x.2 - (x.1.2.size:Int)))<0)) (some (- 1:Int)) (some (IntKind.i64.wrap (x.2 - (x.1.2.size:Int))))
theorem p7k:s42=q5n:=zC 389 rfl Tryz.func389 (by kernel_rfl)
def r0c(x:(o1h×Int)):Ht Int:=zK 323 x
def r35(g:(o1h×o1g)→Ht o2y)(x:(o1h×o1g)):Ht o2y:=cond (decide (x.2.2<(x.1.length:Int))) (cond (y4q x.2.2 x.1.length) ((s42 (rdL q7m x.1 x.2.2.toNat,x.2.1)).bind fun y1=>cond (decide (y1<0)) (some (.inr (- 1:Int))) (g (x.1,y1,IntKind.i64.wrap (x.2.2+1)))) none) (some (.inl x.2.1))
def t6v:=lpW _ _ r35
theorem p0g x:t6v x=r35 t6v x:=zW r52 323 Tryz.f323 5 27 x (by kernel_rfl)
def q1r (x:(o1h×Int)):Ht Int:=cond (decide ((IntKind.i64.wrap (x.2 - (x.1.length:Int)))<0)) (some (- 1:Int)) ((t6v (x.1,IntKind.i64.wrap (x.2 - (x.1.length:Int)),0)).bind fun r2=>match r2 with | .inl o3=>some o3 | .inr z4=>some z4)
theorem p5b:r0c=q1r:=zC 323 rfl Tryz.func323 (by kernel_rfl)
def r0a(x:q75):Ht Int:=zK 240 x
def q1p (x:q75):Ht Int:=(t5p (x.1.1,x.2)).bind fun y1=>cond (decide (y1<0)) (some (- 1:Int)) ((r0c (x.1.2,y1)).bind fun y2=>cond (decide (y2<0)) (some (- 1:Int)) (some y2))
theorem p49:r0a=q1p:=zC 240 rfl Tryz.func240 (by kernel_rfl)
def s53(x:Z46):Ht Int:=zK 134 x
def r8j (x:Z46):Ht Int:=(s28 (x.1.1,x.2)).bind fun y1=>cond (decide (y1<0)) (some (- 1:Int)) ((r0a (x.1.2,y1)).bind fun y2=>cond (decide (y2<0)) (some (- 1:Int)) (some y2))
theorem p1o:s53=r8j:=zC 134 rfl Tryz.func134 (by kernel_rfl)
def r0b(x:o5c):Ht Int:=zK 136 x
def q1q (x:o5c):Ht Int:=cond (decide ((IntKind.i64.wrap (x.2 - (x.1.length:Int)))<0)) (some (- 1:Int)) (some (IntKind.i64.wrap (x.2 - (x.1.length:Int))))
theorem p5a:r0b=q1q:=zC 136 rfl Tryz.func136 (by kernel_rfl)
def s54(x:Z27):Ht Int:=zK 44 x
def r8k (x:Z27):Ht Int:=(s53 (x.1.1,x.2)).bind fun y1=>cond (decide (y1<0)) (some (- 1:Int)) ((t21 (x.1.2.1,y1)).bind fun y2=>cond (decide (y2<0)) (some (- 1:Int)) ((r0b (x.1.2.2.1,y2)).bind fun y3=>cond (decide (y3<0)) (some (- 1:Int)) ((t5p (x.1.2.2.2,y3)).bind fun y4=>cond (decide (y4<0)) (some (- 1:Int)) (some y4))))
theorem p1p:s54=r8k:=zC 44 rfl Tryz.func44 (by kernel_rfl)
def t9e(x:j0u):Ht p0m:=zK 245 x
def t4r(g:Z50→Ht (Z52⊕Unit))(x:Z50):Ht (Z52⊕Unit):=cond (decide (x.2.2.2.2.2<(x.2.1.length:Int))) (cond (y4q x.2.2.2.2.2 x.2.1.length) (cond (y3c (rdL t7u x.2.1 x.2.2.2.2.2.toNat).1 x.2.2.2.1.1) (cond (y4q x.2.2.2.2.2 x.2.1.length) (cond (Nat.ble (x.2.2.2.2.1.length+([(rdL t7u x.2.1 x.2.2.2.2.2.toNat)]:Hu t7u.den).length) z7w) (g (x.1,x.2.1,x.2.2.1,x.2.2.2.1,x.2.2.2.2.1++([(rdL t7u x.2.1 x.2.2.2.2.2.toNat)]:Hu t7u.den),IntKind.i64.wrap (x.2.2.2.2.2+1))) none) none) (g (x.1,x.2.1,x.2.2.1,x.2.2.2.1,x.2.2.2.2.1,IntKind.i64.wrap (x.2.2.2.2.2+1)))) none) (some (.inl (x.1,x.2.1,x.2.2.1,x.2.2.2.1,x.2.2.2.2.1)))
def u9o:=lpW _ _ t4r
theorem r3b x:u9o x=t4r u9o x:=zW r2e 245 Tryz.f245 8 82 x (by kernel_rfl)
def t13(g:Z50→Ht (Z94⊕Unit))(x:Z50):Ht (Z94⊕Unit):=cond (decide (x.2.2.2.2.2<(x.2.1.length:Int))) (cond (y4q x.2.2.2.2.2 x.2.1.length) (cond (!(y3c (rdL t7u x.2.1 x.2.2.2.2.2.toNat).1 x.2.2.2.1.1||z7o (rdL t7u x.2.1 x.2.2.2.2.2.toNat).1 x.2.2.2.1.1)) (cond (y4q x.2.2.2.2.2 x.2.1.length) (cond (Nat.ble (x.2.2.2.2.1.length+([(rdL t7u x.2.1 x.2.2.2.2.2.toNat)]:Hu t7u.den).length) z7w) (g (x.1,x.2.1,x.2.2.1,x.2.2.2.1,x.2.2.2.2.1++([(rdL t7u x.2.1 x.2.2.2.2.2.toNat)]:Hu t7u.den),IntKind.i64.wrap (x.2.2.2.2.2+1))) none) none) (g (x.1,x.2.1,x.2.2.1,x.2.2.2.1,x.2.2.2.2.1,IntKind.i64.wrap (x.2.2.2.2.2+1)))) none) (some (.inl (x.1,x.2.2.1,x.2.2.2.2.1)))
def u5x:=lpW _ _ t13
theorem s85 x:u5x x=t13 u5x x:=zW s74 245 Tryz.f245 15 82 x (by kernel_rfl)
def t4q(g:Z93→Ht o1i)(x:Z93):Ht o1i:=cond (decide (x.2.2<(x.1.2.2.2.2.2.1.length:Int))) (cond (y4q x.2.2 x.1.2.2.2.2.2.1.length) ((u9o (x.1,x.2.1,x.2.2,rdL u12 x.1.2.2.2.2.2.1 x.2.2.toNat,([]:Hu t7u.den),0)).bind fun r1=>match r1 with | .inl o2=>cond (!o2.2.2.2.1.2.2) (cond (Nat.ble (o2.2.2.2.2.length+([(o2.2.2.2.1.1,o2.2.2.2.1.2.1)]:Hu t7u.den).length) z7w) ((u5x (o2.1,o2.2.1,o2.2.2.1,o2.2.2.2.1,o2.2.2.2.2++([(o2.2.2.2.1.1,o2.2.2.2.1.2.1)]:Hu t7u.den),0)).bind fun r3=>match r3 with | .inl o4=>g (o4.1,o4.2.2,IntKind.i64.wrap (o4.2.1+1)) | .inr z5=>some (.inr ())) none) ((u5x (o2.1,o2.2.1,o2.2.2.1,o2.2.2.2.1,o2.2.2.2.2,0)).bind fun r6=>match r6 with | .inl o7=>g (o7.1,o7.2.2,IntKind.i64.wrap (o7.2.1+1)) | .inr z8=>some (.inr ())) | .inr z9=>some (.inr ())) none) (some (.inl x.2.1))
def t5a:=lpW _ _ t4q
theorem r3a x:t5a x=t4q t5a x:=zW r2d 245 Tryz.f245 3 82 x (by kernel_rfl)
def r8t (x:j0u):Ht p0m:=cond (Nat.ble (([]:Hu t7u.den).length+x.1.length) z7w) ((t5a (x.2,([]:Hu t7u.den)++x.1,0)).bind fun r10=>match r10 with | .inl o11=>some o11 | .inr z12=>none) none
theorem p10:t9e=r8t:=zC 245 rfl Tryz.func245 (by kernel_rfl)
def u4y(x:o9d):Ht Bool:=zK 246 x
def t2d(g:o86→Ht s1h)(x:o86):Ht s1h:=cond (decide (x.2.2<(x.1.length:Int))) (cond (y4q x.2.2 x.1.length) (cond (y4q x.2.2 x.2.1.length) (cond (!(z7o (rdL t7u x.1 x.2.2.toNat).1 (rdL t7u x.2.1 x.2.2.toNat).1&&(z7o (rdL t7u x.1 x.2.2.toNat).2 (rdL t7u x.2.1 x.2.2.toNat).2&&true))) (some (.inr false)) (g (x.1,x.2.1,IntKind.i64.wrap (x.2.2+1)))) none) none) (some (.inl ()))
def t2t:=lpW _ _ t2d
theorem s9f x:t2t x=t2d t2t x:=zW s8e 246 Tryz.f246 4 26 x (by kernel_rfl)
def r5k (x:o9d):Ht Bool:=cond (!decide ((x.1.length:Int)=(x.2.length:Int))) (some false) ((t2t (x.1,x.2,0)).bind fun r1=>match r1 with | .inl o2=>some true | .inr z3=>some z3)
theorem q9g:u4y=r5k:=zC 246 rfl Tryz.func246 (by kernel_rfl)
def t3x(x:j1c):Ht Bool:=zK 330 x
def r8r (x:j1c):Ht Bool:=((cond (!y3c x.2 x.1.1) (some (y3c x.2 x.1.2||z7o x.2 x.1.2)) (some false)):Ht Bool).bind fun j1=>some j1
theorem p1y:t3x=r8r:=zC 330 rfl Tryz.func330 (by kernel_rfl)
def s1t(x:j07):Ht p0m:=zK 247 x
def t6p(g:j39→Ht o1i)(x:j39):Ht o1i:=cond (decide (x.2.2.2<(x.1.length:Int))) (cond (y4q x.2.2.2 x.1.length) ((t3x (x.2.1,(rdL t7u x.1 x.2.2.2.toNat).1)).bind fun y1=>cond y1 (cond (y4q x.2.2.2 x.1.length) (cond (y4q x.2.2.2 x.1.length) (cond (Nat.ble (x.2.2.1.length+([(rdL t7u x.1 x.2.2.2.toNat)]:Hu t7u.den).length) z7w) (g (x.1,x.2.1,x.2.2.1++([(rdL t7u x.1 x.2.2.2.toNat)]:Hu t7u.den),IntKind.i64.wrap (x.2.2.2+1))) none) none) none) (g (x.1,x.2.1,x.2.2.1,IntKind.i64.wrap (x.2.2.2+1)))) none) (some (.inl x.2.2.1))
def t61:=lpW _ _ t6p
theorem r7a x:t61 x=t6p t61 x:=zW r6c 247 Tryz.f247 3 36 x (by kernel_rfl)
def q19 (x:j07):Ht p0m:=(t61 (x.1,x.2,([]:Hu t7u.den),0)).bind fun r2=>match r2 with | .inl o3=>some o3 | .inr z4=>none
theorem p5t:s1t=q19:=zC 247 rfl Tryz.func247 (by kernel_rfl)
def s5a(x:o61):Ht Int:=zK 79 x
def t8t(g:j4n→Ht o1k)(x:j4n):Ht o1k:=cond (decide (x.2.2.2.2<(x.1.length:Int))) (((cond (y4q x.2.2.2.2 x.1.length) (cond (z7o (rdL u0d x.1 x.2.2.2.2.toNat).1 x.2.1) (cond (y4q x.2.2.2.2 x.1.length) (cond (decide ((rdL u0d x.1 x.2.2.2.2.toNat).2.2.2≤x.2.2.1)) (cond (decide (x.2.2.2.1<0)) (some true) (cond (y4q x.2.2.2.2 x.1.length) (cond (y4q x.2.2.2.1 x.1.length) (some (decide ((rdL u0d x.1 x.2.2.2.2.toNat).2.2.2>(rdL u0d x.1 x.2.2.2.1.toNat).2.2.2))) none) none)) (some false)) none) (some false)) none):Ht Bool).bind fun j1=>cond j1 (g (x.1,x.2.1,x.2.2.1,x.2.2.2.2,IntKind.i64.wrap (x.2.2.2.2+1))) (g (x.1,x.2.1,x.2.2.1,x.2.2.2.1,IntKind.i64.wrap (x.2.2.2.2+1)))) (some (.inl x.2.2.2.1))
def t3m:=lpW _ _ t8t
theorem r99 x:t3m x=t8t t3m x:=zW r9u 79 Tryz.f79 3 50 x (by kernel_rfl)
def q5x (x:o61):Ht Int:=(t3m (x.1,x.2.1,x.2.2,(- 1:Int),0)).bind fun r2=>match r2 with | .inl o3=>some o3 | .inr z4=>none
theorem p7v:s5a=q5x:=zC 79 rfl Tryz.func79 (by kernel_rfl)
def r0k(x:o61):Ht s6h:=zK 20 x
def q16 (x:o61):Ht s6h:=(s5a x).bind fun y1=>((cond (decide (y1<0)) (some true) (cond (y4q y1 x.1.length) (some (rdL u0d x.1 y1.toNat).2.2.1) none)):Ht Bool).bind fun j2=>cond j2 (some ((⟨#[]⟩:Hs),false)) (cond (y4q y1 x.1.length) (some ((rdL u0d x.1 y1.toNat).2.1,true)) none)
theorem p5q:r0k=q16:=zC 20 rfl Tryz.func20 (by kernel_rfl)
def s6d(x:j4z):Ht q0t:=zK 331 x
def t40(g:Z95→Ht (j3b⊕Unit))(x:Z95):Ht (j3b⊕Unit):=cond (decide (x.2.2.2.2.2.2<(x.2.2.1.length:Int))) (cond (y4q x.2.2.2.2.2.2 x.2.2.1.length) (cond (y3c (rdL Ty.str x.2.2.1 x.2.2.2.2.2.2.toNat) x.2.2.2.2.1) (cond (y4q x.2.2.2.2.2.2 x.2.2.1.length) (cond (Nat.ble (x.2.2.2.2.2.1.length+([(rdL Ty.str x.2.2.1 x.2.2.2.2.2.2.toNat)]:Hu Hs).length) z7w) (g (x.1,x.2.1,x.2.2.1,x.2.2.2.1,x.2.2.2.2.1,x.2.2.2.2.2.1++([(rdL Ty.str x.2.2.1 x.2.2.2.2.2.2.toNat)]:Hu Hs),IntKind.i64.wrap (x.2.2.2.2.2.2+1))) none) none) (g (x.1,x.2.1,x.2.2.1,x.2.2.2.1,x.2.2.2.2.1,x.2.2.2.2.2.1,IntKind.i64.wrap (x.2.2.2.2.2.2+1)))) none) (some (.inl (x.1,x.2.1,x.2.2.1,x.2.2.2.1,x.2.2.2.2.1,x.2.2.2.2.2.1)))
def u9u:=lpW _ _ t40
theorem r3l x:u9u x=t40 u9u x:=zW r2p 331 Tryz.f331 9 72 x (by kernel_rfl)
def t2c(g:Z95→Ht (j30⊕Unit))(x:Z95):Ht (j30⊕Unit):=cond (decide (x.2.2.2.2.2.2<(x.2.2.1.length:Int))) (cond (y4q x.2.2.2.2.2.2 x.2.2.1.length) (cond (!(y3c (rdL Ty.str x.2.2.1 x.2.2.2.2.2.2.toNat) x.2.2.2.2.1||z7o (rdL Ty.str x.2.2.1 x.2.2.2.2.2.2.toNat) x.2.2.2.2.1)) (cond (y4q x.2.2.2.2.2.2 x.2.2.1.length) (cond (Nat.ble (x.2.2.2.2.2.1.length+([(rdL Ty.str x.2.2.1 x.2.2.2.2.2.2.toNat)]:Hu Hs).length) z7w) (g (x.1,x.2.1,x.2.2.1,x.2.2.2.1,x.2.2.2.2.1,x.2.2.2.2.2.1++([(rdL Ty.str x.2.2.1 x.2.2.2.2.2.2.toNat)]:Hu Hs),IntKind.i64.wrap (x.2.2.2.2.2.2+1))) none) none) (g (x.1,x.2.1,x.2.2.1,x.2.2.2.1,x.2.2.2.2.1,x.2.2.2.2.2.1,IntKind.i64.wrap (x.2.2.2.2.2.2+1)))) none) (some (.inl (x.1,x.2.1,x.2.2.2.1,x.2.2.2.2.2.1)))
def u7v:=lpW _ _ t2c
theorem s9e x:u7v x=t2c u7v x:=zW s8d 331 Tryz.f331 15 72 x (by kernel_rfl)
def t4z(g:j3y→Ht o9a)(x:j3y):Ht o9a:=cond (decide (x.2.2.2<(x.1.length:Int))) (cond (y4q x.2.2.2 x.1.length) ((t3x (x.2.1,(rdL u0d x.1 x.2.2.2.toNat).1)).bind fun y1=>cond (!y1) (g (x.1,x.2.1,x.2.2.1,IntKind.i64.wrap (x.2.2.2+1))) ((u9u (x.1,x.2.1,x.2.2.1,x.2.2.2,(rdL u0d x.1 x.2.2.2.toNat).1,([]:Hu Hs),0)).bind fun r2=>match r2 with | .inl o3=>cond (Nat.ble (o3.2.2.2.2.2.length+([o3.2.2.2.2.1]:Hu Hs).length) z7w) ((u7v (o3.1,o3.2.1,o3.2.2.1,o3.2.2.2.1,o3.2.2.2.2.1,o3.2.2.2.2.2++([o3.2.2.2.2.1]:Hu Hs),0)).bind fun r4=>match r4 with | .inl o5=>g (o5.1,o5.2.1,o5.2.2.2,IntKind.i64.wrap (o5.2.2.1+1)) | .inr z6=>some (.inr ())) none | .inr z7=>some (.inr ()))) none) (some (.inl x.2.2.1))
def t5f:=lpW _ _ t4z
theorem r3k x:t5f x=t4z t5f x:=zW r2o 331 Tryz.f331 3 72 x (by kernel_rfl)
def r88 (x:j4z):Ht q0t:=(t5f (x.1,x.2,([]:Hu Hs),0)).bind fun r8=>match r8 with | .inl o9=>some o9 | .inr z10=>none
theorem p2e:s6d=r88:=zC 331 rfl Tryz.func331 (by kernel_rfl)
def u2x(x:j00):Ht p0m:=zK 249 x
def t6n(g:j3z→Ht o1i)(x:j3z):Ht o1i:=cond (decide (x.2.2.2.2<(x.2.2.2.1.length:Int))) (cond (y4q x.2.2.2.2 x.2.2.2.1.length) ((r0k (x.1,rdL Ty.str x.2.2.2.1 x.2.2.2.2.toNat,x.2.1)).bind fun y2=>cond y2.2 (cond (y4q x.2.2.2.2 x.2.2.2.1.length) (cond (Nat.ble (x.2.2.1.length+([(rdL Ty.str x.2.2.2.1 x.2.2.2.2.toNat,y2.1)]:Hu t7u.den).length) z7w) (g (x.1,x.2.1,x.2.2.1++([(rdL Ty.str x.2.2.2.1 x.2.2.2.2.toNat,y2.1)]:Hu t7u.den),x.2.2.2.1,IntKind.i64.wrap (x.2.2.2.2+1))) none) none) (g (x.1,x.2.1,x.2.2.1,x.2.2.2.1,IntKind.i64.wrap (x.2.2.2.2+1)))) none) (some (.inl x.2.2.1))
def t6z:=lpW _ _ t6n
theorem r68 x:t6z x=t6n t6z x:=zW r6a 249 Tryz.f249 4 43 x (by kernel_rfl)
def q14 (x:j00):Ht p0m:=(s6d (x.1,x.2.1)).bind fun y1=>(t6z (x.1,x.2.2,([]:Hu t7u.den),y1,0)).bind fun r3=>match r3 with | .inl o4=>some o4 | .inr z5=>none
theorem p5o:u2x=q14:=zC 249 rfl Tryz.func249 (by kernel_rfl)
def t30(x:j1b):Ht Bool:=zK 427 x
def t4w(g:o7s→Ht (j06⊕Bool))(x:o7s):Ht (j06⊕Bool):=cond (decide (x.2.2.2<(x.2.1.length:Int))) (cond (y4q x.2.2.1 x.1.length) (cond (y4q x.2.2.2 x.2.1.length) ((t3x (rdL t7u x.1 x.2.2.1.toNat,(rdL u12 x.2.1 x.2.2.2.toNat).1)).bind fun y1=>cond y1 (some (.inr true)) (g (x.1,x.2.1,x.2.2.1,IntKind.i64.wrap (x.2.2.2+1)))) none) none) (some (.inl (x.1,x.2.1,x.2.2.1)))
def u9r:=lpW _ _ t4w
theorem r3h x:u9r x=t4w u9r x:=zW r2l 427 Tryz.f427 5 29 x (by kernel_rfl)
def t4v(g:j06→Ht s1h)(x:j06):Ht s1h:=cond (decide (x.2.2<(x.1.length:Int))) ((u9r (x.1,x.2.1,x.2.2,0)).bind fun r2=>match r2 with | .inl o3=>g (o3.1,o3.2.1,IntKind.i64.wrap (o3.2.2+1)) | .inr z4=>some (.inr z4)) (some (.inl ()))
def t5e:=lpW _ _ t4v
theorem r3g x:t5e x=t4v t5e x:=zW r2k 427 Tryz.f427 2 29 x (by kernel_rfl)
def r81 (x:j1b):Ht Bool:=(t5e (x.1,x.2,0)).bind fun r5=>match r5 with | .inl o6=>some false | .inr z7=>some z7
theorem p18:t30=r81:=zC 427 rfl Tryz.func427 (by kernel_rfl)
def r6k(x:o87):Ht Bool:=zK 428 x
def t8q(g:o6y→Ht (o6z⊕Bool))(x:o6y):Ht (o6z⊕Bool):=cond (decide (x.2.2.2<(x.2.1.length:Int))) (cond (y4q x.2.2.1 x.1.length) (cond (y4q x.2.2.2 x.2.1.length) (cond (z7o (rdL u12 x.1 x.2.2.1.toNat).1 (rdL u12 x.2.1 x.2.2.2.toNat).1) (some (.inr true)) (g (x.1,x.2.1,x.2.2.1,IntKind.i64.wrap (x.2.2.2+1)))) none) none) (some (.inl (x.1,x.2.1,x.2.2.1)))
def t3l:=lpW _ _ t8q
theorem r96 x:t3l x=t8q t3l x:=zW r9r 428 Tryz.f428 5 30 x (by kernel_rfl)
def t8p(g:o6z→Ht s1h)(x:o6z):Ht s1h:=cond (decide (x.2.2<(x.1.length:Int))) ((t3l (x.1,x.2.1,x.2.2,0)).bind fun r1=>match r1 with | .inl o2=>g (o2.1,o2.2.1,IntKind.i64.wrap (o2.2.2+1)) | .inr z3=>some (.inr z3)) (some (.inl ()))
def t8y:=lpW _ _ t8p
theorem r95 x:t8y x=t8p t8y x:=zW r9q 428 Tryz.f428 2 30 x (by kernel_rfl)
def q5t (x:o87):Ht Bool:=(t8y (x.1,x.2,0)).bind fun r4=>match r4 with | .inl o5=>some false | .inr z6=>some z6
theorem p7r:r6k=q5t:=zC 428 rfl Tryz.func428 (by kernel_rfl)
def s1r(x:Z49):Ht Bool:=zK 392 x
def q1z (x:Z49):Ht Bool:=((cond (decide (x.1.1=x.2.1)) (some true) (cond (!decide (x.1.2.1=3)) (some true) (some (!decide (x.2.2.1=3))))):Ht Bool).bind fun j1=>cond j1 (some false) (((cond (decide (x.1.2.2.2.1≤x.2.2.2.1)) ((t30 (x.2.2.2.2.2.1,x.1.2.2.2.2.2.1)).bind fun y2=>some y2) (some false)):Ht Bool).bind fun j3=>cond j3 (some true) (((cond (decide (x.1.2.2.2.1<x.2.2.2.2.1)) ((r6k (x.1.2.2.2.2.2.1,x.2.2.2.2.2.2.1)).bind fun y4=>some y4) (some false)):Ht Bool).bind fun j5=>cond j5 (some true) (((cond (decide (x.2.2.2.2.1>x.1.2.2.1)) ((t30 (x.1.2.2.2.2.1,x.2.2.2.2.2.2.1)).bind fun y6=>some y6) (some false)):Ht Bool).bind fun j7=>some j7)))
theorem p5j:s1r=q1z:=zC 392 rfl Tryz.func392 (by kernel_rfl)
def t7h(x:r0o):Ht o5b:=zK 326 x
def u69(g:j4i→Ht (j4u⊕Unit))(x:j4i):Ht (j4u⊕Unit):=cond (decide (x.2.2<(x.2.1.length:Int))) (cond (y4q x.2.2 x.2.1.length) (g (x.1,x.2.1.set x.2.2.toNat true,IntKind.i64.wrap (x.2.2+1))) none) (some (.inl (x.1,x.2.1)))
def u30:=lpW _ _ u69
theorem s1c x:u30 x=u69 u30 x:=zW s0x 326 Tryz.f326 3 87 x (by kernel_rfl)
def u4o(g:j3i→Ht (j3n⊕Unit))(x:j3i):Ht (j3n⊕Unit):=((cond (decide (x.2.2.2.2.2.2<(x.1.length:Int))) (some x.2.2.2.2.2.1) (some false)):Ht Bool).bind fun j4=>cond j4 (((cond (y4q x.2.2.2.2.2.2 x.2.1.length) (cond (!(rdL Ty.bool x.2.1 x.2.2.2.2.2.2.toNat)) (some true) (cond (decide (x.2.2.2.2.2.2=x.2.2.2.2.1)) (some true) (cond (y4q x.2.2.2.2.2.2 x.1.length) (cond (y4q x.2.2.2.2.1 x.1.length) ((s1r (rdL u0a x.1 x.2.2.2.2.2.2.toNat,rdL u0a x.1 x.2.2.2.2.1.toNat)).bind fun y5=>some (!y5)) none) none))) none):Ht Bool).bind fun j6=>g (x.1,x.2.1,x.2.2.1,x.2.2.2.1,x.2.2.2.2.1,j6,IntKind.i64.wrap (x.2.2.2.2.2.2+1))) (some (.inl (x.1,x.2.1,x.2.2.1,x.2.2.2.1,x.2.2.2.2.1,x.2.2.2.2.2.1)))
def u4r:=lpW _ _ u4o
theorem t1m x:u4r x=u4o u4r x:=zW t9x 326 Tryz.f326 14 87 x (by kernel_rfl)
def u4n(g:j3t→Ht (j36⊕Unit))(x:j3t):Ht (j36⊕Unit):=((cond (decide (x.2.2.2.2<(x.1.length:Int))) (some (decide (x.2.2.2.1<0))) (some false)):Ht Bool).bind fun j3=>cond j3 (cond (y4q x.2.2.2.2 x.2.1.length) ((u4r (x.1,x.2.1,x.2.2.1,x.2.2.2.1,x.2.2.2.2,rdL Ty.bool x.2.1 x.2.2.2.2.toNat,0)).bind fun r7=>match r7 with | .inl o8=>cond o8.2.2.2.2.2 (g (o8.1,o8.2.1,o8.2.2.1,o8.2.2.2.2.1,IntKind.i64.wrap (o8.2.2.2.2.1+1))) (g (o8.1,o8.2.1,o8.2.2.1,o8.2.2.2.1,IntKind.i64.wrap (o8.2.2.2.2.1+1))) | .inr z9=>some (.inr ())) none) (some (.inl (x.1,x.2.1,x.2.2.1,x.2.2.2.1)))
def u23:=lpW _ _ u4n
theorem t1l x:u23 x=u4n u23 x:=zW t9w 326 Tryz.f326 10 87 x (by kernel_rfl)
def u7a(g:j4d→Ht (r3u⊕o5b))(x:j4d):Ht (r3u⊕o5b):=cond (decide ((x.2.2.length:Int)<(x.1.length:Int))) ((u23 (x.1,x.2.1,x.2.2,(- 1:Int),0)).bind fun r10=>match r10 with | .inl o11=>cond (decide (o11.2.2.2<0)) (some (.inr (([]:Hu Int),false))) (cond (y4q o11.2.2.2 o11.2.1.length) (cond (Nat.ble (o11.2.2.1.length+([o11.2.2.2]:Hu Int).length) z7w) (g (o11.1,o11.2.1.set o11.2.2.2.toNat false,o11.2.2.1++([o11.2.2.2]:Hu Int))) none) none) | .inr z12=>none) (some (.inl x.2.2))
def u31:=lpW _ _ u7a
theorem s1d x:u31 x=u7a u31 x:=zW s0y 326 Tryz.f326 7 87 x (by kernel_rfl)
def s4c (x:r0o):Ht o5b:=cond (decide (0≤(x.length:Int))&&decide ((x.length:Int)≤1099511627776)) ((u30 (x,List.replicate (x.length:Int).toNat Ty.bool.zero,0)).bind fun r1=>match r1 with | .inl o2=>((u31 (o2.1,o2.2,([]:Hu Int))).bind fun r13=>match r13 with | .inl o14=>some (o14,true) | .inr z15=>some z15) | .inr z16=>none) none
theorem q2r:t7h=s4c:=zC 326 rfl Tryz.func326 (by kernel_rfl)
def u6x(x:j04):Ht s9h:=zK 387 x
def u68(g:Z75→Ht (Z75⊕Unit))(x:Z75):Ht (Z75⊕Unit):=((cond (decide (x.2.2.2.2.2.2<(x.2.2.1.length:Int))) (cond (y4q x.2.2.2.2.2.2 x.2.2.1.length) (cond (y3c (rdL u0d x.2.2.1 x.2.2.2.2.2.2.toNat).1 x.2.2.2.2.1.1) (some true) (cond (y4q x.2.2.2.2.2.2 x.2.2.1.length) (cond (z7o (rdL u0d x.2.2.1 x.2.2.2.2.2.2.toNat).1 x.2.2.2.2.1.1) (cond (y4q x.2.2.2.2.2.2 x.2.2.1.length) (some (decide ((rdL u0d x.2.2.1 x.2.2.2.2.2.2.toNat).2.2.2≤x.2.2.2.2.1.2.2.2))) none) (some false)) none)) none) (some false)):Ht Bool).bind fun j1=>cond j1 (cond (y4q x.2.2.2.2.2.2 x.2.2.1.length) (cond (Nat.ble (x.2.2.2.2.2.1.length+([(rdL u0d x.2.2.1 x.2.2.2.2.2.2.toNat)]:Hu u0d.den).length) z7w) (g (x.1,x.2.1,x.2.2.1,x.2.2.2.1,x.2.2.2.2.1,x.2.2.2.2.2.1++([(rdL u0d x.2.2.1 x.2.2.2.2.2.2.toNat)]:Hu u0d.den),IntKind.i64.wrap (x.2.2.2.2.2.2+1))) none) none) (some (.inl x))
def u5j:=lpW _ _ u68
theorem s1b x:u5j x=u68 u5j x:=zW s0w 387 Tryz.f387 8 93 x (by kernel_rfl)
def u67(g:j4m→Ht o1j)(x:j4m):Ht o1j:=cond (decide (x.2.2.2<(x.1.length:Int))) (cond (y4q x.2.2.2 x.1.length) (cond (y4q x.2.2.2 x.1.length) (cond (y4q x.2.2.2 x.1.length) ((u5j (x.1,x.2.1,x.2.2.1,x.2.2.2,((rdL u12 x.1 x.2.2.2.toNat).1,(rdL u12 x.1 x.2.2.2.toNat).2.1,(rdL u12 x.1 x.2.2.2.toNat).2.2,x.2.1),([]:Hu u0d.den),0)).bind fun r2=>match r2 with | .inl o3=>cond (Nat.ble (o3.2.2.2.2.2.1.length+([o3.2.2.2.2.1]:Hu u0d.den).length) z7w) (cond (decide (0≤o3.2.2.2.2.2.2)&&decide (o3.2.2.2.2.2.2≤(o3.2.2.1.length:Int))&&decide ((o3.2.2.1.length:Int)≤(o3.2.2.1.length:Int))) (cond (Nat.ble ((o3.2.2.2.2.2.1++([o3.2.2.2.2.1]:Hu u0d.den)).length+((o3.2.2.1.take (o3.2.2.1.length:Int).toNat).drop o3.2.2.2.2.2.2.toNat).length) z7w) (g (o3.1,o3.2.1,(o3.2.2.2.2.2.1++([o3.2.2.2.2.1]:Hu u0d.den))++((o3.2.2.1.take (o3.2.2.1.length:Int).toNat).drop o3.2.2.2.2.2.2.toNat),IntKind.i64.wrap (o3.2.2.2.1+1))) none) none) none | .inr z4=>some (.inr ())) none) none) none) (some (.inl x.2.2.1))
def u7e:=lpW _ _ u67
theorem s1a x:u7e x=u67 u7e x:=zW s0v 387 Tryz.f387 3 93 x (by kernel_rfl)
def s4b (x:j04):Ht s9h:=cond (Nat.ble (([]:Hu u0d.den).length+x.1.length) z7w) ((u7e (x.2.1,x.2.2,([]:Hu u0d.den)++x.1,0)).bind fun r5=>match r5 with | .inl o6=>some o6 | .inr z7=>none) none
theorem q2q:u6x=s4b:=zC 387 rfl Tryz.func387 (by kernel_rfl)
def t7l(x:r0o):Ht s9h:=zK 327 x
def u7c(g:j4b→Ht o1j)(x:j4b):Ht o1j:=cond (decide (x.2.2<(x.1.length:Int))) (cond (y4q x.2.2 x.1.length) (cond (y4q x.2.2 x.1.length) ((u6x (x.2.1,(rdL u0a x.1 x.2.2.toNat).2.2.2.2.2.1,(rdL u0a x.1 x.2.2.toNat).2.2.2.1)).bind fun y1=>g (x.1,y1,IntKind.i64.wrap (x.2.2+1))) none) none) (some (.inl x.2.1))
def u7f:=lpW _ _ u7c
theorem s1f x:u7f x=u7c u7f x:=zW s01 327 Tryz.f327 3 25 x (by kernel_rfl)
def s4f (x:r0o):Ht s9h:=(u7f (x,([]:Hu u0d.den),0)).bind fun r2=>match r2 with | .inl o3=>some o3 | .inr z4=>none
theorem q2v:t7l=s4f:=zC 327 rfl Tryz.func327 (by kernel_rfl)
def t7i(x:r0o):Ht Bool:=zK 242 x
def u6l(g:Z44→Ht (Z47⊕Bool))(x:Z44):Ht (Z47⊕Bool):=cond (decide (x.2.2.2.2.2.2<(x.2.2.2.2.2.1.2.2.2.2.1.length:Int))) (cond (y4q x.2.2.2.2.2.2 x.2.2.2.2.2.1.2.2.2.2.1.length) ((s1t (x.2.2.2.1,rdL t7u x.2.2.2.2.2.1.2.2.2.2.1 x.2.2.2.2.2.2.toNat)).bind fun y3=>cond (y4q x.2.2.2.2.2.2 x.2.2.2.2.2.1.2.2.2.2.1.length) ((u2x (x.2.2.1,rdL t7u x.2.2.2.2.2.1.2.2.2.2.1 x.2.2.2.2.2.2.toNat,x.2.2.2.2.2.1.2.2.1)).bind fun y4=>(u4y (y3,y4)).bind fun y5=>cond (!y5) (some (.inr false)) (g (x.1,x.2.1,x.2.2.1,x.2.2.2.1,x.2.2.2.2.1,x.2.2.2.2.2.1,IntKind.i64.wrap (x.2.2.2.2.2.2+1)))) none) none) (some (.inl (x.1,x.2.1,x.2.2.1,x.2.2.2.1,x.2.2.2.2.1,x.2.2.2.2.2.1)))
def u4s:=lpW _ _ u6l
theorem t97 x:u4s x=u6l u4s x:=zW t9y 242 Tryz.f242 11 61 x (by kernel_rfl)
def u7b(g:j3f→Ht s1h)(x:j3f):Ht s1h:=cond (decide (x.2.2.2.2<(x.2.1.length:Int))) (cond (y4q x.2.2.2.2 x.2.1.length) (cond (y4q (rdL (Ty.int .i64) x.2.1 x.2.2.2.2.toNat) x.1.length) ((u4s (x.1,x.2.1,x.2.2.1,x.2.2.2.1,x.2.2.2.2,rdL u0a x.1 (rdL (Ty.int .i64) x.2.1 x.2.2.2.2.toNat).toNat,0)).bind fun r6=>match r6 with | .inl o7=>((t9e (o7.2.2.2.1,o7.2.2.2.2.2)).bind fun y8=>g (o7.1,o7.2.1,o7.2.2.1,y8,IntKind.i64.wrap (o7.2.2.2.2.1+1))) | .inr z9=>some (.inr z9)) none) none) (some (.inl ()))
def u2f:=lpW _ _ u7b
theorem s1e x:u2f x=u7b u2f x:=zW s0z 242 Tryz.f242 7 61 x (by kernel_rfl)
def s4d (x:r0o):Ht Bool:=(t7h x).bind fun y1=>cond (!y1.2) (some false) ((t7l x).bind fun y2=>(u2f (x,y1.1,y2,([]:Hu t7u.den),0)).bind fun r10=>match r10 with | .inl o11=>some true | .inr z12=>some z12)
theorem q2s:t7i=s4d:=zC 242 rfl Tryz.func242 (by kernel_rfl)
def r0l(x:Z29):Ht Bool:=zK 138 x
def q17 (x:Z29):Ht Bool:=(t7i x.2.1).bind fun y1=>some y1
theorem p5r:r0l=q17:=zC 138 rfl Tryz.func138 (by kernel_rfl)
def u3m(x:u9x):Ht u9x:=zK 70 x
def r89 (x:u9x):Ht u9x:=cond (Nat.ble (([]:Hu t7u.den).length+x.2.2.2.2.1.length) z7w) (cond (Nat.ble (([]:Hu u12.den).length+x.2.2.2.2.2.1.length) z7w) (some (x.1,x.2.1,x.2.2.1,x.2.2.2.1,([]:Hu t7u.den)++x.2.2.2.2.1,([]:Hu u12.den)++x.2.2.2.2.2.1,x.2.2.2.2.2.2)) none) none
theorem p2f:u3m=r89:=zC 70 rfl Tryz.func70 (by kernel_rfl)
def t32(x:r0o):Ht r0o:=zK 178 x
def t41(g:o6x→Ht o7c)(x:o6x):Ht o7c:=cond (decide (x.2.2<(x.1.length:Int))) (cond (y4q x.2.2 x.1.length) ((u3m (rdL u0a x.1 x.2.2.toNat)).bind fun y1=>cond (Nat.ble (x.2.1.length+([y1]:Hu u0a.den).length) z7w) (g (x.1,x.2.1++([y1]:Hu u0a.den),IntKind.i64.wrap (x.2.2+1))) none) none) (some (.inl x.2.1))
def t5g:=lpW _ _ t41
theorem r3m x:t5g x=t41 t5g x:=zW r2q 178 Tryz.f178 3 21 x (by kernel_rfl)
def r9b (x:r0o):Ht r0o:=(t5g (x,([]:Hu u0a.den),0)).bind fun r2=>match r2 with | .inl o3=>some o3 | .inr z4=>none
theorem p2h:t32=r9b:=zC 178 rfl Tryz.func178 (by kernel_rfl)
def u2v(x:Z99):Ht Z99:=zK 68 x
def r9a (x:Z99):Ht Z99:=cond (Nat.ble (([]:Hu u0d.den).length+x.1.length) z7w) ((t32 x.2.1).bind fun y1=>(t32 x.2.2.1).bind fun y2=>some (([]:Hu u0d.den)++x.1,y1,y2,x.2.2.2)) none
theorem p2g:u2v=r9a:=zC 68 rfl Tryz.func68 (by kernel_rfl)
def s3i(x:Z61):Ht Int:=zK 69 x
def t12(g:o1x→Ht o1k)(x:o1x):Ht o1k:=cond (decide (x.2.2<(x.1.length:Int))) (cond (y4q x.2.2 x.1.length) (cond (decide ((rdL u0a x.1 x.2.2.toNat).2.2.1<x.2.1)) (cond (y4q x.2.2 x.1.length) (g (x.1,(rdL u0a x.1 x.2.2.toNat).2.2.1,IntKind.i64.wrap (x.2.2+1))) none) (g (x.1,x.2.1,IntKind.i64.wrap (x.2.2+1)))) none) (some (.inl x.2.1))
def t2p:=lpW _ _ t12
theorem s84 x:t2p x=t12 t2p x:=zW s73 69 Tryz.f69 3 28 x (by kernel_rfl)
def r5c (x:Z61):Ht Int:=(t2p (x.2,x.1.2.2.2.1,0)).bind fun r1=>match r1 with | .inl o2=>some o2 | .inr z3=>none
theorem q89:s3i=r5c:=zC 69 rfl Tryz.func69 (by kernel_rfl)
def s6a(x:o7f):Ht s9h:=zK 71 x
def t4x(g:j4k→Ht j1l)(x:j4k):Ht j1l:=cond (decide (x.2.2.2<(x.1.length:Int))) (cond (y4q x.2.2.2 x.1.length) ((s5a (x.1,(rdL u0d x.1 x.2.2.2.toNat).1,x.2.1)).bind fun y1=>((cond (y4q x.2.2.2 x.1.length) (cond (decide ((rdL u0d x.1 x.2.2.2.toNat).2.2.2>x.2.1)) (some true) (some (decide (y1=x.2.2.2)))) none):Ht Bool).bind fun j2=>cond j2 (cond (y4q x.2.2.2 x.1.length) (cond (Nat.ble (x.2.2.1.length+([(rdL u0d x.1 x.2.2.2.toNat)]:Hu u0d.den).length) z7w) (g (x.1,x.2.1,x.2.2.1++([(rdL u0d x.1 x.2.2.2.toNat)]:Hu u0d.den),IntKind.i64.wrap (x.2.2.2+1))) none) none) (g (x.1,x.2.1,x.2.2.1,IntKind.i64.wrap (x.2.2.2+1)))) none) (some (.inl (x.2.1,x.2.2.1)))
def u9s:=lpW _ _ t4x
theorem r3i x:u9s x=t4x u9s x:=zW r2m 71 Tryz.f71 3 99 x (by kernel_rfl)
def t19(g:j31→Ht (j2m⊕Unit))(x:j31):Ht (j2m⊕Unit):=cond (decide (x.2.2.2.2.2<(x.2.1.length:Int))) (cond (y4q x.2.2.2.2.2 x.2.1.length) (cond (y4q x.2.2.2.1 x.2.1.length) (cond (z7o (rdL u0d x.2.1 x.2.2.2.2.2.toNat).1 (rdL u0d x.2.1 x.2.2.2.1.toNat).1) (g (x.1,x.2.1,x.2.2.1,x.2.2.2.1,IntKind.i64.wrap (x.2.2.2.2.1+1),IntKind.i64.wrap (x.2.2.2.2.2+1))) (g (x.1,x.2.1,x.2.2.1,x.2.2.2.1,x.2.2.2.2.1,IntKind.i64.wrap (x.2.2.2.2.2+1)))) none) none) (some (.inl (x.1,x.2.1,x.2.2.1,x.2.2.2.1,x.2.2.2.2.1)))
def u7t:=lpW _ _ t19
theorem s9b x:u7t x=t19 u7t x:=zW s8a 71 Tryz.f71 14 99 x (by kernel_rfl)
def t18(g:j4j→Ht o1j)(x:j4j):Ht o1j:=cond (decide (x.2.2.2<(x.2.1.length:Int))) ((u7t (x.1,x.2.1,x.2.2.1,x.2.2.2,0,0)).bind fun r5=>match r5 with | .inl o6=>(((cond (y4q o6.2.2.2.1 o6.2.1.length) (cond (!(rdL u0d o6.2.1 o6.2.2.2.1.toNat).2.2.1) (some true) (cond (y4q o6.2.2.2.1 o6.2.1.length) (cond (decide ((rdL u0d o6.2.1 o6.2.2.2.1.toNat).2.2.2>o6.1)) (some true) (some (decide (o6.2.2.2.2>1)))) none)) none):Ht Bool).bind fun j7=>cond j7 (cond (y4q o6.2.2.2.1 o6.2.1.length) (cond (Nat.ble (o6.2.2.1.length+([(rdL u0d o6.2.1 o6.2.2.2.1.toNat)]:Hu u0d.den).length) z7w) (g (o6.1,o6.2.1,o6.2.2.1++([(rdL u0d o6.2.1 o6.2.2.2.1.toNat)]:Hu u0d.den),IntKind.i64.wrap (o6.2.2.2.1+1))) none) none) (g (o6.1,o6.2.1,o6.2.2.1,IntKind.i64.wrap (o6.2.2.2.1+1)))) | .inr z8=>some (.inr ())) (some (.inl x.2.2.1))
def t2r:=lpW _ _ t18
theorem s9a x:t2r x=t18 t2r x:=zW s79 71 Tryz.f71 10 99 x (by kernel_rfl)
def r82 (x:o7f):Ht s9h:=(u9s (x.1,x.2,([]:Hu u0d.den),0)).bind fun r3=>match r3 with | .inl o4=>((t2r (o4.1,o4.2,([]:Hu u0d.den),0)).bind fun r9=>match r9 with | .inl o10=>some o10 | .inr z11=>none) | .inr z12=>none
theorem p19:s6a=r82:=zC 71 rfl Tryz.func71 (by kernel_rfl)
def u88(x:Z61):Ht Z99:=zK 14 x
def t6o(g:Z13→Ht (Z15⊕Unit))(x:Z13):Ht (Z15⊕Unit):=cond (decide (x.2.2.2.2<(x.1.2.1.length:Int))) (cond (y4q x.2.2.2.2 x.1.2.1.length) (cond (decide ((rdL u0a x.1.2.1 x.2.2.2.2.toNat).2.2.2.1>x.2.2.2.1)) (cond (y4q x.2.2.2.2 x.1.2.1.length) ((u3m (rdL u0a x.1.2.1 x.2.2.2.2.toNat)).bind fun y3=>cond (Nat.ble (x.2.2.1.2.1.length+([y3]:Hu u0a.den).length) z7w) (g (x.1,x.2.1,(x.2.2.1.1,x.2.2.1.2.1++([y3]:Hu u0a.den),x.2.2.1.2.2),x.2.2.2.1,IntKind.i64.wrap (x.2.2.2.2+1))) none) none) (g (x.1,x.2.1,x.2.2.1,x.2.2.2.1,IntKind.i64.wrap (x.2.2.2.2+1)))) none) (some (.inl (x.1,x.2.1,x.2.2.1,x.2.2.2.1)))
def t60:=lpW _ _ t6o
theorem r69 x:t60 x=t6o t60 x:=zW r6b 14 Tryz.f14 5 47 x (by kernel_rfl)
def q18 (x:Z61):Ht Z99:=(u2v x.1).bind fun y1=>(s3i x).bind fun y2=>(t60 (x.1,(([]:Hu u0d.den),([]:Hu u0a.den),([]:Hu u0a.den),0,0),(y1.1,([]:Hu u0a.den),y1.2.2),y2,0)).bind fun r4=>match r4 with | .inl o5=>((s6a (o5.1.1,o5.2.2.2)).bind fun y6=>some (y6,o5.2.2.1.2)) | .inr z7=>none
theorem p5s:u88=q18:=zC 14 rfl Tryz.func14 (by kernel_rfl)
def u03(x:o7g):Ht Bool:=zK 120 x
def q5w (x:o7g):Ht Bool:=((cond (decide (x.1≥x.2.1)) (some (decide (x.1≤x.2.2))) (some false)):Ht Bool).bind fun j1=>some j1
theorem p7u:u03=q5w:=zC 120 rfl Tryz.func120 (by kernel_rfl)
def u8h(x:Hs):Ht Bool:=zK 123 x
def t8o(g:p8u→Ht j1m)(x:p8u):Ht j1m:=cond (decide (x.2<(x.1.size:Int))) (((cond (y4q x.2 x.1.size) (cond (decide (((x.1.data.toList.getD x.2.toNat 0).toNat:Int)<(97:Int))) (some true) (cond (y4q x.2 x.1.size) (some (decide (((x.1.data.toList.getD x.2.toNat 0).toNat:Int)>(122:Int)))) none)) none):Ht Bool).bind fun j1=>cond j1 (some (.inr false)) (g (x.1,IntKind.i64.wrap (x.2+1)))) (some (.inl x.1))
def t8x:=lpW _ _ t8o
theorem r94 x:t8x x=t8o t8x x:=zW r9p 123 Tryz.f123 2 23 x (by kernel_rfl)
def q5r (x:Hs):Ht Bool:=(t8x (x,0)).bind fun r2=>match r2 with | .inl o3=>((u03 ((o3.size:Int),1,3)).bind fun y4=>some y4) | .inr z5=>some z5
theorem p7p:u8h=q5r:=zC 123 rfl Tryz.func123 (by kernel_rfl)
def s6b(x:o7b):Ht Bool:=zK 75 x
def r84 (x:o7b):Ht Bool:=(((u8h x.1).bind fun y1=>cond y1 (cond (decide ((x.2.1.size:Int)≤(12:Int))) (cond (!x.2.2) (some true) (some (z7o x.2.1 (⟨#[]⟩:Hs)))) (some false)) (some false)):Ht Bool).bind fun j2=>some j2
theorem p2b:s6b=r84:=zC 75 rfl Tryz.func75 (by kernel_rfl)
def s3m(x:p3y):Ht Bool:=zK 180 x
def t2b(g:(p3y×Int)→Ht (p3y⊕Bool))(x:(p3y×Int)):Ht (p3y⊕Bool):=cond (decide (x.2<(x.1.length:Int))) (((cond (y4q x.2 x.1.length) ((s6b (rdL u12 x.1 x.2.toNat)).bind fun y1=>cond (!y1) (some true) (cond (decide (x.2>0)) (cond (y4q (IntKind.i64.wrap (x.2 - 1)) x.1.length) (cond (y4q x.2 x.1.length) (some (!y3c (rdL u12 x.1 (IntKind.i64.wrap (x.2 - 1)).toNat).1 (rdL u12 x.1 x.2.toNat).1)) none) none) (some false))) none):Ht Bool).bind fun j2=>cond j2 (some (.inr false)) (g (x.1,IntKind.i64.wrap (x.2+1)))) (some (.inl x.1))
def t2s:=lpW _ _ t2b
theorem s9d x:t2s x=t2b t2s x:=zW s8c 180 Tryz.f180 2 37 x (by kernel_rfl)
def r5j (x:p3y):Ht Bool:=(t2s (x,0)).bind fun r3=>match r3 with | .inl o4=>some (decide ((o4.length:Int)≤(8:Int))) | .inr z5=>some z5
theorem q9f:s3m=r5j:=zC 180 rfl Tryz.func180 (by kernel_rfl)
def s57(x:p80):Ht Bool:=zK 235 x
def r8u (x:p80):Ht Bool:=(((u8h x.1).bind fun y1=>cond y1 ((u8h x.2).bind fun y2=>cond y2 (some (y3c x.1 x.2||z7o x.1 x.2)) (some false)) (some false)):Ht Bool).bind fun j3=>some j3
theorem p11:s57=r8u:=zC 235 rfl Tryz.func235 (by kernel_rfl)
def u8i(x:u9x):Ht Bool:=zK 121 x
def t8s(g:o45→Ht (u9x⊕Bool))(x:o45):Ht (u9x⊕Bool):=cond (decide (x.2<(x.1.2.2.2.2.1.length:Int))) (cond (y4q x.2 x.1.2.2.2.2.1.length) ((s57 (rdL t7u x.1.2.2.2.2.1 x.2.toNat)).bind fun y6=>cond (!y6) (some (.inr false)) (g (x.1,IntKind.i64.wrap (x.2+1)))) none) (some (.inl x.1))
def t80:=lpW _ _ t8s
theorem r98 x:t80 x=t8s t80 x:=zW r9t 121 Tryz.f121 4 95 x (by kernel_rfl)
def q5v (x:u9x):Ht Bool:=(((u03 (x.1,1,9999)).bind fun y1=>cond (!y1) (some true) ((u03 (x.2.1,1,3)).bind fun y2=>cond (!y2) (some true) ((u03 (x.2.2.1,0,9999)).bind fun y3=>cond (!y3) (some true) (cond (decide ((x.2.2.2.2.1.length:Int)>(8:Int))) (some true) ((s3m x.2.2.2.2.2.1).bind fun y4=>some (!y4)))))):Ht Bool).bind fun j5=>cond j5 (some false) ((t80 (x,0)).bind fun r7=>match r7 with | .inl o8=>(((cond (decide (o8.2.1=3)) ((u03 (o8.2.2.2.1,IntKind.i64.wrap (o8.2.2.1+1),9999)).bind fun y9=>cond (!y9) (some true) (cond (!decide (o8.2.1=3)) (some (!decide (o8.2.2.2.1=0))) (some false))) (cond (!decide (o8.2.1=3)) (some (!decide (o8.2.2.2.1=0))) (some false))):Ht Bool).bind fun j10=>cond j10 (some false) (((cond (decide (o8.2.1=2)) ((u8h o8.2.2.2.2.2.2.2).bind fun y11=>cond (!y11) (some true) (cond (!decide (o8.2.1=2)) (some (!z7o o8.2.2.2.2.2.2.2 (⟨#[]⟩:Hs))) (some false))) (cond (!decide (o8.2.1=2)) (some (!z7o o8.2.2.2.2.2.2.2 (⟨#[]⟩:Hs))) (some false))):Ht Bool).bind fun j12=>cond j12 (some false) (((cond (!decide (o8.2.1=1)) (some true) (some (!o8.2.2.2.2.2.2.1))):Ht Bool).bind fun j13=>some j13))) | .inr z14=>some z14)
theorem p7t:u8i=q5v:=zC 121 rfl Tryz.func121 (by kernel_rfl)
def t8g(x:s9h):Ht Bool:=zK 131 x
def u8t(g:o7f→Ht (s9h⊕Bool))(x:o7f):Ht (s9h⊕Bool):=cond (decide (x.2<(x.1.length:Int))) (cond (y4q x.2 x.1.length) ((((u8h (rdL u0d x.1 x.2.toNat).1).bind fun y1=>cond (!y1) (some true) (cond (decide (((rdL u0d x.1 x.2.toNat).2.1.size:Int)>(12:Int))) (some true) (cond (rdL u0d x.1 x.2.toNat).2.2.1 (cond (!z7o (rdL u0d x.1 x.2.toNat).2.1 (⟨#[]⟩:Hs)) (some true) ((u03 ((rdL u0d x.1 x.2.toNat).2.2.2,1,9999)).bind fun y2=>some (!y2))) ((u03 ((rdL u0d x.1 x.2.toNat).2.2.2,1,9999)).bind fun y3=>some (!y3))))):Ht Bool).bind fun j4=>cond j4 (some (.inr false)) (((cond (decide (x.2>0)) (cond (y4q (IntKind.i64.wrap (x.2 - 1)) x.1.length) (cond (!(y3c (rdL u0d x.1 (IntKind.i64.wrap (x.2 - 1)).toNat).1 (rdL u0d x.1 x.2.toNat).1||z7o (rdL u0d x.1 (IntKind.i64.wrap (x.2 - 1)).toNat).1 (rdL u0d x.1 x.2.toNat).1)) (some true) (cond (y4q (IntKind.i64.wrap (x.2 - 1)) x.1.length) (cond (z7o (rdL u0d x.1 (IntKind.i64.wrap (x.2 - 1)).toNat).1 (rdL u0d x.1 x.2.toNat).1) (cond (y4q (IntKind.i64.wrap (x.2 - 1)) x.1.length) (some (decide ((rdL u0d x.1 (IntKind.i64.wrap (x.2 - 1)).toNat).2.2.2≥(rdL u0d x.1 x.2.toNat).2.2.2))) none) (some false)) none)) none) (some false)):Ht Bool).bind fun j5=>cond j5 (some (.inr false)) (g (x.1,IntKind.i64.wrap (x.2+1))))) none) (some (.inl x.1))
def u80:=lpW _ _ u8t
theorem s3y x:u80 x=u8t u80 x:=zW s2p 131 Tryz.f131 2 78 x (by kernel_rfl)
def s7a (x:s9h):Ht Bool:=(u80 (x,0)).bind fun r6=>match r6 with | .inl o7=>some (decide ((o7.length:Int)≤(120:Int))) | .inr z8=>some z8
theorem q4k:t8g=s7a:=zC 131 rfl Tryz.func131 (by kernel_rfl)
def u6w(x:Z99):Ht Bool:=zK 42 x
def t6k(g:Z90→Ht o7e)(x:Z90):Ht o7e:=cond (decide (x.2<(x.1.1.length:Int))) (cond (y4q x.2 x.1.1.length) (cond (decide ((rdL u0d x.1.1 x.2.toNat).2.2.2>x.1.2.2.2.1)) (some (.inr false)) (g (x.1,IntKind.i64.wrap (x.2+1)))) none) (some (.inl x.1))
def t1d:=lpW _ _ t6k
theorem r65 x:t1d x=t6k t1d x:=zW r57 42 Tryz.f42 4 179 x (by kernel_rfl)
def t4k(g:Z72→Ht (Z82⊕Bool))(x:Z72):Ht (Z82⊕Bool):=cond (decide (x.2.2<(x.1.2.1.length:Int))) (cond (y4q x.2.2 x.1.2.1.length) ((((u8i (rdL u0a x.1.2.1 x.2.2.toNat)).bind fun y7=>cond (!y7) (some true) (cond (!decide ((rdL u0a x.1.2.1 x.2.2.toNat).2.1=3)) (some true) (cond (decide ((rdL u0a x.1.2.1 x.2.2.toNat).2.2.2.1>x.1.2.2.2.1)) (some true) (cond (decide (x.2.2>0)) (cond (y4q (IntKind.i64.wrap (x.2.2 - 1)) x.1.2.1.length) (some (decide ((rdL u0a x.1.2.1 (IntKind.i64.wrap (x.2.2 - 1)).toNat).2.2.2.1≥(rdL u0a x.1.2.1 x.2.2.toNat).2.2.2.1))) none) (some false))))):Ht Bool).bind fun j8=>cond j8 (some (.inr false)) (cond (Nat.ble (x.2.1.length+([(rdL u0a x.1.2.1 x.2.2.toNat).1]:Hu Int).length) z7w) (g (x.1,x.2.1++([(rdL u0a x.1.2.1 x.2.2.toNat).1]:Hu Int),IntKind.i64.wrap (x.2.2+1))) none)) none) (some (.inl (x.1,x.2.1)))
def u6a:=lpW _ _ t4k
theorem r24 x:u6a x=t4k u6a x:=zW r14 42 Tryz.f42 10 179 x (by kernel_rfl)
def t4l(g:Z72→Ht (Z82⊕Bool))(x:Z72):Ht (Z82⊕Bool):=cond (decide (x.2.2<(x.1.2.2.1.length:Int))) (cond (y4q x.2.2 x.1.2.2.1.length) ((((u8i (rdL u0a x.1.2.2.1 x.2.2.toNat)).bind fun y11=>cond (!y11) (some true) (cond (!decide ((rdL u0a x.1.2.2.1 x.2.2.toNat).2.1=2)) (some true) (cond (decide ((rdL u0a x.1.2.2.1 x.2.2.toNat).2.2.1>x.1.2.2.2.1)) (some true) (cond (decide (x.2.2>0)) (cond (y4q (IntKind.i64.wrap (x.2.2 - 1)) x.1.2.2.1.length) (some (!y3c (rdL u0a x.1.2.2.1 (IntKind.i64.wrap (x.2.2 - 1)).toNat).2.2.2.2.2.2.2 (rdL u0a x.1.2.2.1 x.2.2.toNat).2.2.2.2.2.2.2)) none) (some false))))):Ht Bool).bind fun j12=>cond j12 (some (.inr false)) (cond (Nat.ble (x.2.1.length+([(rdL u0a x.1.2.2.1 x.2.2.toNat).1]:Hu Int).length) z7w) (g (x.1,x.2.1++([(rdL u0a x.1.2.2.1 x.2.2.toNat).1]:Hu Int),IntKind.i64.wrap (x.2.2+1))) none)) none) (some (.inl (x.1,x.2.1)))
def u9l:=lpW _ _ t4l
theorem r25 x:u9l x=t4l u9l x:=zW r17 42 Tryz.f42 17 179 x (by kernel_rfl)
def t4n(g:Z67→Ht (Z72⊕Bool))(x:Z67):Ht (Z72⊕Bool):=cond (decide (x.2.2.2<x.2.2.1)) (cond (y4q x.2.2.2 x.2.1.length) (cond (y4q x.2.2.1 x.2.1.length) (cond (decide ((rdL (Ty.int .i64) x.2.1 x.2.2.2.toNat)=(rdL (Ty.int .i64) x.2.1 x.2.2.1.toNat))) (some (.inr false)) (g (x.1,x.2.1,x.2.2.1,IntKind.i64.wrap (x.2.2.2+1)))) none) none) (some (.inl (x.1,x.2.1,x.2.2.1)))
def u9m:=lpW _ _ t4n
theorem r27 x:u9m x=t4n u9m x:=zW r2a 42 Tryz.f42 27 179 x (by kernel_rfl)
def t4m(g:Z72→Ht s1h)(x:Z72):Ht s1h:=cond (decide (x.2.2<(x.2.1.length:Int))) ((u9m (x.1,x.2.1,x.2.2,0)).bind fun r15=>match r15 with | .inl o16=>cond (y4q o16.2.2 o16.2.1.length) (cond (decide ((rdL (Ty.int .i64) o16.2.1 o16.2.2.toNat)≥o16.1.2.2.2.2)) (some (.inr false)) (g (o16.1,o16.2.1,IntKind.i64.wrap (o16.2.2+1)))) none | .inr z17=>some (.inr z17)) (some (.inl ()))
def u6b:=lpW _ _ t4m
theorem r26 x:u6b x=t4m u6b x:=zW r19 42 Tryz.f42 24 179 x (by kernel_rfl)
def q1y (x:Z99):Ht Bool:=(((t8g x.1).bind fun y1=>cond (!y1) (some true) (cond (decide ((x.2.1.length:Int)>(12:Int))) (some true) (cond (decide ((x.2.2.1.length:Int)>(3:Int))) (some true) ((u03 (x.2.2.2.1,0,9999)).bind fun y2=>cond (!y2) (some true) ((u03 (x.2.2.2.2,1,9999)).bind fun y3=>some (!y3)))))):Ht Bool).bind fun j4=>cond j4 (some false) ((t1d (x,0)).bind fun r5=>match r5 with | .inl o6=>((u6a (o6,([]:Hu Int),0)).bind fun r9=>match r9 with | .inl o10=>((u9l (o10.1,o10.2,0)).bind fun r13=>match r13 with | .inl o14=>((u6b (o14.1,o14.2,0)).bind fun r18=>match r18 with | .inl o19=>some true | .inr z20=>some z20) | .inr z21=>some z21) | .inr z22=>some z22) | .inr z23=>some z23)
theorem p5i:u6w=q1y:=zC 42 rfl Tryz.func42 (by kernel_rfl)
def u1r(x:Int):Ht Hs:=zK 232 x
def r4a(g:o7h→Ht (o7h⊕Unit))(x:o7h):Ht (o7h⊕Unit):=cond (decide (x.1>127)) (cond (Nat.ble (x.2.length+([(IntKind.u8.wrap (IntKind.i64.wrap ((Int.tmod x.1 (128:Int))+128)))]:Hu Int).length) z7w) (g (IntKind.i64.wrap (Int.tdiv x.1 (128:Int)),x.2++([(IntKind.u8.wrap (IntKind.i64.wrap ((Int.tmod x.1 (128:Int))+128)))]:Hu Int))) none) (some (.inl x))
def t62:=lpW _ _ r4a
theorem p0l x:t62 x=r4a t62 x:=zW r6d 232 Tryz.f232 2 22 x (by kernel_rfl)
def q2a (x:Int):Ht Hs:=(t62 (x,([]:Hu Int))).bind fun r1=>match r1 with | .inl o2=>cond (Nat.ble (o2.2.length+([(IntKind.u8.wrap o2.1)]:Hu Int).length) z7w) (some (y7g (o2.2++([(IntKind.u8.wrap o2.1)]:Hu Int)))) none | .inr z3=>none
theorem p5u:u1r=q2a:=zC 232 rfl Tryz.func232 (by kernel_rfl)
def t9g(x:p8u):Ht o7i:=zK 234 x
def t4t(g:j42→Ht (Unit⊕o7i))(x:j42):Ht (Unit⊕o7i):=((cond (decide (x.2.2.2.2<(x.1.size:Int))) (some (decide (x.2.2.2.2<(IntKind.i64.wrap (x.2.1+5))))) (some false)):Ht Bool).bind fun j2=>cond j2 (cond (y4q x.2.2.2.2 x.1.size) (cond (y4q x.2.2.2.2 x.1.size) (cond (decide (((x.1.data.toList.getD x.2.2.2.2.toNat 0).toNat:Int)<(128:Int))) (((cond (decide ((IntKind.i64.wrap (x.2.2.1+(IntKind.i64.wrap ((Int.tmod (IntKind.i64.wrap ((x.1.data.toList.getD x.2.2.2.2.toNat 0).toNat:Int)) (128:Int))*x.2.2.2.1))))>1000000000)) (some true) ((u1r (IntKind.i64.wrap (x.2.2.1+(IntKind.i64.wrap ((Int.tmod (IntKind.i64.wrap ((x.1.data.toList.getD x.2.2.2.2.toNat 0).toNat:Int)) (128:Int))*x.2.2.2.1))))).bind fun y3=>cond (decide (0≤x.2.1)&&decide (x.2.1≤(IntKind.i64.wrap (x.2.2.2.2+1)))&&decide ((IntKind.i64.wrap (x.2.2.2.2+1))≤(x.1.size:Int))) (some (!z7o y3 (x.1.extract x.2.1.toNat (IntKind.i64.wrap (x.2.2.2.2+1)).toNat))) none)):Ht Bool).bind fun j4=>cond j4 (some (.inr (0,0,false))) (some (.inr (IntKind.i64.wrap (x.2.2.1+(IntKind.i64.wrap ((Int.tmod (IntKind.i64.wrap ((x.1.data.toList.getD x.2.2.2.2.toNat 0).toNat:Int)) (128:Int))*x.2.2.2.1))),IntKind.i64.wrap (x.2.2.2.2+1),true)))) (g (x.1,x.2.1,IntKind.i64.wrap (x.2.2.1+(IntKind.i64.wrap ((Int.tmod (IntKind.i64.wrap ((x.1.data.toList.getD x.2.2.2.2.toNat 0).toNat:Int)) (128:Int))*x.2.2.2.1))),IntKind.i64.wrap (x.2.2.2.1*128),IntKind.i64.wrap (x.2.2.2.2+1)))) none) none) (some (.inl ()))
def t5b:=lpW _ _ t4t
theorem r3d x:t5b x=t4t t5b x:=zW r2g 234 Tryz.f234 6 58 x (by kernel_rfl)
def r8w (x:p8u):Ht o7i:=(u03 (x.2,0,(x.1.size:Int))).bind fun y1=>cond (!y1) (some (0,0,false)) ((t5b (x.1,x.2,0,1,x.2)).bind fun r5=>match r5 with | .inl o6=>some (0,0,false) | .inr z7=>some z7)
theorem p13:t9g=r8w:=zC 234 rfl Tryz.func234 (by kernel_rfl)
def t5u(x:p8u):Ht q0u:=zK 227 x
def r1h (x:p8u):Ht q0u:=(t9g x).bind fun y1=>((cond (!y1.2.2) (some true) (cond (decide (y1.1>20000)) (some true) (some (decide (y1.1>(IntKind.i64.wrap ((x.1.size:Int) - y1.2.1))))))):Ht Bool).bind fun j2=>cond j2 (some ((⟨#[]⟩:Hs),0,false)) (cond (decide (0≤y1.2.1)&&decide (y1.2.1≤(IntKind.i64.wrap (y1.2.1+y1.1)))&&decide ((IntKind.i64.wrap (y1.2.1+y1.1))≤(x.1.size:Int))) (some (x.1.extract y1.2.1.toNat (IntKind.i64.wrap (y1.2.1+y1.1)).toNat,IntKind.i64.wrap (y1.2.1+y1.1),true)) none)
theorem q7d:t5u=r1h:=zC 227 rfl Tryz.func227 (by kernel_rfl)
def u1n(x:q0u):Ht j1a:=zK 111 x
def s2a (x:q0u):Ht j1a:=(t5u (x.1,x.2.1)).bind fun y1=>((cond x.2.2 (some true) (some (!y1.2.2))):Ht Bool).bind fun j2=>cond j2 (some ((⟨#[]⟩:Hs),x.1,x.2.1,true)) (some (y1.1,x.1,y1.2.1,x.2.2))
theorem q0g:u1n=s2a:=zC 111 rfl Tryz.func111 (by kernel_rfl)
def u5z(x:q0u):Ht (Bool×q0u):=zK 112 x
def s7b (x:q0u):Ht (Bool×q0u):=((cond x.2.2 (some true) (cond (decide (x.2.1≥(x.1.size:Int))) (some true) (cond (y4q x.2.1 x.1.size) (some (decide (((x.1.data.toList.getD x.2.1.toNat 0).toNat:Int)>(1:Int)))) none))):Ht Bool).bind fun j1=>cond j1 (some (false,x.1,x.2.1,true)) (cond (y4q (IntKind.i64.wrap ((IntKind.i64.wrap (x.2.1+1)) - 1)) x.1.size) (some (decide (((x.1.data.toList.getD (IntKind.i64.wrap ((IntKind.i64.wrap (x.2.1+1)) - 1)).toNat 0).toNat:Int)=(1:Int)),x.1,IntKind.i64.wrap (x.2.1+1),x.2.2)) none)
theorem q4m:u5z=s7b:=zC 112 rfl Tryz.func112 (by kernel_rfl)
def u2d(x:q0u):Ht (Int×q0u):=zK 118 x
def q2c (x:q0u):Ht (Int×q0u):=(t9g (x.1,x.2.1)).bind fun y1=>((cond x.2.2 (some true) (some (!y1.2.2))):Ht Bool).bind fun j2=>cond j2 (some (0,x.1,x.2.1,true)) (some (y1.1,x.1,y1.2.1,x.2.2))
theorem p5w:u2d=q2c:=zC 118 rfl Tryz.func118 (by kernel_rfl)
def t9f(x:p8u):Ht j3e:=zK 113 x
def t4s(g:Z37→Ht (Z40⊕Unit))(x:Z37):Ht (Z40⊕Unit):=((cond (decide (x.2.2.2.2<x.2.2.2.1)) (cond (decide (x.2.2.2.2<10)) (some (!x.2.1.2.2)) (some false)) (some false)):Ht Bool).bind fun j6=>cond j6 ((u1n x.2.1).bind fun y7=>(u1n y7.2).bind fun y8=>cond (Nat.ble (x.2.2.1.2.2.2.2.1.length+([(y7.1,y8.1)]:Hu t7u.den).length) z7w) (g (x.1,y8.2,(x.2.2.1.1,x.2.2.1.2.1,x.2.2.1.2.2.1,x.2.2.1.2.2.2.1,x.2.2.1.2.2.2.2.1++([(y7.1,y8.1)]:Hu t7u.den),x.2.2.1.2.2.2.2.2),x.2.2.2.1,IntKind.i64.wrap (x.2.2.2.2+1))) none) (some (.inl (x.1,x.2.1,x.2.2.1)))
def u9p:=lpW _ _ t4s
theorem r3c x:u9p x=t4s u9p x:=zW r2f 113 Tryz.f113 8 115 x (by kernel_rfl)
def t15(g:Z37→Ht (Z40⊕Unit))(x:Z37):Ht (Z40⊕Unit):=((cond (decide (x.2.2.2.2<x.2.2.2.1)) (cond (decide (x.2.2.2.2<10)) (some (!x.2.1.2.2)) (some false)) (some false)):Ht Bool).bind fun j12=>cond j12 ((u1n x.2.1).bind fun y13=>(u1n y13.2).bind fun y14=>(u5z y14.2).bind fun y15=>cond (Nat.ble (x.2.2.1.2.2.2.2.2.1.length+([(y13.1,y14.1,y15.1)]:Hu u12.den).length) z7w) (g (x.1,y15.2,(x.2.2.1.1,x.2.2.1.2.1,x.2.2.1.2.2.1,x.2.2.1.2.2.2.1,x.2.2.1.2.2.2.2.1,x.2.2.1.2.2.2.2.2.1++([(y13.1,y14.1,y15.1)]:Hu u12.den),x.2.2.1.2.2.2.2.2.2),x.2.2.2.1,IntKind.i64.wrap (x.2.2.2.2+1))) none) (some (.inl (x.1,x.2.1,x.2.2.1)))
def u7s:=lpW _ _ t15
theorem s87 x:u7s x=t15 u7s x:=zW s76 113 Tryz.f113 15 115 x (by kernel_rfl)
def r8v (x:p8u):Ht j3e:=(u2d (x.1,x.2,false)).bind fun y1=>(u2d y1.2).bind fun y2=>(u2d y2.2).bind fun y3=>(u2d y3.2).bind fun y4=>(u2d y4.2).bind fun y5=>(u9p ((0,0,0,0,([]:Hu t7u.den),([]:Hu u12.den),false,(⟨#[]⟩:Hs)),y5.2,(y1.1,y2.1,y3.1,y4.1,([]:Hu t7u.den),([]:Hu u12.den),false,(⟨#[]⟩:Hs)),y5.1,0)).bind fun r9=>match r9 with | .inl o10=>((u2d o10.2.1).bind fun y11=>(u7s (o10.1,y11.2,o10.2.2,y11.1,0)).bind fun r16=>match r16 with | .inl o17=>((u5z o17.2.1).bind fun y18=>(u1n y18.2).bind fun y19=>((cond y19.2.2.2 (some true) ((u8i (o17.2.2.1,o17.2.2.2.1,o17.2.2.2.2.1,o17.2.2.2.2.2.1,o17.2.2.2.2.2.2.1,o17.2.2.2.2.2.2.2.1,y18.1,y19.1)).bind fun y20=>some (!y20))):Ht Bool).bind fun j21=>cond j21 (some ((0,0,0,0,([]:Hu t7u.den),([]:Hu u12.den),false,(⟨#[]⟩:Hs)),0,false)) (some ((o17.2.2.1,o17.2.2.2.1,o17.2.2.2.2.1,o17.2.2.2.2.2.1,o17.2.2.2.2.2.2.1,o17.2.2.2.2.2.2.2.1,y18.1,y19.1),y19.2.2.1,true))) | .inr z22=>none) | .inr z23=>none
theorem p12:t9f=r8v:=zC 113 rfl Tryz.func113 (by kernel_rfl)
def t00(x:(q0u×Int)):Ht j4c:=zK 119 x
def u3z(g:j3p→Ht (j0x⊕j0x))(x:j3p):Ht (j0x⊕j0x):=((cond (decide (x.2.2.2.2<x.2.2.2.1)) (cond (decide (x.2.2.2.2≤x.2.1)) (some (!x.1.2.2)) (some false)) (some false)):Ht Bool).bind fun j2=>cond j2 ((t9f (x.1.1,x.1.2.1)).bind fun y3=>cond (!y3.2.2) (some (.inr ((x.1.1,x.1.2.1,true),x.2.2.1))) (cond (Nat.ble (x.2.2.1.length+([y3.1]:Hu u0a.den).length) z7w) (g ((x.1.1,y3.2.1,x.1.2.2),x.2.1,x.2.2.1++([y3.1]:Hu u0a.den),x.2.2.2.1,IntKind.i64.wrap (x.2.2.2.2+1))) none)) (some (.inl (x.1,x.2.2.1)))
def u5k:=lpW _ _ u3z
theorem u7j x:u5k x=u3z u5k x:=zW s00 119 Tryz.f119 4 59 x (by kernel_rfl)
def s4e (x:(q0u×Int)):Ht j4c:=(u2d x.1).bind fun y1=>(u5k (y1.2,x.2,([]:Hu u0a.den),y1.1,0)).bind fun r4=>match r4 with | .inl o5=>some (o5.2,o5.1) | .inr z6=>some (z6.2,z6.1)
theorem q2u:t00=s4e:=zC 119 rfl Tryz.func119 (by kernel_rfl)
end
end Go.Proofs.YtkdpclfhapphhaaGreat.Ab
