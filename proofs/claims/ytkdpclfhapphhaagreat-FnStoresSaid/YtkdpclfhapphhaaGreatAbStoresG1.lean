import Derived.Test.YtkdpclfhapphhaaGreatAbK2
import Derived.Test.YtkdpclfhapphhaaGreatAbF4
import Derived.Test.YtkdpclfhapphhaaGreatAbS1
import Derived.KernelRfl
import Derived.Test.YtkdpclfhapphhaaGreatProg
namespace Go.Proofs.YtkdpclfhapphhaaGreat.Ab
open Go
set_option linter.unusedVariables false
noncomputable section
abbrev d1i:Ty:=(.pair .bool (.int .i64))
abbrev j5c:Ty:=(.pair .str d1i)
abbrev u0h:Ty:=(.pair .str j5c)
abbrev p4x:Ty:=(.pair .str .str)
abbrev d1l:Ty:=(.pair .str .bool)
abbrev u2l:Ty:=(.pair .str d1l)
abbrev d1j:Ty:=(.pair .bool .str)
abbrev o4g:Ty:=(.pair (.sl u2l) d1j)
abbrev q9u:Ty:=(.pair (.sl p4x) o4g)
abbrev q4h:Ty:=(.pair (.int .i64) q9u)
abbrev r98:Ty:=(.pair (.int .i64) q4h)
abbrev r6n:Ty:=(.pair (.int .i64) r98)
abbrev u0a:Ty:=(.pair (.int .i64) r6n)
abbrev p7e:Ty:=(.pair (.int .i64) .str)
abbrev j88:Ty:=(.pair (.int .i64) (.int .i64))
abbrev s31:Ty:=(.pair (.sl u0a) j88)
abbrev o8m:Ty:=(.pair (.sl u0a) s31)
abbrev p1n:Ty:=(.pair (.sl u0h) o8m)
abbrev o05:Ty:=(.pair p1n (.sl u0a))
abbrev o5x:Ty:=(.pair (.sl .str) (.sl p7e))
abbrev o8k:Ty:=(.pair o05 o5x)
abbrev o8i:Ty:=(.pair .bool p1n)
abbrev o8n:Ty:=(.pair .str o8i)
abbrev o8l:Ty:=(.pair u0a o8n)
abbrev o8j:Ty:=(.pair (.int .i64) o8l)
abbrev d1k:Ty:=(.pair (.int .i64) .bool)
abbrev j2k:Ty:=(.pair .str d1k)
abbrev j3i:Ty:=(.pair (.sl (.int .u8)) j88)
abbrev t01:=((Hu Hs)×(Hu p7e.den))
abbrev j62:=((Hu p4x.den)×(Hu u2l.den))
abbrev j61:=((Hs×Hs)×Hs)
abbrev d0y:=((Hu Hs)×(Hu Hs))
abbrev j60:=((Hu u2l.den)×(Hu u2l.den))
abbrev j6z:=(Hs×(Hs×(Int×Bool)))
abbrev j6y:=(Hs×((Hu Int)×(Int×Int)))
abbrev d0x:=(Hs×(Int×(Int×(Int×Int))))
abbrev d0w:=((Hu Int)×((Hu Int)×(Int×Int)))
abbrev j2r:=((Hu u0h.den)×(Hs×Int))
abbrev j2q:=(Hu (Hu u0a.den))
abbrev o4i:=((Hu u0a.den)×Int)
abbrev p16:=(t01×Int)
abbrev d0v:=(Int×t01)
abbrev s91:=(t01×Bool)
abbrev j6x:=((Hu p4x.den)×((Hu u2l.den)×Int))
abbrev d0u:=((Hu Hs)×((Hu Hs)×Int))
abbrev d0t:=(((Hu Int)×(Int×Int))×(Hu Hs))
abbrev d0s:=((Hu Int)×((Hu Hs)×(Int×Int)))
abbrev j6w:=((Hu u2l.den)×((Hu u2l.den)×Int))
abbrev j8g:=((Hu u0h.den)×(Hs×Hs))
abbrev j6v:=((Hu u0h.den)×((Hu u2l.den)×Int))
abbrev j4r:=((Hu u0a.den)×Hs)
abbrev j6u:=(t01×Hs)
abbrev d0r:=(j2q×Int)
abbrev d0q:=((Hu p4x.den)×((Hu p4x.den)×(Int×Int)))
abbrev d0p:=((Hu u0h.den)×(Int×(Hu u0h.den)))
abbrev j8f:=((Hu u0h.den)×((Hu u0h.den)×Int))
abbrev j6t:=(Int×((Hu u0h.den)×(Hu u0h.den)))
abbrev j2p:=((Hu u0a.den)×(Int×Int))
abbrev j2o:=(t01×(Int×Int))
abbrev d0o:=(Int×p16)
abbrev d0n:=((Hu p4x.den)×((Hu u2l.den)×(Int×Int)))
abbrev j6s:=((Hu u2l.den)×((Hu p4x.den)×(Int×Int)))
abbrev d0m:=(Int×(Hs×((Hu p7e.den)×(Int×Int))))
abbrev d0l:=((Hu u2l.den)×(Hs×(Hs×Bool)))
abbrev d0k:=((Hs×Hs)×((Hu Int)×(Int×Int)))
abbrev j2n:=((Hu u2l.den)×((Hu u2l.den)×(Int×Int)))
abbrev d0j:=((Hu u0h.den)×((Hs×Hs)×Int))
abbrev d0i:=((Hu Hs)×((Hu u0h.den)×(Int×Int)))
abbrev d0h:=((Hu u0h.den)×(Hs×(Int×(Int×Int))))
abbrev j2m:=(t01×(Hu Hs))
abbrev d0g:=(Hs×(Int×((Hu u0h.den)×(Int×Int))))
abbrev d0f:=((Hu u2l.den)×(Int×((Hu u0h.den)×Int)))
abbrev d0e:=((Hu u0a.den)×(Hs×Int))
abbrev o5z:=(t01×(Int×Hs))
abbrev j5i:=(Int×j2p)
abbrev j6r:=((Hu u0h.den)×((Hu u0h.den)×(Int×Int)))
abbrev d0d:=(Int×j8f)
abbrev j0i:=((Hu u0a.den)×(Int×(Int×Int)))
abbrev d0c:=((Hu u0h.den)×(Int×((Hu u0h.den)×Int)))
abbrev d0b:=((Hs×(Hs×Bool))×((Hu Int)×(Int×Int)))
abbrev d0a:=((Hu u0h.den)×(Hs×(Hs×(Bool×Int))))
abbrev j99:=(Int×((Hu u0h.den)×((Hu u2l.den)×(Int×Int))))
abbrev j4q:=((Hu u0a.den)×(Hs×(Int×Int)))
abbrev j6q:=((Hs×(Int×Bool))×(Hu u0a.den))
abbrev j98:=((Hu u0h.den)×((Hu (Hu u0h.den))×(Int×Int)))
abbrev j6p:=(t01×(Int×(Int×Hs)))
abbrev j97:=((Hu u0a.den)×(Hs×(Int×Bool)))
abbrev j8e:=(Int×j6r)
abbrev j96:=((Hu Hs)×j2p)
abbrev j8d:=(t01×((Hu p7e.den)×(Int×Int)))
abbrev j8c:=(t01×((Hu Hs)×(Int×Int)))
abbrev j6o:=((Hu Int)×(j2q×(Int×Int)))
abbrev j95:=(Int×(Int×(t01×(Hs×Int))))
abbrev j94:=(Int×(Int×(t01×((Hu Int)×Int))))
abbrev j93:=(Int×((Hu u0h.den)×((Hu u0h.den)×(Int×(Int×Int)))))
abbrev j92:=((Hu u0h.den)×((Hs×Hs)×((Hu Hs)×Int)))
abbrev j91:=((Hu u0h.den)×((Hs×Hs)×(Int×(Hu Hs))))
abbrev j90:=((Hu u2l.den)×((Hs×(Hs×Bool))×(Hu u2l.den)))
abbrev j8b:=(t01×t01)
abbrev j9z:=((Hu u0h.den)×((Hs×(Hs×(Bool×Int)))×(Int×Int)))
abbrev j9y:=((Hu (Hu u0h.den))×(Int×((Hu (Hu u0h.den))×(Int×Int))))
abbrev j9x:=((Hu u0a.den)×o4i)
abbrev j9w:=((Hu u0a.den)×((Hu u0a.den)×Unit))
abbrev j6n:=((Hu u2l.den)×((Hs×(Hs×Bool))×((Hu u2l.den)×Int)))
abbrev j6m:=((Hs×(Hs×(Bool×Int)))×(Hs×(Hs×(Bool×Int))))
abbrev j9v:=(t01×s91)
abbrev j9u:=((Hu u0h.den)×(Hs×(Int×(Int×((Hu u0h.den)×(Int×Int))))))
abbrev j9t:=((Hs×(Int×Bool))×j5i)
abbrev j9s:=((Hu u0h.den)×j8e)
abbrev j9r:=(Int×((Hu u0h.den)×j6r))
abbrev j8a:=((Hu u0a.den)×j2p)
abbrev j9q:=(Int×(((Hu u0h.den)×(Hu u0h.den))×((Hu u0h.den)×(Int×Int))))
abbrev t1m:=(Int×(Int×(Int×(Int×((Hu p4x.den)×((Hu u2l.den)×(Bool×Hs)))))))
abbrev j9p:=(Int×(t01×p16))
abbrev j9o:=(Int×(t01×(Hs×((Hu Hs)×(Int×Int)))))
abbrev j9n:=((Hu u0a.den)×(j2q×(Int×Int)))
abbrev j9m:=((Hu u0a.den)×j5i)
abbrev j9l:=((Hu u0a.den)×(Unit×j2p))
abbrev o4h:=(t1m×Int)
abbrev j4p:=(t1m×Bool)
abbrev j0x:=(t1m×Hs)
abbrev j6l:=(t1m×(Hu Int))
abbrev j9k:=(t1m×(Int×Bool))
abbrev j9j:=((Hu u0h.den)×((Hs×Hs)×((Hu Hs)×(Int×(Hs×(Hu Hs))))))
abbrev j9i:=((Hu u0h.den)×(Int×((Hs×Hs)×((Hu p4x.den)×((Hu Hs)×(Int×Int))))))
abbrev j9h:=(t01×j8d)
abbrev j9g:=(j2q×(Int×(j2q×(Int×Int))))
abbrev j6k:=(t1m×(Hs×Int))
abbrev u74:=((Hu u0h.den)×j8a)
abbrev j9f:=(Int×(t01×((Hu Hs)×(Hs×((Hu Hs)×(Int×Int))))))
abbrev j6j:=((Hu u0h.den)×((Hs×Hs)×((Hu Hs)×(Int×(Hs×((Hu Hs)×Int))))))
abbrev j9e:=((Hu u2l.den)×((Hs×Hs)×((Hu p4x.den)×(Int×(Int×((Hu u2l.den)×(Int×Int)))))))
abbrev j9d:=(t1m×(Hs×Hs))
abbrev j5h:=((Hs×(Int×Bool))×t1m)
abbrev j9c:=((Hu Hs)×(t01×(Int×(t01×(Bool×Int)))))
abbrev j5g:=(u74×Int)
abbrev j4o:=(t1m×(Hs×(Int×Bool)))
abbrev o5y:=(u74×Bool)
abbrev j79:=(t01×(t01×p16))
abbrev j9b:=(t1m×((Hu p4x.den)×(Int×Int)))
abbrev j9a:=(t1m×(Hs×(Hs×Bool)))
abbrev j0h:=(u74×Hs)
abbrev j89:=((Hu Int)×(j2q×(Int×j5i)))
abbrev Z99:=(t1m×((Hu u0h.den)×Hs))
abbrev Z98:=(u74×(Hu Int))
abbrev Z97:=((Hu u2l.den)×((Hs×(Hs×Bool))×((Hu u2l.den)×(Int×(Int×((Hu u2l.den)×(Int×Int)))))))
abbrev Z96:=((Hu u0h.den)×(Hs×t1m))
abbrev Z95:=(u74×(Int×Bool))
abbrev Z94:=(t1m×(Hu u0a.den))
abbrev Z93:=((Hs×(Int×Bool))×(t1m×Unit))
abbrev Z92:=((Hs×(Int×Bool))×(Unit×t1m))
abbrev Z91:=((Hu u0a.den)×t1m)
abbrev Z90:=((Hu u2l.den)×(Int×((Hu u0h.den)×(Int×((Hs×(Hs×(Bool×Int)))×((Hu u0h.den)×Int))))))
abbrev Z89:=(u74×(Hs×Int))
abbrev Z88:=(Hs×j5g)
abbrev Z87:=(u74×((Hu Int)×Int))
abbrev Z86:=((Hu u0h.den)×(Hs×o4h))
abbrev Z85:=((Hu u0a.den)×o4h)
abbrev Z84:=(t1m×((Hu Int)×((Hu p4x.den)×(Int×Int))))
abbrev Z83:=(t1m×j8g)
abbrev Z82:=(t1m×((Hu Int)×((Hu u2l.den)×(Int×Int))))
abbrev Z81:=(u74×(Hs×(Int×Bool)))
abbrev Z80:=((Hs×(Int×Bool))×u74)
abbrev Z79:=(u74×((Hu Int)×(Int×Int)))
abbrev Z78:=((Hs×(Int×Bool))×((t1m×Unit)×(Int×Int)))
abbrev Z77:=((Hs×(Int×Bool))×((Unit×t1m)×(Int×Int)))
abbrev Z76:=((Hu u0a.den)×(t1m×(Int×Int)))
abbrev Z75:=(Int×(Int×(Hs×(t01×j8b))))
abbrev Z74:=((Hu u0a.den)×(t1m×(Bool×Int)))
abbrev Z73:=(u74×(Hu u0a.den))
abbrev Z72:=((Hs×(Int×Bool))×(Unit×u74))
abbrev Z71:=(u74×((Hu u0h.den)×(Int×Int)))
abbrev Z70:=((Hs×(Int×Bool))×(u74×Unit))
abbrev Z69:=(Int×(Int×(Hs×j79)))
abbrev Z68:=(Z73×Int)
abbrev Z67:=(t01×(t01×(Int×j8c)))
abbrev Z66:=((Hu u0h.den)×(t1m×((Hu p4x.den)×((Hu Hs)×Int))))
abbrev Z65:=((Hu u0h.den)×(t1m×((Hs×Hs)×(Hu u0h.den))))
abbrev Z64:=(u74×((Hu Int)×((Hu u0h.den)×(Int×Int))))
abbrev Z63:=(Int×Z68)
abbrev Z62:=((Hs×(Int×Bool))×((Unit×u74)×(Int×Int)))
abbrev Z61:=((Hs×(Int×Bool))×((u74×Unit)×(Int×Int)))
abbrev Z60:=(Z73×(Int×Int))
abbrev Z59:=(u74×j2p)
abbrev Z58:=((Hu u0a.den)×Z94)
abbrev Z57:=((Hu u0h.den)×(t1m×((Hs×Hs)×((Hu u0h.den)×Int))))
abbrev Z56:=(Z73×(Int×Hs))
abbrev Z55:=(Z73×(Hs×Bool))
abbrev Z54:=(Z73×((Hu p4x.den)×Int))
abbrev Z53:=(Z73×(Hs×(Bool×Int)))
abbrev Z52:=((Hu u0a.den)×(Z94×(Int×Int)))
abbrev Z51:=(t1m×t1m)
abbrev Z50:=(Z73×(Int×(Hs×Hs)))
abbrev Z49:=(Z73×(Hu u0a.den))
abbrev Z48:=(Z73×t01)
abbrev Z47:=(Z73×(Int×(Hs×(Hs×Bool))))
abbrev Z46:=(Z48×Int)
abbrev Z45:=(Int×Z48)
abbrev Z44:=(Z48×Bool)
abbrev Z43:=(Bool×Z48)
abbrev Z42:=(Z73×(Int×o4i))
abbrev Z41:=(Z73×j2p)
abbrev Z40:=(u74×t1m)
abbrev Z39:=(Z48×(Int×Hs))
abbrev Z38:=(Z48×(Hs×Bool))
abbrev Z37:=(t1m×j5h)
abbrev Z36:=(u74×j0x)
abbrev Z35:=(Z48×((Hu Int)×(Int×Int)))
abbrev Z34:=(((Hu Int)×(Int×Int))×Z48)
abbrev Z33:=(t1m×Z94)
abbrev Z32:=(u74×u74)
abbrev Z31:=(t1m×((Hs×(Int×Bool))×(t1m×(Int×Int))))
abbrev Z30:=(Int×(t1m×(Hs×(Bool×u74))))
abbrev Z29:=((Hu u0a.den)×(t1m×(Int×o4h)))
abbrev Z28:=(Z30×Bool)
abbrev Z27:=((Hu u0a.den)×(t1m×(Bool×(Int×o4h))))
abbrev Z26:=(Z73×(Int×t1m))
abbrev Z25:=(u74×(u74×((Hu Hs)×Int)))
abbrev Z24:=(u74×Z80)
abbrev Z23:=(Z73×(Int×o4h))
abbrev Z22:=(u74×(u74×((Hu Hs)×(Int×Int))))
abbrev Z21:=(u74×((Hs×(Int×Bool))×(u74×(Int×Int))))
abbrev Z20:=(t1m×((Hs×Hs)×Z51))
abbrev Z19:=(t1m×((Hs×Hs)×(t1m×o4h)))
abbrev Z18:=(t1m×Z32)
abbrev Z17:=(u74×Z30)
abbrev Z16:=(u74×(u74×j5g))
abbrev Z15:=(u74×(u74×(u74×(Int×Int))))
abbrev Z14:=(Hs×Z16)
abbrev Z13:=(Z73×(Z30×Int))
abbrev Z12:=(((Hu Int)×(Int×Int))×(Z48×Z48))
abbrev Z11:=(t1m×(u74×Z40))
abbrev Z10:=(((Hu Int)×(Int×Int))×(Int×(Z48×Z46)))
abbrev Z9:=(Z48×Z30)
abbrev Z8:=(t1m×(u74×(u74×(t1m×(Unit×(Int×Int))))))
abbrev Z7:=(Hs×(u74×(t1m×(u74×j5g))))
abbrev Z6:=(t1m×(u74×(u74×(t1m×((Hu u0a.den)×(Hu u0a.den))))))
abbrev Z5:=(Hs×(t1m×(u74×(u74×(t1m×((Hu u0a.den)×((Hu u0a.den)×(Unit×(Int×Int)))))))))
abbrev Z4:=(u74×(t1m×(u74×(u74×o4h))))
abbrev Z3:=(Hs×(u74×Z11))
abbrev Z2:=(Hs×Z4)
abbrev Z1:=(Z48×(Int×Z13))
def d06:Tabs where
 ty:= [(3,(.int .i64)),(4, .bool),(5,(.int .u8)),(9, .str),(22,(.sl (.int .u8))),(24,(.sl u0h)),(25,(.sl u0a)),(27,p1n),(29,o05),(30,(.sl .str)),(31,(.sl p7e)),(33,o5x),(35,o8k),(51,u2l),(58,(.sl (.int .i64))),(67,(.sl p4x)),(68,(.sl u2l)),(70,u0a),(72,o8j),(133,u0h),(145,p4x),(147,(.sl p4x)),(149,p4x),(167,j2k),(175,j2k),(182,(.sl (.sl u0a))),(211,j3i),(242,(.int .u32)),(278,p7e),(295,(.sl (.sl u0h)))]
 lay:= [(3,1,false),(4,1,false),(5,1,false),(9,1,false),(22,1,false),(24,1,false),(25,1,false),(27,5,true),(29,6,true),(30,1,false),(31,1,false),(33,2,true),(35,8,true),(51,3,true),(67,1,false),(68,1,false),(70,8,true),(72,16,true),(133,4,true),(145,2,true),(149,2,true),(165,1,false),(278,2,true)]
 fld:= [(27, [(0,1,false),(1,1,false),(2,1,false),(3,1,false),(4,1,false)]),(29, [(0,5,true),(5,1,false)]),(33, [(0,1,false),(1,1,false)]),(35, [(0,6,true),(6,2,true)]),(51, [(0,1,false),(1,1,false),(2,1,false)]),(70, [(0,1,false),(1,1,false),(2,1,false),(3,1,false),(4,1,false),(5,1,false),(6,1,false),(7,1,false)]),(72, [(0,1,false),(1,8,true),(9,1,false),(10,1,false),(11,5,true)]),(133, [(0,1,false),(1,1,false),(2,1,false),(3,1,false)]),(145, [(0,1,false),(1,1,false)]),(149, [(0,1,false),(1,1,false)]),(160, [(0,1,false)]),(167, [(0,1,false),(1,1,false),(2,1,false)]),(175, [(0,1,false),(1,1,false),(2,1,false)]),(211, [(0,1,false),(1,1,false),(2,1,false)]),(278, [(0,1,false),(1,1,false)])]
 eqs:= [(145, [.s, .s]),(149, [.s, .s])]
 tz:= [(160,(.sl (.int .u8)))]
abbrev zL (a:Hu Nat) (s:Sh) (n:Nat) (b:Hu Nat) (t:Sh) (c:Hu Nat) (u:Sh):LoopA:=⟨⟨a,s, []⟩,n,⟨b,t, []⟩,⟨c,u, []⟩⟩
def zS (i o:Sh) (n:Nat:=1) (b:Hu Bool:= []):Sig:=⟨i,b,o,n⟩
abbrev j39:Ty:=.int .u8
abbrev j4a:Ty:=.int .i64
abbrev d1x:Ty:=.sl u0a
abbrev d1y:Ty:=.sl u0h
abbrev u03:Sh:=.int .i64
abbrev s45:Sh:=.tr false u0a
abbrev q3g:Sh:=.own true u0a
abbrev s1p:Sh:=.pair u03 u03
abbrev r6m:Sh:=.tr false u0h
abbrev q9o:Sh:=.tr false u2l
abbrev q9p:Sh:=.pair .str .bool
abbrev p4v:Sh:=.own true u0h
abbrev j4d:Sh:=.pair p4v (.pair q3g (.pair q3g s1p))
abbrev r6r:Sh:=.box j4d
abbrev p8c:Sh:=.box (.own true j39)
abbrev p1a:Sh:=.own true .str
abbrev j8r:Sh:=.pair p1a (.own true p7e)
abbrev d08:Sh:=.pair (.pair j4d q3g) j8r
abbrev j8u:Sh:=.pair .str .str
abbrev o5r:Sh:=.pair .str u03
abbrev o8a:Sh:=.box j8r
abbrev o8b:Sh:=.agg (.pair j4d q3g)
abbrev j7k:Sh:=.rbox (.ref 0)
abbrev j0e:Sh:=.tr false p4x
abbrev j7g:Sh:=.pair u03 (.pair u03 (.pair u03 (.pair u03 (.pair j0e (.pair q9o (.pair .bool .str))))))
abbrev q6z:Sh:=.agg j7g
abbrev o0v:Sh:=.rbox j7g
abbrev q3h:Sh:=.box j7g
abbrev o8c:Sh:=.tr false .str
abbrev j8s:Sh:=.pair o8c (.tr false p7e)
abbrev q76:Sh:=.agg j8s
abbrev j4g:Sh:=.pair u03 .bool
abbrev s7d:Sh:=.box (.pair .str j4g)
abbrev j2i:Sh:=.tr true u0h
abbrev j6b:Sh:=.own false u0a
abbrev j7l:Sh:=.pair q3h u03
abbrev o5s:Sh:=.agg j4d
abbrev j7m:Sh:=.pair .str q9p
abbrev j0f:Sh:=.pair s45 s1p
abbrev j7h:Sh:=.pair r6m (.pair s45 j0f)
abbrev j0n:Sh:=.agg (.pair u03 (.pair j7g (.pair .str (.pair .bool j7h))))
abbrev j8t:Sh:=.pair j7h s45
abbrev p4w:Sh:=.agg j7h
abbrev p1b:Sh:=.box j7h
abbrev j3b:Sh:=.agg (.pair j8t j8s)
abbrev o30:Sh:=.box j8s
abbrev j2j:Sh:=.pair q6z s45
abbrev j42:Sh:=.pair q9o s1p
abbrev o8d:Sh:=.int .u32
abbrev o77:Sh:=.rbox u03
abbrev j7n:Sh:=.clo 371 (.pair o0v (.rbox s45))
abbrev j3c:Sh:=.pair q76 u03
abbrev o6v:Sh:=.box d08
abbrev j6c:Sh:=.tr false d1x
abbrev j4h:Sh:=.pair q9o u03
abbrev j4i:Sh:=.pair q6z o0v
abbrev j4j:Sh:=.pair o8a o8a
abbrev j4k:Sh:=.pair r6m s1p
abbrev j7o:Sh:=.pair u03 (.own true j39)
abbrev j3d:Sh:=.own true p4x
abbrev j7i:Sh:=.pair u03 (.pair u03 (.pair u03 (.pair u03 (.pair j3d (.pair (.own true u2l) (.pair .bool .str))))))
abbrev j7j:Sh:=.pair o8b (.pair (.agg (.pair u03 (.pair j7i (.pair .str (.pair .bool j4d))))) u03)
abbrev p1k:Sh:=.box j7i
abbrev d1b:Sh:=.pair (.agg (.pair u03 (.pair j7i (.pair .str (.pair .bool j4d))))) .bool
abbrev j4l:Sh:=.rbox s7d
abbrev o8e:Sh:=.agg j8t
abbrev j2h:Sh:=.pair o8e u03
abbrev j0g:Sh:=.agg j8u
abbrev j43:Sh:=.pair u03 s1p
abbrev j44:Sh:=.pair q6z q6z
abbrev j45:Sh:=.pair r6r j7k
abbrev j46:Sh:=.pair q3g u03
abbrev j0o:Sh:=.agg d08
abbrev j4m:Sh:=.tr false j39
abbrev p63:Sh:=.box (.pair j4m s1p)
abbrev j7p:Sh:=.box (.pair j4d q3g)
abbrev d1c:Sh:=.pair q9o (.pair (.box j7m) (.pair (.own true u2l) u03))
abbrev j7q:Sh:=.clo 289 (.rbox .str)
abbrev j0p:Sh:=.box j8u
abbrev j47:Sh:=.pair u03 .str
abbrev j4f:Sh:=.pair q76 j47
abbrev j8v:Sh:=.pair o8a (.pair o8a u03)
abbrev j8w:Sh:=.pair r6r (.pair r6r u03)
abbrev j6d:Sh:=.pair s45 j7l
abbrev j6e:Sh:=.pair r6r r6r
abbrev j6f:Sh:=.pair j0e s1p
abbrev j8x:Sh:=.pair (.tr false p7e) s1p
abbrev j8y:Sh:=.pair s45 (.clo 290 o0v)
abbrev j8z:Sh:=.clo 215 (.pair j7k r6r)
abbrev j80:Sh:=.clo 218 (.pair p1k j7k)
abbrev j81:Sh:=.clo 219 (.pair j7k p1k)
abbrev j82:Sh:=.pair s45 (.clo 366 o0v)
abbrev j6g:Sh:=.tr false d1y
abbrev j83:Sh:=.pair s45 (.clo 368 o0v)
abbrev j84:Sh:=.pair s45 (.clo 411 o0v)
abbrev j85:Sh:=.pair s45 (.clo 370 o0v)
abbrev j86:Sh:=.pair s45 (.clo 372 o0v)
abbrev j48:Sh:=.tr true .str
abbrev d09:Sh:=.pair r6m (.pair j0p (.pair j48 (.pair u03 (.pair .str (.pair p1a u03)))))
abbrev j3e:Sh:=.agg j8r
abbrev p8b:Sh:=.pair j3e .bool
abbrev j7r:Sh:=.pair o5s .bool
abbrev j6h:Sh:=.pair .bool u03
abbrev j4e:Sh:=.pair .str (.pair .str j6h)
abbrev j4n:Sh:=.box j8t
abbrev j7s:Sh:=.pair o8a .bool
abbrev j7t:Sh:=.pair u03 j4g
abbrev j7u:Sh:=.pair q76 s1p
abbrev j7v:Sh:=.pair p1a j4g
abbrev j7w:Sh:=.pair p4w s45
abbrev j7x:Sh:=.pair r6m o5r
abbrev j7y:Sh:=.pair r6m u03
abbrev j7z:Sh:=.pair p4w .str
abbrev j70:Sh:=.pair q76 o8c
abbrev j71:Sh:=.pair r6r j4l
abbrev j72:Sh:=.pair u03 j7l
abbrev d1d:Sh:=.pair p1k (.pair s7d (.pair p1k s1p))
abbrev j73:Sh:=.pair o8d o5r
abbrev j6i:Sh:=.pair p4v u03
abbrev d1a:Sh:=.pair q9o (.pair u03 (.pair j2i (.pair u03 (.pair (.box j4e) j6i))))
abbrev d1e:Sh:=.pair q3h (.pair r6r (.pair r6r p1k))
abbrev j74:Sh:=.pair q9o j42
abbrev j75:Sh:=.pair j6c s1p
abbrev d1f:Sh:=.pair p1b (.pair (.own true j4a) u03)
abbrev d1g:Sh:=.clo 176 (.pair (.box r6m) (.box r6m))
abbrev d1h:Sh:=.pair p1b (.pair (.tr true j4a) u03)
abbrev j49:Sh:=.agg j7i
abbrev j5a:Sh:=.agg j7m
def j30:Nat→Sig
 | 8=>zS j4m .bool
 | 220=>zS p63 (.pair u03 p63) 1 [true]
 | 106=>zS (.pair p63 u03) (.pair u03 p63) 1 [true,false]
 | 152=>zS .unit o5s
 | 267=>zS .unit o8b
 | 120=>zS j43 .bool
 | 320=>zS (.pair u03 (.int .u8)) .str
 | 406=>zS .unit .str
 | 356=>zS u03 p8b 2
 | 357=>zS .unit u03
 | 268=>zS .unit j3e
 | 160=>zS .unit j0o
 | 70=>zS q6z j49
 | 178=>zS s45 q3g
 | 68=>zS p4w o5s
 | 72=>zS o8e o8b
 | 123=>zS .str .bool
 | 75=>zS j5a .bool
 | 180=>zS q9o .bool
 | 235=>zS j0g .bool
 | 121=>zS q6z .bool
 | 131=>zS r6m .bool
 | 42=>zS p4w .bool
 | 73=>zS o8e .bool
 | 17=>zS o8e (.pair o8b s1p) 3
 | 74=>zS j2h u03
 | 179=>zS (.pair q9o j5a) (.own true u2l)
 | 76=>zS (.pair q6z j5a) (.pair j49 .bool) 2
 | 18=>zS (.pair o8e (.pair u03 j5a)) (.pair o8b u03) 2
 | 261=>zS q76 j3e
 | 155=>zS j3b j0o
 | 232=>zS u03 .str
 | 234=>zS o5r j7t 3
 | 227=>zS o5r (.pair .str j4g) 3
 | 111=>zS s7d (.pair .str s7d) 1 [true]
 | 112=>zS s7d (.pair .bool s7d) 1 [true]
 | 118=>zS s7d (.pair u03 s7d) 1 [true]
 | 113=>zS o5r (.pair j49 j4g) 3
 | 119=>zS (.pair s7d u03) (.pair q3g s7d) 1 [true,false]
 | 38=>zS o5r (.pair o5s j4g) 3
 | 122=>zS q6z .bool
 | 124=>zS p4w .bool
 | 39=>zS j0n .bool
 | 224=>zS o8d .str
 | 318=>zS (.pair o8d .str) o8d
 | 225=>zS .str o8d
 | 109=>zS .str q9p 2
 | 221=>zS .str .str
 | 222=>zS .bool .str
 | 223=>zS q6z q9p 2
 | 233=>zS s45 .str
 | 117=>zS p4w q9p 2
 | 107=>zS j0n q9p 2
 | 108=>zS .str q9p 2
 | 33=>zS .str d1b 2
 | 355=>zS j3c q9p 2
 | 263=>zS j7u q9p 2
 | 264=>zS u03 u03
 | 266=>zS j3c u03
 | 265=>zS j3c u03
 | 157=>zS j3c j7v 3
 | 158=>zS q76 u03
 | 53=>zS q76 p1a
 | 69=>zS j7w u03
 | 79=>zS j7x u03
 | 71=>zS j7y p4v
 | 14=>zS j7w o5s
 | 307=>zS j7z u03
 | 387=>zS (.pair r6m j4h) p4v
 | 330=>zS (.pair j0g .str) .bool
 | 427=>zS (.pair j0e q9o) .bool
 | 429=>zS j44 .bool
 | 394=>zS j44 .bool
 | 393=>zS j2j .bool
 | 333=>zS (.pair p4w q6z) o5s
 | 334=>zS j7z o5s
 | 346=>zS (.pair p4w (.pair q6z .str)) o5s
 | 258=>zS (.pair p4w j0n) (.pair p4w .bool) 2
 | 153=>zS (.pair p4w j0n) j7r 2
 | 50=>zS q76 j7r 2
 | 375=>zS q76 .bool
 | 303=>zS q76 .bool
 | 351=>zS q76 j3e
 | 352=>zS j4f p8b 2
 | 349=>zS (.pair q76 (.pair u03 j47)) p8b 2
 | 350=>zS u03 .str
 | 379=>zS j7u p8b 2
 | 377=>zS j4f p8b 2
 | 405=>zS j4f p8b 2
 | 353=>zS j70 p8b 2
 | 354=>zS q76 p8b 2
 | 262=>zS j70 p8b 2
 | 156=>zS q76 p8b 2
 | 52=>zS j3b (.pair j0o .bool) 2
 | 187=>zS (.pair p63 o8c) (.pair .str p63) 1 [true,false]
 | 189=>zS (.pair p63 u03) (.pair .bool p63) 1 [true,false]
 | 358=>zS (.pair q6z j0g) (.pair j49 .bool) 2
 | 20=>zS j7x q9p 2
 | 359=>zS (.pair q6z (.pair r6m .str)) q9p 2
 | 269=>zS (.pair o8e j47) (.pair o8b (.pair .str j6h)) 4
 | 270=>zS p63 (.pair .str p63) 1 [true]
 | 331=>zS (.pair r6m j0g) p1a
 | 360=>zS (.pair q6z (.pair r6m j0g)) j3d
 | 271=>zS (.pair o8e (.pair u03 j0g)) (.pair o8b (.pair j3d u03)) 3
 | 272=>zS p63 (.pair j0g p63) 1 [true]
 | 273=>zS p63 (.pair j5a p63) 1 [true]
 | 363=>zS (.pair j7p u03) j7p 0 [true,false]
 | 332=>zS p4w .bool
 | 409=>zS p4w j6b
 | 428=>zS (.pair q9o q9o) .bool
 | 433=>zS j2j .bool
 | 435=>zS j2j .bool
 | 434=>zS j2j .bool
 | 407=>zS j2h u03
 | 361=>zS j2h j7j 3
 | 413=>zS j4f p8b 2
 | 376=>zS (.pair q76 .str) p8b 2
 | 362=>zS (.pair o6v j0n) (.pair .bool o6v) 1 [true,false]
 | 274=>zS (.pair o6v u03) (.pair u03 o6v) 1 [true,false]
 | 408=>zS j2j .bool
 | 364=>zS (.pair o8e j47) j7j 3
 | 275=>zS (.pair o6v j47) (.pair u03 o6v) 1 [true,false,false]
 | 250=>zS (.pair o8e q9p) j7j 3
 | 276=>zS (.pair o6v q9p) (.pair u03 o6v) 1 [true,false,false]
 | 277=>zS j2h (.pair o8b u03) 2
 | 161=>zS (.pair p63 o6v) (.pair p63 o6v) 0 [true,true]
 | 56=>zS (.pair p63 u03) (.pair j0o p63) 1 [true,false]
 | 57=>zS j4m p63
 | 9=>zS j4m j0o
 | 212=>zS j43 .bool
 | 231=>zS u03 q9p 2
 | 209=>zS .str q9p 2
 | 97=>zS (.pair p8c o8c) p8c 0 [true,false]
 | 98=>zS (.pair p8c .bool) p8c 0 [true,false]
 | 116=>zS (.pair p8c (.tr false j4a)) p8c 0 [true,false]
 | 129=>zS .str .bool
 | 236=>zS j0g .bool
 | 321=>zS j5a .bool
 | 237=>zS q9o .bool
 | 127=>zS q6z .bool
 | 99=>zS q6z q9p 2
 | 91=>zS q6z .bool
 | 128=>zS q6z .bool
 | 290=>zS j4i .bool
 | 10005=>zS j8y u03
 | 10004=>zS j8y .bool
 | 10003=>zS j8y .bool
 | 170=>zS (.pair s45 u03) .bool
 | 291=>zS (.pair .nil u03) q3g
 | 171=>zS j6c j6b
 | 380=>zS .str .bool
 | 308=>zS j8u u03
 | 381=>zS u03 .bool
 | 309=>zS s1p u03
 | 199=>zS (.pair (.agg j4e) (.agg j4e)) u03
 | 230=>zS r6m .bool
 | 115=>zS p4w .bool
 | 35=>zS p4w q9p 2
 | 125=>zS q6z .bool
 | 126=>zS p4w .bool
 | 40=>zS j0n .bool
 | 316=>zS (.pair o8d .str) o8d
 | 210=>zS .str o8d
 | 100=>zS .str q9p 2
 | 30=>zS j0n q9p 2
 | 101=>zS .str q9p 2
 | 317=>zS o5r j7t 3
 | 211=>zS o5r (.pair .str j4g) 3
 | 102=>zS s7d (.pair .str s7d) 1 [true]
 | 103=>zS s7d (.pair .bool s7d) 1 [true]
 | 213=>zS s7d (.pair u03 s7d) 1 [true]
 | 215=>zS (.pair j4l r6r) (.pair j4l r6r) 0 [true,true]
 | 10015=>zS (.pair s7d j8z) (.pair s7d (.clo 215 (.pair .skip r6r))) 0 [true,true]
 | 218=>zS (.pair p1k j4l) (.pair p1k j4l) 0 [true,true]
 | 10017=>zS (.pair s7d j80) (.pair s7d (.clo 218 (.pair p1k .skip))) 0 [true,true]
 | 219=>zS (.pair j4l p1k) (.pair j4l p1k) 0 [true,true]
 | 10018=>zS (.pair s7d j81) (.pair s7d (.clo 219 (.pair .skip p1k))) 0 [true,true]
 | 105=>zS s7d (.pair j49 s7d) 1 [true]
 | 216=>zS j71 j71 0 [true,true]
 | 10016=>zS (.pair s7d (.clo 216 j45)) (.pair s7d (.clo 216 (.pair r6r .skip))) 0 [true,true]
 | 217=>zS j71 j71 0 [true,true]
 | 10019=>zS (.pair s7d (.clo 217 j45)) (.pair s7d (.clo 217 (.pair r6r .skip))) 0 [true,true]
 | 104=>zS s7d (.pair o5s s7d) 1 [true]
 | 31=>zS .str d1b 2
 | 60=>zS .unit o5s
 | 365=>zS j3c q9p 2
 | 278=>zS j7u q9p 2
 | 280=>zS u03 .bool
 | 279=>zS u03 u03
 | 282=>zS j3c u03
 | 281=>zS j3c u03
 | 162=>zS j3c j7v 3
 | 164=>zS q76 u03
 | 61=>zS q76 p1a
 | 185=>zS q6z j49
 | 283=>zS s45 q3g
 | 165=>zS p4w o5s
 | 172=>zS j7w u03
 | 292=>zS j7x u03
 | 293=>zS (.pair .str (.rbox r6m)) u03
 | 175=>zS j7y p4v
 | 174=>zS (.pair q6z o77) .bool
 | 10002=>zS (.pair s45 (.clo 174 o77)) u03
 | 10001=>zS (.pair q3g (.clo 174 o77)) q3g
 | 64=>zS j7w o5s
 | 200=>zS (.pair p4v (.pair u03 p4v)) p4v
 | 198=>zS (.pair (.agg j4e) (.rbox j4e)) .bool
 | 10006=>zS (.pair r6m (.clo 198 (.rbox j4e))) u03
 | 86=>zS (.pair r6m j4h) p4v
 | 201=>zS (.pair j0g .str) .bool
 | 195=>zS (.pair j0e q9o) .bool
 | 410=>zS j44 .bool
 | 367=>zS j44 .bool
 | 286=>zS j44 .bool
 | 366=>zS j4i .bool
 | 10009=>zS j82 u03
 | 10008=>zS j82 .bool
 | 10007=>zS j82 .bool
 | 284=>zS j2j .bool
 | 285=>zS j4i .bool
 | 10011=>zS (.pair s45 (.clo 285 o0v)) u03
 | 10010=>zS (.pair q3g (.clo 285 o0v)) q3g
 | 166=>zS (.pair p4w q6z) o5s
 | 288=>zS (.pair q6z (.rbox .str)) .bool
 | 10012=>zS (.pair s45 (.clo 288 (.rbox .str))) u03
 | 167=>zS j7z u03
 | 168=>zS (.pair p4w (.pair q6z .str)) o5s
 | 289=>zS (.pair q6z (.rbox .str)) .bool
 | 10014=>zS (.pair s45 j7q) u03
 | 10013=>zS (.pair q3g j7q) q3g
 | 169=>zS j7z o5s
 | 62=>zS (.pair p4w j0n) j7r 2
 | 11=>zS q76 j7r 2
 | 163=>zS q76 .bool
 | 58=>zS q76 .bool
 | 59=>zS q76 j3e
 | 10=>zS q76 (.pair j0o .bool) 2
 | 87=>zS (.pair j0e j0e) .bool
 | 312=>zS p1a p1a 0 [true]
 | 313=>zS p1a p1a
 | 202=>zS r6m p1a
 | 203=>zS j7x q9p 2
 | 89=>zS (.pair r6m (.pair j0g u03)) j3d
 | 92=>zS .unit j0g
 | 176=>zS (.pair u03 (.pair (.rbox r6m) (.rbox r6m))) .bool
 | 294=>zS (.pair .nil u03) p4v
 | 177=>zS j6g p4v
 | 67=>zS (.pair r6m j7y) .bool
 | 66=>zS j44 .bool
 | 10000=>zS (.pair s45 (.pair s45 (.clo 66 .unit))) .bool
 | 13=>zS (.pair p4w p4w) .bool
 | 63=>zS o8e .bool
 | 12=>zS j3b .bool
 | 15=>zS (.pair o8c o8c) .bool
 | 16=>zS j3b p1a
 | 298=>zS (.pair q6z o77) .bool
 | 10020=>zS (.pair s45 (.clo 298 o77)) u03
 | 183=>zS j2h u03
 | 206=>zS p4w .bool
 | 196=>zS (.pair q9o q9o) .bool
 | 368=>zS j4i .bool
 | 10037=>zS j83 u03
 | 10036=>zS j83 .bool
 | 10035=>zS j83 .bool
 | 295=>zS j2j .bool
 | 296=>zS o8e j6b
 | 411=>zS j4i .bool
 | 10025=>zS j84 u03
 | 10024=>zS j84 .bool
 | 10023=>zS j84 .bool
 | 369=>zS j2j .bool
 | 370=>zS j4i .bool
 | 10028=>zS j85 u03
 | 10027=>zS j85 .bool
 | 10026=>zS j85 .bool
 | 372=>zS j4i .bool
 | 10034=>zS j86 u03
 | 10033=>zS j86 .bool
 | 10032=>zS j86 .bool
 | 371=>zS (.pair q6z (.pair o0v (.rbox s45))) .bool
 | 10031=>zS (.pair s45 j7n) u03
 | 10030=>zS (.pair s45 j7n) .bool
 | 10029=>zS (.pair s45 j7n) .bool
 | 297=>zS j2j .bool
 | 181=>zS j2h u03
 | 205=>zS o8e o8b
 | 299=>zS (.pair q6z o77) .bool
 | 10022=>zS (.pair s45 (.clo 299 o77)) u03
 | 10021=>zS (.pair q3g (.clo 299 o77)) q3g
 | 184=>zS j2h o8b
 | 182=>zS j2h (.pair o8b u03) 2
 | 77=>zS j2h j7j 3
 | 150=>zS j3b j0o
 | 344=>zS q76 j3e
 | 432=>zS j4f p8b 2
 | 404=>zS (.pair q76 (.pair u03 j47)) p8b 2
 | 403=>zS j7u j3e
 | 412=>zS j4f p8b 2
 | 373=>zS j4f p8b 2
 | 343=>zS j70 p8b 2
 | 345=>zS q76 j3e
 | 257=>zS j70 p8b 2
 | 151=>zS q76 p8b 2
 | 300=>zS (.pair q76 .str) p8b 2
 | 186=>zS (.pair j3b j0n) (.pair j0o .bool) 2
 | 78=>zS (.pair j3b (.pair u03 (.pair o8b (.pair j0n u03)))) (.pair j0o u03) 2
 | 19=>zS (.pair j3b u03) (.pair j0o u03) 2
 | 3=>zS j4m .bool
 | _=>zS .unit .unit 0
def j5p:Nat→Nat→Ht Join
 | 120,3=>some ⟨[6],.bool,[]⟩
 | 123,9=>some ⟨[19],.bool,[]⟩
 | 75,3=>some ⟨[2],.bool,[]⟩
 | 180,9=>some ⟨[33],.bool,[]⟩
 | 235,3=>some ⟨[2],.bool,[]⟩
 | 121,3=>some ⟨[31],.bool,[]⟩
 | 121,17=>some ⟨[67],.bool,[]⟩
 | 121,21=>some ⟨[86],.bool,[]⟩
 | 121,25=>some ⟨[2],.bool,[]⟩
 | 131,11=>some ⟨[39],.bool,[]⟩
 | 131,15=>some ⟨[74],.bool,[]⟩
 | 42,3=>some ⟨[38],.bool,[]⟩
 | 42,27=>some ⟨[98],.bool,[]⟩
 | 42,41=>some ⟨[146],.bool,[]⟩
 | 73,3=>some ⟨[16],.bool,[]⟩
 | 73,15=>some ⟨[68],.bool,[]⟩
 | 17,5=>some ⟨[23],.bool,[]⟩
 | 76,5=>some ⟨[21],.bool,[]⟩
 | 234,13=>some ⟨[25],.bool,[]⟩
 | 234,23=>some ⟨[54],.bool,[]⟩
 | 227,5=>some ⟨[30],.bool,[]⟩
 | 111,5=>some ⟨[26],.bool,[]⟩
 | 112,3=>some ⟨[30],.bool,[]⟩
 | 118,5=>some ⟨[26],.bool,[]⟩
 | 113,17=>some ⟨[46],.bool,[]⟩
 | 113,31=>some ⟨[76],.bool,[]⟩
 | 113,47=>some ⟨[108],.bool,[]⟩
 | 119,9=>some ⟨[28],.bool,[]⟩
 | 38,13=>some ⟨[37],.bool,[]⟩
 | 38,31=>some ⟨[72],.bool,[]⟩
 | 122,3=>some ⟨[2],.bool,[]⟩
 | 124,3=>some ⟨[2],.bool,[]⟩
 | 39,7=>some ⟨[3],.bool,[]⟩
 | 39,9=>some ⟨[54],.bool,[]⟩
 | 39,13=>some ⟨[77],.bool,[]⟩
 | 108,5=>some ⟨[24],.bool,[]⟩
 | 33,5=>some ⟨[20],.bool,[]⟩
 | 33,29=>some ⟨[66],.bool,[]⟩
 | 263,15=>some ⟨[28],.bool,[]⟩
 | 266,5=>some ⟨[18],.bool,[]⟩
 | 157,27=>some ⟨[52],.bool,[]⟩
 | 79,11=>some ⟨[47],.bool,[]⟩
 | 71,13=>some ⟨[38],.bool,[]⟩
 | 71,37=>some ⟨[90],.bool,[]⟩
 | 387,17=>some ⟨[72],.bool,[]⟩
 | 330,3=>some ⟨[4],.bool,[]⟩
 | 429,7=>some ⟨[31],.bool,[]⟩
 | 394,3=>some ⟨[4],.bool,[]⟩
 | 393,9=>some ⟨[25],.bool,[]⟩
 | 258,15=>some ⟨[36],.bool,[]⟩
 | 153,3=>some ⟨[16],.bool,[]⟩
 | 50,17=>some ⟨[39],.bool,[]⟩
 | 375,3=>some ⟨[15],.bool,[]⟩
 | 375,23=>some ⟨[58],.bool,[]⟩
 | 303,3=>some ⟨[24],.bool,[]⟩
 | 303,11=>some ⟨[2],.bool,[]⟩
 | 352,5=>some ⟨[33],.bool,[]⟩
 | 349,5=>some ⟨[37],.bool,[]⟩
 | 349,25=>some ⟨[77],.bool,[]⟩
 | 377,5=>some ⟨[35],.bool,[]⟩
 | 353,11=>some ⟨[27],.bool,[]⟩
 | 156,7=>some ⟨[24],.bool,[]⟩
 | 358,5=>some ⟨[22],.bool,[]⟩
 | 20,5=>some ⟨[21],.bool,[]⟩
 | 332,3=>some ⟨[2],.bool,[]⟩
 | 433,11=>some ⟨[45],.bool,[]⟩
 | 435,9=>some ⟨[33],.bool,[]⟩
 | 434,3=>some ⟨[16],.bool,[]⟩
 | 434,15=>some ⟨[43],.bool,[]⟩
 | 434,19=>some ⟨[56],.bool,[]⟩
 | 434,25=>some ⟨[70],.bool,[]⟩
 | 434,31=>some ⟨[91],.bool,[]⟩
 | 413,3=>some ⟨[17],.bool,[]⟩
 | 408,17=>some ⟨[33],.bool,[]⟩
 | 408,29=>some ⟨[64],.bool,[]⟩
 | 364,21=>some ⟨[52],.bool,[]⟩
 | 364,25=>some ⟨[61],.bool,[]⟩
 | 250,11=>some ⟨[26],.bool,[]⟩
 | 161,15=>some ⟨[54],.bool,[]⟩
 | 57,7=>some ⟨[15],.bool,[]⟩
 | 212,3=>some ⟨[6],.bool,[]⟩
 | 129,9=>some ⟨[19],.bool,[]⟩
 | 236,3=>some ⟨[2],.bool,[]⟩
 | 321,3=>some ⟨[2],.bool,[]⟩
 | 237,9=>some ⟨[29],.bool,[]⟩
 | 127,15=>some ⟨[52],.bool,[]⟩
 | 127,19=>some ⟨[74],.bool,[]⟩
 | 127,23=>some ⟨[2],.bool,[]⟩
 | 230,9=>some ⟨[50],.bool,[]⟩
 | 115,3=>some ⟨[36],.bool,[]⟩
 | 115,25=>some ⟨[88],.bool,[]⟩
 | 115,37=>some ⟨[128],.bool,[]⟩
 | 125,3=>some ⟨[2],.bool,[]⟩
 | 126,3=>some ⟨[2],.bool,[]⟩
 | 40,11=>some ⟨[3],.bool,[]⟩
 | 40,15=>some ⟨[3],.bool,[]⟩
 | 40,25=>some ⟨[2],.bool,[]⟩
 | 101,11=>some ⟨[26],.bool,[]⟩
 | 317,11=>some ⟨[26],.bool,[]⟩
 | 317,23=>some ⟨[57],.bool,[]⟩
 | 211,5=>some ⟨[30],.bool,[]⟩
 | 102,5=>some ⟨[26],.bool,[]⟩
 | 103,3=>some ⟨[32],.bool,[]⟩
 | 213,5=>some ⟨[26],.bool,[]⟩
 | 10015,5=>some ⟨[17],.bool,[]⟩
 | 10017,5=>some ⟨[17],.bool,[]⟩
 | 10018,5=>some ⟨[17],.bool,[]⟩
 | 10016,5=>some ⟨[17],.bool,[]⟩
 | 10019,5=>some ⟨[17],.bool,[]⟩
 | 31,5=>some ⟨[20],.bool,[]⟩
 | 31,29=>some ⟨[64],.bool,[]⟩
 | 280,3=>some ⟨[2],.bool,[]⟩
 | 282,5=>some ⟨[18],.bool,[]⟩
 | 162,5=>some ⟨[29],.bool,[]⟩
 | 162,21=>some ⟨[49],.bool,[]⟩
 | 292,11=>some ⟨[40],.bool,[]⟩
 | 175,11=>some ⟨[31],.bool,[]⟩
 | 201,3=>some ⟨[4],.bool,[]⟩
 | 410,3=>some ⟨[4],.bool,[]⟩
 | 286,3=>some ⟨[4],.bool,[]⟩
 | 366,3=>some ⟨[3],.bool,[]⟩
 | 62,3=>some ⟨[16],.bool,[]⟩
 | 62,23=>some ⟨[6],.bool,[]⟩
 | 62,33=>some ⟨[72],.bool,[]⟩
 | 62,41=>some ⟨[92],.bool,[]⟩
 | 11,15=>some ⟨[35],.bool,[]⟩
 | 163,21=>some ⟨[38],.bool,[]⟩
 | 163,27=>some ⟨[2],.bool,[]⟩
 | 58,7=>some ⟨[2],.bool,[]⟩
 | 10,5=>some ⟨[17],.bool,[]⟩
 | 203,5=>some ⟨[21],.bool,[]⟩
 | 89,13=>some ⟨[31],.bool,[]⟩
 | 66,7=>some ⟨[4],.bool,[]⟩
 | 63,13=>some ⟨[71],.bool,[]⟩
 | 12,5=>some ⟨[2],.bool,[]⟩
 | 206,3=>some ⟨[2],.bool,[]⟩
 | 368,3=>some ⟨[3],.bool,[]⟩
 | 411,3=>some ⟨[3],.bool,[]⟩
 | 370,3=>some ⟨[3],.bool,[]⟩
 | 372,3=>some ⟨[3],.bool,[]⟩
 | 371,3=>some ⟨[13],.bool,[]⟩
 | 297,3=>some ⟨[12],.bool,[]⟩
 | 404,3=>some ⟨[25],.bool,[]⟩
 | 404,15=>some ⟨[50],.bool,[]⟩
 | 412,7=>some ⟨[52],.bool,[]⟩
 | 151,7=>some ⟨[24],.bool,[]⟩
 | 3,31=>some ⟨[2],.bool,[]⟩
 | 3,33=>some ⟨[2],.bool,[]⟩
 | _,_=>none
abbrev r5g:=zL [0,1,5,6] (.pair u03 (.pair (.int .u8) (.pair (.own true j39) u03))) 0 [5] (.tr true j39) [] .unit
abbrev r42:=zL [0,2,4,5] (.pair u03 j8v) 0 [2,4] j4j [] .unit
abbrev r5k:=zL [0,3,4] (.pair s45 j46) 0 [3] q3g [] .unit
abbrev q2r:=zL [0,3] o5r 0 [0] .str [2] .bool
abbrev r1f:=zL [0,3] j4h 0 [0] q9o [2] .bool
abbrev q2v:=zL [1,3] j7l 0 [1] q3h [2] .bool
abbrev s6a:=zL [0,3] j7y 0 [0] r6m [2] .bool
abbrev r8m:=zL [1,3] (.pair p1b u03) 0 [1] p1b [2] .bool
abbrev r4w:=zL [1,4,5] d1f 2 [1,4] (.pair p1b (.own true j4a)) [2] .bool
abbrev r4x:=zL [1,4,7] d1f 4 [1,4] (.pair p1b (.tr true j4a)) [2] .bool
abbrev r4y:=zL [1,4,9] d1h 6 [] .unit [2] .bool
abbrev r4z:=zL [1,4,9,10] (.pair p1b (.pair (.tr true j4a) s1p)) 8 [1,4,9] d1h [2] .bool
abbrev r05:=zL [1,3] (.pair j4n u03) 0 [] .unit [2] .bool
abbrev s8a:=zL [1,3,4,5] (.pair j4n j72) 2 [1,3,4] (.pair j4n (.pair u03 q3h)) [2] .bool
abbrev s8b:=zL [1,3,4,6] (.pair j4n j72) 4 [1,3] (.pair j4n u03) [2] .bool
abbrev r8q:=zL [1,2,5] (.pair u03 (.pair j4n u03)) 0 [] .unit [4] u03
abbrev r07:=zL [0,3,5,6] d1c 0 [0,3,5] (.pair q9o (.pair (.box j7m) (.own true u2l))) [] .unit
abbrev r08:=zL [0,3,5,7] d1c 2 [5] (.own true u2l) [] .unit
abbrev r8u:=zL [0,3] j7o 0 [0,3] j7o [] .unit
abbrev r48:=zL [0,1,7,8,9] (.pair .str (.pair u03 j43)) 0 [] .unit [4,5,6] j7t
abbrev r47:=zL [4,7,8,9,10] d1d 0 [4,7,8] (.pair p1k (.pair s7d p1k)) [] .unit
abbrev r1a:=zL [4,7,8,12,13] d1d 2 [4,7,8] (.pair p1k (.pair s7d p1k)) [] .unit
abbrev s4v:=zL [0,1,5,6,7] (.pair s7d (.pair u03 (.pair q3g s1p))) 0 [0,5] (.pair s7d q3g) [0,4] (.pair s7d q3g)
abbrev r09:=zL [4,7,8,9,10] (.pair r6r (.pair s7d (.pair r6r s1p))) 0 [4,7,8] (.pair r6r (.pair s7d r6r)) [] .unit
abbrev r5a:=zL [0,1,5] j73 0 [0] o8d [] .unit
abbrev r5b:=zL [0,1,5,6] (.pair o8d (.pair .str s1p)) 2 [0,1,5] j73 [] .unit
abbrev r5f:=zL [1,4,5] (.pair q3h o5r) 0 [1,4] (.pair q3h .str) [] .unit
abbrev r1e:=zL [1,4,6] (.pair q3h o5r) 2 [1,4] (.pair q3h .str) [] .unit
abbrev r5l:=zL [0,3,4] (.pair s45 o5r) 0 [3] .str [] .unit
abbrev r04:=zL [1,4,5] (.pair p1b o5r) 0 [1,4] (.pair p1b .str) [] .unit
abbrev s58:=zL [1,2,6] (.pair u03 (.pair o30 u03)) 0 [1,2] (.pair u03 o30) [4,5] q9p
abbrev s59:=zL [1,2,3,8,9] (.pair u03 (.pair u03 (.pair o30 o5r))) 0 [8] .str [6,7] q9p
abbrev s8e:=zL [1,2,7,8,10,11,12] (.pair u03 (.pair o30 (.pair p1a (.pair .str (.pair p1a s1p))))) 0 [10,11] (.pair p1a u03) [4,5,6] j7v
abbrev r06:=zL [1,5,6] j0f 0 [5] u03 [] .unit
abbrev q2w:=zL [0,1,2,7,8] (.pair r6m (.pair .str j43)) 0 [7] u03 [] .unit
abbrev r5e:=zL [0,1,5,6] (.pair r6m (.pair u03 j6i)) 0 [1,5] (.pair u03 j2i) [] .unit
abbrev r1c:=zL [1,5,8,9] (.pair u03 (.pair j2i j6i)) 2 [8] p4v [] .unit
abbrev r1d:=zL [1,5,8,9,10,11] (.pair u03 (.pair j2i (.pair p4v j43))) 4 [1,5,8,9,10] (.pair u03 (.pair j2i (.pair p4v s1p))) [] .unit
abbrev r8s:=zL [2,4,5,6,7] (.pair p1b (.pair r6r (.pair r6r s1p))) 0 [2,4,5,6] (.pair p1b j8w) [] .unit
abbrev r49:=zL [1,2,5] (.pair .str (.pair p1b u03)) 0 [] .unit [4] u03
abbrev s4s:=zL [1,2,7,8] (.pair q9o (.pair u03 j6i)) 0 [7] p4v [] .unit
abbrev s4t:=zL [1,2,7,8,9,10,11] d1a 2 [1,2,7,8,9,10,11] d1a [] .unit
abbrev r5c:=zL [0,1,5] (.pair j0e j4h) 0 [] .unit [4] .bool
abbrev r5d:=zL [0,1,5,6] (.pair j0e j42) 2 [0,1,5] (.pair j0e j4h) [4] .bool
abbrev q2u:=zL [1,2,5] j6d 0 [] .unit [4] .bool
abbrev r1b:=zL [2,3,4,5,6,7] (.pair p1b (.pair q3h (.pair r6r (.pair r6r (.pair (.box (.pair u03 (.pair u03 (.pair u03 (.pair u03 (.pair (.tr true p4x) (.pair (.tr true u2l) (.pair .bool .str)))))))) u03))))) 0 [3,4,5] (.pair q3h j6e) [] .unit
abbrev r43:=zL [1,2,4,5,6] (.pair .str (.pair p1b j8w)) 0 [4,5] j6e [] .unit
abbrev s8d:=zL [2,3,4,6,7,8,9] (.pair .str (.pair p1b (.pair q3h (.pair r6r (.pair r6r (.pair p1k u03)))))) 0 [2,3,4,6,7,8] (.pair .str (.pair p1b d1e)) [] .unit
abbrev s57:=zL [2,3,4,6,7,10] (.pair .str (.pair p1b (.pair q3h j8w))) 2 [4,6,7] (.pair q3h j6e) [] .unit
abbrev r46:=zL [2,4,5,6] (.pair r6r (.pair r6r (.pair j48 u03))) 0 [2,4] j6e [2,3] (.pair r6r .bool)
abbrev r8o:=zL [1,3] (.pair o30 u03) 0 [1] o30 [2] .bool
abbrev r8p:=zL [1,4] (.pair o30 u03) 2 [] .unit [2] .bool
abbrev s8c:=zL [1,2,3,4] (.pair o30 j8v) 0 [2,3] j4j [] .unit
abbrev s6b:=zL [1,2,3,4,8,10,11] (.pair u03 (.pair u03 (.pair .str (.pair o30 j8v)))) 0 [8,10] j4j [8,9] j7s
abbrev r5h:=zL [1,4,6,7,8,9] (.pair o8c (.pair o8a (.pair u03 (.pair o8a j6h)))) 0 [4,7,8] (.pair o8a j7s) [] .unit
abbrev s8f:=zL [2,3,4,6,7] (.pair q3h (.pair j0p (.pair p1k (.pair p1k u03)))) 0 [2,3,4,6] (.pair q3h (.pair j0p (.pair p1k p1k))) [4,5] (.pair p1k .bool)
abbrev r8r:=zL [1,2,3,8] (.pair r6m (.pair .str j7l)) 0 [1,2,3] (.pair r6m (.pair .str q3h)) [6,7] q9p
abbrev r5i:=zL [0,3,5,6] (.pair r6m (.pair j0p (.pair p1a u03))) 0 [5] p1a [] .unit
abbrev r5j:=zL [0,3,5,6,7,8,9] d09 2 [0,3,5,6,7,8] (.pair r6m (.pair j0p (.pair j48 (.pair u03 (.pair .str p1a))))) [] .unit
abbrev r1g:=zL [0,3,5,6,7,8,10] d09 4 [0,3,6,8] (.pair r6m (.pair j0p (.pair u03 p1a))) [] .unit
abbrev r44:=zL [1,3,5,7,8] (.pair r6m (.pair q3h (.pair j0p j6i))) 0 [1,3,5,7] (.pair r6m (.pair q3h (.pair j0p j2i))) [] .unit
abbrev r45:=zL [1,3,9,10,11] (.pair r6m (.pair q3h (.pair j3d (.pair j48 u03)))) 2 [9] j3d [] .unit
abbrev r8v:=zL [0,1,4,5] (.pair j7p (.pair u03 j46)) 0 [0,4] (.pair j7p q3g) [] .unit
abbrev q2s:=zL [0,1,5] (.pair q9o j4h) 0 [] .unit [4] .bool
abbrev q2t:=zL [0,1,5,6] j74 2 [0,1,5] (.pair q9o j4h) [4] .bool
abbrev r40:=zL [1,2,5] j6d 0 [] .unit [4] .bool
abbrev q6a:=zL [1,2,5] j6d 0 [] .unit [4] .bool
abbrev r8n:=zL [1,2,5] j6d 0 [] .unit [4] .bool
abbrev r41:=zL [1,2,5,6,7] (.pair s45 (.pair q3h j72)) 2 [1,2,5] j6d [4] .bool
abbrev s4u:=zL [1,2,5,6] (.pair s45 (.pair q3h j6h)) 0 [] .unit [4] .bool
abbrev s3n:=zL [1,2,5,6,7,8] (.pair s45 (.pair q3h (.pair .bool j72))) 2 [1,2,5,6] (.pair s45 (.pair q3h j6h)) [4] .bool
abbrev r5m:=zL [0,1,4,5,6] (.pair p63 (.pair u03 (.pair o6v (.pair o6v u03)))) 0 [0,4,5] (.pair p63 (.pair o6v o6v)) [] .unit
abbrev r8t:=zL [0,3,4] (.pair j4m s1p) 0 [0,3] (.pair j4m u03) [] .unit
abbrev r4v:=zL [0,4] j7o 0 [0,4] j7o [] .unit
abbrev s78:=zL [0,8,9,10] (.pair p8c (.pair o8c s1p)) 0 [0] p8c [] .unit
abbrev r03:=zL [0,8,9,10] (.pair p8c (.pair (.tr false j4a) s1p)) 0 [0] p8c [] .unit
abbrev q2n:=zL [0,3] o5r 0 [0] .str [2] .bool
abbrev r01:=zL [0,5,6,7] j74 0 [0] q9o [2] .bool
abbrev q2q:=zL [1,6,7,8] (.pair q3h j6f) 0 [1] q3h [2] .bool
abbrev r4u:=zL [1,4,29,30,31] (.pair q3h (.pair p8c j6f)) 0 [1,4] (.pair q3h p8c) [] .unit
abbrev r00:=zL [1,4,50,51,52] (.pair q3h (.pair p8c j42)) 2 [1,4] (.pair q3h p8c) [] .unit
abbrev u3t:=zL [0,1,7,8] (.pair s45 (.pair (.clo 290 o0v) s1p)) 0 [] .unit [4] u03
abbrev s77:=zL [0,1,7,8,9] (.pair s45 (.pair u03 j0f)) 0 [] .unit [4] .bool
abbrev t6z:=zL [0,3,9,10,11] (.pair j6c (.pair u03 j75)) 0 [0,3] (.pair j6c u03) [] .unit
abbrev t47:=zL [6,25,26,27] (.pair j6b j75) 2 [6] j6b [] .unit
abbrev s55:=zL [0,5,6,7] (.pair r6m j4k) 0 [0] r6m [2] .bool
abbrev r8g:=zL [1,38,39,40] (.pair p1b j4k) 0 [1] p1b [2] .bool
abbrev r4j:=zL [1,51,52,53] (.pair p1b j0f) 2 [1] p1b [2] .bool
abbrev r4k:=zL [1,91,92,93] (.pair p1b j0f) 4 [1] p1b [2] .bool
abbrev r0u:=zL [1,4,29,30,31] (.pair p1b (.pair p8c j4k)) 0 [1,4] (.pair p1b p8c) [] .unit
abbrev s71:=zL [4,56,57,58] (.pair p8c j75) 2 [4] p8c [] .unit
abbrev s72:=zL [4,56,57,58,67,68,69] (.pair p8c (.pair j6c (.pair u03 (.pair u03 j0f)))) 4 [4,56,57,58] (.pair p8c j75) [] .unit
abbrev r4o:=zL [0,1,5] j73 0 [0] o8d [] .unit
abbrev r4p:=zL [0,1,5,6] (.pair o8d (.pair .str s1p)) 2 [0,1,5] j73 [] .unit
abbrev r4n:=zL [0,1,7,8] (.pair .str j43) 0 [] .unit [4,5,6] j7t
abbrev u6p:=zL [0,1,4,5] (.pair s7d (.pair j8z s1p)) 0 [0,1] (.pair s7d j8z) [] .unit
abbrev u63:=zL [0,1,4,5] (.pair s7d (.pair j80 s1p)) 0 [0,1] (.pair s7d j80) [] .unit
abbrev u64:=zL [0,1,4,5] (.pair s7d (.pair j81 s1p)) 0 [0,1] (.pair s7d j81) [] .unit
abbrev u6q:=zL [0,1,4,5] (.pair s7d (.pair (.clo 216 j45) s1p)) 0 [0,1] (.pair s7d (.clo 216 j45)) [] .unit
abbrev u6r:=zL [0,1,4,5] (.pair s7d (.pair (.clo 217 j45) s1p)) 0 [0,1] (.pair s7d (.clo 217 j45)) [] .unit
abbrev s53:=zL [1,6,22,23,24] (.pair u03 (.pair .str j8x)) 0 [6] .str [] .unit
abbrev s54:=zL [1,2,3,8,9] (.pair u03 (.pair u03 (.pair o30 (.pair (.own true j39) u03)))) 0 [8] (.tr true j39) [6,7] q9p
abbrev r0x:=zL [1,2,7,9,10,11] (.pair u03 (.pair o30 (.pair .str (.pair p1a s1p)))) 0 [9,10] (.pair p1a u03) [4,5,6] j7v
abbrev r02:=zL [3,6,7,8] (.pair q3g j0f) 0 [3] q3g [] .unit
abbrev r0w:=zL [5,10,11,12] (.pair u03 j0f) 0 [5] u03 [] .unit
abbrev r8l:=zL [0,1,2,7,10,11,12] (.pair r6m (.pair .str (.pair u03 (.pair u03 j4k)))) 0 [7] u03 [] .unit
abbrev s75:=zL [0,4,7,8,9] (.pair .str (.pair u03 j4k)) 0 [4] u03 [] .unit
abbrev r4t:=zL [0,1,5,12,13,14] (.pair r6m (.pair u03 (.pair (.box p4v) j4k))) 0 [1,5] (.pair u03 (.box p4v)) [] .unit
abbrev r0z:=zL [1,8,9,38,39,40] (.pair u03 (.pair (.clo 293 (.rbox j2i)) (.pair p4v (.pair j2i s1p)))) 2 [9] p4v [] .unit
abbrev u46:=zL [0,1,7,8] (.pair s45 (.pair (.clo 174 o77) s1p)) 0 [] .unit [4] u03
abbrev u4j:=zL [0,1,5,6] (.pair q3g (.pair (.clo 174 o77) s1p)) 0 [0,5] j46 [] .unit
abbrev u2w:=zL [0,1,7,8] (.pair r6m (.pair (.clo 198 (.rbox j4e)) s1p)) 0 [] .unit [4] u03
abbrev s4r:=zL [2,7,14,15,16] (.pair u03 (.pair p4v j42)) 0 [7] p4v [] .unit
abbrev r4r:=zL [1,9,10,11] (.pair q9o j6f) 0 [] .unit [4] .bool
abbrev r4s:=zL [1,6,9,10,11,15,16,17] (.pair q9o (.pair j0p (.pair j0e (.pair u03 (.pair u03 j42))))) 2 [1,9,10,11] (.pair q9o j6f) [4] .bool
abbrev u5m:=zL [0,1,7,8] (.pair s45 (.pair (.clo 366 o0v) s1p)) 0 [] .unit [4] u03
abbrev u4n:=zL [0,1,7,8] (.pair s45 (.pair (.clo 285 o0v) s1p)) 0 [] .unit [4] u03
abbrev u31:=zL [0,1,5,6] (.pair q3g (.pair (.clo 285 o0v) s1p)) 0 [0,5] j46 [] .unit
abbrev r4q:LoopA:=⟨⟨[3,4,5,6,46,47,48],(.pair q3h (.pair r6r (.pair r6r (.pair p1k (.pair .skip s1p))))),[(46,5,2,u0a)]⟩,0,⟨[3,4,5,6],d1e,[]⟩,⟨[],.unit,[]⟩⟩
abbrev u4m:=zL [0,1,7,8] (.pair s45 (.pair (.clo 288 (.rbox .str)) s1p)) 0 [] .unit [4] u03
abbrev s74:LoopA:=⟨⟨[2,4,6,7,8,9,10,30,31,32],(.pair .str (.pair q3h (.pair r6r (.pair r6r (.pair p1k (.pair q3g (.pair q3g (.pair .skip s1p)))))))),[(30,7,2,u0a)]⟩,0,⟨[4,6,7,8,9,10],(.pair q3h (.pair r6r (.pair r6r (.pair p1k (.pair q3g (.tr true u0a)))))),[]⟩,⟨[],.unit,[]⟩⟩
abbrev u4l:=zL [0,1,7,8] (.pair s45 (.pair j7q s1p)) 0 [] .unit [4] u03
abbrev u30:=zL [0,1,5,6] (.pair q3g (.pair j7q s1p)) 0 [0,5] j46 [] .unit
abbrev r4m:=zL [2,4,13,14,15] (.pair r6r (.pair r6r (.pair j48 s1p))) 0 [2,4] j6e [2,3] (.pair r6r .bool)
abbrev r8h:=zL [1,8,9,10] (.pair o30 (.pair o8c s1p)) 0 [1] o30 [2] .bool
abbrev r8i:=zL [1,19,20,21] (.pair o30 j8x) 2 [1] o30 [2] .bool
abbrev t60:=zL [0,1,12,13] (.pair j0e j6f) 0 [] .unit [4] .bool
abbrev r8k:=zL [3,6,7,8] (.pair p1a j4k) 0 [3] p1a [] .unit
abbrev r8j:=zL [0,2,4,7,13,14,15] (.pair r6m (.pair u03 (.pair j0p (.pair j3d (.pair j48 s1p))))) 0 [7] j3d [] .unit
abbrev t02:=zL [0,3,9,10,11] (.pair j6g (.pair u03 (.pair j6g s1p))) 0 [0,3] (.pair j6g u03) [] .unit
abbrev u98:=zL [6,25,26,27] (.pair p4v (.pair j6g s1p)) 2 [6] p4v [] .unit
abbrev r0y:=zL [2,7,14,15,16] (.pair u03 (.pair d1g (.pair j2i s1p))) 0 [2,7] (.pair u03 d1g) [6] .bool
abbrev u42:=zL [1,2,15,16,17] (.pair s45 (.pair (.clo 66 .unit) j0f)) 0 [] .unit [6] .bool
abbrev r0v:=zL [1,33,34,35] (.pair j4n j0f) 0 [] .unit [2] .bool
abbrev s79:=zL [0,1,5] (.pair o8c (.pair o8c u03)) 0 [] .unit [4] .bool
abbrev r4l:=zL [3,9,10,11] (.pair p1a j0f) 0 [3] p1a [] .unit
abbrev u45:=zL [0,1,7,8] (.pair s45 (.pair (.clo 298 o77) s1p)) 0 [] .unit [4] u03
abbrev q2o:=zL [1,9,10,11] j74 0 [] .unit [4] .bool
abbrev q2p:=zL [1,6,9,10,11,15,16,17] (.pair q9o (.pair (.box j7m) (.pair q9o (.pair u03 (.pair u03 j42))))) 2 [1,9,10,11] j74 [4] .bool
abbrev u4k:=zL [0,1,7,8] (.pair s45 (.pair (.clo 368 o0v) s1p)) 0 [] .unit [4] u03
abbrev u54:=zL [0,1,7,8] (.pair s45 (.pair (.clo 411 o0v) s1p)) 0 [] .unit [4] u03
abbrev u43:=zL [0,1,7,8] (.pair s45 (.pair (.clo 370 o0v) s1p)) 0 [] .unit [4] u03
abbrev u34:=zL [0,1,7,8] (.pair s45 (.pair (.clo 372 o0v) s1p)) 0 [] .unit [4] u03
abbrev u44:=zL [0,1,7,8] (.pair s45 (.pair j7n s1p)) 0 [] .unit [4] u03
abbrev u4o:=zL [0,1,7,8] (.pair s45 (.pair (.clo 299 o77) s1p)) 0 [] .unit [4] u03
abbrev u33:=zL [0,1,5,6] (.pair q3g (.pair (.clo 299 o77) s1p)) 0 [0,5] j46 [] .unit
abbrev s73:=zL [2,3,11,12,13] (.pair o8a (.pair o8a j8x)) 0 [2,3] j4j [] .unit
abbrev s56:=zL [1,2,3,4,8,10] (.pair u03 (.pair u03 (.pair .str (.pair o30 j4j)))) 0 [8,10] j4j [8,9] j7s
abbrev s76:=zL [2,4,6,7,24,25,26] (.pair o30 (.pair o8a (.pair u03 (.pair o8a (.pair o8c s1p))))) 0 [4,7] j4j [4,5] j7s
def j5u:Nat→Nat→Ht LoopA
 | 320,3=>some r5g
 | 356,5=>some r42
 | 178,3=>some r5k
 | 123,2=>some q2r
 | 180,2=>some r1f
 | 121,4=>some q2v
 | 131,2=>some s6a
 | 42,4=>some r8m
 | 42,10=>some r4w
 | 42,17=>some r4x
 | 42,24=>some r4y
 | 42,27=>some r4z
 | 73,4=>some r05
 | 73,10=>some s8a
 | 73,15=>some s8b
 | 74,2=>some r8q
 | 179,3=>some r07
 | 179,9=>some r08
 | 232,2=>some r8u
 | 234,6=>some r48
 | 113,8=>some r47
 | 113,15=>some r1a
 | 119,4=>some s4v
 | 38,6=>some r09
 | 318,2=>some r5a
 | 318,6=>some r5b
 | 223,5=>some r5f
 | 223,10=>some r1e
 | 233,3=>some r5l
 | 117,5=>some r04
 | 355,4=>some s58
 | 263,5=>some s59
 | 157,10=>some s8e
 | 69,3=>some r06
 | 79,3=>some q2w
 | 71,3=>some r5e
 | 71,10=>some r1c
 | 71,14=>some r1d
 | 14,5=>some r8s
 | 307,2=>some r49
 | 387,3=>some s4s
 | 387,8=>some s4t
 | 427,2=>some r5c
 | 427,5=>some r5d
 | 393,2=>some q2u
 | 333,12=>some r1b
 | 334,4=>some r43
 | 346,8=>some s8d
 | 346,14=>some s57
 | 50,4=>some r46
 | 375,4=>some r8o
 | 375,9=>some r8p
 | 351,5=>some s8c
 | 349,5=>some s6b
 | 353,5=>some r5h
 | 358,5=>some s8f
 | 359,2=>some r8r
 | 331,3=>some r5i
 | 331,9=>some r5j
 | 331,15=>some r1g
 | 360,3=>some r44
 | 360,9=>some r45
 | 363,2=>some r8v
 | 428,2=>some q2s
 | 428,5=>some q2t
 | 433,2=>some r40
 | 435,2=>some q6a
 | 434,4=>some r8n
 | 434,12=>some r41
 | 408,5=>some s4u
 | 408,12=>some s3n
 | 56,3=>some r5m
 | 57,3=>some r8t
 | 231,4=>some r4v
 | 97,1=>some s78
 | 116,1=>some r03
 | 129,2=>some q2n
 | 237,2=>some r01
 | 127,2=>some q2q
 | 99,6=>some r4u
 | 99,12=>some r00
 | 10005,2=>some u3t
 | 170,2=>some s77
 | 171,3=>some t6z
 | 171,11=>some t47
 | 230,2=>some s55
 | 115,4=>some r8g
 | 115,10=>some r4j
 | 115,16=>some r4k
 | 35,6=>some r0u
 | 35,13=>some s71
 | 35,17=>some s72
 | 316,2=>some r4o
 | 316,6=>some r4p
 | 317,5=>some r4n
 | 10015,2=>some u6p
 | 10017,2=>some u63
 | 10018,2=>some u64
 | 10016,2=>some u6q
 | 10019,2=>some u6r
 | 365,5=>some s53
 | 278,5=>some s54
 | 162,7=>some r0x
 | 283,3=>some r02
 | 172,3=>some r0w
 | 292,3=>some r8l
 | 293,3=>some s75
 | 175,3=>some r4t
 | 175,11=>some r0z
 | 10002,2=>some u46
 | 10001,5=>some u4j
 | 10006,2=>some u2w
 | 86,3=>some s4r
 | 195,2=>some r4r
 | 195,5=>some r4s
 | 10009,2=>some u5m
 | 10011,2=>some u4n
 | 10010,5=>some u31
 | 166,9=>some r4q
 | 10012,2=>some u4m
 | 168,6=>some s74
 | 10014,2=>some u4l
 | 10013,5=>some u30
 | 11,3=>some r4m
 | 163,2=>some r8h
 | 163,8=>some r8i
 | 87,4=>some t60
 | 202,3=>some r8k
 | 89,3=>some r8j
 | 177,3=>some t02
 | 177,11=>some u98
 | 67,3=>some r0y
 | 10000,4=>some u42
 | 63,4=>some r0v
 | 15,4=>some s79
 | 16,3=>some r4l
 | 10020,2=>some u45
 | 196,2=>some q2o
 | 196,5=>some q2p
 | 10037,2=>some u4k
 | 10025,2=>some u54
 | 10028,2=>some u43
 | 10034,2=>some u34
 | 10031,2=>some u44
 | 10022,2=>some u4o
 | 10021,5=>some u33
 | 344,4=>some s73
 | 404,5=>some s56
 | 343,6=>some s76
 | _,_=>none
def d1r:Nat→Nat
 | 10000=>65
 | 10001=>173
 | 10002=>287
 | 10003=>93
 | 10004=>204
 | 10005=>287
 | 10006=>197
 | 10007=>93
 | 10008=>204
 | 10009=>287
 | 10010=>173
 | 10011=>287
 | 10012=>287
 | 10013=>173
 | 10014=>287
 | 10015=>214
 | 10016=>214
 | 10017=>214
 | 10018=>214
 | 10019=>214
 | 10020=>287
 | 10021=>173
 | 10022=>287
 | 10023=>93
 | 10024=>204
 | 10025=>287
 | 10026=>93
 | 10027=>204
 | 10028=>287
 | 10029=>93
 | 10030=>204
 | 10031=>287
 | 10032=>93
 | 10033=>204
 | 10034=>287
 | 10035=>93
 | 10036=>204
 | 10037=>287
 | f=>f
def j51:Nat→Hu Nat→Nat
 | 65, [66] =>10000
 | 173, [174] =>10001
 | 287, [174] =>10002
 | 93, [290] =>10003
 | 204, [290] =>10004
 | 287, [290] =>10005
 | 197, [198] =>10006
 | 93, [366] =>10007
 | 204, [366] =>10008
 | 287, [366] =>10009
 | 173, [285] =>10010
 | 287, [285] =>10011
 | 287, [288] =>10012
 | 173, [289] =>10013
 | 287, [289] =>10014
 | 214, [215] =>10015
 | 214, [216] =>10016
 | 214, [218] =>10017
 | 214, [219] =>10018
 | 214, [217] =>10019
 | 287, [298] =>10020
 | 173, [299] =>10021
 | 287, [299] =>10022
 | 93, [411] =>10023
 | 204, [411] =>10024
 | 287, [411] =>10025
 | 93, [370] =>10026
 | 204, [370] =>10027
 | 287, [370] =>10028
 | 93, [371] =>10029
 | 204, [371] =>10030
 | 287, [371] =>10031
 | 93, [372] =>10032
 | 204, [372] =>10033
 | 287, [372] =>10034
 | 93, [368] =>10035
 | 204, [368] =>10036
 | 287, [368] =>10037
 | f,_=>f
def o9o:(f:Nat)→Ht ((j30 f).ins.den→Ht (j30 f).out.den)
 | 200=>some (y2q u0h)
 | 312=>some (y7a)
 | 313=>some (y0m)
 | _=>none
def j2u:Plan:= {sig:=j30,join:=j5p,loop:=j5u,fn:=d1r,pick:=j51,prim:=o9o,gd:=y8a}
def A:Ann:=ann d06 j2u
set_option maxRecDepth 100000
abbrev q3e:Type:=(Hu u0a.den)
abbrev s7c:Type:=(Hs×Bool)
abbrev q0i:Type:=(Hu u0h.den)
abbrev p09:Type:=(Hu Hs)
abbrev r97:Type:=(Unit⊕Bool)
abbrev o3z:Type:=(Hs×Int)
abbrev q3f:Type:=(Unit⊕Int)
abbrev q4a:Type:=(Hu Int)
abbrev o6t:Type:=(Hu u2l.den)
abbrev j22:Type:=(Hs×Hs)
abbrev j4b:Type:=(Int×Bool)
abbrev q4b:Type:=(Hs×j4b)
abbrev o6u:Type:=(Int⊕Unit)
abbrev o79:Type:=(Hu p4x.den)
abbrev j4c:Type:=(Int×Int)
abbrev o0u:Type:=(q4a×j4c)
abbrev j0m:Type:=(q0i⊕Unit)
abbrev j69:Type:=((p09×Int)⊕(p09×j4b))
abbrev j24:Type:=(q4a⊕Unit)
abbrev j25:Type:=(u74⊕Bool)
abbrev j26:Type:=(o4i⊕Unit)
abbrev j7a:Type:=(Int×(Hs×j4c))
abbrev j27:Type:=(Int×q4a)
abbrev j29:Type:=(Int×j4b)
abbrev j3a:Type:=(Int×o3z)
abbrev j7b:Type:=((Int×q0i)⊕Unit)
abbrev j4u:Type:=(j8b⊕Unit)
abbrev j4v:Type:=(q3e⊕Unit)
abbrev j4w:Type:=(t01⊕Bool)
abbrev j4x:Type:=(j8b⊕s91)
abbrev j4y:Type:=(p09⊕Unit)
abbrev j7c:Type:=(Hs⊕Bool)
abbrev j7d:Type:=(Hs⊕Unit)
abbrev j4z:Type:=(o0u×Int)
abbrev j40:Type:=(Int×j4c)
abbrev j7e:Type:=(Hs×s7c)
abbrev j41:Type:=(q0i×Int)
abbrev j7f:Type:=(Int×Hs)
abbrev zLv:=y5x Tryz.prog A
abbrev zK (f:Nat) (x:(A.sig f).ins.den):=zLv.call f x
theorem zC (f:Nat) {fn:Func} {X:(A.sig f).ins.den→Ht (A.sig f).out.den} (hp:A.prim f=none) (hf:Tryz.prog.funcs[A.fn f]? =some fn) (hb:z7s A zLv lpW f fn=X):zK f=X:=funext (y7p hp hf (congrFun hb))
theorem zW (l:LoopA) (f:Nat) (fn:Func) (r n:Nat) {S:(l.head.sh.den→Ht (l.out.sh.den⊕l.ret.sh.den))→l.head.sh.den→Ht (l.out.sh.den⊕l.ret.sh.den)} (x:l.head.sh.den) (h:S=z7n A zLv lpW f (y7w fn r) l n):lpW _ _ S x=S (lpW _ _ S) x:=y7x h x
def p7u(x:q4a):Ht Bool:=zK 8 x
def p7f (x:q4a):Ht Bool:=some (decide ((x.length:Int)>(1048576:Int)))
theorem o7g:p7u=p7f:=zC 8 rfl Tryz.func8 (by kernel_rfl)
def u9h(x:o0u):Ht (Int×o0u):=zK 220 x
def q1w (x:o0u):Ht (Int×o0u):=cond (decide (x.2.1<(x.1.length:Int))) (cond (y4q x.2.1 x.1.length) (some (IntKind.i64.wrap ((BitVec.ofInt IntKind.i64.bits (IntKind.i64.wrap ((IntKind.i64.wrap ((BitVec.ofInt IntKind.i64.bits (IntKind.i64.wrap ((BitVec.ofInt IntKind.i64.bits (Int.fdiv (IntKind.i64.wrap ((IntKind.i64.wrap (x.2.2*6364136223846793005))+1442695040888963407)) (2^(min (33:Int).toNat IntKind.i64.bits)))^^^BitVec.ofInt IntKind.i64.bits (Int.fdiv (IntKind.i64.wrap ((IntKind.i64.wrap (x.2.2*6364136223846793005))+1442695040888963407)) (2^(min (45:Int).toNat IntKind.i64.bits)))).toNat:Int))&&&BitVec.ofInt IntKind.i64.bits (255:Int)).toNat:Int))+(IntKind.i64.wrap (rdL (Ty.int .u8) x.1 x.2.1.toNat))))&&&BitVec.ofInt IntKind.i64.bits (255:Int)).toNat:Int),x.1,IntKind.i64.wrap (x.2.1+1),IntKind.i64.wrap ((IntKind.i64.wrap (x.2.2*6364136223846793005))+1442695040888963407))) none) (some (IntKind.i64.wrap ((BitVec.ofInt IntKind.i64.bits (IntKind.i64.wrap ((BitVec.ofInt IntKind.i64.bits (Int.fdiv (IntKind.i64.wrap ((IntKind.i64.wrap (x.2.2*6364136223846793005))+1442695040888963407)) (2^(min (33:Int).toNat IntKind.i64.bits)))^^^BitVec.ofInt IntKind.i64.bits (Int.fdiv (IntKind.i64.wrap ((IntKind.i64.wrap (x.2.2*6364136223846793005))+1442695040888963407)) (2^(min (45:Int).toNat IntKind.i64.bits)))).toNat:Int))&&&BitVec.ofInt IntKind.i64.bits (255:Int)).toNat:Int),x.1,x.2.1,IntKind.i64.wrap ((IntKind.i64.wrap (x.2.2*6364136223846793005))+1442695040888963407)))
theorem p6b:u9h=q1w:=zC 220 rfl Tryz.func220 (by kernel_rfl)
def u5a(x:j4z):Ht (Int×o0u):=zK 106 x
def r71 (x:j4z):Ht (Int×o0u):=cond (decide (x.2≤0)) (some (0,x.1)) (cond (decide (x.2≤256)) ((u9h x.1).bind fun y1=>cond (!decide (x.2=0)) (some (Int.tmod y1.1 x.2,y1.2)) none) ((u9h x.1).bind fun y2=>(u9h y2.2).bind fun y3=>(u9h y3.2).bind fun y4=>(u9h y4.2).bind fun y5=>cond (!decide (x.2=0)) (some (Int.tmod (IntKind.i64.wrap ((IntKind.i64.wrap ((IntKind.i64.wrap ((IntKind.i64.wrap (y2.1*16777216))+(IntKind.i64.wrap (y3.1*65536))))+(IntKind.i64.wrap (y4.1*256))))+y5.1)) x.2,y5.2)) none))
theorem p3j:u5a=r71:=zC 106 rfl Tryz.func106 (by kernel_rfl)
def s9m(x:Unit):Ht u74:=zK 152 x
def q1d (x:Unit):Ht u74:=some (([]:Hu u0h.den),([]:Hu u0a.den),([]:Hu u0a.den),0,1)
theorem q2k:s9m=q1d:=zC 152 rfl Tryz.func152 (by kernel_rfl)
def s4d(x:Unit):Ht Z73:=zK 267 x
def r38 (x:Unit):Ht Z73:=(s9m ()).bind fun y1=>some (y1,([]:Hu u0a.den))
theorem p0s:s4d=r38:=zC 267 rfl Tryz.func267 (by kernel_rfl)
def u0t(x:j40):Ht Bool:=zK 120 x
def q82 (x:j40):Ht Bool:=((cond (decide (x.1≥x.2.1)) (some (decide (x.1≤x.2.2))) (some false)):Ht Bool).bind fun j1=>some j1
theorem o2l:u0t=q82:=zC 120 rfl Tryz.func120 (by kernel_rfl)
def q20(x:j4c):Ht Hs:=zK 320 x
def s3z(g:(Int×(Int×(q4a×Int)))→Ht j24)(x:(Int×(Int×(q4a×Int)))):Ht j24:=cond (decide (x.2.2.2<x.1)) (cond (y4q x.2.2.2 x.2.2.1.length) (g (x.1,x.2.1,x.2.2.1.set x.2.2.2.toNat x.2.1,IntKind.i64.wrap (x.2.2.2+1))) none) (some (.inl x.2.2.1))
def t2p:=lpW _ _ s3z
theorem r6g x:t2p x=s3z t2p x:=zW r5g 320 Tryz.f320 3 20 x (by kernel_rfl)
def q1x (x:j4c):Ht Hs:=cond (decide (0≤x.1)&&decide (x.1≤1099511627776)) ((t2p (x.1,x.2,List.replicate x.1.toNat (Ty.int .u8).zero,0)).bind fun r1=>match r1 with | .inl o2=>some (y7g o2) | .inr z3=>none) none
theorem p6c:q20=q1x:=zC 320 rfl Tryz.func320 (by kernel_rfl)
def s9t(x:Unit):Ht Hs:=zK 406 x
def q12 (x:Unit):Ht Hs:=(q20 (64,0)).bind fun y1=>some y1
theorem p6g:s9t=q12:=zC 406 rfl Tryz.func406 (by kernel_rfl)
def q2z(x:Int):Ht s91:=zK 356 x
def s3y(g:j9p→Ht j4u)(x:j9p):Ht j4u:=cond (decide (x.2.2.2<x.1)) ((s9t ()).bind fun y2=>cond (Nat.ble (x.2.2.1.1.length+([y2]:Hu Hs).length) z7w) (g (x.1,x.2.1,(x.2.2.1.1++([y2]:Hu Hs),x.2.2.1.2),IntKind.i64.wrap (x.2.2.2+1))) none) (some (.inl (x.2.1,x.2.2.1)))
def t2h:=lpW _ _ s3y
theorem r53 x:t2h x=s3y t2h x:=zW r42 356 Tryz.f356 5 23 x (by kernel_rfl)
def q1g (x:Int):Ht s91:=(u0t (x,1,100)).bind fun y1=>cond (!y1) (some ((([]:Hu Hs),([]:Hu p7e.den)),false)) ((t2h (x,(([]:Hu Hs),([]:Hu p7e.den)),(([]:Hu Hs),([]:Hu p7e.den)),0)).bind fun r3=>match r3 with | .inl o4=>some (o4.2,true) | .inr z5=>none)
theorem p5v:q2z=q1g:=zC 356 rfl Tryz.func356 (by kernel_rfl)
def t0j(x:Unit):Ht Int:=zK 357 x
def q63 (x:Unit):Ht Int:=some (97:Int)
theorem r0r:t0j=q63:=zC 357 rfl Tryz.func357 (by kernel_rfl)
def r3a(x:Unit):Ht t01:=zK 268 x
def q47 (x:Unit):Ht t01:=(t0j ()).bind fun y1=>(q2z y1).bind fun y2=>some y2.1
theorem p9s:r3a=q47:=zC 268 rfl Tryz.func268 (by kernel_rfl)
def s6u(x:Unit):Ht Z48:=zK 160 x
def r7w (x:Unit):Ht Z48:=(s4d ()).bind fun y1=>(r3a ()).bind fun y2=>some (y1,y2)
theorem p3f:s6u=r7w:=zC 160 rfl Tryz.func160 (by kernel_rfl)
def u1h(x:t1m):Ht t1m:=zK 70 x
def q17 (x:t1m):Ht t1m:=cond (Nat.ble (([]:Hu p4x.den).length+x.2.2.2.2.1.length) z7w) (cond (Nat.ble (([]:Hu u2l.den).length+x.2.2.2.2.2.1.length) z7w) (some (x.1,x.2.1,x.2.2.1,x.2.2.2.1,([]:Hu p4x.den)++x.2.2.2.2.1,([]:Hu u2l.den)++x.2.2.2.2.2.1,x.2.2.2.2.2.2)) none) none
theorem p6l:u1h=q17:=zC 70 rfl Tryz.func70 (by kernel_rfl)
def t7p(x:q3e):Ht q3e:=zK 178 x
def t8o(g:j9x→Ht j4v)(x:j9x):Ht j4v:=cond (decide (x.2.2<(x.1.length:Int))) (cond (y4q x.2.2 x.1.length) ((u1h (rdL u0a x.1 x.2.2.toNat)).bind fun y1=>cond (Nat.ble (x.2.1.length+([y1]:Hu u0a.den).length) z7w) (g (x.1,x.2.1++([y1]:Hu u0a.den),IntKind.i64.wrap (x.2.2+1))) none) none) (some (.inl x.2.1))
def t81:=lpW _ _ t8o
theorem r6j x:t81 x=t8o t81 x:=zW r5k 178 Tryz.f178 3 21 x (by kernel_rfl)
def q19 (x:q3e):Ht q3e:=(t81 (x,([]:Hu u0a.den),0)).bind fun r2=>match r2 with | .inl o3=>some o3 | .inr z4=>none
theorem p6n:t7p=q19:=zC 178 rfl Tryz.func178 (by kernel_rfl)
def u3p(x:u74):Ht u74:=zK 68 x
def q18 (x:u74):Ht u74:=cond (Nat.ble (([]:Hu u0h.den).length+x.1.length) z7w) ((t7p x.2.1).bind fun y1=>(t7p x.2.2.1).bind fun y2=>some (([]:Hu u0h.den)++x.1,y1,y2,x.2.2.2)) none
theorem p6m:u3p=q18:=zC 68 rfl Tryz.func68 (by kernel_rfl)
def u0o(x:Z73):Ht Z73:=zK 72 x
def q2c (x:Z73):Ht Z73:=(u3p x.1).bind fun y1=>(t7p x.2).bind fun y2=>some (y1,y2)
theorem p6q:u0o=q2c:=zC 72 rfl Tryz.func72 (by kernel_rfl)
def u7v(x:Hs):Ht Bool:=zK 123 x
def s2g(g:o3z→Ht j7c)(x:o3z):Ht j7c:=cond (decide (x.2<(x.1.size:Int))) (((cond (y4q x.2 x.1.size) (cond (decide (((x.1.data.toList.getD x.2.toNat 0).toNat:Int)<(97:Int))) (some true) (cond (y4q x.2 x.1.size) (some (decide (((x.1.data.toList.getD x.2.toNat 0).toNat:Int)>(122:Int)))) none)) none):Ht Bool).bind fun j1=>cond j1 (some (.inr false)) (g (x.1,IntKind.i64.wrap (x.2+1)))) (some (.inl x.1))
def s2p:=lpW _ _ s2g
theorem q27 x:s2p x=s2g s2p x:=zW q2r 123 Tryz.f123 2 23 x (by kernel_rfl)
def q8w (x:Hs):Ht Bool:=(s2p (x,0)).bind fun r2=>match r2 with | .inl o3=>((u0t ((o3.size:Int),1,3)).bind fun y4=>some y4) | .inr z5=>some z5
theorem o2f:u7v=q8w:=zC 123 rfl Tryz.func123 (by kernel_rfl)
def t7n(x:j7e):Ht Bool:=zK 75 x
def q1v (x:j7e):Ht Bool:=(((u7v x.1).bind fun y1=>cond y1 (cond (decide ((x.2.1.size:Int)≤(12:Int))) (cond (!x.2.2) (some true) (some (z7o x.2.1 (⟨#[]⟩:Hs)))) (some false)) (some false)):Ht Bool).bind fun j2=>some j2
theorem p6a:t7n=q1v:=zC 75 rfl Tryz.func75 (by kernel_rfl)
def s1g(x:o6t):Ht Bool:=zK 180 x
def t56(g:(o6t×Int)→Ht (o6t⊕Bool))(x:(o6t×Int)):Ht (o6t⊕Bool):=cond (decide (x.2<(x.1.length:Int))) (((cond (y4q x.2 x.1.length) ((t7n (rdL u2l x.1 x.2.toNat)).bind fun y1=>cond (!y1) (some true) (cond (decide (x.2>0)) (cond (y4q (IntKind.i64.wrap (x.2 - 1)) x.1.length) (cond (y4q x.2 x.1.length) (some (!y3c (rdL u2l x.1 (IntKind.i64.wrap (x.2 - 1)).toNat).1 (rdL u2l x.1 x.2.toNat).1)) none) none) (some false))) none):Ht Bool).bind fun j2=>cond j2 (some (.inr false)) (g (x.1,IntKind.i64.wrap (x.2+1)))) (some (.inl x.1))
def t6k:=lpW _ _ t56
theorem r2i x:t6k x=t56 t6k x:=zW r1f 180 Tryz.f180 2 37 x (by kernel_rfl)
def r70 (x:o6t):Ht Bool:=(t6k (x,0)).bind fun r3=>match r3 with | .inl o4=>some (decide ((o4.length:Int)≤(8:Int))) | .inr z5=>some z5
theorem p3i:s1g=r70:=zC 180 rfl Tryz.func180 (by kernel_rfl)
def t7m(x:j22):Ht Bool:=zK 235 x
def q1m (x:j22):Ht Bool:=(((u7v x.1).bind fun y1=>cond y1 ((u7v x.2).bind fun y2=>cond y2 (some (y3c x.1 x.2||z7o x.1 x.2)) (some false)) (some false)):Ht Bool).bind fun j3=>some j3
theorem p51:t7m=q1m:=zC 235 rfl Tryz.func235 (by kernel_rfl)
def u7x(x:t1m):Ht Bool:=zK 121 x
def s2k(g:o4h→Ht (t1m⊕Bool))(x:o4h):Ht (t1m⊕Bool):=cond (decide (x.2<(x.1.2.2.2.2.1.length:Int))) (cond (y4q x.2 x.1.2.2.2.2.1.length) ((t7m (rdL p4x x.1.2.2.2.2.1 x.2.toNat)).bind fun y6=>cond (!y6) (some (.inr false)) (g (x.1,IntKind.i64.wrap (x.2+1)))) none) (some (.inl x.1))
def s2s:=lpW _ _ s2k
theorem q3b x:s2s x=s2k s2s x:=zW q2v 121 Tryz.f121 4 95 x (by kernel_rfl)
def q81 (x:t1m):Ht Bool:=(((u0t (x.1,1,9999)).bind fun y1=>cond (!y1) (some true) ((u0t (x.2.1,1,3)).bind fun y2=>cond (!y2) (some true) ((u0t (x.2.2.1,0,9999)).bind fun y3=>cond (!y3) (some true) (cond (decide ((x.2.2.2.2.1.length:Int)>(8:Int))) (some true) ((s1g x.2.2.2.2.2.1).bind fun y4=>some (!y4)))))):Ht Bool).bind fun j5=>cond j5 (some false) ((s2s (x,0)).bind fun r7=>match r7 with | .inl o8=>(((cond (decide (o8.2.1=3)) ((u0t (o8.2.2.2.1,IntKind.i64.wrap (o8.2.2.1+1),9999)).bind fun y9=>cond (!y9) (some true) (cond (!decide (o8.2.1=3)) (some (!decide (o8.2.2.2.1=0))) (some false))) (cond (!decide (o8.2.1=3)) (some (!decide (o8.2.2.2.1=0))) (some false))):Ht Bool).bind fun j10=>cond j10 (some false) (((cond (decide (o8.2.1=2)) ((u7v o8.2.2.2.2.2.2.2).bind fun y11=>cond (!y11) (some true) (cond (!decide (o8.2.1=2)) (some (!z7o o8.2.2.2.2.2.2.2 (⟨#[]⟩:Hs))) (some false))) (cond (!decide (o8.2.1=2)) (some (!z7o o8.2.2.2.2.2.2.2 (⟨#[]⟩:Hs))) (some false))):Ht Bool).bind fun j12=>cond j12 (some false) (((cond (!decide (o8.2.1=1)) (some true) (some (!o8.2.2.2.2.2.2.1))):Ht Bool).bind fun j13=>some j13))) | .inr z14=>some z14)
theorem o2k:u7x=q81:=zC 121 rfl Tryz.func121 (by kernel_rfl)
def s14(x:q0i):Ht Bool:=zK 131 x
def t1e(g:j41→Ht (q0i⊕Bool))(x:j41):Ht (q0i⊕Bool):=cond (decide (x.2<(x.1.length:Int))) (cond (y4q x.2 x.1.length) ((((u7v (rdL u0h x.1 x.2.toNat).1).bind fun y1=>cond (!y1) (some true) (cond (decide (((rdL u0h x.1 x.2.toNat).2.1.size:Int)>(12:Int))) (some true) (cond (rdL u0h x.1 x.2.toNat).2.2.1 (cond (!z7o (rdL u0h x.1 x.2.toNat).2.1 (⟨#[]⟩:Hs)) (some true) ((u0t ((rdL u0h x.1 x.2.toNat).2.2.2,1,9999)).bind fun y2=>some (!y2))) ((u0t ((rdL u0h x.1 x.2.toNat).2.2.2,1,9999)).bind fun y3=>some (!y3))))):Ht Bool).bind fun j4=>cond j4 (some (.inr false)) (((cond (decide (x.2>0)) (cond (y4q (IntKind.i64.wrap (x.2 - 1)) x.1.length) (cond (!(y3c (rdL u0h x.1 (IntKind.i64.wrap (x.2 - 1)).toNat).1 (rdL u0h x.1 x.2.toNat).1||z7o (rdL u0h x.1 (IntKind.i64.wrap (x.2 - 1)).toNat).1 (rdL u0h x.1 x.2.toNat).1)) (some true) (cond (y4q (IntKind.i64.wrap (x.2 - 1)) x.1.length) (cond (z7o (rdL u0h x.1 (IntKind.i64.wrap (x.2 - 1)).toNat).1 (rdL u0h x.1 x.2.toNat).1) (cond (y4q (IntKind.i64.wrap (x.2 - 1)) x.1.length) (some (decide ((rdL u0h x.1 (IntKind.i64.wrap (x.2 - 1)).toNat).2.2.2≥(rdL u0h x.1 x.2.toNat).2.2.2))) none) (some false)) none)) none) (some false)):Ht Bool).bind fun j5=>cond j5 (some (.inr false)) (g (x.1,IntKind.i64.wrap (x.2+1))))) none) (some (.inl x.1))
def t1l:=lpW _ _ t1e
theorem s69 x:t1l x=t1e t1l x:=zW s6a 131 Tryz.f131 2 78 x (by kernel_rfl)
def r0j (x:q0i):Ht Bool:=(t1l (x,0)).bind fun r6=>match r6 with | .inl o7=>some (decide ((o7.length:Int)≤(120:Int))) | .inr z8=>some z8
theorem q7p:s14=r0j:=zC 131 rfl Tryz.func131 (by kernel_rfl)
def u87(x:u74):Ht Bool:=zK 42 x
def s0b(g:j5g→Ht j25)(x:j5g):Ht j25:=cond (decide (x.2<(x.1.1.length:Int))) (cond (y4q x.2 x.1.1.length) (cond (decide ((rdL u0h x.1.1 x.2.toNat).2.2.2>x.1.2.2.2.1)) (some (.inr false)) (g (x.1,IntKind.i64.wrap (x.2+1)))) none) (some (.inl x.1))
def t4r:=lpW _ _ s0b
theorem r9n x:t4r x=s0b t4r x:=zW r8m 42 Tryz.f42 4 179 x (by kernel_rfl)
def t76(g:Z87→Ht (Z98⊕Bool))(x:Z87):Ht (Z98⊕Bool):=cond (decide (x.2.2<(x.1.2.1.length:Int))) (cond (y4q x.2.2 x.1.2.1.length) ((((u7x (rdL u0a x.1.2.1 x.2.2.toNat)).bind fun y7=>cond (!y7) (some true) (cond (!decide ((rdL u0a x.1.2.1 x.2.2.toNat).2.1=3)) (some true) (cond (decide ((rdL u0a x.1.2.1 x.2.2.toNat).2.2.2.1>x.1.2.2.2.1)) (some true) (cond (decide (x.2.2>0)) (cond (y4q (IntKind.i64.wrap (x.2.2 - 1)) x.1.2.1.length) (some (decide ((rdL u0a x.1.2.1 (IntKind.i64.wrap (x.2.2 - 1)).toNat).2.2.2.1≥(rdL u0a x.1.2.1 x.2.2.toNat).2.2.2.1))) none) (some false))))):Ht Bool).bind fun j8=>cond j8 (some (.inr false)) (cond (Nat.ble (x.2.1.length+([(rdL u0a x.1.2.1 x.2.2.toNat).1]:Hu Int).length) z7w) (g (x.1,x.2.1++([(rdL u0a x.1.2.1 x.2.2.toNat).1]:Hu Int),IntKind.i64.wrap (x.2.2+1))) none)) none) (some (.inl (x.1,x.2.1)))
def u8g:=lpW _ _ t76
theorem r5y x:u8g x=t76 u8g x:=zW r4w 42 Tryz.f42 10 179 x (by kernel_rfl)
def t77(g:Z87→Ht (Z98⊕Bool))(x:Z87):Ht (Z98⊕Bool):=cond (decide (x.2.2<(x.1.2.2.1.length:Int))) (cond (y4q x.2.2 x.1.2.2.1.length) ((((u7x (rdL u0a x.1.2.2.1 x.2.2.toNat)).bind fun y11=>cond (!y11) (some true) (cond (!decide ((rdL u0a x.1.2.2.1 x.2.2.toNat).2.1=2)) (some true) (cond (decide ((rdL u0a x.1.2.2.1 x.2.2.toNat).2.2.1>x.1.2.2.2.1)) (some true) (cond (decide (x.2.2>0)) (cond (y4q (IntKind.i64.wrap (x.2.2 - 1)) x.1.2.2.1.length) (some (!y3c (rdL u0a x.1.2.2.1 (IntKind.i64.wrap (x.2.2 - 1)).toNat).2.2.2.2.2.2.2 (rdL u0a x.1.2.2.1 x.2.2.toNat).2.2.2.2.2.2.2)) none) (some false))))):Ht Bool).bind fun j12=>cond j12 (some (.inr false)) (cond (Nat.ble (x.2.1.length+([(rdL u0a x.1.2.2.1 x.2.2.toNat).1]:Hu Int).length) z7w) (g (x.1,x.2.1++([(rdL u0a x.1.2.2.1 x.2.2.toNat).1]:Hu Int),IntKind.i64.wrap (x.2.2+1))) none)) none) (some (.inl (x.1,x.2.1)))
def t2e:=lpW _ _ t77
theorem r5z x:t2e x=t77 t2e x:=zW r4x 42 Tryz.f42 17 179 x (by kernel_rfl)
def t79(g:Z79→Ht (Z87⊕Bool))(x:Z79):Ht (Z87⊕Bool):=cond (decide (x.2.2.2<x.2.2.1)) (cond (y4q x.2.2.2 x.2.1.length) (cond (y4q x.2.2.1 x.2.1.length) (cond (decide ((rdL (Ty.int .i64) x.2.1 x.2.2.2.toNat)=(rdL (Ty.int .i64) x.2.1 x.2.2.1.toNat))) (some (.inr false)) (g (x.1,x.2.1,x.2.2.1,IntKind.i64.wrap (x.2.2.2+1)))) none) none) (some (.inl (x.1,x.2.1,x.2.2.1)))
def t2f:=lpW _ _ t79
theorem r51 x:t2f x=t79 t2f x:=zW r4z 42 Tryz.f42 27 179 x (by kernel_rfl)
def t78(g:Z87→Ht r97)(x:Z87):Ht r97:=cond (decide (x.2.2<(x.2.1.length:Int))) ((t2f (x.1,x.2.1,x.2.2,0)).bind fun r15=>match r15 with | .inl o16=>cond (y4q o16.2.2 o16.2.1.length) (cond (decide ((rdL (Ty.int .i64) o16.2.1 o16.2.2.toNat)≥o16.1.2.2.2.2)) (some (.inr false)) (g (o16.1,o16.2.1,IntKind.i64.wrap (o16.2.2+1)))) none | .inr z17=>some (.inr z17)) (some (.inl ()))
def u8h:=lpW _ _ t78
theorem r50 x:u8h x=t78 u8h x:=zW r4y 42 Tryz.f42 24 179 x (by kernel_rfl)
def q40 (x:u74):Ht Bool:=(((s14 x.1).bind fun y1=>cond (!y1) (some true) (cond (decide ((x.2.1.length:Int)>(12:Int))) (some true) (cond (decide ((x.2.2.1.length:Int)>(3:Int))) (some true) ((u0t (x.2.2.2.1,0,9999)).bind fun y2=>cond (!y2) (some true) ((u0t (x.2.2.2.2,1,9999)).bind fun y3=>some (!y3)))))):Ht Bool).bind fun j4=>cond j4 (some false) ((t4r (x,0)).bind fun r5=>match r5 with | .inl o6=>((u8g (o6,([]:Hu Int),0)).bind fun r9=>match r9 with | .inl o10=>((t2e (o10.1,o10.2,0)).bind fun r13=>match r13 with | .inl o14=>((u8h (o14.1,o14.2,0)).bind fun r18=>match r18 with | .inl o19=>some true | .inr z20=>some z20) | .inr z21=>some z21) | .inr z22=>some z22) | .inr z23=>some z23)
theorem p9l:u87=q40:=zC 42 rfl Tryz.func42 (by kernel_rfl)
def s6p(x:Z73):Ht Bool:=zK 73 x
def t3t(g:Z23→Ht (Z26⊕Bool))(x:Z23):Ht (Z26⊕Bool):=cond (decide (x.2.2.2<(x.1.1.2.1.length:Int))) (cond (y4q x.2.2.2 x.1.1.2.1.length) (cond (decide ((rdL u0a x.1.1.2.1 x.2.2.2.toNat).1=x.2.2.1.1)) (some (.inr false)) (g (x.1,x.2.1,x.2.2.1,IntKind.i64.wrap (x.2.2.2+1)))) none) (some (.inl (x.1,x.2.1,x.2.2.1)))
def u83:=lpW _ _ t3t
theorem s81 x:u83 x=t3t u83 x:=zW s8a 73 Tryz.f73 10 105 x (by kernel_rfl)
def t3u(g:Z23→Ht (Z68⊕Bool))(x:Z23):Ht (Z68⊕Bool):=cond (decide (x.2.2.2<(x.1.1.2.2.1.length:Int))) (cond (y4q x.2.2.2 x.1.1.2.2.1.length) (cond (decide ((rdL u0a x.1.1.2.2.1 x.2.2.2.toNat).1=x.2.2.1.1)) (some (.inr false)) (g (x.1,x.2.1,x.2.2.1,IntKind.i64.wrap (x.2.2.2+1)))) none) (some (.inl (x.1,x.2.1)))
def u61:=lpW _ _ t3u
theorem s82 x:u61 x=t3u u61 x:=zW s8b 73 Tryz.f73 15 105 x (by kernel_rfl)
def t5t(g:Z68→Ht r97)(x:Z68):Ht r97:=cond (decide (x.2<(x.1.2.length:Int))) (cond (y4q x.2 x.1.2.length) ((((u7x (rdL u0a x.1.2 x.2.toNat)).bind fun y3=>cond (!y3) (some true) (cond (!decide ((rdL u0a x.1.2 x.2.toNat).2.1=1)) (some true) (cond (decide ((rdL u0a x.1.2 x.2.toNat).1≥x.1.1.2.2.2.2)) (some true) (cond (decide ((rdL u0a x.1.2 x.2.toNat).2.2.1>x.1.1.2.2.2.1)) (some true) (cond (decide (x.2>0)) (cond (y4q (IntKind.i64.wrap (x.2 - 1)) x.1.2.length) (some (decide ((rdL u0a x.1.2 (IntKind.i64.wrap (x.2 - 1)).toNat).1≥(rdL u0a x.1.2 x.2.toNat).1))) none) (some false)))))):Ht Bool).bind fun j4=>cond j4 (some (.inr false)) ((u83 (x.1,x.2,rdL u0a x.1.2 x.2.toNat,0)).bind fun r5=>match r5 with | .inl o6=>((u61 (o6.1,o6.2.1,o6.2.2,0)).bind fun r7=>match r7 with | .inl o8=>g (o8.1,IntKind.i64.wrap (o8.2+1)) | .inr z9=>some (.inr z9)) | .inr z10=>some (.inr z10))) none) (some (.inl ()))
def u7y:=lpW _ _ t5t
theorem r12 x:u7y x=t5t u7y x:=zW r05 73 Tryz.f73 4 105 x (by kernel_rfl)
def r7n (x:Z73):Ht Bool:=(((u87 x.1).bind fun y1=>cond (!y1) (some true) (some (decide ((x.2.length:Int)>(4:Int))))):Ht Bool).bind fun j2=>cond j2 (some false) ((u7y (x,0)).bind fun r11=>match r11 with | .inl o12=>some true | .inr z13=>some z13)
theorem p26:s6p=r7n:=zC 73 rfl Tryz.func73 (by kernel_rfl)
def t05(x:Z73):Ht Z60:=zK 17 x
def q8u (x:Z73):Ht Z60:=(u0o x).bind fun y1=>(((s6p x).bind fun y2=>cond (!y2) (some true) (cond (decide ((x.2.length:Int)≥(4:Int))) (some true) (some (decide (x.1.2.2.2.2≥9999))))):Ht Bool).bind fun j3=>cond j3 (some (y1,0,3)) (cond (Nat.ble (y1.2.length+([(x.1.2.2.2.2,1,x.1.2.2.2.1,0,([]:Hu p4x.den),([]:Hu u2l.den),false,(⟨#[]⟩:Hs))]:Hu u0a.den).length) z7w) (some (((y1.1.1,y1.1.2.1,y1.1.2.2.1,y1.1.2.2.2.1,IntKind.i64.wrap (x.1.2.2.2.2+1)),y1.2++([(x.1.2.2.2.2,1,x.1.2.2.2.1,0,([]:Hu p4x.den),([]:Hu u2l.den),false,(⟨#[]⟩:Hs))]:Hu u0a.den)),x.1.2.2.2.2,0)) none)
theorem o2d:t05=q8u:=zC 17 rfl Tryz.func17 (by kernel_rfl)
def u7o(x:Z68):Ht Int:=zK 74 x
def t4k(g:Z63→Ht q3f)(x:Z63):Ht q3f:=cond (decide (x.2.2<(x.2.1.2.length:Int))) (cond (y4q x.2.2 x.2.1.2.length) (cond (decide ((rdL u0a x.2.1.2 x.2.2.toNat).1=x.1)) (some (.inr x.2.2)) (g (x.1,x.2.1,IntKind.i64.wrap (x.2.2+1)))) none) (some (.inl ()))
def t4t:=lpW _ _ t4k
theorem r9r x:t4t x=t4k t4t x:=zW r8q 74 Tryz.f74 2 22 x (by kernel_rfl)
def q48 (x:Z68):Ht Int:=(t4t (x.2,x.1,0)).bind fun r1=>match r1 with | .inl o2=>some (- 1:Int) | .inr z3=>some z3
theorem p9t:u7o=q48:=zC 74 rfl Tryz.func74 (by kernel_rfl)
def s6s(x:d0l):Ht o6t:=zK 179 x
def t5v(g:j6n→Ht (j90⊕Unit))(x:j6n):Ht (j90⊕Unit):=cond (decide (x.2.2.2<(x.1.length:Int))) (cond (y4q x.2.2.2 x.1.length) (cond (y3c (rdL u2l x.1 x.2.2.2.toNat).1 x.2.1.1) (cond (y4q x.2.2.2 x.1.length) (cond (Nat.ble (x.2.2.1.length+([(rdL u2l x.1 x.2.2.2.toNat)]:Hu u2l.den).length) z7w) (g (x.1,x.2.1,x.2.2.1++([(rdL u2l x.1 x.2.2.2.toNat)]:Hu u2l.den),IntKind.i64.wrap (x.2.2.2+1))) none) none) (g (x.1,x.2.1,x.2.2.1,IntKind.i64.wrap (x.2.2.2+1)))) none) (some (.inl (x.1,x.2.1,x.2.2.1)))
def t6h:=lpW _ _ t5v
theorem r2a x:t6h x=t5v t6h x:=zW r07 179 Tryz.f179 3 56 x (by kernel_rfl)
def t5w(g:j6n→Ht (o6t⊕Unit))(x:j6n):Ht (o6t⊕Unit):=cond (decide (x.2.2.2<(x.1.length:Int))) (cond (y4q x.2.2.2 x.1.length) (cond (!(y3c (rdL u2l x.1 x.2.2.2.toNat).1 x.2.1.1||z7o (rdL u2l x.1 x.2.2.2.toNat).1 x.2.1.1)) (cond (y4q x.2.2.2 x.1.length) (cond (Nat.ble (x.2.2.1.length+([(rdL u2l x.1 x.2.2.2.toNat)]:Hu u2l.den).length) z7w) (g (x.1,x.2.1,x.2.2.1++([(rdL u2l x.1 x.2.2.2.toNat)]:Hu u2l.den),IntKind.i64.wrap (x.2.2.2+1))) none) none) (g (x.1,x.2.1,x.2.2.1,IntKind.i64.wrap (x.2.2.2+1)))) none) (some (.inl x.2.2.1))
def t6i:=lpW _ _ t5w
theorem r2b x:t6i x=t5w t6i x:=zW r08 179 Tryz.f179 9 56 x (by kernel_rfl)
def r7r (x:d0l):Ht o6t:=(t6h (x.1,x.2,([]:Hu u2l.den),0)).bind fun r1=>match r1 with | .inl o2=>cond (Nat.ble (o2.2.2.length+([o2.2.1]:Hu u2l.den).length) z7w) ((t6i (o2.1,o2.2.1,o2.2.2++([o2.2.1]:Hu u2l.den),0)).bind fun r3=>match r3 with | .inl o4=>some o4 | .inr z5=>none) none | .inr z6=>none
theorem p3a:s6s=r7r:=zC 179 rfl Tryz.func179 (by kernel_rfl)
def s6w(x:j9a):Ht j4p:=zK 76 x
def r7z (x:j9a):Ht j4p:=(u1h x.1).bind fun y1=>(((u7x x.1).bind fun y2=>cond (!y2) (some true) (cond (!decide (x.1.2.1=1)) (some true) ((t7n x.2).bind fun y3=>some (!y3)))):Ht Bool).bind fun j4=>cond j4 (some (y1,false)) ((s6s (x.1.2.2.2.2.2.1,x.2)).bind fun y5=>(s1g y5).bind fun y6=>cond (!y6) ((u1h x.1).bind fun y7=>some (y7,false)) (some ((y1.1,y1.2.1,y1.2.2.1,y1.2.2.2.1,y1.2.2.2.2.1,y5,y1.2.2.2.2.2.2),true)))
theorem p3h:s6w=r7z:=zC 76 rfl Tryz.func76 (by kernel_rfl)
def u88(x:Z47):Ht Z68:=zK 18 x
def q5b (x:Z47):Ht Z68:=(u0o x.1).bind fun y1=>(u7o (x.1,x.2.1)).bind fun y2=>cond (decide (y2<0)) (some (y1,1)) ((t7n x.2.2).bind fun y3=>cond (!y3) (some (y1,2)) (cond (y4q y2 x.1.2.length) ((s6w (rdL u0a x.1.2 y2.toNat,x.2.2)).bind fun y4=>cond (!y4.2) (some (y1,3)) (cond (y4q y2 y1.2.length) (some ((y1.1,y1.2.set y2.toNat y4.1),0)) none)) none))
theorem p9w:u88=q5b:=zC 18 rfl Tryz.func18 (by kernel_rfl)
def u1g(x:t01):Ht t01:=zK 261 x
def q11 (x:t01):Ht t01:=cond (Nat.ble (([]:Hu Hs).length+x.1.length) z7w) (cond (Nat.ble (([]:Hu p7e.den).length+x.2.length) z7w) (some (([]:Hu Hs)++x.1,([]:Hu p7e.den)++x.2)) none) none
theorem p6f:u1g=q11:=zC 261 rfl Tryz.func261 (by kernel_rfl)
def s9y(x:Z48):Ht Z48:=zK 155 x
def q2e (x:Z48):Ht Z48:=(u0o x.1).bind fun y1=>(u1g x.2).bind fun y2=>some (y1,y2)
theorem p6s:s9y=q2e:=zC 155 rfl Tryz.func155 (by kernel_rfl)
def u16(x:Int):Ht Hs:=zK 232 x
def r6t(g:j27→Ht (j27⊕Unit))(x:j27):Ht (j27⊕Unit):=cond (decide (x.1>127)) (cond (Nat.ble (x.2.length+([(IntKind.u8.wrap (IntKind.i64.wrap ((Int.tmod x.1 (128:Int))+128)))]:Hu Int).length) z7w) (g (IntKind.i64.wrap (Int.tdiv x.1 (128:Int)),x.2++([(IntKind.u8.wrap (IntKind.i64.wrap ((Int.tmod x.1 (128:Int))+128)))]:Hu Int))) none) (some (.inl x))
def s0p:=lpW _ _ r6t
theorem p4t x:s0p x=r6t s0p x:=zW r8u 232 Tryz.f232 2 22 x (by kernel_rfl)
def q5g (x:Int):Ht Hs:=(s0p (x,([]:Hu Int))).bind fun r1=>match r1 with | .inl o2=>cond (Nat.ble (o2.2.length+([(IntKind.u8.wrap o2.1)]:Hu Int).length) z7w) (some (y7g (o2.2++([(IntKind.u8.wrap o2.1)]:Hu Int)))) none | .inr z3=>none
theorem p91:u16=q5g:=zC 232 rfl Tryz.func232 (by kernel_rfl)
def s28(x:o3z):Ht j29:=zK 234 x
def t8g(g:d0x→Ht (Unit⊕j29))(x:d0x):Ht (Unit⊕j29):=((cond (decide (x.2.2.2.2<(x.1.size:Int))) (some (decide (x.2.2.2.2<(IntKind.i64.wrap (x.2.1+5))))) (some false)):Ht Bool).bind fun j2=>cond j2 (cond (y4q x.2.2.2.2 x.1.size) (cond (y4q x.2.2.2.2 x.1.size) (cond (decide (((x.1.data.toList.getD x.2.2.2.2.toNat 0).toNat:Int)<(128:Int))) (((cond (decide ((IntKind.i64.wrap (x.2.2.1+(IntKind.i64.wrap ((Int.tmod (IntKind.i64.wrap ((x.1.data.toList.getD x.2.2.2.2.toNat 0).toNat:Int)) (128:Int))*x.2.2.2.1))))>1000000000)) (some true) ((u16 (IntKind.i64.wrap (x.2.2.1+(IntKind.i64.wrap ((Int.tmod (IntKind.i64.wrap ((x.1.data.toList.getD x.2.2.2.2.toNat 0).toNat:Int)) (128:Int))*x.2.2.2.1))))).bind fun y3=>cond (decide (0≤x.2.1)&&decide (x.2.1≤(IntKind.i64.wrap (x.2.2.2.2+1)))&&decide ((IntKind.i64.wrap (x.2.2.2.2+1))≤(x.1.size:Int))) (some (!z7o y3 (x.1.extract x.2.1.toNat (IntKind.i64.wrap (x.2.2.2.2+1)).toNat))) none)):Ht Bool).bind fun j4=>cond j4 (some (.inr (0,0,false))) (some (.inr (IntKind.i64.wrap (x.2.2.1+(IntKind.i64.wrap ((Int.tmod (IntKind.i64.wrap ((x.1.data.toList.getD x.2.2.2.2.toNat 0).toNat:Int)) (128:Int))*x.2.2.2.1))),IntKind.i64.wrap (x.2.2.2.2+1),true)))) (g (x.1,x.2.1,IntKind.i64.wrap (x.2.2.1+(IntKind.i64.wrap ((Int.tmod (IntKind.i64.wrap ((x.1.data.toList.getD x.2.2.2.2.toNat 0).toNat:Int)) (128:Int))*x.2.2.2.1))),IntKind.i64.wrap (x.2.2.2.1*128),IntKind.i64.wrap (x.2.2.2.2+1)))) none) none) (some (.inl ()))
def t8w:=lpW _ _ t8g
theorem r59 x:t8w x=t8g t8w x:=zW r48 234 Tryz.f234 6 58 x (by kernel_rfl)
def q1o (x:o3z):Ht j29:=(u0t (x.2,0,(x.1.size:Int))).bind fun y1=>cond (!y1) (some (0,0,false)) ((t8w (x.1,x.2,0,1,x.2)).bind fun r5=>match r5 with | .inl o6=>some (0,0,false) | .inr z7=>some z7)
theorem p53:s28=q1o:=zC 234 rfl Tryz.func234 (by kernel_rfl)
def t9d(x:o3z):Ht q4b:=zK 227 x
def r4d (x:o3z):Ht q4b:=(s28 x).bind fun y1=>((cond (!y1.2.2) (some true) (cond (decide (y1.1>20000)) (some true) (some (decide (y1.1>(IntKind.i64.wrap ((x.1.size:Int) - y1.2.1))))))):Ht Bool).bind fun j2=>cond j2 (some ((⟨#[]⟩:Hs),0,false)) (cond (decide (0≤y1.2.1)&&decide (y1.2.1≤(IntKind.i64.wrap (y1.2.1+y1.1)))&&decide ((IntKind.i64.wrap (y1.2.1+y1.1))≤(x.1.size:Int))) (some (x.1.extract y1.2.1.toNat (IntKind.i64.wrap (y1.2.1+y1.1)).toNat,IntKind.i64.wrap (y1.2.1+y1.1),true)) none)
theorem p0x:t9d=r4d:=zC 227 rfl Tryz.func227 (by kernel_rfl)
def u19(x:q4b):Ht j6z:=zK 111 x
def s5w (x:q4b):Ht j6z:=(t9d (x.1,x.2.1)).bind fun y1=>((cond x.2.2 (some true) (some (!y1.2.2))):Ht Bool).bind fun j2=>cond j2 (some ((⟨#[]⟩:Hs),x.1,x.2.1,true)) (some (y1.1,x.1,y1.2.1,x.2.2))
theorem q3p:u19=s5w:=zC 111 rfl Tryz.func111 (by kernel_rfl)
def u72(x:q4b):Ht (Bool×q4b):=zK 112 x
def r0l (x:q4b):Ht (Bool×q4b):=((cond x.2.2 (some true) (cond (decide (x.2.1≥(x.1.size:Int))) (some true) (cond (y4q x.2.1 x.1.size) (some (decide (((x.1.data.toList.getD x.2.1.toNat 0).toNat:Int)>(1:Int)))) none))):Ht Bool).bind fun j1=>cond j1 (some (false,x.1,x.2.1,true)) (cond (y4q (IntKind.i64.wrap ((IntKind.i64.wrap (x.2.1+1)) - 1)) x.1.size) (some (decide (((x.1.data.toList.getD (IntKind.i64.wrap ((IntKind.i64.wrap (x.2.1+1)) - 1)).toNat 0).toNat:Int)=(1:Int)),x.1,IntKind.i64.wrap (x.2.1+1),x.2.2)) none)
theorem q7r:u72=r0l:=zC 112 rfl Tryz.func112 (by kernel_rfl)
def u28(x:q4b):Ht (Int×q4b):=zK 118 x
def q5k (x:q4b):Ht (Int×q4b):=(s28 (x.1,x.2.1)).bind fun y1=>((cond x.2.2 (some true) (some (!y1.2.2))):Ht Bool).bind fun j2=>cond j2 (some (0,x.1,x.2.1,true)) (some (y1.1,x.1,y1.2.1,x.2.2))
theorem p95:u28=q5k:=zC 118 rfl Tryz.func118 (by kernel_rfl)
def s27(x:o3z):Ht j9k:=zK 113 x
def t8f(g:Z31→Ht (Z37⊕Unit))(x:Z31):Ht (Z37⊕Unit):=((cond (decide (x.2.2.2.2<x.2.2.2.1)) (cond (decide (x.2.2.2.2<10)) (some (!x.2.1.2.2)) (some false)) (some false)):Ht Bool).bind fun j6=>cond j6 ((u19 x.2.1).bind fun y7=>(u19 y7.2).bind fun y8=>cond (Nat.ble (x.2.2.1.2.2.2.2.1.length+([(y7.1,y8.1)]:Hu p4x.den).length) z7w) (g (x.1,y8.2,(x.2.2.1.1,x.2.2.1.2.1,x.2.2.1.2.2.1,x.2.2.1.2.2.2.1,x.2.2.1.2.2.2.2.1++([(y7.1,y8.1)]:Hu p4x.den),x.2.2.1.2.2.2.2.2),x.2.2.2.1,IntKind.i64.wrap (x.2.2.2.2+1))) none) (some (.inl (x.1,x.2.1,x.2.2.1)))
def t2k:=lpW _ _ t8f
theorem r58 x:t2k x=t8f t2k x:=zW r47 113 Tryz.f113 8 115 x (by kernel_rfl)
def t5y(g:Z31→Ht (Z37⊕Unit))(x:Z31):Ht (Z37⊕Unit):=((cond (decide (x.2.2.2.2<x.2.2.2.1)) (cond (decide (x.2.2.2.2<10)) (some (!x.2.1.2.2)) (some false)) (some false)):Ht Bool).bind fun j12=>cond j12 ((u19 x.2.1).bind fun y13=>(u19 y13.2).bind fun y14=>(u72 y14.2).bind fun y15=>cond (Nat.ble (x.2.2.1.2.2.2.2.2.1.length+([(y13.1,y14.1,y15.1)]:Hu u2l.den).length) z7w) (g (x.1,y15.2,(x.2.2.1.1,x.2.2.1.2.1,x.2.2.1.2.2.1,x.2.2.1.2.2.2.1,x.2.2.1.2.2.2.2.1,x.2.2.1.2.2.2.2.2.1++([(y13.1,y14.1,y15.1)]:Hu u2l.den),x.2.2.1.2.2.2.2.2.2),x.2.2.2.1,IntKind.i64.wrap (x.2.2.2.2+1))) none) (some (.inl (x.1,x.2.1,x.2.2.1)))
def u90:=lpW _ _ t5y
theorem r2d x:u90 x=t5y u90 x:=zW r1a 113 Tryz.f113 15 115 x (by kernel_rfl)
def q1n (x:o3z):Ht j9k:=(u28 (x.1,x.2,false)).bind fun y1=>(u28 y1.2).bind fun y2=>(u28 y2.2).bind fun y3=>(u28 y3.2).bind fun y4=>(u28 y4.2).bind fun y5=>(t2k ((0,0,0,0,([]:Hu p4x.den),([]:Hu u2l.den),false,(⟨#[]⟩:Hs)),y5.2,(y1.1,y2.1,y3.1,y4.1,([]:Hu p4x.den),([]:Hu u2l.den),false,(⟨#[]⟩:Hs)),y5.1,0)).bind fun r9=>match r9 with | .inl o10=>((u28 o10.2.1).bind fun y11=>(u90 (o10.1,y11.2,o10.2.2,y11.1,0)).bind fun r16=>match r16 with | .inl o17=>((u72 o17.2.1).bind fun y18=>(u19 y18.2).bind fun y19=>((cond y19.2.2.2 (some true) ((u7x (o17.2.2.1,o17.2.2.2.1,o17.2.2.2.2.1,o17.2.2.2.2.2.1,o17.2.2.2.2.2.2.1,o17.2.2.2.2.2.2.2.1,y18.1,y19.1)).bind fun y20=>some (!y20))):Ht Bool).bind fun j21=>cond j21 (some ((0,0,0,0,([]:Hu p4x.den),([]:Hu u2l.den),false,(⟨#[]⟩:Hs)),0,false)) (some ((o17.2.2.1,o17.2.2.2.1,o17.2.2.2.2.1,o17.2.2.2.2.2.1,o17.2.2.2.2.2.2.1,o17.2.2.2.2.2.2.2.1,y18.1,y19.1),y19.2.2.1,true))) | .inr z22=>none) | .inr z23=>none
theorem p52:s27=q1n:=zC 113 rfl Tryz.func113 (by kernel_rfl)
def t4e(x:(q4b×Int)):Ht j97:=zK 119 x
def u5c(g:j9t→Ht (j6q⊕j6q))(x:j9t):Ht (j6q⊕j6q):=((cond (decide (x.2.2.2.2<x.2.2.2.1)) (cond (decide (x.2.2.2.2≤x.2.1)) (some (!x.1.2.2)) (some false)) (some false)):Ht Bool).bind fun j2=>cond j2 ((s27 (x.1.1,x.1.2.1)).bind fun y3=>cond (!y3.2.2) (some (.inr ((x.1.1,x.1.2.1,true),x.2.2.1))) (cond (Nat.ble (x.2.2.1.length+([y3.1]:Hu u0a.den).length) z7w) (g ((x.1.1,y3.2.1,x.1.2.2),x.2.1,x.2.2.1++([y3.1]:Hu u0a.den),x.2.2.2.1,IntKind.i64.wrap (x.2.2.2.2+1))) none)) (some (.inl (x.1,x.2.2.1)))
def u7g:=lpW _ _ u5c
theorem u9t x:u7g x=u5c u7g x:=zW s4v 119 Tryz.f119 4 59 x (by kernel_rfl)
def s7y (x:(q4b×Int)):Ht j97:=(u28 x.1).bind fun y1=>(u7g (y1.2,x.2,([]:Hu u0a.den),y1.1,0)).bind fun r4=>match r4 with | .inl o5=>some (o5.2,o5.1) | .inr z6=>some (z6.2,z6.1)
theorem q55:t4e=s7y:=zC 119 rfl Tryz.func119 (by kernel_rfl)
def s6t(x:o3z):Ht Z95:=zK 38 x
def t5x(g:Z21→Ht (Z24⊕Unit))(x:Z21):Ht (Z24⊕Unit):=((cond (decide (x.2.2.2.2<x.2.2.2.1)) (cond (decide (x.2.2.2.2<130)) (some (!x.2.1.2.2)) (some false)) (some false)):Ht Bool).bind fun j4=>cond j4 ((u19 x.2.1).bind fun y5=>(u19 y5.2).bind fun y6=>(u72 y6.2).bind fun y7=>(u28 y7.2).bind fun y8=>cond (Nat.ble (x.2.2.1.1.length+([(y5.1,y6.1,y7.1,y8.1)]:Hu u0h.den).length) z7w) (g (x.1,y8.2,(x.2.2.1.1++([(y5.1,y6.1,y7.1,y8.1)]:Hu u0h.den),x.2.2.1.2),x.2.2.2.1,IntKind.i64.wrap (x.2.2.2.2+1))) none) (some (.inl (x.1,x.2.1,x.2.2.1)))
def u9z:=lpW _ _ t5x
theorem r2c x:u9z x=t5x u9z x:=zW r09 38 Tryz.f38 6 79 x (by kernel_rfl)
def r7t (x:o3z):Ht Z95:=(u28 (x.1,x.2,false)).bind fun y1=>(u28 y1.2).bind fun y2=>(u28 y2.2).bind fun y3=>(u9z ((([]:Hu u0h.den),([]:Hu u0a.den),([]:Hu u0a.den),0,0),y3.2,(([]:Hu u0h.den),([]:Hu u0a.den),([]:Hu u0a.den),y1.1,y2.1),y3.1,0)).bind fun r9=>match r9 with | .inl o10=>((t4e (o10.2.1,12)).bind fun y11=>(t4e (y11.2,3)).bind fun y12=>((cond y12.2.2.2 (some true) ((u87 (o10.2.2.1,y11.1,y12.1,o10.2.2.2.2.2)).bind fun y13=>some (!y13))):Ht Bool).bind fun j14=>cond j14 (some ((([]:Hu u0h.den),([]:Hu u0a.den),([]:Hu u0a.den),0,0),0,false)) (some ((o10.2.2.1,y11.1,y12.1,o10.2.2.2.2.2),y12.2.2.1,true))) | .inr z15=>none
theorem p3c:s6t=r7t:=zC 38 rfl Tryz.func38 (by kernel_rfl)
def s1j(x:t1m):Ht Bool:=zK 122 x
def r77 (x:t1m):Ht Bool:=((cond (decide (x.1=0)) (cond (decide (x.2.1=0)) (cond (decide (x.2.2.1=0)) (cond (decide (x.2.2.2.1=0)) (cond (decide ((x.2.2.2.2.1.length:Int)=(0:Int))) (cond (decide ((x.2.2.2.2.2.1.length:Int)=(0:Int))) (cond (!x.2.2.2.2.2.2.1) (some (z7o x.2.2.2.2.2.2.2 (⟨#[]⟩:Hs))) (some false)) (some false)) (some false)) (some false)) (some false)) (some false)) (some false)):Ht Bool).bind fun j1=>some j1
theorem p3p:s1j=r77:=zC 122 rfl Tryz.func122 (by kernel_rfl)
def s4g(x:u74):Ht Bool:=zK 124 x
def r4f (x:u74):Ht Bool:=((cond (decide (x.2.2.2.1=0)) (cond (decide (x.2.2.2.2=0)) (cond (decide ((x.1.length:Int)=(0:Int))) (cond (decide ((x.2.1.length:Int)=(0:Int))) (some (decide ((x.2.2.1.length:Int)=(0:Int)))) (some false)) (some false)) (some false)) (some false)):Ht Bool).bind fun j1=>some j1
theorem p0z:s4g=r4f:=zC 124 rfl Tryz.func124 (by kernel_rfl)
def s1d(x:Z30):Ht Bool:=zK 39 x
def r7u (x:Z30):Ht Bool:=(u0t (x.1,1,4)).bind fun y1=>cond (!y1) (some false) (((cond (decide (x.1=1)) (some true) (some (decide (x.1=2)))):Ht Bool).bind fun j2=>((cond j2 ((u7x x.2.1).bind fun y3=>cond (!y3) (some true) (cond (!j2) ((s1j x.2.1).bind fun y4=>cond (!y4) (some true) (cond (decide (x.1=1)) (cond (!decide (x.2.1.2.1=3)) (some true) (cond (decide (x.1=2)) (some (!decide (x.2.1.2.1=2))) (some false))) (cond (decide (x.1=2)) (some (!decide (x.2.1.2.1=2))) (some false)))) (cond (decide (x.1=1)) (cond (!decide (x.2.1.2.1=3)) (some true) (cond (decide (x.1=2)) (some (!decide (x.2.1.2.1=2))) (some false))) (cond (decide (x.1=2)) (some (!decide (x.2.1.2.1=2))) (some false))))) (cond (!j2) ((s1j x.2.1).bind fun y5=>cond (!y5) (some true) (cond (decide (x.1=1)) (cond (!decide (x.2.1.2.1=3)) (some true) (cond (decide (x.1=2)) (some (!decide (x.2.1.2.1=2))) (some false))) (cond (decide (x.1=2)) (some (!decide (x.2.1.2.1=2))) (some false)))) (cond (decide (x.1=1)) (cond (!decide (x.2.1.2.1=3)) (some true) (cond (decide (x.1=2)) (some (!decide (x.2.1.2.1=2))) (some false))) (cond (decide (x.1=2)) (some (!decide (x.2.1.2.1=2))) (some false))))):Ht Bool).bind fun j6=>cond j6 (some false) (((cond (decide (x.1=3)) ((u7v x.2.2.1).bind fun y7=>cond (!y7) (some true) (cond (!decide (x.1=3)) (cond (!z7o x.2.2.1 (⟨#[]⟩:Hs)) (some true) (some x.2.2.2.1)) (some false))) (cond (!decide (x.1=3)) (cond (!z7o x.2.2.1 (⟨#[]⟩:Hs)) (some true) (some x.2.2.2.1)) (some false))):Ht Bool).bind fun j8=>cond j8 (some false) (cond (decide (x.1=4)) ((u87 x.2.2.2.2).bind fun y9=>some y9) ((s4g x.2.2.2.2).bind fun y10=>some y10))))
theorem p3d:s1d=r7u:=zC 39 rfl Tryz.func39 (by kernel_rfl)
def s3a(x:Int):Ht Hs:=zK 224 x
def q10 (x:Int):Ht Hs:=some (y7g ([IntKind.u8.wrap (Int.fdiv x (2^(min (24:Int).toNat IntKind.u32.bits))),IntKind.u8.wrap (Int.fdiv x (2^(min (16:Int).toNat IntKind.u32.bits))),IntKind.u8.wrap (Int.fdiv x (2^(min (8:Int).toNat IntKind.u32.bits))),IntKind.u8.wrap x]:Hu Int))
theorem q2l:s3a=q10:=zC 224 rfl Tryz.func224 (by kernel_rfl)
def s9q(x:j7f):Ht Int:=zK 318 x
def r3j(g:j7a→Ht (j3a⊕Unit))(x:j7a):Ht (j3a⊕Unit):=cond (decide (x.2.2.2<8)) (cond (decide ((Int.tmod x.1 (2:Int))=1)) (g (IntKind.u32.wrap ((BitVec.ofInt IntKind.u32.bits (IntKind.u32.wrap (Int.tdiv x.1 (2:Int)))^^^BitVec.ofInt IntKind.u32.bits (3558460437:Int)).toNat:Int),x.2.1,x.2.2.1,IntKind.i64.wrap (x.2.2.2+1))) (g (IntKind.u32.wrap (Int.tdiv x.1 (2:Int)),x.2.1,x.2.2.1,IntKind.i64.wrap (x.2.2.2+1)))) (some (.inl (x.1,x.2.1,x.2.2.1)))
def t8y:=lpW _ _ r3j
theorem p07 x:t8y x=r3j t8y x:=zW r5b 318 Tryz.f318 6 33 x (by kernel_rfl)
def t8h(g:j3a→Ht o6u)(x:j3a):Ht o6u:=cond (decide (x.2.2<(x.2.1.size:Int))) (cond (y4q x.2.2 x.2.1.size) ((t8y (IntKind.u32.wrap ((BitVec.ofInt IntKind.u32.bits x.1^^^BitVec.ofInt IntKind.u32.bits (IntKind.u32.wrap ((x.2.1.data.toList.getD x.2.2.toNat 0).toNat:Int))).toNat:Int),x.2.1,x.2.2,0)).bind fun r1=>match r1 with | .inl o2=>g (o2.1,o2.2.1,IntKind.i64.wrap (o2.2.2+1)) | .inr z3=>some (.inr ())) none) (some (.inl x.1))
def t8x:=lpW _ _ t8h
theorem r6b x:t8x x=t8h t8x x:=zW r5a 318 Tryz.f318 2 33 x (by kernel_rfl)
def q1q (x:j7f):Ht Int:=(t8x (x.1,x.2,0)).bind fun r4=>match r4 with | .inl o5=>some o5 | .inr z6=>none
theorem p55:s9q=q1q:=zC 318 rfl Tryz.func318 (by kernel_rfl)
def s8o(x:Hs):Ht Int:=zK 225 x
def r7x (x:Hs):Ht Int:=(s9q (4294967295,x)).bind fun y1=>some y1
theorem q9b:s8o=r7x:=zC 225 rfl Tryz.func225 (by kernel_rfl)
def s1e(x:Hs):Ht s7c:=zK 109 x
def q5c (x:Hs):Ht s7c:=cond (decide ((x.size:Int)>(20000:Int))) (some ((⟨#[]⟩:Hs),false)) ((s8o x).bind fun y1=>(s3a y1).bind fun y2=>cond (decide (x.size+y2.size≤140737488355328)) (some (x++y2,true)) none)
theorem p9x:s1e=q5c:=zC 109 rfl Tryz.func109 (by kernel_rfl)
def u3o(x:Hs):Ht Hs:=zK 221 x
def r76 (x:Hs):Ht Hs:=(u16 (x.size:Int)).bind fun y1=>cond (decide (y1.size+x.size≤140737488355328)) (some (y1++x)) none
theorem p3o:u3o=r76:=zC 221 rfl Tryz.func221 (by kernel_rfl)
def t6t(x:Bool):Ht Hs:=zK 222 x
def q5j (x:Bool):Ht Hs:=cond x (some (⟨#[1]⟩:Hs)) (some (⟨#[0]⟩:Hs))
theorem p94:t6t=q5j:=zC 222 rfl Tryz.func222 (by kernel_rfl)
def s29(x:t1m):Ht s7c:=zK 223 x
def t8l(g:j6k→Ht (j0x⊕Unit))(x:j6k):Ht (j0x⊕Unit):=cond (decide (x.2.2<(x.1.2.2.2.2.1.length:Int))) (cond (y4q x.2.2 x.1.2.2.2.2.1.length) ((u3o (rdL p4x x.1.2.2.2.2.1 x.2.2.toNat).1).bind fun y7=>cond (decide (x.2.1.size+y7.size≤140737488355328)) (cond (y4q x.2.2 x.1.2.2.2.2.1.length) ((u3o (rdL p4x x.1.2.2.2.2.1 x.2.2.toNat).2).bind fun y8=>cond (decide ((x.2.1++y7).size+y8.size≤140737488355328)) (g (x.1,(x.2.1++y7)++y8,IntKind.i64.wrap (x.2.2+1))) none) none) none) none) (some (.inl (x.1,x.2.1)))
def t2o:=lpW _ _ t8l
theorem r6f x:t2o x=t8l t2o x:=zW r5f 223 Tryz.f223 5 101 x (by kernel_rfl)
def t55(g:j6k→Ht (j0x⊕Unit))(x:j6k):Ht (j0x⊕Unit):=cond (decide (x.2.2<(x.1.2.2.2.2.2.1.length:Int))) (cond (y4q x.2.2 x.1.2.2.2.2.2.1.length) ((u3o (rdL u2l x.1.2.2.2.2.2.1 x.2.2.toNat).1).bind fun y12=>cond (decide (x.2.1.size+y12.size≤140737488355328)) (cond (y4q x.2.2 x.1.2.2.2.2.2.1.length) ((u3o (rdL u2l x.1.2.2.2.2.2.1 x.2.2.toNat).2.1).bind fun y13=>cond (decide ((x.2.1++y12).size+y13.size≤140737488355328)) (cond (y4q x.2.2 x.1.2.2.2.2.2.1.length) ((t6t (rdL u2l x.1.2.2.2.2.2.1 x.2.2.toNat).2.2).bind fun y14=>cond (decide (((x.2.1++y12)++y13).size+y14.size≤140737488355328)) (g (x.1,((x.2.1++y12)++y13)++y14,IntKind.i64.wrap (x.2.2+1))) none) none) none) none) none) none) (some (.inl (x.1,x.2.1)))
def u92:=lpW _ _ t55
theorem r2h x:u92 x=t55 u92 x:=zW r1e 223 Tryz.f223 10 101 x (by kernel_rfl)
def q1u (x:t1m):Ht s7c:=(u7x x).bind fun y1=>cond (!y1) (some ((⟨#[]⟩:Hs),false)) ((u16 x.1).bind fun y2=>(u16 x.2.1).bind fun y3=>cond (decide (y2.size+y3.size≤140737488355328)) ((u16 x.2.2.1).bind fun y4=>cond (decide ((y2++y3).size+y4.size≤140737488355328)) ((u16 x.2.2.2.1).bind fun y5=>cond (decide (((y2++y3)++y4).size+y5.size≤140737488355328)) ((u16 (x.2.2.2.2.1.length:Int)).bind fun y6=>cond (decide ((((y2++y3)++y4)++y5).size+y6.size≤140737488355328)) ((t2o (x,(((y2++y3)++y4)++y5)++y6,0)).bind fun r9=>match r9 with | .inl o10=>((u16 (o10.1.2.2.2.2.2.1.length:Int)).bind fun y11=>cond (decide (o10.2.size+y11.size≤140737488355328)) ((u92 (o10.1,o10.2++y11,0)).bind fun r15=>match r15 with | .inl o16=>((t6t o16.1.2.2.2.2.2.2.1).bind fun y17=>cond (decide (o16.2.size+y17.size≤140737488355328)) ((u3o o16.1.2.2.2.2.2.2.2).bind fun y18=>cond (decide ((o16.2++y17).size+y18.size≤140737488355328)) (some ((o16.2++y17)++y18,true)) none) none) | .inr z19=>none) none) | .inr z20=>none) none) none) none) none)
theorem p59:s29=q1u:=zC 223 rfl Tryz.func223 (by kernel_rfl)
def s3b(x:q3e):Ht Hs:=zK 233 x
def t8p(g:d0e→Ht j7d)(x:d0e):Ht j7d:=cond (decide (x.2.2<(x.1.length:Int))) (cond (y4q x.2.2 x.1.length) ((s29 (rdL u0a x.1 x.2.2.toNat)).bind fun y2=>cond (decide (x.2.1.size+y2.1.size≤140737488355328)) (g (x.1,x.2.1++y2.1,IntKind.i64.wrap (x.2.2+1))) none) none) (some (.inl x.2.1))
def t2s:=lpW _ _ t8p
theorem r6k x:t2s x=t8p t2s x:=zW r5l 233 Tryz.f233 3 28 x (by kernel_rfl)
def q2b (x:q3e):Ht Hs:=(u16 (x.length:Int)).bind fun y1=>(t2s (x,y1,0)).bind fun r3=>match r3 with | .inl o4=>some o4 | .inr z5=>none
theorem p6p:s3b=q2b:=zC 233 rfl Tryz.func233 (by kernel_rfl)
def s6o(x:u74):Ht s7c:=zK 117 x
def t5s(g:Z89→Ht (j0h⊕Unit))(x:Z89):Ht (j0h⊕Unit):=cond (decide (x.2.2<(x.1.1.length:Int))) (cond (y4q x.2.2 x.1.1.length) ((u3o (rdL u0h x.1.1 x.2.2.toNat).1).bind fun y5=>cond (decide (x.2.1.size+y5.size≤140737488355328)) ((u3o (rdL u0h x.1.1 x.2.2.toNat).2.1).bind fun y6=>cond (decide ((x.2.1++y5).size+y6.size≤140737488355328)) ((t6t (rdL u0h x.1.1 x.2.2.toNat).2.2.1).bind fun y7=>cond (decide (((x.2.1++y5)++y6).size+y7.size≤140737488355328)) ((u16 (rdL u0h x.1.1 x.2.2.toNat).2.2.2).bind fun y8=>cond (decide ((((x.2.1++y5)++y6)++y7).size+y8.size≤140737488355328)) (g (x.1,(((x.2.1++y5)++y6)++y7)++y8,IntKind.i64.wrap (x.2.2+1))) none) none) none) none) none) (some (.inl (x.1,x.2.1)))
def u9y:=lpW _ _ t5s
theorem r1z x:u9y x=t5s u9y x:=zW r04 117 Tryz.f117 5 60 x (by kernel_rfl)
def r7m (x:u74):Ht s7c:=(u87 x).bind fun y1=>cond (!y1) (some ((⟨#[]⟩:Hs),false)) ((u16 x.2.2.2.1).bind fun y2=>(u16 x.2.2.2.2).bind fun y3=>cond (decide (y2.size+y3.size≤140737488355328)) ((u16 (x.1.length:Int)).bind fun y4=>cond (decide ((y2++y3).size+y4.size≤140737488355328)) ((u9y (x,(y2++y3)++y4,0)).bind fun r9=>match r9 with | .inl o10=>((s3b o10.1.2.1).bind fun y11=>cond (decide (o10.2.size+y11.size≤140737488355328)) ((s3b o10.1.2.2.1).bind fun y12=>cond (decide ((o10.2++y11).size+y12.size≤140737488355328)) (some ((o10.2++y11)++y12,true)) none) none) | .inr z13=>none) none) none)
theorem p25:s6o=r7m:=zC 117 rfl Tryz.func117 (by kernel_rfl)
def u37(x:Z30):Ht s7c:=zK 107 x
def r0h (x:Z30):Ht s7c:=(s1d x).bind fun y1=>cond (!y1) (some ((⟨#[]⟩:Hs),false)) (cond (decide (x.1=3)) ((u3o x.2.2.1).bind fun y2=>cond (decide ((y7g ([(IntKind.u8.wrap x.1)]:Hu Int)).size+y2.size≤140737488355328)) ((t6t x.2.2.2.1).bind fun y3=>cond (decide (((y7g ([(IntKind.u8.wrap x.1)]:Hu Int))++y2).size+y3.size≤140737488355328)) ((s1e (((y7g ([(IntKind.u8.wrap x.1)]:Hu Int))++y2)++y3)).bind fun y4=>some y4) none) none) (cond (decide (x.1=4)) ((s6o x.2.2.2.2).bind fun y5=>cond (decide ((y7g ([(IntKind.u8.wrap x.1)]:Hu Int)).size+y5.1.size≤140737488355328)) ((s1e ((y7g ([(IntKind.u8.wrap x.1)]:Hu Int))++y5.1)).bind fun y6=>some y6) none) ((s29 x.2.1).bind fun y7=>cond (decide ((y7g ([(IntKind.u8.wrap x.1)]:Hu Int)).size+y7.1.size≤140737488355328)) ((s1e ((y7g ([(IntKind.u8.wrap x.1)]:Hu Int))++y7.1)).bind fun y8=>some y8) none)))
theorem q7n:u37=r0h:=zC 107 rfl Tryz.func107 (by kernel_rfl)
def s6v(x:Hs):Ht s7c:=zK 108 x
def r7y (x:Hs):Ht s7c:=((cond (decide ((IntKind.i64.wrap ((x.size:Int) - (4:Int)))<0)) (some true) (cond (decide ((IntKind.i64.wrap ((x.size:Int) - (4:Int)))>20000)) (some true) (cond (decide (0≤(IntKind.i64.wrap ((x.size:Int) - (4:Int))))&&decide ((IntKind.i64.wrap ((x.size:Int) - (4:Int)))≤(x.size:Int))&&decide ((x.size:Int)≤(x.size:Int))) (cond (decide (0≤(0:Int))&&decide ((0:Int)≤(IntKind.i64.wrap ((x.size:Int) - (4:Int))))&&decide ((IntKind.i64.wrap ((x.size:Int) - (4:Int)))≤(x.size:Int))) ((s8o (x.extract (0:Int).toNat (IntKind.i64.wrap ((x.size:Int) - (4:Int))).toNat)).bind fun y1=>(s3a y1).bind fun y2=>some (!z7o (x.extract (IntKind.i64.wrap ((x.size:Int) - (4:Int))).toNat (x.size:Int).toNat) y2)) none) none))):Ht Bool).bind fun j3=>cond j3 (some ((⟨#[]⟩:Hs),false)) (cond (decide (0≤(0:Int))&&decide ((0:Int)≤(IntKind.i64.wrap ((x.size:Int) - (4:Int))))&&decide ((IntKind.i64.wrap ((x.size:Int) - (4:Int)))≤(x.size:Int))) (some (x.extract (0:Int).toNat (IntKind.i64.wrap ((x.size:Int) - (4:Int))).toNat,true)) none)
theorem p3g:s6v=r7y:=zC 108 rfl Tryz.func108 (by kernel_rfl)
def s12(x:Hs):Ht Z28:=zK 33 x
def r0f (x:Hs):Ht Z28:=(s6v x).bind fun y1=>((cond (!y1.2) (some true) (some (z7o y1.1 (⟨#[]⟩:Hs)))):Ht Bool).bind fun j2=>cond j2 (some ((0,(0,0,0,0,([]:Hu p4x.den),([]:Hu u2l.den),false,(⟨#[]⟩:Hs)),(⟨#[]⟩:Hs),false,([]:Hu u0h.den),([]:Hu u0a.den),([]:Hu u0a.den),0,0),false)) (cond (y4q (0:Int) y1.1.size) (cond (decide ((IntKind.i64.wrap ((y1.1.data.toList.getD (0:Int).toNat 0).toNat:Int))=3)) ((u19 (y1.1,1,false)).bind fun y3=>(u72 y3.2).bind fun y4=>(u37 (IntKind.i64.wrap ((y1.1.data.toList.getD (0:Int).toNat 0).toNat:Int),(0,0,0,0,([]:Hu p4x.den),([]:Hu u2l.den),false,(⟨#[]⟩:Hs)),y3.1,y4.1,([]:Hu u0h.den),([]:Hu u0a.den),([]:Hu u0a.den),0,0)).bind fun y5=>((cond (!y5.2) (some true) (some (!z7o y5.1 x))):Ht Bool).bind fun j6=>cond j6 (some ((0,(0,0,0,0,([]:Hu p4x.den),([]:Hu u2l.den),false,(⟨#[]⟩:Hs)),(⟨#[]⟩:Hs),false,([]:Hu u0h.den),([]:Hu u0a.den),([]:Hu u0a.den),0,0),false)) (some ((IntKind.i64.wrap ((y1.1.data.toList.getD (0:Int).toNat 0).toNat:Int),(0,0,0,0,([]:Hu p4x.den),([]:Hu u2l.den),false,(⟨#[]⟩:Hs)),y3.1,y4.1,([]:Hu u0h.den),([]:Hu u0a.den),([]:Hu u0a.den),0,0),true))) (cond (decide ((IntKind.i64.wrap ((y1.1.data.toList.getD (0:Int).toNat 0).toNat:Int))=4)) ((s6t (y1.1,1)).bind fun y7=>(u37 (IntKind.i64.wrap ((y1.1.data.toList.getD (0:Int).toNat 0).toNat:Int),(0,0,0,0,([]:Hu p4x.den),([]:Hu u2l.den),false,(⟨#[]⟩:Hs)),(⟨#[]⟩:Hs),false,y7.1)).bind fun y8=>((cond (!y8.2) (some true) (some (!z7o y8.1 x))):Ht Bool).bind fun j9=>cond j9 (some ((0,(0,0,0,0,([]:Hu p4x.den),([]:Hu u2l.den),false,(⟨#[]⟩:Hs)),(⟨#[]⟩:Hs),false,([]:Hu u0h.den),([]:Hu u0a.den),([]:Hu u0a.den),0,0),false)) (some ((IntKind.i64.wrap ((y1.1.data.toList.getD (0:Int).toNat 0).toNat:Int),(0,0,0,0,([]:Hu p4x.den),([]:Hu u2l.den),false,(⟨#[]⟩:Hs)),(⟨#[]⟩:Hs),false,y7.1),true))) ((s27 (y1.1,1)).bind fun y10=>(u37 (IntKind.i64.wrap ((y1.1.data.toList.getD (0:Int).toNat 0).toNat:Int),y10.1,(⟨#[]⟩:Hs),false,([]:Hu u0h.den),([]:Hu u0a.den),([]:Hu u0a.den),0,0)).bind fun y11=>((cond (!y11.2) (some true) (some (!z7o y11.1 x))):Ht Bool).bind fun j12=>cond j12 (some ((0,(0,0,0,0,([]:Hu p4x.den),([]:Hu u2l.den),false,(⟨#[]⟩:Hs)),(⟨#[]⟩:Hs),false,([]:Hu u0h.den),([]:Hu u0a.den),([]:Hu u0a.den),0,0),false)) (some ((IntKind.i64.wrap ((y1.1.data.toList.getD (0:Int).toNat 0).toNat:Int),y10.1,(⟨#[]⟩:Hs),false,([]:Hu u0h.den),([]:Hu u0a.den),([]:Hu u0a.den),0,0),true))))) none)
theorem q7l:s12=r0f:=zC 33 rfl Tryz.func33 (by kernel_rfl)
def u71(x:p16):Ht s7c:=zK 355 x
def t1c(g:d0o→Ht (d0v⊕s7c))(x:d0o):Ht (d0v⊕s7c):=cond (decide (x.2.2≥0)) (cond (y4q x.2.2 x.2.1.2.length) (cond (decide ((rdL p7e x.2.1.2 x.2.2.toNat).1=x.1)) (cond (y4q x.2.2 x.2.1.2.length) (some (.inr ((rdL p7e x.2.1.2 x.2.2.toNat).2,true))) none) (g (x.1,x.2.1,IntKind.i64.wrap (x.2.2 - 1)))) none) (some (.inl (x.1,x.2.1)))
def t1j:=lpW _ _ t1c
theorem s67 x:t1j x=t1c t1j x:=zW s58 355 Tryz.f355 4 41 x (by kernel_rfl)
def r0g (x:p16):Ht s7c:=(u0t (x.2,0,IntKind.i64.wrap ((x.1.1.length:Int) - (1:Int)))).bind fun y1=>cond (!y1) (some ((⟨#[]⟩:Hs),false)) ((t1j (x.2,x.1,IntKind.i64.wrap ((x.1.2.length:Int) - (1:Int)))).bind fun r2=>match r2 with | .inl o3=>cond (y4q o3.1 o3.2.1.length) (some (rdL Ty.str o3.2.1 o3.1.toNat,true)) none | .inr z4=>some z4)
theorem q7m:u71=r0g:=zC 355 rfl Tryz.func355 (by kernel_rfl)
end
end Go.Proofs.YtkdpclfhapphhaaGreat.Ab
