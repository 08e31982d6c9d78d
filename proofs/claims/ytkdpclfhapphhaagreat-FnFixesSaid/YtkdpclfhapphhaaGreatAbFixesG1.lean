import Derived.Test.YtkdpclfhapphhaaGreatAbK2
import Derived.Test.YtkdpclfhapphhaaGreatAbF4
import Derived.Test.YtkdpclfhapphhaaGreatAbS1
import Derived.KernelRfl
import Derived.Test.YtkdpclfhapphhaaGreatProg
namespace Go.Proofs.YtkdpclfhapphhaaGreat.Ab
open Go
set_option linter.unusedVariables false
noncomputable section
abbrev d0n:Ty:=(.pair .bool (.int .i64))
abbrev j31:Ty:=(.pair .str d0n)
abbrev u0d:Ty:=(.pair .str j31)
abbrev q7m:Ty:=(.pair .str .str)
abbrev d0q:Ty:=(.pair .str .bool)
abbrev u2f:Ty:=(.pair .str d0q)
abbrev d0o:Ty:=(.pair .bool .str)
abbrev o28:Ty:=(.pair (.sl u2f) d0o)
abbrev q8t:Ty:=(.pair (.sl q7m) o28)
abbrev q21:Ty:=(.pair (.int .i64) q8t)
abbrev r83:Ty:=(.pair (.int .i64) q21)
abbrev r5j:Ty:=(.pair (.int .i64) r83)
abbrev u0a:Ty:=(.pair (.int .i64) r5j)
abbrev q98:Ty:=(.pair (.int .i64) .str)
abbrev j73:Ty:=(.pair (.int .i64) (.int .i64))
abbrev s10:Ty:=(.pair (.sl u0a) j73)
abbrev o66:Ty:=(.pair (.sl u0a) s10)
abbrev p0k:Ty:=(.pair (.sl u0d) o66)
abbrev p9z:Ty:=(.pair p0k (.sl u0a))
abbrev o4h:Ty:=(.pair (.sl .str) (.sl q98))
abbrev o64:Ty:=(.pair p9z o4h)
abbrev o62:Ty:=(.pair .bool p0k)
abbrev o67:Ty:=(.pair .str o62)
abbrev o65:Ty:=(.pair u0a o67)
abbrev o63:Ty:=(.pair (.int .i64) o65)
abbrev d0p:Ty:=(.pair (.int .i64) .bool)
abbrev j0v:Ty:=(.pair .str d0p)
abbrev j1r:Ty:=(.pair (.sl (.int .u8)) j73)
abbrev u99:=((Hu Hs)×(Hu q98.den))
abbrev j94:=((Hu Hs)×(Hu Hs))
abbrev j5y:=((Hu q7m.den)×(Hu u2f.den))
abbrev j5x:=((Hs×Hs)×Hs)
abbrev j5w:=((Hu u2f.den)×(Hu u2f.den))
abbrev j5v:=(Hs×(Hs×(Int×Bool)))
abbrev j3h:=(Hs×((Hu Int)×(Int×Int)))
abbrev j93:=(((Hu Int)×(Int×Int))×(Hu Int))
abbrev j92:=(Hs×(Int×(Int×(Int×Int))))
abbrev j00:=((Hu u0d.den)×(Hs×Int))
abbrev j91:=((Hu Int)×((Hu Int)×(Int×Int)))
abbrev j0z:=(Hu (Hu u0a.den))
abbrev o9j:=((Hu u0a.den)×Int)
abbrev j5u:=((Hu u0d.den)×(Hu u0d.den))
abbrev j90:=(Int×u99)
abbrev p3o:=(u99×Int)
abbrev r0w:=(u99×Bool)
abbrev j9z:=((Hu Hs)×((Hu Hs)×Int))
abbrev j5t:=((Hu q7m.den)×((Hu u2f.den)×Int))
abbrev j9y:=((Hu q7m.den)×((Hu Int)×(Int×Int)))
abbrev j9x:=(((Hu Int)×(Int×Int))×(Hu q7m.den))
abbrev j7b:=((Hu u0d.den)×(Hs×Hs))
abbrev j9w:=(((Hu Int)×(Int×Int))×(Hu Hs))
abbrev j9v:=((Hu Int)×((Hu Hs)×(Int×Int)))
abbrev j3g:=((Hu u2f.den)×((Hu u2f.den)×Int))
abbrev j9u:=(((Hu Int)×(Int×Int))×(Hu u2f.den))
abbrev j9t:=((Hu u2f.den)×((Hu Int)×(Int×Int)))
abbrev j5s:=((Hu u0d.den)×((Hu u2f.den)×Int))
abbrev j3f:=((Hu u0a.den)×Hs)
abbrev j9s:=(u99×Hs)
abbrev j5r:=((Hu u0d.den)×((Hu Int)×(Int×Int)))
abbrev j9r:=(((Hu Int)×(Int×Int))×(Hu u0d.den))
abbrev j9q:=(j0z×Int)
abbrev j9p:=((Hu u0d.den)×(Int×(Hu u0d.den)))
abbrev j4b:=((Hu u0d.den)×((Hu u0d.den)×Int))
abbrev j5q:=(Int×j5u)
abbrev j9o:=((Hu q7m.den)×((Hu q7m.den)×(Int×Int)))
abbrev j1u:=((Hu u0a.den)×(Int×Int))
abbrev j9n:=(Int×p3o)
abbrev j0y:=(u99×(Int×Int))
abbrev j5p:=((Hu u2f.den)×((Hu q7m.den)×(Int×Int)))
abbrev j9m:=((Hu q7m.den)×((Hu u2f.den)×(Int×Int)))
abbrev j9l:=(Int×(Hs×((Hu q98.den)×(Int×Int))))
abbrev j9k:=((Hu u2f.den)×(Hs×(Hs×Bool)))
abbrev j9j:=((Hs×Hs)×((Hu Int)×(Int×Int)))
abbrev j9i:=(((Hu Int)×(Int×Int))×((Hu q7m.den)×Int))
abbrev j9h:=((Hu u0d.den)×((Hs×Hs)×Int))
abbrev j5o:=((Hu u2f.den)×((Hu u2f.den)×(Int×Int)))
abbrev j9g:=((Hu Hs)×((Hu u0d.den)×(Int×Int)))
abbrev j9f:=(((Hu Int)×(Int×Int))×((Hu u2f.den)×Int))
abbrev j9e:=((Hu u2f.den)×(Int×((Hu u0d.den)×Int)))
abbrev j9d:=(((Hu Int)×(Int×Int))×(Int×((Hu Int)×Int)))
abbrev j9c:=(Hs×(Int×((Hu u0d.den)×(Int×Int))))
abbrev j9b:=((Hu u0a.den)×(Hs×Int))
abbrev j0x:=(u99×(Hu Hs))
abbrev j9a:=((Hu u0d.den)×(Hs×(Int×(Int×Int))))
abbrev o4l:=(u99×(Int×Hs))
abbrev j89:=(((Hu Int)×(Int×Int))×((Hu u0d.den)×Int))
abbrev j5n:=((Hu u0d.den)×((Hu u0d.den)×(Int×Int)))
abbrev j88:=(Int×j4b)
abbrev j5m:=((Hu u0a.den)×(Int×(Int×Int)))
abbrev j87:=((Hu u0d.den)×(Int×((Hu u0d.den)×Int)))
abbrev j4a:=(Int×j1u)
abbrev j5l:=((Hs×(Hs×Bool))×((Hu Int)×(Int×Int)))
abbrev j86:=((Hu u0d.den)×(Hs×(Hs×(Bool×Int))))
abbrev j3e:=((Hu u0a.den)×(Hs×(Int×Int)))
abbrev j85:=(Int×((Hu u0d.den)×((Hu u2f.den)×(Int×Int))))
abbrev j5k:=((Hs×(Int×Bool))×(Hu u0a.den))
abbrev j84:=((Hu u0d.den)×((Hu (Hu u0d.den))×(Int×Int)))
abbrev j83:=((Hu u0a.den)×(Hs×(Int×Bool)))
abbrev j5j:=(u99×(Int×(Int×Hs)))
abbrev j7a:=(Int×j5n)
abbrev j5i:=(u99×((Hu Int)×(Int×Int)))
abbrev j69:=(u99×((Hu q98.den)×(Int×Int)))
abbrev j68:=(u99×((Hu Hs)×(Int×Int)))
abbrev j5h:=((Hu Int)×(j0z×(Int×Int)))
abbrev j82:=(Int×(Int×(u99×(Hs×Int))))
abbrev j67:=((Hu u0a.den)×(Hu u0a.den))
abbrev j81:=(Int×((Hu u0d.den)×((Hu u0d.den)×(Int×(Int×Int)))))
abbrev j80:=(Int×(Int×(u99×((Hu Int)×Int))))
abbrev j8z:=((Hu u0d.den)×((Hs×Hs)×((Hu Hs)×Int)))
abbrev j8y:=((Hu u0d.den)×((Hs×Hs)×(Int×(Hu Hs))))
abbrev j8x:=((Hu u2f.den)×((Hs×(Hs×Bool))×(Hu u2f.den)))
abbrev j3d:=(u99×u99)
abbrev j8w:=((Hu u0d.den)×((Hs×(Hs×(Bool×Int)))×(Int×Int)))
abbrev j8v:=((Hu (Hu u0d.den))×(Int×((Hu (Hu u0d.den))×(Int×Int))))
abbrev j5g:=((Hu u0a.den)×o9j)
abbrev j5f:=((Hu u2f.den)×((Hs×(Hs×Bool))×((Hu u2f.den)×Int)))
abbrev j8u:=((Hu u0a.den)×((Hu u0a.den)×Unit))
abbrev j39:=(u99×p3o)
abbrev j5e:=((Hs×(Hs×(Bool×Int)))×(Hs×(Hs×(Bool×Int))))
abbrev j8t:=(u99×r0w)
abbrev j8s:=((Hu u0d.den)×(Hs×(Int×(Int×((Hu u0d.den)×(Int×Int))))))
abbrev j8r:=((Hs×(Int×Bool))×j4a)
abbrev j66:=((Hu u0a.den)×j1u)
abbrev j8q:=(Int×((Hu u0d.den)×j5n))
abbrev j8p:=((Hu u0d.den)×j7a)
abbrev j8o:=(Int×(j5u×((Hu u0d.den)×(Int×Int))))
abbrev u9x:=(Int×(Int×(Int×(Int×((Hu q7m.den)×((Hu u2f.den)×(Bool×Hs)))))))
abbrev j8n:=(Int×j39)
abbrev j8m:=(Int×(u99×(Hs×((Hu Hs)×(Int×Int)))))
abbrev j8l:=((Hu u0a.den)×(j0z×(Int×Int)))
abbrev j8k:=((Hu u0a.den)×j4a)
abbrev j8j:=((Hu u0a.den)×(Unit×j1u))
abbrev o7k:=(u9x×Int)
abbrev j3c:=(u9x×Bool)
abbrev o9i:=(u9x×Hs)
abbrev j5d:=(u9x×(Hu Int))
abbrev j8i:=(((Hu Int)×(Int×Int))×j3d)
abbrev j8h:=(u9x×(Int×Bool))
abbrev j8g:=((Hu u0d.den)×((Hs×Hs)×((Hu Hs)×(Int×(Hs×(Hu Hs))))))
abbrev j8f:=((Hu u0d.den)×(Int×((Hs×Hs)×((Hu q7m.den)×((Hu Hs)×(Int×Int))))))
abbrev j8e:=(j0z×(Int×(j0z×(Int×Int))))
abbrev j8d:=(u99×j69)
abbrev j5c:=(u9x×(Hs×Int))
abbrev u61:=((Hu u0d.den)×j66)
abbrev j8c:=(Int×(u99×((Hu Hs)×(Hs×((Hu Hs)×(Int×Int))))))
abbrev j8b:=(((Hu Int)×(Int×Int))×j39)
abbrev j5b:=((Hu u0d.den)×((Hs×Hs)×((Hu Hs)×(Int×(Hs×((Hu Hs)×Int))))))
abbrev j8a:=((Hu u2f.den)×((Hs×Hs)×((Hu q7m.den)×(Int×(Int×((Hu u2f.den)×(Int×Int)))))))
abbrev j79:=(u9x×(Hs×Hs))
abbrev j5a:=(u9x×((Hu Int)×(Int×Int)))
abbrev j38:=(u61×Int)
abbrev j3b:=(u9x×(Hs×(Int×Bool)))
abbrev j78:=((Hu Hs)×(u99×(Int×(u99×(Bool×Int)))))
abbrev j37:=((Hs×(Int×Bool))×u9x)
abbrev o4k:=(u61×Bool)
abbrev j65:=(u99×j39)
abbrev j77:=(u9x×((Hu q7m.den)×(Int×Int)))
abbrev j76:=((Hu Int)×(j0z×(Int×j4a)))
abbrev j75:=(u9x×(Hs×(Hs×Bool)))
abbrev o82:=(u61×Hs)
abbrev j74:=((Hu u0d.den)×(Hs×u9x))
abbrev j3a:=(u61×(Hu Int))
abbrev Z99:=(u9x×((Hu u0d.den)×Hs))
abbrev Z98:=((Hs×(Int×Bool))×(u9x×Unit))
abbrev Z97:=((Hu u0a.den)×u9x)
abbrev Z96:=(u9x×(Hu u0a.den))
abbrev Z95:=((Hs×(Int×Bool))×(Unit×u9x))
abbrev Z94:=(u61×(Int×Bool))
abbrev Z93:=((Hu u2f.den)×(Int×((Hu u0d.den)×(Int×((Hs×(Hs×(Bool×Int)))×((Hu u0d.den)×Int))))))
abbrev Z92:=(u61×(Hs×Int))
abbrev Z91:=(Hs×j38)
abbrev Z90:=(u61×((Hu Int)×Int))
abbrev Z89:=((Hu u0d.den)×(Hs×o7k))
abbrev Z88:=((Hu u0a.den)×o7k)
abbrev Z87:=(u9x×((Hu Int)×((Hu q7m.den)×(Int×Int))))
abbrev Z86:=(u9x×j7b)
abbrev Z85:=(u9x×((Hu Int)×((Hu u2f.den)×(Int×Int))))
abbrev Z84:=((Hs×(Int×Bool))×u61)
abbrev Z83:=(u61×((Hu Int)×(Int×Int)))
abbrev Z82:=(u61×(Hs×(Int×Bool)))
abbrev Z81:=((Hu u0a.den)×(u9x×(Int×Int)))
abbrev Z80:=(Int×(Int×(Hs×(u99×j3d))))
abbrev Z79:=((Hs×(Int×Bool))×((u9x×Unit)×(Int×Int)))
abbrev Z78:=((Hs×(Int×Bool))×((Unit×u9x)×(Int×Int)))
abbrev Z77:=((Hu u0a.den)×(u9x×(Bool×Int)))
abbrev Z76:=(u61×((Hu u0d.den)×(Int×Int)))
abbrev Z75:=((Hs×(Int×Bool))×(Unit×u61))
abbrev Z74:=((Hs×(Int×Bool))×(u61×Unit))
abbrev Z73:=(u61×(Hu u0a.den))
abbrev Z72:=(Int×(Int×(Hs×j65)))
abbrev Z71:=(u99×(u99×(Int×j68)))
abbrev Z70:=(Z73×Int)
abbrev Z69:=((Hu u0d.den)×(u9x×((Hu q7m.den)×((Hu Hs)×Int))))
abbrev Z68:=((Hu u0d.den)×(u9x×((Hs×Hs)×(Hu u0d.den))))
abbrev Z67:=(u61×((Hu Int)×((Hu u0d.den)×(Int×Int))))
abbrev Z66:=(u61×j1u)
abbrev Z65:=((Hs×(Int×Bool))×((Unit×u61)×(Int×Int)))
abbrev Z64:=(Int×Z70)
abbrev Z63:=(Z73×(Int×Int))
abbrev Z62:=((Hs×(Int×Bool))×((u61×Unit)×(Int×Int)))
abbrev Z61:=((Hu u0d.den)×(u9x×((Hs×Hs)×((Hu u0d.den)×Int))))
abbrev Z60:=(Z73×(Int×Hs))
abbrev Z59:=(Z73×(Hs×Bool))
abbrev Z58:=(Z73×((Hu q7m.den)×Int))
abbrev Z57:=(Z73×(Hs×(Bool×Int)))
abbrev Z56:=(Z73×((Hu Int)×(Int×Int)))
abbrev Z55:=(((Hu Int)×(Int×Int))×Z73)
abbrev Z54:=(u9x×u9x)
abbrev Z53:=(Z73×(Int×(Hs×Hs)))
abbrev Z52:=(Z73×(Hu u0a.den))
abbrev Z51:=(Z73×u99)
abbrev Z50:=(u9x×o7k)
abbrev Z49:=(Z73×(Int×(Hs×(Hs×Bool))))
abbrev Z48:=(Int×Z51)
abbrev Z47:=(Z51×Int)
abbrev Z46:=(Bool×Z51)
abbrev Z45:=(Z51×Bool)
abbrev Z44:=(Z73×(Int×o9j))
abbrev Z43:=(Z73×j1u)
abbrev Z42:=(u61×u9x)
abbrev Z41:=(Z51×(Int×Hs))
abbrev Z40:=(Z51×(Hs×Bool))
abbrev Z39:=(u9x×j37)
abbrev Z38:=(u61×o9i)
abbrev Z37:=(((Hu Int)×(Int×Int))×Z51)
abbrev Z36:=(Z51×((Hu Int)×(Int×Int)))
abbrev Z35:=(u61×u61)
abbrev Z34:=(u9x×((Hs×(Int×Bool))×(u9x×(Int×Int))))
abbrev Z33:=(Int×(u9x×(Hs×(Bool×u61))))
abbrev Z32:=((Hu u0a.den)×(u9x×(Int×o7k)))
abbrev Z31:=(Z33×Bool)
abbrev Z30:=((Hu u0a.den)×(u9x×(Bool×(Int×o7k))))
abbrev Z29:=(Z73×(Int×u9x))
abbrev Z28:=(u61×(u61×((Hu Hs)×Int)))
abbrev Z27:=(u61×Z84)
abbrev Z26:=(Z73×(Int×o7k))
abbrev Z25:=(u61×(u61×((Hu Hs)×(Int×Int))))
abbrev Z24:=(u61×((Hs×(Int×Bool))×(u61×(Int×Int))))
abbrev Z23:=(u9x×((Hs×Hs)×Z54))
abbrev Z22:=(Z73×Z73)
abbrev Z21:=(u9x×((Hs×Hs)×Z50))
abbrev Z20:=(u9x×Z35)
abbrev Z19:=(((Hu Int)×(Int×Int))×Z22)
abbrev Z18:=(((Hu Int)×(Int×Int))×(Z73×(Int×Z73)))
abbrev Z17:=(u61×(u61×j38))
abbrev Z16:=(u61×Z33)
abbrev Z15:=(u61×(u61×(u61×(Int×Int))))
abbrev Z14:=(Hs×Z17)
abbrev Z13:=(Z51×Z51)
abbrev Z12:=(Z73×(Z33×Int))
abbrev Z11:=(((Hu Int)×(Int×Int))×Z13)
abbrev Z10:=(u9x×(u61×Z42))
abbrev Z9:=(Z51×Z33)
abbrev Z8:=(((Hu Int)×(Int×Int))×(Int×(Z51×Z47)))
abbrev Z7:=(u9x×(u61×(u61×(u9x×(Unit×(Int×Int))))))
abbrev Z6:=(Hs×(u61×(u9x×(u61×j38))))
abbrev Z5:=(u9x×(u61×(u61×(u9x×j67))))
abbrev Z4:=(Hs×(u9x×(u61×(u61×(u9x×((Hu u0a.den)×((Hu u0a.den)×(Unit×(Int×Int)))))))))
abbrev Z3:=(u61×(u9x×(u61×(u61×o7k))))
abbrev Z2:=(Hs×(u61×Z10))
abbrev Z1:=(Hs×Z3)
def d0c:Tabs where
 ty:= [(3,(.int .i64)),(4, .bool),(5,(.int .u8)),(9, .str),(22,(.sl (.int .u8))),(24,(.sl u0d)),(25,(.sl u0a)),(27,p0k),(29,p9z),(30,(.sl .str)),(31,(.sl q98)),(33,o4h),(35,o64),(51,u2f),(58,(.sl (.int .i64))),(67,(.sl q7m)),(68,(.sl u2f)),(70,u0a),(72,o63),(133,u0d),(145,q7m),(147,(.sl q7m)),(149,q7m),(167,j0v),(175,j0v),(182,(.sl (.sl u0a))),(211,j1r),(242,(.int .u32)),(278,q98),(295,(.sl (.sl u0d)))]
 lay:= [(3,1,false),(4,1,false),(5,1,false),(9,1,false),(22,1,false),(24,1,false),(25,1,false),(27,5,true),(29,6,true),(30,1,false),(31,1,false),(33,2,true),(35,8,true),(51,3,true),(67,1,false),(68,1,false),(70,8,true),(72,16,true),(133,4,true),(145,2,true),(149,2,true),(165,1,false),(278,2,true)]
 fld:= [(27, [(0,1,false),(1,1,false),(2,1,false),(3,1,false),(4,1,false)]),(29, [(0,5,true),(5,1,false)]),(33, [(0,1,false),(1,1,false)]),(35, [(0,6,true),(6,2,true)]),(51, [(0,1,false),(1,1,false),(2,1,false)]),(70, [(0,1,false),(1,1,false),(2,1,false),(3,1,false),(4,1,false),(5,1,false),(6,1,false),(7,1,false)]),(72, [(0,1,false),(1,8,true),(9,1,false),(10,1,false),(11,5,true)]),(133, [(0,1,false),(1,1,false),(2,1,false),(3,1,false)]),(145, [(0,1,false),(1,1,false)]),(149, [(0,1,false),(1,1,false)]),(160, [(0,1,false)]),(167, [(0,1,false),(1,1,false),(2,1,false)]),(175, [(0,1,false),(1,1,false),(2,1,false)]),(211, [(0,1,false),(1,1,false),(2,1,false)]),(278, [(0,1,false),(1,1,false)])]
 eqs:= [(51, [.s, .s, .b]),(133, [.s, .s, .b, .i]),(145, [.s, .s]),(149, [.s, .s]),(278, [.i, .s])]
 tz:= [(160,(.sl (.int .u8)))]
abbrev zL (a:Hu Nat) (s:Sh) (n:Nat) (b:Hu Nat) (t:Sh) (c:Hu Nat) (u:Sh):LoopA:=⟨⟨a,s, []⟩,n,⟨b,t, []⟩,⟨c,u, []⟩⟩
def zS (i o:Sh) (n:Nat:=1) (b:Hu Bool:= []):Sig:=⟨i,b,o,n⟩
abbrev j2t:Ty:=.int .u8
abbrev j2u:Ty:=.int .i64
abbrev d00:Ty:=.sl u0a
abbrev d01:Ty:=.sl u0d
abbrev u1p:Sh:=.int .i64
abbrev r5n:Sh:=.tr false u0a
abbrev q7a:Sh:=.own true u0a
abbrev s29:Sh:=.pair u1p u1p
abbrev r0v:Sh:=.tr false u0d
abbrev q8p:Sh:=.tr false u2f
abbrev q8q:Sh:=.own true u0d
abbrev j6d:Sh:=.pair q8q (.pair q7a (.pair q7a s29))
abbrev j7q:Sh:=.pair j6d q7a
abbrev q5w:Sh:=.pair .str .bool
abbrev r5o:Sh:=.box j6d
abbrev p63:Sh:=.box (.own true j2t)
abbrev p3q:Sh:=.own true .str
abbrev j7o:Sh:=.pair p3q (.own true q98)
abbrev d0e:Sh:=.pair j7q j7o
abbrev j7s:Sh:=.pair .str .str
abbrev o4a:Sh:=.pair .str u1p
abbrev o6u:Sh:=.box j7o
abbrev j6g:Sh:=.rbox (.ref 0)
abbrev o8x:Sh:=.tr false q7m
abbrev j6e:Sh:=.pair u1p (.pair u1p (.pair u1p (.pair u1p (.pair o8x (.pair q8p (.pair .bool .str))))))
abbrev r9d:Sh:=.box j6e
abbrev q7c:Sh:=.agg j6e
abbrev o6v:Sh:=.tr false .str
abbrev j7p:Sh:=.pair o6v (.tr false q98)
abbrev q7b:Sh:=.agg j7p
abbrev j2z:Sh:=.pair u1p .bool
abbrev s5o:Sh:=.box (.pair .str j2z)
abbrev j41:Sh:=.pair r9d u1p
abbrev j0s:Sh:=.tr true u0d
abbrev o2p:Sh:=.agg j6d
abbrev o2r:Sh:=.box j7p
abbrev j22:Sh:=.agg (.pair .str q5w)
abbrev o8y:Sh:=.rbox j6e
abbrev o8z:Sh:=.own true q7m
abbrev o87:Sh:=.pair r5n s29
abbrev j6f:Sh:=.pair r0v (.pair r5n o87)
abbrev j1g:Sh:=.agg (.pair u1p (.pair j6e (.pair .str (.pair .bool j6f))))
abbrev j7r:Sh:=.pair j6f r5n
abbrev p0h:Sh:=.agg j6f
abbrev q96:Sh:=.box j6f
abbrev j24:Sh:=.agg (.pair j7r j7p)
abbrev o6q:Sh:=.agg j7r
abbrev j6h:Sh:=.own false u0a
abbrev j1h:Sh:=.own true u2f
abbrev j7n:Sh:=.pair u1p (.pair u1p (.pair u1p (.pair u1p (.pair o8z (.pair j1h (.pair .bool .str))))))
abbrev j7t:Sh:=.agg (.pair u1p (.pair j7n (.pair .str (.pair .bool j6d))))
abbrev p0g:Sh:=.box j7n
abbrev o6w:Sh:=.int .u32
abbrev j1i:Sh:=.pair q7b u1p
abbrev j1j:Sh:=.pair q8p u1p
abbrev o5g:Sh:=.box d0e
abbrev j1k:Sh:=.pair o6u o6u
abbrev o80:Sh:=.agg j7q
abbrev j42:Sh:=.tr false d00
abbrev j25:Sh:=.pair q7c q7c
abbrev j6i:Sh:=.pair o6u (.pair o6u u1p)
abbrev j26:Sh:=.pair r0v s29
abbrev j6j:Sh:=.pair u1p (.own true j2t)
abbrev j1l:Sh:=.tr false j2t
abbrev t8b:Sh:=.box (.pair j1l s29)
abbrev j27:Sh:=.rbox s5o
abbrev o81:Sh:=.agg j7s
abbrev j3q:Sh:=.pair u1p s29
abbrev j3r:Sh:=.pair q7c r5n
abbrev j3s:Sh:=.pair r5o j6g
abbrev j3t:Sh:=.pair q8p s29
abbrev d0h:Sh:=.pair q8p (.pair (.box (.pair .str q5w)) (.pair j1h u1p))
abbrev j6k:Sh:=.clo 174 (.rbox u1p)
abbrev j6l:Sh:=.clo 289 (.rbox .str)
abbrev o88:Sh:=.agg j7o
abbrev p9q:Sh:=.pair o88 .bool
abbrev j0t:Sh:=.agg d0e
abbrev j0u:Sh:=.box j7q
abbrev o89:Sh:=.box j7s
abbrev j43:Sh:=.pair r0v u1p
abbrev j3u:Sh:=.pair u1p .str
abbrev j2y:Sh:=.pair q7b j3u
abbrev j7u:Sh:=.pair o80 (.pair j7t u1p)
abbrev j44:Sh:=.pair q7a u1p
abbrev j3v:Sh:=.pair q8q u1p
abbrev j7v:Sh:=.pair r5o (.pair r5o u1p)
abbrev j45:Sh:=.pair r5n j41
abbrev j46:Sh:=.pair r5o r5o
abbrev j47:Sh:=.pair o8x s29
abbrev j7w:Sh:=.pair (.own true j2t) u1p
abbrev j7x:Sh:=.pair (.tr false q98) s29
abbrev j1m:Sh:=.agg j7n
abbrev j7y:Sh:=.pair r5n (.clo 290 o8y)
abbrev j7z:Sh:=.clo 215 (.pair j6g r5o)
abbrev j70:Sh:=.clo 218 (.pair p0g j6g)
abbrev j71:Sh:=.clo 219 (.pair j6g p0g)
abbrev j72:Sh:=.pair r5n (.clo 366 o8y)
abbrev j48:Sh:=.tr false d01
abbrev j3w:Sh:=.tr true .str
abbrev d0f:Sh:=.pair r0v (.pair o89 (.pair j3w (.pair u1p (.pair .str (.pair p3q u1p)))))
abbrev j6m:Sh:=.pair o2p .bool
abbrev j49:Sh:=.pair .bool u1p
abbrev j2x:Sh:=.pair .str (.pair .str j49)
abbrev d0g:Sh:=.pair q8p (.pair u1p (.pair j0s (.pair u1p (.pair (.box j2x) j3v))))
abbrev j29:Sh:=.box j7r
abbrev j6n:Sh:=.pair o6u .bool
abbrev j6o:Sh:=.pair t8b u1p
abbrev j6p:Sh:=.pair o6q u1p
abbrev j6q:Sh:=.pair u1p j2z
abbrev j6r:Sh:=.pair q7b s29
abbrev j6s:Sh:=.pair p3q j2z
abbrev j6t:Sh:=.pair p0h r5n
abbrev j6u:Sh:=.pair r0v o4a
abbrev j6v:Sh:=.pair p0h .str
abbrev j6w:Sh:=.pair q7b o6v
abbrev j6x:Sh:=.pair r5o j27
abbrev j6y:Sh:=.pair u1p j41
abbrev d0i:Sh:=.pair p0g (.pair s5o (.pair p0g s29))
abbrev j6z:Sh:=.pair o6w o4a
abbrev j60:Sh:=.pair o2r u1p
abbrev d0j:Sh:=.pair r9d (.pair r5o (.pair r5o p0g))
abbrev j61:Sh:=.pair j42 s29
abbrev d0k:Sh:=.pair q96 (.pair (.own true j2u) u1p)
abbrev d0l:Sh:=.clo 176 (.pair (.box r0v) (.box r0v))
abbrev d0m:Sh:=.pair q96 (.pair (.tr true j2u) u1p)
def j2l:Nat→Sig
 | 8=>zS j1l .bool
 | 220=>zS t8b (.pair u1p t8b) 1 [true]
 | 106=>zS j6o (.pair u1p t8b) 1 [true,false]
 | 152=>zS .unit o2p
 | 267=>zS .unit o80
 | 120=>zS j3q .bool
 | 320=>zS (.pair u1p (.int .u8)) .str
 | 406=>zS .unit .str
 | 356=>zS u1p p9q 2
 | 357=>zS .unit u1p
 | 268=>zS .unit o88
 | 160=>zS .unit j0t
 | 70=>zS q7c j1m
 | 178=>zS r5n q7a
 | 68=>zS p0h o2p
 | 72=>zS o6q o80
 | 123=>zS .str .bool
 | 75=>zS j22 .bool
 | 180=>zS q8p .bool
 | 235=>zS o81 .bool
 | 121=>zS q7c .bool
 | 131=>zS r0v .bool
 | 42=>zS p0h .bool
 | 73=>zS o6q .bool
 | 17=>zS o6q (.pair o80 s29) 3
 | 74=>zS j6p u1p
 | 179=>zS (.pair q8p j22) j1h
 | 76=>zS (.pair q7c j22) (.pair j1m .bool) 2
 | 18=>zS (.pair o6q (.pair u1p j22)) (.pair o80 u1p) 2
 | 261=>zS q7b o88
 | 155=>zS j24 j0t
 | 232=>zS u1p .str
 | 234=>zS o4a j6q 3
 | 227=>zS o4a (.pair .str j2z) 3
 | 111=>zS s5o (.pair .str s5o) 1 [true]
 | 112=>zS s5o (.pair .bool s5o) 1 [true]
 | 118=>zS s5o (.pair u1p s5o) 1 [true]
 | 113=>zS o4a (.pair j1m j2z) 3
 | 119=>zS (.pair s5o u1p) (.pair q7a s5o) 1 [true,false]
 | 38=>zS o4a (.pair o2p j2z) 3
 | 122=>zS q7c .bool
 | 124=>zS p0h .bool
 | 39=>zS j1g .bool
 | 224=>zS o6w .str
 | 318=>zS (.pair o6w .str) o6w
 | 225=>zS .str o6w
 | 109=>zS .str q5w 2
 | 221=>zS .str .str
 | 222=>zS .bool .str
 | 223=>zS q7c q5w 2
 | 233=>zS r5n .str
 | 117=>zS p0h q5w 2
 | 107=>zS j1g q5w 2
 | 108=>zS .str q5w 2
 | 33=>zS .str (.pair j7t .bool) 2
 | 355=>zS j1i q5w 2
 | 263=>zS j6r q5w 2
 | 264=>zS u1p u1p
 | 266=>zS j1i u1p
 | 265=>zS j1i u1p
 | 157=>zS j1i j6s 3
 | 158=>zS q7b u1p
 | 53=>zS q7b p3q
 | 69=>zS j6t u1p
 | 79=>zS j6u u1p
 | 71=>zS j43 q8q
 | 14=>zS j6t o2p
 | 307=>zS j6v u1p
 | 387=>zS (.pair r0v j1j) q8q
 | 330=>zS (.pair o81 .str) .bool
 | 427=>zS (.pair o8x q8p) .bool
 | 429=>zS j25 .bool
 | 394=>zS j25 .bool
 | 393=>zS j3r .bool
 | 333=>zS (.pair p0h q7c) o2p
 | 334=>zS j6v o2p
 | 346=>zS (.pair p0h (.pair q7c .str)) o2p
 | 258=>zS (.pair p0h j1g) (.pair p0h .bool) 2
 | 153=>zS (.pair p0h j1g) j6m 2
 | 50=>zS q7b j6m 2
 | 375=>zS q7b .bool
 | 303=>zS q7b .bool
 | 351=>zS q7b o88
 | 352=>zS j2y p9q 2
 | 349=>zS (.pair q7b (.pair u1p j3u)) p9q 2
 | 350=>zS u1p .str
 | 379=>zS j6r p9q 2
 | 377=>zS j2y p9q 2
 | 405=>zS j2y p9q 2
 | 353=>zS j6w p9q 2
 | 354=>zS q7b p9q 2
 | 262=>zS j6w p9q 2
 | 156=>zS q7b p9q 2
 | 52=>zS j24 (.pair j0t .bool) 2
 | 187=>zS (.pair t8b o6v) (.pair .str t8b) 1 [true,false]
 | 189=>zS j6o (.pair .bool t8b) 1 [true,false]
 | 358=>zS (.pair q7c o81) (.pair j1m .bool) 2
 | 20=>zS j6u q5w 2
 | 359=>zS (.pair q7c (.pair r0v .str)) q5w 2
 | 269=>zS (.pair o6q j3u) (.pair o80 (.pair .str j49)) 4
 | 270=>zS t8b (.pair .str t8b) 1 [true]
 | 331=>zS (.pair r0v o81) p3q
 | 360=>zS (.pair q7c (.pair r0v o81)) o8z
 | 271=>zS (.pair o6q (.pair u1p o81)) (.pair o80 (.pair o8z u1p)) 3
 | 272=>zS t8b (.pair o81 t8b) 1 [true]
 | 273=>zS t8b (.pair j22 t8b) 1 [true]
 | 363=>zS (.pair j0u u1p) j0u 0 [true,false]
 | 332=>zS p0h .bool
 | 409=>zS p0h j6h
 | 428=>zS (.pair q8p q8p) .bool
 | 433=>zS j3r .bool
 | 435=>zS j3r .bool
 | 434=>zS j3r .bool
 | 407=>zS j6p u1p
 | 361=>zS j6p j7u 3
 | 413=>zS j2y p9q 2
 | 376=>zS (.pair q7b .str) p9q 2
 | 362=>zS (.pair o5g j1g) (.pair .bool o5g) 1 [true,false]
 | 274=>zS (.pair o5g u1p) (.pair u1p o5g) 1 [true,false]
 | 408=>zS j3r .bool
 | 364=>zS (.pair o6q j3u) j7u 3
 | 275=>zS (.pair o5g j3u) (.pair u1p o5g) 1 [true,false,false]
 | 250=>zS (.pair o6q q5w) j7u 3
 | 276=>zS (.pair o5g q5w) (.pair u1p o5g) 1 [true,false,false]
 | 277=>zS j6p (.pair o80 u1p) 2
 | 161=>zS (.pair t8b o5g) (.pair t8b o5g) 0 [true,true]
 | 56=>zS j6o (.pair j0t t8b) 1 [true,false]
 | 57=>zS j1l t8b
 | 9=>zS j1l j0t
 | 212=>zS j3q .bool
 | 231=>zS u1p q5w 2
 | 209=>zS .str q5w 2
 | 97=>zS (.pair p63 o6v) p63 0 [true,false]
 | 98=>zS (.pair p63 .bool) p63 0 [true,false]
 | 116=>zS (.pair p63 (.tr false j2u)) p63 0 [true,false]
 | 129=>zS .str .bool
 | 236=>zS o81 .bool
 | 321=>zS j22 .bool
 | 237=>zS q8p .bool
 | 127=>zS q7c .bool
 | 99=>zS q7c q5w 2
 | 91=>zS q7c .bool
 | 128=>zS q7c .bool
 | 290=>zS (.pair q7c o8y) .bool
 | 10005=>zS j7y u1p
 | 10004=>zS j7y .bool
 | 10003=>zS j7y .bool
 | 170=>zS (.pair r5n u1p) .bool
 | 291=>zS (.pair .nil u1p) q7a
 | 171=>zS j42 j6h
 | 380=>zS .str .bool
 | 308=>zS j7s u1p
 | 381=>zS u1p .bool
 | 309=>zS s29 u1p
 | 199=>zS (.pair (.agg j2x) (.agg j2x)) u1p
 | 230=>zS r0v .bool
 | 115=>zS p0h .bool
 | 35=>zS p0h q5w 2
 | 125=>zS q7c .bool
 | 126=>zS p0h .bool
 | 40=>zS j1g .bool
 | 316=>zS (.pair o6w .str) o6w
 | 210=>zS .str o6w
 | 100=>zS .str q5w 2
 | 30=>zS j1g q5w 2
 | 101=>zS .str q5w 2
 | 317=>zS o4a j6q 3
 | 211=>zS o4a (.pair .str j2z) 3
 | 102=>zS s5o (.pair .str s5o) 1 [true]
 | 103=>zS s5o (.pair .bool s5o) 1 [true]
 | 213=>zS s5o (.pair u1p s5o) 1 [true]
 | 215=>zS (.pair j27 r5o) (.pair j27 r5o) 0 [true,true]
 | 10015=>zS (.pair s5o j7z) (.pair s5o (.clo 215 (.pair .skip r5o))) 0 [true,true]
 | 218=>zS (.pair p0g j27) (.pair p0g j27) 0 [true,true]
 | 10017=>zS (.pair s5o j70) (.pair s5o (.clo 218 (.pair p0g .skip))) 0 [true,true]
 | 219=>zS (.pair j27 p0g) (.pair j27 p0g) 0 [true,true]
 | 10018=>zS (.pair s5o j71) (.pair s5o (.clo 219 (.pair .skip p0g))) 0 [true,true]
 | 105=>zS s5o (.pair j1m s5o) 1 [true]
 | 216=>zS j6x j6x 0 [true,true]
 | 10016=>zS (.pair s5o (.clo 216 j3s)) (.pair s5o (.clo 216 (.pair r5o .skip))) 0 [true,true]
 | 217=>zS j6x j6x 0 [true,true]
 | 10019=>zS (.pair s5o (.clo 217 j3s)) (.pair s5o (.clo 217 (.pair r5o .skip))) 0 [true,true]
 | 104=>zS s5o (.pair o2p s5o) 1 [true]
 | 31=>zS .str (.pair j7t .bool) 2
 | 60=>zS .unit o2p
 | 365=>zS j1i q5w 2
 | 278=>zS j6r q5w 2
 | 280=>zS u1p .bool
 | 279=>zS u1p u1p
 | 282=>zS j1i u1p
 | 281=>zS j1i u1p
 | 162=>zS j1i j6s 3
 | 164=>zS q7b u1p
 | 61=>zS q7b p3q
 | 185=>zS q7c j1m
 | 283=>zS r5n q7a
 | 165=>zS p0h o2p
 | 172=>zS j6t u1p
 | 292=>zS j6u u1p
 | 293=>zS (.pair .str (.rbox r0v)) u1p
 | 175=>zS j43 q8q
 | 174=>zS (.pair q7c (.rbox u1p)) .bool
 | 10002=>zS (.pair r5n j6k) u1p
 | 10001=>zS (.pair q7a j6k) q7a
 | 64=>zS j6t o2p
 | 200=>zS (.pair q8q (.pair u1p q8q)) q8q
 | 198=>zS (.pair (.agg j2x) (.rbox j2x)) .bool
 | 10006=>zS (.pair r0v (.clo 198 (.rbox j2x))) u1p
 | 86=>zS (.pair r0v j1j) q8q
 | 201=>zS (.pair o81 .str) .bool
 | 195=>zS (.pair o8x q8p) .bool
 | 410=>zS j25 .bool
 | 367=>zS j25 .bool
 | 286=>zS j25 .bool
 | 366=>zS (.pair q7c o8y) .bool
 | 10009=>zS j72 u1p
 | 10008=>zS j72 .bool
 | 10007=>zS j72 .bool
 | 284=>zS j3r .bool
 | 285=>zS (.pair q7c o8y) .bool
 | 10011=>zS (.pair r5n (.clo 285 o8y)) u1p
 | 10010=>zS (.pair q7a (.clo 285 o8y)) q7a
 | 166=>zS (.pair p0h q7c) o2p
 | 288=>zS (.pair q7c (.rbox .str)) .bool
 | 10012=>zS (.pair r5n (.clo 288 (.rbox .str))) u1p
 | 167=>zS j6v u1p
 | 168=>zS (.pair p0h (.pair q7c .str)) o2p
 | 289=>zS (.pair q7c (.rbox .str)) .bool
 | 10014=>zS (.pair r5n j6l) u1p
 | 10013=>zS (.pair q7a j6l) q7a
 | 169=>zS j6v o2p
 | 62=>zS (.pair p0h j1g) j6m 2
 | 11=>zS q7b j6m 2
 | 87=>zS (.pair o8x o8x) .bool
 | 312=>zS p3q p3q 0 [true]
 | 313=>zS p3q p3q
 | 202=>zS r0v p3q
 | 203=>zS j6u q5w 2
 | 89=>zS (.pair r0v (.pair o81 u1p)) o8z
 | 92=>zS .unit o81
 | 176=>zS (.pair u1p (.pair (.rbox r0v) (.rbox r0v))) .bool
 | 294=>zS (.pair .nil u1p) q8q
 | 177=>zS j48 q8q
 | 67=>zS (.pair r0v j43) .bool
 | 66=>zS j25 .bool
 | 10000=>zS (.pair r5n (.pair r5n (.clo 66 .unit))) .bool
 | 13=>zS (.pair p0h p0h) .bool
 | 163=>zS q7b .bool
 | 58=>zS q7b .bool
 | 63=>zS o6q .bool
 | 12=>zS j24 .bool
 | 59=>zS q7b o88
 | 205=>zS o6q o80
 | 150=>zS j24 j0t
 | 344=>zS q7b o88
 | 432=>zS j2y p9q 2
 | 404=>zS (.pair q7b (.pair u1p j3u)) p9q 2
 | 403=>zS j6r o88
 | 412=>zS j2y p9q 2
 | 373=>zS j2y p9q 2
 | 343=>zS j6w p9q 2
 | 345=>zS q7b o88
 | 257=>zS j6w p9q 2
 | 151=>zS q7b p9q 2
 | 49=>zS j24 (.pair j0t .bool) 2
 | 385=>zS t8b (.pair o8z t8b) 1 [true]
 | 386=>zS t8b (.pair j1h t8b) 1 [true]
 | 314=>zS t8b (.pair j1m t8b) 1 [true]
 | 315=>zS t8b (.pair j22 t8b) 1 [true]
 | 208=>zS t8b (.pair j1m t8b) 1 [true]
 | 228=>zS t8b (.pair o2p t8b) 1 [true]
 | 319=>zS t8b (.pair q8q t8b) 1 [true]
 | 229=>zS t8b (.pair q8q t8b) 1 [true]
 | 114=>zS t8b (.pair o2p t8b) 1 [true]
 | 347=>zS t8b (.pair o80 t8b) 1 [true]
 | 259=>zS t8b (.pair o80 t8b) 1 [true]
 | 226=>zS j6o (.pair .str t8b) 1 [true,false]
 | 348=>zS t8b (.pair o88 t8b) 1 [true]
 | 260=>zS t8b (.pair o88 t8b) 1 [true]
 | 154=>zS t8b (.pair j0t t8b) 1 [true]
 | 51=>zS j1l j0t
 | 132=>zS (.pair r0v r0v) .bool
 | 238=>zS (.pair q8p q8p) .bool
 | 130=>zS j25 .bool
 | 133=>zS (.pair r5n r5n) .bool
 | 43=>zS (.pair p0h p0h) .bool
 | 54=>zS (.pair o6q o6q) .bool
 | 15=>zS (.pair o6v o6v) .bool
 | 159=>zS (.pair q7b q7b) .bool
 | 55=>zS (.pair j24 j24) .bool
 | 7=>zS j1l .bool
 | _=>zS .unit .unit 0
def j4i:Nat→Nat→Ht Join
 | 120,3=>some ⟨[6],.bool,[]⟩
 | 123,9=>some ⟨[19],.bool,[]⟩
 | 75,3=>some ⟨[2],.bool,[]⟩
 | 180,9=>some ⟨[33],.bool,[]⟩
 | 235,3=>some ⟨[2],.bool,[]⟩
 | 121,3=>some ⟨[31],.bool,[]⟩
 | 121,17=>some ⟨[67],.bool,[]⟩
 | 121,21=>some ⟨[86],.bool,[]⟩
 | 121,25=>some ⟨[2],.bool,[]⟩
 | 131,11=>some ⟨[39],.bool,[]⟩
 | 131,15=>some ⟨[74],.bool,[]⟩
 | 42,3=>some ⟨[38],.bool,[]⟩
 | 42,27=>some ⟨[98],.bool,[]⟩
 | 42,41=>some ⟨[146],.bool,[]⟩
 | 73,3=>some ⟨[16],.bool,[]⟩
 | 73,15=>some ⟨[68],.bool,[]⟩
 | 17,5=>some ⟨[23],.bool,[]⟩
 | 76,5=>some ⟨[21],.bool,[]⟩
 | 234,13=>some ⟨[25],.bool,[]⟩
 | 234,23=>some ⟨[54],.bool,[]⟩
 | 227,5=>some ⟨[30],.bool,[]⟩
 | 111,5=>some ⟨[26],.bool,[]⟩
 | 112,3=>some ⟨[30],.bool,[]⟩
 | 118,5=>some ⟨[26],.bool,[]⟩
 | 113,17=>some ⟨[46],.bool,[]⟩
 | 113,31=>some ⟨[76],.bool,[]⟩
 | 113,47=>some ⟨[108],.bool,[]⟩
 | 119,9=>some ⟨[28],.bool,[]⟩
 | 38,13=>some ⟨[37],.bool,[]⟩
 | 38,31=>some ⟨[72],.bool,[]⟩
 | 122,3=>some ⟨[2],.bool,[]⟩
 | 124,3=>some ⟨[2],.bool,[]⟩
 | 39,7=>some ⟨[3],.bool,[]⟩
 | 39,9=>some ⟨[54],.bool,[]⟩
 | 39,13=>some ⟨[77],.bool,[]⟩
 | 108,5=>some ⟨[24],.bool,[]⟩
 | 33,5=>some ⟨[20],.bool,[]⟩
 | 33,29=>some ⟨[66],.bool,[]⟩
 | 263,15=>some ⟨[28],.bool,[]⟩
 | 266,5=>some ⟨[18],.bool,[]⟩
 | 157,27=>some ⟨[52],.bool,[]⟩
 | 79,11=>some ⟨[47],.bool,[]⟩
 | 71,13=>some ⟨[38],.bool,[]⟩
 | 71,37=>some ⟨[90],.bool,[]⟩
 | 387,17=>some ⟨[72],.bool,[]⟩
 | 330,3=>some ⟨[4],.bool,[]⟩
 | 429,7=>some ⟨[31],.bool,[]⟩
 | 394,3=>some ⟨[4],.bool,[]⟩
 | 393,9=>some ⟨[25],.bool,[]⟩
 | 258,15=>some ⟨[36],.bool,[]⟩
 | 153,3=>some ⟨[16],.bool,[]⟩
 | 50,17=>some ⟨[39],.bool,[]⟩
 | 375,3=>some ⟨[15],.bool,[]⟩
 | 375,23=>some ⟨[58],.bool,[]⟩
 | 303,3=>some ⟨[24],.bool,[]⟩
 | 303,11=>some ⟨[2],.bool,[]⟩
 | 352,5=>some ⟨[33],.bool,[]⟩
 | 349,5=>some ⟨[37],.bool,[]⟩
 | 349,25=>some ⟨[77],.bool,[]⟩
 | 377,5=>some ⟨[35],.bool,[]⟩
 | 353,11=>some ⟨[27],.bool,[]⟩
 | 156,7=>some ⟨[24],.bool,[]⟩
 | 358,5=>some ⟨[22],.bool,[]⟩
 | 20,5=>some ⟨[21],.bool,[]⟩
 | 332,3=>some ⟨[2],.bool,[]⟩
 | 433,11=>some ⟨[45],.bool,[]⟩
 | 435,9=>some ⟨[33],.bool,[]⟩
 | 434,3=>some ⟨[16],.bool,[]⟩
 | 434,15=>some ⟨[43],.bool,[]⟩
 | 434,19=>some ⟨[56],.bool,[]⟩
 | 434,25=>some ⟨[70],.bool,[]⟩
 | 434,31=>some ⟨[91],.bool,[]⟩
 | 413,3=>some ⟨[17],.bool,[]⟩
 | 408,17=>some ⟨[33],.bool,[]⟩
 | 408,29=>some ⟨[64],.bool,[]⟩
 | 364,21=>some ⟨[52],.bool,[]⟩
 | 364,25=>some ⟨[61],.bool,[]⟩
 | 250,11=>some ⟨[26],.bool,[]⟩
 | 161,15=>some ⟨[54],.bool,[]⟩
 | 57,7=>some ⟨[15],.bool,[]⟩
 | 212,3=>some ⟨[6],.bool,[]⟩
 | 129,9=>some ⟨[19],.bool,[]⟩
 | 236,3=>some ⟨[2],.bool,[]⟩
 | 321,3=>some ⟨[2],.bool,[]⟩
 | 237,9=>some ⟨[29],.bool,[]⟩
 | 127,15=>some ⟨[52],.bool,[]⟩
 | 127,19=>some ⟨[74],.bool,[]⟩
 | 127,23=>some ⟨[2],.bool,[]⟩
 | 230,9=>some ⟨[50],.bool,[]⟩
 | 115,3=>some ⟨[36],.bool,[]⟩
 | 115,25=>some ⟨[88],.bool,[]⟩
 | 115,37=>some ⟨[128],.bool,[]⟩
 | 125,3=>some ⟨[2],.bool,[]⟩
 | 126,3=>some ⟨[2],.bool,[]⟩
 | 40,11=>some ⟨[3],.bool,[]⟩
 | 40,15=>some ⟨[3],.bool,[]⟩
 | 40,25=>some ⟨[2],.bool,[]⟩
 | 101,11=>some ⟨[26],.bool,[]⟩
 | 317,11=>some ⟨[26],.bool,[]⟩
 | 317,23=>some ⟨[57],.bool,[]⟩
 | 211,5=>some ⟨[30],.bool,[]⟩
 | 102,5=>some ⟨[26],.bool,[]⟩
 | 103,3=>some ⟨[32],.bool,[]⟩
 | 213,5=>some ⟨[26],.bool,[]⟩
 | 10015,5=>some ⟨[17],.bool,[]⟩
 | 10017,5=>some ⟨[17],.bool,[]⟩
 | 10018,5=>some ⟨[17],.bool,[]⟩
 | 10016,5=>some ⟨[17],.bool,[]⟩
 | 10019,5=>some ⟨[17],.bool,[]⟩
 | 31,5=>some ⟨[20],.bool,[]⟩
 | 31,29=>some ⟨[64],.bool,[]⟩
 | 280,3=>some ⟨[2],.bool,[]⟩
 | 282,5=>some ⟨[18],.bool,[]⟩
 | 162,5=>some ⟨[29],.bool,[]⟩
 | 162,21=>some ⟨[49],.bool,[]⟩
 | 292,11=>some ⟨[40],.bool,[]⟩
 | 175,11=>some ⟨[31],.bool,[]⟩
 | 201,3=>some ⟨[4],.bool,[]⟩
 | 410,3=>some ⟨[4],.bool,[]⟩
 | 286,3=>some ⟨[4],.bool,[]⟩
 | 366,3=>some ⟨[3],.bool,[]⟩
 | 62,3=>some ⟨[16],.bool,[]⟩
 | 62,23=>some ⟨[6],.bool,[]⟩
 | 62,33=>some ⟨[72],.bool,[]⟩
 | 62,41=>some ⟨[92],.bool,[]⟩
 | 11,15=>some ⟨[35],.bool,[]⟩
 | 203,5=>some ⟨[21],.bool,[]⟩
 | 89,13=>some ⟨[31],.bool,[]⟩
 | 66,7=>some ⟨[4],.bool,[]⟩
 | 163,21=>some ⟨[38],.bool,[]⟩
 | 163,27=>some ⟨[2],.bool,[]⟩
 | 58,7=>some ⟨[2],.bool,[]⟩
 | 63,13=>some ⟨[71],.bool,[]⟩
 | 12,5=>some ⟨[2],.bool,[]⟩
 | 404,3=>some ⟨[25],.bool,[]⟩
 | 404,15=>some ⟨[50],.bool,[]⟩
 | 412,7=>some ⟨[52],.bool,[]⟩
 | 151,7=>some ⟨[24],.bool,[]⟩
 | 130,3=>some ⟨[62],.bool,[]⟩
 | 43,3=>some ⟨[4],.bool,[]⟩
 | 54,3=>some ⟨[4],.bool,[]⟩
 | 159,3=>some ⟨[20],.bool,[]⟩
 | 55,3=>some ⟨[4],.bool,[]⟩
 | 7,21=>some ⟨[2],.bool,[]⟩
 | _,_=>none
abbrev r4a:=zL [0,1,5,6] (.pair u1p (.pair (.int .u8) j7w)) 0 [5] (.tr true j2t) [] .unit
abbrev r3w:=zL [0,2,4,5] (.pair u1p j6i) 0 [2,4] j1k [] .unit
abbrev r4f:=zL [0,3,4] (.pair r5n j44) 0 [3] q7a [] .unit
abbrev q1i:=zL [0,3] o4a 0 [0] .str [2] .bool
abbrev s9v:=zL [0,3] j1j 0 [0] q8p [2] .bool
abbrev q1m:=zL [1,3] j41 0 [1] r9d [2] .bool
abbrev s4j:=zL [0,3] j43 0 [0] r0v [2] .bool
abbrev r7i:=zL [1,3] (.pair q96 u1p) 0 [1] q96 [2] .bool
abbrev r3q:=zL [1,4,5] d0k 2 [1,4] (.pair q96 (.own true j2u)) [2] .bool
abbrev r3r:=zL [1,4,7] d0k 4 [1,4] (.pair q96 (.tr true j2u)) [2] .bool
abbrev r3s:=zL [1,4,9] d0m 6 [] .unit [2] .bool
abbrev r3t:=zL [1,4,9,10] (.pair q96 (.pair (.tr true j2u) s29)) 8 [1,4,9] d0m [2] .bool
abbrev s9l:=zL [1,3] (.pair j29 u1p) 0 [] .unit [2] .bool
abbrev s6j:=zL [1,3,4,5] (.pair j29 j6y) 2 [1,3,4] (.pair j29 (.pair u1p r9d)) [2] .bool
abbrev s6k:=zL [1,3,4,6] (.pair j29 j6y) 4 [1,3] (.pair j29 u1p) [2] .bool
abbrev r7m:=zL [1,2,5] (.pair u1p (.pair j29 u1p)) 0 [] .unit [4] u1p
abbrev s9n:=zL [0,3,5,6] d0h 0 [0,3,5] (.pair q8p (.pair (.box (.pair .str q5w)) j1h)) [] .unit
abbrev s9o:=zL [0,3,5,7] d0h 2 [5] j1h [] .unit
abbrev r7q:=zL [0,3] j6j 0 [0,3] j6j [] .unit
abbrev r32:=zL [0,1,7,8,9] (.pair .str (.pair u1p j3q)) 0 [] .unit [4,5,6] j6q
abbrev r31:=zL [4,7,8,9,10] d0i 0 [4,7,8] (.pair p0g (.pair s5o p0g)) [] .unit
abbrev s9q:=zL [4,7,8,12,13] d0i 2 [4,7,8] (.pair p0g (.pair s5o p0g)) [] .unit
abbrev s2z:=zL [0,1,5,6,7] (.pair s5o (.pair u1p (.pair q7a s29))) 0 [0,5] (.pair s5o q7a) [0,4] (.pair s5o q7a)
abbrev s9p:=zL [4,7,8,9,10] (.pair r5o (.pair s5o (.pair r5o s29))) 0 [4,7,8] (.pair r5o (.pair s5o r5o)) [] .unit
abbrev r34:=zL [0,1,5] j6z 0 [0] o6w [] .unit
abbrev r35:=zL [0,1,5,6] (.pair o6w (.pair .str s29)) 2 [0,1,5] j6z [] .unit
abbrev r39:=zL [1,4,5] (.pair r9d o4a) 0 [1,4] (.pair r9d .str) [] .unit
abbrev s9u:=zL [1,4,6] (.pair r9d o4a) 2 [1,4] (.pair r9d .str) [] .unit
abbrev r4g:=zL [0,3,4] (.pair r5n o4a) 0 [3] .str [] .unit
abbrev s9k:=zL [1,4,5] (.pair q96 o4a) 0 [1,4] (.pair q96 .str) [] .unit
abbrev s4h:=zL [1,2,6] (.pair u1p j60) 0 [1,2] (.pair u1p o2r) [4,5] q5w
abbrev s4i:=zL [1,2,3,8,9] (.pair u1p (.pair u1p (.pair o2r o4a))) 0 [8] .str [6,7] q5w
abbrev s6n:=zL [1,2,7,8,10,11,12] (.pair u1p (.pair o2r (.pair p3q (.pair .str (.pair p3q s29))))) 0 [10,11] (.pair p3q u1p) [4,5,6] j6s
abbrev s9m:=zL [1,5,6] o87 0 [5] u1p [] .unit
abbrev q1n:=zL [0,1,2,7,8] (.pair r0v (.pair .str j3q)) 0 [7] u1p [] .unit
abbrev r38:=zL [0,1,5,6] (.pair r0v (.pair u1p j3v)) 0 [1,5] (.pair u1p j0s) [] .unit
abbrev s9s:=zL [1,5,8,9] (.pair u1p (.pair j0s j3v)) 2 [8] q8q [] .unit
abbrev s9t:=zL [1,5,8,9,10,11] (.pair u1p (.pair j0s (.pair q8q j3q))) 4 [1,5,8,9,10] (.pair u1p (.pair j0s (.pair q8q s29))) [] .unit
abbrev r7o:=zL [2,4,5,6,7] (.pair q96 (.pair r5o (.pair r5o s29))) 0 [2,4,5,6] (.pair q96 j7v) [] .unit
abbrev r33:=zL [1,2,5] (.pair .str (.pair q96 u1p)) 0 [] .unit [4] u1p
abbrev s2v:=zL [1,2,7,8] (.pair q8p (.pair u1p j3v)) 0 [7] q8q [] .unit
abbrev s2w:=zL [1,2,7,8,9,10,11] d0g 2 [1,2,7,8,9,10,11] d0g [] .unit
abbrev r36:=zL [0,1,5] (.pair o8x j1j) 0 [] .unit [4] .bool
abbrev r37:=zL [0,1,5,6] (.pair o8x j3t) 2 [0,1,5] (.pair o8x j1j) [4] .bool
abbrev q1l:=zL [1,2,5] j45 0 [] .unit [4] .bool
abbrev s9r:=zL [2,3,4,5,6,7] (.pair q96 (.pair r9d (.pair r5o (.pair r5o (.pair (.box (.pair u1p (.pair u1p (.pair u1p (.pair u1p (.pair (.tr true q7m) (.pair (.tr true u2f) (.pair .bool .str)))))))) u1p))))) 0 [3,4,5] (.pair r9d j46) [] .unit
abbrev r3x:=zL [1,2,4,5,6] (.pair .str (.pair q96 j7v)) 0 [4,5] j46 [] .unit
abbrev s6m:=zL [2,3,4,6,7,8,9] (.pair .str (.pair q96 (.pair r9d (.pair r5o (.pair r5o (.pair p0g u1p)))))) 0 [2,3,4,6,7,8] (.pair .str (.pair q96 d0j)) [] .unit
abbrev s4g:=zL [2,3,4,6,7,10] (.pair .str (.pair q96 (.pair r9d j7v))) 2 [4,6,7] (.pair r9d j46) [] .unit
abbrev r30:=zL [2,4,5,6] (.pair r5o (.pair r5o (.pair j3w u1p))) 0 [2,4] j46 [2,3] (.pair r5o .bool)
abbrev r7k:=zL [1,3] j60 0 [1] o2r [2] .bool
abbrev r7l:=zL [1,4] j60 2 [] .unit [2] .bool
abbrev s6l:=zL [1,2,3,4] (.pair o2r j6i) 0 [2,3] j1k [] .unit
abbrev s4k:=zL [1,2,3,4,8,10,11] (.pair u1p (.pair u1p (.pair .str (.pair o2r j6i)))) 0 [8,10] j1k [8,9] j6n
abbrev r4c:=zL [1,4,6,7,8,9] (.pair o6v (.pair o6u (.pair u1p (.pair o6u j49)))) 0 [4,7,8] (.pair o6u j6n) [] .unit
abbrev s6o:=zL [2,3,4,6,7] (.pair r9d (.pair o89 (.pair p0g (.pair p0g u1p)))) 0 [2,3,4,6] (.pair r9d (.pair o89 (.pair p0g p0g))) [4,5] (.pair p0g .bool)
abbrev r7n:=zL [1,2,3,8] (.pair r0v (.pair .str j41)) 0 [1,2,3] (.pair r0v (.pair .str r9d)) [6,7] q5w
abbrev r4d:=zL [0,3,5,6] (.pair r0v (.pair o89 (.pair p3q u1p))) 0 [5] p3q [] .unit
abbrev r4e:=zL [0,3,5,6,7,8,9] d0f 2 [0,3,5,6,7,8] (.pair r0v (.pair o89 (.pair j3w (.pair u1p (.pair .str p3q))))) [] .unit
abbrev s9w:=zL [0,3,5,6,7,8,10] d0f 4 [0,3,6,8] (.pair r0v (.pair o89 (.pair u1p p3q))) [] .unit
abbrev r3y:=zL [1,3,5,7,8] (.pair r0v (.pair r9d (.pair o89 j3v))) 0 [1,3,5,7] (.pair r0v (.pair r9d (.pair o89 j0s))) [] .unit
abbrev r3z:=zL [1,3,9,10,11] (.pair r0v (.pair r9d (.pair o8z (.pair j3w u1p)))) 2 [9] o8z [] .unit
abbrev r7s:=zL [0,1,4,5] (.pair j0u (.pair u1p j44)) 0 [0,4] (.pair j0u q7a) [] .unit
abbrev q1j:=zL [0,1,5] (.pair q8p j1j) 0 [] .unit [4] .bool
abbrev q1k:=zL [0,1,5,6] (.pair q8p j3t) 2 [0,1,5] (.pair q8p j1j) [4] .bool
abbrev r3u:=zL [1,2,5] j45 0 [] .unit [4] .bool
abbrev q42:=zL [1,2,5] j45 0 [] .unit [4] .bool
abbrev r7j:=zL [1,2,5] j45 0 [] .unit [4] .bool
abbrev r3v:=zL [1,2,5,6,7] (.pair r5n (.pair r9d j6y)) 2 [1,2,5] j45 [4] .bool
abbrev s2x:=zL [1,2,5,6] (.pair r5n (.pair r9d j49)) 0 [] .unit [4] .bool
abbrev s1n:=zL [1,2,5,6,7,8] (.pair r5n (.pair r9d (.pair .bool j6y))) 2 [1,2,5,6] (.pair r5n (.pair r9d j49)) [4] .bool
abbrev r4i:=zL [0,1,4,5,6] (.pair t8b (.pair u1p (.pair o5g (.pair o5g u1p)))) 0 [0,4,5] (.pair t8b (.pair o5g o5g)) [] .unit
abbrev r7p:=zL [0,3,4] (.pair j1l s29) 0 [0,3] (.pair j1l u1p) [] .unit
abbrev r3o:=zL [0,4] j6j 0 [0,4] j6j [] .unit
abbrev s6h:=zL [0,8,9,10] (.pair p63 (.pair o6v s29)) 0 [0] p63 [] .unit
abbrev s9h:=zL [0,8,9,10] (.pair p63 (.pair (.tr false j2u) s29)) 0 [0] p63 [] .unit
abbrev q1g:=zL [0,3] o4a 0 [0] .str [2] .bool
abbrev s9f:=zL [0,5,6,7] (.pair q8p j3t) 0 [0] q8p [2] .bool
abbrev q1h:=zL [1,6,7,8] (.pair r9d j47) 0 [1] r9d [2] .bool
abbrev r3n:=zL [1,4,29,30,31] (.pair r9d (.pair p63 j47)) 0 [1,4] (.pair r9d p63) [] .unit
abbrev s9e:=zL [1,4,50,51,52] (.pair r9d (.pair p63 j3t)) 2 [1,4] (.pair r9d p63) [] .unit
abbrev u3j:=zL [0,1,7,8] (.pair r5n (.pair (.clo 290 o8y) s29)) 0 [] .unit [4] u1p
abbrev s6g:=zL [0,1,7,8,9] (.pair r5n (.pair u1p o87)) 0 [] .unit [4] .bool
abbrev t41:=zL [0,3,9,10,11] (.pair j42 (.pair u1p j61)) 0 [0,3] (.pair j42 u1p) [] .unit
abbrev t29:=zL [6,25,26,27] (.pair j6h j61) 2 [6] j6h [] .unit
abbrev s4d:=zL [0,5,6,7] (.pair r0v j26) 0 [0] r0v [2] .bool
abbrev r7c:=zL [1,38,39,40] (.pair q96 j26) 0 [1] q96 [2] .bool
abbrev r3d:=zL [1,51,52,53] (.pair q96 o87) 2 [1] q96 [2] .bool
abbrev r3e:=zL [1,91,92,93] (.pair q96 o87) 4 [1] q96 [2] .bool
abbrev s88:=zL [1,4,29,30,31] (.pair q96 (.pair p63 j26)) 0 [1,4] (.pair q96 p63) [] .unit
abbrev s6a:=zL [4,56,57,58] (.pair p63 j61) 2 [4] p63 [] .unit
abbrev s6b:=zL [4,56,57,58,67,68,69] (.pair p63 (.pair j42 (.pair u1p (.pair u1p o87)))) 4 [4,56,57,58] (.pair p63 j61) [] .unit
abbrev r3h:=zL [0,1,5] j6z 0 [0] o6w [] .unit
abbrev r3i:=zL [0,1,5,6] (.pair o6w (.pair .str s29)) 2 [0,1,5] j6z [] .unit
abbrev r3g:=zL [0,1,7,8] (.pair .str j3q) 0 [] .unit [4,5,6] j6q
abbrev u5f:=zL [0,1,4,5] (.pair s5o (.pair j7z s29)) 0 [0,1] (.pair s5o j7z) [] .unit
abbrev u5t:=zL [0,1,4,5] (.pair s5o (.pair j70 s29)) 0 [0,1] (.pair s5o j70) [] .unit
abbrev u5u:=zL [0,1,4,5] (.pair s5o (.pair j71 s29)) 0 [0,1] (.pair s5o j71) [] .unit
abbrev u5g:=zL [0,1,4,5] (.pair s5o (.pair (.clo 216 j3s) s29)) 0 [0,1] (.pair s5o (.clo 216 j3s)) [] .unit
abbrev u5h:=zL [0,1,4,5] (.pair s5o (.pair (.clo 217 j3s) s29)) 0 [0,1] (.pair s5o (.clo 217 j3s)) [] .unit
abbrev s4b:=zL [1,6,22,23,24] (.pair u1p (.pair .str j7x)) 0 [6] .str [] .unit
abbrev s4c:=zL [1,2,3,8,9] (.pair u1p (.pair u1p (.pair o2r j7w))) 0 [8] (.tr true j2t) [6,7] q5w
abbrev s9b:=zL [1,2,7,9,10,11] (.pair u1p (.pair o2r (.pair .str (.pair p3q s29)))) 0 [9,10] (.pair p3q u1p) [4,5,6] j6s
abbrev s9g:=zL [3,6,7,8] (.pair q7a o87) 0 [3] q7a [] .unit
abbrev s9a:=zL [5,10,11,12] (.pair u1p o87) 0 [5] u1p [] .unit
abbrev r7h:=zL [0,1,2,7,10,11,12] (.pair r0v (.pair .str (.pair u1p (.pair u1p j26)))) 0 [7] u1p [] .unit
abbrev s6e:=zL [0,4,7,8,9] (.pair .str (.pair u1p j26)) 0 [4] u1p [] .unit
abbrev r3m:=zL [0,1,5,12,13,14] (.pair r0v (.pair u1p (.pair (.box q8q) j26))) 0 [1,5] (.pair u1p (.box q8q)) [] .unit
abbrev s9d:=zL [1,8,9,38,39,40] (.pair u1p (.pair (.clo 293 (.rbox j0s)) (.pair q8q (.pair j0s s29)))) 2 [9] q8q [] .unit
abbrev u4e:=zL [0,1,7,8] (.pair r5n (.pair j6k s29)) 0 [] .unit [4] u1p
abbrev u3y:=zL [0,1,5,6] (.pair q7a (.pair j6k s29)) 0 [0,5] j44 [] .unit
abbrev u2n:=zL [0,1,7,8] (.pair r0v (.pair (.clo 198 (.rbox j2x)) s29)) 0 [] .unit [4] u1p
abbrev s2u:=zL [2,7,14,15,16] (.pair u1p (.pair q8q j3t)) 0 [7] q8q [] .unit
abbrev r3k:=zL [1,9,10,11] (.pair q8p j47) 0 [] .unit [4] .bool
abbrev r3l:=zL [1,6,9,10,11,15,16,17] (.pair q8p (.pair o89 (.pair o8x (.pair u1p (.pair u1p j3t))))) 2 [1,9,10,11] (.pair q8p j47) [4] .bool
abbrev u4t:=zL [0,1,7,8] (.pair r5n (.pair (.clo 366 o8y) s29)) 0 [] .unit [4] u1p
abbrev u31:=zL [0,1,7,8] (.pair r5n (.pair (.clo 285 o8y) s29)) 0 [] .unit [4] u1p
abbrev u3n:=zL [0,1,5,6] (.pair q7a (.pair (.clo 285 o8y) s29)) 0 [0,5] j44 [] .unit
abbrev r3j:LoopA:=⟨⟨[3,4,5,6,46,47,48],(.pair r9d (.pair r5o (.pair r5o (.pair p0g (.pair .skip s29))))),[(46,5,2,u0a)]⟩,0,⟨[3,4,5,6],d0j,[]⟩,⟨[],.unit,[]⟩⟩
abbrev u30:=zL [0,1,7,8] (.pair r5n (.pair (.clo 288 (.rbox .str)) s29)) 0 [] .unit [4] u1p
abbrev s6d:LoopA:=⟨⟨[2,4,6,7,8,9,10,30,31,32],(.pair .str (.pair r9d (.pair r5o (.pair r5o (.pair p0g (.pair q7a (.pair q7a (.pair .skip s29)))))))),[(30,7,2,u0a)]⟩,0,⟨[4,6,7,8,9,10],(.pair r9d (.pair r5o (.pair r5o (.pair p0g (.pair q7a (.tr true u0a)))))),[]⟩,⟨[],.unit,[]⟩⟩
abbrev u3z:=zL [0,1,7,8] (.pair r5n (.pair j6l s29)) 0 [] .unit [4] u1p
abbrev u3m:=zL [0,1,5,6] (.pair q7a (.pair j6l s29)) 0 [0,5] j44 [] .unit
abbrev r3f:=zL [2,4,13,14,15] (.pair r5o (.pair r5o (.pair j3w s29))) 0 [2,4] j46 [2,3] (.pair r5o .bool)
abbrev t42:=zL [0,1,12,13] (.pair o8x j47) 0 [] .unit [4] .bool
abbrev r7g:=zL [3,6,7,8] (.pair p3q j26) 0 [3] p3q [] .unit
abbrev r7f:=zL [0,2,4,7,13,14,15] (.pair r0v (.pair u1p (.pair o89 (.pair o8z (.pair j3w s29))))) 0 [7] o8z [] .unit
abbrev u9b:=zL [0,3,9,10,11] (.pair j48 (.pair u1p (.pair j48 s29))) 0 [0,3] (.pair j48 u1p) [] .unit
abbrev u8r:=zL [6,25,26,27] (.pair q8q (.pair j48 s29)) 2 [6] q8q [] .unit
abbrev s9c:=zL [2,7,14,15,16] (.pair u1p (.pair d0l (.pair j0s s29))) 0 [2,7] (.pair u1p d0l) [6] .bool
abbrev u4d:=zL [1,2,15,16,17] (.pair r5n (.pair (.clo 66 .unit) o87)) 0 [] .unit [6] .bool
abbrev r7d:=zL [1,8,9,10] (.pair o2r (.pair o6v s29)) 0 [1] o2r [2] .bool
abbrev r7e:=zL [1,19,20,21] (.pair o2r j7x) 2 [1] o2r [2] .bool
abbrev s89:=zL [1,33,34,35] (.pair j29 o87) 0 [] .unit [2] .bool
abbrev s6c:=zL [2,3,11,12,13] (.pair o6u (.pair o6u j7x)) 0 [2,3] j1k [] .unit
abbrev s4e:=zL [1,2,3,4,8,10] (.pair u1p (.pair u1p (.pair .str (.pair o2r j1k)))) 0 [8,10] j1k [8,9] j6n
abbrev s6f:=zL [2,4,6,7,24,25,26] (.pair o2r (.pair o6u (.pair u1p (.pair o6u (.pair o6v s29))))) 0 [4,7] j1k [4,5] j6n
abbrev s6p:=zL [0,3,4] (.pair t8b (.pair o8z u1p)) 0 [0,3] (.pair t8b o8z) [] .unit
abbrev s6q:=zL [0,3,4] (.pair t8b (.pair j1h u1p)) 0 [0,3] (.pair t8b j1h) [] .unit
abbrev s2y:=zL [0,3,4] (.pair t8b j3v) 0 [0,3] (.pair t8b q8q) [] .unit
abbrev r4h:=zL [0,2,4,5] (.pair t8b (.pair j0u (.pair u1p j0u))) 1 [0,2,5] (.pair t8b (.pair j0u j0u)) [0,2] (.pair t8b j0u)
abbrev r4b:=zL [0,1,5,6] (.pair t8b (.pair u1p j7w)) 0 [0,5] (.pair t8b (.tr true j2t)) [] .unit
abbrev r7r:=zL [0,2,3,4] (.pair t8b j6i) 0 [0,2,3] (.pair t8b j1k) [] .unit
abbrev s1m:=zL [0,1,5] (.pair r0v j43) 0 [] .unit [4] .bool
abbrev s4f:=zL [0,1,5] (.pair q8p j1j) 0 [] .unit [4] .bool
abbrev r3p:=zL [2,3,5] (.pair r9d j41) 0 [] .unit [4] .bool
abbrev s9j:=zL [0,1,5] (.pair r5n (.pair r5n u1p)) 0 [] .unit [4] .bool
abbrev s6i:=zL [0,1,5] (.pair o6v (.pair o6v u1p)) 0 [] .unit [4] .bool
abbrev s9i:=zL [2,3,5] (.pair o2r j60) 0 [] .unit [4] .bool
def j4n:Nat→Nat→Ht LoopA
 | 320,3=>some r4a
 | 356,5=>some r3w
 | 178,3=>some r4f
 | 123,2=>some q1i
 | 180,2=>some s9v
 | 121,4=>some q1m
 | 131,2=>some s4j
 | 42,4=>some r7i
 | 42,10=>some r3q
 | 42,17=>some r3r
 | 42,24=>some r3s
 | 42,27=>some r3t
 | 73,4=>some s9l
 | 73,10=>some s6j
 | 73,15=>some s6k
 | 74,2=>some r7m
 | 179,3=>some s9n
 | 179,9=>some s9o
 | 232,2=>some r7q
 | 234,6=>some r32
 | 113,8=>some r31
 | 113,15=>some s9q
 | 119,4=>some s2z
 | 38,6=>some s9p
 | 318,2=>some r34
 | 318,6=>some r35
 | 223,5=>some r39
 | 223,10=>some s9u
 | 233,3=>some r4g
 | 117,5=>some s9k
 | 355,4=>some s4h
 | 263,5=>some s4i
 | 157,10=>some s6n
 | 69,3=>some s9m
 | 79,3=>some q1n
 | 71,3=>some r38
 | 71,10=>some s9s
 | 71,14=>some s9t
 | 14,5=>some r7o
 | 307,2=>some r33
 | 387,3=>some s2v
 | 387,8=>some s2w
 | 427,2=>some r36
 | 427,5=>some r37
 | 393,2=>some q1l
 | 333,12=>some s9r
 | 334,4=>some r3x
 | 346,8=>some s6m
 | 346,14=>some s4g
 | 50,4=>some r30
 | 375,4=>some r7k
 | 375,9=>some r7l
 | 351,5=>some s6l
 | 349,5=>some s4k
 | 353,5=>some r4c
 | 358,5=>some s6o
 | 359,2=>some r7n
 | 331,3=>some r4d
 | 331,9=>some r4e
 | 331,15=>some s9w
 | 360,3=>some r3y
 | 360,9=>some r3z
 | 363,2=>some r7s
 | 428,2=>some q1j
 | 428,5=>some q1k
 | 433,2=>some r3u
 | 435,2=>some q42
 | 434,4=>some r7j
 | 434,12=>some r3v
 | 408,5=>some s2x
 | 408,12=>some s1n
 | 56,3=>some r4i
 | 57,3=>some r7p
 | 231,4=>some r3o
 | 97,1=>some s6h
 | 116,1=>some s9h
 | 129,2=>some q1g
 | 237,2=>some s9f
 | 127,2=>some q1h
 | 99,6=>some r3n
 | 99,12=>some s9e
 | 10005,2=>some u3j
 | 170,2=>some s6g
 | 171,3=>some t41
 | 171,11=>some t29
 | 230,2=>some s4d
 | 115,4=>some r7c
 | 115,10=>some r3d
 | 115,16=>some r3e
 | 35,6=>some s88
 | 35,13=>some s6a
 | 35,17=>some s6b
 | 316,2=>some r3h
 | 316,6=>some r3i
 | 317,5=>some r3g
 | 10015,2=>some u5f
 | 10017,2=>some u5t
 | 10018,2=>some u5u
 | 10016,2=>some u5g
 | 10019,2=>some u5h
 | 365,5=>some s4b
 | 278,5=>some s4c
 | 162,7=>some s9b
 | 283,3=>some s9g
 | 172,3=>some s9a
 | 292,3=>some r7h
 | 293,3=>some s6e
 | 175,3=>some r3m
 | 175,11=>some s9d
 | 10002,2=>some u4e
 | 10001,5=>some u3y
 | 10006,2=>some u2n
 | 86,3=>some s2u
 | 195,2=>some r3k
 | 195,5=>some r3l
 | 10009,2=>some u4t
 | 10011,2=>some u31
 | 10010,5=>some u3n
 | 166,9=>some r3j
 | 10012,2=>some u30
 | 168,6=>some s6d
 | 10014,2=>some u3z
 | 10013,5=>some u3m
 | 11,3=>some r3f
 | 87,4=>some t42
 | 202,3=>some r7g
 | 89,3=>some r7f
 | 177,3=>some u9b
 | 177,11=>some u8r
 | 67,3=>some s9c
 | 10000,4=>some u4d
 | 163,2=>some r7d
 | 163,8=>some r7e
 | 63,4=>some s89
 | 344,4=>some s6c
 | 404,5=>some s4e
 | 343,6=>some s6f
 | 385,3=>some s6p
 | 386,3=>some s6q
 | 319,3=>some s2y
 | 259,13=>some r4h
 | 226,5=>some r4b
 | 348,3=>some r7r
 | 132,4=>some s1m
 | 238,4=>some s4f
 | 130,4=>some r3p
 | 133,4=>some s9j
 | 15,4=>some s6i
 | 159,4=>some s9i
 | _,_=>none
def d0w:Nat→Nat
 | 10000=>65
 | 10001=>173
 | 10002=>287
 | 10003=>93
 | 10004=>204
 | 10005=>287
 | 10006=>197
 | 10007=>93
 | 10008=>204
 | 10009=>287
 | 10010=>173
 | 10011=>287
 | 10012=>287
 | 10013=>173
 | 10014=>287
 | 10015=>214
 | 10016=>214
 | 10017=>214
 | 10018=>214
 | 10019=>214
 | f=>f
def j4t:Nat→Hu Nat→Nat
 | 65, [66] =>10000
 | 173, [174] =>10001
 | 287, [174] =>10002
 | 93, [290] =>10003
 | 204, [290] =>10004
 | 287, [290] =>10005
 | 197, [198] =>10006
 | 93, [366] =>10007
 | 204, [366] =>10008
 | 287, [366] =>10009
 | 173, [285] =>10010
 | 287, [285] =>10011
 | 287, [288] =>10012
 | 173, [289] =>10013
 | 287, [289] =>10014
 | 214, [215] =>10015
 | 214, [216] =>10016
 | 214, [218] =>10017
 | 214, [219] =>10018
 | 214, [217] =>10019
 | f,_=>f
def o8a:(f:Nat)→Ht ((j2l f).ins.den→Ht (j2l f).out.den)
 | 200=>some (y2q u0d)
 | 312=>some (y7a)
 | 313=>some (y0m)
 | _=>none
def j03:Plan:= {sig:=j2l,join:=j4i,loop:=j4n,fn:=d0w,pick:=j4t,prim:=o8a,gd:=y8a}
def A:Ann:=ann d0c j03
set_option maxRecDepth 100000
abbrev q69:Type:=(Hu u0a.den)
abbrev s5n:Type:=(Hs×Bool)
abbrev r9b:Type:=(Hu u0d.den)
abbrev s8d:Type:=(Unit⊕Bool)
abbrev q8o:Type:=(Hu Hs)
abbrev o2o:Type:=(Hs×Int)
abbrev r9c:Type:=(Hu Int)
abbrev p9u:Type:=(Unit⊕Int)
abbrev o5e:Type:=(Hu u2f.den)
abbrev j09:Type:=(Hs×Hs)
abbrev j2v:Type:=(Int×Bool)
abbrev q2w:Type:=(Hs×j2v)
abbrev o5f:Type:=(Int⊕Unit)
abbrev o6t:Type:=(Hu q7m.den)
abbrev j2w:Type:=(Int×Int)
abbrev s5m:Type:=(r9c×j2w)
abbrev o86:Type:=(r9b⊕Unit)
abbrev j56:Type:=((q8o×Int)⊕(q8o×j2v))
abbrev j1a:Type:=(r9c⊕Unit)
abbrev j1b:Type:=(u61⊕Bool)
abbrev j57:Type:=(Int×(Hs×j2w))
abbrev j1c:Type:=(s5m×Int)
abbrev j1d:Type:=(Int×r9c)
abbrev j1e:Type:=(Int×j2v)
abbrev j1f:Type:=(Int×o2o)
abbrev j58:Type:=((Int×r9b)⊕Unit)
abbrev j3j:Type:=(j3d⊕Unit)
abbrev j3k:Type:=(q69⊕Unit)
abbrev j3l:Type:=(u99⊕Bool)
abbrev j3m:Type:=(j3d⊕r0w)
abbrev j3n:Type:=(o9j⊕Unit)
abbrev j59:Type:=(Hs⊕Bool)
abbrev j6a:Type:=(Hs⊕Unit)
abbrev j3o:Type:=(Int×j2w)
abbrev j6b:Type:=(Hs×s5n)
abbrev j3p:Type:=(r9b×Int)
abbrev j6c:Type:=(Int×Hs)
abbrev zLv:=y5x Tryz.prog A
abbrev zK (f:Nat) (x:(A.sig f).ins.den):=zLv.call f x
theorem zC (f:Nat) {fn:Func} {X:(A.sig f).ins.den→Ht (A.sig f).out.den} (hp:A.prim f=none) (hf:Tryz.prog.funcs[A.fn f]? =some fn) (hb:z7s A zLv lpW f fn=X):zK f=X:=funext (y7p hp hf (congrFun hb))
theorem zW (l:LoopA) (f:Nat) (fn:Func) (r n:Nat) {S:(l.head.sh.den→Ht (l.out.sh.den⊕l.ret.sh.den))→l.head.sh.den→Ht (l.out.sh.den⊕l.ret.sh.den)} (x:l.head.sh.den) (h:S=z7n A zLv lpW f (y7w fn r) l n):lpW _ _ S x=S (lpW _ _ S) x:=y7x h x
def p6o(x:r9c):Ht Bool:=zK 8 x
def p55 (x:r9c):Ht Bool:=some (decide ((x.length:Int)>(1048576:Int)))
theorem o5y:p6o=p55:=zC 8 rfl Tryz.func8 (by kernel_rfl)
def u6r(x:s5m):Ht (Int×s5m):=zK 220 x
def q0o (x:s5m):Ht (Int×s5m):=cond (decide (x.2.1<(x.1.length:Int))) (cond (y4q x.2.1 x.1.length) (some (IntKind.i64.wrap ((BitVec.ofInt IntKind.i64.bits (IntKind.i64.wrap ((IntKind.i64.wrap ((BitVec.ofInt IntKind.i64.bits (IntKind.i64.wrap ((BitVec.ofInt IntKind.i64.bits (Int.fdiv (IntKind.i64.wrap ((IntKind.i64.wrap (x.2.2*6364136223846793005))+1442695040888963407)) (2^(min (33:Int).toNat IntKind.i64.bits)))^^^BitVec.ofInt IntKind.i64.bits (Int.fdiv (IntKind.i64.wrap ((IntKind.i64.wrap (x.2.2*6364136223846793005))+1442695040888963407)) (2^(min (45:Int).toNat IntKind.i64.bits)))).toNat:Int))&&&BitVec.ofInt IntKind.i64.bits (255:Int)).toNat:Int))+(IntKind.i64.wrap (rdL (Ty.int .u8) x.1 x.2.1.toNat))))&&&BitVec.ofInt IntKind.i64.bits (255:Int)).toNat:Int),x.1,IntKind.i64.wrap (x.2.1+1),IntKind.i64.wrap ((IntKind.i64.wrap (x.2.2*6364136223846793005))+1442695040888963407))) none) (some (IntKind.i64.wrap ((BitVec.ofInt IntKind.i64.bits (IntKind.i64.wrap ((BitVec.ofInt IntKind.i64.bits (Int.fdiv (IntKind.i64.wrap ((IntKind.i64.wrap (x.2.2*6364136223846793005))+1442695040888963407)) (2^(min (33:Int).toNat IntKind.i64.bits)))^^^BitVec.ofInt IntKind.i64.bits (Int.fdiv (IntKind.i64.wrap ((IntKind.i64.wrap (x.2.2*6364136223846793005))+1442695040888963407)) (2^(min (45:Int).toNat IntKind.i64.bits)))).toNat:Int))&&&BitVec.ofInt IntKind.i64.bits (255:Int)).toNat:Int),x.1,x.2.1,IntKind.i64.wrap ((IntKind.i64.wrap (x.2.2*6364136223846793005))+1442695040888963407)))
theorem p43:u6r=q0o:=zC 220 rfl Tryz.func220 (by kernel_rfl)
def u0m(x:j1c):Ht (Int×s5m):=zK 106 x
def r6x (x:j1c):Ht (Int×s5m):=cond (decide (x.2≤0)) (some (0,x.1)) (cond (decide (x.2≤256)) ((u6r x.1).bind fun y1=>cond (!decide (x.2=0)) (some (Int.tmod y1.1 x.2,y1.2)) none) ((u6r x.1).bind fun y2=>(u6r y2.2).bind fun y3=>(u6r y3.2).bind fun y4=>(u6r y4.2).bind fun y5=>cond (!decide (x.2=0)) (some (Int.tmod (IntKind.i64.wrap ((IntKind.i64.wrap ((IntKind.i64.wrap ((IntKind.i64.wrap (y2.1*16777216))+(IntKind.i64.wrap (y3.1*65536))))+(IntKind.i64.wrap (y4.1*256))))+y5.1)) x.2,y5.2)) none))
theorem p2c:u0m=r6x:=zC 106 rfl Tryz.func106 (by kernel_rfl)
def s7y(x:Unit):Ht u61:=zK 152 x
def r95 (x:Unit):Ht u61:=some (([]:Hu u0d.den),([]:Hu u0a.den),([]:Hu u0a.den),0,1)
theorem q1a:s7y=r95:=zC 152 rfl Tryz.func152 (by kernel_rfl)
def s2g(x:Unit):Ht Z73:=zK 267 x
def r2z (x:Unit):Ht Z73:=(s7y ()).bind fun y1=>some (y1,([]:Hu u0a.den))
theorem q9m:s2g=r2z:=zC 267 rfl Tryz.func267 (by kernel_rfl)
def u0u(x:j3o):Ht Bool:=zK 120 x
def q72 (x:j3o):Ht Bool:=((cond (decide (x.1≥x.2.1)) (some (decide (x.1≤x.2.2))) (some false)):Ht Bool).bind fun j1=>some j1
theorem o02:u0u=q72:=zC 120 rfl Tryz.func120 (by kernel_rfl)
def u6s(x:j2w):Ht Hs:=zK 320 x
def t0d(g:(Int×(Int×(r9c×Int)))→Ht j1a)(x:(Int×(Int×(r9c×Int)))):Ht j1a:=cond (decide (x.2.2.2<x.1)) (cond (y4q x.2.2.2 x.2.2.1.length) (g (x.1,x.2.1,x.2.2.1.set x.2.2.2.toNat x.2.1,IntKind.i64.wrap (x.2.2.2+1))) none) (some (.inl x.2.2.1))
def u51:=lpW _ _ t0d
theorem t7i x:u51 x=t0d u51 x:=zW r4a 320 Tryz.f320 3 20 x (by kernel_rfl)
def s7j (x:j2w):Ht Hs:=cond (decide (0≤x.1)&&decide (x.1≤1099511627776)) ((u51 (x.1,x.2,List.replicate x.1.toNat (Ty.int .u8).zero,0)).bind fun r1=>match r1 with | .inl o2=>some (y7g o2) | .inr z3=>none) none
theorem q1b:u6s=s7j:=zC 320 rfl Tryz.func320 (by kernel_rfl)
def s75(x:Unit):Ht Hs:=zK 406 x
def q0u (x:Unit):Ht Hs:=(u6s (64,0)).bind fun y1=>some y1
theorem p48:s75=q0u:=zC 406 rfl Tryz.func406 (by kernel_rfl)
def q1r(x:Int):Ht r0w:=zK 356 x
def s1y(g:j8n→Ht j3j)(x:j8n):Ht j3j:=cond (decide (x.2.2.2<x.1)) ((s75 ()).bind fun y2=>cond (Nat.ble (x.2.2.1.1.length+([y2]:Hu Hs).length) z7w) (g (x.1,x.2.1,(x.2.2.1.1++([y2]:Hu Hs),x.2.2.1.2),IntKind.i64.wrap (x.2.2.2+1))) none) (some (.inl (x.2.1,x.2.2.1)))
def t0o:=lpW _ _ s1y
theorem r4z x:t0o x=s1y t0o x:=zW r3w 356 Tryz.f356 5 23 x (by kernel_rfl)
def r98 (x:Int):Ht r0w:=(u0u (x,1,100)).bind fun y1=>cond (!y1) (some ((([]:Hu Hs),([]:Hu q98.den)),false)) ((t0o (x,(([]:Hu Hs),([]:Hu q98.den)),(([]:Hu Hs),([]:Hu q98.den)),0)).bind fun r3=>match r3 with | .inl o4=>some (o4.2,true) | .inr z5=>none)
theorem p4n:q1r=r98:=zC 356 rfl Tryz.func356 (by kernel_rfl)
def u81(x:Unit):Ht Int:=zK 357 x
def q52 (x:Unit):Ht Int:=some (97:Int)
theorem s84:u81=q52:=zC 357 rfl Tryz.func357 (by kernel_rfl)
def t9e(x:Unit):Ht u99:=zK 268 x
def q3p (x:Unit):Ht u99:=(u81 ()).bind fun y1=>(q1r y1).bind fun y2=>some y2.1
theorem p8b:t9e=q3p:=zC 268 rfl Tryz.func268 (by kernel_rfl)
def s44(x:Unit):Ht Z51:=zK 160 x
def r6s (x:Unit):Ht Z51:=(s2g ()).bind fun y1=>(t9e ()).bind fun y2=>some (y1,y2)
theorem p18:s44=r6s:=zC 160 rfl Tryz.func160 (by kernel_rfl)
def u0z(x:u9x):Ht u9x:=zK 70 x
def s7k (x:u9x):Ht u9x:=cond (Nat.ble (([]:Hu q7m.den).length+x.2.2.2.2.1.length) z7w) (cond (Nat.ble (([]:Hu u2f.den).length+x.2.2.2.2.2.1.length) z7w) (some (x.1,x.2.1,x.2.2.1,x.2.2.2.1,([]:Hu q7m.den)++x.2.2.2.2.1,([]:Hu u2f.den)++x.2.2.2.2.2.1,x.2.2.2.2.2.2)) none) none
theorem q1d:u0z=s7k:=zC 70 rfl Tryz.func70 (by kernel_rfl)
def t5s(x:q69):Ht q69:=zK 178 x
def t6w(g:j5g→Ht j3k)(x:j5g):Ht j3k:=cond (decide (x.2.2<(x.1.length:Int))) (cond (y4q x.2.2 x.1.length) ((u0z (rdL u0a x.1 x.2.2.toNat)).bind fun y1=>cond (Nat.ble (x.2.1.length+([y1]:Hu u0a.den).length) z7w) (g (x.1,x.2.1++([y1]:Hu u0a.den),IntKind.i64.wrap (x.2.2+1))) none) none) (some (.inl x.2.1))
def t7a:=lpW _ _ t6w
theorem r5f x:t7a x=t6w t7a x:=zW r4f 178 Tryz.f178 3 21 x (by kernel_rfl)
def q01 (x:q69):Ht q69:=(t7a (x,([]:Hu u0a.den),0)).bind fun r2=>match r2 with | .inl o3=>some o3 | .inr z4=>none
theorem p5f:t5s=q01:=zC 178 rfl Tryz.func178 (by kernel_rfl)
def u2u(x:u61):Ht u61:=zK 68 x
def q00 (x:u61):Ht u61:=cond (Nat.ble (([]:Hu u0d.den).length+x.1.length) z7w) ((t5s x.2.1).bind fun y1=>(t5s x.2.2.1).bind fun y2=>some (([]:Hu u0d.den)++x.1,y1,y2,x.2.2.2)) none
theorem p5e:u2u=q00:=zC 68 rfl Tryz.func68 (by kernel_rfl)
def u0n(x:Z73):Ht Z73:=zK 72 x
def q04 (x:Z73):Ht Z73:=(u2u x.1).bind fun y1=>(t5s x.2).bind fun y2=>some (y1,y2)
theorem p5i:u0n=q04:=zC 72 rfl Tryz.func72 (by kernel_rfl)
def u6o(x:Hs):Ht Bool:=zK 123 x
def s0h(g:o2o→Ht j59)(x:o2o):Ht j59:=cond (decide (x.2<(x.1.size:Int))) (((cond (y4q x.2 x.1.size) (cond (decide (((x.1.data.toList.getD x.2.toNat 0).toNat:Int)<(97:Int))) (some true) (cond (y4q x.2 x.1.size) (some (decide (((x.1.data.toList.getD x.2.toNat 0).toNat:Int)>(122:Int)))) none)) none):Ht Bool).bind fun j1=>cond j1 (some (.inr false)) (g (x.1,IntKind.i64.wrap (x.2+1)))) (some (.inl x.1))
def s0p:=lpW _ _ s0h
theorem q1x x:s0p x=s0h s0p x:=zW q1i 123 Tryz.f123 2 23 x (by kernel_rfl)
def q7w (x:Hs):Ht Bool:=(s0p (x,0)).bind fun r2=>match r2 with | .inl o3=>((u0u ((o3.size:Int),1,3)).bind fun y4=>some y4) | .inr z5=>some z5
theorem o0w:u6o=q7w:=zC 123 rfl Tryz.func123 (by kernel_rfl)
def t5q(x:j6b):Ht Bool:=zK 75 x
def q0n (x:j6b):Ht Bool:=(((u6o x.1).bind fun y1=>cond y1 (cond (decide ((x.2.1.size:Int)≤(12:Int))) (cond (!x.2.2) (some true) (some (z7o x.2.1 (⟨#[]⟩:Hs)))) (some false)) (some false)):Ht Bool).bind fun j2=>some j2
theorem p42:t5q=q0n:=zC 75 rfl Tryz.func75 (by kernel_rfl)
def t9k(x:o5e):Ht Bool:=zK 180 x
def t37(g:(o5e×Int)→Ht (o5e⊕Bool))(x:(o5e×Int)):Ht (o5e⊕Bool):=cond (decide (x.2<(x.1.length:Int))) (((cond (y4q x.2 x.1.length) ((t5q (rdL u2f x.1 x.2.toNat)).bind fun y1=>cond (!y1) (some true) (cond (decide (x.2>0)) (cond (y4q (IntKind.i64.wrap (x.2 - 1)) x.1.length) (cond (y4q x.2 x.1.length) (some (!y3c (rdL u2f x.1 (IntKind.i64.wrap (x.2 - 1)).toNat).1 (rdL u2f x.1 x.2.toNat).1)) none) none) (some false))) none):Ht Bool).bind fun j2=>cond j2 (some (.inr false)) (g (x.1,IntKind.i64.wrap (x.2+1)))) (some (.inl x.1))
def t4n:=lpW _ _ t37
theorem r0t x:t4n x=t37 t4n x:=zW s9v 180 Tryz.f180 2 37 x (by kernel_rfl)
def r6w (x:o5e):Ht Bool:=(t4n (x,0)).bind fun r3=>match r3 with | .inl o4=>some (decide ((o4.length:Int)≤(8:Int))) | .inr z5=>some z5
theorem p2b:t9k=r6w:=zC 180 rfl Tryz.func180 (by kernel_rfl)
def t5p(x:j09):Ht Bool:=zK 235 x
def q0e (x:j09):Ht Bool:=(((u6o x.1).bind fun y1=>cond y1 ((u6o x.2).bind fun y2=>cond y2 (some (y3c x.1 x.2||z7o x.1 x.2)) (some false)) (some false)):Ht Bool).bind fun j3=>some j3
theorem p4t:t5p=q0e:=zC 235 rfl Tryz.func235 (by kernel_rfl)
def u6q(x:u9x):Ht Bool:=zK 121 x
def s0l(g:o7k→Ht (u9x⊕Bool))(x:o7k):Ht (u9x⊕Bool):=cond (decide (x.2<(x.1.2.2.2.2.1.length:Int))) (cond (y4q x.2 x.1.2.2.2.2.1.length) ((t5p (rdL q7m x.1.2.2.2.2.1 x.2.toNat)).bind fun y6=>cond (!y6) (some (.inr false)) (g (x.1,IntKind.i64.wrap (x.2+1)))) none) (some (.inl x.1))
def s0s:=lpW _ _ s0l
theorem q11 x:s0s x=s0l s0s x:=zW q1m 121 Tryz.f121 4 95 x (by kernel_rfl)
def q71 (x:u9x):Ht Bool:=(((u0u (x.1,1,9999)).bind fun y1=>cond (!y1) (some true) ((u0u (x.2.1,1,3)).bind fun y2=>cond (!y2) (some true) ((u0u (x.2.2.1,0,9999)).bind fun y3=>cond (!y3) (some true) (cond (decide ((x.2.2.2.2.1.length:Int)>(8:Int))) (some true) ((t9k x.2.2.2.2.2.1).bind fun y4=>some (!y4)))))):Ht Bool).bind fun j5=>cond j5 (some false) ((s0s (x,0)).bind fun r7=>match r7 with | .inl o8=>(((cond (decide (o8.2.1=3)) ((u0u (o8.2.2.2.1,IntKind.i64.wrap (o8.2.2.1+1),9999)).bind fun y9=>cond (!y9) (some true) (cond (!decide (o8.2.1=3)) (some (!decide (o8.2.2.2.1=0))) (some false))) (cond (!decide (o8.2.1=3)) (some (!decide (o8.2.2.2.1=0))) (some false))):Ht Bool).bind fun j10=>cond j10 (some false) (((cond (decide (o8.2.1=2)) ((u6o o8.2.2.2.2.2.2.2).bind fun y11=>cond (!y11) (some true) (cond (!decide (o8.2.1=2)) (some (!z7o o8.2.2.2.2.2.2.2 (⟨#[]⟩:Hs))) (some false))) (cond (!decide (o8.2.1=2)) (some (!z7o o8.2.2.2.2.2.2.2 (⟨#[]⟩:Hs))) (some false))):Ht Bool).bind fun j12=>cond j12 (some false) (((cond (!decide (o8.2.1=1)) (some true) (some (!o8.2.2.2.2.2.2.1))):Ht Bool).bind fun j13=>some j13))) | .inr z14=>some z14)
theorem o01:u6q=q71:=zC 121 rfl Tryz.func121 (by kernel_rfl)
def t98(x:r9b):Ht Bool:=zK 131 x
def u9o(g:j3p→Ht (r9b⊕Bool))(x:j3p):Ht (r9b⊕Bool):=cond (decide (x.2<(x.1.length:Int))) (cond (y4q x.2 x.1.length) ((((u6o (rdL u0d x.1 x.2.toNat).1).bind fun y1=>cond (!y1) (some true) (cond (decide (((rdL u0d x.1 x.2.toNat).2.1.size:Int)>(12:Int))) (some true) (cond (rdL u0d x.1 x.2.toNat).2.2.1 (cond (!z7o (rdL u0d x.1 x.2.toNat).2.1 (⟨#[]⟩:Hs)) (some true) ((u0u ((rdL u0d x.1 x.2.toNat).2.2.2,1,9999)).bind fun y2=>some (!y2))) ((u0u ((rdL u0d x.1 x.2.toNat).2.2.2,1,9999)).bind fun y3=>some (!y3))))):Ht Bool).bind fun j4=>cond j4 (some (.inr false)) (((cond (decide (x.2>0)) (cond (y4q (IntKind.i64.wrap (x.2 - 1)) x.1.length) (cond (!(y3c (rdL u0d x.1 (IntKind.i64.wrap (x.2 - 1)).toNat).1 (rdL u0d x.1 x.2.toNat).1||z7o (rdL u0d x.1 (IntKind.i64.wrap (x.2 - 1)).toNat).1 (rdL u0d x.1 x.2.toNat).1)) (some true) (cond (y4q (IntKind.i64.wrap (x.2 - 1)) x.1.length) (cond (z7o (rdL u0d x.1 (IntKind.i64.wrap (x.2 - 1)).toNat).1 (rdL u0d x.1 x.2.toNat).1) (cond (y4q (IntKind.i64.wrap (x.2 - 1)) x.1.length) (some (decide ((rdL u0d x.1 (IntKind.i64.wrap (x.2 - 1)).toNat).2.2.2≥(rdL u0d x.1 x.2.toNat).2.2.2))) none) (some false)) none)) none) (some false)):Ht Bool).bind fun j5=>cond j5 (some (.inr false)) (g (x.1,IntKind.i64.wrap (x.2+1))))) none) (some (.inl x.1))
def u9w:=lpW _ _ u9o
theorem s5k x:u9w x=u9o u9w x:=zW s4j 131 Tryz.f131 2 78 x (by kernel_rfl)
def s8v (x:r9b):Ht Bool:=(u9w (x,0)).bind fun r6=>match r6 with | .inl o7=>some (decide ((o7.length:Int)≤(120:Int))) | .inr z8=>some z8
theorem q6n:t98=s8v:=zC 131 rfl Tryz.func131 (by kernel_rfl)
def u7z(x:u61):Ht Bool:=zK 42 x
def t8j(g:j38→Ht j1b)(x:j38):Ht j1b:=cond (decide (x.2<(x.1.1.length:Int))) (cond (y4q x.2 x.1.1.length) (cond (decide ((rdL u0d x.1.1 x.2.toNat).2.2.2>x.1.2.2.2.1)) (some (.inr false)) (g (x.1,IntKind.i64.wrap (x.2+1)))) none) (some (.inl x.1))
def t2v:=lpW _ _ t8j
theorem r8h x:t2v x=t8j t2v x:=zW r7i 42 Tryz.f42 4 179 x (by kernel_rfl)
def t6d(g:Z90→Ht (j3a⊕Bool))(x:Z90):Ht (j3a⊕Bool):=cond (decide (x.2.2<(x.1.2.1.length:Int))) (cond (y4q x.2.2 x.1.2.1.length) ((((u6q (rdL u0a x.1.2.1 x.2.2.toNat)).bind fun y7=>cond (!y7) (some true) (cond (!decide ((rdL u0a x.1.2.1 x.2.2.toNat).2.1=3)) (some true) (cond (decide ((rdL u0a x.1.2.1 x.2.2.toNat).2.2.2.1>x.1.2.2.2.1)) (some true) (cond (decide (x.2.2>0)) (cond (y4q (IntKind.i64.wrap (x.2.2 - 1)) x.1.2.1.length) (some (decide ((rdL u0a x.1.2.1 (IntKind.i64.wrap (x.2.2 - 1)).toNat).2.2.2.1≥(rdL u0a x.1.2.1 x.2.2.toNat).2.2.2.1))) none) (some false))))):Ht Bool).bind fun j8=>cond j8 (some (.inr false)) (cond (Nat.ble (x.2.1.length+([(rdL u0a x.1.2.1 x.2.2.toNat).1]:Hu Int).length) z7w) (g (x.1,x.2.1++([(rdL u0a x.1.2.1 x.2.2.toNat).1]:Hu Int),IntKind.i64.wrap (x.2.2+1))) none)) none) (some (.inl (x.1,x.2.1)))
def u69:=lpW _ _ t6d
theorem r4u x:u69 x=t6d u69 x:=zW r3q 42 Tryz.f42 10 179 x (by kernel_rfl)
def t6e(g:Z90→Ht (j3a⊕Bool))(x:Z90):Ht (j3a⊕Bool):=cond (decide (x.2.2<(x.1.2.2.1.length:Int))) (cond (y4q x.2.2 x.1.2.2.1.length) ((((u6q (rdL u0a x.1.2.2.1 x.2.2.toNat)).bind fun y11=>cond (!y11) (some true) (cond (!decide ((rdL u0a x.1.2.2.1 x.2.2.toNat).2.1=2)) (some true) (cond (decide ((rdL u0a x.1.2.2.1 x.2.2.toNat).2.2.1>x.1.2.2.2.1)) (some true) (cond (decide (x.2.2>0)) (cond (y4q (IntKind.i64.wrap (x.2.2 - 1)) x.1.2.2.1.length) (some (!y3c (rdL u0a x.1.2.2.1 (IntKind.i64.wrap (x.2.2 - 1)).toNat).2.2.2.2.2.2.2 (rdL u0a x.1.2.2.1 x.2.2.toNat).2.2.2.2.2.2.2)) none) (some false))))):Ht Bool).bind fun j12=>cond j12 (some (.inr false)) (cond (Nat.ble (x.2.1.length+([(rdL u0a x.1.2.2.1 x.2.2.toNat).1]:Hu Int).length) z7w) (g (x.1,x.2.1++([(rdL u0a x.1.2.2.1 x.2.2.toNat).1]:Hu Int),IntKind.i64.wrap (x.2.2+1))) none)) none) (some (.inl (x.1,x.2.1)))
def t0l:=lpW _ _ t6e
theorem r4v x:t0l x=t6e t0l x:=zW r3r 42 Tryz.f42 17 179 x (by kernel_rfl)
def t6g(g:Z83→Ht (Z90⊕Bool))(x:Z83):Ht (Z90⊕Bool):=cond (decide (x.2.2.2<x.2.2.1)) (cond (y4q x.2.2.2 x.2.1.length) (cond (y4q x.2.2.1 x.2.1.length) (cond (decide ((rdL (Ty.int .i64) x.2.1 x.2.2.2.toNat)=(rdL (Ty.int .i64) x.2.1 x.2.2.1.toNat))) (some (.inr false)) (g (x.1,x.2.1,x.2.2.1,IntKind.i64.wrap (x.2.2.2+1)))) none) none) (some (.inl (x.1,x.2.1,x.2.2.1)))
def t0m:=lpW _ _ t6g
theorem r4x x:t0m x=t6g t0m x:=zW r3t 42 Tryz.f42 27 179 x (by kernel_rfl)
def t6f(g:Z90→Ht s8d)(x:Z90):Ht s8d:=cond (decide (x.2.2<(x.2.1.length:Int))) ((t0m (x.1,x.2.1,x.2.2,0)).bind fun r15=>match r15 with | .inl o16=>cond (y4q o16.2.2 o16.2.1.length) (cond (decide ((rdL (Ty.int .i64) o16.2.1 o16.2.2.toNat)≥o16.1.2.2.2.2)) (some (.inr false)) (g (o16.1,o16.2.1,IntKind.i64.wrap (o16.2.2+1)))) none | .inr z17=>some (.inr z17)) (some (.inl ()))
def u7a:=lpW _ _ t6f
theorem r4w x:u7a x=t6f u7a x:=zW r3s 42 Tryz.f42 24 179 x (by kernel_rfl)
def q3i (x:u61):Ht Bool:=(((t98 x.1).bind fun y1=>cond (!y1) (some true) (cond (decide ((x.2.1.length:Int)>(12:Int))) (some true) (cond (decide ((x.2.2.1.length:Int)>(3:Int))) (some true) ((u0u (x.2.2.2.1,0,9999)).bind fun y2=>cond (!y2) (some true) ((u0u (x.2.2.2.2,1,9999)).bind fun y3=>some (!y3)))))):Ht Bool).bind fun j4=>cond j4 (some false) ((t2v (x,0)).bind fun r5=>match r5 with | .inl o6=>((u69 (o6,([]:Hu Int),0)).bind fun r9=>match r9 with | .inl o10=>((t0l (o10.1,o10.2,0)).bind fun r13=>match r13 with | .inl o14=>((u7a (o14.1,o14.2,0)).bind fun r18=>match r18 with | .inl o19=>some true | .inr z20=>some z20) | .inr z21=>some z21) | .inr z22=>some z22) | .inr z23=>some z23)
theorem p74:u7z=q3i:=zC 42 rfl Tryz.func42 (by kernel_rfl)
def s41(x:Z73):Ht Bool:=zK 73 x
def t11(g:Z26→Ht (Z29⊕Bool))(x:Z26):Ht (Z29⊕Bool):=cond (decide (x.2.2.2<(x.1.1.2.1.length:Int))) (cond (y4q x.2.2.2 x.1.1.2.1.length) (cond (decide ((rdL u0a x.1.1.2.1 x.2.2.2.toNat).1=x.2.2.1.1)) (some (.inr false)) (g (x.1,x.2.1,x.2.2.1,IntKind.i64.wrap (x.2.2.2+1)))) none) (some (.inl (x.1,x.2.1,x.2.2.1)))
def u7v:=lpW _ _ t11
theorem s7b x:u7v x=t11 u7v x:=zW s6j 73 Tryz.f73 10 105 x (by kernel_rfl)
def t12(g:Z26→Ht (Z70⊕Bool))(x:Z26):Ht (Z70⊕Bool):=cond (decide (x.2.2.2<(x.1.1.2.2.1.length:Int))) (cond (y4q x.2.2.2 x.1.1.2.2.1.length) (cond (decide ((rdL u0a x.1.1.2.2.1 x.2.2.2.toNat).1=x.2.2.1.1)) (some (.inr false)) (g (x.1,x.2.1,x.2.2.1,IntKind.i64.wrap (x.2.2.2+1)))) none) (some (.inl (x.1,x.2.1)))
def u5r:=lpW _ _ t12
theorem s7c x:u5r x=t12 u5r x:=zW s6k 73 Tryz.f73 15 105 x (by kernel_rfl)
def t3w(g:Z70→Ht s8d)(x:Z70):Ht s8d:=cond (decide (x.2<(x.1.2.length:Int))) (cond (y4q x.2 x.1.2.length) ((((u6q (rdL u0a x.1.2 x.2.toNat)).bind fun y3=>cond (!y3) (some true) (cond (!decide ((rdL u0a x.1.2 x.2.toNat).2.1=1)) (some true) (cond (decide ((rdL u0a x.1.2 x.2.toNat).1≥x.1.1.2.2.2.2)) (some true) (cond (decide ((rdL u0a x.1.2 x.2.toNat).2.2.1>x.1.1.2.2.2.1)) (some true) (cond (decide (x.2>0)) (cond (y4q (IntKind.i64.wrap (x.2 - 1)) x.1.2.length) (some (decide ((rdL u0a x.1.2 (IntKind.i64.wrap (x.2 - 1)).toNat).1≥(rdL u0a x.1.2 x.2.toNat).1))) none) (some false)))))):Ht Bool).bind fun j4=>cond j4 (some (.inr false)) ((u7v (x.1,x.2,rdL u0a x.1.2 x.2.toNat,0)).bind fun r5=>match r5 with | .inl o6=>((u5r (o6.1,o6.2.1,o6.2.2,0)).bind fun r7=>match r7 with | .inl o8=>g (o8.1,IntKind.i64.wrap (o8.2+1)) | .inr z9=>some (.inr z9)) | .inr z10=>some (.inr z10))) none) (some (.inl ()))
def u6u:=lpW _ _ t3w
theorem r0j x:u6u x=t3w u6u x:=zW s9l 73 Tryz.f73 4 105 x (by kernel_rfl)
def r6k (x:Z73):Ht Bool:=(((u7z x.1).bind fun y1=>cond (!y1) (some true) (some (decide ((x.2.length:Int)>(4:Int))))):Ht Bool).bind fun j2=>cond j2 (some false) ((u6u (x,0)).bind fun r11=>match r11 with | .inl o12=>some true | .inr z13=>some z13)
theorem p10:s41=r6k:=zC 73 rfl Tryz.func73 (by kernel_rfl)
def t3e(x:Z73):Ht Z63:=zK 17 x
def q7u (x:Z73):Ht Z63:=(u0n x).bind fun y1=>(((s41 x).bind fun y2=>cond (!y2) (some true) (cond (decide ((x.2.length:Int)≥(4:Int))) (some true) (some (decide (x.1.2.2.2.2≥9999))))):Ht Bool).bind fun j3=>cond j3 (some (y1,0,3)) (cond (Nat.ble (y1.2.length+([(x.1.2.2.2.2,1,x.1.2.2.2.1,0,([]:Hu q7m.den),([]:Hu u2f.den),false,(⟨#[]⟩:Hs))]:Hu u0a.den).length) z7w) (some (((y1.1.1,y1.1.2.1,y1.1.2.2.1,y1.1.2.2.2.1,IntKind.i64.wrap (x.1.2.2.2.2+1)),y1.2++([(x.1.2.2.2.2,1,x.1.2.2.2.1,0,([]:Hu q7m.den),([]:Hu u2f.den),false,(⟨#[]⟩:Hs))]:Hu u0a.den)),x.1.2.2.2.2,0)) none)
theorem o0u:t3e=q7u:=zC 17 rfl Tryz.func17 (by kernel_rfl)
def u6i(x:Z70):Ht Int:=zK 74 x
def t2p(g:Z64→Ht p9u)(x:Z64):Ht p9u:=cond (decide (x.2.2<(x.2.1.2.length:Int))) (cond (y4q x.2.2 x.2.1.2.length) (cond (decide ((rdL u0a x.2.1.2 x.2.2.toNat).1=x.1)) (some (.inr x.2.2)) (g (x.1,x.2.1,IntKind.i64.wrap (x.2.2+1)))) none) (some (.inl ()))
def t2x:=lpW _ _ t2p
theorem r8l x:t2x x=t2p t2x x:=zW r7m 74 Tryz.f74 2 22 x (by kernel_rfl)
def q3q (x:Z70):Ht Int:=(t2x (x.2,x.1,0)).bind fun r1=>match r1 with | .inl o2=>some (- 1:Int) | .inr z3=>some z3
theorem p8c:u6i=q3q:=zC 74 rfl Tryz.func74 (by kernel_rfl)
def t9g(x:j9k):Ht o5e:=zK 179 x
def t3y(g:j5f→Ht (j8x⊕Unit))(x:j5f):Ht (j8x⊕Unit):=cond (decide (x.2.2.2<(x.1.length:Int))) (cond (y4q x.2.2.2 x.1.length) (cond (y3c (rdL u2f x.1 x.2.2.2.toNat).1 x.2.1.1) (cond (y4q x.2.2.2 x.1.length) (cond (Nat.ble (x.2.2.1.length+([(rdL u2f x.1 x.2.2.2.toNat)]:Hu u2f.den).length) z7w) (g (x.1,x.2.1,x.2.2.1++([(rdL u2f x.1 x.2.2.2.toNat)]:Hu u2f.den),IntKind.i64.wrap (x.2.2.2+1))) none) none) (g (x.1,x.2.1,x.2.2.1,IntKind.i64.wrap (x.2.2.2+1)))) none) (some (.inl (x.1,x.2.1,x.2.2.1)))
def t4k:=lpW _ _ t3y
theorem r0l x:t4k x=t3y t4k x:=zW s9n 179 Tryz.f179 3 56 x (by kernel_rfl)
def t3z(g:j5f→Ht (o5e⊕Unit))(x:j5f):Ht (o5e⊕Unit):=cond (decide (x.2.2.2<(x.1.length:Int))) (cond (y4q x.2.2.2 x.1.length) (cond (!(y3c (rdL u2f x.1 x.2.2.2.toNat).1 x.2.1.1||z7o (rdL u2f x.1 x.2.2.2.toNat).1 x.2.1.1)) (cond (y4q x.2.2.2 x.1.length) (cond (Nat.ble (x.2.2.1.length+([(rdL u2f x.1 x.2.2.2.toNat)]:Hu u2f.den).length) z7w) (g (x.1,x.2.1,x.2.2.1++([(rdL u2f x.1 x.2.2.2.toNat)]:Hu u2f.den),IntKind.i64.wrap (x.2.2.2+1))) none) none) (g (x.1,x.2.1,x.2.2.1,IntKind.i64.wrap (x.2.2.2+1)))) none) (some (.inl x.2.2.1))
def t4l:=lpW _ _ t3z
theorem r0m x:t4l x=t3z t4l x:=zW s9o 179 Tryz.f179 9 56 x (by kernel_rfl)
def r6n (x:j9k):Ht o5e:=(t4k (x.1,x.2,([]:Hu u2f.den),0)).bind fun r1=>match r1 with | .inl o2=>cond (Nat.ble (o2.2.2.length+([o2.2.1]:Hu u2f.den).length) z7w) ((t4l (o2.1,o2.2.1,o2.2.2++([o2.2.1]:Hu u2f.den),0)).bind fun r3=>match r3 with | .inl o4=>some o4 | .inr z5=>none) none | .inr z6=>none
theorem p13:t9g=r6n:=zC 179 rfl Tryz.func179 (by kernel_rfl)
def s46(x:j75):Ht j3c:=zK 76 x
def r6v (x:j75):Ht j3c:=(u0z x.1).bind fun y1=>(((u6q x.1).bind fun y2=>cond (!y2) (some true) (cond (!decide (x.1.2.1=1)) (some true) ((t5q x.2).bind fun y3=>some (!y3)))):Ht Bool).bind fun j4=>cond j4 (some (y1,false)) ((t9g (x.1.2.2.2.2.2.1,x.2)).bind fun y5=>(t9k y5).bind fun y6=>cond (!y6) ((u0z x.1).bind fun y7=>some (y7,false)) (some ((y1.1,y1.2.1,y1.2.2.1,y1.2.2.2.1,y1.2.2.2.2.1,y5,y1.2.2.2.2.2.2),true)))
theorem p2a:s46=r6v:=zC 76 rfl Tryz.func76 (by kernel_rfl)
def t4v(x:Z49):Ht Z70:=zK 18 x
def q3t (x:Z49):Ht Z70:=(u0n x.1).bind fun y1=>(u6i (x.1,x.2.1)).bind fun y2=>cond (decide (y2<0)) (some (y1,1)) ((t5q x.2.2).bind fun y3=>cond (!y3) (some (y1,2)) (cond (y4q y2 x.1.2.length) ((s46 (rdL u0a x.1.2 y2.toNat,x.2.2)).bind fun y4=>cond (!y4.2) (some (y1,3)) (cond (y4q y2 y1.2.length) (some ((y1.1,y1.2.set y2.toNat y4.1),0)) none)) none))
theorem p8f:t4v=q3t:=zC 18 rfl Tryz.func18 (by kernel_rfl)
def u04(x:u99):Ht u99:=zK 261 x
def q0t (x:u99):Ht u99:=cond (Nat.ble (([]:Hu Hs).length+x.1.length) z7w) (cond (Nat.ble (([]:Hu q98.den).length+x.2.length) z7w) (some (([]:Hu Hs)++x.1,([]:Hu q98.den)++x.2)) none) none
theorem p47:u04=q0t:=zC 261 rfl Tryz.func261 (by kernel_rfl)
def t5t(x:Z51):Ht Z51:=zK 155 x
def s7l (x:Z51):Ht Z51:=(u0n x.1).bind fun y1=>(u04 x.2).bind fun y2=>some (y1,y2)
theorem q1e:t5t=s7l:=zC 155 rfl Tryz.func155 (by kernel_rfl)
def u10(x:Int):Ht Hs:=zK 232 x
def r5q(g:j1d→Ht (j1d⊕Unit))(x:j1d):Ht (j1d⊕Unit):=cond (decide (x.1>127)) (cond (Nat.ble (x.2.length+([(IntKind.u8.wrap (IntKind.i64.wrap ((Int.tmod x.1 (128:Int))+128)))]:Hu Int).length) z7w) (g (IntKind.i64.wrap (Int.tdiv x.1 (128:Int)),x.2++([(IntKind.u8.wrap (IntKind.i64.wrap ((Int.tmod x.1 (128:Int))+128)))]:Hu Int))) none) (some (.inl x))
def t8y:=lpW _ _ r5q
theorem p3l x:t8y x=r5q t8y x:=zW r7q 232 Tryz.f232 2 22 x (by kernel_rfl)
def q3y (x:Int):Ht Hs:=(t8y (x,([]:Hu Int))).bind fun r1=>match r1 with | .inl o2=>cond (Nat.ble (o2.2.length+([(IntKind.u8.wrap o2.1)]:Hu Int).length) z7w) (some (y7g (o2.2++([(IntKind.u8.wrap o2.1)]:Hu Int)))) none | .inr z3=>none
theorem p8k:u10=q3y:=zC 232 rfl Tryz.func232 (by kernel_rfl)
def s07(x:o2o):Ht j1e:=zK 234 x
def t6n(g:j92→Ht (Unit⊕j1e))(x:j92):Ht (Unit⊕j1e):=((cond (decide (x.2.2.2.2<(x.1.size:Int))) (some (decide (x.2.2.2.2<(IntKind.i64.wrap (x.2.1+5))))) (some false)):Ht Bool).bind fun j2=>cond j2 (cond (y4q x.2.2.2.2 x.1.size) (cond (y4q x.2.2.2.2 x.1.size) (cond (decide (((x.1.data.toList.getD x.2.2.2.2.toNat 0).toNat:Int)<(128:Int))) (((cond (decide ((IntKind.i64.wrap (x.2.2.1+(IntKind.i64.wrap ((Int.tmod (IntKind.i64.wrap ((x.1.data.toList.getD x.2.2.2.2.toNat 0).toNat:Int)) (128:Int))*x.2.2.2.1))))>1000000000)) (some true) ((u10 (IntKind.i64.wrap (x.2.2.1+(IntKind.i64.wrap ((Int.tmod (IntKind.i64.wrap ((x.1.data.toList.getD x.2.2.2.2.toNat 0).toNat:Int)) (128:Int))*x.2.2.2.1))))).bind fun y3=>cond (decide (0≤x.2.1)&&decide (x.2.1≤(IntKind.i64.wrap (x.2.2.2.2+1)))&&decide ((IntKind.i64.wrap (x.2.2.2.2+1))≤(x.1.size:Int))) (some (!z7o y3 (x.1.extract x.2.1.toNat (IntKind.i64.wrap (x.2.2.2.2+1)).toNat))) none)):Ht Bool).bind fun j4=>cond j4 (some (.inr (0,0,false))) (some (.inr (IntKind.i64.wrap (x.2.2.1+(IntKind.i64.wrap ((Int.tmod (IntKind.i64.wrap ((x.1.data.toList.getD x.2.2.2.2.toNat 0).toNat:Int)) (128:Int))*x.2.2.2.1))),IntKind.i64.wrap (x.2.2.2.2+1),true)))) (g (x.1,x.2.1,IntKind.i64.wrap (x.2.2.1+(IntKind.i64.wrap ((Int.tmod (IntKind.i64.wrap ((x.1.data.toList.getD x.2.2.2.2.toNat 0).toNat:Int)) (128:Int))*x.2.2.2.1))),IntKind.i64.wrap (x.2.2.2.1*128),IntKind.i64.wrap (x.2.2.2.2+1)))) none) none) (some (.inl ()))
def t65:=lpW _ _ t6n
theorem r45 x:t65 x=t6n t65 x:=zW r32 234 Tryz.f234 6 58 x (by kernel_rfl)
def q0g (x:o2o):Ht j1e:=(u0u (x.2,0,(x.1.size:Int))).bind fun y1=>cond (!y1) (some (0,0,false)) ((t65 (x.1,x.2,0,1,x.2)).bind fun r5=>match r5 with | .inl o6=>some (0,0,false) | .inr z7=>some z7)
theorem p4v:s07=q0g:=zC 234 rfl Tryz.func234 (by kernel_rfl)
def t7g(x:o2o):Ht q2w:=zK 227 x
def r24 (x:o2o):Ht q2w:=(s07 x).bind fun y1=>((cond (!y1.2.2) (some true) (cond (decide (y1.1>20000)) (some true) (some (decide (y1.1>(IntKind.i64.wrap ((x.1.size:Int) - y1.2.1))))))):Ht Bool).bind fun j2=>cond j2 (some ((⟨#[]⟩:Hs),0,false)) (cond (decide (0≤y1.2.1)&&decide (y1.2.1≤(IntKind.i64.wrap (y1.2.1+y1.1)))&&decide ((IntKind.i64.wrap (y1.2.1+y1.1))≤(x.1.size:Int))) (some (x.1.extract y1.2.1.toNat (IntKind.i64.wrap (y1.2.1+y1.1)).toNat,IntKind.i64.wrap (y1.2.1+y1.1),true)) none)
theorem q9r:t7g=r24:=zC 227 rfl Tryz.func227 (by kernel_rfl)
def u13(x:q2w):Ht j5v:=zK 111 x
def s37 (x:q2w):Ht j5v:=(t7g (x.1,x.2.1)).bind fun y1=>((cond x.2.2 (some true) (some (!y1.2.2))):Ht Bool).bind fun j2=>cond j2 (some ((⟨#[]⟩:Hs),x.1,x.2.1,true)) (some (y1.1,x.1,y1.2.1,x.2.2))
theorem q2d:u13=s37:=zC 111 rfl Tryz.func111 (by kernel_rfl)
def u6x(x:q2w):Ht (Bool×q2w):=zK 112 x
def s8x (x:q2w):Ht (Bool×q2w):=((cond x.2.2 (some true) (cond (decide (x.2.1≥(x.1.size:Int))) (some true) (cond (y4q x.2.1 x.1.size) (some (decide (((x.1.data.toList.getD x.2.1.toNat 0).toNat:Int)>(1:Int)))) none))):Ht Bool).bind fun j1=>cond j1 (some (false,x.1,x.2.1,true)) (cond (y4q (IntKind.i64.wrap ((IntKind.i64.wrap (x.2.1+1)) - 1)) x.1.size) (some (decide (((x.1.data.toList.getD (IntKind.i64.wrap ((IntKind.i64.wrap (x.2.1+1)) - 1)).toNat 0).toNat:Int)=(1:Int)),x.1,IntKind.i64.wrap (x.2.1+1),x.2.2)) none)
theorem q6p:u6x=s8x:=zC 112 rfl Tryz.func112 (by kernel_rfl)
def u2z(x:q2w):Ht (Int×q2w):=zK 118 x
def q38 (x:q2w):Ht (Int×q2w):=(s07 (x.1,x.2.1)).bind fun y1=>((cond x.2.2 (some true) (some (!y1.2.2))):Ht Bool).bind fun j2=>cond j2 (some (0,x.1,x.2.1,true)) (some (y1.1,x.1,y1.2.1,x.2.2))
theorem p8t:u2z=q38:=zC 118 rfl Tryz.func118 (by kernel_rfl)
def s06(x:o2o):Ht j8h:=zK 113 x
def t6m(g:Z34→Ht (Z39⊕Unit))(x:Z34):Ht (Z39⊕Unit):=((cond (decide (x.2.2.2.2<x.2.2.2.1)) (cond (decide (x.2.2.2.2<10)) (some (!x.2.1.2.2)) (some false)) (some false)):Ht Bool).bind fun j6=>cond j6 ((u13 x.2.1).bind fun y7=>(u13 y7.2).bind fun y8=>cond (Nat.ble (x.2.2.1.2.2.2.2.1.length+([(y7.1,y8.1)]:Hu q7m.den).length) z7w) (g (x.1,y8.2,(x.2.2.1.1,x.2.2.1.2.1,x.2.2.1.2.2.1,x.2.2.1.2.2.2.1,x.2.2.1.2.2.2.2.1++([(y7.1,y8.1)]:Hu q7m.den),x.2.2.1.2.2.2.2.2),x.2.2.2.1,IntKind.i64.wrap (x.2.2.2.2+1))) none) (some (.inl (x.1,x.2.1,x.2.2.1)))
def t0r:=lpW _ _ t6m
theorem r44 x:t0r x=t6m t0r x:=zW r31 113 Tryz.f113 8 115 x (by kernel_rfl)
def t32(g:Z34→Ht (Z39⊕Unit))(x:Z34):Ht (Z39⊕Unit):=((cond (decide (x.2.2.2.2<x.2.2.2.1)) (cond (decide (x.2.2.2.2<10)) (some (!x.2.1.2.2)) (some false)) (some false)):Ht Bool).bind fun j12=>cond j12 ((u13 x.2.1).bind fun y13=>(u13 y13.2).bind fun y14=>(u6x y14.2).bind fun y15=>cond (Nat.ble (x.2.2.1.2.2.2.2.2.1.length+([(y13.1,y14.1,y15.1)]:Hu u2f.den).length) z7w) (g (x.1,y15.2,(x.2.2.1.1,x.2.2.1.2.1,x.2.2.1.2.2.1,x.2.2.1.2.2.2.1,x.2.2.1.2.2.2.2.1,x.2.2.1.2.2.2.2.2.1++([(y13.1,y14.1,y15.1)]:Hu u2f.den),x.2.2.1.2.2.2.2.2.2),x.2.2.2.1,IntKind.i64.wrap (x.2.2.2.2+1))) none) (some (.inl (x.1,x.2.1,x.2.2.1)))
def u8l:=lpW _ _ t32
theorem r0o x:u8l x=t32 u8l x:=zW s9q 113 Tryz.f113 15 115 x (by kernel_rfl)
def q0f (x:o2o):Ht j8h:=(u2z (x.1,x.2,false)).bind fun y1=>(u2z y1.2).bind fun y2=>(u2z y2.2).bind fun y3=>(u2z y3.2).bind fun y4=>(u2z y4.2).bind fun y5=>(t0r ((0,0,0,0,([]:Hu q7m.den),([]:Hu u2f.den),false,(⟨#[]⟩:Hs)),y5.2,(y1.1,y2.1,y3.1,y4.1,([]:Hu q7m.den),([]:Hu u2f.den),false,(⟨#[]⟩:Hs)),y5.1,0)).bind fun r9=>match r9 with | .inl o10=>((u2z o10.2.1).bind fun y11=>(u8l (o10.1,y11.2,o10.2.2,y11.1,0)).bind fun r16=>match r16 with | .inl o17=>((u6x o17.2.1).bind fun y18=>(u13 y18.2).bind fun y19=>((cond y19.2.2.2 (some true) ((u6q (o17.2.2.1,o17.2.2.2.1,o17.2.2.2.2.1,o17.2.2.2.2.2.1,o17.2.2.2.2.2.2.1,o17.2.2.2.2.2.2.2.1,y18.1,y19.1)).bind fun y20=>some (!y20))):Ht Bool).bind fun j21=>cond j21 (some ((0,0,0,0,([]:Hu q7m.den),([]:Hu u2f.den),false,(⟨#[]⟩:Hs)),0,false)) (some ((o17.2.2.1,o17.2.2.2.1,o17.2.2.2.2.1,o17.2.2.2.2.2.1,o17.2.2.2.2.2.2.1,o17.2.2.2.2.2.2.2.1,y18.1,y19.1),y19.2.2.1,true))) | .inr z22=>none) | .inr z23=>none
theorem p4u:s06=q0f:=zC 113 rfl Tryz.func113 (by kernel_rfl)
def t2l(x:(q2w×Int)):Ht j83:=zK 119 x
def u4l(g:j8r→Ht (j5k⊕j5k))(x:j8r):Ht (j5k⊕j5k):=((cond (decide (x.2.2.2.2<x.2.2.2.1)) (cond (decide (x.2.2.2.2≤x.2.1)) (some (!x.1.2.2)) (some false)) (some false)):Ht Bool).bind fun j2=>cond j2 ((s06 (x.1.1,x.1.2.1)).bind fun y3=>cond (!y3.2.2) (some (.inr ((x.1.1,x.1.2.1,true),x.2.2.1))) (cond (Nat.ble (x.2.2.1.length+([y3.1]:Hu u0a.den).length) z7w) (g ((x.1.1,y3.2.1,x.1.2.2),x.2.1,x.2.2.1++([y3.1]:Hu u0a.den),x.2.2.2.1,IntKind.i64.wrap (x.2.2.2.2+1))) none)) (some (.inl (x.1,x.2.2.1)))
def u59:=lpW _ _ u4l
theorem u8f x:u59 x=u4l u59 x:=zW s2z 119 Tryz.f119 4 59 x (by kernel_rfl)
def s57 (x:(q2w×Int)):Ht j83:=(u2z x.1).bind fun y1=>(u59 (y1.2,x.2,([]:Hu u0a.den),y1.1,0)).bind fun r4=>match r4 with | .inl o5=>some (o5.2,o5.1) | .inr z6=>some (z6.2,z6.1)
theorem q4x:t2l=s57:=zC 119 rfl Tryz.func119 (by kernel_rfl)
def s43(x:o2o):Ht Z94:=zK 38 x
def t30(g:Z24→Ht (Z27⊕Unit))(x:Z24):Ht (Z27⊕Unit):=((cond (decide (x.2.2.2.2<x.2.2.2.1)) (cond (decide (x.2.2.2.2<130)) (some (!x.2.1.2.2)) (some false)) (some false)):Ht Bool).bind fun j4=>cond j4 ((u13 x.2.1).bind fun y5=>(u13 y5.2).bind fun y6=>(u6x y6.2).bind fun y7=>(u2z y7.2).bind fun y8=>cond (Nat.ble (x.2.2.1.1.length+([(y5.1,y6.1,y7.1,y8.1)]:Hu u0d.den).length) z7w) (g (x.1,y8.2,(x.2.2.1.1++([(y5.1,y6.1,y7.1,y8.1)]:Hu u0d.den),x.2.2.1.2),x.2.2.2.1,IntKind.i64.wrap (x.2.2.2.2+1))) none) (some (.inl (x.1,x.2.1,x.2.2.1)))
def u8k:=lpW _ _ t30
theorem r0n x:u8k x=t30 u8k x:=zW s9p 38 Tryz.f38 6 79 x (by kernel_rfl)
def r6p (x:o2o):Ht Z94:=(u2z (x.1,x.2,false)).bind fun y1=>(u2z y1.2).bind fun y2=>(u2z y2.2).bind fun y3=>(u8k ((([]:Hu u0d.den),([]:Hu u0a.den),([]:Hu u0a.den),0,0),y3.2,(([]:Hu u0d.den),([]:Hu u0a.den),([]:Hu u0a.den),y1.1,y2.1),y3.1,0)).bind fun r9=>match r9 with | .inl o10=>((t2l (o10.2.1,12)).bind fun y11=>(t2l (y11.2,3)).bind fun y12=>((cond y12.2.2.2 (some true) ((u7z (o10.2.2.1,y11.1,y12.1,o10.2.2.2.2.2)).bind fun y13=>some (!y13))):Ht Bool).bind fun j14=>cond j14 (some ((([]:Hu u0d.den),([]:Hu u0a.den),([]:Hu u0a.den),0,0),0,false)) (some ((o10.2.2.1,y11.1,y12.1,o10.2.2.2.2.2),y12.2.2.1,true))) | .inr z15=>none
theorem p15:s43=r6p:=zC 38 rfl Tryz.func38 (by kernel_rfl)
def t9o(x:u9x):Ht Bool:=zK 122 x
def r61 (x:u9x):Ht Bool:=((cond (decide (x.1=0)) (cond (decide (x.2.1=0)) (cond (decide (x.2.2.1=0)) (cond (decide (x.2.2.2.1=0)) (cond (decide ((x.2.2.2.2.1.length:Int)=(0:Int))) (cond (decide ((x.2.2.2.2.2.1.length:Int)=(0:Int))) (cond (!x.2.2.2.2.2.2.1) (some (z7o x.2.2.2.2.2.2.2 (⟨#[]⟩:Hs))) (some false)) (some false)) (some false)) (some false)) (some false)) (some false)) (some false)):Ht Bool).bind fun j1=>some j1
theorem p2g:t9o=r61:=zC 122 rfl Tryz.func122 (by kernel_rfl)
def s2j(x:u61):Ht Bool:=zK 124 x
def r27 (x:u61):Ht Bool:=((cond (decide (x.2.2.2.1=0)) (cond (decide (x.2.2.2.2=0)) (cond (decide ((x.1.length:Int)=(0:Int))) (cond (decide ((x.2.1.length:Int)=(0:Int))) (some (decide ((x.2.2.1.length:Int)=(0:Int)))) (some false)) (some false)) (some false)) (some false)):Ht Bool).bind fun j1=>some j1
theorem q9u:s2j=r27:=zC 124 rfl Tryz.func124 (by kernel_rfl)
def t9i(x:Z33):Ht Bool:=zK 39 x
def r6q (x:Z33):Ht Bool:=(u0u (x.1,1,4)).bind fun y1=>cond (!y1) (some false) (((cond (decide (x.1=1)) (some true) (some (decide (x.1=2)))):Ht Bool).bind fun j2=>((cond j2 ((u6q x.2.1).bind fun y3=>cond (!y3) (some true) (cond (!j2) ((t9o x.2.1).bind fun y4=>cond (!y4) (some true) (cond (decide (x.1=1)) (cond (!decide (x.2.1.2.1=3)) (some true) (cond (decide (x.1=2)) (some (!decide (x.2.1.2.1=2))) (some false))) (cond (decide (x.1=2)) (some (!decide (x.2.1.2.1=2))) (some false)))) (cond (decide (x.1=1)) (cond (!decide (x.2.1.2.1=3)) (some true) (cond (decide (x.1=2)) (some (!decide (x.2.1.2.1=2))) (some false))) (cond (decide (x.1=2)) (some (!decide (x.2.1.2.1=2))) (some false))))) (cond (!j2) ((t9o x.2.1).bind fun y5=>cond (!y5) (some true) (cond (decide (x.1=1)) (cond (!decide (x.2.1.2.1=3)) (some true) (cond (decide (x.1=2)) (some (!decide (x.2.1.2.1=2))) (some false))) (cond (decide (x.1=2)) (some (!decide (x.2.1.2.1=2))) (some false)))) (cond (decide (x.1=1)) (cond (!decide (x.2.1.2.1=3)) (some true) (cond (decide (x.1=2)) (some (!decide (x.2.1.2.1=2))) (some false))) (cond (decide (x.1=2)) (some (!decide (x.2.1.2.1=2))) (some false))))):Ht Bool).bind fun j6=>cond j6 (some false) (((cond (decide (x.1=3)) ((u6o x.2.2.1).bind fun y7=>cond (!y7) (some true) (cond (!decide (x.1=3)) (cond (!z7o x.2.2.1 (⟨#[]⟩:Hs)) (some true) (some x.2.2.2.1)) (some false))) (cond (!decide (x.1=3)) (cond (!z7o x.2.2.1 (⟨#[]⟩:Hs)) (some true) (some x.2.2.2.1)) (some false))):Ht Bool).bind fun j8=>cond j8 (some false) (cond (decide (x.1=4)) ((u7z x.2.2.2.2).bind fun y9=>some y9) ((s2j x.2.2.2.2).bind fun y10=>some y10))))
theorem p16:t9i=r6q:=zC 39 rfl Tryz.func39 (by kernel_rfl)
def s1a(x:Int):Ht Hs:=zK 224 x
def q0s (x:Int):Ht Hs:=some (y7g ([IntKind.u8.wrap (Int.fdiv x (2^(min (24:Int).toNat IntKind.u32.bits))),IntKind.u8.wrap (Int.fdiv x (2^(min (16:Int).toNat IntKind.u32.bits))),IntKind.u8.wrap (Int.fdiv x (2^(min (8:Int).toNat IntKind.u32.bits))),IntKind.u8.wrap x]:Hu Int))
theorem q1c:s1a=q0s:=zC 224 rfl Tryz.func224 (by kernel_rfl)
def s72(x:j6c):Ht Int:=zK 318 x
def r2b(g:j57→Ht (j1f⊕Unit))(x:j57):Ht (j1f⊕Unit):=cond (decide (x.2.2.2<8)) (cond (decide ((Int.tmod x.1 (2:Int))=1)) (g (IntKind.u32.wrap ((BitVec.ofInt IntKind.u32.bits (IntKind.u32.wrap (Int.tdiv x.1 (2:Int)))^^^BitVec.ofInt IntKind.u32.bits (3558460437:Int)).toNat:Int),x.2.1,x.2.2.1,IntKind.i64.wrap (x.2.2.2+1))) (g (IntKind.u32.wrap (Int.tdiv x.1 (2:Int)),x.2.1,x.2.2.1,IntKind.i64.wrap (x.2.2.2+1)))) (some (.inl (x.1,x.2.1,x.2.2.1)))
def t67:=lpW _ _ r2b
theorem q93 x:t67 x=r2b t67 x:=zW r35 318 Tryz.f318 6 33 x (by kernel_rfl)
def t6o(g:j1f→Ht o5f)(x:j1f):Ht o5f:=cond (decide (x.2.2<(x.2.1.size:Int))) (cond (y4q x.2.2 x.2.1.size) ((t67 (IntKind.u32.wrap ((BitVec.ofInt IntKind.u32.bits x.1^^^BitVec.ofInt IntKind.u32.bits (IntKind.u32.wrap ((x.2.1.data.toList.getD x.2.2.toNat 0).toNat:Int))).toNat:Int),x.2.1,x.2.2,0)).bind fun r1=>match r1 with | .inl o2=>g (o2.1,o2.2.1,IntKind.i64.wrap (o2.2.2+1)) | .inr z3=>some (.inr ())) none) (some (.inl x.1))
def t66:=lpW _ _ t6o
theorem r47 x:t66 x=t6o t66 x:=zW r34 318 Tryz.f318 2 33 x (by kernel_rfl)
def q0i (x:j6c):Ht Int:=(t66 (x.1,x.2,0)).bind fun r4=>match r4 with | .inl o5=>some o5 | .inr z6=>none
theorem p4x:s72=q0i:=zC 318 rfl Tryz.func318 (by kernel_rfl)
def s6y(x:Hs):Ht Int:=zK 225 x
def r6t (x:Hs):Ht Int:=(s72 (4294967295,x)).bind fun y1=>some y1
theorem q8b:s6y=r6t:=zC 225 rfl Tryz.func225 (by kernel_rfl)
def t9j(x:Hs):Ht s5n:=zK 109 x
def q3u (x:Hs):Ht s5n:=cond (decide ((x.size:Int)>(20000:Int))) (some ((⟨#[]⟩:Hs),false)) ((s6y x).bind fun y1=>(s1a y1).bind fun y2=>cond (decide (x.size+y2.size≤140737488355328)) (some (x++y2,true)) none)
theorem p8g:t9j=q3u:=zC 109 rfl Tryz.func109 (by kernel_rfl)
def u3h(x:Hs):Ht Hs:=zK 221 x
def r60 (x:Hs):Ht Hs:=(u10 (x.size:Int)).bind fun y1=>cond (decide (y1.size+x.size≤140737488355328)) (some (y1++x)) none
theorem p2f:u3h=r60:=zC 221 rfl Tryz.func221 (by kernel_rfl)
def t4x(x:Bool):Ht Hs:=zK 222 x
def q36 (x:Bool):Ht Hs:=cond x (some (⟨#[1]⟩:Hs)) (some (⟨#[0]⟩:Hs))
theorem p8r:t4x=q36:=zC 222 rfl Tryz.func222 (by kernel_rfl)
def s08(x:u9x):Ht s5n:=zK 223 x
def t6s(g:j5c→Ht (o9i⊕Unit))(x:j5c):Ht (o9i⊕Unit):=cond (decide (x.2.2<(x.1.2.2.2.2.1.length:Int))) (cond (y4q x.2.2 x.1.2.2.2.2.1.length) ((u3h (rdL q7m x.1.2.2.2.2.1 x.2.2.toNat).1).bind fun y7=>cond (decide (x.2.1.size+y7.size≤140737488355328)) (cond (y4q x.2.2 x.1.2.2.2.2.1.length) ((u3h (rdL q7m x.1.2.2.2.2.1 x.2.2.toNat).2).bind fun y8=>cond (decide ((x.2.1++y7).size+y8.size≤140737488355328)) (g (x.1,(x.2.1++y7)++y8,IntKind.i64.wrap (x.2.2+1))) none) none) none) none) (some (.inl (x.1,x.2.1)))
def t0v:=lpW _ _ t6s
theorem r5b x:t0v x=t6s t0v x:=zW r39 223 Tryz.f223 5 101 x (by kernel_rfl)
def t36(g:j5c→Ht (o9i⊕Unit))(x:j5c):Ht (o9i⊕Unit):=cond (decide (x.2.2<(x.1.2.2.2.2.2.1.length:Int))) (cond (y4q x.2.2 x.1.2.2.2.2.2.1.length) ((u3h (rdL u2f x.1.2.2.2.2.2.1 x.2.2.toNat).1).bind fun y12=>cond (decide (x.2.1.size+y12.size≤140737488355328)) (cond (y4q x.2.2 x.1.2.2.2.2.2.1.length) ((u3h (rdL u2f x.1.2.2.2.2.2.1 x.2.2.toNat).2.1).bind fun y13=>cond (decide ((x.2.1++y12).size+y13.size≤140737488355328)) (cond (y4q x.2.2 x.1.2.2.2.2.2.1.length) ((t4x (rdL u2f x.1.2.2.2.2.2.1 x.2.2.toNat).2.2).bind fun y14=>cond (decide (((x.2.1++y12)++y13).size+y14.size≤140737488355328)) (g (x.1,((x.2.1++y12)++y13)++y14,IntKind.i64.wrap (x.2.2+1))) none) none) none) none) none) none) (some (.inl (x.1,x.2.1)))
def u8n:=lpW _ _ t36
theorem r0s x:u8n x=t36 u8n x:=zW s9u 223 Tryz.f223 10 101 x (by kernel_rfl)
def q0m (x:u9x):Ht s5n:=(u6q x).bind fun y1=>cond (!y1) (some ((⟨#[]⟩:Hs),false)) ((u10 x.1).bind fun y2=>(u10 x.2.1).bind fun y3=>cond (decide (y2.size+y3.size≤140737488355328)) ((u10 x.2.2.1).bind fun y4=>cond (decide ((y2++y3).size+y4.size≤140737488355328)) ((u10 x.2.2.2.1).bind fun y5=>cond (decide (((y2++y3)++y4).size+y5.size≤140737488355328)) ((u10 (x.2.2.2.2.1.length:Int)).bind fun y6=>cond (decide ((((y2++y3)++y4)++y5).size+y6.size≤140737488355328)) ((t0v (x,(((y2++y3)++y4)++y5)++y6,0)).bind fun r9=>match r9 with | .inl o10=>((u10 (o10.1.2.2.2.2.2.1.length:Int)).bind fun y11=>cond (decide (o10.2.size+y11.size≤140737488355328)) ((u8n (o10.1,o10.2++y11,0)).bind fun r15=>match r15 with | .inl o16=>((t4x o16.1.2.2.2.2.2.2.1).bind fun y17=>cond (decide (o16.2.size+y17.size≤140737488355328)) ((u3h o16.1.2.2.2.2.2.2.2).bind fun y18=>cond (decide ((o16.2++y17).size+y18.size≤140737488355328)) (some ((o16.2++y17)++y18,true)) none) none) | .inr z19=>none) none) | .inr z20=>none) none) none) none) none)
theorem p41:s08=q0m:=zC 223 rfl Tryz.func223 (by kernel_rfl)
def s1c(x:q69):Ht Hs:=zK 233 x
def t6x(g:j9b→Ht j6a)(x:j9b):Ht j6a:=cond (decide (x.2.2<(x.1.length:Int))) (cond (y4q x.2.2 x.1.length) ((s08 (rdL u0a x.1 x.2.2.toNat)).bind fun y2=>cond (decide (x.2.1.size+y2.1.size≤140737488355328)) (g (x.1,x.2.1++y2.1,IntKind.i64.wrap (x.2.2+1))) none) none) (some (.inl x.2.1))
def t0y:=lpW _ _ t6x
theorem r5g x:t0y x=t6x t0y x:=zW r4g 233 Tryz.f233 3 28 x (by kernel_rfl)
def q03 (x:q69):Ht Hs:=(u10 (x.length:Int)).bind fun y1=>(t0y (x,y1,0)).bind fun r3=>match r3 with | .inl o4=>some o4 | .inr z5=>none
theorem p5h:s1c=q03:=zC 233 rfl Tryz.func233 (by kernel_rfl)
def s40(x:u61):Ht s5n:=zK 117 x
def t3v(g:Z92→Ht (o82⊕Unit))(x:Z92):Ht (o82⊕Unit):=cond (decide (x.2.2<(x.1.1.length:Int))) (cond (y4q x.2.2 x.1.1.length) ((u3h (rdL u0d x.1.1 x.2.2.toNat).1).bind fun y5=>cond (decide (x.2.1.size+y5.size≤140737488355328)) ((u3h (rdL u0d x.1.1 x.2.2.toNat).2.1).bind fun y6=>cond (decide ((x.2.1++y5).size+y6.size≤140737488355328)) ((t4x (rdL u0d x.1.1 x.2.2.toNat).2.2.1).bind fun y7=>cond (decide (((x.2.1++y5)++y6).size+y7.size≤140737488355328)) ((u10 (rdL u0d x.1.1 x.2.2.toNat).2.2.2).bind fun y8=>cond (decide ((((x.2.1++y5)++y6)++y7).size+y8.size≤140737488355328)) (g (x.1,(((x.2.1++y5)++y6)++y7)++y8,IntKind.i64.wrap (x.2.2+1))) none) none) none) none) none) (some (.inl (x.1,x.2.1)))
def u8j:=lpW _ _ t3v
theorem r0i x:u8j x=t3v u8j x:=zW s9k 117 Tryz.f117 5 60 x (by kernel_rfl)
def r6j (x:u61):Ht s5n:=(u7z x).bind fun y1=>cond (!y1) (some ((⟨#[]⟩:Hs),false)) ((u10 x.2.2.2.1).bind fun y2=>(u10 x.2.2.2.2).bind fun y3=>cond (decide (y2.size+y3.size≤140737488355328)) ((u10 (x.1.length:Int)).bind fun y4=>cond (decide ((y2++y3).size+y4.size≤140737488355328)) ((u8j (x,(y2++y3)++y4,0)).bind fun r9=>match r9 with | .inl o10=>((s1c o10.1.2.1).bind fun y11=>cond (decide (o10.2.size+y11.size≤140737488355328)) ((s1c o10.1.2.2.1).bind fun y12=>cond (decide ((o10.2++y11).size+y12.size≤140737488355328)) (some ((o10.2++y11)++y12,true)) none) none) | .inr z13=>none) none) none)
theorem p1z:s40=r6j:=zC 117 rfl Tryz.func117 (by kernel_rfl)
def u3p(x:Z33):Ht s5n:=zK 107 x
def s8t (x:Z33):Ht s5n:=(t9i x).bind fun y1=>cond (!y1) (some ((⟨#[]⟩:Hs),false)) (cond (decide (x.1=3)) ((u3h x.2.2.1).bind fun y2=>cond (decide ((y7g ([(IntKind.u8.wrap x.1)]:Hu Int)).size+y2.size≤140737488355328)) ((t4x x.2.2.2.1).bind fun y3=>cond (decide (((y7g ([(IntKind.u8.wrap x.1)]:Hu Int))++y2).size+y3.size≤140737488355328)) ((t9j (((y7g ([(IntKind.u8.wrap x.1)]:Hu Int))++y2)++y3)).bind fun y4=>some y4) none) none) (cond (decide (x.1=4)) ((s40 x.2.2.2.2).bind fun y5=>cond (decide ((y7g ([(IntKind.u8.wrap x.1)]:Hu Int)).size+y5.1.size≤140737488355328)) ((t9j ((y7g ([(IntKind.u8.wrap x.1)]:Hu Int))++y5.1)).bind fun y6=>some y6) none) ((s08 x.2.1).bind fun y7=>cond (decide ((y7g ([(IntKind.u8.wrap x.1)]:Hu Int)).size+y7.1.size≤140737488355328)) ((t9j ((y7g ([(IntKind.u8.wrap x.1)]:Hu Int))++y7.1)).bind fun y8=>some y8) none)))
theorem q6l:u3p=s8t:=zC 107 rfl Tryz.func107 (by kernel_rfl)
def s45(x:Hs):Ht s5n:=zK 108 x
def r6u (x:Hs):Ht s5n:=((cond (decide ((IntKind.i64.wrap ((x.size:Int) - (4:Int)))<0)) (some true) (cond (decide ((IntKind.i64.wrap ((x.size:Int) - (4:Int)))>20000)) (some true) (cond (decide (0≤(IntKind.i64.wrap ((x.size:Int) - (4:Int))))&&decide ((IntKind.i64.wrap ((x.size:Int) - (4:Int)))≤(x.size:Int))&&decide ((x.size:Int)≤(x.size:Int))) (cond (decide (0≤(0:Int))&&decide ((0:Int)≤(IntKind.i64.wrap ((x.size:Int) - (4:Int))))&&decide ((IntKind.i64.wrap ((x.size:Int) - (4:Int)))≤(x.size:Int))) ((s6y (x.extract (0:Int).toNat (IntKind.i64.wrap ((x.size:Int) - (4:Int))).toNat)).bind fun y1=>(s1a y1).bind fun y2=>some (!z7o (x.extract (IntKind.i64.wrap ((x.size:Int) - (4:Int))).toNat (x.size:Int).toNat) y2)) none) none))):Ht Bool).bind fun j3=>cond j3 (some ((⟨#[]⟩:Hs),false)) (cond (decide (0≤(0:Int))&&decide ((0:Int)≤(IntKind.i64.wrap ((x.size:Int) - (4:Int))))&&decide ((IntKind.i64.wrap ((x.size:Int) - (4:Int)))≤(x.size:Int))) (some (x.extract (0:Int).toNat (IntKind.i64.wrap ((x.size:Int) - (4:Int))).toNat,true)) none)
theorem p19:s45=r6u:=zC 108 rfl Tryz.func108 (by kernel_rfl)
def t96(x:Hs):Ht Z31:=zK 33 x
def s8r (x:Hs):Ht Z31:=(s45 x).bind fun y1=>((cond (!y1.2) (some true) (some (z7o y1.1 (⟨#[]⟩:Hs)))):Ht Bool).bind fun j2=>cond j2 (some ((0,(0,0,0,0,([]:Hu q7m.den),([]:Hu u2f.den),false,(⟨#[]⟩:Hs)),(⟨#[]⟩:Hs),false,([]:Hu u0d.den),([]:Hu u0a.den),([]:Hu u0a.den),0,0),false)) (cond (y4q (0:Int) y1.1.size) (cond (decide ((IntKind.i64.wrap ((y1.1.data.toList.getD (0:Int).toNat 0).toNat:Int))=3)) ((u13 (y1.1,1,false)).bind fun y3=>(u6x y3.2).bind fun y4=>(u3p (IntKind.i64.wrap ((y1.1.data.toList.getD (0:Int).toNat 0).toNat:Int),(0,0,0,0,([]:Hu q7m.den),([]:Hu u2f.den),false,(⟨#[]⟩:Hs)),y3.1,y4.1,([]:Hu u0d.den),([]:Hu u0a.den),([]:Hu u0a.den),0,0)).bind fun y5=>((cond (!y5.2) (some true) (some (!z7o y5.1 x))):Ht Bool).bind fun j6=>cond j6 (some ((0,(0,0,0,0,([]:Hu q7m.den),([]:Hu u2f.den),false,(⟨#[]⟩:Hs)),(⟨#[]⟩:Hs),false,([]:Hu u0d.den),([]:Hu u0a.den),([]:Hu u0a.den),0,0),false)) (some ((IntKind.i64.wrap ((y1.1.data.toList.getD (0:Int).toNat 0).toNat:Int),(0,0,0,0,([]:Hu q7m.den),([]:Hu u2f.den),false,(⟨#[]⟩:Hs)),y3.1,y4.1,([]:Hu u0d.den),([]:Hu u0a.den),([]:Hu u0a.den),0,0),true))) (cond (decide ((IntKind.i64.wrap ((y1.1.data.toList.getD (0:Int).toNat 0).toNat:Int))=4)) ((s43 (y1.1,1)).bind fun y7=>(u3p (IntKind.i64.wrap ((y1.1.data.toList.getD (0:Int).toNat 0).toNat:Int),(0,0,0,0,([]:Hu q7m.den),([]:Hu u2f.den),false,(⟨#[]⟩:Hs)),(⟨#[]⟩:Hs),false,y7.1)).bind fun y8=>((cond (!y8.2) (some true) (some (!z7o y8.1 x))):Ht Bool).bind fun j9=>cond j9 (some ((0,(0,0,0,0,([]:Hu q7m.den),([]:Hu u2f.den),false,(⟨#[]⟩:Hs)),(⟨#[]⟩:Hs),false,([]:Hu u0d.den),([]:Hu u0a.den),([]:Hu u0a.den),0,0),false)) (some ((IntKind.i64.wrap ((y1.1.data.toList.getD (0:Int).toNat 0).toNat:Int),(0,0,0,0,([]:Hu q7m.den),([]:Hu u2f.den),false,(⟨#[]⟩:Hs)),(⟨#[]⟩:Hs),false,y7.1),true))) ((s06 (y1.1,1)).bind fun y10=>(u3p (IntKind.i64.wrap ((y1.1.data.toList.getD (0:Int).toNat 0).toNat:Int),y10.1,(⟨#[]⟩:Hs),false,([]:Hu u0d.den),([]:Hu u0a.den),([]:Hu u0a.den),0,0)).bind fun y11=>((cond (!y11.2) (some true) (some (!z7o y11.1 x))):Ht Bool).bind fun j12=>cond j12 (some ((0,(0,0,0,0,([]:Hu q7m.den),([]:Hu u2f.den),false,(⟨#[]⟩:Hs)),(⟨#[]⟩:Hs),false,([]:Hu u0d.den),([]:Hu u0a.den),([]:Hu u0a.den),0,0),false)) (some ((IntKind.i64.wrap ((y1.1.data.toList.getD (0:Int).toNat 0).toNat:Int),y10.1,(⟨#[]⟩:Hs),false,([]:Hu u0d.den),([]:Hu u0a.den),([]:Hu u0a.den),0,0),true))))) none)
theorem q6j:t96=s8r:=zC 33 rfl Tryz.func33 (by kernel_rfl)
def u6w(x:p3o):Ht s5n:=zK 355 x
def u9m(g:j9n→Ht (j90⊕s5n))(x:j9n):Ht (j90⊕s5n):=cond (decide (x.2.2≥0)) (cond (y4q x.2.2 x.2.1.2.length) (cond (decide ((rdL q98 x.2.1.2 x.2.2.toNat).1=x.1)) (cond (y4q x.2.2 x.2.1.2.length) (some (.inr ((rdL q98 x.2.1.2 x.2.2.toNat).2,true))) none) (g (x.1,x.2.1,IntKind.i64.wrap (x.2.2 - 1)))) none) (some (.inl (x.1,x.2.1)))
def u9u:=lpW _ _ u9m
theorem s5i x:u9u x=u9m u9u x:=zW s4h 355 Tryz.f355 4 41 x (by kernel_rfl)
def s8s (x:p3o):Ht s5n:=(u0u (x.2,0,IntKind.i64.wrap ((x.1.1.length:Int) - (1:Int)))).bind fun y1=>cond (!y1) (some ((⟨#[]⟩:Hs),false)) ((u9u (x.2,x.1,IntKind.i64.wrap ((x.1.2.length:Int) - (1:Int)))).bind fun r2=>match r2 with | .inl o3=>cond (y4q o3.1 o3.2.1.length) (some (rdL Ty.str o3.2.1 o3.1.toNat,true)) none | .inr z4=>some z4)
theorem q6k:u6w=s8s:=zC 355 rfl Tryz.func355 (by kernel_rfl)
def t97(x:j0y):Ht s5n:=zK 263 x
def u9n(g:j82→Ht (Hs⊕s5n))(x:j82):Ht (Hs⊕s5n):=cond (decide (x.2.2.2.2<x.2.1)) (((cond (decide (x.1<0)) (some true) (some (decide (x.1>(x.2.2.1.1.length:Int))))):Ht Bool).bind fun j2=>cond j2 (some (.inr ((⟨#[]⟩:Hs),false))) ((u6w (x.2.2.1,IntKind.i64.wrap (x.1+x.2.2.2.2))).bind fun y3=>cond (!y3.2) (some (.inr ((⟨#[]⟩:Hs),false))) (cond (decide (x.2.2.2.1.size+y3.1.size≤140737488355328)) (g (x.1,x.2.1,x.2.2.1,x.2.2.2.1++y3.1,IntKind.i64.wrap (x.2.2.2.2+1))) none))) (some (.inl x.2.2.2.1))
def u9v:=lpW _ _ u9n
theorem s5j x:u9v x=u9n u9v x:=zW s4i 263 Tryz.f263 5 43 x (by kernel_rfl)
def s8u (x:j0y):Ht s5n:=(u0u (x.2.2,0,100)).bind fun y1=>cond (!y1) (some ((⟨#[]⟩:Hs),false)) ((u9v (x.2.1,x.2.2,x.1,(⟨#[]⟩:Hs),0)).bind fun r4=>match r4 with | .inl o5=>some (o5,true) | .inr z6=>some z6)
theorem q6m:t97=s8u:=zC 263 rfl Tryz.func263 (by kernel_rfl)
def u53(x:Int):Ht Int:=zK 264 x
def r2x (x:Int):Ht Int:=(u0u (x,0,1)).bind fun y1=>cond (!y1) (some (0:Int)) (some (IntKind.i64.wrap ((1:Int)+(IntKind.i64.wrap (x*48)))))
theorem q9k:u53=r2x:=zC 264 rfl Tryz.func264 (by kernel_rfl)
def t5r(x:p3o):Ht Int:=zK 266 x
def q0v (x:p3o):Ht Int:=(u6w x).bind fun y1=>((cond (!y1.2) (some true) (some (z7o y1.1 (⟨#[]⟩:Hs)))):Ht Bool).bind fun j2=>cond j2 (some (0:Int)) (cond (y4q (0:Int) y1.1.size) (some (IntKind.i64.wrap ((y1.1.data.toList.getD (0:Int).toNat 0).toNat:Int))) none)
theorem p49:t5r=q0v:=zC 266 rfl Tryz.func266 (by kernel_rfl)
def t5o(x:p3o):Ht Int:=zK 265 x
def r97 (x:p3o):Ht Int:=(u0u (x.2,0,1)).bind fun y1=>cond (!y1) (some (0:Int)) ((u53 x.2).bind fun y2=>(t5r (x.1,y2)).bind fun y3=>some y3)
theorem p4m:t5o=r97:=zC 265 rfl Tryz.func265 (by kernel_rfl)
def u8z(x:p3o):Ht (q8o×j2v):=zK 157 x
def t15(g:j8c→Ht j56)(x:j8c):Ht j56:=(t5o (x.2.1,x.1)).bind fun y4=>cond (decide (x.2.2.2.2.2.2<y4)) ((t7g (x.2.2.2.1,x.2.2.2.2.2.1)).bind fun y5=>((cond (!y5.2.2) (some true) (some (z7o y5.1 (⟨#[]⟩:Hs)))):Ht Bool).bind fun j6=>cond j6 (some (.inr (x.2.2.1,0,false))) (cond (Nat.ble (x.2.2.2.2.1.length+([y5.1]:Hu Hs).length) z7w) (g (x.1,x.2.1,x.2.2.1,x.2.2.2.1,x.2.2.2.2.1++([y5.1]:Hu Hs),y5.2.1,IntKind.i64.wrap (x.2.2.2.2.2.2+1))) none)) (some (.inl (x.2.2.2.2.1,x.2.2.2.2.2.1)))
def t2e:=lpW _ _ t15
theorem s7f x:t2e x=t15 t2e x:=zW s6n 157 Tryz.f157 10 61 x (by kernel_rfl)
def r6o (x:p3o):Ht (q8o×j2v):=(u0u (x.2,0,1)).bind fun y1=>cond (!y1) (some (([]:Hu Hs),0,false)) ((u53 x.2).bind fun y2=>(t97 (x.1,IntKind.i64.wrap (y2+1),47)).bind fun y3=>cond (!y3.2) (some (([]:Hu Hs),0,false)) ((t2e (x.2,x.1,([]:Hu Hs),y3.1,([]:Hu Hs),0,0)).bind fun r7=>match r7 with | .inl o8=>some (o8.1,o8.2,true) | .inr z9=>some z9))
theorem p14:u8z=r6o:=zC 157 rfl Tryz.func157 (by kernel_rfl)
def t3d(x:u99):Ht Int:=zK 158 x
def r6i (x:u99):Ht Int:=(t5r (x,0)).bind fun y1=>some (Int.tmod y1 (2:Int))
theorem p1y:t3d=r6i:=zC 158 rfl Tryz.func158 (by kernel_rfl)
end
end Go.Proofs.YtkdpclfhapphhaaGreat.Ab
