import Derived.Test.YtkdpclfhapphhaaGreatAbK2
import Derived.Test.YtkdpclfhapphhaaGreatAbF4
import Derived.Test.YtkdpclfhapphhaaGreatAbS1
import Derived.KernelRfl
import Derived.Test.YtkdpclfhapphhaaGreatProg
namespace Go.Proofs.YtkdpclfhapphhaaGreat.Ab
open Go
set_option linter.unusedVariables false
noncomputable section
abbrev o28:Ty:=(.pair .bool (.int .i64))
abbrev p71:Ty:=(.pair .str o28)
abbrev u0g:Ty:=(.pair .str p71)
abbrev q0z:Ty:=(.pair .str .str)
abbrev o3b:Ty:=(.pair .str .bool)
abbrev u2n:Ty:=(.pair .str o3b)
abbrev o29:Ty:=(.pair .bool .str)
abbrev q8i:Ty:=(.pair (.sl u2n) o29)
abbrev r7c:Ty:=(.pair (.sl q0z) q8i)
abbrev r2t:Ty:=(.pair (.int .i64) r7c)
abbrev s9d:Ty:=(.pair (.int .i64) r2t)
abbrev s6b:Ty:=(.pair (.int .i64) s9d)
abbrev u0a:Ty:=(.pair (.int .i64) s6b)
abbrev p1t:Ty:=(.pair (.int .i64) .str)
abbrev o05:Ty:=(.pair (.int .i64) (.int .i64))
abbrev t54:Ty:=(.pair (.sl u0a) o05)
abbrev p16:Ty:=(.pair (.sl u0a) t54)
abbrev r8j:Ty:=(.pair (.sl u0g) p16)
abbrev q54:Ty:=(.pair r8j (.sl u0a))
abbrev q9p:Ty:=(.pair (.sl .str) (.sl p1t))
abbrev p14:Ty:=(.pair q54 q9p)
abbrev p12:Ty:=(.pair .bool r8j)
abbrev p17:Ty:=(.pair .str p12)
abbrev p15:Ty:=(.pair u0a p17)
abbrev p13:Ty:=(.pair (.int .i64) p15)
abbrev o3a:Ty:=(.pair (.int .i64) .bool)
abbrev p5m:Ty:=(.pair .str o3a)
abbrev p6i:Ty:=(.pair (.sl (.int .u8)) o05)
abbrev t8u:=((Hu Hs)×(Hu p1t.den))
abbrev o2t:=((Hu q0z.den)×(Hu u2n.den))
abbrev o2s:=((Hs×Hs)×Hs)
abbrev p9i:=((Hu u2n.den)×(Hu u2n.den))
abbrev p9h:=(Hs×(Hs×(Int×Bool)))
abbrev p5q:=(Hs×((Hu Int)×(Int×Int)))
abbrev o2r:=(((Hu Int)×(Int×Int))×Hs)
abbrev o2q:=(Hs×(Int×(Int×(Int×Int))))
abbrev o2p:=(((Hu Int)×(Int×Int))×(Hu Int))
abbrev o2o:=((Hu Int)×((Hu Int)×(Int×Int)))
abbrev p9g:=((Hu u0g.den)×(Hs×Int))
abbrev p5p:=(Hu (Hu u0a.den))
abbrev p9f:=((Hu u0a.den)×Int)
abbrev o2n:=((Hu u0g.den)×(Hu u0g.den))
abbrev o2m:=(Int×t8u)
abbrev q8j:=(t8u×Int)
abbrev p9e:=((Hu q0z.den)×((Hu u2n.den)×Int))
abbrev r46:=(t8u×Bool)
abbrev o2l:=((Hu q0z.den)×((Hu Int)×(Int×Int)))
abbrev o2k:=(((Hu Int)×(Int×Int))×(Hu q0z.den))
abbrev p7n:=((Hu u2n.den)×((Hu u2n.den)×Int))
abbrev o0j:=((Hu u0g.den)×(Hs×Hs))
abbrev o2j:=((Hu Int)×((Hu Hs)×(Int×Int)))
abbrev o2i:=(((Hu Int)×(Int×Int))×(Hu Hs))
abbrev o2h:=((Hu u2n.den)×((Hu Int)×(Int×Int)))
abbrev o2g:=(((Hu Int)×(Int×Int))×(Hu u2n.den))
abbrev o2f:=((Hu u0g.den)×((Hu u2n.den)×Int))
abbrev p9d:=((Hu u0g.den)×((Hu Int)×(Int×Int)))
abbrev o2e:=(p5p×Int)
abbrev o2d:=(t8u×Hs)
abbrev o2c:=(((Hu Int)×(Int×Int))×(Hu u0g.den))
abbrev p6k:=((Hu u0a.den)×(Int×Int))
abbrev o0i:=((Hu u0g.den)×((Hu u0g.den)×Int))
abbrev o2b:=(Int×q8j)
abbrev p9c:=(t8u×(Int×Int))
abbrev o2a:=((Hu q0z.den)×((Hu u2n.den)×(Int×Int)))
abbrev o13:=((Hs×Hs)×((Hu Int)×(Int×Int)))
abbrev o1z:=(((Hu Int)×(Int×Int))×((Hu q0z.den)×Int))
abbrev o1y:=((Hu u2n.den)×(Hs×(Hs×Bool)))
abbrev p9b:=((Hu u2n.den)×((Hu u2n.den)×(Int×Int)))
abbrev o1x:=(((Hu Int)×(Int×Int))×((Hu u2n.den)×Int))
abbrev o1w:=((Hu u0a.den)×(Hs×Int))
abbrev o1v:=(((Hu Int)×(Int×Int))×(Int×((Hu Int)×Int)))
abbrev o1u:=((Hu u0g.den)×(Hs×(Int×(Int×Int))))
abbrev p9a:=(t8u×(Hu Hs))
abbrev o1t:=((Hu u2n.den)×(Int×((Hu u0g.den)×Int)))
abbrev p5o:=(t8u×(Int×Hs))
abbrev o1s:=(((Hu Int)×(Int×Int))×((Hu u0g.den)×Int))
abbrev o1r:=((Hu u0g.den)×(Int×((Hu u0g.den)×Int)))
abbrev o0h:=((Hu u0g.den)×((Hu u0g.den)×(Int×Int)))
abbrev o1q:=(Int×o0i)
abbrev p89:=((Hs×(Hs×Bool))×((Hu Int)×(Int×Int)))
abbrev p88:=((Hs×(Int×Bool))×(Hu u0a.den))
abbrev o1p:=(t8u×(Int×(Int×Hs)))
abbrev o1o:=((Hu u0a.den)×(Hs×(Int×Bool)))
abbrev o1n:=(Int×o0h)
abbrev p87:=((Hu Int)×(p5p×(Int×Int)))
abbrev o1m:=(Int×(Int×(t8u×(Hs×Int))))
abbrev o1l:=((Hu u0a.den)×(Hu u0a.den))
abbrev o1k:=(Int×((Hu u0g.den)×((Hu u0g.den)×(Int×(Int×Int)))))
abbrev o1j:=((Hu u2n.den)×((Hs×(Hs×Bool))×(Hu u2n.den)))
abbrev o1i:=((Hu u0g.den)×((Hs×Hs)×((Hu Hs)×Int)))
abbrev o1h:=((Hu u0g.den)×((Hs×Hs)×(Int×(Hu Hs))))
abbrev p7m:=(t8u×t8u)
abbrev p86:=((Hu u0a.den)×p9f)
abbrev p85:=((Hu u2n.den)×((Hs×(Hs×Bool))×((Hu u2n.den)×Int)))
abbrev o1g:=((Hs×(Hs×(Bool×Int)))×(Hs×(Hs×(Bool×Int))))
abbrev o1f:=(t8u×r46)
abbrev o1e:=((Hs×(Int×Bool))×(Int×p6k))
abbrev u95:=(Int×(Int×(Int×(Int×((Hu q0z.den)×((Hu u2n.den)×(Bool×Hs)))))))
abbrev o1d:=(Int×(t8u×q8j))
abbrev o1c:=((Hu u0a.den)×(p5p×(Int×Int)))
abbrev o1b:=((Hu u0a.den)×(Int×p6k))
abbrev p35:=(u95×Int)
abbrev p7l:=(u95×Bool)
abbrev p75:=(u95×Hs)
abbrev p84:=(u95×(Hu Int))
abbrev o1a:=(u95×(Int×Bool))
abbrev o09:=((Hu u0g.den)×((Hs×Hs)×((Hu Hs)×(Int×(Hs×(Hu Hs))))))
abbrev o08:=(p5p×(Int×(p5p×(Int×Int))))
abbrev p83:=(u95×(Hs×Int))
abbrev u8g:=((Hu u0g.den)×((Hu u0a.den)×p6k))
abbrev o07:=(Int×(t8u×((Hu Hs)×(Hs×((Hu Hs)×(Int×Int))))))
abbrev p82:=((Hu u0g.den)×((Hs×Hs)×((Hu Hs)×(Int×(Hs×((Hu Hs)×Int))))))
abbrev o06:=(u95×(Hs×Hs))
abbrev p74:=(u8g×Int)
abbrev Z99:=((Hu Hs)×(t8u×(Int×(t8u×(Bool×Int)))))
abbrev Z98:=(u95×((Hu Int)×(Int×Int)))
abbrev Z97:=((Hs×(Int×Bool))×u95)
abbrev Z96:=(u95×(Hs×(Int×Bool)))
abbrev Z95:=(u8g×Bool)
abbrev Z94:=(t8u×(t8u×q8j))
abbrev Z93:=(u95×((Hu q0z.den)×(Int×Int)))
abbrev Z92:=(u95×(Hs×(Hs×Bool)))
abbrev Z91:=(u8g×Hs)
abbrev Z90:=((Hu Int)×(p5p×(Int×(Int×p6k))))
abbrev Z89:=(u8g×(Hu Int))
abbrev Z88:=((Hu u0g.den)×(Hs×u95))
abbrev Z87:=(u95×((Hu u0g.den)×Hs))
abbrev Z86:=(u95×(Hu u0a.den))
abbrev Z85:=(u8g×(Int×Bool))
abbrev Z84:=((Hs×(Int×Bool))×(u95×Unit))
abbrev Z83:=((Hu u0a.den)×u95)
abbrev Z82:=((Hs×(Int×Bool))×(Unit×u95))
abbrev Z81:=((Hu u2n.den)×(Int×((Hu u0g.den)×(Int×((Hs×(Hs×(Bool×Int)))×((Hu u0g.den)×Int))))))
abbrev Z80:=(Hs×p74)
abbrev Z79:=(u8g×(Hs×Int))
abbrev Z78:=(u8g×((Hu Int)×Int))
abbrev Z77:=((Hu u0g.den)×(Hs×p35))
abbrev Z76:=((Hu u0a.den)×p35)
abbrev Z75:=(u95×((Hu Int)×((Hu q0z.den)×(Int×Int))))
abbrev Z74:=(u95×o0j)
abbrev Z73:=(u95×((Hu Int)×((Hu u2n.den)×(Int×Int))))
abbrev Z72:=(u8g×((Hu Int)×(Int×Int)))
abbrev Z71:=(u8g×(Hs×(Int×Bool)))
abbrev Z70:=((Hs×(Int×Bool))×u8g)
abbrev Z69:=((Hu u0a.den)×(u95×(Int×Int)))
abbrev Z68:=((Hs×(Int×Bool))×((Unit×u95)×(Int×Int)))
abbrev Z67:=((Hs×(Int×Bool))×((u95×Unit)×(Int×Int)))
abbrev Z66:=((Hu u0a.den)×(u95×(Bool×Int)))
abbrev Z65:=(u8g×((Hu u0g.den)×(Int×Int)))
abbrev Z64:=((Hs×(Int×Bool))×(u8g×Unit))
abbrev Z63:=(u8g×(Hu u0a.den))
abbrev Z62:=((Hs×(Int×Bool))×(Unit×u8g))
abbrev Z61:=(Int×(Int×(Hs×Z94)))
abbrev Z60:=(Z63×Int)
abbrev Z59:=((Hu u0g.den)×(u95×((Hu q0z.den)×((Hu Hs)×Int))))
abbrev Z58:=((Hu u0g.den)×(u95×((Hs×Hs)×(Hu u0g.den))))
abbrev Z57:=(u8g×((Hu Int)×((Hu u0g.den)×(Int×Int))))
abbrev Z56:=(Z63×(Int×Int))
abbrev Z55:=(u8g×p6k)
abbrev Z54:=(Int×Z60)
abbrev Z53:=((Hs×(Int×Bool))×((u8g×Unit)×(Int×Int)))
abbrev Z52:=((Hs×(Int×Bool))×((Unit×u8g)×(Int×Int)))
abbrev Z51:=((Hu u0g.den)×(u95×((Hs×Hs)×((Hu u0g.den)×Int))))
abbrev Z50:=(Z63×(Int×Hs))
abbrev Z49:=(Z63×(Hs×Bool))
abbrev Z48:=(Z63×((Hu q0z.den)×Int))
abbrev Z47:=(Z63×(Hs×(Bool×Int)))
abbrev Z46:=(u95×u95)
abbrev Z45:=(Z63×(Int×(Hs×Hs)))
abbrev Z44:=(Z63×(Hu u0a.den))
abbrev Z43:=(Z63×t8u)
abbrev Z42:=(u95×p35)
abbrev Z41:=(Z63×(Int×(Hs×(Hs×Bool))))
abbrev Z40:=(Z43×Int)
abbrev Z39:=(Int×Z43)
abbrev Z38:=(Z43×Bool)
abbrev Z37:=(Bool×Z43)
abbrev Z36:=(Z63×(Int×p9f))
abbrev Z35:=(u8g×u95)
abbrev Z34:=(Z43×(Int×Hs))
abbrev Z33:=(Z43×(Hs×Bool))
abbrev Z32:=(u95×Z97)
abbrev Z31:=(u8g×p75)
abbrev Z30:=(Z43×((Hu Int)×(Int×Int)))
abbrev Z29:=(((Hu Int)×(Int×Int))×Z43)
abbrev Z28:=(u8g×u8g)
abbrev Z27:=(u95×((Hs×(Int×Bool))×(u95×(Int×Int))))
abbrev Z26:=(Int×(u95×(Hs×(Bool×u8g))))
abbrev Z25:=((Hu u0a.den)×(u95×(Int×p35)))
abbrev Z24:=(Z26×Bool)
abbrev Z23:=((Hu u0a.den)×(u95×(Bool×(Int×p35))))
abbrev Z22:=(Z63×(Int×u95))
abbrev Z21:=(u8g×(u8g×((Hu Hs)×Int)))
abbrev Z20:=(u8g×Z70)
abbrev Z19:=(Z63×(Int×p35))
abbrev Z18:=(Z26×((Hu Int)×(Int×Int)))
abbrev Z17:=(u8g×((Hs×(Int×Bool))×(u8g×(Int×Int))))
abbrev Z16:=(u95×((Hs×Hs)×Z46))
abbrev Z15:=(u95×((Hs×Hs)×Z42))
abbrev Z14:=(u95×Z28)
abbrev Z13:=(u8g×Z26)
abbrev Z12:=(u8g×(u8g×p74))
abbrev Z11:=(u8g×(u8g×(u8g×(Int×Int))))
abbrev Z10:=(Hs×Z12)
abbrev Z9:=(Z63×(Z26×Int))
abbrev Z8:=(((Hu Int)×(Int×Int))×(Z43×Z43))
abbrev Z7:=(Z43×Z26)
abbrev Z6:=(((Hu Int)×(Int×Int))×(Int×(Z43×Z40)))
abbrev Z5:=(Hs×(u8g×(u95×(u8g×p74))))
abbrev Z4:=(Z26×Z26)
abbrev Z3:=(u8g×(u95×(u8g×(u8g×p35))))
abbrev Z2:=(Hs×(u8g×(u95×(u8g×Z35))))
abbrev Z1:=(Hs×Z3)
def o20:Tabs where
 ty:= [(3,(.int .i64)),(4, .bool),(5,(.int .u8)),(9, .str),(22,(.sl (.int .u8))),(24,(.sl u0g)),(25,(.sl u0a)),(27,r8j),(29,q54),(30,(.sl .str)),(31,(.sl p1t)),(33,q9p),(35,p14),(51,u2n),(58,(.sl (.int .i64))),(67,(.sl q0z)),(68,(.sl u2n)),(70,u0a),(72,p13),(133,u0g),(145,q0z),(147,(.sl q0z)),(149,q0z),(167,p5m),(175,p5m),(182,(.sl (.sl u0a))),(211,p6i),(242,(.int .u32)),(278,p1t)]
 lay:= [(3,1,false),(4,1,false),(5,1,false),(9,1,false),(22,1,false),(24,1,false),(25,1,false),(27,5,true),(29,6,true),(30,1,false),(31,1,false),(33,2,true),(35,8,true),(51,3,true),(67,1,false),(68,1,false),(70,8,true),(72,16,true),(133,4,true),(145,2,true),(165,1,false)]
 fld:= [(27, [(0,1,false),(1,1,false),(2,1,false),(3,1,false),(4,1,false)]),(29, [(0,5,true),(5,1,false)]),(33, [(0,1,false),(1,1,false)]),(35, [(0,6,true),(6,2,true)]),(51, [(0,1,false),(1,1,false),(2,1,false)]),(70, [(0,1,false),(1,1,false),(2,1,false),(3,1,false),(4,1,false),(5,1,false),(6,1,false),(7,1,false)]),(72, [(0,1,false),(1,8,true),(9,1,false),(10,1,false),(11,5,true)]),(133, [(0,1,false),(1,1,false),(2,1,false),(3,1,false)]),(145, [(0,1,false),(1,1,false)]),(149, [(0,1,false),(1,1,false)]),(160, [(0,1,false)]),(167, [(0,1,false),(1,1,false),(2,1,false)]),(175, [(0,1,false),(1,1,false),(2,1,false)]),(211, [(0,1,false),(1,1,false),(2,1,false)]),(278, [(0,1,false),(1,1,false)])]
 eqs:= [(51, [.s, .s, .b]),(133, [.s, .s, .b, .i]),(145, [.s, .s])]
 tz:= [(160,(.sl (.int .u8)))]
abbrev zL (a:Hu Nat) (s:Sh) (n:Nat) (b:Hu Nat) (t:Sh) (c:Hu Nat) (u:Sh):LoopA:=⟨⟨a,s, []⟩,n,⟨b,t, []⟩,⟨c,u, []⟩⟩
def zS (i o:Sh) (n:Nat:=1) (b:Hu Bool:= []):Sig:=⟨i,b,o,n⟩
abbrev p68:Ty:=.int .u8
abbrev p69:Ty:=.int .i64
abbrev o3l:Ty:=.sl u0a
abbrev u13:Sh:=.int .i64
abbrev q0q:Sh:=.tr false u0a
abbrev s9k:Sh:=.pair u13 u13
abbrev r1r:Sh:=.tr false u0g
abbrev q0v:Sh:=.tr false u2n
abbrev r8g:Sh:=.pair .str .bool
abbrev q3p:Sh:=.box (.own true p68)
abbrev p1q:Sh:=.own true u0a
abbrev q51:Sh:=.pair .str u13
abbrev p3u:Sh:=.own true u0g
abbrev p9v:Sh:=.pair p3u (.pair p1q (.pair p1q s9k))
abbrev p7c:Sh:=.pair p9v p1q
abbrev r55:Sh:=.box p9v
abbrev o0w:Sh:=.pair .str .str
abbrev p9y:Sh:=.rbox (.ref 0)
abbrev p1r:Sh:=.own true .str
abbrev p7b:Sh:=.pair p1r (.own true p1t)
abbrev p0h:Sh:=.box (.pair p7c p7b)
abbrev p1x:Sh:=.pair (.agg p7b) .bool
abbrev p5j:Sh:=.pair u13 .bool
abbrev t8t:Sh:=.box (.pair .str p5j)
abbrev p7e:Sh:=.agg (.pair .str r8g)
abbrev p1s:Sh:=.box p7b
abbrev p9z:Sh:=.own false u0a
abbrev p6a:Sh:=.own true u2n
abbrev p1y:Sh:=.int .u32
abbrev p3x:Sh:=.tr false p68
abbrev t67:Sh:=.box (.pair p3x s9k)
abbrev p0i:Sh:=.agg p9v
abbrev p8y:Sh:=.pair u13 .str
abbrev p8z:Sh:=.tr false o3l
abbrev p7f:Sh:=.pair q0v u13
abbrev p90:Sh:=.pair u13 (.own true p68)
abbrev p6b:Sh:=.own true q0z
abbrev o0v:Sh:=.pair u13 (.pair u13 (.pair u13 (.pair u13 (.pair p6b (.pair p6a (.pair .bool .str))))))
abbrev p7t:Sh:=.agg (.pair u13 (.pair o0v (.pair .str (.pair .bool p9v))))
abbrev q2m:Sh:=.box o0v
abbrev p7g:Sh:=.rbox t8t
abbrev p7h:Sh:=.pair .bool u13
abbrev p7u:Sh:=.pair u13 s9k
abbrev p7v:Sh:=.pair r55 p9y
abbrev p7i:Sh:=.tr false .str
abbrev p9x:Sh:=.pair p7i (.tr false p1t)
abbrev q77:Sh:=.agg p9x
abbrev p91:Sh:=.agg (.pair p7c p7b)
abbrev p7j:Sh:=.tr false q0z
abbrev p7s:Sh:=.pair u13 (.pair u13 (.pair u13 (.pair u13 (.pair p7j (.pair q0v (.pair .bool .str))))))
abbrev r2o:Sh:=.box p7s
abbrev q0r:Sh:=.agg p7s
abbrev p8x:Sh:=.pair r2o u13
abbrev o0y:Sh:=.pair q0q (.clo 290 (.rbox p7s))
abbrev p7w:Sh:=.tr true u0g
abbrev o24:Sh:=.pair q0v (.pair (.box (.pair .str r8g)) (.pair p6a u13))
abbrev p5l:Sh:=.box p9x
abbrev p80:Sh:=.pair q0r q0q
abbrev o0z:Sh:=.pair p1s (.pair p1s u13)
abbrev p7x:Sh:=.pair q0q s9k
abbrev p9w:Sh:=.pair r1r (.pair q0q p7x)
abbrev p5i:Sh:=.agg (.pair u13 (.pair p7s (.pair .str (.pair .bool p9w))))
abbrev p7d:Sh:=.pair p9w q0q
abbrev r77:Sh:=.box p9w
abbrev q3q:Sh:=.agg p9w
abbrev p5k:Sh:=.agg p7d
abbrev p7y:Sh:=.pair p3u u13
abbrev o22:Sh:=.pair q0v (.pair u13 (.pair p7w (.pair u13 (.pair (.box (.pair .str (.pair .str p7h))) p7y))))
abbrev o00:Sh:=.pair r55 (.pair r55 u13)
abbrev p81:Sh:=.pair q0q p8x
abbrev p6c:Sh:=.agg o0w
abbrev o01:Sh:=.clo 215 (.pair p9y r55)
abbrev o02:Sh:=.clo 218 (.pair q2m p9y)
abbrev o03:Sh:=.clo 219 (.pair p9y q2m)
abbrev p6d:Sh:=.agg p7c
abbrev o0x:Sh:=.pair p6d (.pair p7t u13)
abbrev p7k:Sh:=.agg o0v
abbrev p6e:Sh:=.box o0w
abbrev o23:Sh:=.pair r1r (.pair p6e (.pair (.tr true .str) (.pair u13 (.pair .str (.pair p1r u13)))))
abbrev o04:Sh:=.pair (.box p7d) u13
abbrev p92:Sh:=.pair t67 u13
abbrev p93:Sh:=.pair .str t67
abbrev p94:Sh:=.pair p5k u13
abbrev p95:Sh:=.pair u13 p5j
abbrev p96:Sh:=.pair q77 u13
abbrev p97:Sh:=.pair q77 p8y
abbrev p98:Sh:=.pair r55 p7g
abbrev p99:Sh:=.pair u13 p8x
abbrev o25:Sh:=.pair q2m (.pair t8t (.pair q2m s9k))
abbrev o0a:Sh:=.pair p1y q51
abbrev o0b:Sh:=.pair q0v s9k
abbrev o0c:Sh:=.pair r55 r55
abbrev o0d:Sh:=.pair p8z s9k
abbrev o26:Sh:=.pair r77 (.pair (.own true p69) u13)
abbrev o27:Sh:=.pair r77 (.pair (.tr true p69) u13)
def p60:Nat→Sig
 | 8=>zS p3x .bool
 | 57=>zS p3x t67
 | 220=>zS t67 (.pair u13 t67) 1 [true]
 | 106=>zS p92 (.pair u13 t67) 1 [true,false]
 | 187=>zS (.pair t67 p7i) p93 1 [true,false]
 | 189=>zS p92 (.pair .bool t67) 1 [true,false]
 | 152=>zS .unit p0i
 | 267=>zS .unit p6d
 | 120=>zS p7u .bool
 | 320=>zS (.pair u13 (.int .u8)) .str
 | 406=>zS .unit .str
 | 356=>zS u13 p1x 2
 | 357=>zS .unit u13
 | 268=>zS .unit (.agg p7b)
 | 160=>zS .unit p91
 | 70=>zS q0r p7k
 | 178=>zS q0q p1q
 | 68=>zS q3q p0i
 | 72=>zS p5k p6d
 | 123=>zS .str .bool
 | 75=>zS p7e .bool
 | 180=>zS q0v .bool
 | 235=>zS p6c .bool
 | 121=>zS q0r .bool
 | 131=>zS r1r .bool
 | 42=>zS q3q .bool
 | 73=>zS p5k .bool
 | 17=>zS p5k (.pair p6d s9k) 3
 | 74=>zS p94 u13
 | 179=>zS (.pair q0v p7e) p6a
 | 76=>zS (.pair q0r p7e) (.pair p7k .bool) 2
 | 18=>zS (.pair p5k (.pair u13 p7e)) (.pair p6d u13) 2
 | 261=>zS q77 (.agg p7b)
 | 155=>zS (.agg (.pair p7d p9x)) p91
 | 232=>zS u13 .str
 | 234=>zS q51 p95 3
 | 227=>zS q51 (.pair .str p5j) 3
 | 111=>zS t8t (.pair .str t8t) 1 [true]
 | 112=>zS t8t (.pair .bool t8t) 1 [true]
 | 118=>zS t8t (.pair u13 t8t) 1 [true]
 | 113=>zS q51 (.pair p7k p5j) 3
 | 119=>zS (.pair t8t u13) (.pair p1q t8t) 1 [true,false]
 | 38=>zS q51 (.pair p0i p5j) 3
 | 122=>zS q0r .bool
 | 124=>zS q3q .bool
 | 39=>zS p5i .bool
 | 224=>zS p1y .str
 | 318=>zS (.pair p1y .str) p1y
 | 225=>zS .str p1y
 | 109=>zS .str r8g 2
 | 221=>zS .str .str
 | 222=>zS .bool .str
 | 223=>zS q0r r8g 2
 | 233=>zS q0q .str
 | 117=>zS q3q r8g 2
 | 107=>zS p5i r8g 2
 | 108=>zS .str r8g 2
 | 33=>zS .str (.pair p7t .bool) 2
 | 355=>zS p96 r8g 2
 | 263=>zS (.pair q77 s9k) r8g 2
 | 264=>zS u13 u13
 | 266=>zS p96 u13
 | 265=>zS p96 u13
 | 157=>zS p96 (.pair p1r p5j) 3
 | 158=>zS q77 u13
 | 53=>zS q77 p1r
 | 69=>zS (.pair q3q q0q) u13
 | 79=>zS (.pair r1r q51) u13
 | 71=>zS (.pair r1r u13) p3u
 | 14=>zS (.pair q3q q0q) p0i
 | 307=>zS (.pair q3q .str) u13
 | 387=>zS (.pair r1r p7f) p3u
 | 330=>zS (.pair p6c .str) .bool
 | 427=>zS (.pair p7j q0v) .bool
 | 429=>zS (.pair q0r q0r) .bool
 | 394=>zS (.pair q0r q0r) .bool
 | 393=>zS p80 .bool
 | 333=>zS (.pair q3q q0r) p0i
 | 334=>zS (.pair q3q .str) p0i
 | 346=>zS (.pair q3q (.pair q0r .str)) p0i
 | 258=>zS (.pair q3q p5i) (.pair q3q .bool) 2
 | 153=>zS (.pair q3q p5i) (.pair p0i .bool) 2
 | 50=>zS q77 (.pair p0i .bool) 2
 | 375=>zS q77 .bool
 | 303=>zS q77 .bool
 | 351=>zS q77 (.agg p7b)
 | 352=>zS p97 p1x 2
 | 349=>zS (.pair q77 (.pair u13 p8y)) p1x 2
 | 350=>zS u13 .str
 | 379=>zS (.pair q77 s9k) p1x 2
 | 377=>zS p97 p1x 2
 | 405=>zS p97 p1x 2
 | 353=>zS (.pair q77 p7i) p1x 2
 | 354=>zS q77 p1x 2
 | 262=>zS (.pair q77 p7i) p1x 2
 | 156=>zS q77 p1x 2
 | 52=>zS (.agg (.pair p7d p9x)) (.pair p91 .bool) 2
 | 358=>zS (.pair q0r p6c) (.pair p7k .bool) 2
 | 20=>zS (.pair r1r q51) r8g 2
 | 359=>zS (.pair q0r (.pair r1r .str)) r8g 2
 | 269=>zS (.pair p5k p8y) (.pair p6d (.pair .str p7h)) 4
 | 270=>zS t67 p93 1 [true]
 | 331=>zS (.pair r1r p6c) p1r
 | 360=>zS (.pair q0r (.pair r1r p6c)) p6b
 | 271=>zS (.pair p5k (.pair u13 p6c)) (.pair p6d (.pair p6b u13)) 3
 | 272=>zS t67 (.pair p6c t67) 1 [true]
 | 273=>zS t67 (.pair p7e t67) 1 [true]
 | 363=>zS (.pair (.box p7c) u13) (.box p7c) 0 [true,false]
 | 332=>zS q3q .bool
 | 409=>zS q3q p9z
 | 428=>zS (.pair q0v q0v) .bool
 | 433=>zS p80 .bool
 | 435=>zS p80 .bool
 | 434=>zS p80 .bool
 | 407=>zS p94 u13
 | 361=>zS p94 o0x 3
 | 413=>zS p97 p1x 2
 | 376=>zS (.pair q77 .str) p1x 2
 | 362=>zS (.pair p0h p5i) (.pair .bool p0h) 1 [true,false]
 | 274=>zS (.pair p0h u13) (.pair u13 p0h) 1 [true,false]
 | 408=>zS p80 .bool
 | 364=>zS (.pair p5k p8y) o0x 3
 | 275=>zS (.pair p0h p8y) (.pair u13 p0h) 1 [true,false,false]
 | 250=>zS (.pair p5k r8g) o0x 3
 | 276=>zS (.pair p0h r8g) (.pair u13 p0h) 1 [true,false,false]
 | 277=>zS p94 (.pair p6d u13) 2
 | 161=>zS (.pair t67 p0h) (.pair t67 p0h) 0 [true,true]
 | 56=>zS p92 (.pair p91 t67) 1 [true,false]
 | 228=>zS t67 (.pair p0i t67) 1 [true]
 | 385=>zS t67 (.pair p6b t67) 1 [true]
 | 386=>zS t67 (.pair p6a t67) 1 [true]
 | 314=>zS t67 (.pair p7k t67) 1 [true]
 | 207=>zS t67 (.pair p7t t67) 1 [true]
 | 315=>zS t67 (.pair p7e t67) 1 [true]
 | 208=>zS t67 (.pair p7k t67) 1 [true]
 | 96=>zS t67 (.pair p7t t67) 1 [true]
 | 29=>zS p3x p7t
 | 212=>zS p7u .bool
 | 231=>zS u13 r8g 2
 | 209=>zS .str r8g 2
 | 97=>zS (.pair q3p p7i) q3p 0 [true,false]
 | 98=>zS (.pair q3p .bool) q3p 0 [true,false]
 | 116=>zS (.pair q3p (.tr false p69)) q3p 0 [true,false]
 | 129=>zS .str .bool
 | 236=>zS p6c .bool
 | 321=>zS p7e .bool
 | 237=>zS q0v .bool
 | 127=>zS q0r .bool
 | 99=>zS q0r r8g 2
 | 91=>zS q0r .bool
 | 128=>zS q0r .bool
 | 290=>zS (.pair q0r (.rbox p7s)) .bool
 | 10002=>zS o0y u13
 | 10001=>zS o0y .bool
 | 10000=>zS o0y .bool
 | 170=>zS (.pair q0q u13) .bool
 | 291=>zS (.pair .nil u13) p1q
 | 171=>zS p8z p9z
 | 380=>zS .str .bool
 | 308=>zS o0w u13
 | 381=>zS u13 .bool
 | 309=>zS s9k u13
 | 199=>zS (.pair (.agg (.pair .str (.pair .str p7h))) (.agg (.pair .str (.pair .str p7h)))) u13
 | 230=>zS r1r .bool
 | 115=>zS q3q .bool
 | 35=>zS q3q r8g 2
 | 125=>zS q0r .bool
 | 126=>zS q3q .bool
 | 40=>zS p5i .bool
 | 316=>zS (.pair p1y .str) p1y
 | 210=>zS .str p1y
 | 100=>zS .str r8g 2
 | 30=>zS p5i r8g 2
 | 101=>zS .str r8g 2
 | 317=>zS q51 p95 3
 | 211=>zS q51 (.pair .str p5j) 3
 | 102=>zS t8t (.pair .str t8t) 1 [true]
 | 103=>zS t8t (.pair .bool t8t) 1 [true]
 | 213=>zS t8t (.pair u13 t8t) 1 [true]
 | 215=>zS (.pair p7g r55) (.pair p7g r55) 0 [true,true]
 | 10003=>zS (.pair t8t o01) (.pair t8t (.clo 215 (.pair .skip r55))) 0 [true,true]
 | 218=>zS (.pair q2m p7g) (.pair q2m p7g) 0 [true,true]
 | 10005=>zS (.pair t8t o02) (.pair t8t (.clo 218 (.pair q2m .skip))) 0 [true,true]
 | 219=>zS (.pair p7g q2m) (.pair p7g q2m) 0 [true,true]
 | 10006=>zS (.pair t8t o03) (.pair t8t (.clo 219 (.pair .skip q2m))) 0 [true,true]
 | 105=>zS t8t (.pair p7k t8t) 1 [true]
 | 216=>zS p98 p98 0 [true,true]
 | 10004=>zS (.pair t8t (.clo 216 p7v)) (.pair t8t (.clo 216 (.pair r55 .skip))) 0 [true,true]
 | 217=>zS p98 p98 0 [true,true]
 | 10007=>zS (.pair t8t (.clo 217 p7v)) (.pair t8t (.clo 217 (.pair r55 .skip))) 0 [true,true]
 | 104=>zS t8t (.pair p0i t8t) 1 [true]
 | 31=>zS .str (.pair p7t .bool) 2
 | 226=>zS p92 p93 1 [true,false]
 | 110=>zS (.pair t67 .str) p93 1 [true,false]
 | 32=>zS p3x .str
 | 319=>zS t67 (.pair p3u t67) 1 [true]
 | 229=>zS t67 (.pair p3u t67) 1 [true]
 | 114=>zS t67 (.pair p0i t67) 1 [true]
 | 34=>zS p3x p0i
 | 36=>zS q51 (.pair p0i p5j) 3
 | 37=>zS p3x q51 2
 | 132=>zS (.pair r1r r1r) .bool
 | 238=>zS (.pair q0v q0v) .bool
 | 130=>zS (.pair q0r q0r) .bool
 | 133=>zS (.pair q0q q0q) .bool
 | 43=>zS (.pair q3q q3q) .bool
 | 41=>zS (.pair p5i p5i) .bool
 | 5=>zS p3x .bool
 | _=>zS .unit .unit 0
def p8c:Nat→Nat→Ht Join
 | 57,7=>some ⟨[15],.bool,[]⟩
 | 120,3=>some ⟨[6],.bool,[]⟩
 | 123,9=>some ⟨[19],.bool,[]⟩
 | 75,3=>some ⟨[2],.bool,[]⟩
 | 180,9=>some ⟨[33],.bool,[]⟩
 | 235,3=>some ⟨[2],.bool,[]⟩
 | 121,3=>some ⟨[31],.bool,[]⟩
 | 121,17=>some ⟨[67],.bool,[]⟩
 | 121,21=>some ⟨[86],.bool,[]⟩
 | 121,25=>some ⟨[2],.bool,[]⟩
 | 131,11=>some ⟨[39],.bool,[]⟩
 | 131,15=>some ⟨[74],.bool,[]⟩
 | 42,3=>some ⟨[38],.bool,[]⟩
 | 42,27=>some ⟨[98],.bool,[]⟩
 | 42,41=>some ⟨[146],.bool,[]⟩
 | 73,3=>some ⟨[16],.bool,[]⟩
 | 73,15=>some ⟨[68],.bool,[]⟩
 | 17,5=>some ⟨[23],.bool,[]⟩
 | 76,5=>some ⟨[21],.bool,[]⟩
 | 234,13=>some ⟨[25],.bool,[]⟩
 | 234,23=>some ⟨[54],.bool,[]⟩
 | 227,5=>some ⟨[30],.bool,[]⟩
 | 111,5=>some ⟨[26],.bool,[]⟩
 | 112,3=>some ⟨[30],.bool,[]⟩
 | 118,5=>some ⟨[26],.bool,[]⟩
 | 113,17=>some ⟨[46],.bool,[]⟩
 | 113,31=>some ⟨[76],.bool,[]⟩
 | 113,47=>some ⟨[108],.bool,[]⟩
 | 119,9=>some ⟨[28],.bool,[]⟩
 | 38,13=>some ⟨[37],.bool,[]⟩
 | 38,31=>some ⟨[72],.bool,[]⟩
 | 122,3=>some ⟨[2],.bool,[]⟩
 | 124,3=>some ⟨[2],.bool,[]⟩
 | 39,7=>some ⟨[3],.bool,[]⟩
 | 39,9=>some ⟨[54],.bool,[]⟩
 | 39,13=>some ⟨[77],.bool,[]⟩
 | 108,5=>some ⟨[24],.bool,[]⟩
 | 33,5=>some ⟨[20],.bool,[]⟩
 | 33,29=>some ⟨[66],.bool,[]⟩
 | 263,15=>some ⟨[28],.bool,[]⟩
 | 266,5=>some ⟨[18],.bool,[]⟩
 | 157,27=>some ⟨[52],.bool,[]⟩
 | 79,11=>some ⟨[47],.bool,[]⟩
 | 71,13=>some ⟨[38],.bool,[]⟩
 | 71,37=>some ⟨[90],.bool,[]⟩
 | 387,17=>some ⟨[72],.bool,[]⟩
 | 330,3=>some ⟨[4],.bool,[]⟩
 | 429,7=>some ⟨[31],.bool,[]⟩
 | 394,3=>some ⟨[4],.bool,[]⟩
 | 393,9=>some ⟨[25],.bool,[]⟩
 | 258,15=>some ⟨[36],.bool,[]⟩
 | 153,3=>some ⟨[16],.bool,[]⟩
 | 50,17=>some ⟨[39],.bool,[]⟩
 | 375,3=>some ⟨[15],.bool,[]⟩
 | 375,23=>some ⟨[58],.bool,[]⟩
 | 303,3=>some ⟨[24],.bool,[]⟩
 | 303,11=>some ⟨[2],.bool,[]⟩
 | 352,5=>some ⟨[33],.bool,[]⟩
 | 349,5=>some ⟨[37],.bool,[]⟩
 | 349,25=>some ⟨[77],.bool,[]⟩
 | 377,5=>some ⟨[35],.bool,[]⟩
 | 353,11=>some ⟨[27],.bool,[]⟩
 | 156,7=>some ⟨[24],.bool,[]⟩
 | 358,5=>some ⟨[22],.bool,[]⟩
 | 20,5=>some ⟨[21],.bool,[]⟩
 | 332,3=>some ⟨[2],.bool,[]⟩
 | 433,11=>some ⟨[45],.bool,[]⟩
 | 435,9=>some ⟨[33],.bool,[]⟩
 | 434,3=>some ⟨[16],.bool,[]⟩
 | 434,15=>some ⟨[43],.bool,[]⟩
 | 434,19=>some ⟨[56],.bool,[]⟩
 | 434,25=>some ⟨[70],.bool,[]⟩
 | 434,31=>some ⟨[91],.bool,[]⟩
 | 413,3=>some ⟨[17],.bool,[]⟩
 | 408,17=>some ⟨[33],.bool,[]⟩
 | 408,29=>some ⟨[64],.bool,[]⟩
 | 364,21=>some ⟨[52],.bool,[]⟩
 | 364,25=>some ⟨[61],.bool,[]⟩
 | 250,11=>some ⟨[26],.bool,[]⟩
 | 161,15=>some ⟨[54],.bool,[]⟩
 | 212,3=>some ⟨[6],.bool,[]⟩
 | 129,9=>some ⟨[19],.bool,[]⟩
 | 236,3=>some ⟨[2],.bool,[]⟩
 | 321,3=>some ⟨[2],.bool,[]⟩
 | 237,9=>some ⟨[29],.bool,[]⟩
 | 127,15=>some ⟨[52],.bool,[]⟩
 | 127,19=>some ⟨[74],.bool,[]⟩
 | 127,23=>some ⟨[2],.bool,[]⟩
 | 230,9=>some ⟨[50],.bool,[]⟩
 | 115,3=>some ⟨[36],.bool,[]⟩
 | 115,25=>some ⟨[88],.bool,[]⟩
 | 115,37=>some ⟨[128],.bool,[]⟩
 | 125,3=>some ⟨[2],.bool,[]⟩
 | 126,3=>some ⟨[2],.bool,[]⟩
 | 40,11=>some ⟨[3],.bool,[]⟩
 | 40,15=>some ⟨[3],.bool,[]⟩
 | 40,25=>some ⟨[2],.bool,[]⟩
 | 101,11=>some ⟨[26],.bool,[]⟩
 | 317,11=>some ⟨[26],.bool,[]⟩
 | 317,23=>some ⟨[57],.bool,[]⟩
 | 211,5=>some ⟨[30],.bool,[]⟩
 | 102,5=>some ⟨[26],.bool,[]⟩
 | 103,3=>some ⟨[32],.bool,[]⟩
 | 213,5=>some ⟨[26],.bool,[]⟩
 | 10003,5=>some ⟨[17],.bool,[]⟩
 | 10005,5=>some ⟨[17],.bool,[]⟩
 | 10006,5=>some ⟨[17],.bool,[]⟩
 | 10004,5=>some ⟨[17],.bool,[]⟩
 | 10007,5=>some ⟨[17],.bool,[]⟩
 | 31,5=>some ⟨[20],.bool,[]⟩
 | 31,29=>some ⟨[64],.bool,[]⟩
 | 130,3=>some ⟨[62],.bool,[]⟩
 | 43,3=>some ⟨[4],.bool,[]⟩
 | 41,3=>some ⟨[4],.bool,[]⟩
 | 5,33=>some ⟨[2],.bool,[]⟩
 | _,_=>none
abbrev s76:=zL [0,3,4] (.pair p3x s9k) 0 [0,3] (.pair p3x u13) [] .unit
abbrev s47:=zL [0,1,5,6] (.pair u13 (.pair (.int .u8) (.pair (.own true p68) u13))) 0 [5] (.tr true p68) [] .unit
abbrev s4t:=zL [0,2,4,5] (.pair u13 o0z) 0 [2,4] (.pair p1s p1s) [] .unit
abbrev s5c:=zL [0,3,4] (.pair q0q (.pair p1q u13)) 0 [3] p1q [] .unit
abbrev r09:=zL [0,3] q51 0 [0] .str [2] .bool
abbrev s1w:=zL [0,3] p7f 0 [0] q0v [2] .bool
abbrev r1d:=zL [1,3] p8x 0 [1] r2o [2] .bool
abbrev t7x:=zL [0,3] (.pair r1r u13) 0 [0] r1r [2] .bool
abbrev s7z:=zL [1,3] (.pair r77 u13) 0 [1] r77 [2] .bool
abbrev s4n:=zL [1,4,5] o26 2 [1,4] (.pair r77 (.own true p69)) [2] .bool
abbrev s4o:=zL [1,4,7] o26 4 [1,4] (.pair r77 (.tr true p69)) [2] .bool
abbrev s4p:=zL [1,4,9] o27 6 [] .unit [2] .bool
abbrev s4q:=zL [1,4,9,10] (.pair r77 (.pair (.tr true p69) s9k)) 8 [1,4,9] o27 [2] .bool
abbrev s1m:=zL [1,3] o04 0 [] .unit [2] .bool
abbrev t9f:=zL [1,3,4,5] (.pair (.box p7d) p99) 2 [1,3,4] (.pair (.box p7d) (.pair u13 r2o)) [2] .bool
abbrev t9g:=zL [1,3,4,6] (.pair (.box p7d) p99) 4 [1,3] o04 [2] .bool
abbrev s73:=zL [1,2,5] (.pair u13 o04) 0 [] .unit [4] u13
abbrev s1o:=zL [0,3,5,6] o24 0 [0,3,5] (.pair q0v (.pair (.box (.pair .str r8g)) p6a)) [] .unit
abbrev s1p:=zL [0,3,5,7] o24 2 [5] p6a [] .unit
abbrev s77:=zL [0,3] p90 0 [0,3] p90 [] .unit
abbrev s4z:=zL [0,1,7,8,9] (.pair .str (.pair u13 p7u)) 0 [] .unit [4,5,6] p95
abbrev s4y:=zL [4,7,8,9,10] o25 0 [4,7,8] (.pair q2m (.pair t8t q2m)) [] .unit
abbrev s1r:=zL [4,7,8,12,13] o25 2 [4,7,8] (.pair q2m (.pair t8t q2m)) [] .unit
abbrev t6p:=zL [0,1,5,6,7] (.pair t8t (.pair u13 (.pair p1q s9k))) 0 [0,5] (.pair t8t p1q) [0,4] (.pair t8t p1q)
abbrev s1q:=zL [4,7,8,9,10] (.pair r55 (.pair t8t (.pair r55 s9k))) 0 [4,7,8] (.pair r55 (.pair t8t r55)) [] .unit
abbrev s41:=zL [0,1,5] o0a 0 [0] p1y [] .unit
abbrev s42:=zL [0,1,5,6] (.pair p1y (.pair .str s9k)) 2 [0,1,5] o0a [] .unit
abbrev s46:=zL [1,4,5] (.pair r2o q51) 0 [1,4] (.pair r2o .str) [] .unit
abbrev s1v:=zL [1,4,6] (.pair r2o q51) 2 [1,4] (.pair r2o .str) [] .unit
abbrev s5d:=zL [0,3,4] (.pair q0q q51) 0 [3] .str [] .unit
abbrev s1l:=zL [1,4,5] (.pair r77 q51) 0 [1,4] (.pair r77 .str) [] .unit
abbrev t7v:=zL [1,2,6] (.pair u13 (.pair p5l u13)) 0 [1,2] (.pair u13 p5l) [4,5] r8g
abbrev t7w:=zL [1,2,3,8,9] (.pair u13 (.pair u13 (.pair p5l q51))) 0 [8] .str [6,7] r8g
abbrev t9j:=zL [1,2,7,8,10,11,12] (.pair u13 (.pair p5l (.pair p1r (.pair .str (.pair p1r s9k))))) 0 [10,11] (.pair p1r u13) [4,5,6] (.pair p1r p5j)
abbrev s1n:=zL [1,5,6] p7x 0 [5] u13 [] .unit
abbrev r1e:=zL [0,1,2,7,8] (.pair r1r (.pair .str p7u)) 0 [7] u13 [] .unit
abbrev s45:=zL [0,1,5,6] (.pair r1r (.pair u13 p7y)) 0 [1,5] (.pair u13 p7w) [] .unit
abbrev s1t:=zL [1,5,8,9] (.pair u13 (.pair p7w p7y)) 2 [8] p3u [] .unit
abbrev s1u:=zL [1,5,8,9,10,11] (.pair u13 (.pair p7w (.pair p3u p7u))) 4 [1,5,8,9,10] (.pair u13 (.pair p7w (.pair p3u s9k))) [] .unit
abbrev s75:=zL [2,4,5,6,7] (.pair r77 (.pair r55 (.pair r55 s9k))) 0 [2,4,5,6] (.pair r77 o00) [] .unit
abbrev s40:=zL [1,2,5] (.pair .str (.pair r77 u13)) 0 [] .unit [4] u13
abbrev t6l:=zL [1,2,7,8] (.pair q0v (.pair u13 p7y)) 0 [7] p3u [] .unit
abbrev t6m:=zL [1,2,7,8,9,10,11] o22 2 [1,2,7,8,9,10,11] o22 [] .unit
abbrev s43:=zL [0,1,5] (.pair p7j p7f) 0 [] .unit [4] .bool
abbrev s44:=zL [0,1,5,6] (.pair p7j o0b) 2 [0,1,5] (.pair p7j p7f) [4] .bool
abbrev r1c:=zL [1,2,5] p81 0 [] .unit [4] .bool
abbrev s1s:=zL [2,3,4,5,6,7] (.pair r77 (.pair r2o (.pair r55 (.pair r55 (.pair (.box (.pair u13 (.pair u13 (.pair u13 (.pair u13 (.pair (.tr true q0z) (.pair (.tr true u2n) (.pair .bool .str)))))))) u13))))) 0 [3,4,5] (.pair r2o o0c) [] .unit
abbrev s4u:=zL [1,2,4,5,6] (.pair .str (.pair r77 o00)) 0 [4,5] o0c [] .unit
abbrev t9i:=zL [2,3,4,6,7,8,9] (.pair .str (.pair r77 (.pair r2o (.pair r55 (.pair r55 (.pair q2m u13)))))) 0 [2,3,4,6,7,8] (.pair .str (.pair r77 (.pair r2o (.pair r55 (.pair r55 q2m))))) [] .unit
abbrev t7u:=zL [2,3,4,6,7,10] (.pair .str (.pair r77 (.pair r2o o00))) 2 [4,6,7] (.pair r2o o0c) [] .unit
abbrev s4x:=zL [2,4,5,6] (.pair r55 (.pair r55 (.pair (.tr true .str) u13))) 0 [2,4] o0c [2,3] (.pair r55 .bool)
abbrev s71:=zL [1,3] (.pair p5l u13) 0 [1] p5l [2] .bool
abbrev s72:=zL [1,4] (.pair p5l u13) 2 [] .unit [2] .bool
abbrev t9h:=zL [1,2,3,4] (.pair p5l o0z) 0 [2,3] (.pair p1s p1s) [] .unit
abbrev t7y:=zL [1,2,3,4,8,10,11] (.pair u13 (.pair u13 (.pair .str (.pair p5l o0z)))) 0 [8,10] (.pair p1s p1s) [8,9] (.pair p1s .bool)
abbrev s49:=zL [1,4,6,7,8,9] (.pair p7i (.pair p1s (.pair u13 (.pair p1s p7h)))) 0 [4,7,8] (.pair p1s (.pair p1s .bool)) [] .unit
abbrev t9k:=zL [2,3,4,6,7] (.pair r2o (.pair p6e (.pair q2m (.pair q2m u13)))) 0 [2,3,4,6] (.pair r2o (.pair p6e (.pair q2m q2m))) [4,5] (.pair q2m .bool)
abbrev s74:=zL [1,2,3,8] (.pair r1r (.pair .str p8x)) 0 [1,2,3] (.pair r1r (.pair .str r2o)) [6,7] r8g
abbrev s5a:=zL [0,3,5,6] (.pair r1r (.pair p6e (.pair p1r u13))) 0 [5] p1r [] .unit
abbrev s5b:=zL [0,3,5,6,7,8,9] o23 2 [0,3,5,6,7,8] (.pair r1r (.pair p6e (.pair (.tr true .str) (.pair u13 (.pair .str p1r))))) [] .unit
abbrev s1x:=zL [0,3,5,6,7,8,10] o23 4 [0,3,6,8] (.pair r1r (.pair p6e (.pair u13 p1r))) [] .unit
abbrev s4v:=zL [1,3,5,7,8] (.pair r1r (.pair r2o (.pair p6e p7y))) 0 [1,3,5,7] (.pair r1r (.pair r2o (.pair p6e p7w))) [] .unit
abbrev s4w:=zL [1,3,9,10,11] (.pair r1r (.pair r2o (.pair p6b (.pair (.tr true .str) u13)))) 2 [9] p6b [] .unit
abbrev s78:=zL [0,1,4,5] (.pair (.box p7c) (.pair u13 (.pair p1q u13))) 0 [0,4] (.pair (.box p7c) p1q) [] .unit
abbrev r1a:=zL [0,1,5] (.pair q0v p7f) 0 [] .unit [4] .bool
abbrev r1b:=zL [0,1,5,6] (.pair q0v o0b) 2 [0,1,5] (.pair q0v p7f) [4] .bool
abbrev s4r:=zL [1,2,5] p81 0 [] .unit [4] .bool
abbrev r4c:=zL [1,2,5] p81 0 [] .unit [4] .bool
abbrev s70:=zL [1,2,5] p81 0 [] .unit [4] .bool
abbrev s4s:=zL [1,2,5,6,7] (.pair q0q (.pair r2o p99)) 2 [1,2,5] p81 [4] .bool
abbrev t6n:=zL [1,2,5,6] (.pair q0q (.pair r2o p7h)) 0 [] .unit [4] .bool
abbrev t5s:=zL [1,2,5,6,7,8] (.pair q0q (.pair r2o (.pair .bool p99))) 2 [1,2,5,6] (.pair q0q (.pair r2o p7h)) [4] .bool
abbrev s5e:=zL [0,1,4,5,6] (.pair t67 (.pair u13 (.pair p0h (.pair p0h u13)))) 0 [0,4,5] (.pair t67 (.pair p0h p0h)) [] .unit
abbrev t9l:=zL [0,3,4] (.pair t67 (.pair p6b u13)) 0 [0,3] (.pair t67 p6b) [] .unit
abbrev t9m:=zL [0,3,4] (.pair t67 (.pair p6a u13)) 0 [0,3] (.pair t67 p6a) [] .unit
abbrev s4l:=zL [0,4] p90 0 [0,4] p90 [] .unit
abbrev t9e:=zL [0,8,9,10] (.pair q3p (.pair p7i s9k)) 0 [0] q3p [] .unit
abbrev s1j:=zL [0,8,9,10] (.pair q3p (.pair (.tr false p69) s9k)) 0 [0] q3p [] .unit
abbrev r07:=zL [0,3] q51 0 [0] .str [2] .bool
abbrev s1i:=zL [0,5,6,7] (.pair q0v o0b) 0 [0] q0v [2] .bool
abbrev r08:=zL [1,6,7,8] (.pair r2o (.pair p7j s9k)) 0 [1] r2o [2] .bool
abbrev s4k:=zL [1,4,29,30,31] (.pair r2o (.pair q3p (.pair p7j s9k))) 0 [1,4] (.pair r2o q3p) [] .unit
abbrev s1h:=zL [1,4,50,51,52] (.pair r2o (.pair q3p o0b)) 2 [1,4] (.pair r2o q3p) [] .unit
abbrev u2o:=zL [0,1,7,8] (.pair q0q (.pair (.clo 290 (.rbox p7s)) s9k)) 0 [] .unit [4] u13
abbrev t9d:=zL [0,1,7,8,9] (.pair q0q (.pair u13 p7x)) 0 [] .unit [4] .bool
abbrev t0j:=zL [0,3,9,10,11] (.pair p8z (.pair u13 o0d)) 0 [0,3] (.pair p8z u13) [] .unit
abbrev u81:=zL [6,25,26,27] (.pair p9z o0d) 2 [6] p9z [] .unit
abbrev t7s:=zL [0,5,6,7] (.pair r1r (.pair r1r s9k)) 0 [0] r1r [2] .bool
abbrev s7y:=zL [1,38,39,40] (.pair r77 (.pair r1r s9k)) 0 [1] r77 [2] .bool
abbrev s4f:=zL [1,51,52,53] (.pair r77 p7x) 2 [1] r77 [2] .bool
abbrev s4g:=zL [1,91,92,93] (.pair r77 p7x) 4 [1] r77 [2] .bool
abbrev s1g:=zL [1,4,29,30,31] (.pair r77 (.pair q3p (.pair r1r s9k))) 0 [1,4] (.pair r77 q3p) [] .unit
abbrev t9b:=zL [4,56,57,58] (.pair q3p o0d) 2 [4] q3p [] .unit
abbrev t9c:=zL [4,56,57,58,67,68,69] (.pair q3p (.pair p8z (.pair u13 (.pair u13 p7x)))) 4 [4,56,57,58] (.pair q3p o0d) [] .unit
abbrev s4i:=zL [0,1,5] o0a 0 [0] p1y [] .unit
abbrev s4j:=zL [0,1,5,6] (.pair p1y (.pair .str s9k)) 2 [0,1,5] o0a [] .unit
abbrev s4h:=zL [0,1,7,8] (.pair .str p7u) 0 [] .unit [4,5,6] p95
abbrev u3d:=zL [0,1,4,5] (.pair t8t (.pair o01 s9k)) 0 [0,1] (.pair t8t o01) [] .unit
abbrev u3n:=zL [0,1,4,5] (.pair t8t (.pair o02 s9k)) 0 [0,1] (.pair t8t o02) [] .unit
abbrev u3o:=zL [0,1,4,5] (.pair t8t (.pair o03 s9k)) 0 [0,1] (.pair t8t o03) [] .unit
abbrev u3e:=zL [0,1,4,5] (.pair t8t (.pair (.clo 216 p7v) s9k)) 0 [0,1] (.pair t8t (.clo 216 p7v)) [] .unit
abbrev u3f:=zL [0,1,4,5] (.pair t8t (.pair (.clo 217 p7v) s9k)) 0 [0,1] (.pair t8t (.clo 217 p7v)) [] .unit
abbrev s48:=zL [0,1,5,6] (.pair t67 (.pair u13 (.pair (.own true p68) u13))) 0 [0,5] (.pair t67 (.tr true p68)) [] .unit
abbrev t6o:=zL [0,3,4] (.pair t67 p7y) 0 [0,3] (.pair t67 p3u) [] .unit
abbrev t5r:=zL [0,1,5] (.pair r1r (.pair r1r u13)) 0 [] .unit [4] .bool
abbrev t7t:=zL [0,1,5] (.pair q0v p7f) 0 [] .unit [4] .bool
abbrev s4m:=zL [2,3,5] (.pair r2o p8x) 0 [] .unit [4] .bool
abbrev s1k:=zL [0,1,5] (.pair q0q (.pair q0q u13)) 0 [] .unit [4] .bool
def p8h:Nat→Nat→Ht LoopA
 | 57,3=>some s76
 | 320,3=>some s47
 | 356,5=>some s4t
 | 178,3=>some s5c
 | 123,2=>some r09
 | 180,2=>some s1w
 | 121,4=>some r1d
 | 131,2=>some t7x
 | 42,4=>some s7z
 | 42,10=>some s4n
 | 42,17=>some s4o
 | 42,24=>some s4p
 | 42,27=>some s4q
 | 73,4=>some s1m
 | 73,10=>some t9f
 | 73,15=>some t9g
 | 74,2=>some s73
 | 179,3=>some s1o
 | 179,9=>some s1p
 | 232,2=>some s77
 | 234,6=>some s4z
 | 113,8=>some s4y
 | 113,15=>some s1r
 | 119,4=>some t6p
 | 38,6=>some s1q
 | 318,2=>some s41
 | 318,6=>some s42
 | 223,5=>some s46
 | 223,10=>some s1v
 | 233,3=>some s5d
 | 117,5=>some s1l
 | 355,4=>some t7v
 | 263,5=>some t7w
 | 157,10=>some t9j
 | 69,3=>some s1n
 | 79,3=>some r1e
 | 71,3=>some s45
 | 71,10=>some s1t
 | 71,14=>some s1u
 | 14,5=>some s75
 | 307,2=>some s40
 | 387,3=>some t6l
 | 387,8=>some t6m
 | 427,2=>some s43
 | 427,5=>some s44
 | 393,2=>some r1c
 | 333,12=>some s1s
 | 334,4=>some s4u
 | 346,8=>some t9i
 | 346,14=>some t7u
 | 50,4=>some s4x
 | 375,4=>some s71
 | 375,9=>some s72
 | 351,5=>some t9h
 | 349,5=>some t7y
 | 353,5=>some s49
 | 358,5=>some t9k
 | 359,2=>some s74
 | 331,3=>some s5a
 | 331,9=>some s5b
 | 331,15=>some s1x
 | 360,3=>some s4v
 | 360,9=>some s4w
 | 363,2=>some s78
 | 428,2=>some r1a
 | 428,5=>some r1b
 | 433,2=>some s4r
 | 435,2=>some r4c
 | 434,4=>some s70
 | 434,12=>some s4s
 | 408,5=>some t6n
 | 408,12=>some t5s
 | 56,3=>some s5e
 | 385,3=>some t9l
 | 386,3=>some t9m
 | 231,4=>some s4l
 | 97,1=>some t9e
 | 116,1=>some s1j
 | 129,2=>some r07
 | 237,2=>some s1i
 | 127,2=>some r08
 | 99,6=>some s4k
 | 99,12=>some s1h
 | 10002,2=>some u2o
 | 170,2=>some t9d
 | 171,3=>some t0j
 | 171,11=>some u81
 | 230,2=>some t7s
 | 115,4=>some s7y
 | 115,10=>some s4f
 | 115,16=>some s4g
 | 35,6=>some s1g
 | 35,13=>some t9b
 | 35,17=>some t9c
 | 316,2=>some s4i
 | 316,6=>some s4j
 | 317,5=>some s4h
 | 10003,2=>some u3d
 | 10005,2=>some u3n
 | 10006,2=>some u3o
 | 10004,2=>some u3e
 | 10007,2=>some u3f
 | 226,5=>some s48
 | 319,3=>some t6o
 | 132,4=>some t5r
 | 238,4=>some t7t
 | 130,4=>some s4m
 | 133,4=>some s1k
 | _,_=>none
def o3h:Nat→Nat
 | 10000=>93
 | 10001=>204
 | 10002=>287
 | 10003=>214
 | 10004=>214
 | 10005=>214
 | 10006=>214
 | 10007=>214
 | f=>f
def p8n:Nat→Hu Nat→Nat
 | 93, [290] =>10000
 | 204, [290] =>10001
 | 287, [290] =>10002
 | 214, [215] =>10003
 | 214, [216] =>10004
 | 214, [218] =>10005
 | 214, [219] =>10006
 | 214, [217] =>10007
 | f,_=>f
def p8r:(f:Nat)→Ht ((p60 f).ins.den→Ht (p60 f).out.den):=fun _=>none
def p5x:Plan:= {sig:=p60,join:=p8c,loop:=p8h,fn:=o3h,pick:=p8n,prim:=p8r,gd:=y8a}
def A:Ann:=ann o20 p5x
set_option maxRecDepth 100000
abbrev r2m:Type:=(Hs×(Int×Bool))
abbrev s3l:Type:=(Hs×Bool)
abbrev q5x:Type:=(Hu u0a.den)
abbrev q2l:Type:=(Hs×Int)
abbrev r2n:Type:=(Unit⊕Bool)
abbrev q0u:Type:=(Hu u0g.den)
abbrev s8y:Type:=(Hu Int)
abbrev p0g:Type:=(Hu u2n.den)
abbrev p3t:Type:=(Hu Hs)
abbrev p53:Type:=(Int×(Int×Bool))
abbrev p7a:Type:=(Int×Int)
abbrev s2n:Type:=(s8y×p7a)
abbrev p7p:Type:=(Hs×Hs)
abbrev p54:Type:=(s8y⊕Unit)
abbrev p55:Type:=(u8g⊕Bool)
abbrev p9q:Type:=(Int×(Hs×p7a))
abbrev p56:Type:=(Int⊕Unit)
abbrev p57:Type:=(s2n×Int)
abbrev p58:Type:=(Int×s8y)
abbrev p59:Type:=(Int×q2l)
abbrev p9r:Type:=(p3t×(Int×Bool))
abbrev p7q:Type:=(Unit⊕Int)
abbrev p9s:Type:=(Hs⊕Bool)
abbrev p7r:Type:=(Int×p7a)
abbrev p9t:Type:=(Hs×s3l)
abbrev p9u:Type:=(Int×Hs)
abbrev zLv:=y5x Tryz.prog A
abbrev zK (f:Nat) (x:(A.sig f).ins.den):=zLv.call f x
theorem zC (f:Nat) {fn:Func} {X:(A.sig f).ins.den→Ht (A.sig f).out.den} (hp:A.prim f=none) (hf:Tryz.prog.funcs[A.fn f]? =some fn) (hb:z7s A zLv lpW f fn=X):zK f=X:=funext (y7p hp hf (congrFun hb))
theorem zW (l:LoopA) (f:Nat) (fn:Func) (r n:Nat) {S:(l.head.sh.den→Ht (l.out.sh.den⊕l.ret.sh.den))→l.head.sh.den→Ht (l.out.sh.den⊕l.ret.sh.den)} (x:l.head.sh.den) (h:S=z7n A zLv lpW f (y7w fn r) l n):lpW _ _ S x=S (lpW _ _ S) x:=y7x h x
def q28(x:s8y):Ht Bool:=zK 8 x
def q2r (x:s8y):Ht Bool:=some (decide ((x.length:Int)>(1048576:Int)))
theorem p00:q28=q2r:=zC 8 rfl Tryz.func8 (by kernel_rfl)
def t0f(x:s8y):Ht s2n:=zK 57 x
def u8p(g:s2n→Ht ((s8y×Int)⊕Unit))(x:s2n):Ht ((s8y×Int)⊕Unit):=((cond (decide (x.2.2<(x.1.length:Int))) (some (decide (x.2.2<4000))) (some false)):Ht Bool).bind fun j1=>cond j1 (cond (y4q x.2.2 x.1.length) (g (x.1,IntKind.i64.wrap ((BitVec.ofInt IntKind.i64.bits (IntKind.i64.wrap ((IntKind.i64.wrap ((IntKind.i64.wrap (x.2.1*131))+(IntKind.i64.wrap (rdL (Ty.int .u8) x.1 x.2.2.toNat))))+7))&&&BitVec.ofInt IntKind.i64.bits (1073741823:Int)).toNat:Int),IntKind.i64.wrap (x.2.2+1))) none) (some (.inl (x.1,x.2.1)))
def u8w:=lpW _ _ u8p
theorem t8s x:u8w x=u8p u8w x:=zW s76 57 Tryz.f57 3 32 x (by kernel_rfl)
def r3f (x:s8y):Ht s2n:=(u8w (x,IntKind.i64.wrap ((77601:Int)+(x.length:Int)),0)).bind fun r2=>match r2 with | .inl o3=>some (o3.1,0,o3.2) | .inr z4=>none
theorem q4u:t0f=r3f:=zC 57 rfl Tryz.func57 (by kernel_rfl)
def u4k(x:s2n):Ht (Int×s2n):=zK 220 x
def r0f (x:s2n):Ht (Int×s2n):=cond (decide (x.2.1<(x.1.length:Int))) (cond (y4q x.2.1 x.1.length) (some (IntKind.i64.wrap ((BitVec.ofInt IntKind.i64.bits (IntKind.i64.wrap ((IntKind.i64.wrap ((BitVec.ofInt IntKind.i64.bits (IntKind.i64.wrap ((BitVec.ofInt IntKind.i64.bits (Int.fdiv (IntKind.i64.wrap ((IntKind.i64.wrap (x.2.2*6364136223846793005))+1442695040888963407)) (2^(min (33:Int).toNat IntKind.i64.bits)))^^^BitVec.ofInt IntKind.i64.bits (Int.fdiv (IntKind.i64.wrap ((IntKind.i64.wrap (x.2.2*6364136223846793005))+1442695040888963407)) (2^(min (45:Int).toNat IntKind.i64.bits)))).toNat:Int))&&&BitVec.ofInt IntKind.i64.bits (255:Int)).toNat:Int))+(IntKind.i64.wrap (rdL (Ty.int .u8) x.1 x.2.1.toNat))))&&&BitVec.ofInt IntKind.i64.bits (255:Int)).toNat:Int),x.1,IntKind.i64.wrap (x.2.1+1),IntKind.i64.wrap ((IntKind.i64.wrap (x.2.2*6364136223846793005))+1442695040888963407))) none) (some (IntKind.i64.wrap ((BitVec.ofInt IntKind.i64.bits (IntKind.i64.wrap ((BitVec.ofInt IntKind.i64.bits (Int.fdiv (IntKind.i64.wrap ((IntKind.i64.wrap (x.2.2*6364136223846793005))+1442695040888963407)) (2^(min (33:Int).toNat IntKind.i64.bits)))^^^BitVec.ofInt IntKind.i64.bits (Int.fdiv (IntKind.i64.wrap ((IntKind.i64.wrap (x.2.2*6364136223846793005))+1442695040888963407)) (2^(min (45:Int).toNat IntKind.i64.bits)))).toNat:Int))&&&BitVec.ofInt IntKind.i64.bits (255:Int)).toNat:Int),x.1,x.2.1,IntKind.i64.wrap ((IntKind.i64.wrap (x.2.2*6364136223846793005))+1442695040888963407)))
theorem q1r:u4k=r0f:=zC 220 rfl Tryz.func220 (by kernel_rfl)
def u0f(x:p57):Ht (Int×s2n):=zK 106 x
def s7f (x:p57):Ht (Int×s2n):=cond (decide (x.2≤0)) (some (0,x.1)) (cond (decide (x.2≤256)) ((u4k x.1).bind fun y1=>cond (!decide (x.2=0)) (some (Int.tmod y1.1 x.2,y1.2)) none) ((u4k x.1).bind fun y2=>(u4k y2.2).bind fun y3=>(u4k y3.2).bind fun y4=>(u4k y4.2).bind fun y5=>cond (!decide (x.2=0)) (some (Int.tmod (IntKind.i64.wrap ((IntKind.i64.wrap ((IntKind.i64.wrap ((IntKind.i64.wrap (y2.1*16777216))+(IntKind.i64.wrap (y3.1*65536))))+(IntKind.i64.wrap (y4.1*256))))+y5.1)) x.2,y5.2)) none))
theorem r9m:u0f=s7f:=zC 106 rfl Tryz.func106 (by kernel_rfl)
def u1g(x:o2i):Ht p5q:=zK 187 x
def r0h (x:o2i):Ht p5q:=(u0f (x.1,(x.2.length:Int))).bind fun y1=>cond (y4q y1.1 x.2.length) (some (rdL Ty.str x.2 y1.1.toNat,y1.2)) none
theorem q1t:u1g=r0h:=zC 187 rfl Tryz.func187 (by kernel_rfl)
def u1f(x:p57):Ht (Bool×s2n):=zK 189 x
def r0g (x:p57):Ht (Bool×s2n):=(u0f x).bind fun y1=>some (decide (y1.1=0),y1.2)
theorem q1s:u1f=r0g:=zC 189 rfl Tryz.func189 (by kernel_rfl)
def s0c(x:Unit):Ht u8g:=zK 152 x
def s9w (x:Unit):Ht u8g:=some (([]:Hu u0g.den),([]:Hu u0a.den),([]:Hu u0a.den),0,1)
theorem r02:s0c=s9w:=zC 152 rfl Tryz.func152 (by kernel_rfl)
def t59(x:Unit):Ht Z63:=zK 267 x
def s3z (x:Unit):Ht Z63:=(s0c ()).bind fun y1=>some (y1,([]:Hu u0a.den))
theorem r7p:t59=s3z:=zC 267 rfl Tryz.func267 (by kernel_rfl)
def u0r(x:p7r):Ht Bool:=zK 120 x
def r6o (x:p7r):Ht Bool:=((cond (decide (x.1≥x.2.1)) (some (decide (x.1≤x.2.2))) (some false)):Ht Bool).bind fun j1=>some j1
theorem q67:u0r=r6o:=zC 120 rfl Tryz.func120 (by kernel_rfl)
def u7v(x:p7a):Ht Hs:=zK 320 x
def u66(g:(Int×(Int×(s8y×Int)))→Ht p54)(x:(Int×(Int×(s8y×Int)))):Ht p54:=cond (decide (x.2.2.2<x.1)) (cond (y4q x.2.2.2 x.2.2.1.length) (g (x.1,x.2.1,x.2.2.1.set x.2.2.2.toNat x.2.1,IntKind.i64.wrap (x.2.2.2+1))) none) (some (.inl x.2.2.1))
def u3x:=lpW _ _ u66
theorem t2g x:u3x x=u66 u3x x:=zW s47 320 Tryz.f320 3 20 x (by kernel_rfl)
def t95 (x:p7a):Ht Hs:=cond (decide (0≤x.1)&&decide (x.1≤1099511627776)) ((u3x (x.1,x.2,List.replicate x.1.toNat (Ty.int .u8).zero,0)).bind fun r1=>match r1 with | .inl o2=>some (y7g o2) | .inr z3=>none) none
theorem r03:u7v=t95:=zC 320 rfl Tryz.func320 (by kernel_rfl)
def s0j(x:Unit):Ht Hs:=zK 406 x
def r0l (x:Unit):Ht Hs:=(u7v (64,0)).bind fun y1=>some y1
theorem q1w:s0j=r0l:=zC 406 rfl Tryz.func406 (by kernel_rfl)
def r1f(x:Int):Ht r46:=zK 356 x
def t52(g:o1d→Ht (p7m⊕Unit))(x:o1d):Ht (p7m⊕Unit):=cond (decide (x.2.2.2<x.1)) ((s0j ()).bind fun y2=>cond (Nat.ble (x.2.2.1.1.length+([y2]:Hu Hs).length) z7w) (g (x.1,x.2.1,(x.2.2.1.1++([y2]:Hu Hs),x.2.2.1.2),IntKind.i64.wrap (x.2.2.2+1))) none) (some (.inl (x.2.1,x.2.2.1)))
def u7f:=lpW _ _ t52
theorem s5r x:u7f x=t52 u7f x:=zW s4t 356 Tryz.f356 5 23 x (by kernel_rfl)
def s9z (x:Int):Ht r46:=(u0r (x,1,100)).bind fun y1=>cond (!y1) (some ((([]:Hu Hs),([]:Hu p1t.den)),false)) ((u7f (x,(([]:Hu Hs),([]:Hu p1t.den)),(([]:Hu Hs),([]:Hu p1t.den)),0)).bind fun r3=>match r3 with | .inl o4=>some (o4.2,true) | .inr z5=>none)
theorem q1b:r1f=s9z:=zC 356 rfl Tryz.func356 (by kernel_rfl)
def u6f(x:Unit):Ht Int:=zK 357 x
def r45 (x:Unit):Ht Int:=some (97:Int)
theorem s1b:u6f=r45:=zC 357 rfl Tryz.func357 (by kernel_rfl)
def s27(x:Unit):Ht t8u:=zK 268 x
def r27 (x:Unit):Ht t8u:=(u6f ()).bind fun y1=>(r1f y1).bind fun y2=>some y2.1
theorem q4m:s27=r27:=zC 268 rfl Tryz.func268 (by kernel_rfl)
def t8b(x:Unit):Ht Z43:=zK 160 x
def s7a (x:Unit):Ht Z43:=(t59 ()).bind fun y1=>(s27 ()).bind fun y2=>some (y1,y2)
theorem r9i:t8b=s7a:=zC 160 rfl Tryz.func160 (by kernel_rfl)
def u0t(x:u95):Ht u95:=zK 70 x
def t96 (x:u95):Ht u95:=cond (Nat.ble (([]:Hu q0z.den).length+x.2.2.2.2.1.length) z7w) (cond (Nat.ble (([]:Hu u2n.den).length+x.2.2.2.2.2.1.length) z7w) (some (x.1,x.2.1,x.2.2.1,x.2.2.2.1,([]:Hu q0z.den)++x.2.2.2.2.1,([]:Hu u2n.den)++x.2.2.2.2.2.1,x.2.2.2.2.2.2)) none) none
theorem r05:u0t=t96:=zC 70 rfl Tryz.func70 (by kernel_rfl)
def t02(x:q5x):Ht q5x:=zK 178 x
def t1v(g:p86→Ht (q5x⊕Unit))(x:p86):Ht (q5x⊕Unit):=cond (decide (x.2.2<(x.1.length:Int))) (cond (y4q x.2.2 x.1.length) ((u0t (rdL u0a x.1 x.2.2.toNat)).bind fun y1=>cond (Nat.ble (x.2.1.length+([y1]:Hu u0a.den).length) z7w) (g (x.1,x.2.1++([y1]:Hu u0a.den),IntKind.i64.wrap (x.2.2+1))) none) none) (some (.inl x.2.1))
def t18:=lpW _ _ t1v
theorem s57 x:t18 x=t1v t18 x:=zW s5c 178 Tryz.f178 3 21 x (by kernel_rfl)
def r0s (x:q5x):Ht q5x:=(t18 (x,([]:Hu u0a.den),0)).bind fun r2=>match r2 with | .inl o3=>some o3 | .inr z4=>none
theorem q13:t02=r0s:=zC 178 rfl Tryz.func178 (by kernel_rfl)
def u1z(x:u8g):Ht u8g:=zK 68 x
def r0r (x:u8g):Ht u8g:=cond (Nat.ble (([]:Hu u0g.den).length+x.1.length) z7w) ((t02 x.2.1).bind fun y1=>(t02 x.2.2.1).bind fun y2=>some (([]:Hu u0g.den)++x.1,y1,y2,x.2.2.2)) none
theorem q12:u1z=r0r:=zC 68 rfl Tryz.func68 (by kernel_rfl)
def u0n(x:Z63):Ht Z63:=zK 72 x
def r0v (x:Z63):Ht Z63:=(u1z x.1).bind fun y1=>(t02 x.2).bind fun y2=>some (y1,y2)
theorem q16:u0n=r0v:=zC 72 rfl Tryz.func72 (by kernel_rfl)
def u4h(x:Hs):Ht Bool:=zK 123 x
def t4r(g:q2l→Ht p9s)(x:q2l):Ht p9s:=cond (decide (x.2<(x.1.size:Int))) (((cond (y4q x.2 x.1.size) (cond (decide (((x.1.data.toList.getD x.2.toNat 0).toNat:Int)<(97:Int))) (some true) (cond (y4q x.2 x.1.size) (some (decide (((x.1.data.toList.getD x.2.toNat 0).toNat:Int)>(122:Int)))) none)) none):Ht Bool).bind fun j1=>cond j1 (some (.inr false)) (g (x.1,IntKind.i64.wrap (x.2+1)))) (some (.inl x.1))
def t4z:=lpW _ _ t4r
theorem r1k x:t4z x=t4r t4z x:=zW r09 123 Tryz.f123 2 23 x (by kernel_rfl)
def r6i (x:Hs):Ht Bool:=(t4z (x,0)).bind fun r2=>match r2 with | .inl o3=>((u0r ((o3.size:Int),1,3)).bind fun y4=>some y4) | .inr z5=>some z5
theorem q61:u4h=r6i:=zC 123 rfl Tryz.func123 (by kernel_rfl)
def t0z(x:p9t):Ht Bool:=zK 75 x
def r0e (x:p9t):Ht Bool:=(((u4h x.1).bind fun y1=>cond y1 (cond (decide ((x.2.1.size:Int)≤(12:Int))) (cond (!x.2.2) (some true) (some (z7o x.2.1 (⟨#[]⟩:Hs)))) (some false)) (some false)):Ht Bool).bind fun j2=>some j2
theorem q1q:t0z=r0e:=zC 75 rfl Tryz.func75 (by kernel_rfl)
def t3t(x:p0g):Ht Bool:=zK 180 x
def u9v(g:(p0g×Int)→Ht (p0g⊕Bool))(x:(p0g×Int)):Ht (p0g⊕Bool):=cond (decide (x.2<(x.1.length:Int))) (((cond (y4q x.2 x.1.length) ((t0z (rdL u2n x.1 x.2.toNat)).bind fun y1=>cond (!y1) (some true) (cond (decide (x.2>0)) (cond (y4q (IntKind.i64.wrap (x.2 - 1)) x.1.length) (cond (y4q x.2 x.1.length) (some (!y3c (rdL u2n x.1 (IntKind.i64.wrap (x.2 - 1)).toNat).1 (rdL u2n x.1 x.2.toNat).1)) none) none) (some false))) none):Ht Bool).bind fun j2=>cond j2 (some (.inr false)) (g (x.1,IntKind.i64.wrap (x.2+1)))) (some (.inl x.1))
def u94:=lpW _ _ u9v
theorem s2l x:u94 x=u9v u94 x:=zW s1w 180 Tryz.f180 2 37 x (by kernel_rfl)
def s7e (x:p0g):Ht Bool:=(u94 (x,0)).bind fun r3=>match r3 with | .inl o4=>some (decide ((o4.length:Int)≤(8:Int))) | .inr z5=>some z5
theorem r9l:t3t=s7e:=zC 180 rfl Tryz.func180 (by kernel_rfl)
def t0y(x:p7p):Ht Bool:=zK 235 x
def s95 (x:p7p):Ht Bool:=(((u4h x.1).bind fun y1=>cond y1 ((u4h x.2).bind fun y2=>cond y2 (some (y3c x.1 x.2||z7o x.1 x.2)) (some false)) (some false)):Ht Bool).bind fun j3=>some j3
theorem q1h:t0y=s95:=zC 235 rfl Tryz.func235 (by kernel_rfl)
def u4j(x:u95):Ht Bool:=zK 121 x
def t4v(g:p35→Ht (u95⊕Bool))(x:p35):Ht (u95⊕Bool):=cond (decide (x.2<(x.1.2.2.2.2.1.length:Int))) (cond (y4q x.2 x.1.2.2.2.2.1.length) ((t0y (rdL q0z x.1.2.2.2.2.1 x.2.toNat)).bind fun y6=>cond (!y6) (some (.inr false)) (g (x.1,IntKind.i64.wrap (x.2+1)))) none) (some (.inl x.1))
def t42:=lpW _ _ t4v
theorem r1o x:t42 x=t4v t42 x:=zW r1d 121 Tryz.f121 4 95 x (by kernel_rfl)
def r6n (x:u95):Ht Bool:=(((u0r (x.1,1,9999)).bind fun y1=>cond (!y1) (some true) ((u0r (x.2.1,1,3)).bind fun y2=>cond (!y2) (some true) ((u0r (x.2.2.1,0,9999)).bind fun y3=>cond (!y3) (some true) (cond (decide ((x.2.2.2.2.1.length:Int)>(8:Int))) (some true) ((t3t x.2.2.2.2.2.1).bind fun y4=>some (!y4)))))):Ht Bool).bind fun j5=>cond j5 (some false) ((t42 (x,0)).bind fun r7=>match r7 with | .inl o8=>(((cond (decide (o8.2.1=3)) ((u0r (o8.2.2.2.1,IntKind.i64.wrap (o8.2.2.1+1),9999)).bind fun y9=>cond (!y9) (some true) (cond (!decide (o8.2.1=3)) (some (!decide (o8.2.2.2.1=0))) (some false))) (cond (!decide (o8.2.1=3)) (some (!decide (o8.2.2.2.1=0))) (some false))):Ht Bool).bind fun j10=>cond j10 (some false) (((cond (decide (o8.2.1=2)) ((u4h o8.2.2.2.2.2.2.2).bind fun y11=>cond (!y11) (some true) (cond (!decide (o8.2.1=2)) (some (!z7o o8.2.2.2.2.2.2.2 (⟨#[]⟩:Hs))) (some false))) (cond (!decide (o8.2.1=2)) (some (!z7o o8.2.2.2.2.2.2.2 (⟨#[]⟩:Hs))) (some false))):Ht Bool).bind fun j12=>cond j12 (some false) (((cond (!decide (o8.2.1=1)) (some true) (some (!o8.2.2.2.2.2.2.1))):Ht Bool).bind fun j13=>some j13))) | .inr z14=>some z14)
theorem q66:u4j=r6n:=zC 121 rfl Tryz.func121 (by kernel_rfl)
def t4h(x:q0u):Ht Bool:=zK 131 x
def u6q(g:(q0u×Int)→Ht (q0u⊕Bool))(x:(q0u×Int)):Ht (q0u⊕Bool):=cond (decide (x.2<(x.1.length:Int))) (cond (y4q x.2 x.1.length) ((((u4h (rdL u0g x.1 x.2.toNat).1).bind fun y1=>cond (!y1) (some true) (cond (decide (((rdL u0g x.1 x.2.toNat).2.1.size:Int)>(12:Int))) (some true) (cond (rdL u0g x.1 x.2.toNat).2.2.1 (cond (!z7o (rdL u0g x.1 x.2.toNat).2.1 (⟨#[]⟩:Hs)) (some true) ((u0r ((rdL u0g x.1 x.2.toNat).2.2.2,1,9999)).bind fun y2=>some (!y2))) ((u0r ((rdL u0g x.1 x.2.toNat).2.2.2,1,9999)).bind fun y3=>some (!y3))))):Ht Bool).bind fun j4=>cond j4 (some (.inr false)) (((cond (decide (x.2>0)) (cond (y4q (IntKind.i64.wrap (x.2 - 1)) x.1.length) (cond (!(y3c (rdL u0g x.1 (IntKind.i64.wrap (x.2 - 1)).toNat).1 (rdL u0g x.1 x.2.toNat).1||z7o (rdL u0g x.1 (IntKind.i64.wrap (x.2 - 1)).toNat).1 (rdL u0g x.1 x.2.toNat).1)) (some true) (cond (y4q (IntKind.i64.wrap (x.2 - 1)) x.1.length) (cond (z7o (rdL u0g x.1 (IntKind.i64.wrap (x.2 - 1)).toNat).1 (rdL u0g x.1 x.2.toNat).1) (cond (y4q (IntKind.i64.wrap (x.2 - 1)) x.1.length) (some (decide ((rdL u0g x.1 (IntKind.i64.wrap (x.2 - 1)).toNat).2.2.2≥(rdL u0g x.1 x.2.toNat).2.2.2))) none) (some false)) none)) none) (some false)):Ht Bool).bind fun j5=>cond j5 (some (.inr false)) (g (x.1,IntKind.i64.wrap (x.2+1))))) none) (some (.inl x.1))
def u6v:=lpW _ _ u6q
theorem t8r x:u6v x=u6q u6v x:=zW t7x 131 Tryz.f131 2 78 x (by kernel_rfl)
def s03 (x:q0u):Ht Bool:=(u6v (x,0)).bind fun r6=>match r6 with | .inl o7=>some (decide ((o7.length:Int)≤(120:Int))) | .inr z8=>some z8
theorem r5m:t4h=s03:=zC 131 rfl Tryz.func131 (by kernel_rfl)
def u2l(x:u8g):Ht Bool:=zK 42 x
def t23(g:p74→Ht p55)(x:p74):Ht p55:=cond (decide (x.2<(x.1.1.length:Int))) (cond (y4q x.2 x.1.1.length) (cond (decide ((rdL u0g x.1.1 x.2.toNat).2.2.2>x.1.2.2.2.1)) (some (.inr false)) (g (x.1,IntKind.i64.wrap (x.2+1)))) none) (some (.inl x.1))
def u8r:=lpW _ _ t23
theorem s8q x:u8r x=t23 u8r x:=zW s7z 42 Tryz.f42 4 179 x (by kernel_rfl)
def t1c(g:Z78→Ht (Z89⊕Bool))(x:Z78):Ht (Z89⊕Bool):=cond (decide (x.2.2<(x.1.2.1.length:Int))) (cond (y4q x.2.2 x.1.2.1.length) ((((u4j (rdL u0a x.1.2.1 x.2.2.toNat)).bind fun y7=>cond (!y7) (some true) (cond (!decide ((rdL u0a x.1.2.1 x.2.2.toNat).2.1=3)) (some true) (cond (decide ((rdL u0a x.1.2.1 x.2.2.toNat).2.2.2.1>x.1.2.2.2.1)) (some true) (cond (decide (x.2.2>0)) (cond (y4q (IntKind.i64.wrap (x.2.2 - 1)) x.1.2.1.length) (some (decide ((rdL u0a x.1.2.1 (IntKind.i64.wrap (x.2.2 - 1)).toNat).2.2.2.1≥(rdL u0a x.1.2.1 x.2.2.toNat).2.2.2.1))) none) (some false))))):Ht Bool).bind fun j8=>cond j8 (some (.inr false)) (cond (Nat.ble (x.2.1.length+([(rdL u0a x.1.2.1 x.2.2.toNat).1]:Hu Int).length) z7w) (g (x.1,x.2.1++([(rdL u0a x.1.2.1 x.2.2.toNat).1]:Hu Int),IntKind.i64.wrap (x.2.2+1))) none)) none) (some (.inl (x.1,x.2.1)))
def u40:=lpW _ _ t1c
theorem s5m x:u40 x=t1c u40 x:=zW s4n 42 Tryz.f42 10 179 x (by kernel_rfl)
def t1d(g:Z78→Ht (Z89⊕Bool))(x:Z78):Ht (Z89⊕Bool):=cond (decide (x.2.2<(x.1.2.2.1.length:Int))) (cond (y4q x.2.2 x.1.2.2.1.length) ((((u4j (rdL u0a x.1.2.2.1 x.2.2.toNat)).bind fun y11=>cond (!y11) (some true) (cond (!decide ((rdL u0a x.1.2.2.1 x.2.2.toNat).2.1=2)) (some true) (cond (decide ((rdL u0a x.1.2.2.1 x.2.2.toNat).2.2.1>x.1.2.2.2.1)) (some true) (cond (decide (x.2.2>0)) (cond (y4q (IntKind.i64.wrap (x.2.2 - 1)) x.1.2.2.1.length) (some (!y3c (rdL u0a x.1.2.2.1 (IntKind.i64.wrap (x.2.2 - 1)).toNat).2.2.2.2.2.2.2 (rdL u0a x.1.2.2.1 x.2.2.toNat).2.2.2.2.2.2.2)) none) (some false))))):Ht Bool).bind fun j12=>cond j12 (some (.inr false)) (cond (Nat.ble (x.2.1.length+([(rdL u0a x.1.2.2.1 x.2.2.toNat).1]:Hu Int).length) z7w) (g (x.1,x.2.1++([(rdL u0a x.1.2.2.1 x.2.2.toNat).1]:Hu Int),IntKind.i64.wrap (x.2.2+1))) none)) none) (some (.inl (x.1,x.2.1)))
def u7c:=lpW _ _ t1d
theorem s5n x:u7c x=t1d u7c x:=zW s4o 42 Tryz.f42 17 179 x (by kernel_rfl)
def t1f(g:Z72→Ht (Z78⊕Bool))(x:Z72):Ht (Z78⊕Bool):=cond (decide (x.2.2.2<x.2.2.1)) (cond (y4q x.2.2.2 x.2.1.length) (cond (y4q x.2.2.1 x.2.1.length) (cond (decide ((rdL (Ty.int .i64) x.2.1 x.2.2.2.toNat)=(rdL (Ty.int .i64) x.2.1 x.2.2.1.toNat))) (some (.inr false)) (g (x.1,x.2.1,x.2.2.1,IntKind.i64.wrap (x.2.2.2+1)))) none) none) (some (.inl (x.1,x.2.1,x.2.2.1)))
def u7d:=lpW _ _ t1f
theorem s5p x:u7d x=t1f u7d x:=zW s4q 42 Tryz.f42 27 179 x (by kernel_rfl)
def t1e(g:Z78→Ht r2n)(x:Z78):Ht r2n:=cond (decide (x.2.2<(x.2.1.length:Int))) ((u7d (x.1,x.2.1,x.2.2,0)).bind fun r15=>match r15 with | .inl o16=>cond (y4q o16.2.2 o16.2.1.length) (cond (decide ((rdL (Ty.int .i64) o16.2.1 o16.2.2.toNat)≥o16.1.2.2.2.2)) (some (.inr false)) (g (o16.1,o16.2.1,IntKind.i64.wrap (o16.2.2+1)))) none | .inr z17=>some (.inr z17)) (some (.inl ()))
def u41:=lpW _ _ t1e
theorem s5o x:u41 x=t1e u41 x:=zW s4p 42 Tryz.f42 24 179 x (by kernel_rfl)
def r20 (x:u8g):Ht Bool:=(((t4h x.1).bind fun y1=>cond (!y1) (some true) (cond (decide ((x.2.1.length:Int)>(12:Int))) (some true) (cond (decide ((x.2.2.1.length:Int)>(3:Int))) (some true) ((u0r (x.2.2.2.1,0,9999)).bind fun y2=>cond (!y2) (some true) ((u0r (x.2.2.2.2,1,9999)).bind fun y3=>some (!y3)))))):Ht Bool).bind fun j4=>cond j4 (some false) ((u8r (x,0)).bind fun r5=>match r5 with | .inl o6=>((u40 (o6,([]:Hu Int),0)).bind fun r9=>match r9 with | .inl o10=>((u7c (o10.1,o10.2,0)).bind fun r13=>match r13 with | .inl o14=>((u41 (o14.1,o14.2,0)).bind fun r18=>match r18 with | .inl o19=>some true | .inr z20=>some z20) | .inr z21=>some z21) | .inr z22=>some z22) | .inr z23=>some z23)
theorem q4f:u2l=r20:=zC 42 rfl Tryz.func42 (by kernel_rfl)
def t78(x:Z63):Ht Bool:=zK 73 x
def u72(g:Z19→Ht (Z22⊕Bool))(x:Z19):Ht (Z22⊕Bool):=cond (decide (x.2.2.2<(x.1.1.2.1.length:Int))) (cond (y4q x.2.2.2 x.1.1.2.1.length) (cond (decide ((rdL u0a x.1.1.2.1 x.2.2.2.toNat).1=x.2.2.1.1)) (some (.inr false)) (g (x.1,x.2.1,x.2.2.1,IntKind.i64.wrap (x.2.2.2+1)))) none) (some (.inl (x.1,x.2.1,x.2.2.1)))
def u5g:=lpW _ _ u72
theorem t9y x:u5g x=u72 u5g x:=zW t9f 73 Tryz.f73 10 105 x (by kernel_rfl)
def u73(g:Z19→Ht (Z60⊕Bool))(x:Z19):Ht (Z60⊕Bool):=cond (decide (x.2.2.2<(x.1.1.2.2.1.length:Int))) (cond (y4q x.2.2.2 x.1.1.2.2.1.length) (cond (decide ((rdL u0a x.1.1.2.2.1 x.2.2.2.toNat).1=x.2.2.1.1)) (some (.inr false)) (g (x.1,x.2.1,x.2.2.1,IntKind.i64.wrap (x.2.2.2+1)))) none) (some (.inl (x.1,x.2.1)))
def u3l:=lpW _ _ u73
theorem t9z x:u3l x=u73 u3l x:=zW t9g 73 Tryz.f73 15 105 x (by kernel_rfl)
def u9l(g:Z60→Ht r2n)(x:Z60):Ht r2n:=cond (decide (x.2<(x.1.2.length:Int))) (cond (y4q x.2 x.1.2.length) ((((u4j (rdL u0a x.1.2 x.2.toNat)).bind fun y3=>cond (!y3) (some true) (cond (!decide ((rdL u0a x.1.2 x.2.toNat).2.1=1)) (some true) (cond (decide ((rdL u0a x.1.2 x.2.toNat).1≥x.1.1.2.2.2.2)) (some true) (cond (decide ((rdL u0a x.1.2 x.2.toNat).2.2.1>x.1.1.2.2.2.1)) (some true) (cond (decide (x.2>0)) (cond (y4q (IntKind.i64.wrap (x.2 - 1)) x.1.2.length) (some (decide ((rdL u0a x.1.2 (IntKind.i64.wrap (x.2 - 1)).toNat).1≥(rdL u0a x.1.2 x.2.toNat).1))) none) (some false)))))):Ht Bool).bind fun j4=>cond j4 (some (.inr false)) ((u5g (x.1,x.2,rdL u0a x.1.2 x.2.toNat,0)).bind fun r5=>match r5 with | .inl o6=>((u3l (o6.1,o6.2.1,o6.2.2,0)).bind fun r7=>match r7 with | .inl o8=>g (o8.1,IntKind.i64.wrap (o8.2+1)) | .inr z9=>some (.inr z9)) | .inr z10=>some (.inr z10))) none) (some (.inl ()))
def u4n:=lpW _ _ u9l
theorem s2b x:u4n x=u9l u4n x:=zW s1m 73 Tryz.f73 4 105 x (by kernel_rfl)
def s61 (x:Z63):Ht Bool:=(((u2l x.1).bind fun y1=>cond (!y1) (some true) (some (decide ((x.2.length:Int)>(4:Int))))):Ht Bool).bind fun j2=>cond j2 (some false) ((u4n (x,0)).bind fun r11=>match r11 with | .inl o12=>some true | .inr z13=>some z13)
theorem r89:t78=s61:=zC 73 rfl Tryz.func73 (by kernel_rfl)
def t2x(x:Z63):Ht Z56:=zK 17 x
def r6g (x:Z63):Ht Z56:=(u0n x).bind fun y1=>(((t78 x).bind fun y2=>cond (!y2) (some true) (cond (decide ((x.2.length:Int)≥(4:Int))) (some true) (some (decide (x.1.2.2.2.2≥9999))))):Ht Bool).bind fun j3=>cond j3 (some (y1,0,3)) (cond (Nat.ble (y1.2.length+([(x.1.2.2.2.2,1,x.1.2.2.2.1,0,([]:Hu q0z.den),([]:Hu u2n.den),false,(⟨#[]⟩:Hs))]:Hu u0a.den).length) z7w) (some (((y1.1.1,y1.1.2.1,y1.1.2.2.1,y1.1.2.2.2.1,IntKind.i64.wrap (x.1.2.2.2.2+1)),y1.2++([(x.1.2.2.2.2,1,x.1.2.2.2.1,0,([]:Hu q0z.den),([]:Hu u2n.den),false,(⟨#[]⟩:Hs))]:Hu u0a.den)),x.1.2.2.2.2,0)) none)
theorem q6z:t2x=r6g:=zC 17 rfl Tryz.func17 (by kernel_rfl)
def u4d(x:Z60):Ht Int:=zK 74 x
def u8n(g:Z54→Ht p7q)(x:Z54):Ht p7q:=cond (decide (x.2.2<(x.2.1.2.length:Int))) (cond (y4q x.2.2 x.2.1.2.length) (cond (decide ((rdL u0a x.2.1.2 x.2.2.toNat).1=x.1)) (some (.inr x.2.2)) (g (x.1,x.2.1,IntKind.i64.wrap (x.2.2+1)))) none) (some (.inl ()))
def u8u:=lpW _ _ u8n
theorem s8u x:u8u x=u8n u8u x:=zW s73 74 Tryz.f74 2 22 x (by kernel_rfl)
def r28 (x:Z60):Ht Int:=(u8u (x.2,x.1,0)).bind fun r1=>match r1 with | .inl o2=>some (- 1:Int) | .inr z3=>some z3
theorem q4n:u4d=r28:=zC 74 rfl Tryz.func74 (by kernel_rfl)
def t3q(x:o1y):Ht p0g:=zK 179 x
def u9n(g:p85→Ht (o1j⊕Unit))(x:p85):Ht (o1j⊕Unit):=cond (decide (x.2.2.2<(x.1.length:Int))) (cond (y4q x.2.2.2 x.1.length) (cond (y3c (rdL u2n x.1 x.2.2.2.toNat).1 x.2.1.1) (cond (y4q x.2.2.2 x.1.length) (cond (Nat.ble (x.2.2.1.length+([(rdL u2n x.1 x.2.2.2.toNat)]:Hu u2n.den).length) z7w) (g (x.1,x.2.1,x.2.2.1++([(rdL u2n x.1 x.2.2.2.toNat)]:Hu u2n.den),IntKind.i64.wrap (x.2.2.2+1))) none) none) (g (x.1,x.2.1,x.2.2.1,IntKind.i64.wrap (x.2.2.2+1)))) none) (some (.inl (x.1,x.2.1,x.2.2.1)))
def u91:=lpW _ _ u9n
theorem s2d x:u91 x=u9n u91 x:=zW s1o 179 Tryz.f179 3 56 x (by kernel_rfl)
def u9o(g:p85→Ht (p0g⊕Unit))(x:p85):Ht (p0g⊕Unit):=cond (decide (x.2.2.2<(x.1.length:Int))) (cond (y4q x.2.2.2 x.1.length) (cond (!(y3c (rdL u2n x.1 x.2.2.2.toNat).1 x.2.1.1||z7o (rdL u2n x.1 x.2.2.2.toNat).1 x.2.1.1)) (cond (y4q x.2.2.2 x.1.length) (cond (Nat.ble (x.2.2.1.length+([(rdL u2n x.1 x.2.2.2.toNat)]:Hu u2n.den).length) z7w) (g (x.1,x.2.1,x.2.2.1++([(rdL u2n x.1 x.2.2.2.toNat)]:Hu u2n.den),IntKind.i64.wrap (x.2.2.2+1))) none) none) (g (x.1,x.2.1,x.2.2.1,IntKind.i64.wrap (x.2.2.2+1)))) none) (some (.inl x.2.2.1))
def u92:=lpW _ _ u9o
theorem s2e x:u92 x=u9o u92 x:=zW s1p 179 Tryz.f179 9 56 x (by kernel_rfl)
def s65 (x:o1y):Ht p0g:=(u91 (x.1,x.2,([]:Hu u2n.den),0)).bind fun r1=>match r1 with | .inl o2=>cond (Nat.ble (o2.2.2.length+([o2.2.1]:Hu u2n.den).length) z7w) ((u92 (o2.1,o2.2.1,o2.2.2++([o2.2.1]:Hu u2n.den),0)).bind fun r3=>match r3 with | .inl o4=>some o4 | .inr z5=>none) none | .inr z6=>none
theorem r9d:t3q=s65:=zC 179 rfl Tryz.func179 (by kernel_rfl)
def t8c(x:Z92):Ht p7l:=zK 76 x
def s7d (x:Z92):Ht p7l:=(u0t x.1).bind fun y1=>(((u4j x.1).bind fun y2=>cond (!y2) (some true) (cond (!decide (x.1.2.1=1)) (some true) ((t0z x.2).bind fun y3=>some (!y3)))):Ht Bool).bind fun j4=>cond j4 (some (y1,false)) ((t3q (x.1.2.2.2.2.2.1,x.2)).bind fun y5=>(t3t y5).bind fun y6=>cond (!y6) ((u0t x.1).bind fun y7=>some (y7,false)) (some ((y1.1,y1.2.1,y1.2.2.1,y1.2.2.2.1,y1.2.2.2.2.1,y5,y1.2.2.2.2.2.2),true)))
theorem r9k:t8c=s7d:=zC 76 rfl Tryz.func76 (by kernel_rfl)
def t0b(x:Z41):Ht Z60:=zK 18 x
def r3b (x:Z41):Ht Z60:=(u0n x.1).bind fun y1=>(u4d (x.1,x.2.1)).bind fun y2=>cond (decide (y2<0)) (some (y1,1)) ((t0z x.2.2).bind fun y3=>cond (!y3) (some (y1,2)) (cond (y4q y2 x.1.2.length) ((t8c (rdL u0a x.1.2 y2.toNat,x.2.2)).bind fun y4=>cond (!y4.2) (some (y1,3)) (cond (y4q y2 y1.2.length) (some ((y1.1,y1.2.set y2.toNat y4.1),0)) none)) none))
theorem q4q:t0b=r3b:=zC 18 rfl Tryz.func18 (by kernel_rfl)
def u04(x:t8u):Ht t8u:=zK 261 x
def r0k (x:t8u):Ht t8u:=cond (Nat.ble (([]:Hu Hs).length+x.1.length) z7w) (cond (Nat.ble (([]:Hu p1t.den).length+x.2.length) z7w) (some (([]:Hu Hs)++x.1,([]:Hu p1t.den)++x.2)) none) none
theorem q1v:u04=r0k:=zC 261 rfl Tryz.func261 (by kernel_rfl)
def s0o(x:Z43):Ht Z43:=zK 155 x
def r0x (x:Z43):Ht Z43:=(u0n x.1).bind fun y1=>(u04 x.2).bind fun y2=>some (y1,y2)
theorem q18:s0o=r0x:=zC 155 rfl Tryz.func155 (by kernel_rfl)
def u1d(x:Int):Ht Hs:=zK 232 x
def s6j(g:p58→Ht (p58⊕Unit))(x:p58):Ht (p58⊕Unit):=cond (decide (x.1>127)) (cond (Nat.ble (x.2.length+([(IntKind.u8.wrap (IntKind.i64.wrap ((Int.tmod x.1 (128:Int))+128)))]:Hu Int).length) z7w) (g (IntKind.i64.wrap (Int.tdiv x.1 (128:Int)),x.2++([(IntKind.u8.wrap (IntKind.i64.wrap ((Int.tmod x.1 (128:Int))+128)))]:Hu Int))) none) (some (.inl x))
def t3e:=lpW _ _ s6j
theorem q0p x:t3e x=s6j t3e x:=zW s77 232 Tryz.f232 2 22 x (by kernel_rfl)
def r3g (x:Int):Ht Hs:=(t3e (x,([]:Hu Int))).bind fun r1=>match r1 with | .inl o2=>cond (Nat.ble (o2.2.length+([(IntKind.u8.wrap o2.1)]:Hu Int).length) z7w) (some (y7g (o2.2++([(IntKind.u8.wrap o2.1)]:Hu Int)))) none | .inr z3=>none
theorem q4v:u1d=r3g:=zC 232 rfl Tryz.func232 (by kernel_rfl)
def t5e(x:q2l):Ht p53:=zK 234 x
def t1m(g:o2q→Ht (Unit⊕p53))(x:o2q):Ht (Unit⊕p53):=((cond (decide (x.2.2.2.2<(x.1.size:Int))) (some (decide (x.2.2.2.2<(IntKind.i64.wrap (x.2.1+5))))) (some false)):Ht Bool).bind fun j2=>cond j2 (cond (y4q x.2.2.2.2 x.1.size) (cond (y4q x.2.2.2.2 x.1.size) (cond (decide (((x.1.data.toList.getD x.2.2.2.2.toNat 0).toNat:Int)<(128:Int))) (((cond (decide ((IntKind.i64.wrap (x.2.2.1+(IntKind.i64.wrap ((Int.tmod (IntKind.i64.wrap ((x.1.data.toList.getD x.2.2.2.2.toNat 0).toNat:Int)) (128:Int))*x.2.2.2.1))))>1000000000)) (some true) ((u1d (IntKind.i64.wrap (x.2.2.1+(IntKind.i64.wrap ((Int.tmod (IntKind.i64.wrap ((x.1.data.toList.getD x.2.2.2.2.toNat 0).toNat:Int)) (128:Int))*x.2.2.2.1))))).bind fun y3=>cond (decide (0≤x.2.1)&&decide (x.2.1≤(IntKind.i64.wrap (x.2.2.2.2+1)))&&decide ((IntKind.i64.wrap (x.2.2.2.2+1))≤(x.1.size:Int))) (some (!z7o y3 (x.1.extract x.2.1.toNat (IntKind.i64.wrap (x.2.2.2.2+1)).toNat))) none)):Ht Bool).bind fun j4=>cond j4 (some (.inr (0,0,false))) (some (.inr (IntKind.i64.wrap (x.2.2.1+(IntKind.i64.wrap ((Int.tmod (IntKind.i64.wrap ((x.1.data.toList.getD x.2.2.2.2.toNat 0).toNat:Int)) (128:Int))*x.2.2.2.1))),IntKind.i64.wrap (x.2.2.2.2+1),true)))) (g (x.1,x.2.1,IntKind.i64.wrap (x.2.2.1+(IntKind.i64.wrap ((Int.tmod (IntKind.i64.wrap ((x.1.data.toList.getD x.2.2.2.2.toNat 0).toNat:Int)) (128:Int))*x.2.2.2.1))),IntKind.i64.wrap (x.2.2.2.1*128),IntKind.i64.wrap (x.2.2.2.2+1)))) none) none) (some (.inl ()))
def t13:=lpW _ _ t1m
theorem s5x x:t13 x=t1m t13 x:=zW s4z 234 Tryz.f234 6 58 x (by kernel_rfl)
def s97 (x:q2l):Ht p53:=(u0r (x.2,0,(x.1.size:Int))).bind fun y1=>cond (!y1) (some (0,0,false)) ((t13 (x.1,x.2,0,1,x.2)).bind fun r5=>match r5 with | .inl o6=>some (0,0,false) | .inr z7=>some z7)
theorem q1j:t5e=s97:=zC 234 rfl Tryz.func234 (by kernel_rfl)
def t2e(x:q2l):Ht r2m:=zK 227 x
def s34 (x:q2l):Ht r2m:=(t5e x).bind fun y1=>((cond (!y1.2.2) (some true) (cond (decide (y1.1>20000)) (some true) (some (decide (y1.1>(IntKind.i64.wrap ((x.1.size:Int) - y1.2.1))))))):Ht Bool).bind fun j2=>cond j2 (some ((⟨#[]⟩:Hs),0,false)) (cond (decide (0≤y1.2.1)&&decide (y1.2.1≤(IntKind.i64.wrap (y1.2.1+y1.1)))&&decide ((IntKind.i64.wrap (y1.2.1+y1.1))≤(x.1.size:Int))) (some (x.1.extract y1.2.1.toNat (IntKind.i64.wrap (y1.2.1+y1.1)).toNat,IntKind.i64.wrap (y1.2.1+y1.1),true)) none)
theorem r7u:t2e=s34:=zC 227 rfl Tryz.func227 (by kernel_rfl)
def u1h(x:r2m):Ht p9h:=zK 111 x
def t7n (x:r2m):Ht p9h:=(t2e (x.1,x.2.1)).bind fun y1=>((cond x.2.2 (some true) (some (!y1.2.2))):Ht Bool).bind fun j2=>cond j2 (some ((⟨#[]⟩:Hs),x.1,x.2.1,true)) (some (y1.1,x.1,y1.2.1,x.2.2))
theorem r2a:u1h=t7n:=zC 111 rfl Tryz.func111 (by kernel_rfl)
def u4q(x:r2m):Ht (Bool×r2m):=zK 112 x
def s05 (x:r2m):Ht (Bool×r2m):=((cond x.2.2 (some true) (cond (decide (x.2.1≥(x.1.size:Int))) (some true) (cond (y4q x.2.1 x.1.size) (some (decide (((x.1.data.toList.getD x.2.1.toNat 0).toNat:Int)>(1:Int)))) none))):Ht Bool).bind fun j1=>cond j1 (some (false,x.1,x.2.1,true)) (cond (y4q (IntKind.i64.wrap ((IntKind.i64.wrap (x.2.1+1)) - 1)) x.1.size) (some (decide (((x.1.data.toList.getD (IntKind.i64.wrap ((IntKind.i64.wrap (x.2.1+1)) - 1)).toNat 0).toNat:Int)=(1:Int)),x.1,IntKind.i64.wrap (x.2.1+1),x.2.2)) none)
theorem r5o:u4q=s05:=zC 112 rfl Tryz.func112 (by kernel_rfl)
def u12(x:r2m):Ht (Int×r2m):=zK 118 x
def r3n (x:r2m):Ht (Int×r2m):=(t5e (x.1,x.2.1)).bind fun y1=>((cond x.2.2 (some true) (some (!y1.2.2))):Ht Bool).bind fun j2=>cond j2 (some (0,x.1,x.2.1,true)) (some (y1.1,x.1,y1.2.1,x.2.2))
theorem q42:u12=r3n:=zC 118 rfl Tryz.func118 (by kernel_rfl)
def t5d(x:q2l):Ht o1a:=zK 113 x
def t1l(g:Z27→Ht (Z32⊕Unit))(x:Z27):Ht (Z32⊕Unit):=((cond (decide (x.2.2.2.2<x.2.2.2.1)) (cond (decide (x.2.2.2.2<10)) (some (!x.2.1.2.2)) (some false)) (some false)):Ht Bool).bind fun j6=>cond j6 ((u1h x.2.1).bind fun y7=>(u1h y7.2).bind fun y8=>cond (Nat.ble (x.2.2.1.2.2.2.2.1.length+([(y7.1,y8.1)]:Hu q0z.den).length) z7w) (g (x.1,y8.2,(x.2.2.1.1,x.2.2.1.2.1,x.2.2.1.2.2.1,x.2.2.1.2.2.2.1,x.2.2.1.2.2.2.2.1++([(y7.1,y8.1)]:Hu q0z.den),x.2.2.1.2.2.2.2.2),x.2.2.2.1,IntKind.i64.wrap (x.2.2.2.2+1))) none) (some (.inl (x.1,x.2.1,x.2.2.1)))
def u7i:=lpW _ _ t1l
theorem s5w x:u7i x=t1l u7i x:=zW s4y 113 Tryz.f113 8 115 x (by kernel_rfl)
def u9q(g:Z27→Ht (Z32⊕Unit))(x:Z27):Ht (Z32⊕Unit):=((cond (decide (x.2.2.2.2<x.2.2.2.1)) (cond (decide (x.2.2.2.2<10)) (some (!x.2.1.2.2)) (some false)) (some false)):Ht Bool).bind fun j12=>cond j12 ((u1h x.2.1).bind fun y13=>(u1h y13.2).bind fun y14=>(u4q y14.2).bind fun y15=>cond (Nat.ble (x.2.2.1.2.2.2.2.2.1.length+([(y13.1,y14.1,y15.1)]:Hu u2n.den).length) z7w) (g (x.1,y15.2,(x.2.2.1.1,x.2.2.1.2.1,x.2.2.1.2.2.1,x.2.2.1.2.2.2.1,x.2.2.1.2.2.2.2.1,x.2.2.1.2.2.2.2.2.1++([(y13.1,y14.1,y15.1)]:Hu u2n.den),x.2.2.1.2.2.2.2.2.2),x.2.2.2.1,IntKind.i64.wrap (x.2.2.2.2+1))) none) (some (.inl (x.1,x.2.1,x.2.2.1)))
def u53:=lpW _ _ u9q
theorem s2g x:u53 x=u9q u53 x:=zW s1r 113 Tryz.f113 15 115 x (by kernel_rfl)
def s96 (x:q2l):Ht o1a:=(u12 (x.1,x.2,false)).bind fun y1=>(u12 y1.2).bind fun y2=>(u12 y2.2).bind fun y3=>(u12 y3.2).bind fun y4=>(u12 y4.2).bind fun y5=>(u7i ((0,0,0,0,([]:Hu q0z.den),([]:Hu u2n.den),false,(⟨#[]⟩:Hs)),y5.2,(y1.1,y2.1,y3.1,y4.1,([]:Hu q0z.den),([]:Hu u2n.den),false,(⟨#[]⟩:Hs)),y5.1,0)).bind fun r9=>match r9 with | .inl o10=>((u12 o10.2.1).bind fun y11=>(u53 (o10.1,y11.2,o10.2.2,y11.1,0)).bind fun r16=>match r16 with | .inl o17=>((u4q o17.2.1).bind fun y18=>(u1h y18.2).bind fun y19=>((cond y19.2.2.2 (some true) ((u4j (o17.2.2.1,o17.2.2.2.1,o17.2.2.2.2.1,o17.2.2.2.2.2.1,o17.2.2.2.2.2.2.1,o17.2.2.2.2.2.2.2.1,y18.1,y19.1)).bind fun y20=>some (!y20))):Ht Bool).bind fun j21=>cond j21 (some ((0,0,0,0,([]:Hu q0z.den),([]:Hu u2n.den),false,(⟨#[]⟩:Hs)),0,false)) (some ((o17.2.2.1,o17.2.2.2.1,o17.2.2.2.2.1,o17.2.2.2.2.2.1,o17.2.2.2.2.2.2.1,o17.2.2.2.2.2.2.2.1,y18.1,y19.1),y19.2.2.1,true))) | .inr z22=>none) | .inr z23=>none
theorem q1i:t5d=s96:=zC 113 rfl Tryz.func113 (by kernel_rfl)
def u8k(x:(r2m×Int)):Ht o1o:=zK 119 x
def u23(g:o1e→Ht (p88⊕p88))(x:o1e):Ht (p88⊕p88):=((cond (decide (x.2.2.2.2<x.2.2.2.1)) (cond (decide (x.2.2.2.2≤x.2.1)) (some (!x.1.2.2)) (some false)) (some false)):Ht Bool).bind fun j2=>cond j2 ((t5d (x.1.1,x.1.2.1)).bind fun y3=>cond (!y3.2.2) (some (.inr ((x.1.1,x.1.2.1,true),x.2.2.1))) (cond (Nat.ble (x.2.2.1.length+([y3.1]:Hu u0a.den).length) z7w) (g ((x.1.1,y3.2.1,x.1.2.2),x.2.1,x.2.2.1++([y3.1]:Hu u0a.den),x.2.2.2.1,IntKind.i64.wrap (x.2.2.2.2+1))) none)) (some (.inl (x.1,x.2.2.1)))
def u35:=lpW _ _ u23
theorem u5v x:u35 x=u23 u35 x:=zW t6p 119 Tryz.f119 4 59 x (by kernel_rfl)
def t89 (x:(r2m×Int)):Ht o1o:=(u12 x.1).bind fun y1=>(u35 (y1.2,x.2,([]:Hu u0a.den),y1.1,0)).bind fun r4=>match r4 with | .inl o5=>some (o5.2,o5.1) | .inr z6=>some (z6.2,z6.1)
theorem r37:u8k=t89:=zC 119 rfl Tryz.func119 (by kernel_rfl)
def u88(x:q2l):Ht Z85:=zK 38 x
def u9p(g:Z17→Ht (Z20⊕Unit))(x:Z17):Ht (Z20⊕Unit):=((cond (decide (x.2.2.2.2<x.2.2.2.1)) (cond (decide (x.2.2.2.2<130)) (some (!x.2.1.2.2)) (some false)) (some false)):Ht Bool).bind fun j4=>cond j4 ((u1h x.2.1).bind fun y5=>(u1h y5.2).bind fun y6=>(u4q y6.2).bind fun y7=>(u12 y7.2).bind fun y8=>cond (Nat.ble (x.2.2.1.1.length+([(y5.1,y6.1,y7.1,y8.1)]:Hu u0g.den).length) z7w) (g (x.1,y8.2,(x.2.2.1.1++([(y5.1,y6.1,y7.1,y8.1)]:Hu u0g.den),x.2.2.1.2),x.2.2.2.1,IntKind.i64.wrap (x.2.2.2.2+1))) none) (some (.inl (x.1,x.2.1,x.2.2.1)))
def u52:=lpW _ _ u9p
theorem s2f x:u52 x=u9p u52 x:=zW s1q 38 Tryz.f38 6 79 x (by kernel_rfl)
def s67 (x:q2l):Ht Z85:=(u12 (x.1,x.2,false)).bind fun y1=>(u12 y1.2).bind fun y2=>(u12 y2.2).bind fun y3=>(u52 ((([]:Hu u0g.den),([]:Hu u0a.den),([]:Hu u0a.den),0,0),y3.2,(([]:Hu u0g.den),([]:Hu u0a.den),([]:Hu u0a.den),y1.1,y2.1),y3.1,0)).bind fun r9=>match r9 with | .inl o10=>((u8k (o10.2.1,12)).bind fun y11=>(u8k (y11.2,3)).bind fun y12=>((cond y12.2.2.2 (some true) ((u2l (o10.2.2.1,y11.1,y12.1,o10.2.2.2.2.2)).bind fun y13=>some (!y13))):Ht Bool).bind fun j14=>cond j14 (some ((([]:Hu u0g.den),([]:Hu u0a.den),([]:Hu u0a.den),0,0),0,false)) (some ((o10.2.2.1,y11.1,y12.1,o10.2.2.2.2.2),y12.2.2.1,true))) | .inr z15=>none
theorem r9f:u88=s67:=zC 38 rfl Tryz.func38 (by kernel_rfl)
def t3z(x:u95):Ht Bool:=zK 122 x
def s7j (x:u95):Ht Bool:=((cond (decide (x.1=0)) (cond (decide (x.2.1=0)) (cond (decide (x.2.2.1=0)) (cond (decide (x.2.2.2.1=0)) (cond (decide ((x.2.2.2.2.1.length:Int)=(0:Int))) (cond (decide ((x.2.2.2.2.2.1.length:Int)=(0:Int))) (cond (!x.2.2.2.2.2.2.1) (some (z7o x.2.2.2.2.2.2.2 (⟨#[]⟩:Hs))) (some false)) (some false)) (some false)) (some false)) (some false)) (some false)) (some false)):Ht Bool).bind fun j1=>some j1
theorem r9q:t3z=s7j:=zC 122 rfl Tryz.func122 (by kernel_rfl)
def t6d(x:u8g):Ht Bool:=zK 124 x
def s38 (x:u8g):Ht Bool:=((cond (decide (x.2.2.2.1=0)) (cond (decide (x.2.2.2.2=0)) (cond (decide ((x.1.length:Int)=(0:Int))) (cond (decide ((x.2.1.length:Int)=(0:Int))) (some (decide ((x.2.2.1.length:Int)=(0:Int)))) (some false)) (some false)) (some false)) (some false)):Ht Bool).bind fun j1=>some j1
theorem r7y:t6d=s38:=zC 124 rfl Tryz.func124 (by kernel_rfl)
def u89(x:Z26):Ht Bool:=zK 39 x
def s68 (x:Z26):Ht Bool:=(u0r (x.1,1,4)).bind fun y1=>cond (!y1) (some false) (((cond (decide (x.1=1)) (some true) (some (decide (x.1=2)))):Ht Bool).bind fun j2=>((cond j2 ((u4j x.2.1).bind fun y3=>cond (!y3) (some true) (cond (!j2) ((t3z x.2.1).bind fun y4=>cond (!y4) (some true) (cond (decide (x.1=1)) (cond (!decide (x.2.1.2.1=3)) (some true) (cond (decide (x.1=2)) (some (!decide (x.2.1.2.1=2))) (some false))) (cond (decide (x.1=2)) (some (!decide (x.2.1.2.1=2))) (some false)))) (cond (decide (x.1=1)) (cond (!decide (x.2.1.2.1=3)) (some true) (cond (decide (x.1=2)) (some (!decide (x.2.1.2.1=2))) (some false))) (cond (decide (x.1=2)) (some (!decide (x.2.1.2.1=2))) (some false))))) (cond (!j2) ((t3z x.2.1).bind fun y5=>cond (!y5) (some true) (cond (decide (x.1=1)) (cond (!decide (x.2.1.2.1=3)) (some true) (cond (decide (x.1=2)) (some (!decide (x.2.1.2.1=2))) (some false))) (cond (decide (x.1=2)) (some (!decide (x.2.1.2.1=2))) (some false)))) (cond (decide (x.1=1)) (cond (!decide (x.2.1.2.1=3)) (some true) (cond (decide (x.1=2)) (some (!decide (x.2.1.2.1=2))) (some false))) (cond (decide (x.1=2)) (some (!decide (x.2.1.2.1=2))) (some false))))):Ht Bool).bind fun j6=>cond j6 (some false) (((cond (decide (x.1=3)) ((u4h x.2.2.1).bind fun y7=>cond (!y7) (some true) (cond (!decide (x.1=3)) (cond (!z7o x.2.2.1 (⟨#[]⟩:Hs)) (some true) (some x.2.2.2.1)) (some false))) (cond (!decide (x.1=3)) (cond (!z7o x.2.2.1 (⟨#[]⟩:Hs)) (some true) (some x.2.2.2.1)) (some false))):Ht Bool).bind fun j8=>cond j8 (some false) (cond (decide (x.1=4)) ((u2l x.2.2.2.2).bind fun y9=>some y9) ((t6d x.2.2.2.2).bind fun y10=>some y10))))
theorem r9g:u89=s68:=zC 39 rfl Tryz.func39 (by kernel_rfl)
def t5g(x:Int):Ht Hs:=zK 224 x
def r0j (x:Int):Ht Hs:=some (y7g ([IntKind.u8.wrap (Int.fdiv x (2^(min (24:Int).toNat IntKind.u32.bits))),IntKind.u8.wrap (Int.fdiv x (2^(min (16:Int).toNat IntKind.u32.bits))),IntKind.u8.wrap (Int.fdiv x (2^(min (8:Int).toNat IntKind.u32.bits))),IntKind.u8.wrap x]:Hu Int))
theorem r04:t5g=r0j:=zC 224 rfl Tryz.func224 (by kernel_rfl)
def s0g(x:p9u):Ht Int:=zK 318 x
def s3p(g:p9q→Ht (p59⊕Unit))(x:p9q):Ht (p59⊕Unit):=cond (decide (x.2.2.2<8)) (cond (decide ((Int.tmod x.1 (2:Int))=1)) (g (IntKind.u32.wrap ((BitVec.ofInt IntKind.u32.bits (IntKind.u32.wrap (Int.tdiv x.1 (2:Int)))^^^BitVec.ofInt IntKind.u32.bits (3558460437:Int)).toNat:Int),x.2.1,x.2.2.1,IntKind.i64.wrap (x.2.2.2+1))) (g (IntKind.u32.wrap (Int.tdiv x.1 (2:Int)),x.2.1,x.2.2.1,IntKind.i64.wrap (x.2.2.2+1)))) (some (.inl (x.1,x.2.1,x.2.2.1)))
def t15:=lpW _ _ s3p
theorem r75 x:t15 x=s3p t15 x:=zW s42 318 Tryz.f318 6 33 x (by kernel_rfl)
def t1n(g:p59→Ht p56)(x:p59):Ht p56:=cond (decide (x.2.2<(x.2.1.size:Int))) (cond (y4q x.2.2 x.2.1.size) ((t15 (IntKind.u32.wrap ((BitVec.ofInt IntKind.u32.bits x.1^^^BitVec.ofInt IntKind.u32.bits (IntKind.u32.wrap ((x.2.1.data.toList.getD x.2.2.toNat 0).toNat:Int))).toNat:Int),x.2.1,x.2.2,0)).bind fun r1=>match r1 with | .inl o2=>g (o2.1,o2.2.1,IntKind.i64.wrap (o2.2.2+1)) | .inr z3=>some (.inr ())) none) (some (.inl x.1))
def t14:=lpW _ _ t1n
theorem s5z x:t14 x=t1n t14 x:=zW s41 318 Tryz.f318 2 33 x (by kernel_rfl)
def s99 (x:p9u):Ht Int:=(t14 (x.1,x.2,0)).bind fun r4=>match r4 with | .inl o5=>some o5 | .inr z6=>none
theorem q1l:s0g=s99:=zC 318 rfl Tryz.func318 (by kernel_rfl)
def t9r(x:Hs):Ht Int:=zK 225 x
def s7b (x:Hs):Ht Int:=(s0g (4294967295,x)).bind fun y1=>some y1
theorem r6v:t9r=s7b:=zC 225 rfl Tryz.func225 (by kernel_rfl)
def t0d(x:Hs):Ht s3l:=zK 109 x
def r3c (x:Hs):Ht s3l:=cond (decide ((x.size:Int)>(20000:Int))) (some ((⟨#[]⟩:Hs),false)) ((t9r x).bind fun y1=>(t5g y1).bind fun y2=>cond (decide (x.size+y2.size≤140737488355328)) (some (x++y2,true)) none)
theorem q4r:t0d=r3c:=zC 109 rfl Tryz.func109 (by kernel_rfl)
def u2j(x:Hs):Ht Hs:=zK 221 x
def s7i (x:Hs):Ht Hs:=(u1d (x.size:Int)).bind fun y1=>cond (decide (y1.size+x.size≤140737488355328)) (some (y1++x)) none
theorem r9p:u2j=s7i:=zC 221 rfl Tryz.func221 (by kernel_rfl)
def t0g(x:Bool):Ht Hs:=zK 222 x
def r3l (x:Bool):Ht Hs:=cond x (some (⟨#[1]⟩:Hs)) (some (⟨#[0]⟩:Hs))
theorem q40:t0g=r3l:=zC 222 rfl Tryz.func222 (by kernel_rfl)
def t5f(x:u95):Ht s3l:=zK 223 x
def t1r(g:p83→Ht (p75⊕Unit))(x:p83):Ht (p75⊕Unit):=cond (decide (x.2.2<(x.1.2.2.2.2.1.length:Int))) (cond (y4q x.2.2 x.1.2.2.2.2.1.length) ((u2j (rdL q0z x.1.2.2.2.2.1 x.2.2.toNat).1).bind fun y7=>cond (decide (x.2.1.size+y7.size≤140737488355328)) (cond (y4q x.2.2 x.1.2.2.2.2.1.length) ((u2j (rdL q0z x.1.2.2.2.2.1 x.2.2.toNat).2).bind fun y8=>cond (decide ((x.2.1++y7).size+y8.size≤140737488355328)) (g (x.1,(x.2.1++y7)++y8,IntKind.i64.wrap (x.2.2+1))) none) none) none) none) (some (.inl (x.1,x.2.1)))
def u7m:=lpW _ _ t1r
theorem s53 x:u7m x=t1r u7m x:=zW s46 223 Tryz.f223 5 101 x (by kernel_rfl)
def u9u(g:p83→Ht (p75⊕Unit))(x:p83):Ht (p75⊕Unit):=cond (decide (x.2.2<(x.1.2.2.2.2.2.1.length:Int))) (cond (y4q x.2.2 x.1.2.2.2.2.2.1.length) ((u2j (rdL u2n x.1.2.2.2.2.2.1 x.2.2.toNat).1).bind fun y12=>cond (decide (x.2.1.size+y12.size≤140737488355328)) (cond (y4q x.2.2 x.1.2.2.2.2.2.1.length) ((u2j (rdL u2n x.1.2.2.2.2.2.1 x.2.2.toNat).2.1).bind fun y13=>cond (decide ((x.2.1++y12).size+y13.size≤140737488355328)) (cond (y4q x.2.2 x.1.2.2.2.2.2.1.length) ((t0g (rdL u2n x.1.2.2.2.2.2.1 x.2.2.toNat).2.2).bind fun y14=>cond (decide (((x.2.1++y12)++y13).size+y14.size≤140737488355328)) (g (x.1,((x.2.1++y12)++y13)++y14,IntKind.i64.wrap (x.2.2+1))) none) none) none) none) none) none) (some (.inl (x.1,x.2.1)))
def u55:=lpW _ _ u9u
theorem s2k x:u55 x=u9u u55 x:=zW s1v 223 Tryz.f223 10 101 x (by kernel_rfl)
def r0d (x:u95):Ht s3l:=(u4j x).bind fun y1=>cond (!y1) (some ((⟨#[]⟩:Hs),false)) ((u1d x.1).bind fun y2=>(u1d x.2.1).bind fun y3=>cond (decide (y2.size+y3.size≤140737488355328)) ((u1d x.2.2.1).bind fun y4=>cond (decide ((y2++y3).size+y4.size≤140737488355328)) ((u1d x.2.2.2.1).bind fun y5=>cond (decide (((y2++y3)++y4).size+y5.size≤140737488355328)) ((u1d (x.2.2.2.2.1.length:Int)).bind fun y6=>cond (decide ((((y2++y3)++y4)++y5).size+y6.size≤140737488355328)) ((u7m (x,(((y2++y3)++y4)++y5)++y6,0)).bind fun r9=>match r9 with | .inl o10=>((u1d (o10.1.2.2.2.2.2.1.length:Int)).bind fun y11=>cond (decide (o10.2.size+y11.size≤140737488355328)) ((u55 (o10.1,o10.2++y11,0)).bind fun r15=>match r15 with | .inl o16=>((t0g o16.1.2.2.2.2.2.2.1).bind fun y17=>cond (decide (o16.2.size+y17.size≤140737488355328)) ((u2j o16.1.2.2.2.2.2.2.2).bind fun y18=>cond (decide ((o16.2++y17).size+y18.size≤140737488355328)) (some ((o16.2++y17)++y18,true)) none) none) | .inr z19=>none) none) | .inr z20=>none) none) none) none) none)
theorem q1p:t5f=r0d:=zC 223 rfl Tryz.func223 (by kernel_rfl)
def t5h(x:q5x):Ht Hs:=zK 233 x
def t1w(g:o1w→Ht (Hs⊕Unit))(x:o1w):Ht (Hs⊕Unit):=cond (decide (x.2.2<(x.1.length:Int))) (cond (y4q x.2.2 x.1.length) ((t5f (rdL u0a x.1 x.2.2.toNat)).bind fun y2=>cond (decide (x.2.1.size+y2.1.size≤140737488355328)) (g (x.1,x.2.1++y2.1,IntKind.i64.wrap (x.2.2+1))) none) none) (some (.inl x.2.1))
def u7p:=lpW _ _ t1w
theorem s58 x:u7p x=t1w u7p x:=zW s5d 233 Tryz.f233 3 28 x (by kernel_rfl)
def r0u (x:q5x):Ht Hs:=(u1d (x.length:Int)).bind fun y1=>(u7p (x,y1,0)).bind fun r3=>match r3 with | .inl o4=>some o4 | .inr z5=>none
theorem q15:t5h=r0u:=zC 233 rfl Tryz.func233 (by kernel_rfl)
def u85(x:u8g):Ht s3l:=zK 117 x
def u9k(g:Z79→Ht (Z91⊕Unit))(x:Z79):Ht (Z91⊕Unit):=cond (decide (x.2.2<(x.1.1.length:Int))) (cond (y4q x.2.2 x.1.1.length) ((u2j (rdL u0g x.1.1 x.2.2.toNat).1).bind fun y5=>cond (decide (x.2.1.size+y5.size≤140737488355328)) ((u2j (rdL u0g x.1.1 x.2.2.toNat).2.1).bind fun y6=>cond (decide ((x.2.1++y5).size+y6.size≤140737488355328)) ((t0g (rdL u0g x.1.1 x.2.2.toNat).2.2.1).bind fun y7=>cond (decide (((x.2.1++y5)++y6).size+y7.size≤140737488355328)) ((u1d (rdL u0g x.1.1 x.2.2.toNat).2.2.2).bind fun y8=>cond (decide ((((x.2.1++y5)++y6)++y7).size+y8.size≤140737488355328)) (g (x.1,(((x.2.1++y5)++y6)++y7)++y8,IntKind.i64.wrap (x.2.2+1))) none) none) none) none) none) (some (.inl (x.1,x.2.1)))
def u51:=lpW _ _ u9k
theorem s2a x:u51 x=u9k u51 x:=zW s1l 117 Tryz.f117 5 60 x (by kernel_rfl)
def s60 (x:u8g):Ht s3l:=(u2l x).bind fun y1=>cond (!y1) (some ((⟨#[]⟩:Hs),false)) ((u1d x.2.2.2.1).bind fun y2=>(u1d x.2.2.2.2).bind fun y3=>cond (decide (y2.size+y3.size≤140737488355328)) ((u1d (x.1.length:Int)).bind fun y4=>cond (decide ((y2++y3).size+y4.size≤140737488355328)) ((u51 (x,(y2++y3)++y4,0)).bind fun r9=>match r9 with | .inl o10=>((t5h o10.1.2.1).bind fun y11=>cond (decide (o10.2.size+y11.size≤140737488355328)) ((t5h o10.1.2.2.1).bind fun y12=>cond (decide ((o10.2++y11).size+y12.size≤140737488355328)) (some ((o10.2++y11)++y12,true)) none) none) | .inr z13=>none) none) none)
theorem r88:u85=s60:=zC 117 rfl Tryz.func117 (by kernel_rfl)
def u11(x:Z26):Ht s3l:=zK 107 x
def s01 (x:Z26):Ht s3l:=(u89 x).bind fun y1=>cond (!y1) (some ((⟨#[]⟩:Hs),false)) (cond (decide (x.1=3)) ((u2j x.2.2.1).bind fun y2=>cond (decide ((y7g ([(IntKind.u8.wrap x.1)]:Hu Int)).size+y2.size≤140737488355328)) ((t0g x.2.2.2.1).bind fun y3=>cond (decide (((y7g ([(IntKind.u8.wrap x.1)]:Hu Int))++y2).size+y3.size≤140737488355328)) ((t0d (((y7g ([(IntKind.u8.wrap x.1)]:Hu Int))++y2)++y3)).bind fun y4=>some y4) none) none) (cond (decide (x.1=4)) ((u85 x.2.2.2.2).bind fun y5=>cond (decide ((y7g ([(IntKind.u8.wrap x.1)]:Hu Int)).size+y5.1.size≤140737488355328)) ((t0d ((y7g ([(IntKind.u8.wrap x.1)]:Hu Int))++y5.1)).bind fun y6=>some y6) none) ((t5f x.2.1).bind fun y7=>cond (decide ((y7g ([(IntKind.u8.wrap x.1)]:Hu Int)).size+y7.1.size≤140737488355328)) ((t0d ((y7g ([(IntKind.u8.wrap x.1)]:Hu Int))++y7.1)).bind fun y8=>some y8) none)))
theorem r5k:u11=s01:=zC 107 rfl Tryz.func107 (by kernel_rfl)
def t3s(x:Hs):Ht s3l:=zK 108 x
def s7c (x:Hs):Ht s3l:=((cond (decide ((IntKind.i64.wrap ((x.size:Int) - (4:Int)))<0)) (some true) (cond (decide ((IntKind.i64.wrap ((x.size:Int) - (4:Int)))>20000)) (some true) (cond (decide (0≤(IntKind.i64.wrap ((x.size:Int) - (4:Int))))&&decide ((IntKind.i64.wrap ((x.size:Int) - (4:Int)))≤(x.size:Int))&&decide ((x.size:Int)≤(x.size:Int))) (cond (decide (0≤(0:Int))&&decide ((0:Int)≤(IntKind.i64.wrap ((x.size:Int) - (4:Int))))&&decide ((IntKind.i64.wrap ((x.size:Int) - (4:Int)))≤(x.size:Int))) ((t9r (x.extract (0:Int).toNat (IntKind.i64.wrap ((x.size:Int) - (4:Int))).toNat)).bind fun y1=>(t5g y1).bind fun y2=>some (!z7o (x.extract (IntKind.i64.wrap ((x.size:Int) - (4:Int))).toNat (x.size:Int).toNat) y2)) none) none))):Ht Bool).bind fun j3=>cond j3 (some ((⟨#[]⟩:Hs),false)) (cond (decide (0≤(0:Int))&&decide ((0:Int)≤(IntKind.i64.wrap ((x.size:Int) - (4:Int))))&&decide ((IntKind.i64.wrap ((x.size:Int) - (4:Int)))≤(x.size:Int))) (some (x.extract (0:Int).toNat (IntKind.i64.wrap ((x.size:Int) - (4:Int))).toNat,true)) none)
theorem r9j:t3s=s7c:=zC 108 rfl Tryz.func108 (by kernel_rfl)
def t0c(x:Hs):Ht Z24:=zK 33 x
def s0z (x:Hs):Ht Z24:=(t3s x).bind fun y1=>((cond (!y1.2) (some true) (some (z7o y1.1 (⟨#[]⟩:Hs)))):Ht Bool).bind fun j2=>cond j2 (some ((0,(0,0,0,0,([]:Hu q0z.den),([]:Hu u2n.den),false,(⟨#[]⟩:Hs)),(⟨#[]⟩:Hs),false,([]:Hu u0g.den),([]:Hu u0a.den),([]:Hu u0a.den),0,0),false)) (cond (y4q (0:Int) y1.1.size) (cond (decide ((IntKind.i64.wrap ((y1.1.data.toList.getD (0:Int).toNat 0).toNat:Int))=3)) ((u1h (y1.1,1,false)).bind fun y3=>(u4q y3.2).bind fun y4=>(u11 (IntKind.i64.wrap ((y1.1.data.toList.getD (0:Int).toNat 0).toNat:Int),(0,0,0,0,([]:Hu q0z.den),([]:Hu u2n.den),false,(⟨#[]⟩:Hs)),y3.1,y4.1,([]:Hu u0g.den),([]:Hu u0a.den),([]:Hu u0a.den),0,0)).bind fun y5=>((cond (!y5.2) (some true) (some (!z7o y5.1 x))):Ht Bool).bind fun j6=>cond j6 (some ((0,(0,0,0,0,([]:Hu q0z.den),([]:Hu u2n.den),false,(⟨#[]⟩:Hs)),(⟨#[]⟩:Hs),false,([]:Hu u0g.den),([]:Hu u0a.den),([]:Hu u0a.den),0,0),false)) (some ((IntKind.i64.wrap ((y1.1.data.toList.getD (0:Int).toNat 0).toNat:Int),(0,0,0,0,([]:Hu q0z.den),([]:Hu u2n.den),false,(⟨#[]⟩:Hs)),y3.1,y4.1,([]:Hu u0g.den),([]:Hu u0a.den),([]:Hu u0a.den),0,0),true))) (cond (decide ((IntKind.i64.wrap ((y1.1.data.toList.getD (0:Int).toNat 0).toNat:Int))=4)) ((u88 (y1.1,1)).bind fun y7=>(u11 (IntKind.i64.wrap ((y1.1.data.toList.getD (0:Int).toNat 0).toNat:Int),(0,0,0,0,([]:Hu q0z.den),([]:Hu u2n.den),false,(⟨#[]⟩:Hs)),(⟨#[]⟩:Hs),false,y7.1)).bind fun y8=>((cond (!y8.2) (some true) (some (!z7o y8.1 x))):Ht Bool).bind fun j9=>cond j9 (some ((0,(0,0,0,0,([]:Hu q0z.den),([]:Hu u2n.den),false,(⟨#[]⟩:Hs)),(⟨#[]⟩:Hs),false,([]:Hu u0g.den),([]:Hu u0a.den),([]:Hu u0a.den),0,0),false)) (some ((IntKind.i64.wrap ((y1.1.data.toList.getD (0:Int).toNat 0).toNat:Int),(0,0,0,0,([]:Hu q0z.den),([]:Hu u2n.den),false,(⟨#[]⟩:Hs)),(⟨#[]⟩:Hs),false,y7.1),true))) ((t5d (y1.1,1)).bind fun y10=>(u11 (IntKind.i64.wrap ((y1.1.data.toList.getD (0:Int).toNat 0).toNat:Int),y10.1,(⟨#[]⟩:Hs),false,([]:Hu u0g.den),([]:Hu u0a.den),([]:Hu u0a.den),0,0)).bind fun y11=>((cond (!y11.2) (some true) (some (!z7o y11.1 x))):Ht Bool).bind fun j12=>cond j12 (some ((0,(0,0,0,0,([]:Hu q0z.den),([]:Hu u2n.den),false,(⟨#[]⟩:Hs)),(⟨#[]⟩:Hs),false,([]:Hu u0g.den),([]:Hu u0a.den),([]:Hu u0a.den),0,0),false)) (some ((IntKind.i64.wrap ((y1.1.data.toList.getD (0:Int).toNat 0).toNat:Int),y10.1,(⟨#[]⟩:Hs),false,([]:Hu u0g.den),([]:Hu u0a.den),([]:Hu u0a.den),0,0),true))))) none)
theorem r5i:t0c=s0z:=zC 33 rfl Tryz.func33 (by kernel_rfl)
def u4p(x:q8j):Ht s3l:=zK 355 x
def u6o(g:o2b→Ht (o2m⊕s3l))(x:o2b):Ht (o2m⊕s3l):=cond (decide (x.2.2≥0)) (cond (y4q x.2.2 x.2.1.2.length) (cond (decide ((rdL p1t x.2.1.2 x.2.2.toNat).1=x.1)) (cond (y4q x.2.2 x.2.1.2.length) (some (.inr ((rdL p1t x.2.1.2 x.2.2.toNat).2,true))) none) (g (x.1,x.2.1,IntKind.i64.wrap (x.2.2 - 1)))) none) (some (.inl (x.1,x.2.1)))
def u6t:=lpW _ _ u6o
theorem t8p x:u6t x=u6o u6t x:=zW t7v 355 Tryz.f355 4 41 x (by kernel_rfl)
def s00 (x:q8j):Ht s3l:=(u0r (x.2,0,IntKind.i64.wrap ((x.1.1.length:Int) - (1:Int)))).bind fun y1=>cond (!y1) (some ((⟨#[]⟩:Hs),false)) ((u6t (x.2,x.1,IntKind.i64.wrap ((x.1.2.length:Int) - (1:Int)))).bind fun r2=>match r2 with | .inl o3=>cond (y4q o3.1 o3.2.1.length) (some (rdL Ty.str o3.2.1 o3.1.toNat,true)) none | .inr z4=>some z4)
theorem r5j:u4p=s00:=zC 355 rfl Tryz.func355 (by kernel_rfl)
def t4g(x:p9c):Ht s3l:=zK 263 x
def u6p(g:o1m→Ht (Hs⊕s3l))(x:o1m):Ht (Hs⊕s3l):=cond (decide (x.2.2.2.2<x.2.1)) (((cond (decide (x.1<0)) (some true) (some (decide (x.1>(x.2.2.1.1.length:Int))))):Ht Bool).bind fun j2=>cond j2 (some (.inr ((⟨#[]⟩:Hs),false))) ((u4p (x.2.2.1,IntKind.i64.wrap (x.1+x.2.2.2.2))).bind fun y3=>cond (!y3.2) (some (.inr ((⟨#[]⟩:Hs),false))) (cond (decide (x.2.2.2.1.size+y3.1.size≤140737488355328)) (g (x.1,x.2.1,x.2.2.1,x.2.2.2.1++y3.1,IntKind.i64.wrap (x.2.2.2.2+1))) none))) (some (.inl x.2.2.2.1))
def u6u:=lpW _ _ u6p
theorem t8q x:u6u x=u6p u6u x:=zW t7w 263 Tryz.f263 5 43 x (by kernel_rfl)
def s02 (x:p9c):Ht s3l:=(u0r (x.2.2,0,100)).bind fun y1=>cond (!y1) (some ((⟨#[]⟩:Hs),false)) ((u6u (x.2.1,x.2.2,x.1,(⟨#[]⟩:Hs),0)).bind fun r4=>match r4 with | .inl o5=>some (o5,true) | .inr z6=>some z6)
theorem r5l:t4g=s02:=zC 263 rfl Tryz.func263 (by kernel_rfl)
def u46(x:Int):Ht Int:=zK 264 x
def s3y (x:Int):Ht Int:=(u0r (x,0,1)).bind fun y1=>cond (!y1) (some (0:Int)) (some (IntKind.i64.wrap ((1:Int)+(IntKind.i64.wrap (x*48)))))
theorem r7o:u46=s3y:=zC 264 rfl Tryz.func264 (by kernel_rfl)
def t00(x:q8j):Ht Int:=zK 266 x
def r0m (x:q8j):Ht Int:=(u4p x).bind fun y1=>((cond (!y1.2) (some true) (some (z7o y1.1 (⟨#[]⟩:Hs)))):Ht Bool).bind fun j2=>cond j2 (some (0:Int)) (cond (y4q (0:Int) y1.1.size) (some (IntKind.i64.wrap ((y1.1.data.toList.getD (0:Int).toNat 0).toNat:Int))) none)
theorem q1x:t00=r0m:=zC 266 rfl Tryz.func266 (by kernel_rfl)
def t0x(x:q8j):Ht Int:=zK 265 x
def s9y (x:q8j):Ht Int:=(u0r (x.2,0,1)).bind fun y1=>cond (!y1) (some (0:Int)) ((u46 x.2).bind fun y2=>(t00 (x.1,y2)).bind fun y3=>some y3)
theorem q1a:t0x=s9y:=zC 265 rfl Tryz.func265 (by kernel_rfl)
def u6c(x:q8j):Ht p9r:=zK 157 x
def u76(g:o07→Ht ((p3t×Int)⊕p9r))(x:o07):Ht ((p3t×Int)⊕p9r):=(t0x (x.2.1,x.1)).bind fun y4=>cond (decide (x.2.2.2.2.2.2<y4)) ((t2e (x.2.2.2.1,x.2.2.2.2.2.1)).bind fun y5=>((cond (!y5.2.2) (some true) (some (z7o y5.1 (⟨#[]⟩:Hs)))):Ht Bool).bind fun j6=>cond j6 (some (.inr (x.2.2.1,0,false))) (cond (Nat.ble (x.2.2.2.2.1.length+([y5.1]:Hu Hs).length) z7w) (g (x.1,x.2.1,x.2.2.1,x.2.2.2.1,x.2.2.2.2.1++([y5.1]:Hu Hs),y5.2.1,IntKind.i64.wrap (x.2.2.2.2.2.2+1))) none)) (some (.inl (x.2.2.2.2.1,x.2.2.2.2.2.1)))
def u8d:=lpW _ _ u76
theorem t92 x:u8d x=u76 u8d x:=zW t9j 157 Tryz.f157 10 61 x (by kernel_rfl)
def s66 (x:q8j):Ht p9r:=(u0r (x.2,0,1)).bind fun y1=>cond (!y1) (some (([]:Hu Hs),0,false)) ((u46 x.2).bind fun y2=>(t4g (x.1,IntKind.i64.wrap (y2+1),47)).bind fun y3=>cond (!y3.2) (some (([]:Hu Hs),0,false)) ((u8d (x.2,x.1,([]:Hu Hs),y3.1,([]:Hu Hs),0,0)).bind fun r7=>match r7 with | .inl o8=>some (o8.1,o8.2,true) | .inr z9=>some z9))
theorem r9e:u6c=s66:=zC 157 rfl Tryz.func157 (by kernel_rfl)
def u84(x:t8u):Ht Int:=zK 158 x
def s6z (x:t8u):Ht Int:=(t00 (x,0)).bind fun y1=>some (Int.tmod y1 (2:Int))
theorem r87:u84=s6z:=zC 158 rfl Tryz.func158 (by kernel_rfl)
def t79(x:t8u):Ht p3t:=zK 53 x
def s63 (x:t8u):Ht p3t:=(u84 x).bind fun y1=>(u6c (x,y1)).bind fun y2=>some y2.1
theorem r9b:t79=s63:=zC 53 rfl Tryz.func53 (by kernel_rfl)
def t8a(x:Z63):Ht Int:=zK 69 x
def u9m(g:p6k→Ht p56)(x:p6k):Ht p56:=cond (decide (x.2.2<(x.1.length:Int))) (cond (y4q x.2.2 x.1.length) (cond (decide ((rdL u0a x.1 x.2.2.toNat).2.2.1<x.2.1)) (cond (y4q x.2.2 x.1.length) (g (x.1,(rdL u0a x.1 x.2.2.toNat).2.2.1,IntKind.i64.wrap (x.2.2+1))) none) (g (x.1,x.2.1,IntKind.i64.wrap (x.2.2+1)))) none) (some (.inl x.2.1))
def u90:=lpW _ _ u9m
theorem s2c x:u90 x=u9m u90 x:=zW s1n 69 Tryz.f69 3 28 x (by kernel_rfl)
def s64 (x:Z63):Ht Int:=(u90 (x.2,x.1.2.2.2.1,0)).bind fun r1=>match r1 with | .inl o2=>some o2 | .inr z3=>none
theorem r9c:t8a=s64:=zC 69 rfl Tryz.func69 (by kernel_rfl)
def t9s(x:p9g):Ht Int:=zK 79 x
def t4w(g:o1u→Ht p56)(x:o1u):Ht p56:=cond (decide (x.2.2.2.2<(x.1.length:Int))) (((cond (y4q x.2.2.2.2 x.1.length) (cond (z7o (rdL u0g x.1 x.2.2.2.2.toNat).1 x.2.1) (cond (y4q x.2.2.2.2 x.1.length) (cond (decide ((rdL u0g x.1 x.2.2.2.2.toNat).2.2.2≤x.2.2.1)) (cond (decide (x.2.2.2.1<0)) (some true) (cond (y4q x.2.2.2.2 x.1.length) (cond (y4q x.2.2.2.1 x.1.length) (some (decide ((rdL u0g x.1 x.2.2.2.2.toNat).2.2.2>(rdL u0g x.1 x.2.2.2.1.toNat).2.2.2))) none) none)) (some false)) none) (some false)) none):Ht Bool).bind fun j1=>cond j1 (g (x.1,x.2.1,x.2.2.1,x.2.2.2.2,IntKind.i64.wrap (x.2.2.2.2+1))) (g (x.1,x.2.1,x.2.2.1,x.2.2.2.1,IntKind.i64.wrap (x.2.2.2.2+1)))) (some (.inl x.2.2.2.1))
def t0t:=lpW _ _ t4w
theorem r1p x:t0t x=t4w t0t x:=zW r1e 79 Tryz.f79 3 50 x (by kernel_rfl)
def r6p (x:p9g):Ht Int:=(t0t (x.1,x.2.1,x.2.2,(- 1:Int),0)).bind fun r2=>match r2 with | .inl o3=>some o3 | .inr z4=>none
theorem q68:t9s=r6p:=zC 79 rfl Tryz.func79 (by kernel_rfl)
def s0i(x:(q0u×Int)):Ht q0u:=zK 71 x
def t1q(g:o1r→Ht ((Int×q0u)⊕Unit))(x:o1r):Ht ((Int×q0u)⊕Unit):=cond (decide (x.2.2.2<(x.1.length:Int))) (cond (y4q x.2.2.2 x.1.length) ((t9s (x.1,(rdL u0g x.1 x.2.2.2.toNat).1,x.2.1)).bind fun y1=>((cond (y4q x.2.2.2 x.1.length) (cond (decide ((rdL u0g x.1 x.2.2.2.toNat).2.2.2>x.2.1)) (some true) (some (decide (y1=x.2.2.2)))) none):Ht Bool).bind fun j2=>cond j2 (cond (y4q x.2.2.2 x.1.length) (cond (Nat.ble (x.2.2.1.length+([(rdL u0g x.1 x.2.2.2.toNat)]:Hu u0g.den).length) z7w) (g (x.1,x.2.1,x.2.2.1++([(rdL u0g x.1 x.2.2.2.toNat)]:Hu u0g.den),IntKind.i64.wrap (x.2.2.2+1))) none) none) (g (x.1,x.2.1,x.2.2.1,IntKind.i64.wrap (x.2.2.2+1)))) none) (some (.inl (x.2.1,x.2.2.1)))
def u7l:=lpW _ _ t1q
theorem s52 x:u7l x=t1q u7l x:=zW s45 71 Tryz.f71 3 99 x (by kernel_rfl)
def u9t(g:o1k→Ht (o1n⊕Unit))(x:o1k):Ht (o1n⊕Unit):=cond (decide (x.2.2.2.2.2<(x.2.1.length:Int))) (cond (y4q x.2.2.2.2.2 x.2.1.length) (cond (y4q x.2.2.2.1 x.2.1.length) (cond (z7o (rdL u0g x.2.1 x.2.2.2.2.2.toNat).1 (rdL u0g x.2.1 x.2.2.2.1.toNat).1) (g (x.1,x.2.1,x.2.2.1,x.2.2.2.1,IntKind.i64.wrap (x.2.2.2.2.1+1),IntKind.i64.wrap (x.2.2.2.2.2+1))) (g (x.1,x.2.1,x.2.2.1,x.2.2.2.1,x.2.2.2.2.1,IntKind.i64.wrap (x.2.2.2.2.2+1)))) none) none) (some (.inl (x.1,x.2.1,x.2.2.1,x.2.2.2.1,x.2.2.2.2.1)))
def u54:=lpW _ _ u9t
theorem s2j x:u54 x=u9t u54 x:=zW s1u 71 Tryz.f71 14 99 x (by kernel_rfl)
def u9s(g:o1q→Ht (q0u⊕Unit))(x:o1q):Ht (q0u⊕Unit):=cond (decide (x.2.2.2<(x.2.1.length:Int))) ((u54 (x.1,x.2.1,x.2.2.1,x.2.2.2,0,0)).bind fun r5=>match r5 with | .inl o6=>(((cond (y4q o6.2.2.2.1 o6.2.1.length) (cond (!(rdL u0g o6.2.1 o6.2.2.2.1.toNat).2.2.1) (some true) (cond (y4q o6.2.2.2.1 o6.2.1.length) (cond (decide ((rdL u0g o6.2.1 o6.2.2.2.1.toNat).2.2.2>o6.1)) (some true) (some (decide (o6.2.2.2.2>1)))) none)) none):Ht Bool).bind fun j7=>cond j7 (cond (y4q o6.2.2.2.1 o6.2.1.length) (cond (Nat.ble (o6.2.2.1.length+([(rdL u0g o6.2.1 o6.2.2.2.1.toNat)]:Hu u0g.den).length) z7w) (g (o6.1,o6.2.1,o6.2.2.1++([(rdL u0g o6.2.1 o6.2.2.2.1.toNat)]:Hu u0g.den),IntKind.i64.wrap (o6.2.2.2.1+1))) none) none) (g (o6.1,o6.2.1,o6.2.2.1,IntKind.i64.wrap (o6.2.2.2.1+1)))) | .inr z8=>some (.inr ())) (some (.inl x.2.2.1))
def u93:=lpW _ _ u9s
theorem s2i x:u93 x=u9s u93 x:=zW s1t 71 Tryz.f71 10 99 x (by kernel_rfl)
def r0c (x:(q0u×Int)):Ht q0u:=(u7l (x.1,x.2,([]:Hu u0g.den),0)).bind fun r3=>match r3 with | .inl o4=>((u93 (o4.1,o4.2,([]:Hu u0g.den),0)).bind fun r9=>match r9 with | .inl o10=>some o10 | .inr z11=>none) | .inr z12=>none
theorem q1o:s0i=r0c:=zC 71 rfl Tryz.func71 (by kernel_rfl)
def t0e(x:Z63):Ht u8g:=zK 14 x
def t27(g:Z11→Ht (Z12⊕Unit))(x:Z11):Ht (Z12⊕Unit):=cond (decide (x.2.2.2.2<(x.1.2.1.length:Int))) (cond (y4q x.2.2.2.2 x.1.2.1.length) (cond (decide ((rdL u0a x.1.2.1 x.2.2.2.2.toNat).2.2.2.1>x.2.2.2.1)) (cond (y4q x.2.2.2.2 x.1.2.1.length) ((u0t (rdL u0a x.1.2.1 x.2.2.2.2.toNat)).bind fun y3=>cond (Nat.ble (x.2.2.1.2.1.length+([y3]:Hu u0a.den).length) z7w) (g (x.1,x.2.1,(x.2.2.1.1,x.2.2.1.2.1++([y3]:Hu u0a.den),x.2.2.1.2.2),x.2.2.2.1,IntKind.i64.wrap (x.2.2.2.2+1))) none) none) (g (x.1,x.2.1,x.2.2.1,x.2.2.2.1,IntKind.i64.wrap (x.2.2.2.2+1)))) none) (some (.inl (x.1,x.2.1,x.2.2.1,x.2.2.2.1)))
def t3d:=lpW _ _ t27
theorem s8w x:t3d x=t27 t3d x:=zW s75 14 Tryz.f14 5 47 x (by kernel_rfl)
def r3e (x:Z63):Ht u8g:=(u1z x.1).bind fun y1=>(t8a x).bind fun y2=>(t3d (x.1,(([]:Hu u0g.den),([]:Hu u0a.den),([]:Hu u0a.den),0,0),(y1.1,([]:Hu u0a.den),y1.2.2),y2,0)).bind fun r4=>match r4 with | .inl o5=>((s0i (o5.1.1,o5.2.2.2)).bind fun y6=>some (y6,o5.2.2.1.2)) | .inr z7=>none
theorem q4t:t0e=r3e:=zC 14 rfl Tryz.func14 (by kernel_rfl)
def u1r(x:Z91):Ht Int:=zK 307 x
def u65(g:Z80→Ht p7q)(x:Z80):Ht p7q:=cond (decide (x.2.2<(x.2.1.2.2.1.length:Int))) (cond (y4q x.2.2 x.2.1.2.2.1.length) (cond (z7o (rdL u0a x.2.1.2.2.1 x.2.2.toNat).2.2.2.2.2.2.2 x.1) (some (.inr x.2.2)) (g (x.1,x.2.1,IntKind.i64.wrap (x.2.2+1)))) none) (some (.inl ()))
def u7j:=lpW _ _ u65
theorem s5y x:u7j x=u65 u7j x:=zW s40 307 Tryz.f307 2 22 x (by kernel_rfl)
def s98 (x:Z91):Ht Int:=(u7j (x.2,x.1,0)).bind fun r1=>match r1 with | .inl o2=>some (- 1:Int) | .inr z3=>some z3
theorem q1k:u1r=s98:=zC 307 rfl Tryz.func307 (by kernel_rfl)
def u5l(x:o2f):Ht q0u:=zK 387 x
def u5r(g:Z81→Ht (Z81⊕Unit))(x:Z81):Ht (Z81⊕Unit):=((cond (decide (x.2.2.2.2.2.2<(x.2.2.1.length:Int))) (cond (y4q x.2.2.2.2.2.2 x.2.2.1.length) (cond (y3c (rdL u0g x.2.2.1 x.2.2.2.2.2.2.toNat).1 x.2.2.2.2.1.1) (some true) (cond (y4q x.2.2.2.2.2.2 x.2.2.1.length) (cond (z7o (rdL u0g x.2.2.1 x.2.2.2.2.2.2.toNat).1 x.2.2.2.2.1.1) (cond (y4q x.2.2.2.2.2.2 x.2.2.1.length) (some (decide ((rdL u0g x.2.2.1 x.2.2.2.2.2.2.toNat).2.2.2≤x.2.2.2.2.1.2.2.2))) none) (some false)) none)) none) (some false)):Ht Bool).bind fun j1=>cond j1 (cond (y4q x.2.2.2.2.2.2 x.2.2.1.length) (cond (Nat.ble (x.2.2.2.2.2.1.length+([(rdL u0g x.2.2.1 x.2.2.2.2.2.2.toNat)]:Hu u0g.den).length) z7w) (g (x.1,x.2.1,x.2.2.1,x.2.2.2.1,x.2.2.2.2.1,x.2.2.2.2.2.1++([(rdL u0g x.2.2.1 x.2.2.2.2.2.2.toNat)]:Hu u0g.den),IntKind.i64.wrap (x.2.2.2.2.2.2+1))) none) none) (some (.inl x))
def u31:=lpW _ _ u5r
theorem t6v x:u31 x=u5r u31 x:=zW t6m 387 Tryz.f387 8 93 x (by kernel_rfl)
def u5q(g:o1t→Ht (q0u⊕Unit))(x:o1t):Ht (q0u⊕Unit):=cond (decide (x.2.2.2<(x.1.length:Int))) (cond (y4q x.2.2.2 x.1.length) (cond (y4q x.2.2.2 x.1.length) (cond (y4q x.2.2.2 x.1.length) ((u31 (x.1,x.2.1,x.2.2.1,x.2.2.2,((rdL u2n x.1 x.2.2.2.toNat).1,(rdL u2n x.1 x.2.2.2.toNat).2.1,(rdL u2n x.1 x.2.2.2.toNat).2.2,x.2.1),([]:Hu u0g.den),0)).bind fun r2=>match r2 with | .inl o3=>cond (Nat.ble (o3.2.2.2.2.2.1.length+([o3.2.2.2.2.1]:Hu u0g.den).length) z7w) (cond (decide (0≤o3.2.2.2.2.2.2)&&decide (o3.2.2.2.2.2.2≤(o3.2.2.1.length:Int))&&decide ((o3.2.2.1.length:Int)≤(o3.2.2.1.length:Int))) (cond (Nat.ble ((o3.2.2.2.2.2.1++([o3.2.2.2.2.1]:Hu u0g.den)).length+((o3.2.2.1.take (o3.2.2.1.length:Int).toNat).drop o3.2.2.2.2.2.2.toNat).length) z7w) (g (o3.1,o3.2.1,(o3.2.2.2.2.2.1++([o3.2.2.2.2.1]:Hu u0g.den))++((o3.2.2.1.take (o3.2.2.1.length:Int).toNat).drop o3.2.2.2.2.2.2.toNat),IntKind.i64.wrap (o3.2.2.2.1+1))) none) none) none | .inr z4=>some (.inr ())) none) none) none) (some (.inl x.2.2.1))
def u5t:=lpW _ _ u5q
theorem t6u x:u5t x=u5q u5t x:=zW t6l 387 Tryz.f387 3 93 x (by kernel_rfl)
def t85 (x:o2f):Ht q0u:=cond (Nat.ble (([]:Hu u0g.den).length+x.1.length) z7w) ((u5t (x.2.1,x.2.2,([]:Hu u0g.den)++x.1,0)).bind fun r5=>match r5 with | .inl o6=>some o6 | .inr z7=>none) none
theorem r31:u5l=t85:=zC 387 rfl Tryz.func387 (by kernel_rfl)
def t5b(x:o2s):Ht Bool:=zK 330 x
def s91 (x:o2s):Ht Bool:=((cond (!y3c x.2 x.1.1) (some (y3c x.2 x.1.2||z7o x.2 x.1.2)) (some false)):Ht Bool).bind fun j1=>some j1
theorem q1d:t5b=s91:=zC 330 rfl Tryz.func330 (by kernel_rfl)
def s0h(x:o2t):Ht Bool:=zK 427 x
def t1p(g:o2a→Ht (p9e⊕Bool))(x:o2a):Ht (p9e⊕Bool):=cond (decide (x.2.2.2<(x.2.1.length:Int))) (cond (y4q x.2.2.1 x.1.length) (cond (y4q x.2.2.2 x.2.1.length) ((t5b (rdL q0z x.1 x.2.2.1.toNat,(rdL u2n x.2.1 x.2.2.2.toNat).1)).bind fun y1=>cond y1 (some (.inr true)) (g (x.1,x.2.1,x.2.2.1,IntKind.i64.wrap (x.2.2.2+1)))) none) none) (some (.inl (x.1,x.2.1,x.2.2.1)))
def u7k:=lpW _ _ t1p
theorem s51 x:u7k x=t1p u7k x:=zW s44 427 Tryz.f427 5 29 x (by kernel_rfl)
def t1o(g:p9e→Ht r2n)(x:p9e):Ht r2n:=cond (decide (x.2.2<(x.1.length:Int))) ((u7k (x.1,x.2.1,x.2.2,0)).bind fun r2=>match r2 with | .inl o3=>g (o3.1,o3.2.1,IntKind.i64.wrap (o3.2.2+1)) | .inr z4=>some (.inr z4)) (some (.inl ()))
def t16:=lpW _ _ t1o
theorem s50 x:t16 x=t1o t16 x:=zW s43 427 Tryz.f427 2 29 x (by kernel_rfl)
def r0b (x:o2t):Ht Bool:=(t16 (x.1,x.2,0)).bind fun r5=>match r5 with | .inl o6=>some false | .inr z7=>some z7
theorem q1n:s0h=r0b:=zC 427 rfl Tryz.func427 (by kernel_rfl)
def s23(x:Z46):Ht Bool:=zK 429 x
def r21 (x:Z46):Ht Bool:=cond (decide (x.1.1=x.2.1)) (some false) (((cond (decide (x.1.2.1=3)) (cond (decide (x.1.2.2.2.1≤x.2.2.2.1)) (some true) (cond (decide (x.2.2.1=3)) (some (decide (x.2.2.2.2.1≤x.1.2.2.1))) (some false))) (cond (decide (x.2.2.1=3)) (some (decide (x.2.2.2.2.1≤x.1.2.2.1))) (some false))):Ht Bool).bind fun j1=>cond j1 (some false) (some true))
theorem q4g:s23=r21:=zC 429 rfl Tryz.func429 (by kernel_rfl)
def u2a(x:Z46):Ht Bool:=zK 394 x
def r6f (x:Z46):Ht Bool:=(((s23 x).bind fun y1=>cond y1 ((s0h (x.1.2.2.2.2.1,x.2.2.2.2.2.2.1)).bind fun y2=>some y2) (some false)):Ht Bool).bind fun j3=>some j3
theorem q6y:u2a=r6f:=zC 394 rfl Tryz.func394 (by kernel_rfl)
def t5w(x:Z86):Ht Bool:=zK 393 x
def t4u(g:Z76→Ht r2n)(x:Z76):Ht r2n:=cond (decide (x.2.2<(x.1.length:Int))) (((cond (y4q x.2.2 x.1.length) (cond (decide ((rdL u0a x.1 x.2.2.toNat).2.1=3)) (cond (y4q x.2.2 x.1.length) ((u2a (x.2.1,rdL u0a x.1 x.2.2.toNat)).bind fun y1=>some y1) none) (some false)) none):Ht Bool).bind fun j2=>cond j2 (some (.inr true)) (g (x.1,x.2.1,IntKind.i64.wrap (x.2.2+1)))) (some (.inl ()))
def t41:=lpW _ _ t4u
theorem r1n x:t41 x=t4u t41 x:=zW r1c 393 Tryz.f393 2 26 x (by kernel_rfl)
def r6m (x:Z86):Ht Bool:=(t41 (x.2,x.1,0)).bind fun r3=>match r3 with | .inl o4=>some false | .inr z5=>some z5
theorem q65:t5w=r6m:=zC 393 rfl Tryz.func393 (by kernel_rfl)
def u4i(x:Z35):Ht u8g:=zK 333 x
def u9r(g:Z3→Ht (Z14⊕Unit))(x:Z3):Ht (Z14⊕Unit):=cond (decide (x.2.2.2.2.2<(x.1.2.2.1.length:Int))) (cond (y4q x.2.2.2.2.2 x.1.2.2.1.length) ((u0t (rdL u0a x.1.2.2.1 x.2.2.2.2.2.toNat)).bind fun y4=>cond (decide (y4.1=x.2.1.1)) (g (x.1,x.2.1,x.2.2.1,x.2.2.2.1,x.2.2.2.2.1,IntKind.i64.wrap (x.2.2.2.2.2+1))) ((u2a (y4,x.2.2.2.2.1)).bind fun y5=>cond y5 (cond (Nat.ble (x.2.2.2.1.2.2.1.length+([(y4.1,y4.2.1,y4.2.2.1,y4.2.2.2.1,y4.2.2.2.2.1,y4.2.2.2.2.2.1,true,y4.2.2.2.2.2.2.2)]:Hu u0a.den).length) z7w) (g (x.1,x.2.1,x.2.2.1,(x.2.2.2.1.1,x.2.2.2.1.2.1,x.2.2.2.1.2.2.1++([(y4.1,y4.2.1,y4.2.2.1,y4.2.2.2.1,y4.2.2.2.2.1,y4.2.2.2.2.2.1,true,y4.2.2.2.2.2.2.2)]:Hu u0a.den),x.2.2.2.1.2.2.2),x.2.2.2.2.1,IntKind.i64.wrap (x.2.2.2.2.2+1))) none) (cond (Nat.ble (x.2.2.2.1.2.2.1.length+([y4]:Hu u0a.den).length) z7w) (g (x.1,x.2.1,x.2.2.1,(x.2.2.2.1.1,x.2.2.2.1.2.1,x.2.2.2.1.2.2.1++([y4]:Hu u0a.den),x.2.2.2.1.2.2.2),x.2.2.2.2.1,IntKind.i64.wrap (x.2.2.2.2.2+1))) none))) none) (some (.inl (x.2.1,x.2.2.1,x.2.2.2.1)))
def u4o:=lpW _ _ u9r
theorem s2h x:u4o x=u9r u4o x:=zW s1s 333 Tryz.f333 12 85 x (by kernel_rfl)
def r0a (x:Z35):Ht u8g:=(u1z x.1).bind fun y1=>(u0t x.2).bind fun y2=>cond x.2.2.2.2.2.2.2.1 ((u5l (x.1.1,y2.2.2.2.2.2.1,IntKind.i64.wrap (x.1.2.2.2.1+1))).bind fun y3=>cond (Nat.ble (y1.2.1.length+([(y2.1,3,y2.2.2.1,IntKind.i64.wrap (x.1.2.2.2.1+1),y2.2.2.2.2.1,y2.2.2.2.2.2.1,true,(⟨#[]⟩:Hs))]:Hu u0a.den).length) z7w) ((u4o (x.1,x.2,(([]:Hu u0g.den),([]:Hu u0a.den),([]:Hu u0a.den),0,0),(y3,y1.2.1++([(y2.1,3,y2.2.2.1,IntKind.i64.wrap (x.1.2.2.2.1+1),y2.2.2.2.2.1,y2.2.2.2.2.2.1,true,(⟨#[]⟩:Hs))]:Hu u0a.den),([]:Hu u0a.den),IntKind.i64.wrap (x.1.2.2.2.1+1),y1.2.2.2.2),(y2.1,3,y2.2.2.1,IntKind.i64.wrap (x.1.2.2.2.1+1),y2.2.2.2.2.1,y2.2.2.2.2.2.1,true,(⟨#[]⟩:Hs)),0)).bind fun r6=>match r6 with | .inl o7=>cond (decide (o7.1.1≥o7.2.2.2.2.2.2)) (some (o7.2.2.1,o7.2.2.2.1,o7.2.2.2.2.1,o7.2.2.2.2.2.1,IntKind.i64.wrap (o7.1.1+1))) (some o7.2.2) | .inr z8=>none) none) ((t5w (x.2,x.1.2.1)).bind fun y9=>(u5l (x.1.1,y2.2.2.2.2.2.1,IntKind.i64.wrap (x.1.2.2.2.1+1))).bind fun y10=>cond (Nat.ble (y1.2.1.length+([(y2.1,3,y2.2.2.1,IntKind.i64.wrap (x.1.2.2.2.1+1),y2.2.2.2.2.1,y2.2.2.2.2.2.1,y9,(⟨#[]⟩:Hs))]:Hu u0a.den).length) z7w) ((u4o (x.1,x.2,(([]:Hu u0g.den),([]:Hu u0a.den),([]:Hu u0a.den),0,0),(y10,y1.2.1++([(y2.1,3,y2.2.2.1,IntKind.i64.wrap (x.1.2.2.2.1+1),y2.2.2.2.2.1,y2.2.2.2.2.2.1,y9,(⟨#[]⟩:Hs))]:Hu u0a.den),([]:Hu u0a.den),IntKind.i64.wrap (x.1.2.2.2.1+1),y1.2.2.2.2),(y2.1,3,y2.2.2.1,IntKind.i64.wrap (x.1.2.2.2.1+1),y2.2.2.2.2.1,y2.2.2.2.2.2.1,y9,(⟨#[]⟩:Hs)),0)).bind fun r13=>match r13 with | .inl o14=>cond (decide (o14.1.1≥o14.2.2.2.2.2.2)) (some (o14.2.2.1,o14.2.2.2.1,o14.2.2.2.2.1,o14.2.2.2.2.2.1,IntKind.i64.wrap (o14.1.1+1))) (some o14.2.2) | .inr z15=>none) none)
theorem q1m:u4i=r0a:=zC 333 rfl Tryz.func333 (by kernel_rfl)
def t5a(x:Z91):Ht u8g:=zK 334 x
def t1h(g:Z10→Ht (Z28⊕Unit))(x:Z10):Ht (Z28⊕Unit):=cond (decide (x.2.2.2.2<(x.2.1.2.2.1.length:Int))) (cond (y4q x.2.2.2.2 x.2.1.2.2.1.length) (cond (!z7o (rdL u0a x.2.1.2.2.1 x.2.2.2.2.toNat).2.2.2.2.2.2.2 x.1) (cond (y4q x.2.2.2.2 x.2.1.2.2.1.length) ((u0t (rdL u0a x.2.1.2.2.1 x.2.2.2.2.toNat)).bind fun y2=>cond (Nat.ble (x.2.2.2.1.2.2.1.length+([y2]:Hu u0a.den).length) z7w) (g (x.1,x.2.1,x.2.2.1,(x.2.2.2.1.1,x.2.2.2.1.2.1,x.2.2.2.1.2.2.1++([y2]:Hu u0a.den),x.2.2.2.1.2.2.2),IntKind.i64.wrap (x.2.2.2.2+1))) none) none) (g (x.1,x.2.1,x.2.2.1,x.2.2.2.1,IntKind.i64.wrap (x.2.2.2.2+1)))) none) (some (.inl (x.2.2.1,x.2.2.2.1)))
def u7g:=lpW _ _ t1h
theorem s5s x:u7g x=t1h u7g x:=zW s4u 334 Tryz.f334 4 38 x (by kernel_rfl)
def s90 (x:Z91):Ht u8g:=(u1z x.1).bind fun y1=>(u7g (x.2,x.1,(([]:Hu u0g.den),([]:Hu u0a.den),([]:Hu u0a.den),0,0),(y1.1,y1.2.1,([]:Hu u0a.den),y1.2.2.2),0)).bind fun r3=>match r3 with | .inl o4=>some o4.2 | .inr z5=>none
theorem q1c:t5a=s90:=zC 334 rfl Tryz.func334 (by kernel_rfl)
def u3z(x:Z31):Ht u8g:=zK 346 x
def u75(g:Z1→Ht (Z2⊕Unit))(x:Z1):Ht (Z2⊕Unit):=cond (decide (x.2.2.2.2.2.2<(x.2.1.2.2.1.length:Int))) (cond (y4q x.2.2.2.2.2.2 x.2.1.2.2.1.length) (cond (y3c (rdL u0a x.2.1.2.2.1 x.2.2.2.2.2.2.toNat).2.2.2.2.2.2.2 x.1) (cond (y4q x.2.2.2.2.2.2 x.2.1.2.2.1.length) ((u0t (rdL u0a x.2.1.2.2.1 x.2.2.2.2.2.2.toNat)).bind fun y3=>cond (Nat.ble (x.2.2.2.2.1.2.2.1.length+([y3]:Hu u0a.den).length) z7w) (g (x.1,x.2.1,x.2.2.1,x.2.2.2.1,(x.2.2.2.2.1.1,x.2.2.2.2.1.2.1,x.2.2.2.2.1.2.2.1++([y3]:Hu u0a.den),x.2.2.2.2.1.2.2.2),x.2.2.2.2.2.1,IntKind.i64.wrap (x.2.2.2.2.2.2+1))) none) none) (g (x.1,x.2.1,x.2.2.1,x.2.2.2.1,x.2.2.2.2.1,x.2.2.2.2.2.1,IntKind.i64.wrap (x.2.2.2.2.2.2+1)))) none) (some (.inl (x.1,x.2.1,x.2.2.1,x.2.2.2.1,x.2.2.2.2.1,x.2.2.2.2.2.1)))
def u3m:=lpW _ _ u75
theorem t91 x:u3m x=u75 u3m x:=zW t9i 346 Tryz.f346 8 97 x (by kernel_rfl)
def u6n(g:Z5→Ht (Z14⊕Unit))(x:Z5):Ht (Z14⊕Unit):=cond (decide (x.2.2.2.2.2<(x.2.1.2.2.1.length:Int))) (cond (y4q x.2.2.2.2.2 x.2.1.2.2.1.length) (cond (!y3c (rdL u0a x.2.1.2.2.1 x.2.2.2.2.2.toNat).2.2.2.2.2.2.2 x.1) (cond (y4q x.2.2.2.2.2 x.2.1.2.2.1.length) ((u0t (rdL u0a x.2.1.2.2.1 x.2.2.2.2.2.toNat)).bind fun y6=>cond (Nat.ble (x.2.2.2.2.1.2.2.1.length+([y6]:Hu u0a.den).length) z7w) (g (x.1,x.2.1,x.2.2.1,x.2.2.2.1,(x.2.2.2.2.1.1,x.2.2.2.2.1.2.1,x.2.2.2.2.1.2.2.1++([y6]:Hu u0a.den),x.2.2.2.2.1.2.2.2),IntKind.i64.wrap (x.2.2.2.2.2+1))) none) none) (g (x.1,x.2.1,x.2.2.1,x.2.2.2.1,x.2.2.2.2.1,IntKind.i64.wrap (x.2.2.2.2.2+1)))) none) (some (.inl (x.2.2.1,x.2.2.2.1,x.2.2.2.2.1)))
def u26:=lpW _ _ u6n
theorem t8o x:u26 x=u6n u26 x:=zW t7u 346 Tryz.f346 14 97 x (by kernel_rfl)
def s31 (x:Z31):Ht u8g:=(u1z x.1).bind fun y1=>(u0t x.2.1).bind fun y2=>cond x.2.1.2.2.2.2.2.2.1 ((u3m (x.2.2,x.1,x.2.1,(([]:Hu u0g.den),([]:Hu u0a.den),([]:Hu u0a.den),0,0),(y1.1,y1.2.1,([]:Hu u0a.den),y1.2.2.2),(y2.1,2,y2.2.2.1,y2.2.2.2.1,y2.2.2.2.2.1,y2.2.2.2.2.2.1,true,x.2.2),0)).bind fun r4=>match r4 with | .inl o5=>cond (Nat.ble (o5.2.2.2.2.1.2.2.1.length+([o5.2.2.2.2.2]:Hu u0a.den).length) z7w) ((u26 (o5.1,o5.2.1,o5.2.2.1,o5.2.2.2.1,(o5.2.2.2.2.1.1,o5.2.2.2.2.1.2.1,o5.2.2.2.2.1.2.2.1++([o5.2.2.2.2.2]:Hu u0a.den),o5.2.2.2.2.1.2.2.2),0)).bind fun r7=>match r7 with | .inl o8=>cond (decide (o8.1.1≥o8.2.2.2.2.2.2)) (some (o8.2.2.1,o8.2.2.2.1,o8.2.2.2.2.1,o8.2.2.2.2.2.1,IntKind.i64.wrap (o8.1.1+1))) (some o8.2.2) | .inr z9=>none) none | .inr z10=>none) ((t5w (x.2.1,x.1.2.1)).bind fun y11=>(u3m (x.2.2,x.1,x.2.1,(([]:Hu u0g.den),([]:Hu u0a.den),([]:Hu u0a.den),0,0),(y1.1,y1.2.1,([]:Hu u0a.den),y1.2.2.2),(y2.1,2,y2.2.2.1,y2.2.2.2.1,y2.2.2.2.2.1,y2.2.2.2.2.2.1,y11,x.2.2),0)).bind fun r13=>match r13 with | .inl o14=>cond (Nat.ble (o14.2.2.2.2.1.2.2.1.length+([o14.2.2.2.2.2]:Hu u0a.den).length) z7w) ((u26 (o14.1,o14.2.1,o14.2.2.1,o14.2.2.2.1,(o14.2.2.2.2.1.1,o14.2.2.2.2.1.2.1,o14.2.2.2.2.1.2.2.1++([o14.2.2.2.2.2]:Hu u0a.den),o14.2.2.2.2.1.2.2.2),0)).bind fun r16=>match r16 with | .inl o17=>cond (decide (o17.1.1≥o17.2.2.2.2.2.2)) (some (o17.2.2.1,o17.2.2.2.1,o17.2.2.2.2.1,o17.2.2.2.2.2.1,IntKind.i64.wrap (o17.1.1+1))) (some o17.2.2) | .inr z18=>none) none | .inr z19=>none)
theorem r7r:u3z=s31:=zC 346 rfl Tryz.func346 (by kernel_rfl)
def s0n(x:Z13):Ht Z95:=zK 258 x
def r0t (x:Z13):Ht Z95:=cond (decide (x.2.1=1)) (cond (!decide (x.2.2.1.2.2.2.1=(IntKind.i64.wrap (x.1.2.2.2.1+1)))) (some (x.1,false)) ((u4i (x.1,x.2.2.1)).bind fun y1=>some (y1,true))) (cond (decide (x.2.1=2)) (((cond (decide ((x.1.2.2.1.length:Int)≥(3:Int))) (some true) ((u1r (x.1,x.2.2.1.2.2.2.2.2.2.2)).bind fun y2=>some (decide (y2≥0)))):Ht Bool).bind fun j3=>cond j3 (some (x.1,false)) ((u3z (x.1,x.2.2.1,x.2.2.1.2.2.2.2.2.2.2)).bind fun y4=>some (y4,true))) (cond (decide (x.2.1=3)) ((u1r (x.1,x.2.2.2.1)).bind fun y5=>cond (decide (y5<0)) (some (x.1,false)) (cond x.2.2.2.2.1 (cond (y4q y5 x.1.2.2.1.length) ((u4i (x.1,rdL u0a x.1.2.2.1 y5.toNat)).bind fun y6=>some (y6,true)) none) ((t5a (x.1,x.2.2.2.1)).bind fun y7=>some (y7,true)))) ((u1z x.2.2.2.2.2).bind fun y8=>some (y8,true))))
theorem q14:s0n=r0t:=zC 258 rfl Tryz.func258 (by kernel_rfl)
def s28(x:Z13):Ht Z95:=zK 153 x
def r3a (x:Z13):Ht Z95:=(((u2l x.1).bind fun y1=>cond (!y1) (some true) ((u89 x.2).bind fun y2=>some (!y2))):Ht Bool).bind fun j3=>cond j3 ((u1z x.1).bind fun y4=>some (y4,false)) ((s0n x).bind fun y5=>cond (!y5.2) ((u1z x.1).bind fun y6=>some (y6,false)) ((t0e (y5.1,([]:Hu u0a.den))).bind fun y7=>(u2l y7).bind fun y8=>cond (!y8) ((u1z x.1).bind fun y9=>some (y9,false)) (some (y7,true))))
theorem q4p:s28=r3a:=zC 153 rfl Tryz.func153 (by kernel_rfl)
def t5c(x:t8u):Ht Z95:=zK 50 x
def t1k(g:Z21→Ht (Z28⊕Z95))(x:Z21):Ht (Z28⊕Z95):=cond (decide (x.2.2.2<(x.2.2.1.length:Int))) (cond (y4q x.2.2.2 x.2.2.1.length) ((t0c (rdL Ty.str x.2.2.1 x.2.2.2.toNat)).bind fun y3=>(s28 (x.2.1,y3.1)).bind fun y4=>((cond (!y3.2) (some true) (some (!y4.2))):Ht Bool).bind fun j5=>cond j5 (some (.inr ((([]:Hu u0g.den),([]:Hu u0a.den),([]:Hu u0a.den),0,0),false))) (g (x.1,y4.1,x.2.2.1,IntKind.i64.wrap (x.2.2.2+1)))) none) (some (.inl (x.1,x.2.1)))
def u3w:=lpW _ _ t1k
theorem s5v x:u3w x=t1k u3w x:=zW s4x 50 Tryz.f50 4 43 x (by kernel_rfl)
def s93 (x:t8u):Ht Z95:=(s0c ()).bind fun y1=>(t79 x).bind fun y2=>(u3w ((([]:Hu u0g.den),([]:Hu u0a.den),([]:Hu u0a.den),0,0),y1,y2,0)).bind fun r6=>match r6 with | .inl o7=>some (o7.2,true) | .inr z8=>some z8
theorem q1f:t5c=s93:=zC 50 rfl Tryz.func50 (by kernel_rfl)
end
end Go.Proofs.YtkdpclfhapphhaaGreat.Ab
