import Derived.Test.YtdeadnnhblaflaaGreatDoorAbK2
import Derived.Test.YtdeadnnhblaflaaGreatDoorAbF4
import Derived.Test.YtdeadnnhblaflaaGreatDoorAbS4
import Derived.KernelRfl
import Derived.Test.YtdeadnnhblaflaaGreatDoorProg
namespace Go.Proofs.YtdeadnnhblaflaaGreatDoor.Ab
open Go
set_option linter.unusedVariables false
noncomputable section
abbrev o5x:Ty:=(.pair .bool (.int .i64))
abbrev p9x:Ty:=(.pair .str o5x)
abbrev u0m:Ty:=(.pair .str p9x)
abbrev s11:Ty:=(.pair .str .str)
abbrev o50:Ty:=(.pair .str .bool)
abbrev u36:Ty:=(.pair .str o50)
abbrev o5y:Ty:=(.pair .bool .str)
abbrev q7y:Ty:=(.pair (.sl u36) o5y)
abbrev r5h:Ty:=(.pair (.sl s11) q7y)
abbrev r0h:Ty:=(.pair (.int .i64) r5h)
abbrev s7d:Ty:=(.pair (.int .i64) r0h)
abbrev s4h:Ty:=(.pair (.int .i64) s7d)
abbrev u0a:Ty:=(.pair (.int .i64) s4h)
abbrev r0c:Ty:=(.pair (.int .i64) .str)
abbrev o2y:Ty:=(.pair .str (.sl (.int .i64)))
abbrev p71:Ty:=(.pair .str o2y)
abbrev p2r:Ty:=(.pair (.int .i64) p71)
abbrev t2s:Ty:=(.pair (.int .i64) p2r)
abbrev o3t:Ty:=(.pair (.int .i64) (.int .i64))
abbrev t4l:Ty:=(.pair (.sl u0a) o3t)
abbrev p2e:Ty:=(.pair (.sl u0a) t4l)
abbrev r6v:Ty:=(.pair (.sl u0m) p2e)
abbrev q47:Ty:=(.pair r6v (.sl u0a))
abbrev q9a:Ty:=(.pair (.sl .str) (.sl r0c))
abbrev q46:Ty:=(.pair q47 q9a)
abbrev p9w:Ty:=(.pair (.sl (.int .i64)) (.sl .str))
abbrev p19:Ty:=(.pair (.sl u0a) p9w)
abbrev p2d:Ty:=(.pair q46 p19)
abbrev p70:Ty:=(.pair (.sl (.int .u8)) o3t)
abbrev p2a:Ty:=(.pair .bool r6v)
abbrev p2f:Ty:=(.pair .str p2a)
abbrev p2c:Ty:=(.pair u0a p2f)
abbrev p2b:Ty:=(.pair (.int .i64) p2c)
abbrev o5z:Ty:=(.pair (.int .i64) .bool)
abbrev p9y:Ty:=(.pair .str o5z)
abbrev t04:=((Hu Hs)×(Hu r0c.den))
abbrev o1v:=((Hu s11.den)×(Hs×Int))
abbrev o1u:=((Hs×Hs)×Hs)
abbrev o5f:=((Hu s11.den)×(Hu u36.den))
abbrev o5e:=((Hu u36.den)×(Hu u36.den))
abbrev p73:=(Hs×((Hu Int)×(Int×Int)))
abbrev o5d:=(Hs×(Hs×(Int×Bool)))
abbrev p65:=((Hu u0m.den)×(Hs×Int))
abbrev o5c:=(Hs×(Int×(Int×(Int×Int))))
abbrev o1t:=(((Hu Int)×(Int×Int))×(Hu Int))
abbrev o5b:=(Int×t04)
abbrev q7o:=(t04×Int)
abbrev o1s:=((Hu s11.den)×((Hu u36.den)×Int))
abbrev o5a:=(Hs×((Hu s11.den)×(Int×Int)))
abbrev o49:=((Hu Hs)×((Hu Hs)×Int))
abbrev r3f:=(t04×Bool)
abbrev o48:=((Hu s11.den)×((Hu Int)×(Int×Int)))
abbrev o47:=(((Hu Int)×(Int×Int))×(Hu s11.den))
abbrev o46:=(((Hu Int)×(Int×Int))×(Hu Hs))
abbrev o1r:=((Hu u36.den)×((Hu u36.den)×Int))
abbrev o22:=((Hu u0m.den)×(Hs×Hs))
abbrev o45:=((Hu u36.den)×((Hu Int)×(Int×Int)))
abbrev o44:=(((Hu Int)×(Int×Int))×(Hu u36.den))
abbrev o43:=((Hu u0m.den)×((Hu u36.den)×Int))
abbrev o42:=(t04×Hs)
abbrev o1q:=((Hu u0m.den)×((Hu Int)×(Int×Int)))
abbrev o41:=(((Hu Int)×(Int×Int))×(Hu u0m.den))
abbrev o1p:=((Hu u0a.den)×(Int×Int))
abbrev o40:=(Int×q7o)
abbrev p96:=(t04×(Int×Int))
abbrev o4z:=((Hu s11.den)×((Hu u36.den)×(Int×Int)))
abbrev o4y:=((Hs×Hs)×((Hu Int)×(Int×Int)))
abbrev o1o:=(Int×(Int×(Hs×(Hs×(Hu Int)))))
abbrev o4x:=((Hu u36.den)×(Hs×(Hs×Bool)))
abbrev o4w:=(((Hu Int)×(Int×Int))×((Hu s11.den)×Int))
abbrev o4v:=((Hu u36.den)×((Hu u36.den)×(Int×Int)))
abbrev o1n:=((Hu u0m.den)×((Hs×Hs)×Int))
abbrev o4u:=(((Hu Int)×(Int×Int))×((Hu u36.den)×Int))
abbrev o4t:=((Hu Hs)×((Hu u0m.den)×(Int×Int)))
abbrev o4s:=((Hu u0a.den)×(Hs×Int))
abbrev o4r:=((Hu u0m.den)×(Hs×(Int×(Int×Int))))
abbrev o4q:=(((Hu Int)×(Int×Int))×(Int×((Hu Int)×Int)))
abbrev o4p:=((Hu u36.den)×(Int×((Hu u0m.den)×Int)))
abbrev o1m:=(t04×(Hu Hs))
abbrev p64:=(t04×(Int×Hs))
abbrev o4o:=(((Hu Int)×(Int×Int))×((Hu u0m.den)×Int))
abbrev o4n:=((Hu u0m.den)×(Int×((Hu u0m.den)×Int)))
abbrev o4m:=(t04×((Hu Int)×Int))
abbrev o4l:=(Int×((Hu u0m.den)×((Hu u0m.den)×Int)))
abbrev o1l:=((Hs×(Hs×Bool))×((Hu Int)×(Int×Int)))
abbrev o4k:=(t04×(Int×(Int×Hs)))
abbrev o4j:=((Hu u0a.den)×(Hs×(Int×Bool)))
abbrev o1k:=((Hs×(Int×Bool))×(Hu u0a.den))
abbrev o1j:=(t04×((Hu Int)×(Int×Int)))
abbrev o4i:=(Int×((Hu u0m.den)×((Hu u0m.den)×(Int×Int))))
abbrev o4h:=(Int×(Int×(t04×(Hs×Int))))
abbrev o4g:=(Int×((Hu u0m.den)×((Hu u0m.den)×(Int×(Int×Int)))))
abbrev o4f:=((Hu u36.den)×((Hs×(Hs×Bool))×(Hu u36.den)))
abbrev o4e:=((Hu u0m.den)×(Int×((Hu s11.den)×((Hu Hs)×Int))))
abbrev o4d:=((Hu u0m.den)×((Hs×Hs)×((Hu Hs)×Int)))
abbrev o4c:=((Hu u0m.den)×((Hs×Hs)×(Int×(Hu Hs))))
abbrev p88:=(t04×t04)
abbrev o4b:=(t04×(Hs×(Int×((Hu Int)×Int))))
abbrev o4a:=((Hu u0a.den)×((Hu u0a.den)×Int))
abbrev o1i:=((Hu u36.den)×((Hs×(Hs×Bool))×((Hu u36.den)×Int)))
abbrev o1h:=(((Hu Int)×(Int×Int))×(Int×((Hu t2s.den)×(Int×(Hu Int)))))
abbrev o39:=(t04×r3f)
abbrev o38:=((Hu u0m.den)×(Hs×(Int×(Int×((Hu u0m.den)×(Int×Int))))))
abbrev o36:=((Hs×(Int×Bool))×(Int×o1p))
abbrev t6b:=(Int×(Int×(Int×(Int×((Hu s11.den)×((Hu u36.den)×(Bool×Hs)))))))
abbrev o35:=(Int×(t04×q7o))
abbrev o34:=(t04×o1o)
abbrev p4y:=(t6b×Int)
abbrev p87:=(t6b×Bool)
abbrev p95:=(t6b×Hs)
abbrev o33:=(((Hu Int)×(Int×Int))×p88)
abbrev o32:=(t6b×(Int×Bool))
abbrev o31:=((Hu u0m.den)×((Hs×Hs)×((Hu Hs)×(Int×(Hs×(Hu Hs))))))
abbrev o30:=((Hu u0m.den)×(Int×((Hs×Hs)×((Hu s11.den)×((Hu Hs)×(Int×Int))))))
abbrev o1g:=(t6b×(Hs×Int))
abbrev t1m:=((Hu u0m.den)×((Hu u0a.den)×o1p))
abbrev o3z:=(((Hu Int)×(Int×Int))×(Int×((Hu t2s.den)×(Int×((Hu Int)×(Int×((Hu Int)×Int)))))))
abbrev o3y:=(Int×(t04×((Hu Hs)×(Hs×((Hu Hs)×(Int×Int))))))
abbrev o3x:=(((Hu Int)×(Int×Int))×(t04×q7o))
abbrev o1f:=((Hu u0m.den)×((Hs×Hs)×((Hu Hs)×(Int×(Hs×((Hu Hs)×Int))))))
abbrev o3w:=(t6b×(Hs×Hs))
abbrev o3v:=((Hu Hs)×(t04×(Int×(t04×(Bool×Int)))))
abbrev o1e:=(t6b×((Hu Int)×(Int×Int)))
abbrev p94:=(t1m×Int)
abbrev p63:=(t1m×Bool)
abbrev Z99:=(t04×(t04×q7o))
abbrev Z98:=(t6b×(Hs×(Hs×Bool)))
abbrev Z97:=(t1m×Hs)
abbrev Z96:=(t6b×((Hu u0m.den)×Hs))
abbrev Z95:=(t1m×(Hu Int))
abbrev Z94:=((Hu u0m.den)×(Hs×t6b))
abbrev Z93:=(t1m×(Int×Bool))
abbrev Z92:=(t6b×(Hu u0a.den))
abbrev Z91:=((Hu u36.den)×(Int×((Hu u0m.den)×(Int×((Hs×(Hs×(Bool×Int)))×((Hu u0m.den)×Int))))))
abbrev Z90:=(t1m×(Hs×Int))
abbrev Z89:=(Hs×p94)
abbrev Z88:=((Hu u0m.den)×(Hs×p4y))
abbrev Z87:=(t1m×((Hu Int)×Int))
abbrev Z86:=((Hu u0a.den)×p4y)
abbrev Z85:=(t6b×o22)
abbrev Z84:=(t1m×((Hu Int)×(Int×Int)))
abbrev Z83:=((Hu Int)×(Int×Z99))
abbrev Z82:=((Hu u0a.den)×(t6b×(Bool×Int)))
abbrev Z81:=(t1m×(Hu u0a.den))
abbrev Z80:=(Int×(Int×(Hs×Z99)))
abbrev Z79:=((Hu Int)×(Int×(t04×(t04×p96))))
abbrev Z78:=((Hu Int)×(t04×(t04×(t04×(Int×(Int×Int))))))
abbrev Z77:=(Z81×Int)
abbrev Z76:=((Hu u0m.den)×(t6b×((Hu s11.den)×((Hu Hs)×Int))))
abbrev Z75:=((Hu u0m.den)×(t6b×((Hs×Hs)×(Hu u0m.den))))
abbrev Z74:=(Int×Z77)
abbrev Z73:=(Z81×(Int×Int))
abbrev Z72:=((Hu u0m.den)×(t6b×((Hs×Hs)×((Hu u0m.den)×Int))))
abbrev Z71:=(Z81×(Int×Hs))
abbrev Z70:=(Z81×(Hs×Bool))
abbrev Z69:=(Z81×((Hu s11.den)×Int))
abbrev Z68:=(Z81×(Hs×(Bool×Int)))
abbrev Z67:=(((Hu Int)×(Int×Int))×Z81)
abbrev Z66:=(Z81×((Hu Int)×(Int×Int)))
abbrev Z65:=(t6b×t6b)
abbrev Z64:=(Z81×(Int×(Hs×Hs)))
abbrev Z63:=(Z81×(Hu u0a.den))
abbrev Z62:=(Z81×t04)
abbrev Z61:=(Z81×(Int×(Hs×(Hs×Bool))))
abbrev Z60:=(Z62×Int)
abbrev Z59:=(Int×Z62)
abbrev Z58:=(Bool×Z62)
abbrev Z57:=(Z62×Bool)
abbrev Z56:=(Z81×(Int×((Hu u0a.den)×Int)))
abbrev Z55:=(t1m×t6b)
abbrev Z54:=(Z62×(Int×Hs))
abbrev Z53:=(Z62×(Hs×Bool))
abbrev Z52:=(t6b×((Hs×(Int×Bool))×t6b))
abbrev Z51:=(t1m×p95)
abbrev Z50:=(Z62×((Hu Int)×(Int×Int)))
abbrev Z49:=(((Hu Int)×(Int×Int))×Z62)
abbrev Z48:=(t1m×t1m)
abbrev Z47:=(t6b×((Hs×(Int×Bool))×(t6b×(Int×Int))))
abbrev Z46:=(Int×(t6b×(Hs×(Bool×t1m))))
abbrev Z45:=((Hu u0a.den)×(t6b×(Int×p4y)))
abbrev Z44:=(Z46×Bool)
abbrev Z43:=((Hu u0a.den)×(t6b×(Bool×(Int×p4y))))
abbrev Z42:=(Z81×(Int×t6b))
abbrev Z41:=(t1m×(t1m×((Hu Hs)×Int)))
abbrev Z40:=(t1m×((Hs×(Int×Bool))×t1m))
abbrev Z39:=(Z81×(Int×p4y))
abbrev Z38:=(Z62×((Hu u0a.den)×((Hu Int)×(Hu Hs))))
abbrev Z37:=(Z38×Int)
abbrev Z36:=(Int×Z38)
abbrev Z35:=(Z38×Bool)
abbrev Z34:=(Bool×Z38)
abbrev Z33:=(t1m×((Hs×(Int×Bool))×(t1m×(Int×Int))))
abbrev Z32:=(Z38×Hs)
abbrev Z31:=(Z38×(Int×Hs))
abbrev Z30:=(Z38×(Hs×Int))
abbrev Z29:=(Int×(Hs×Z38))
abbrev Z28:=(Z38×(Hs×Bool))
abbrev Z27:=((Hu t2s.den)×Z35)
abbrev Z26:=(t6b×((Hs×Hs)×Z65))
abbrev Z25:=((Hu t2s.den)×(Z38×(Bool×Int)))
abbrev Z24:=(Z38×p73)
abbrev Z23:=(t6b×((Hs×Hs)×(t6b×p4y)))
abbrev Z22:=(Z38×o1o)
abbrev Z21:=(t6b×Z48)
abbrev Z20:=(((Hu Int)×(Int×Int))×(Z81×Z81))
abbrev Z19:=(((Hu Int)×(Int×Int))×(Z81×(Int×Z81)))
abbrev Z18:=(t1m×(t1m×p94))
abbrev Z17:=(t1m×Z46)
abbrev Z16:=(t1m×(t1m×(t1m×(Int×Int))))
abbrev Z15:=(Hs×Z18)
abbrev Z14:=(Z38×(Int×t6b))
abbrev Z13:=(Z81×(Z46×Int))
abbrev Z12:=(((Hu Int)×(Int×Int))×(Z62×Z62))
abbrev Z11:=(Z62×Z46)
abbrev Z10:=(((Hu Int)×(Int×Int))×(Int×(Z62×Z60)))
abbrev Z9:=((Hu Int)×(((Hu u0m.den)×((Hu u0a.den)×((Hu u0a.den)×(Int×(Int×((Hu u0a.den)×((Hu Hs)×((Hu r0c.den)×((Hu u0a.den)×((Hu Int)×(Hu Hs)))))))))))×(Hs×(Hs×Z90))))
abbrev Z8:=((Hu Int)×(Z38×(Hs×(Hs×(t1m×(Hs×(Int×Int)))))))
abbrev Z7:=(Hs×(t1m×(t6b×(t1m×p94))))
abbrev Z6:=(Z38×Z46)
abbrev Z5:=(Z38×Z38)
abbrev Z4:=(t1m×(t6b×(t1m×(t1m×p4y))))
abbrev Z3:=(Hs×(t1m×(t6b×(t1m×Z55))))
abbrev Z2:=(Hs×Z4)
abbrev Z1:=((Hu t2s.den)×(Z38×Z37))
def o5o:Tabs where
 ty:= [(3,(.int .i64)),(5,(.int .u8)),(9, .str),(28,(.sl .str)),(36,(.sl u0m)),(37,(.sl u0a)),(39,r6v),(41,q47),(42,(.sl r0c)),(44,q9a),(46,q46),(50,(.sl (.int .i64))),(56,p2d),(60,(.sl (.int .u8))),(64,(.sl s11)),(67,s11),(88,s11),(111,(.sl s11)),(112,(.sl u36)),(114,u0a),(119,(.sl t2s)),(122,u0m),(130,p70),(138,r0c),(151,t2s),(175,u36),(239,(.int .u32)),(259,p2b),(310,p9y)]
 lay:= [(3,1,false),(4,1,false),(5,1,false),(9,1,false),(28,1,false),(36,1,false),(37,1,false),(39,5,true),(41,6,true),(42,1,false),(44,2,true),(46,8,true),(50,1,false),(56,11,true),(60,1,false),(67,2,true),(88,2,true),(111,1,false),(112,1,false),(114,8,true),(122,4,true),(138,2,true),(151,5,true),(175,3,true),(259,16,true)]
 fld:= [(39, [(0,1,false),(1,1,false),(2,1,false),(3,1,false),(4,1,false)]),(41, [(0,5,true),(5,1,false)]),(44, [(0,1,false),(1,1,false)]),(46, [(0,6,true),(6,2,true)]),(56, [(0,8,true),(8,1,false),(9,1,false),(10,1,false)]),(67, [(0,1,false),(1,1,false)]),(88, [(0,1,false),(1,1,false)]),(114, [(0,1,false),(1,1,false),(2,1,false),(3,1,false),(4,1,false),(5,1,false),(6,1,false),(7,1,false)]),(122, [(0,1,false),(1,1,false),(2,1,false),(3,1,false)]),(130, [(0,1,false),(1,1,false),(2,1,false)]),(138, [(0,1,false),(1,1,false)]),(151, [(0,1,false),(1,1,false),(2,1,false),(3,1,false),(4,1,false)]),(175, [(0,1,false),(1,1,false),(2,1,false)]),(259, [(0,1,false),(1,8,true),(9,1,false),(10,1,false),(11,5,true)]),(310, [(0,1,false),(1,1,false),(2,1,false)])]
 eqs:= [(67, [.s, .s])]
abbrev zL (a:Hu Nat) (s:Sh) (n:Nat) (b:Hu Nat) (t:Sh) (c:Hu Nat) (u:Sh):LoopA:=⟨⟨a,s, []⟩,n,⟨b,t, []⟩,⟨c,u, []⟩⟩
def zS (i o:Sh) (n:Nat:=1) (b:Hu Bool:= []):Sig:=⟨i,b,o,n⟩
abbrev o05:Ty:=.int .i64
abbrev p7j:Ty:=.int .u8
abbrev u1g:Sh:=.int .i64
abbrev q7k:Sh:=.tr false u0a
abbrev r25:Sh:=.tr false u0m
abbrev r4b:Sh:=.pair u1g u1g
abbrev o2e:Sh:=.pair r25 (.pair q7k (.pair q7k r4b))
abbrev q4z:Sh:=.pair .str .bool
abbrev p7o:Sh:=.tr true u0a
abbrev q7l:Sh:=.tr false u36
abbrev o5q:Sh:=.pair .str .str
abbrev p85:Sh:=.pair o2e q7k
abbrev p1z:Sh:=.own true u0a
abbrev q7m:Sh:=.pair .str u1g
abbrev p4i:Sh:=.own true u0m
abbrev o06:Sh:=.pair p4i (.pair p1z (.pair p1z r4b))
abbrev o3k:Sh:=.pair o06 p1z
abbrev q1c:Sh:=.own true .str
abbrev o3j:Sh:=.pair q1c (.own true r0c)
abbrev o3l:Sh:=.pair o3k o3j
abbrev o07:Sh:=.pair o3l (.pair p1z (.pair (.own true o05) q1c))
abbrev p10:Sh:=.box o3j
abbrev q40:Sh:=.box o06
abbrev q8z:Sh:=.own true s11
abbrev p7p:Sh:=.tr true u0m
abbrev q41:Sh:=.box o07
abbrev p11:Sh:=.tr false p7j
abbrev u9y:Sh:=.box (.pair p11 r4b)
abbrev p6v:Sh:=.tr true .str
abbrev q42:Sh:=.box o2e
abbrev p4j:Sh:=.tr false s11
abbrev o3i:Sh:=.pair u1g (.pair u1g (.pair u1g (.pair u1g (.pair p4j (.pair q7l (.pair .bool .str))))))
abbrev p9g:Sh:=.agg (.pair u1g (.pair o3i (.pair .str (.pair .bool o2e))))
abbrev r9a:Sh:=.box o3i
abbrev q7r:Sh:=.agg o3i
abbrev o2h:Sh:=.pair r9a u1g
abbrev o3n:Sh:=.pair .str q4z
abbrev p9h:Sh:=.pair u1g .str
abbrev o09:Sh:=.pair p10 (.pair p10 u1g)
abbrev q80:Sh:=.agg o2e
abbrev p7q:Sh:=.own true u36
abbrev o2f:Sh:=.pair u1g (.pair u1g (.pair u1g (.pair u1g (.pair q8z (.pair p7q (.pair .bool .str))))))
abbrev p12:Sh:=.box o2f
abbrev p0d:Sh:=.box o3l
abbrev p7r:Sh:=.tr true o05
abbrev p13:Sh:=.agg o5q
abbrev p7s:Sh:=.pair u1g .bool
abbrev q7q:Sh:=.box (.pair .str p7s)
abbrev o3o:Sh:=.pair p7p (.pair p7o (.pair p7o r4b))
abbrev p6w:Sh:=.agg p85
abbrev o2i:Sh:=.own true t2s
abbrev o2j:Sh:=.pair (.own true p7j) u1g
abbrev p6x:Sh:=.tr false o05
abbrev o08:Sh:=.agg (.pair u1g (.pair u1g (.pair .str (.pair .str p6x))))
abbrev p4k:Sh:=.agg o06
abbrev p9i:Sh:=.pair q7l u1g
abbrev o2l:Sh:=.tr false t2s
abbrev p4p:Sh:=.agg o3k
abbrev o3m:Sh:=.pair p4p (.pair (.agg (.pair u1g (.pair o2f (.pair .str (.pair .bool o06))))) u1g)
abbrev p9j:Sh:=.pair .bool u1g
abbrev p6y:Sh:=.box o3k
abbrev o1a:Sh:=.pair u1g r4b
abbrev o1b:Sh:=.pair q7r q7k
abbrev o1c:Sh:=.pair p10 p10
abbrev p9k:Sh:=.pair p4i u1g
abbrev o5r:Sh:=.pair q7l (.pair u1g (.pair p7p (.pair u1g (.pair (.box (.pair .str (.pair .str p9j))) p9k))))
abbrev o3p:Sh:=.pair q40 (.pair q40 u1g)
abbrev o1d:Sh:=.pair q7k o2h
abbrev o5t:Sh:=.pair u9y (.pair u1g (.pair o2i (.pair u1g p7r)))
abbrev o3q:Sh:=.pair (.own true o05) u1g
abbrev p6z:Sh:=.agg o3j
abbrev p16:Sh:=.pair p6z .bool
abbrev p7t:Sh:=.int .u32
abbrev p60:Sh:=.box o5q
abbrev o5s:Sh:=.pair r25 (.pair p60 (.pair p6v (.pair u1g (.pair .str (.pair q1c u1g)))))
abbrev o5u:Sh:=.pair q7l (.pair (.box o3n) (.pair p7q u1g))
abbrev p86:Sh:=.agg o3l
abbrev o3r:Sh:=.pair (.box p85) u1g
abbrev o2m:Sh:=.pair r25 q7m
abbrev o2n:Sh:=.pair p6w u1g
abbrev o2q:Sh:=.pair u1g q41
abbrev o2r:Sh:=.pair u9y u1g
abbrev o2s:Sh:=.pair p6v u1g
abbrev o2t:Sh:=.pair u1g o2h
abbrev o5v:Sh:=.pair p12 (.pair q7q (.pair p12 r4b))
abbrev o2u:Sh:=.pair q40 q40
abbrev p9l:Sh:=.tr false .str
abbrev o2g:Sh:=.pair p9l (.tr false r0c)
abbrev p9f:Sh:=.pair (.pair p85 o2g) (.pair q7k (.pair p6x p9l))
abbrev r9b:Sh:=.agg o2g
abbrev p17:Sh:=.box o2g
abbrev o2k:Sh:=.agg (.pair p85 o2g)
abbrev o2o:Sh:=.pair r9b u1g
abbrev o2p:Sh:=.pair r9b p9h
abbrev p9m:Sh:=.agg o2f
abbrev p9n:Sh:=.agg o3n
def p8r:Nat→Sig
 | 69=>zS (.pair p13 .str) .bool
 | 47=>zS (.pair r25 p13) q1c
 | 70=>zS o2m u1g
 | 48=>zS o2m q4z 2
 | 19=>zS (.pair r25 (.pair p13 u1g)) q8z
 | 55=>zS u1g (.int .u8)
 | 52=>zS .str q4z 2
 | 23=>zS p4j .str
 | 27=>zS u1g .str
 | 26=>zS u1g .str
 | 28=>zS .unit p13
 | 7=>zS o2k .str
 | 46=>zS .str q4z 2
 | 18=>zS p4j .str
 | 58=>zS u1g .str
 | 31=>zS u1g .str
 | 83=>zS q1c q1c 0 [true]
 | 84=>zS q1c q1c
 | 59=>zS r25 q1c
 | 85=>zS o2m u1g
 | 60=>zS o2m q4z 2
 | 61=>zS (.pair p13 .str) .bool
 | 32=>zS (.pair r25 (.pair p13 u1g)) q8z
 | 33=>zS .unit p13
 | 9=>zS o2k .str
 | 12=>zS (.agg p9f) .str
 | 14=>zS (.agg p9f) .str
 | 16=>zS p11 .bool
 | 130=>zS o1a .bool
 | 94=>zS o08 .bool
 | 184=>zS .unit p4k
 | 138=>zS .unit p4p
 | 115=>zS (.pair u1g (.int .u8)) .str
 | 225=>zS .unit .str
 | 185=>zS u1g p16 2
 | 186=>zS .unit u1g
 | 139=>zS .unit p6z
 | 103=>zS .unit p86
 | 95=>zS .unit (.agg o07)
 | 151=>zS q7r p9m
 | 137=>zS q7k p1z
 | 136=>zS q80 p4k
 | 101=>zS p6w p4p
 | 187=>zS .str .bool
 | 190=>zS p13 .bool
 | 192=>zS p9n .bool
 | 226=>zS q7l .bool
 | 201=>zS q7r .bool
 | 235=>zS r25 .bool
 | 200=>zS q80 .bool
 | 154=>zS p6w .bool
 | 108=>zS p6w (.pair p4p r4b) 3
 | 181=>zS o2n u1g
 | 188=>zS (.pair q7r p13) (.pair p9m .bool) 2
 | 189=>zS (.pair q7r (.pair r25 .str)) q4z 2
 | 140=>zS (.pair p6w p9h) (.pair p4p (.pair .str p9j)) 4
 | 191=>zS (.pair q7r (.pair r25 p13)) q8z
 | 142=>zS (.pair p6w (.pair u1g p13)) (.pair p4p (.pair q8z u1g)) 3
 | 116=>zS (.pair q7l p9n) p7q
 | 193=>zS (.pair q7r p9n) (.pair p9m .bool) 2
 | 144=>zS (.pair p6w (.pair u1g p9n)) (.pair p4p u1g) 2
 | 175=>zS p4j .str
 | 131=>zS (.pair q41 o08) (.pair u1g (.pair .str q41)) 2 [true,false]
 | 102=>zS r9b p6z
 | 72=>zS o2k p86
 | 158=>zS r9b .bool
 | 113=>zS r9b p6z
 | 111=>zS u1g u1g
 | 159=>zS o2o q4z 2
 | 237=>zS o2o u1g
 | 224=>zS o2o u1g
 | 253=>zS (.pair r9b r4b) q4z 2
 | 255=>zS u1g .str
 | 270=>zS q7m (.pair u1g p7s) 3
 | 254=>zS q7m (.pair .str p7s) 3
 | 220=>zS o2o (.pair q1c p7s) 3
 | 178=>zS r9b .bool
 | 205=>zS r9b u1g
 | 114=>zS o2p p16 2
 | 110=>zS (.pair r9b (.pair u1g p9h)) p16 2
 | 112=>zS u1g .str
 | 223=>zS (.pair r9b r4b) p16 2
 | 221=>zS o2p p16 2
 | 236=>zS o2p p16 2
 | 202=>zS (.pair r9b p9l) p16 2
 | 203=>zS r9b p16 2
 | 155=>zS (.pair r9b p9l) p16 2
 | 217=>zS r9b q1c
 | 263=>zS q7r .bool
 | 264=>zS q80 .bool
 | 241=>zS p9g .bool
 | 265=>zS p7t .str
 | 274=>zS (.pair p7t .str) p7t
 | 266=>zS .str p7t
 | 242=>zS .str q4z 2
 | 243=>zS .str .str
 | 244=>zS .bool .str
 | 246=>zS q7r q4z 2
 | 267=>zS q7k .str
 | 245=>zS q80 q4z 2
 | 216=>zS p9g q4z 2
 | 247=>zS .str q4z 2
 | 248=>zS q7q (.pair .str q7q) 1 [true]
 | 249=>zS q7q (.pair .bool q7q) 1 [true]
 | 268=>zS q7q (.pair u1g q7q) 1 [true]
 | 251=>zS q7m (.pair p9m p7s) 3
 | 269=>zS (.pair q7q u1g) (.pair p1z q7q) 1 [true,false]
 | 250=>zS q7m (.pair p4k p7s) 3
 | 218=>zS .str (.pair (.agg (.pair u1g (.pair o2f (.pair .str (.pair .bool o06))))) .bool) 2
 | 260=>zS (.pair q80 q7k) u1g
 | 261=>zS (.pair r25 u1g) p4i
 | 229=>zS (.pair q80 q7k) p4k
 | 183=>zS (.pair q80 .str) u1g
 | 76=>zS (.pair r25 p9i) p4i
 | 272=>zS (.pair q7r q7r) .bool
 | 273=>zS (.pair p4j q7l) .bool
 | 259=>zS (.pair q7r q7r) .bool
 | 258=>zS o1b .bool
 | 228=>zS (.pair q80 q7r) p4k
 | 232=>zS (.pair q80 (.pair q7r .str)) p4k
 | 234=>zS (.pair q80 .str) p4k
 | 252=>zS (.pair q80 p9g) (.pair q80 .bool) 2
 | 219=>zS (.pair q80 p9g) (.pair p4k .bool) 2
 | 177=>zS r9b (.pair p4k .bool) 2
 | 176=>zS r9b p16 2
 | 132=>zS o2k (.pair p86 .bool) 2
 | 133=>zS r9b (.pair p86 .bool) 2
 | 204=>zS o2p p16 2
 | 157=>zS (.pair r9b .str) p16 2
 | 222=>zS (.pair r9b (.pair p6x u1g)) p6z
 | 179=>zS (.pair r9b (.pair .str (.pair u1g (.pair p6x u1g)))) p6z
 | 180=>zS (.pair r9b r9b) .bool
 | 134=>zS (.pair r9b o08) p6z
 | 196=>zS (.pair p6y u1g) p6y 0 [true,false]
 | 148=>zS o2n (.pair p4p u1g) 2
 | 182=>zS (.pair q41 (.pair u1g q7r)) q41 0 [true,false,false]
 | 231=>zS q80 (.own false u0a)
 | 233=>zS q80 .bool
 | 271=>zS (.pair q7l q7l) .bool
 | 256=>zS o1b .bool
 | 262=>zS o1b .bool
 | 257=>zS o1b .bool
 | 227=>zS o2n u1g
 | 194=>zS o2n o3m 3
 | 10001=>zS (.pair q41 p9g) (.pair .bool q41) 1 [true,false]
 | 10000=>zS (.pair q41 u1g) o2q 1 [true,false]
 | 230=>zS o1b .bool
 | 197=>zS (.pair p6w p9h) o3m 3
 | 10002=>zS (.pair q41 p9h) o2q 1 [true,false,false]
 | 198=>zS (.pair p6w q4z) o3m 3
 | 10003=>zS (.pair q41 q4z) o2q 1 [true,false,false]
 | 135=>zS (.pair q41 o08) o2q 1 [true,false]
 | 96=>zS (.pair q41 o08) (.pair u1g (.pair .str q41)) 2 [true,false]
 | 67=>zS o2l (.pair (.agg o07) .bool) 2
 | 50=>zS p11 u9y
 | 100=>zS u9y (.pair u1g u9y) 1 [true]
 | 71=>zS o2r (.pair u1g u9y) 1 [true,false]
 | 97=>zS (.pair u9y p9l) (.pair .str u9y) 1 [true,false]
 | 98=>zS (.pair u9y p6x) (.pair u1g u9y) 1 [true,false]
 | 99=>zS o2r (.pair .bool u9y) 1 [true,false]
 | 68=>zS p11 o2i
 | 45=>zS p11 (.agg o07)
 | 17=>zS p11 (.agg o07)
 | 20=>zS .unit p13
 | 141=>zS u9y (.pair .str u9y) 1 [true]
 | 117=>zS u9y (.pair p9n u9y) 1 [true]
 | 143=>zS u9y (.pair p13 u9y) 1 [true]
 | 195=>zS (.pair p0d p9g) (.pair .bool p0d) 1 [true,false]
 | 145=>zS (.pair p0d u1g) (.pair u1g p0d) 1 [true,false]
 | 146=>zS (.pair p0d p9h) (.pair u1g p0d) 1 [true,false,false]
 | 147=>zS (.pair p0d q4z) (.pair u1g p0d) 1 [true,false,false]
 | 104=>zS (.pair u9y p0d) (.pair u9y p0d) 0 [true,true]
 | 73=>zS o2r (.pair p86 u9y) 1 [true,false]
 | 105=>zS u9y (.pair p4p u9y) 1 [true]
 | 77=>zS u9y (.pair p7q u9y) 1 [true]
 | 199=>zS u9y (.pair q8z u9y) 1 [true]
 | 152=>zS u9y (.pair p9m u9y) 1 [true]
 | 153=>zS u9y (.pair p9n u9y) 1 [true]
 | 107=>zS u9y (.pair p9m u9y) 1 [true]
 | 149=>zS u9y (.pair p4k u9y) 1 [true]
 | 51=>zS u9y (.pair p4i u9y) 1 [true]
 | 150=>zS u9y (.pair p4i u9y) 1 [true]
 | 106=>zS u9y (.pair p4k u9y) 1 [true]
 | 74=>zS u9y (.pair p4p u9y) 1 [true]
 | 156=>zS o2r (.pair .str u9y) 1 [true,false]
 | 109=>zS u9y (.pair p6z u9y) 1 [true]
 | 75=>zS u9y (.pair p6z u9y) 1 [true]
 | 49=>zS u9y (.pair p86 u9y) 1 [true]
 | 21=>zS p11 p86
 | 22=>zS p11 q8z
 | 5=>zS p11 .bool
 | _=>zS .unit .unit 0
def o0f:Nat→Nat→Ht Join
 | 69,3=>some ⟨[4],.bool,[]⟩
 | 70,11=>some ⟨[47],.bool,[]⟩
 | 48,5=>some ⟨[21],.bool,[]⟩
 | 85,11=>some ⟨[40],.bool,[]⟩
 | 60,5=>some ⟨[21],.bool,[]⟩
 | 61,3=>some ⟨[4],.bool,[]⟩
 | 32,13=>some ⟨[31],.bool,[]⟩
 | 12,13=>some ⟨[25],.bool,[]⟩
 | 130,3=>some ⟨[6],.bool,[]⟩
 | 94,3=>some ⟨[29],.bool,[]⟩
 | 94,7=>some ⟨[2],.bool,[]⟩
 | 187,9=>some ⟨[19],.bool,[]⟩
 | 190,3=>some ⟨[2],.bool,[]⟩
 | 192,3=>some ⟨[2],.bool,[]⟩
 | 226,9=>some ⟨[33],.bool,[]⟩
 | 201,3=>some ⟨[31],.bool,[]⟩
 | 201,17=>some ⟨[67],.bool,[]⟩
 | 201,21=>some ⟨[86],.bool,[]⟩
 | 201,25=>some ⟨[2],.bool,[]⟩
 | 235,11=>some ⟨[39],.bool,[]⟩
 | 235,15=>some ⟨[74],.bool,[]⟩
 | 200,3=>some ⟨[38],.bool,[]⟩
 | 200,27=>some ⟨[98],.bool,[]⟩
 | 200,41=>some ⟨[146],.bool,[]⟩
 | 154,3=>some ⟨[16],.bool,[]⟩
 | 154,15=>some ⟨[68],.bool,[]⟩
 | 108,5=>some ⟨[23],.bool,[]⟩
 | 188,5=>some ⟨[22],.bool,[]⟩
 | 193,5=>some ⟨[21],.bool,[]⟩
 | 131,23=>some ⟨[71],.bool,[]⟩
 | 158,3=>some ⟨[15],.bool,[]⟩
 | 158,23=>some ⟨[58],.bool,[]⟩
 | 237,5=>some ⟨[18],.bool,[]⟩
 | 253,15=>some ⟨[28],.bool,[]⟩
 | 270,13=>some ⟨[25],.bool,[]⟩
 | 270,23=>some ⟨[54],.bool,[]⟩
 | 254,5=>some ⟨[30],.bool,[]⟩
 | 220,27=>some ⟨[52],.bool,[]⟩
 | 178,3=>some ⟨[24],.bool,[]⟩
 | 178,11=>some ⟨[2],.bool,[]⟩
 | 114,5=>some ⟨[33],.bool,[]⟩
 | 110,5=>some ⟨[37],.bool,[]⟩
 | 110,25=>some ⟨[77],.bool,[]⟩
 | 221,5=>some ⟨[35],.bool,[]⟩
 | 202,11=>some ⟨[27],.bool,[]⟩
 | 263,3=>some ⟨[2],.bool,[]⟩
 | 264,3=>some ⟨[2],.bool,[]⟩
 | 241,7=>some ⟨[3],.bool,[]⟩
 | 241,9=>some ⟨[54],.bool,[]⟩
 | 241,13=>some ⟨[77],.bool,[]⟩
 | 247,5=>some ⟨[24],.bool,[]⟩
 | 248,5=>some ⟨[26],.bool,[]⟩
 | 249,3=>some ⟨[30],.bool,[]⟩
 | 268,5=>some ⟨[26],.bool,[]⟩
 | 251,17=>some ⟨[46],.bool,[]⟩
 | 251,31=>some ⟨[76],.bool,[]⟩
 | 251,47=>some ⟨[108],.bool,[]⟩
 | 269,9=>some ⟨[28],.bool,[]⟩
 | 250,13=>some ⟨[37],.bool,[]⟩
 | 250,31=>some ⟨[72],.bool,[]⟩
 | 218,5=>some ⟨[20],.bool,[]⟩
 | 218,29=>some ⟨[66],.bool,[]⟩
 | 261,13=>some ⟨[38],.bool,[]⟩
 | 261,37=>some ⟨[90],.bool,[]⟩
 | 76,17=>some ⟨[72],.bool,[]⟩
 | 272,7=>some ⟨[31],.bool,[]⟩
 | 259,3=>some ⟨[4],.bool,[]⟩
 | 258,9=>some ⟨[25],.bool,[]⟩
 | 252,15=>some ⟨[36],.bool,[]⟩
 | 219,3=>some ⟨[16],.bool,[]⟩
 | 177,17=>some ⟨[39],.bool,[]⟩
 | 176,7=>some ⟨[24],.bool,[]⟩
 | 133,5=>some ⟨[17],.bool,[]⟩
 | 204,3=>some ⟨[17],.bool,[]⟩
 | 222,13=>some ⟨[29],.bool,[]⟩
 | 233,3=>some ⟨[2],.bool,[]⟩
 | 256,11=>some ⟨[45],.bool,[]⟩
 | 262,9=>some ⟨[33],.bool,[]⟩
 | 257,3=>some ⟨[16],.bool,[]⟩
 | 257,15=>some ⟨[43],.bool,[]⟩
 | 257,19=>some ⟨[56],.bool,[]⟩
 | 257,25=>some ⟨[70],.bool,[]⟩
 | 257,31=>some ⟨[91],.bool,[]⟩
 | 230,17=>some ⟨[33],.bool,[]⟩
 | 230,29=>some ⟨[64],.bool,[]⟩
 | 197,21=>some ⟨[52],.bool,[]⟩
 | 197,25=>some ⟨[61],.bool,[]⟩
 | 198,11=>some ⟨[26],.bool,[]⟩
 | 67,7=>some ⟨[19],.bool,[]⟩
 | 50,7=>some ⟨[15],.bool,[]⟩
 | 68,31=>some ⟨[49],.bool,[]⟩
 | 104,15=>some ⟨[54],.bool,[]⟩
 | 5,33=>some ⟨[2],.bool,[]⟩
 | _,_=>none
abbrev s3l:=zL [0,3,5,6] (.pair r25 (.pair p60 (.pair q1c u1g))) 0 [5] q1c [] .unit
abbrev s3m:=zL [0,3,5,6,7,8,9] o5s 2 [0,3,5,6,7,8] (.pair r25 (.pair p60 (.pair p6v (.pair u1g (.pair .str q1c))))) [] .unit
abbrev s0d:=zL [0,3,5,6,7,8,10] o5s 4 [0,3,6,8] (.pair r25 (.pair p60 (.pair u1g q1c))) [] .unit
abbrev s9d:=zL [0,1,2,7,8] (.pair r25 (.pair .str o1a)) 0 [7] u1g [] .unit
abbrev s51:=zL [0,2,7,8,9] (.pair r25 (.pair u1g (.pair q8z o2s))) 0 [7] q8z [] .unit
abbrev r41:=zL [0,4,5] (.pair .str o2j) 0 [4] (.tr true p7j) [] .unit
abbrev t71:=zL [0,3,4] (.pair p4j q7m) 0 [3] .str [] .unit
abbrev s23:=zL [0,3,4] (.pair u1g (.pair .bool .str)) 0 [3,4] (.pair .bool .str) [] .unit
abbrev r40:=zL [0,4,5] (.pair .str o2j) 0 [4] (.tr true p7j) [] .unit
abbrev t7q:=zL [3,8,9,10] (.pair .str (.pair p4j r4b)) 0 [3] .str [] .unit
abbrev s5t:=zL [3,6,7,8] (.pair q1c (.pair r25 r4b)) 0 [3] q1c [] .unit
abbrev s5u:=zL [0,1,2,7,10,11,12] (.pair r25 (.pair .str (.pair u1g (.pair u1g (.pair r25 r4b))))) 0 [7] u1g [] .unit
abbrev s5s:=zL [0,2,4,7,13,14,15] (.pair r25 (.pair u1g (.pair p60 (.pair q8z (.pair p6v r4b))))) 0 [7] q8z [] .unit
abbrev t72:=zL [1,3,4] (.pair (.box p9f) q7m) 0 [1,3] (.pair (.box p9f) .str) [] .unit
abbrev t7r:=zL [1,3,8,9,10] (.pair (.box p9f) (.pair .str (.pair p6x r4b))) 0 [1,3] (.pair (.box p9f) .str) [] .unit
abbrev s3i:=zL [0,1,5,6] (.pair u1g (.pair (.int .u8) o2j)) 0 [5] (.tr true p7j) [] .unit
abbrev s24:=zL [0,2,4,5] (.pair u1g o09) 0 [2,4] o1c [] .unit
abbrev s3n:=zL [0,3,4] (.pair q7k (.pair p1z u1g)) 0 [3] p1z [] .unit
abbrev s88:=zL [0,3] q7m 0 [0] .str [2] .bool
abbrev s0c:=zL [0,3] p9i 0 [0] q7l [2] .bool
abbrev s9c:=zL [1,3] o2h 0 [1] r9a [2] .bool
abbrev t6n:=zL [0,3] (.pair r25 u1g) 0 [0] r25 [2] .bool
abbrev s5v:=zL [1,3] (.pair q42 u1g) 0 [1] q42 [2] .bool
abbrev s2x:=zL [1,4,5] (.pair q42 o3q) 2 [1,4] (.pair q42 (.own true o05)) [2] .bool
abbrev s2y:=zL [1,4,7] (.pair q42 o3q) 4 [1,4] (.pair q42 p7r) [2] .bool
abbrev s2z:=zL [1,4,9] (.pair q42 (.pair p7r u1g)) 6 [] .unit [2] .bool
abbrev s20:=zL [1,4,9,10] (.pair q42 (.pair p7r r4b)) 8 [1,4,9] (.pair q42 (.pair p7r u1g)) [2] .bool
abbrev t91:=zL [1,3] o3r 0 [] .unit [2] .bool
abbrev t7t:=zL [1,3,4,5] (.pair (.box p85) o2t) 2 [1,3,4] (.pair (.box p85) (.pair u1g r9a)) [2] .bool
abbrev t7u:=zL [1,3,4,6] (.pair (.box p85) o2t) 4 [1,3] o3r [2] .bool
abbrev s5z:=zL [1,2,5] (.pair u1g o3r) 0 [] .unit [4] u1g
abbrev t7y:=zL [2,3,4,6,7] (.pair r9a (.pair p60 (.pair p12 (.pair p12 u1g)))) 0 [2,3,4,6] (.pair r9a (.pair p60 (.pair p12 p12))) [4,5] (.pair p12 .bool)
abbrev s50:=zL [1,2,3,8] (.pair r25 (.pair .str o2h)) 0 [1,2,3] (.pair r25 (.pair .str r9a)) [6,7] q4z
abbrev s26:=zL [1,3,5,7,8] (.pair r25 (.pair r9a (.pair p60 p9k))) 0 [1,3,5,7] (.pair r25 (.pair r9a (.pair p60 p7p))) [] .unit
abbrev s27:=zL [1,3,9,10,11] (.pair r25 (.pair r9a (.pair q8z o2s))) 2 [9] q8z [] .unit
abbrev t93:=zL [0,3,5,6] o5u 0 [0,3,5] (.pair q7l (.pair (.box o3n) p7q)) [] .unit
abbrev t94:=zL [0,3,5,7] o5u 2 [5] p7q [] .unit
abbrev s0e:=zL [0,3,4] (.pair p4j q7m) 0 [3] .str [] .unit
abbrev s5x:=zL [1,3] (.pair p17 u1g) 0 [1] p17 [2] .bool
abbrev s5y:=zL [1,4] (.pair p17 u1g) 2 [] .unit [2] .bool
abbrev t7v:=zL [1,2,3,4] (.pair p17 o09) 0 [2,3] o1c [] .unit
abbrev t6l:=zL [1,2,6] (.pair u1g (.pair p17 u1g)) 0 [1,2] (.pair u1g p17) [4,5] q4z
abbrev t6m:=zL [1,2,3,8,9] (.pair u1g (.pair u1g (.pair p17 q7m))) 0 [8] .str [6,7] q4z
abbrev s54:=zL [0,3] (.pair u1g (.own true p7j)) 0 [0,3] (.pair u1g (.own true p7j)) [] .unit
abbrev s3a:=zL [0,1,7,8,9] (.pair .str (.pair u1g o1a)) 0 [] .unit [4,5,6] (.pair u1g p7s)
abbrev t7x:=zL [1,2,7,8,10,11,12] (.pair u1g (.pair p17 (.pair q1c (.pair .str (.pair q1c r4b))))) 0 [10,11] (.pair q1c u1g) [4,5,6] (.pair q1c p7s)
abbrev t6o:=zL [1,2,3,4,8,10,11] (.pair u1g (.pair u1g (.pair .str (.pair p17 o09)))) 0 [8,10] o1c [8,9] (.pair p10 .bool)
abbrev s3k:=zL [1,4,6,7,8,9] (.pair p9l (.pair p10 (.pair u1g (.pair p10 p9j)))) 0 [4,7,8] (.pair p10 (.pair p10 .bool)) [] .unit
abbrev s3c:=zL [0,1,5] (.pair p7t q7m) 0 [0] p7t [] .unit
abbrev s3d:=zL [0,1,5,6] (.pair p7t (.pair .str r4b)) 2 [0,1,5] (.pair p7t q7m) [] .unit
abbrev s3h:=zL [1,4,5] (.pair r9a q7m) 0 [1,4] (.pair r9a .str) [] .unit
abbrev s0b:=zL [1,4,6] (.pair r9a q7m) 2 [1,4] (.pair r9a .str) [] .unit
abbrev s3o:=zL [0,3,4] (.pair q7k q7m) 0 [3] .str [] .unit
abbrev t90:=zL [1,4,5] (.pair q42 q7m) 0 [1,4] (.pair q42 .str) [] .unit
abbrev s29:=zL [4,7,8,9,10] o5v 0 [4,7,8] (.pair p12 (.pair q7q p12)) [] .unit
abbrev t96:=zL [4,7,8,12,13] o5v 2 [4,7,8] (.pair p12 (.pair q7q p12)) [] .unit
abbrev t5d:=zL [0,1,5,6,7] (.pair q7q (.pair u1g (.pair p1z r4b))) 0 [0,5] (.pair q7q p1z) [0,4] (.pair q7q p1z)
abbrev t95:=zL [4,7,8,9,10] (.pair q40 (.pair q7q (.pair q40 r4b))) 0 [4,7,8] (.pair q40 (.pair q7q q40)) [] .unit
abbrev t92:=zL [1,5,6] (.pair q7k r4b) 0 [5] u1g [] .unit
abbrev s3g:=zL [0,1,5,6] (.pair r25 (.pair u1g p9k)) 0 [1,5] (.pair u1g p7p) [] .unit
abbrev t99:=zL [1,5,8,9] (.pair u1g (.pair p7p p9k)) 2 [8] p4i [] .unit
abbrev s0a:=zL [1,5,8,9,10,11] (.pair u1g (.pair p7p (.pair p4i o1a))) 4 [1,5,8,9,10] (.pair u1g (.pair p7p (.pair p4i r4b))) [] .unit
abbrev s52:=zL [2,4,5,6,7] (.pair q42 (.pair q40 (.pair q40 r4b))) 0 [2,4,5,6] (.pair q42 o3p) [] .unit
abbrev s3b:=zL [1,2,5] (.pair .str (.pair q42 u1g)) 0 [] .unit [4] u1g
abbrev t49:=zL [1,2,7,8] (.pair q7l (.pair u1g p9k)) 0 [7] p4i [] .unit
abbrev t5a:=zL [1,2,7,8,9,10,11] o5r 2 [1,2,7,8,9,10,11] o5r [] .unit
abbrev s3e:=zL [0,1,5] (.pair p4j p9i) 0 [] .unit [4] .bool
abbrev s3f:=zL [0,1,5,6] (.pair p4j (.pair q7l r4b)) 2 [0,1,5] (.pair p4j p9i) [4] .bool
abbrev s9b:=zL [1,2,5] o1d 0 [] .unit [4] .bool
abbrev t98:=zL [2,3,4,5,6,7] (.pair q42 (.pair r9a (.pair q40 (.pair q40 (.pair (.box (.pair u1g (.pair u1g (.pair u1g (.pair u1g (.pair (.tr true s11) (.pair (.tr true u36) (.pair .bool .str)))))))) u1g))))) 0 [3,4,5] (.pair r9a o2u) [] .unit
abbrev t7w:=zL [2,3,4,6,7,8,9] (.pair .str (.pair q42 (.pair r9a (.pair q40 (.pair q40 (.pair p12 u1g)))))) 0 [2,3,4,6,7,8] (.pair .str (.pair q42 (.pair r9a (.pair q40 (.pair q40 p12))))) [] .unit
abbrev t6k:=zL [2,3,4,6,7,10] (.pair .str (.pair q42 (.pair r9a o3p))) 2 [4,6,7] (.pair r9a o2u) [] .unit
abbrev s25:=zL [1,2,4,5,6] (.pair .str (.pair q42 o3p)) 0 [4,5] o2u [] .unit
abbrev s28:=zL [2,4,5,6] (.pair q40 (.pair q40 o2s)) 0 [2,4] o2u [2,3] (.pair q40 .bool)
abbrev t7s:=zL [1,2,3,6,7,8,9] (.pair p6x (.pair u1g (.pair p17 (.pair p10 (.pair p10 r4b))))) 0 [1,2,3,6,7,8] (.pair p6x (.pair u1g (.pair p17 o09))) [] .unit
abbrev t6j:=zL [1,3,6,7,8,10,11] (.pair p6x (.pair p17 (.pair p10 (.pair p10 o1a)))) 2 [6,7] o1c [] .unit
abbrev t70:=zL [5,6,7] (.pair p6v o2s) 0 [] .unit [4] .bool
abbrev s56:=zL [0,1,4,5] (.pair p6y (.pair u1g (.pair p1z u1g))) 0 [0,4] (.pair p6y p1z) [] .unit
abbrev s89:=zL [0,1,5] (.pair q7l p9i) 0 [] .unit [4] .bool
abbrev s9a:=zL [0,1,5,6] (.pair q7l (.pair q7l r4b)) 2 [0,1,5] (.pair q7l p9i) [4] .bool
abbrev s21:=zL [1,2,5] o1d 0 [] .unit [4] .bool
abbrev r2i:=zL [1,2,5] o1d 0 [] .unit [4] .bool
abbrev s5w:=zL [1,2,5] o1d 0 [] .unit [4] .bool
abbrev s22:=zL [1,2,5,6,7] (.pair q7k (.pair r9a o2t)) 2 [1,2,5] o1d [4] .bool
abbrev t5b:=zL [1,2,5,6] (.pair q7k (.pair r9a p9j)) 0 [] .unit [4] .bool
abbrev t36:=zL [1,2,5,6,7,8] (.pair q7k (.pair r9a (.pair .bool o2t))) 2 [1,2,5,6] (.pair q7k (.pair r9a p9j)) [4] .bool
abbrev t97:=zL [0,2,4,5] (.pair o2l (.pair q41 p9j)) 0 [0,2,4] (.pair o2l (.pair q41 .bool)) [] .unit
abbrev t7z:=zL [0,2,6,7] (.pair o2l (.pair q41 (.pair q41 u1g))) 2 [2,6] (.pair q41 q41) [] .unit
abbrev s53:=zL [0,3,4] (.pair p11 r4b) 0 [0,3] (.pair p11 u1g) [] .unit
abbrev t75:=zL [3,4,5,6,7] o5t 0 [5] o2i [] .unit
abbrev t6p:=zL [3,4,5,6,7,9,12,13] (.pair u9y (.pair u1g (.pair o2i (.pair u1g (.pair p7r (.pair u1g o3q)))))) 3 [3,4,5,6,12] o5t [] .unit
abbrev s3q:=zL [0,1,4,5,6] (.pair u9y (.pair u1g (.pair p0d (.pair p0d u1g)))) 0 [0,4,5] (.pair u9y (.pair p0d p0d)) [] .unit
abbrev t74:=zL [0,3,4] (.pair u9y (.pair p7q u1g)) 0 [0,3] (.pair u9y p7q) [] .unit
abbrev t73:=zL [0,3,4] (.pair u9y (.pair q8z u1g)) 0 [0,3] (.pair u9y q8z) [] .unit
abbrev t5c:=zL [0,3,4] (.pair u9y p9k) 0 [0,3] (.pair u9y p4i) [] .unit
abbrev s3p:=zL [0,2,4,5] (.pair u9y (.pair p6y (.pair u1g p6y))) 1 [0,2,5] (.pair u9y (.pair p6y p6y)) [0,2] (.pair u9y p6y)
abbrev s3j:=zL [0,1,5,6] (.pair u9y (.pair u1g o2j)) 0 [0,5] (.pair u9y (.tr true p7j)) [] .unit
abbrev s55:=zL [0,2,3,4] (.pair u9y o09) 0 [0,2,3] (.pair u9y o1c) [] .unit
abbrev t6i:=zL [0,3,4,5,6,7,8,9] (.pair p11 (.pair (.rbox (.pair (.pair (.pair o3o p7o) (.pair p6v (.tr true r0c))) (.pair p7o (.pair p7r p6v)))) (.pair .str (.pair .str (.pair (.box o3o) (.pair .str r4b)))))) 0 [0,3,4,5,6,7,8] (.pair p11 (.pair (.rbox (.pair p7p (.pair p7o (.pair p7o (.pair u1g (.pair u1g (.pair p7o (.pair p6v (.pair (.tr true r0c) (.pair p7o (.pair p7r p6v))))))))))) (.pair .str (.pair .str (.pair (.box o3o) q7m))))) [] .unit
def o0i:Nat→Nat→Ht LoopA
 | 47,3=>some s3l
 | 47,9=>some s3m
 | 47,15=>some s0d
 | 70,3=>some s9d
 | 19,4=>some s51
 | 52,5=>some r41
 | 23,3=>some t71
 | 27,5=>some s23
 | 46,5=>some r40
 | 18,3=>some t7q
 | 59,3=>some s5t
 | 85,3=>some s5u
 | 32,3=>some s5s
 | 12,3=>some t72
 | 14,3=>some t7r
 | 115,3=>some s3i
 | 185,5=>some s24
 | 137,3=>some s3n
 | 187,2=>some s88
 | 226,2=>some s0c
 | 201,4=>some s9c
 | 235,2=>some t6n
 | 200,4=>some s5v
 | 200,10=>some s2x
 | 200,17=>some s2y
 | 200,24=>some s2z
 | 200,27=>some s20
 | 154,4=>some t91
 | 154,10=>some t7t
 | 154,15=>some t7u
 | 181,2=>some s5z
 | 188,5=>some t7y
 | 189,2=>some s50
 | 191,3=>some s26
 | 191,9=>some s27
 | 116,3=>some t93
 | 116,9=>some t94
 | 175,3=>some s0e
 | 158,4=>some s5x
 | 158,9=>some s5y
 | 113,5=>some t7v
 | 159,4=>some t6l
 | 253,5=>some t6m
 | 255,2=>some s54
 | 270,6=>some s3a
 | 220,10=>some t7x
 | 110,5=>some t6o
 | 202,5=>some s3k
 | 274,2=>some s3c
 | 274,6=>some s3d
 | 246,5=>some s3h
 | 246,10=>some s0b
 | 267,3=>some s3o
 | 245,5=>some t90
 | 251,8=>some s29
 | 251,15=>some t96
 | 269,4=>some t5d
 | 250,6=>some t95
 | 260,3=>some t92
 | 261,3=>some s3g
 | 261,10=>some t99
 | 261,14=>some s0a
 | 229,5=>some s52
 | 183,2=>some s3b
 | 76,3=>some t49
 | 76,8=>some t5a
 | 273,2=>some s3e
 | 273,5=>some s3f
 | 258,2=>some s9b
 | 228,12=>some t98
 | 232,8=>some t7w
 | 232,14=>some t6k
 | 234,4=>some s25
 | 177,4=>some s28
 | 222,6=>some t7s
 | 222,14=>some t6j
 | 180,6=>some t70
 | 196,2=>some s56
 | 271,2=>some s89
 | 271,5=>some s9a
 | 256,2=>some s21
 | 262,2=>some r2i
 | 257,4=>some s5w
 | 257,12=>some s22
 | 230,5=>some t5b
 | 230,12=>some t36
 | 67,3=>some t97
 | 67,10=>some t7z
 | 50,3=>some s53
 | 68,8=>some t75
 | 68,34=>some t6p
 | 73,3=>some s3q
 | 77,3=>some t74
 | 199,3=>some t73
 | 51,3=>some t5c
 | 74,13=>some s3p
 | 156,5=>some s3j
 | 109,3=>some s55
 | 5,10=>some t6i
 | _,_=>none
def o58:Nat→Nat
 | 10000=>145
 | 10001=>195
 | 10002=>146
 | 10003=>147
 | f=>f
def p7c:Nat→Hu Nat→Nat:=fun f _=>f
def p8h:Nat→Nat→Hu Nat→Nat
 | 135,145,_=>10000
 | 10000,195,_=>10001
 | 135,146,_=>10002
 | 10002,195,_=>10001
 | 135,147,_=>10003
 | 10003,195,_=>10001
 | _,f,l=>p7c f l
def p3v:(f:Nat)→Ht ((p8r f).ins.den→Ht (p8r f).out.den)
 | 58=>some (y6x)
 | 83=>some (y6y)
 | 84=>some (y0i)
 | _=>none
def p7d:Plan:= {sig:=p8r,join:=o0f,loop:=o0i,fn:=o58,pick:=p7c,prim:=p3v,gd:=z7m Tryz.prog,pickF:=p8h}
def A:Ann:=ann o5o p7d
set_option maxRecDepth 100000
abbrev s9r:Type:=(Hs×Bool)
abbrev q2m:Type:=(Hu u0m.den)
abbrev p4n:Type:=(Hu u0a.den)
abbrev r9g:Type:=(Hu Hs)
abbrev r9h:Type:=(Unit⊕Bool)
abbrev q8y:Type:=(Hu s11.den)
abbrev r4a:Type:=(Hu Int)
abbrev p0c:Type:=(Hs×Int)
abbrev p7k:Type:=(Hs×Hs)
abbrev p4o:Type:=(Hu u36.den)
abbrev p7l:Type:=(Hs⊕Unit)
abbrev p9a:Type:=(Hu t2s.den)
abbrev o2c:Type:=(Hs×(r4a×Int))
abbrev p7m:Type:=(Int⊕Unit)
abbrev p6u:Type:=(Int×Bool)
abbrev p0b:Type:=(Hs×p6u)
abbrev p9b:Type:=(q8y⊕Unit)
abbrev p9c:Type:=(r4a⊕Unit)
abbrev p9d:Type:=(p88⊕Unit)
abbrev o2d:Type:=(Bool×Hs)
abbrev p84:Type:=(Int×Int)
abbrev t8r:Type:=(r4a×p84)
abbrev p7n:Type:=(t8r×Int)
abbrev p9e:Type:=(Int×t8r)
abbrev zLv:=y5u Tryz.prog A
abbrev zK (f:Nat) (x:(A.sig f).ins.den):=zLv.call f x
theorem zC (f:Nat) {fn:Func} {X:(A.sig f).ins.den→Ht (A.sig f).out.den} (hp:A.prim f=none) (hf:Tryz.prog.funcs[A.fn f]? =some fn) (hb:z7q A zLv lpW f fn=X):zK f=X:=funext (y7o hp hf (congrFun hb))
theorem zW (l:LoopA) (f:Nat) (fn:Func) (r n:Nat) {S:(l.head.sh.den→Ht (l.out.sh.den⊕l.ret.sh.den))→l.head.sh.den→Ht (l.out.sh.den⊕l.ret.sh.den)} (x:l.head.sh.den) (h:S=y5z A zLv lpW f (y7w fn r) l n):lpW _ _ S x=S (lpW _ _ S) x:=y7x h x
def t3k(x:o1u):Ht Bool:=zK 69 x
def s72 (x:o1u):Ht Bool:=((cond (!y2y x.2 x.1.1) (some (y2y x.2 x.1.2||z7l x.2 x.1.2)) (some false)):Ht Bool).bind fun j1=>some j1
theorem r91:t3k=s72:=zC 69 rfl Tryz.func69 (by kernel_rfl)
def t3r(x:o22):Ht r9g:=zK 47 x
def t0i(g:o1f→Ht (o31⊕Unit))(x:o1f):Ht (o31⊕Unit):=cond (decide (x.2.2.2.2.2.2<(x.2.2.1.length:Int))) (cond (y4l x.2.2.2.2.2.2 x.2.2.1.length) (cond (y2y (rdL Ty.str x.2.2.1 x.2.2.2.2.2.2.toNat) x.2.2.2.2.1) (cond (y4l x.2.2.2.2.2.2 x.2.2.1.length) (cond (Nat.ble (x.2.2.2.2.2.1.length+([(rdL Ty.str x.2.2.1 x.2.2.2.2.2.2.toNat)]:Hu Hs).length) z8x) (g (x.1,x.2.1,x.2.2.1,x.2.2.2.1,x.2.2.2.2.1,x.2.2.2.2.2.1++([(rdL Ty.str x.2.2.1 x.2.2.2.2.2.2.toNat)]:Hu Hs),IntKind.i64.wrap (x.2.2.2.2.2.2+1))) none) none) (g (x.1,x.2.1,x.2.2.1,x.2.2.2.1,x.2.2.2.2.1,x.2.2.2.2.2.1,IntKind.i64.wrap (x.2.2.2.2.2.2+1)))) none) (some (.inl (x.1,x.2.1,x.2.2.1,x.2.2.2.1,x.2.2.2.2.1,x.2.2.2.2.2.1)))
def u6q:=lpW _ _ t0i
theorem s4d x:u6q x=t0i u6q x:=zW s3m 47 Tryz.f47 9 72 x (by kernel_rfl)
def u83(g:o1f→Ht (o4c⊕Unit))(x:o1f):Ht (o4c⊕Unit):=cond (decide (x.2.2.2.2.2.2<(x.2.2.1.length:Int))) (cond (y4l x.2.2.2.2.2.2 x.2.2.1.length) (cond (!(y2y (rdL Ty.str x.2.2.1 x.2.2.2.2.2.2.toNat) x.2.2.2.2.1||z7l (rdL Ty.str x.2.2.1 x.2.2.2.2.2.2.toNat) x.2.2.2.2.1)) (cond (y4l x.2.2.2.2.2.2 x.2.2.1.length) (cond (Nat.ble (x.2.2.2.2.2.1.length+([(rdL Ty.str x.2.2.1 x.2.2.2.2.2.2.toNat)]:Hu Hs).length) z8x) (g (x.1,x.2.1,x.2.2.1,x.2.2.2.1,x.2.2.2.2.1,x.2.2.2.2.2.1++([(rdL Ty.str x.2.2.1 x.2.2.2.2.2.2.toNat)]:Hu Hs),IntKind.i64.wrap (x.2.2.2.2.2.2+1))) none) none) (g (x.1,x.2.1,x.2.2.1,x.2.2.2.1,x.2.2.2.2.1,x.2.2.2.2.2.1,IntKind.i64.wrap (x.2.2.2.2.2.2+1)))) none) (some (.inl (x.1,x.2.1,x.2.2.2.1,x.2.2.2.2.2.1)))
def u5e:=lpW _ _ u83
theorem s01 x:u5e x=u83 u5e x:=zW s0d 47 Tryz.f47 15 72 x (by kernel_rfl)
def t0h(g:o4d→Ht (r9g⊕Unit))(x:o4d):Ht (r9g⊕Unit):=cond (decide (x.2.2.2<(x.1.length:Int))) (cond (y4l x.2.2.2 x.1.length) ((t3k (x.2.1,(rdL u0m x.1 x.2.2.2.toNat).1)).bind fun y1=>cond (!y1) (g (x.1,x.2.1,x.2.2.1,IntKind.i64.wrap (x.2.2.2+1))) ((u6q (x.1,x.2.1,x.2.2.1,x.2.2.2,(rdL u0m x.1 x.2.2.2.toNat).1,([]:Hu Hs),0)).bind fun r2=>match r2 with | .inl o3=>cond (Nat.ble (o3.2.2.2.2.2.length+([o3.2.2.2.2.1]:Hu Hs).length) z8x) ((u5e (o3.1,o3.2.1,o3.2.2.1,o3.2.2.2.1,o3.2.2.2.2.1,o3.2.2.2.2.2++([o3.2.2.2.2.1]:Hu Hs),0)).bind fun r4=>match r4 with | .inl o5=>g (o5.1,o5.2.1,o5.2.2.2,IntKind.i64.wrap (o5.2.2.1+1)) | .inr z6=>some (.inr ())) none | .inr z7=>some (.inr ()))) none) (some (.inl x.2.2.1))
def t0s:=lpW _ _ t0h
theorem s4c x:t0s x=t0h t0s x:=zW s3l 47 Tryz.f47 3 72 x (by kernel_rfl)
def s8q (x:o22):Ht r9g:=(t0s (x.1,x.2,([]:Hu Hs),0)).bind fun r8=>match r8 with | .inl o9=>some o9 | .inr z10=>none
theorem q0o:t3r=s8q:=zC 47 rfl Tryz.func47 (by kernel_rfl)
def t79(x:p65):Ht Int:=zK 70 x
def t3b(g:o4r→Ht p7m)(x:o4r):Ht p7m:=cond (decide (x.2.2.2.2<(x.1.length:Int))) (((cond (y4l x.2.2.2.2 x.1.length) (cond (z7l (rdL u0m x.1 x.2.2.2.2.toNat).1 x.2.1) (cond (y4l x.2.2.2.2 x.1.length) (cond (decide ((rdL u0m x.1 x.2.2.2.2.toNat).2.2.2≤x.2.2.1)) (cond (decide (x.2.2.2.1<0)) (some true) (cond (y4l x.2.2.2.2 x.1.length) (cond (y4l x.2.2.2.1 x.1.length) (some (decide ((rdL u0m x.1 x.2.2.2.2.toNat).2.2.2>(rdL u0m x.1 x.2.2.2.1.toNat).2.2.2))) none) none)) (some false)) none) (some false)) none):Ht Bool).bind fun j1=>cond j1 (g (x.1,x.2.1,x.2.2.1,x.2.2.2.2,IntKind.i64.wrap (x.2.2.2.2+1))) (g (x.1,x.2.1,x.2.2.1,x.2.2.2.1,IntKind.i64.wrap (x.2.2.2.2+1)))) (some (.inl x.2.2.2.1))
def u9n:=lpW _ _ t3b
theorem s9p x:u9n x=t3b u9n x:=zW s9d 70 Tryz.f70 3 50 x (by kernel_rfl)
def r4r (x:p65):Ht Int:=(u9n (x.1,x.2.1,x.2.2,(- 1:Int),0)).bind fun r2=>match r2 with | .inl o3=>some o3 | .inr z4=>none
theorem q53:t79=r4r:=zC 70 rfl Tryz.func70 (by kernel_rfl)
def t5u(x:p65):Ht s9r:=zK 48 x
def r01 (x:p65):Ht s9r:=(t79 x).bind fun y1=>((cond (decide (y1<0)) (some true) (cond (y4l y1 x.1.length) (some (rdL u0m x.1 y1.toNat).2.2.1) none)):Ht Bool).bind fun j2=>cond j2 (some ((⟨#[]⟩:Hs),false)) (cond (y4l y1 x.1.length) (some ((rdL u0m x.1 y1.toNat).2.1,true)) none)
theorem q3m:t5u=r01:=zC 48 rfl Tryz.func48 (by kernel_rfl)
def u4u(x:o1n):Ht q8y:=zK 19 x
def t1u(g:o4e→Ht p9b)(x:o4e):Ht p9b:=cond (decide (x.2.2.2.2<(x.2.2.2.1.length:Int))) (cond (y4l x.2.2.2.2 x.2.2.2.1.length) ((t5u (x.1,rdL Ty.str x.2.2.2.1 x.2.2.2.2.toNat,x.2.1)).bind fun y2=>cond y2.2 (cond (y4l x.2.2.2.2 x.2.2.2.1.length) (cond (Nat.ble (x.2.2.1.length+([(rdL Ty.str x.2.2.2.1 x.2.2.2.2.toNat,y2.1)]:Hu s11.den).length) z8x) (g (x.1,x.2.1,x.2.2.1++([(rdL Ty.str x.2.2.2.1 x.2.2.2.2.toNat,y2.1)]:Hu s11.den),x.2.2.2.1,IntKind.i64.wrap (x.2.2.2.2+1))) none) none) (g (x.1,x.2.1,x.2.2.1,x.2.2.2.1,IntKind.i64.wrap (x.2.2.2.2+1)))) none) (some (.inl x.2.2.1))
def t14:=lpW _ _ t1u
theorem s6v x:t14 x=t1u t14 x:=zW s51 19 Tryz.f19 4 43 x (by kernel_rfl)
def r0z (x:o1n):Ht q8y:=(t3r (x.1,x.2.1)).bind fun y1=>(t14 (x.1,x.2.2,([]:Hu s11.den),y1,0)).bind fun r3=>match r3 with | .inl o4=>some o4 | .inr z5=>none
theorem q3k:u4u=r0z:=zC 19 rfl Tryz.func19 (by kernel_rfl)
def u4e(x:Int):Ht Int:=zK 55 x
def s2n (x:Int):Ht Int:=cond (decide (x<10)) (some (IntKind.u8.wrap (IntKind.i64.wrap ((48:Int)+x)))) (some (IntKind.u8.wrap (IntKind.i64.wrap ((IntKind.i64.wrap ((97:Int)+x)) - 10))))
theorem r52:u4e=s2n:=zC 55 rfl Tryz.func55 (by kernel_rfl)
def r31(x:Hs):Ht s9r:=zK 52 x
def t7e(g:o2c→Ht p9c)(x:o2c):Ht p9c:=cond (decide (x.2.2<(x.1.size:Int))) (cond (y4l x.2.2 x.1.size) ((u4e (IntKind.i64.wrap (Int.tdiv (IntKind.i64.wrap ((x.1.data.toList.getD x.2.2.toNat 0).toNat:Int)) (16:Int)))).bind fun y1=>cond (y4l x.2.2 x.1.size) ((u4e (Int.tmod (IntKind.i64.wrap ((x.1.data.toList.getD x.2.2.toNat 0).toNat:Int)) (16:Int))).bind fun y2=>cond (Nat.ble (x.2.1.length+([y1,y2]:Hu Int).length) z8x) (g (x.1,x.2.1++([y1,y2]:Hu Int),IntKind.i64.wrap (x.2.2+1))) none) none) none) (some (.inl x.2.1))
def t30:=lpW _ _ t7e
theorem r5f x:t30 x=t7e t30 x:=zW r41 52 Tryz.f52 5 33 x (by kernel_rfl)
def q1j (x:Hs):Ht s9r:=cond (decide ((x.size:Int)>(20000:Int))) (some ((⟨#[]⟩:Hs),false)) ((t30 (x,([]:Hu Int),0)).bind fun r3=>match r3 with | .inl o4=>some (y7e o4,true) | .inr z5=>none)
theorem p0z:r31=q1j:=zC 52 rfl Tryz.func52 (by kernel_rfl)
def t0z(x:q8y):Ht Hs:=zK 23 x
def u7i(g:o1v→Ht p7l)(x:o1v):Ht p7l:=cond (decide (x.2.2<(x.1.length:Int))) (cond (y4l x.2.2 x.1.length) ((r31 (rdL s11 x.1 x.2.2.toNat).2).bind fun y1=>cond (y4l x.2.2 x.1.length) (cond (decide (x.2.1.size+(rdL s11 x.1 x.2.2.toNat).1.size≤140737488355328)) (cond (decide ((x.2.1++(rdL s11 x.1 x.2.2.toNat).1).size+(⟨#[61]⟩:Hs).size≤140737488355328)) (cond (decide (((x.2.1++(rdL s11 x.1 x.2.2.toNat).1)++(⟨#[61]⟩:Hs)).size+y1.1.size≤140737488355328)) (cond (decide ((((x.2.1++(rdL s11 x.1 x.2.2.toNat).1)++(⟨#[61]⟩:Hs))++y1.1).size+(⟨#[10]⟩:Hs).size≤140737488355328)) (g (x.1,(((x.2.1++(rdL s11 x.1 x.2.2.toNat).1)++(⟨#[61]⟩:Hs))++y1.1)++(⟨#[10]⟩:Hs),IntKind.i64.wrap (x.2.2+1))) none) none) none) none) none) none) (some (.inl x.2.1))
def u7q:=lpW _ _ u7i
theorem t8n x:u7q x=u7i u7q x:=zW t71 23 Tryz.f23 3 34 x (by kernel_rfl)
def s2j (x:q8y):Ht Hs:=(u7q (x,(⟨#[]⟩:Hs),0)).bind fun r2=>match r2 with | .inl o3=>some o3 | .inr z4=>none
theorem r5y:t0z=s2j:=zC 23 rfl Tryz.func23 (by kernel_rfl)
def u63(x:Int):Ht Hs:=zK 27 x
def u94(g:(Int×o2d)→Ht (o2d⊕Unit))(x:(Int×o2d)):Ht (o2d⊕Unit):=cond (!decide (x.1=0)) (cond (decide ((Int.tmod x.1 (10:Int))<0)) ((u4e (IntKind.i64.wrap (0 - (Int.tmod x.1 (10:Int))))).bind fun y1=>cond (decide ((y7e ([y1]:Hu Int)).size+x.2.2.size≤140737488355328)) (g (IntKind.i64.wrap (Int.tdiv x.1 (10:Int)),x.2.1,(y7e ([y1]:Hu Int))++x.2.2)) none) ((u4e (Int.tmod x.1 (10:Int))).bind fun y2=>cond (decide ((y7e ([y2]:Hu Int)).size+x.2.2.size≤140737488355328)) (g (IntKind.i64.wrap (Int.tdiv x.1 (10:Int)),x.2.1,(y7e ([y2]:Hu Int))++x.2.2)) none)) (some (.inl x.2))
def t0m:=lpW _ _ u94
theorem s3x x:t0m x=u94 t0m x:=zW s23 27 Tryz.f27 5 30 x (by kernel_rfl)
def s7y (x:Int):Ht Hs:=cond (decide (x=0)) (some (⟨#[48]⟩:Hs)) ((t0m (x,decide (x<0),(⟨#[]⟩:Hs))).bind fun r3=>match r3 with | .inl o4=>cond o4.1 (cond (decide ((⟨#[45]⟩:Hs).size+o4.2.size≤140737488355328)) (some ((⟨#[45]⟩:Hs)++o4.2)) none) (some o4.2) | .inr z5=>none)
theorem r9x:u63=s7y:=zC 27 rfl Tryz.func27 (by kernel_rfl)
def t2j(x:Int):Ht Hs:=zK 26 x
def r1l (x:Int):Ht Hs:=cond (decide (x<0)) (some (⟨#[48]⟩:Hs)) ((u63 x).bind fun y1=>some y1)
theorem q35:t2j=r1l:=zC 26 rfl Tryz.func26 (by kernel_rfl)
def t2g(x:Unit):Ht p7k:=zK 28 x
def q2v (x:Unit):Ht p7k:=some ((⟨#[97]⟩:Hs),(⟨#[122,122,122]⟩:Hs))
theorem r1v:t2g=q2v:=zC 28 rfl Tryz.func28 (by kernel_rfl)
def t00(x:Z62):Ht Hs:=zK 7 x
def s2k (x:Z62):Ht Hs:=(t2j x.1.1.2.2.2.1).bind fun y1=>cond (decide ((⟨#[99,115,32]⟩:Hs).size+y1.size≤140737488355328)) (cond (decide (((⟨#[99,115,32]⟩:Hs)++y1).size+(⟨#[32,111,112,101,110,32]⟩:Hs).size≤140737488355328)) ((u63 (x.1.2.length:Int)).bind fun y2=>cond (decide ((((⟨#[99,115,32]⟩:Hs)++y1)++(⟨#[32,111,112,101,110,32]⟩:Hs)).size+y2.size≤140737488355328)) (cond (decide (((((⟨#[99,115,32]⟩:Hs)++y1)++(⟨#[32,111,112,101,110,32]⟩:Hs))++y2).size+(⟨#[32,114,101,97,100,121,32]⟩:Hs).size≤140737488355328)) ((u63 (x.1.1.2.2.1.length:Int)).bind fun y3=>cond (decide ((((((⟨#[99,115,32]⟩:Hs)++y1)++(⟨#[32,111,112,101,110,32]⟩:Hs))++y2)++(⟨#[32,114,101,97,100,121,32]⟩:Hs)).size+y3.size≤140737488355328)) (cond (decide (((((((⟨#[99,115,32]⟩:Hs)++y1)++(⟨#[32,111,112,101,110,32]⟩:Hs))++y2)++(⟨#[32,114,101,97,100,121,32]⟩:Hs))++y3).size+(⟨#[10]⟩:Hs).size≤140737488355328)) ((t2g ()).bind fun y4=>(u4u (x.1.1.1,y4,x.1.1.2.2.2.1)).bind fun y5=>(t0z y5).bind fun y6=>cond (decide ((((((((⟨#[99,115,32]⟩:Hs)++y1)++(⟨#[32,111,112,101,110,32]⟩:Hs))++y2)++(⟨#[32,114,101,97,100,121,32]⟩:Hs))++y3)++(⟨#[10]⟩:Hs)).size+y6.size≤140737488355328)) (some ((((((((⟨#[99,115,32]⟩:Hs)++y1)++(⟨#[32,111,112,101,110,32]⟩:Hs))++y2)++(⟨#[32,114,101,97,100,121,32]⟩:Hs))++y3)++(⟨#[10]⟩:Hs))++y6)) none) none) none) none) none) none) none
theorem r5z:t00=s2k:=zC 7 rfl Tryz.func7 (by kernel_rfl)
def r30(x:Hs):Ht s9r:=zK 46 x
def t7d(g:o2c→Ht p9c)(x:o2c):Ht p9c:=cond (decide (x.2.2<(x.1.size:Int))) (cond (y4l x.2.2 x.1.size) (cond (y4l (IntKind.u8.wrap (Int.tdiv ((x.1.data.toList.getD x.2.2.toNat 0).toNat:Int) (16:Int))) (⟨#[48,49,50,51,52,53,54,55,56,57,97,98,99,100,101,102]⟩:Hs).size) (cond (y4l x.2.2 x.1.size) (cond (y4l (Int.tmod ((x.1.data.toList.getD x.2.2.toNat 0).toNat:Int) (16:Int)) (⟨#[48,49,50,51,52,53,54,55,56,57,97,98,99,100,101,102]⟩:Hs).size) (cond (Nat.ble (x.2.1.length+([(((⟨#[48,49,50,51,52,53,54,55,56,57,97,98,99,100,101,102]⟩:Hs).data.toList.getD (IntKind.u8.wrap (Int.tdiv ((x.1.data.toList.getD x.2.2.toNat 0).toNat:Int) (16:Int))).toNat 0).toNat:Int),(((⟨#[48,49,50,51,52,53,54,55,56,57,97,98,99,100,101,102]⟩:Hs).data.toList.getD (Int.tmod ((x.1.data.toList.getD x.2.2.toNat 0).toNat:Int) (16:Int)).toNat 0).toNat:Int)]:Hu Int).length) z8x) (g (x.1,x.2.1++([(((⟨#[48,49,50,51,52,53,54,55,56,57,97,98,99,100,101,102]⟩:Hs).data.toList.getD (IntKind.u8.wrap (Int.tdiv ((x.1.data.toList.getD x.2.2.toNat 0).toNat:Int) (16:Int))).toNat 0).toNat:Int),(((⟨#[48,49,50,51,52,53,54,55,56,57,97,98,99,100,101,102]⟩:Hs).data.toList.getD (Int.tmod ((x.1.data.toList.getD x.2.2.toNat 0).toNat:Int) (16:Int)).toNat 0).toNat:Int)]:Hu Int),IntKind.i64.wrap (x.2.2+1))) none) none) none) none) none) (some (.inl x.2.1))
def t3z:=lpW _ _ t7d
theorem r5e x:t3z x=t7d t3z x:=zW r40 46 Tryz.f46 5 30 x (by kernel_rfl)
def q1h (x:Hs):Ht s9r:=cond (decide ((x.size:Int)>(20000:Int))) (some ((⟨#[]⟩:Hs),false)) ((t3z (x,([]:Hu Int),0)).bind fun r1=>match r1 with | .inl o2=>some (y7e o2,true) | .inr z3=>none)
theorem p0w:r30=q1h:=zC 46 rfl Tryz.func46 (by kernel_rfl)
def u6w(x:q8y):Ht Hs:=zK 18 x
def u67(g:o5a→Ht p7l)(x:o5a):Ht p7l:=cond (decide (x.2.2.2<x.2.2.1)) (cond (y4l x.2.2.2 x.2.1.length) ((r30 (rdL s11 x.2.1 x.2.2.2.toNat).2).bind fun y1=>cond (decide ((rdL s11 x.2.1 x.2.2.2.toNat).1.size+(⟨#[61]⟩:Hs).size≤140737488355328)) (cond (decide (((rdL s11 x.2.1 x.2.2.2.toNat).1++(⟨#[61]⟩:Hs)).size+y1.1.size≤140737488355328)) (cond (decide ((((rdL s11 x.2.1 x.2.2.2.toNat).1++(⟨#[61]⟩:Hs))++y1.1).size+(⟨#[10]⟩:Hs).size≤140737488355328)) (cond (decide (x.1.size+((((rdL s11 x.2.1 x.2.2.2.toNat).1++(⟨#[61]⟩:Hs))++y1.1)++(⟨#[10]⟩:Hs)).size≤140737488355328)) (g (x.1++((((rdL s11 x.2.1 x.2.2.2.toNat).1++(⟨#[61]⟩:Hs))++y1.1)++(⟨#[10]⟩:Hs)),x.2.1,x.2.2.1,IntKind.i64.wrap (x.2.2.2+1))) none) none) none) none) none) (some (.inl x.1))
def u7m:=lpW _ _ u67
theorem t8c x:u7m x=u67 u7m x:=zW t7q 18 Tryz.f18 3 30 x (by kernel_rfl)
def s14 (x:q8y):Ht Hs:=(u7m ((⟨#[]⟩:Hs),x,(x.length:Int),0)).bind fun r2=>match r2 with | .inl o3=>some o3 | .inr z4=>none
theorem r5j:u6w=s14:=zC 18 rfl Tryz.func18 (by kernel_rfl)
def s9f(x:Int):Ht Hs:=zK 58 x
theorem q02:∀(x:Int),s9f x=y6x x:=y6c (P:=Tryz.prog) (A:=A) (f:=58) (F:=y6x) rfl
def u16(x:Int):Ht Hs:=zK 31 x
def s7t (x:Int):Ht Hs:=(s9f x).bind fun y1=>some y1
theorem r9s:u16=s7t:=zC 31 rfl Tryz.func31 (by kernel_rfl)
def u8e(x:r9g):Ht r9g:=zK 83 x
theorem t6f:∀(x:r9g),u8e x=y6y x:=y6c (P:=Tryz.prog) (A:=A) (f:=83) (F:=y6y) rfl
def u5m(x:r9g):Ht r9g:=zK 84 x
theorem t34:∀(x:r9g),u5m x=y0i x:=y6c (P:=Tryz.prog) (A:=A) (f:=84) (F:=y0i) rfl
def s1h(x:q2m):Ht r9g:=zK 59 x
def t1o(g:o4t→Ht (r9g⊕Unit))(x:o4t):Ht (r9g⊕Unit):=cond (decide (x.2.2.2<x.2.2.1)) (cond (y4l x.2.2.2 x.2.1.length) (cond (Nat.ble (x.1.length+([(rdL u0m x.2.1 x.2.2.2.toNat).1]:Hu Hs).length) z8x) (g (x.1++([(rdL u0m x.2.1 x.2.2.2.toNat).1]:Hu Hs),x.2.1,x.2.2.1,IntKind.i64.wrap (x.2.2.2+1))) none) none) (some (.inl x.1))
def t1z:=lpW _ _ t1o
theorem s6n x:t1z x=t1o t1z x:=zW s5t 59 Tryz.f59 3 22 x (by kernel_rfl)
def r0l (x:q2m):Ht r9g:=(t1z (([]:Hu Hs),x,(x.length:Int),0)).bind fun r1=>match r1 with | .inl o2=>((u8e o2).bind fun y3=>(u5m y3).bind fun y4=>some y4) | .inr z5=>none
theorem q26:s1h=r0l:=zC 59 rfl Tryz.func59 (by kernel_rfl)
def s1i(x:p65):Ht Int:=zK 85 x
def t1p(g:o38→Ht p7m)(x:o38):Ht p7m:=cond (decide (x.2.2.2.2.2.2<x.2.2.2.2.2.1)) (cond (y4l x.2.2.2.2.2.2 x.2.2.2.2.1.length) (((cond (z7l (rdL u0m x.2.2.2.2.1 x.2.2.2.2.2.2.toNat).1 x.2.1) (cond (decide ((rdL u0m x.2.2.2.2.1 x.2.2.2.2.2.2.toNat).2.2.2≤x.2.2.1)) (cond (decide (x.2.2.2.1<0)) (some true) (cond (y4l x.2.2.2.1 x.1.length) (some (decide ((rdL u0m x.2.2.2.2.1 x.2.2.2.2.2.2.toNat).2.2.2>(rdL u0m x.1 x.2.2.2.1.toNat).2.2.2))) none)) (some false)) (some false)):Ht Bool).bind fun j1=>cond j1 (g (x.1,x.2.1,x.2.2.1,x.2.2.2.2.2.2,x.2.2.2.2.1,x.2.2.2.2.2.1,IntKind.i64.wrap (x.2.2.2.2.2.2+1))) (g (x.1,x.2.1,x.2.2.1,x.2.2.2.1,x.2.2.2.2.1,x.2.2.2.2.2.1,IntKind.i64.wrap (x.2.2.2.2.2.2+1)))) none) (some (.inl x.2.2.2.1))
def u72:=lpW _ _ t1p
theorem s6o x:u72 x=t1p u72 x:=zW s5u 85 Tryz.f85 3 44 x (by kernel_rfl)
def r0m (x:p65):Ht Int:=(u72 (x.1,x.2.1,x.2.2,(- 1:Int),x.1,(x.1.length:Int),0)).bind fun r2=>match r2 with | .inl o3=>some o3 | .inr z4=>none
theorem q27:s1i=r0m:=zC 85 rfl Tryz.func85 (by kernel_rfl)
def s1g(x:p65):Ht s9r:=zK 60 x
def r0k (x:p65):Ht s9r:=(s1i x).bind fun y1=>((cond (decide (y1<0)) (some true) (cond (y4l y1 x.1.length) (some (rdL u0m x.1 y1.toNat).2.2.1) none)):Ht Bool).bind fun j2=>cond j2 (some ((⟨#[]⟩:Hs),false)) (cond (y4l y1 x.1.length) (some ((rdL u0m x.1 y1.toNat).2.1,true)) none)
theorem q25:s1g=r0k:=zC 60 rfl Tryz.func60 (by kernel_rfl)
def t82(x:o1u):Ht Bool:=zK 61 x
def s7u (x:o1u):Ht Bool:=((cond (!y2y x.2 x.1.1) (some (y2y x.2 x.1.2||z7l x.2 x.1.2)) (some false)):Ht Bool).bind fun j1=>some j1
theorem r9t:t82=s7u:=zC 61 rfl Tryz.func61 (by kernel_rfl)
def t5p(x:o1n):Ht q8y:=zK 32 x
def t1n(g:o30→Ht p9b)(x:o30):Ht p9b:=cond (decide (x.2.2.2.2.2.2<x.2.2.2.2.2.1)) (cond (y4l x.2.2.2.2.2.2 x.2.2.2.2.1.length) ((s1g (x.1,rdL Ty.str x.2.2.2.2.1 x.2.2.2.2.2.2.toNat,x.2.1)).bind fun y2=>((cond y2.2 ((t82 (x.2.2.1,rdL Ty.str x.2.2.2.2.1 x.2.2.2.2.2.2.toNat)).bind fun y3=>some y3) (some false)):Ht Bool).bind fun j4=>cond j4 (cond (Nat.ble (x.2.2.2.1.length+([(rdL Ty.str x.2.2.2.2.1 x.2.2.2.2.2.2.toNat,y2.1)]:Hu s11.den).length) z8x) (g (x.1,x.2.1,x.2.2.1,x.2.2.2.1++([(rdL Ty.str x.2.2.2.2.1 x.2.2.2.2.2.2.toNat,y2.1)]:Hu s11.den),x.2.2.2.2.1,x.2.2.2.2.2.1,IntKind.i64.wrap (x.2.2.2.2.2.2+1))) none) (g (x.1,x.2.1,x.2.2.1,x.2.2.2.1,x.2.2.2.2.1,x.2.2.2.2.2.1,IntKind.i64.wrap (x.2.2.2.2.2.2+1)))) none) (some (.inl x.2.2.2.1))
def t1y:=lpW _ _ t1n
theorem s6m x:t1y x=t1n t1y x:=zW s5s 32 Tryz.f32 3 40 x (by kernel_rfl)
def r0j (x:o1n):Ht q8y:=(s1h x.1).bind fun y1=>(t1y (x.1,x.2.2,x.2.1,([]:Hu s11.den),y1,(y1.length:Int),0)).bind fun r5=>match r5 with | .inl o6=>some o6 | .inr z7=>none
theorem q24:t5p=r0j:=zC 32 rfl Tryz.func32 (by kernel_rfl)
def t83(x:Unit):Ht p7k:=zK 33 x
def r9o (x:Unit):Ht p7k:=some ((⟨#[97]⟩:Hs),(⟨#[122,122,122]⟩:Hs))
theorem r9u:t83=r9o:=zC 33 rfl Tryz.func33 (by kernel_rfl)
def u6x(x:Z62):Ht Hs:=zK 9 x
def s15 (x:Z62):Ht Hs:=(u16 (y8h x.1.1.2.2.2.1 (0:Int))).bind fun y1=>cond (decide ((⟨#[99,115,32]⟩:Hs).size+y1.size≤140737488355328)) (cond (decide (((⟨#[99,115,32]⟩:Hs)++y1).size+(⟨#[32,111,112,101,110,32]⟩:Hs).size≤140737488355328)) ((u16 (x.1.2.length:Int)).bind fun y2=>cond (decide ((((⟨#[99,115,32]⟩:Hs)++y1)++(⟨#[32,111,112,101,110,32]⟩:Hs)).size+y2.size≤140737488355328)) (cond (decide (((((⟨#[99,115,32]⟩:Hs)++y1)++(⟨#[32,111,112,101,110,32]⟩:Hs))++y2).size+(⟨#[32,114,101,97,100,121,32]⟩:Hs).size≤140737488355328)) ((u16 (x.1.1.2.2.1.length:Int)).bind fun y3=>cond (decide ((((((⟨#[99,115,32]⟩:Hs)++y1)++(⟨#[32,111,112,101,110,32]⟩:Hs))++y2)++(⟨#[32,114,101,97,100,121,32]⟩:Hs)).size+y3.size≤140737488355328)) (cond (decide (((((((⟨#[99,115,32]⟩:Hs)++y1)++(⟨#[32,111,112,101,110,32]⟩:Hs))++y2)++(⟨#[32,114,101,97,100,121,32]⟩:Hs))++y3).size+(⟨#[10]⟩:Hs).size≤140737488355328)) ((t83 ()).bind fun y4=>(t5p (x.1.1.1,y4,x.1.1.2.2.2.1)).bind fun y5=>(u6w y5).bind fun y6=>cond (decide ((((((((⟨#[99,115,32]⟩:Hs)++y1)++(⟨#[32,111,112,101,110,32]⟩:Hs))++y2)++(⟨#[32,114,101,97,100,121,32]⟩:Hs))++y3)++(⟨#[10]⟩:Hs)).size+y6.size≤140737488355328)) (some ((((((((⟨#[99,115,32]⟩:Hs)++y1)++(⟨#[32,111,112,101,110,32]⟩:Hs))++y2)++(⟨#[32,114,101,97,100,121,32]⟩:Hs))++y3)++(⟨#[10]⟩:Hs))++y6)) none) none) none) none) none) none) none
theorem r5k:u6x=s15:=zC 9 rfl Tryz.func9 (by kernel_rfl)
def t4t(x:Z38):Ht Hs:=zK 12 x
def u7j(g:Z30→Ht (Z32⊕Unit))(x:Z30):Ht (Z32⊕Unit):=cond (decide (x.2.2<(x.1.2.2.1.length:Int))) (((cond (decide (x.2.2<(x.1.2.2.2.length:Int))) (cond (y4l x.2.2 x.1.2.2.2.length) (some (!z7l (rdL Ty.str x.1.2.2.2 x.2.2.toNat) (⟨#[]⟩:Hs))) none) (some false)):Ht Bool).bind fun j1=>cond j1 (cond (y4l x.2.2 x.1.2.2.2.length) (cond (y4l x.2.2 x.1.2.2.1.length) ((t2j (rdL (Ty.int .i64) x.1.2.2.1 x.2.2.toNat)).bind fun y2=>cond (decide (x.2.1.size+y2.size≤140737488355328)) (cond (decide ((x.2.1++y2).size+(⟨#[32]⟩:Hs).size≤140737488355328)) (cond (decide (((x.2.1++y2)++(⟨#[32]⟩:Hs)).size+(rdL Ty.str x.1.2.2.2 x.2.2.toNat).size≤140737488355328)) (cond (decide ((((x.2.1++y2)++(⟨#[32]⟩:Hs))++(rdL Ty.str x.1.2.2.2 x.2.2.toNat)).size+(⟨#[10]⟩:Hs).size≤140737488355328)) (g (x.1,(((x.2.1++y2)++(⟨#[32]⟩:Hs))++(rdL Ty.str x.1.2.2.2 x.2.2.toNat))++(⟨#[10]⟩:Hs),IntKind.i64.wrap (x.2.2+1))) none) none) none) none) none) none) (cond (y4l x.2.2 x.1.2.2.1.length) ((t2j (rdL (Ty.int .i64) x.1.2.2.1 x.2.2.toNat)).bind fun y3=>cond (decide (x.2.1.size+y3.size≤140737488355328)) (cond (decide ((x.2.1++y3).size+(⟨#[32]⟩:Hs).size≤140737488355328)) (cond (decide (((x.2.1++y3)++(⟨#[32]⟩:Hs)).size+(⟨#[46]⟩:Hs).size≤140737488355328)) (cond (decide ((((x.2.1++y3)++(⟨#[32]⟩:Hs))++(⟨#[46]⟩:Hs)).size+(⟨#[10]⟩:Hs).size≤140737488355328)) (g (x.1,(((x.2.1++y3)++(⟨#[32]⟩:Hs))++(⟨#[46]⟩:Hs))++(⟨#[10]⟩:Hs),IntKind.i64.wrap (x.2.2+1))) none) none) none) none) none)) (some (.inl (x.1,x.2.1)))
def u4n:=lpW _ _ u7j
theorem t8o x:u4n x=u7j u4n x:=zW t72 12 Tryz.f12 3 48 x (by kernel_rfl)
def s2l (x:Z38):Ht Hs:=(u4n (x,(⟨#[]⟩:Hs),0)).bind fun r4=>match r4 with | .inl o5=>((t00 o5.1.1).bind fun y6=>cond (decide (o5.2.size+y6.size≤140737488355328)) (some (o5.2++y6)) none) | .inr z7=>none
theorem r50:t4t=s2l:=zC 12 rfl Tryz.func12 (by kernel_rfl)
def t4p(x:Z38):Ht Hs:=zK 14 x
def u68(g:Z24→Ht (Z32⊕Unit))(x:Z24):Ht (Z32⊕Unit):=cond (decide (x.2.2.2.2<x.2.2.2.1)) (cond (y4l x.2.2.2.2 x.2.2.1.length) (cond (decide (x.2.2.2.2<(x.1.2.2.2.length:Int))) (cond (y4l x.2.2.2.2 x.1.2.2.2.length) (cond (z7l (rdL Ty.str x.1.2.2.2 x.2.2.2.2.toNat) (⟨#[]⟩:Hs)) ((u16 (y8h (rdL (Ty.int .i64) x.2.2.1 x.2.2.2.2.toNat) (0:Int))).bind fun y1=>cond (decide (y1.size+(⟨#[32]⟩:Hs).size≤140737488355328)) (cond (decide ((y1++(⟨#[32]⟩:Hs)).size+(⟨#[46]⟩:Hs).size≤140737488355328)) (cond (decide (((y1++(⟨#[32]⟩:Hs))++(⟨#[46]⟩:Hs)).size+(⟨#[10]⟩:Hs).size≤140737488355328)) (cond (decide (x.2.1.size+(((y1++(⟨#[32]⟩:Hs))++(⟨#[46]⟩:Hs))++(⟨#[10]⟩:Hs)).size≤140737488355328)) (g (x.1,x.2.1++(((y1++(⟨#[32]⟩:Hs))++(⟨#[46]⟩:Hs))++(⟨#[10]⟩:Hs)),x.2.2.1,x.2.2.2.1,IntKind.i64.wrap (x.2.2.2.2+1))) none) none) none) none) ((u16 (y8h (rdL (Ty.int .i64) x.2.2.1 x.2.2.2.2.toNat) (0:Int))).bind fun y2=>cond (decide (y2.size+(⟨#[32]⟩:Hs).size≤140737488355328)) (cond (decide ((y2++(⟨#[32]⟩:Hs)).size+(rdL Ty.str x.1.2.2.2 x.2.2.2.2.toNat).size≤140737488355328)) (cond (decide (((y2++(⟨#[32]⟩:Hs))++(rdL Ty.str x.1.2.2.2 x.2.2.2.2.toNat)).size+(⟨#[10]⟩:Hs).size≤140737488355328)) (cond (decide (x.2.1.size+(((y2++(⟨#[32]⟩:Hs))++(rdL Ty.str x.1.2.2.2 x.2.2.2.2.toNat))++(⟨#[10]⟩:Hs)).size≤140737488355328)) (g (x.1,x.2.1++(((y2++(⟨#[32]⟩:Hs))++(rdL Ty.str x.1.2.2.2 x.2.2.2.2.toNat))++(⟨#[10]⟩:Hs)),x.2.2.1,x.2.2.2.1,IntKind.i64.wrap (x.2.2.2.2+1))) none) none) none) none)) none) (cond (z7l (⟨#[]⟩:Hs) (⟨#[]⟩:Hs)) ((u16 (y8h (rdL (Ty.int .i64) x.2.2.1 x.2.2.2.2.toNat) (0:Int))).bind fun y3=>cond (decide (y3.size+(⟨#[32]⟩:Hs).size≤140737488355328)) (cond (decide ((y3++(⟨#[32]⟩:Hs)).size+(⟨#[46]⟩:Hs).size≤140737488355328)) (cond (decide (((y3++(⟨#[32]⟩:Hs))++(⟨#[46]⟩:Hs)).size+(⟨#[10]⟩:Hs).size≤140737488355328)) (cond (decide (x.2.1.size+(((y3++(⟨#[32]⟩:Hs))++(⟨#[46]⟩:Hs))++(⟨#[10]⟩:Hs)).size≤140737488355328)) (g (x.1,x.2.1++(((y3++(⟨#[32]⟩:Hs))++(⟨#[46]⟩:Hs))++(⟨#[10]⟩:Hs)),x.2.2.1,x.2.2.2.1,IntKind.i64.wrap (x.2.2.2.2+1))) none) none) none) none) ((u16 (y8h (rdL (Ty.int .i64) x.2.2.1 x.2.2.2.2.toNat) (0:Int))).bind fun y4=>cond (decide (y4.size+(⟨#[32]⟩:Hs).size≤140737488355328)) (cond (decide ((y4++(⟨#[32]⟩:Hs)).size+(⟨#[]⟩:Hs).size≤140737488355328)) (cond (decide (((y4++(⟨#[32]⟩:Hs))++(⟨#[]⟩:Hs)).size+(⟨#[10]⟩:Hs).size≤140737488355328)) (cond (decide (x.2.1.size+(((y4++(⟨#[32]⟩:Hs))++(⟨#[]⟩:Hs))++(⟨#[10]⟩:Hs)).size≤140737488355328)) (g (x.1,x.2.1++(((y4++(⟨#[32]⟩:Hs))++(⟨#[]⟩:Hs))++(⟨#[10]⟩:Hs)),x.2.2.1,x.2.2.2.1,IntKind.i64.wrap (x.2.2.2.2+1))) none) none) none) none))) none) (some (.inl (x.1,x.2.1)))
def u4j:=lpW _ _ u68
theorem t8d x:u4j x=u68 u4j x:=zW t7r 14 Tryz.f14 3 42 x (by kernel_rfl)
def s16 (x:Z38):Ht Hs:=(u4j (x,(⟨#[]⟩:Hs),x.2.2.1,(x.2.2.1.length:Int),0)).bind fun r5=>match r5 with | .inl o6=>((u6x o6.1.1).bind fun y7=>cond (decide (o6.2.size+y7.size≤140737488355328)) (some (o6.2++y7)) none) | .inr z8=>none
theorem r5l:t4p=s16:=zC 14 rfl Tryz.func14 (by kernel_rfl)
def q17(x:r4a):Ht Bool:=zK 16 x
def q1i (x:r4a):Ht Bool:=some (decide ((x.length:Int)>(1048576:Int)))
theorem p0y:q17=q1i:=zC 16 rfl Tryz.func16 (by kernel_rfl)
def u0r(x:(Int×p84)):Ht Bool:=zK 130 x
def s49 (x:(Int×p84)):Ht Bool:=((cond (decide (x.1≥x.2.1)) (some (decide (x.1≤x.2.2))) (some false)):Ht Bool).bind fun j1=>some j1
theorem r4y:u0r=s49:=zC 130 rfl Tryz.func130 (by kernel_rfl)
def t86(x:o1o):Ht Bool:=zK 94 x
def s70 (x:o1o):Ht Bool:=(((u0r (x.1,1,12)).bind fun y1=>cond (!y1) (some true) (cond (decide (x.2.1<0)) (some true) (cond (decide ((x.2.2.1.size:Int)>(6:Int))) (some true) (cond (decide ((x.2.2.2.1.size:Int)>(20:Int))) (some true) (some (decide ((x.2.2.2.2.length:Int)>(10:Int)))))))):Ht Bool).bind fun j2=>cond j2 (some false) (((cond (decide (x.1=12)) (some true) (some (decide ((x.2.2.2.2.length:Int)=(0:Int))))):Ht Bool).bind fun j3=>some j3)
theorem r9z:t86=s70:=zC 94 rfl Tryz.func94 (by kernel_rfl)
def t84(x:Unit):Ht t1m:=zK 184 x
def s7v (x:Unit):Ht t1m:=some (([]:Hu u0m.den),([]:Hu u0a.den),([]:Hu u0a.den),0,1)
theorem t8y:t84=s7v:=zC 184 rfl Tryz.func184 (by kernel_rfl)
def t0w(x:Unit):Ht Z81:=zK 138 x
def t4m (x:Unit):Ht Z81:=(t84 ()).bind fun y1=>some (y1,([]:Hu u0a.den))
theorem s2v:t0w=t4m:=zC 138 rfl Tryz.func138 (by kernel_rfl)
def u3t(x:p84):Ht Hs:=zK 115 x
def u6c(g:(Int×(Int×(r4a×Int)))→Ht p9c)(x:(Int×(Int×(r4a×Int)))):Ht p9c:=cond (decide (x.2.2.2<x.1)) (cond (y4l x.2.2.2 x.2.2.1.length) (g (x.1,x.2.1,x.2.2.1.set x.2.2.2.toNat x.2.1,IntKind.i64.wrap (x.2.2.2+1))) none) (some (.inl x.2.2.1))
def u28:=lpW _ _ u6c
theorem t02 x:u28 x=u6c u28 x:=zW s3i 115 Tryz.f115 3 20 x (by kernel_rfl)
def t8v (x:p84):Ht Hs:=cond (decide (0≤x.1)&&decide (x.1≤1099511627776)) ((u28 (x.1,x.2,List.replicate x.1.toNat (Ty.int .u8).zero,0)).bind fun r1=>match r1 with | .inl o2=>some (y7e o2) | .inr z3=>none) none
theorem s85:u3t=t8v:=zC 115 rfl Tryz.func115 (by kernel_rfl)
def t9b(x:Unit):Ht Hs:=zK 225 x
def s8m (x:Unit):Ht Hs:=(u3t (64,0)).bind fun y1=>some y1
theorem q0k:t9b=s8m:=zC 225 rfl Tryz.func225 (by kernel_rfl)
def s9e(x:Int):Ht r3f:=zK 185 x
def t4j(g:o35→Ht p9d)(x:o35):Ht p9d:=cond (decide (x.2.2.2<x.1)) ((t9b ()).bind fun y2=>cond (Nat.ble (x.2.2.1.1.length+([y2]:Hu Hs).length) z8x) (g (x.1,x.2.1,(x.2.2.1.1++([y2]:Hu Hs),x.2.2.1.2),IntKind.i64.wrap (x.2.2.2+1))) none) (some (.inl (x.2.1,x.2.2.1)))
def u6h:=lpW _ _ t4j
theorem s3y x:u6h x=t4j u6h x:=zW s24 185 Tryz.f185 5 23 x (by kernel_rfl)
def s7z (x:Int):Ht r3f:=(u0r (x,1,100)).bind fun y1=>cond (!y1) (some ((([]:Hu Hs),([]:Hu r0c.den)),false)) ((u6h (x,(([]:Hu Hs),([]:Hu r0c.den)),(([]:Hu Hs),([]:Hu r0c.den)),0)).bind fun r3=>match r3 with | .inl o4=>some (o4.2,true) | .inr z5=>none)
theorem r9y:s9e=s7z:=zC 185 rfl Tryz.func185 (by kernel_rfl)
def u5i(x:Unit):Ht Int:=zK 186 x
def r3e (x:Unit):Ht Int:=some (97:Int)
theorem t9v:u5i=r3e:=zC 186 rfl Tryz.func186 (by kernel_rfl)
def t18(x:Unit):Ht t04:=zK 139 x
def r0u (x:Unit):Ht t04:=(u5i ()).bind fun y1=>(s9e y1).bind fun y2=>some y2.1
theorem q3f:t18=r0u:=zC 139 rfl Tryz.func139 (by kernel_rfl)
def u8h(x:Unit):Ht Z62:=zK 103 x
def t56 (x:Unit):Ht Z62:=(t0w ()).bind fun y1=>(t18 ()).bind fun y2=>some (y1,y2)
theorem s5l:u8h=t56:=zC 103 rfl Tryz.func103 (by kernel_rfl)
def t6y(x:Unit):Ht Z38:=zK 95 x
def s45 (x:Unit):Ht Z38:=(u8h ()).bind fun y1=>some (y1,([]:Hu u0a.den),([]:Hu Int),([]:Hu Hs))
theorem r7u:t6y=s45:=zC 95 rfl Tryz.func95 (by kernel_rfl)
def u0t(x:t6b):Ht t6b:=zK 151 x
def t3g (x:t6b):Ht t6b:=cond (Nat.ble (([]:Hu s11.den).length+x.2.2.2.2.1.length) z8x) (cond (Nat.ble (([]:Hu u36.den).length+x.2.2.2.2.2.1.length) z8x) (some (x.1,x.2.1,x.2.2.1,x.2.2.2.1,([]:Hu s11.den)++x.2.2.2.2.1,([]:Hu u36.den)++x.2.2.2.2.2.1,x.2.2.2.2.2.2)) none) none
theorem t8z:u0t=t3g:=zC 151 rfl Tryz.func151 (by kernel_rfl)
def u9u(x:p4n):Ht p4n:=zK 137 x
def t0j(g:o4a→Ht (p4n⊕Unit))(x:o4a):Ht (p4n⊕Unit):=cond (decide (x.2.2<(x.1.length:Int))) (cond (y4l x.2.2 x.1.length) ((u0t (rdL u0a x.1 x.2.2.toNat)).bind fun y1=>cond (Nat.ble (x.2.1.length+([y1]:Hu u0a.den).length) z8x) (g (x.1,x.2.1++([y1]:Hu u0a.den),IntKind.i64.wrap (x.2.2+1))) none) none) (some (.inl x.2.1))
def t0t:=lpW _ _ t0j
theorem s4e x:t0t x=t0j t0t x:=zW s3n 137 Tryz.f137 3 21 x (by kernel_rfl)
def s8t (x:p4n):Ht p4n:=(t0t (x,([]:Hu u0a.den),0)).bind fun r2=>match r2 with | .inl o3=>some o3 | .inr z4=>none
theorem q0r:u9u=s8t:=zC 137 rfl Tryz.func137 (by kernel_rfl)
def u1o(x:t1m):Ht t1m:=zK 136 x
def s8s (x:t1m):Ht t1m:=cond (Nat.ble (([]:Hu u0m.den).length+x.1.length) z8x) ((u9u x.2.1).bind fun y1=>(u9u x.2.2.1).bind fun y2=>some (([]:Hu u0m.den)++x.1,y1,y2,x.2.2.2)) none
theorem q0q:u1o=s8s:=zC 136 rfl Tryz.func136 (by kernel_rfl)
def u0l(x:Z81):Ht Z81:=zK 101 x
def s8w (x:Z81):Ht Z81:=(u1o x.1).bind fun y1=>(u9u x.2).bind fun y2=>some (y1,y2)
theorem q0u:u0l=s8w:=zC 101 rfl Tryz.func101 (by kernel_rfl)
def u3p(x:Hs):Ht Bool:=zK 187 x
def t26(g:p0c→Ht (Hs⊕Bool))(x:p0c):Ht (Hs⊕Bool):=cond (decide (x.2<(x.1.size:Int))) (((cond (y4l x.2 x.1.size) (cond (decide (((x.1.data.toList.getD x.2.toNat 0).toNat:Int)<(97:Int))) (some true) (cond (y4l x.2 x.1.size) (some (decide (((x.1.data.toList.getD x.2.toNat 0).toNat:Int)>(122:Int)))) none)) none):Ht Bool).bind fun j1=>cond j1 (some (.inr false)) (g (x.1,IntKind.i64.wrap (x.2+1)))) (some (.inl x.1))
def t3c:=lpW _ _ t26
theorem s9k x:t3c x=t26 t3c x:=zW s88 187 Tryz.f187 2 23 x (by kernel_rfl)
def r4l (x:Hs):Ht Bool:=(t3c (x,0)).bind fun r2=>match r2 with | .inl o3=>((u0r ((o3.size:Int),1,3)).bind fun y4=>some y4) | .inr z5=>some z5
theorem q5x:u3p=r4l:=zC 187 rfl Tryz.func187 (by kernel_rfl)
def u9r(x:p7k):Ht Bool:=zK 190 x
def s76 (x:p7k):Ht Bool:=(((u3p x.1).bind fun y1=>cond y1 ((u3p x.2).bind fun y2=>cond y2 (some (y2y x.1 x.2||z7l x.1 x.2)) (some false)) (some false)):Ht Bool).bind fun j3=>some j3
theorem r95:u9r=s76:=zC 190 rfl Tryz.func190 (by kernel_rfl)
def u9s(x:(Hs×s9r)):Ht Bool:=zK 192 x
def s8f (x:(Hs×s9r)):Ht Bool:=(((u3p x.1).bind fun y1=>cond y1 (cond (decide ((x.2.1.size:Int)≤(12:Int))) (cond (!x.2.2) (some true) (some (z7l x.2.1 (⟨#[]⟩:Hs)))) (some false)) (some false)):Ht Bool).bind fun j2=>some j2
theorem q0e:u9s=s8f:=zC 192 rfl Tryz.func192 (by kernel_rfl)
def t2d(x:p4o):Ht Bool:=zK 226 x
def u82(g:(p4o×Int)→Ht (p4o⊕Bool))(x:(p4o×Int)):Ht (p4o⊕Bool):=cond (decide (x.2<(x.1.length:Int))) (((cond (y4l x.2 x.1.length) ((u9s (rdL u36 x.1 x.2.toNat)).bind fun y1=>cond (!y1) (some true) (cond (decide (x.2>0)) (cond (y4l (IntKind.i64.wrap (x.2 - 1)) x.1.length) (cond (y4l x.2 x.1.length) (some (!y2y (rdL u36 x.1 (IntKind.i64.wrap (x.2 - 1)).toNat).1 (rdL u36 x.1 x.2.toNat).1)) none) none) (some false))) none):Ht Bool).bind fun j2=>cond j2 (some (.inr false)) (g (x.1,IntKind.i64.wrap (x.2+1)))) (some (.inl x.1))
def u89:=lpW _ _ u82
theorem s00 x:u89 x=u82 u89 x:=zW s0c 226 Tryz.f226 2 37 x (by kernel_rfl)
def s47 (x:p4o):Ht Bool:=(u89 (x,0)).bind fun r3=>match r3 with | .inl o4=>some (decide ((o4.length:Int)≤(8:Int))) | .inr z5=>some z5
theorem r7w:t2d=s47:=zC 226 rfl Tryz.func226 (by kernel_rfl)
def u3r(x:t6b):Ht Bool:=zK 201 x
def t3a(g:p4y→Ht (t6b⊕Bool))(x:p4y):Ht (t6b⊕Bool):=cond (decide (x.2<(x.1.2.2.2.2.1.length:Int))) (cond (y4l x.2 x.1.2.2.2.2.1.length) ((u9r (rdL s11 x.1.2.2.2.2.1 x.2.toNat)).bind fun y6=>cond (!y6) (some (.inr false)) (g (x.1,IntKind.i64.wrap (x.2+1)))) none) (some (.inl x.1))
def t3f:=lpW _ _ t3a
theorem s9o x:t3f x=t3a t3f x:=zW s9c 201 Tryz.f201 4 95 x (by kernel_rfl)
def r4q (x:t6b):Ht Bool:=(((u0r (x.1,1,9999)).bind fun y1=>cond (!y1) (some true) ((u0r (x.2.1,1,3)).bind fun y2=>cond (!y2) (some true) ((u0r (x.2.2.1,0,9999)).bind fun y3=>cond (!y3) (some true) (cond (decide ((x.2.2.2.2.1.length:Int)>(8:Int))) (some true) ((t2d x.2.2.2.2.2.1).bind fun y4=>some (!y4)))))):Ht Bool).bind fun j5=>cond j5 (some false) ((t3f (x,0)).bind fun r7=>match r7 with | .inl o8=>(((cond (decide (o8.2.1=3)) ((u0r (o8.2.2.2.1,IntKind.i64.wrap (o8.2.2.1+1),9999)).bind fun y9=>cond (!y9) (some true) (cond (!decide (o8.2.1=3)) (some (!decide (o8.2.2.2.1=0))) (some false))) (cond (!decide (o8.2.1=3)) (some (!decide (o8.2.2.2.1=0))) (some false))):Ht Bool).bind fun j10=>cond j10 (some false) (((cond (decide (o8.2.1=2)) ((u3p o8.2.2.2.2.2.2.2).bind fun y11=>cond (!y11) (some true) (cond (!decide (o8.2.1=2)) (some (!z7l o8.2.2.2.2.2.2.2 (⟨#[]⟩:Hs))) (some false))) (cond (!decide (o8.2.1=2)) (some (!z7l o8.2.2.2.2.2.2.2 (⟨#[]⟩:Hs))) (some false))):Ht Bool).bind fun j12=>cond j12 (some false) (((cond (!decide (o8.2.1=1)) (some true) (some (!o8.2.2.2.2.2.2.1))):Ht Bool).bind fun j13=>some j13))) | .inr z14=>some z14)
theorem q52:u3r=r4q:=zC 201 rfl Tryz.func201 (by kernel_rfl)
def t21(x:q2m):Ht Bool:=zK 235 x
def u5t(g:(q2m×Int)→Ht (q2m⊕Bool))(x:(q2m×Int)):Ht (q2m⊕Bool):=cond (decide (x.2<(x.1.length:Int))) (cond (y4l x.2 x.1.length) ((((u3p (rdL u0m x.1 x.2.toNat).1).bind fun y1=>cond (!y1) (some true) (cond (decide (((rdL u0m x.1 x.2.toNat).2.1.size:Int)>(12:Int))) (some true) (cond (rdL u0m x.1 x.2.toNat).2.2.1 (cond (!z7l (rdL u0m x.1 x.2.toNat).2.1 (⟨#[]⟩:Hs)) (some true) ((u0r ((rdL u0m x.1 x.2.toNat).2.2.2,1,9999)).bind fun y2=>some (!y2))) ((u0r ((rdL u0m x.1 x.2.toNat).2.2.2,1,9999)).bind fun y3=>some (!y3))))):Ht Bool).bind fun j4=>cond j4 (some (.inr false)) (((cond (decide (x.2>0)) (cond (y4l (IntKind.i64.wrap (x.2 - 1)) x.1.length) (cond (!(y2y (rdL u0m x.1 (IntKind.i64.wrap (x.2 - 1)).toNat).1 (rdL u0m x.1 x.2.toNat).1||z7l (rdL u0m x.1 (IntKind.i64.wrap (x.2 - 1)).toNat).1 (rdL u0m x.1 x.2.toNat).1)) (some true) (cond (y4l (IntKind.i64.wrap (x.2 - 1)) x.1.length) (cond (z7l (rdL u0m x.1 (IntKind.i64.wrap (x.2 - 1)).toNat).1 (rdL u0m x.1 x.2.toNat).1) (cond (y4l (IntKind.i64.wrap (x.2 - 1)) x.1.length) (some (decide ((rdL u0m x.1 (IntKind.i64.wrap (x.2 - 1)).toNat).2.2.2≥(rdL u0m x.1 x.2.toNat).2.2.2))) none) (some false)) none)) none) (some false)):Ht Bool).bind fun j5=>cond j5 (some (.inr false)) (g (x.1,IntKind.i64.wrap (x.2+1))))) none) (some (.inl x.1))
def u5x:=lpW _ _ u5t
theorem t68 x:u5x x=u5t u5x x:=zW t6n 235 Tryz.f235 2 78 x (by kernel_rfl)
def t9m (x:q2m):Ht Bool:=(u5x (x,0)).bind fun r6=>match r6 with | .inl o7=>some (decide ((o7.length:Int)≤(120:Int))) | .inr z8=>some z8
theorem r3o:t21=t9m:=zC 235 rfl Tryz.func235 (by kernel_rfl)
def u4r(x:t1m):Ht Bool:=zK 200 x
def t1q(g:p94→Ht (t1m⊕Bool))(x:p94):Ht (t1m⊕Bool):=cond (decide (x.2<(x.1.1.length:Int))) (cond (y4l x.2 x.1.1.length) (cond (decide ((rdL u0m x.1.1 x.2.toNat).2.2.2>x.1.2.2.2.1)) (some (.inr false)) (g (x.1,IntKind.i64.wrap (x.2+1)))) none) (some (.inl x.1))
def u73:=lpW _ _ t1q
theorem s6p x:u73 x=t1q u73 x:=zW s5v 200 Tryz.f200 4 179 x (by kernel_rfl)
def u9z(g:Z87→Ht (Z95⊕Bool))(x:Z87):Ht (Z95⊕Bool):=cond (decide (x.2.2<(x.1.2.1.length:Int))) (cond (y4l x.2.2 x.1.2.1.length) ((((u3r (rdL u0a x.1.2.1 x.2.2.toNat)).bind fun y7=>cond (!y7) (some true) (cond (!decide ((rdL u0a x.1.2.1 x.2.2.toNat).2.1=3)) (some true) (cond (decide ((rdL u0a x.1.2.1 x.2.2.toNat).2.2.2.1>x.1.2.2.2.1)) (some true) (cond (decide (x.2.2>0)) (cond (y4l (IntKind.i64.wrap (x.2.2 - 1)) x.1.2.1.length) (some (decide ((rdL u0a x.1.2.1 (IntKind.i64.wrap (x.2.2 - 1)).toNat).2.2.2.1≥(rdL u0a x.1.2.1 x.2.2.toNat).2.2.2.1))) none) (some false))))):Ht Bool).bind fun j8=>cond j8 (some (.inr false)) (cond (Nat.ble (x.2.1.length+([(rdL u0a x.1.2.1 x.2.2.toNat).1]:Hu Int).length) z8x) (g (x.1,x.2.1++([(rdL u0a x.1.2.1 x.2.2.toNat).1]:Hu Int),IntKind.i64.wrap (x.2.2+1))) none)) none) (some (.inl (x.1,x.2.1)))
def u39:=lpW _ _ u9z
theorem s3s x:u39 x=u9z u39 x:=zW s2x 200 Tryz.f200 10 179 x (by kernel_rfl)
def u90(g:Z87→Ht (Z95⊕Bool))(x:Z87):Ht (Z95⊕Bool):=cond (decide (x.2.2<(x.1.2.2.1.length:Int))) (cond (y4l x.2.2 x.1.2.2.1.length) ((((u3r (rdL u0a x.1.2.2.1 x.2.2.toNat)).bind fun y11=>cond (!y11) (some true) (cond (!decide ((rdL u0a x.1.2.2.1 x.2.2.toNat).2.1=2)) (some true) (cond (decide ((rdL u0a x.1.2.2.1 x.2.2.toNat).2.2.1>x.1.2.2.2.1)) (some true) (cond (decide (x.2.2>0)) (cond (y4l (IntKind.i64.wrap (x.2.2 - 1)) x.1.2.2.1.length) (some (!y2y (rdL u0a x.1.2.2.1 (IntKind.i64.wrap (x.2.2 - 1)).toNat).2.2.2.2.2.2.2 (rdL u0a x.1.2.2.1 x.2.2.toNat).2.2.2.2.2.2.2)) none) (some false))))):Ht Bool).bind fun j12=>cond j12 (some (.inr false)) (cond (Nat.ble (x.2.1.length+([(rdL u0a x.1.2.2.1 x.2.2.toNat).1]:Hu Int).length) z8x) (g (x.1,x.2.1++([(rdL u0a x.1.2.2.1 x.2.2.toNat).1]:Hu Int),IntKind.i64.wrap (x.2.2+1))) none)) none) (some (.inl (x.1,x.2.1)))
def u6e:=lpW _ _ u90
theorem s3t x:u6e x=u90 u6e x:=zW s2y 200 Tryz.f200 17 179 x (by kernel_rfl)
def u92(g:Z84→Ht (Z87⊕Bool))(x:Z84):Ht (Z87⊕Bool):=cond (decide (x.2.2.2<x.2.2.1)) (cond (y4l x.2.2.2 x.2.1.length) (cond (y4l x.2.2.1 x.2.1.length) (cond (decide ((rdL (Ty.int .i64) x.2.1 x.2.2.2.toNat)=(rdL (Ty.int .i64) x.2.1 x.2.2.1.toNat))) (some (.inr false)) (g (x.1,x.2.1,x.2.2.1,IntKind.i64.wrap (x.2.2.2+1)))) none) none) (some (.inl (x.1,x.2.1,x.2.2.1)))
def u6f:=lpW _ _ u92
theorem s3v x:u6f x=u92 u6f x:=zW s20 200 Tryz.f200 27 179 x (by kernel_rfl)
def u91(g:Z87→Ht r9h)(x:Z87):Ht r9h:=cond (decide (x.2.2<(x.2.1.length:Int))) ((u6f (x.1,x.2.1,x.2.2,0)).bind fun r15=>match r15 with | .inl o16=>cond (y4l o16.2.2 o16.2.1.length) (cond (decide ((rdL (Ty.int .i64) o16.2.1 o16.2.2.toNat)≥o16.1.2.2.2.2)) (some (.inr false)) (g (o16.1,o16.2.1,IntKind.i64.wrap (o16.2.2+1)))) none | .inr z17=>some (.inr z17)) (some (.inl ()))
def u4a:=lpW _ _ u91
theorem s3u x:u4a x=u91 u4a x:=zW s2z 200 Tryz.f200 24 179 x (by kernel_rfl)
def r0n (x:t1m):Ht Bool:=(((t21 x.1).bind fun y1=>cond (!y1) (some true) (cond (decide ((x.2.1.length:Int)>(12:Int))) (some true) (cond (decide ((x.2.2.1.length:Int)>(3:Int))) (some true) ((u0r (x.2.2.2.1,0,9999)).bind fun y2=>cond (!y2) (some true) ((u0r (x.2.2.2.2,1,9999)).bind fun y3=>some (!y3)))))):Ht Bool).bind fun j4=>cond j4 (some false) ((u73 (x,0)).bind fun r5=>match r5 with | .inl o6=>((u39 (o6,([]:Hu Int),0)).bind fun r9=>match r9 with | .inl o10=>((u6e (o10.1,o10.2,0)).bind fun r13=>match r13 with | .inl o14=>((u4a (o14.1,o14.2,0)).bind fun r18=>match r18 with | .inl o19=>some true | .inr z20=>some z20) | .inr z21=>some z21) | .inr z22=>some z22) | .inr z23=>some z23)
theorem q28:u4r=r0n:=zC 200 rfl Tryz.func200 (by kernel_rfl)
def t6t(x:Z81):Ht Bool:=zK 154 x
def u7a(g:Z39→Ht (Z42⊕Bool))(x:Z39):Ht (Z42⊕Bool):=cond (decide (x.2.2.2<(x.1.1.2.1.length:Int))) (cond (y4l x.2.2.2 x.1.1.2.1.length) (cond (decide ((rdL u0a x.1.1.2.1 x.2.2.2.toNat).1=x.2.2.1.1)) (some (.inr false)) (g (x.1,x.2.1,x.2.2.1,IntKind.i64.wrap (x.2.2.2+1)))) none) (some (.inl (x.1,x.2.1,x.2.2.1)))
def u4k:=lpW _ _ u7a
theorem t8f x:u4k x=u7a u4k x:=zW t7t 154 Tryz.f154 10 105 x (by kernel_rfl)
def u7b(g:Z39→Ht (Z77⊕Bool))(x:Z39):Ht (Z77⊕Bool):=cond (decide (x.2.2.2<(x.1.1.2.2.1.length:Int))) (cond (y4l x.2.2.2 x.1.1.2.2.1.length) (cond (decide ((rdL u0a x.1.1.2.2.1 x.2.2.2.toNat).1=x.2.2.1.1)) (some (.inr false)) (g (x.1,x.2.1,x.2.2.1,IntKind.i64.wrap (x.2.2.2+1)))) none) (some (.inl (x.1,x.2.1)))
def u21:=lpW _ _ u7b
theorem t8g x:u21 x=u7b u21 x:=zW t7u 154 Tryz.f154 15 105 x (by kernel_rfl)
def u8q(g:Z77→Ht r9h)(x:Z77):Ht r9h:=cond (decide (x.2<(x.1.2.length:Int))) (cond (y4l x.2 x.1.2.length) ((((u3r (rdL u0a x.1.2 x.2.toNat)).bind fun y3=>cond (!y3) (some true) (cond (!decide ((rdL u0a x.1.2 x.2.toNat).2.1=1)) (some true) (cond (decide ((rdL u0a x.1.2 x.2.toNat).1≥x.1.1.2.2.2.2)) (some true) (cond (decide ((rdL u0a x.1.2 x.2.toNat).2.2.1>x.1.1.2.2.2.1)) (some true) (cond (decide (x.2>0)) (cond (y4l (IntKind.i64.wrap (x.2 - 1)) x.1.2.length) (some (decide ((rdL u0a x.1.2 (IntKind.i64.wrap (x.2 - 1)).toNat).1≥(rdL u0a x.1.2 x.2.toNat).1))) none) (some false)))))):Ht Bool).bind fun j4=>cond j4 (some (.inr false)) ((u4k (x.1,x.2,rdL u0a x.1.2 x.2.toNat,0)).bind fun r5=>match r5 with | .inl o6=>((u21 (o6.1,o6.2.1,o6.2.2,0)).bind fun r7=>match r7 with | .inl o8=>g (o8.1,IntKind.i64.wrap (o8.2+1)) | .inr z9=>some (.inr z9)) | .inr z10=>some (.inr z10))) none) (some (.inl ()))
def u3v:=lpW _ _ u8q
theorem s0p x:u3v x=u8q u3v x:=zW t91 154 Tryz.f154 4 105 x (by kernel_rfl)
def s4t (x:Z81):Ht Bool:=(((u4r x.1).bind fun y1=>cond (!y1) (some true) (some (decide ((x.2.length:Int)>(4:Int))))):Ht Bool).bind fun j2=>cond j2 (some false) ((u3v (x,0)).bind fun r11=>match r11 with | .inl o12=>some true | .inr z13=>some z13)
theorem r7j:t6t=s4t:=zC 154 rfl Tryz.func154 (by kernel_rfl)
def u5n(x:Z81):Ht Z73:=zK 108 x
def r4j (x:Z81):Ht Z73:=(u0l x).bind fun y1=>(((t6t x).bind fun y2=>cond (!y2) (some true) (cond (decide ((x.2.length:Int)≥(4:Int))) (some true) (some (decide (x.1.2.2.2.2≥9999))))):Ht Bool).bind fun j3=>cond j3 (some (y1,0,3)) (cond (Nat.ble (y1.2.length+([(x.1.2.2.2.2,1,x.1.2.2.2.1,0,([]:Hu s11.den),([]:Hu u36.den),false,(⟨#[]⟩:Hs))]:Hu u0a.den).length) z8x) (some (((y1.1.1,y1.1.2.1,y1.1.2.2.1,y1.1.2.2.2.1,IntKind.i64.wrap (x.1.2.2.2.2+1)),y1.2++([(x.1.2.2.2.2,1,x.1.2.2.2.1,0,([]:Hu s11.den),([]:Hu u36.den),false,(⟨#[]⟩:Hs))]:Hu u0a.den)),x.1.2.2.2.2,0)) none)
theorem q5v:u5n=r4j:=zC 108 rfl Tryz.func108 (by kernel_rfl)
def u2q(x:Z77):Ht Int:=zK 181 x
def u7z(g:Z74→Ht (Unit⊕Int))(x:Z74):Ht (Unit⊕Int):=cond (decide (x.2.2<(x.2.1.2.length:Int))) (cond (y4l x.2.2 x.2.1.2.length) (cond (decide ((rdL u0a x.2.1.2 x.2.2.toNat).1=x.1)) (some (.inr x.2.2)) (g (x.1,x.2.1,IntKind.i64.wrap (x.2.2+1)))) none) (some (.inl ()))
def u75:=lpW _ _ u7z
theorem s6t x:u75 x=u7z u75 x:=zW s5z 181 Tryz.f181 2 22 x (by kernel_rfl)
def r0v (x:Z77):Ht Int:=(u75 (x.2,x.1,0)).bind fun r1=>match r1 with | .inl o2=>some (- 1:Int) | .inr z3=>some z3
theorem q3g:u2q=r0v:=zC 181 rfl Tryz.func181 (by kernel_rfl)
def t0x(x:o3w):Ht p87:=zK 188 x
def u7f(g:Z23→Ht (Z26⊕p87))(x:Z23):Ht (Z26⊕p87):=cond (decide (x.2.2.2.2<(x.1.2.2.2.2.1.length:Int))) (cond (y4l x.2.2.2.2 x.1.2.2.2.2.1.length) (cond (z7l (rdL s11 x.1.2.2.2.2.1 x.2.2.2.2.toNat).1 x.2.1.1&&(z7l (rdL s11 x.1.2.2.2.2.1 x.2.2.2.2.toNat).2 x.2.1.2&&true)) (some (.inr (x.2.2.2.1,true))) (g (x.1,x.2.1,x.2.2.1,x.2.2.2.1,IntKind.i64.wrap (x.2.2.2.2+1)))) none) (some (.inl (x.1,x.2.1,x.2.2.1,x.2.2.2.1)))
def u4l:=lpW _ _ u7f
theorem t8k x:u4l x=u7f u4l x:=zW t7y 188 Tryz.f188 5 51 x (by kernel_rfl)
def s2f (x:o3w):Ht p87:=(u0t x.1).bind fun y1=>(((u3r x.1).bind fun y2=>cond (!y2) (some true) (cond (!decide (x.1.2.1=1)) (some true) ((u9r x.2).bind fun y3=>some (!y3)))):Ht Bool).bind fun j4=>cond j4 (some (y1,false)) ((u4l (x.1,x.2,(0,0,0,0,([]:Hu s11.den),([]:Hu u36.den),false,(⟨#[]⟩:Hs)),y1,0)).bind fun r5=>match r5 with | .inl o6=>cond (decide ((o6.1.2.2.2.2.1.length:Int)≥(8:Int))) (some (o6.2.2.2,false)) (cond (Nat.ble (o6.2.2.2.2.2.2.2.1.length+([o6.2.1]:Hu s11.den).length) z8x) (some ((o6.2.2.2.1,o6.2.2.2.2.1,o6.2.2.2.2.2.1,o6.2.2.2.2.2.2.1,o6.2.2.2.2.2.2.2.1++([o6.2.1]:Hu s11.den),o6.2.2.2.2.2.2.2.2),true)) none) | .inr z7=>some z7)
theorem r5u:t0x=s2f:=zC 188 rfl Tryz.func188 (by kernel_rfl)
def t5t(x:Z96):Ht s9r:=zK 189 x
def u70(g:Z88→Ht (Z94⊕s9r))(x:Z88):Ht (Z94⊕s9r):=cond (decide (x.2.2.2<(x.2.2.1.2.2.2.2.2.1.length:Int))) (cond (y4l x.2.2.2 x.2.2.1.2.2.2.2.2.1.length) (cond (z7l (rdL u36 x.2.2.1.2.2.2.2.2.1 x.2.2.2.toNat).1 x.2.1) (cond (y4l x.2.2.2 x.2.2.1.2.2.2.2.2.1.length) (cond (rdL u36 x.2.2.1.2.2.2.2.2.1 x.2.2.2.toNat).2.2 (some (.inr ((⟨#[]⟩:Hs),false))) (cond (y4l x.2.2.2 x.2.2.1.2.2.2.2.2.1.length) (some (.inr ((rdL u36 x.2.2.1.2.2.2.2.2.1 x.2.2.2.toNat).2.1,true))) none)) none) (g (x.1,x.2.1,x.2.2.1,IntKind.i64.wrap (x.2.2.2+1)))) none) (some (.inl (x.1,x.2.1,x.2.2.1)))
def u76:=lpW _ _ u70
theorem s6u x:u76 x=u70 u76 x:=zW s50 189 Tryz.f189 2 43 x (by kernel_rfl)
def r0w (x:Z96):Ht s9r:=(u76 (x.2.1,x.2.2,x.1,0)).bind fun r1=>match r1 with | .inl o2=>((t5u (o2.1,o2.2.1,o2.2.2.2.2.1)).bind fun y3=>some y3) | .inr z4=>some z4
theorem q3h:t5t=r0w:=zC 189 rfl Tryz.func189 (by kernel_rfl)
def u53(x:Z71):Ht Z68:=zK 140 x
def r0t (x:Z71):Ht Z68:=(u0l x.1).bind fun y1=>(u2q (x.1,x.2.1)).bind fun y2=>cond (decide (y2<0)) (some (y1,(⟨#[]⟩:Hs),false,1)) ((u3p x.2.2).bind fun y3=>cond (!y3) (some (y1,(⟨#[]⟩:Hs),false,2)) (cond (y4l y2 x.1.2.length) ((t0x (rdL u0a x.1.2 y2.toNat,x.2.2,x.2.2)).bind fun y4=>cond (!y4.2) (some (y1,(⟨#[]⟩:Hs),false,3)) (cond (y4l y2 y1.2.length) ((t5t (y4.1,x.1.1.1,x.2.2)).bind fun y5=>some ((y1.1,y1.2.set y2.toNat y4.1),y5.1,y5.2,0)) none)) none))
theorem q3e:u53=r0t:=zC 140 rfl Tryz.func140 (by kernel_rfl)
def t87(x:Z85):Ht q8y:=zK 191 x
def u96(g:Z72→Ht (Z75⊕Unit))(x:Z72):Ht (Z75⊕Unit):=cond (decide (x.2.2.2.2<(x.2.1.2.2.2.2.2.1.length:Int))) (cond (y4l x.2.2.2.2 x.2.1.2.2.2.2.2.1.length) (cond (Nat.ble (x.2.2.2.1.length+([((rdL u36 x.2.1.2.2.2.2.2.1 x.2.2.2.2.toNat).1,(⟨#[]⟩:Hs),false,0)]:Hu u0m.den).length) z8x) (g (x.1,x.2.1,x.2.2.1,x.2.2.2.1++([((rdL u36 x.2.1.2.2.2.2.2.1 x.2.2.2.2.toNat).1,(⟨#[]⟩:Hs),false,0)]:Hu u0m.den),IntKind.i64.wrap (x.2.2.2.2+1))) none) none) (some (.inl (x.1,x.2.1,x.2.2.1,x.2.2.2.1)))
def u6j:=lpW _ _ u96
theorem s30 x:u6j x=u96 u6j x:=zW s26 191 Tryz.f191 3 65 x (by kernel_rfl)
def u97(g:Z76→Ht p9b)(x:Z76):Ht p9b:=cond (decide (x.2.2.2.2<(x.2.2.2.1.length:Int))) (cond (y4l x.2.2.2.2 x.2.2.2.1.length) ((t5t (x.2.1,x.1,rdL Ty.str x.2.2.2.1 x.2.2.2.2.toNat)).bind fun y4=>cond y4.2 (cond (y4l x.2.2.2.2 x.2.2.2.1.length) (cond (Nat.ble (x.2.2.1.length+([(rdL Ty.str x.2.2.2.1 x.2.2.2.2.toNat,y4.1)]:Hu s11.den).length) z8x) (g (x.1,x.2.1,x.2.2.1++([(rdL Ty.str x.2.2.2.1 x.2.2.2.2.toNat,y4.1)]:Hu s11.den),x.2.2.2.1,IntKind.i64.wrap (x.2.2.2.2+1))) none) none) (g (x.1,x.2.1,x.2.2.1,x.2.2.2.1,IntKind.i64.wrap (x.2.2.2.2+1)))) none) (some (.inl x.2.2.1))
def t0n:=lpW _ _ u97
theorem s31 x:t0n x=u97 t0n x:=zW s27 191 Tryz.f191 9 65 x (by kernel_rfl)
def s73 (x:Z85):Ht q8y:=cond (Nat.ble (([]:Hu u0m.den).length+x.2.1.length) z8x) ((u6j (x.2.1,x.1,x.2.2,([]:Hu u0m.den)++x.2.1,0)).bind fun r1=>match r1 with | .inl o2=>((t3r (o2.2.2.2,o2.2.2.1)).bind fun y3=>(t0n (o2.1,o2.2.1,([]:Hu s11.den),y3,0)).bind fun r5=>match r5 with | .inl o6=>some o6 | .inr z7=>none) | .inr z8=>none) none
theorem r92:t87=s73:=zC 191 rfl Tryz.func191 (by kernel_rfl)
def u33(x:Z64):Ht Z69:=zK 142 x
def s42 (x:Z64):Ht Z69:=(u0l x.1).bind fun y1=>(u2q (x.1,x.2.1)).bind fun y2=>cond (decide (y2<0)) (some (y1,([]:Hu s11.den),1)) ((u9r x.2.2).bind fun y3=>cond (!y3) (some (y1,([]:Hu s11.den),2)) (cond (y4l y2 x.1.2.length) ((t0x (rdL u0a x.1.2 y2.toNat,x.2.2)).bind fun y4=>cond (!y4.2) (some (y1,([]:Hu s11.den),3)) (cond (y4l y2 y1.2.length) ((t87 (y4.1,x.1.1.1,x.2.2)).bind fun y5=>some ((y1.1,y1.2.set y2.toNat y4.1),y5,0)) none)) none))
theorem r7s:u33=s42:=zC 142 rfl Tryz.func142 (by kernel_rfl)
def t19(x:o4x):Ht p4o:=zK 116 x
def u8t(g:o1i→Ht (o4f⊕Unit))(x:o1i):Ht (o4f⊕Unit):=cond (decide (x.2.2.2<(x.1.length:Int))) (cond (y4l x.2.2.2 x.1.length) (cond (y2y (rdL u36 x.1 x.2.2.2.toNat).1 x.2.1.1) (cond (y4l x.2.2.2 x.1.length) (cond (Nat.ble (x.2.2.1.length+([(rdL u36 x.1 x.2.2.2.toNat)]:Hu u36.den).length) z8x) (g (x.1,x.2.1,x.2.2.1++([(rdL u36 x.1 x.2.2.2.toNat)]:Hu u36.den),IntKind.i64.wrap (x.2.2.2+1))) none) none) (g (x.1,x.2.1,x.2.2.1,IntKind.i64.wrap (x.2.2.2+1)))) none) (some (.inl (x.1,x.2.1,x.2.2.1)))
def u86:=lpW _ _ u8t
theorem s0r x:u86 x=u8t u86 x:=zW t93 116 Tryz.f116 3 56 x (by kernel_rfl)
def u8u(g:o1i→Ht (p4o⊕Unit))(x:o1i):Ht (p4o⊕Unit):=cond (decide (x.2.2.2<(x.1.length:Int))) (cond (y4l x.2.2.2 x.1.length) (cond (!(y2y (rdL u36 x.1 x.2.2.2.toNat).1 x.2.1.1||z7l (rdL u36 x.1 x.2.2.2.toNat).1 x.2.1.1)) (cond (y4l x.2.2.2 x.1.length) (cond (Nat.ble (x.2.2.1.length+([(rdL u36 x.1 x.2.2.2.toNat)]:Hu u36.den).length) z8x) (g (x.1,x.2.1,x.2.2.1++([(rdL u36 x.1 x.2.2.2.toNat)]:Hu u36.den),IntKind.i64.wrap (x.2.2.2+1))) none) none) (g (x.1,x.2.1,x.2.2.1,IntKind.i64.wrap (x.2.2.2+1)))) none) (some (.inl x.2.2.1))
def u87:=lpW _ _ u8u
theorem s0s x:u87 x=u8u u87 x:=zW t94 116 Tryz.f116 9 56 x (by kernel_rfl)
def s4x (x:o4x):Ht p4o:=(u86 (x.1,x.2,([]:Hu u36.den),0)).bind fun r1=>match r1 with | .inl o2=>cond (Nat.ble (o2.2.2.length+([o2.2.1]:Hu u36.den).length) z8x) ((u87 (o2.1,o2.2.1,o2.2.2++([o2.2.1]:Hu u36.den),0)).bind fun r3=>match r3 with | .inl o4=>some o4 | .inr z5=>none) none | .inr z6=>none
theorem r7n:t19=s4x:=zC 116 rfl Tryz.func116 (by kernel_rfl)
def t6z(x:Z98):Ht p87:=zK 193 x
def s46 (x:Z98):Ht p87:=(u0t x.1).bind fun y1=>(((u3r x.1).bind fun y2=>cond (!y2) (some true) (cond (!decide (x.1.2.1=1)) (some true) ((u9s x.2).bind fun y3=>some (!y3)))):Ht Bool).bind fun j4=>cond j4 (some (y1,false)) ((t19 (x.1.2.2.2.2.2.1,x.2)).bind fun y5=>(t2d y5).bind fun y6=>cond (!y6) ((u0t x.1).bind fun y7=>some (y7,false)) (some ((y1.1,y1.2.1,y1.2.2.1,y1.2.2.2.1,y1.2.2.2.2.1,y5,y1.2.2.2.2.2.2),true)))
theorem r7v:t6z=s46:=zC 193 rfl Tryz.func193 (by kernel_rfl)
def u4s(x:Z61):Ht Z77:=zK 144 x
def r0y (x:Z61):Ht Z77:=(u0l x.1).bind fun y1=>(u2q (x.1,x.2.1)).bind fun y2=>cond (decide (y2<0)) (some (y1,1)) ((u9s x.2.2).bind fun y3=>cond (!y3) (some (y1,2)) (cond (y4l y2 x.1.2.length) ((t6z (rdL u0a x.1.2 y2.toNat,x.2.2)).bind fun y4=>cond (!y4.2) (some (y1,3)) (cond (y4l y2 y1.2.length) (some ((y1.1,y1.2.set y2.toNat y4.1),0)) none)) none))
theorem q3j:u4s=r0y:=zC 144 rfl Tryz.func144 (by kernel_rfl)
def t60(x:q8y):Ht Hs:=zK 175 x
def u84(g:o1v→Ht p7l)(x:o1v):Ht p7l:=cond (decide (x.2.2<(x.1.length:Int))) (cond (decide (x.2.2>0)) (cond (decide (x.2.1.size+(⟨#[44]⟩:Hs).size≤140737488355328)) (cond (y4l x.2.2 x.1.length) (cond (decide ((x.2.1++(⟨#[44]⟩:Hs)).size+(rdL s11 x.1 x.2.2.toNat).1.size≤140737488355328)) (cond (decide (((x.2.1++(⟨#[44]⟩:Hs))++(rdL s11 x.1 x.2.2.toNat).1).size+(⟨#[61]⟩:Hs).size≤140737488355328)) (cond (y4l x.2.2 x.1.length) (cond (decide ((((x.2.1++(⟨#[44]⟩:Hs))++(rdL s11 x.1 x.2.2.toNat).1)++(⟨#[61]⟩:Hs)).size+(rdL s11 x.1 x.2.2.toNat).2.size≤140737488355328)) (g (x.1,(((x.2.1++(⟨#[44]⟩:Hs))++(rdL s11 x.1 x.2.2.toNat).1)++(⟨#[61]⟩:Hs))++(rdL s11 x.1 x.2.2.toNat).2,IntKind.i64.wrap (x.2.2+1))) none) none) none) none) none) none) (cond (y4l x.2.2 x.1.length) (cond (decide (x.2.1.size+(rdL s11 x.1 x.2.2.toNat).1.size≤140737488355328)) (cond (decide ((x.2.1++(rdL s11 x.1 x.2.2.toNat).1).size+(⟨#[61]⟩:Hs).size≤140737488355328)) (cond (y4l x.2.2 x.1.length) (cond (decide (((x.2.1++(rdL s11 x.1 x.2.2.toNat).1)++(⟨#[61]⟩:Hs)).size+(rdL s11 x.1 x.2.2.toNat).2.size≤140737488355328)) (g (x.1,((x.2.1++(rdL s11 x.1 x.2.2.toNat).1)++(⟨#[61]⟩:Hs))++(rdL s11 x.1 x.2.2.toNat).2,IntKind.i64.wrap (x.2.2+1))) none) none) none) none) none)) (some (.inl x.2.1))
def u5f:=lpW _ _ u84
theorem s02 x:u5f x=u84 u5f x:=zW s0e 175 Tryz.f175 3 30 x (by kernel_rfl)
def s5f (x:q8y):Ht Hs:=(u5f (x,(⟨#[]⟩:Hs),0)).bind fun r1=>match r1 with | .inl o2=>some o2 | .inr z3=>none
theorem r74:t60=s5f:=zC 175 rfl Tryz.func175 (by kernel_rfl)
def u4z(x:Z22):Ht Z29:=zK 131 x
def s83 (x:Z22):Ht Z29:=cond (decide (x.2.1=1)) ((u5n x.1.1.1).bind fun y1=>cond (!decide (y1.2.2=0)) (some (y1.2.2,(⟨#[]⟩:Hs),(y1.1,x.1.1.2),x.1.2)) ((u63 y1.2.1).bind fun y2=>some (0,y2,(y1.1,x.1.1.2),x.1.2))) (cond (decide (x.2.1=2)) ((u53 (x.1.1.1,x.2.2.1,x.2.2.2.1)).bind fun y3=>((cond (decide (y3.2.2.2=0)) (some (!y3.2.2.1)) (some false)):Ht Bool).bind fun j4=>cond j4 (some (y3.2.2.2,(⟨#[45]⟩:Hs),(y3.1,x.1.1.2),x.1.2)) (some (y3.2.2.2,y3.2.1,(y3.1,x.1.1.2),x.1.2))) (cond (decide (x.2.1=3)) ((u33 (x.1.1.1,x.2.2.1,x.2.2.2.1,x.2.2.2.2.1)).bind fun y5=>(t60 y5.2.1).bind fun y6=>some (y5.2.2,y6,(y5.1,x.1.1.2),x.1.2)) (cond (decide (x.2.1=4)) ((u4s (x.1.1.1,x.2.2.1,x.2.2.2.1,x.2.2.2.2.1,false)).bind fun y7=>some (y7.2,(⟨#[]⟩:Hs),(y7.1,x.1.1.2),x.1.2)) ((u4s (x.1.1.1,x.2.2.1,x.2.2.2.1,(⟨#[]⟩:Hs),true)).bind fun y8=>some (y8.2,(⟨#[]⟩:Hs),(y8.1,x.1.1.2),x.1.2)))))
theorem q01:u4z=s83:=zC 131 rfl Tryz.func131 (by kernel_rfl)
def u0s(x:t04):Ht t04:=zK 102 x
def s8l (x:t04):Ht t04:=cond (Nat.ble (([]:Hu Hs).length+x.1.length) z8x) (cond (Nat.ble (([]:Hu r0c.den).length+x.2.length) z8x) (some (([]:Hu Hs)++x.1,([]:Hu r0c.den)++x.2)) none) none
theorem q0j:u0s=s8l:=zC 102 rfl Tryz.func102 (by kernel_rfl)
def t3v(x:Z62):Ht Z62:=zK 72 x
def s8y (x:Z62):Ht Z62:=(u0l x.1).bind fun y1=>(u0s x.2).bind fun y2=>some (y1,y2)
theorem q0w:t3v=s8y:=zC 72 rfl Tryz.func72 (by kernel_rfl)
def u52(x:t04):Ht Bool:=zK 158 x
def t1s(g:q7o→Ht (t04⊕Bool))(x:q7o):Ht (t04⊕Bool):=cond (decide (x.2<(x.1.1.length:Int))) (cond (y4l x.2 x.1.1.length) (cond (!decide (((rdL Ty.str x.1.1 x.2.toNat).size:Int)=(64:Int))) (some (.inr false)) (g (x.1,IntKind.i64.wrap (x.2+1)))) none) (some (.inl x.1))
def t11:=lpW _ _ t1s
theorem s6r x:t11 x=t1s t11 x:=zW s5x 158 Tryz.f158 4 59 x (by kernel_rfl)
def t1t(g:q7o→Ht r9h)(x:q7o):Ht r9h:=cond (decide (x.2<(x.1.2.length:Int))) (((cond (y4l x.2 x.1.2.length) ((u0r ((rdL r0c x.1.2 x.2.toNat).1,0,IntKind.i64.wrap ((x.1.1.length:Int) - (1:Int)))).bind fun y5=>cond (!y5) (some true) (cond (y4l x.2 x.1.2.length) (some (!decide (((rdL r0c x.1.2 x.2.toNat).2.size:Int)=(64:Int)))) none)) none):Ht Bool).bind fun j6=>cond j6 (some (.inr false)) (g (x.1,IntKind.i64.wrap (x.2+1)))) (some (.inl ()))
def t12:=lpW _ _ t1t
theorem s6s x:t12 x=t1t t12 x:=zW s5y 158 Tryz.f158 9 59 x (by kernel_rfl)
def r0r (x:t04):Ht Bool:=(((u0r ((x.1.length:Int),1,100)).bind fun y1=>cond (!y1) (some true) (some (decide ((x.2.length:Int)>(60:Int))))):Ht Bool).bind fun j2=>cond j2 (some false) ((t11 (x,0)).bind fun r3=>match r3 with | .inl o4=>((t12 (o4,0)).bind fun r7=>match r7 with | .inl o8=>some true | .inr z9=>some z9) | .inr z10=>some z10)
theorem q3c:u52=r0r:=zC 158 rfl Tryz.func158 (by kernel_rfl)
def u1y(x:t04):Ht t04:=zK 113 x
def u7c(g:Z99→Ht p9d)(x:Z99):Ht p9d:=cond (decide (x.2.2.2<(x.1.2.length:Int))) (cond (y4l x.2.2.2 x.1.2.length) (cond (y4l x.2.2.2 x.1.2.length) (cond (y4l (rdL r0c x.1.2 x.2.2.2.toNat).1 x.2.2.1.1.length) (g (x.1,x.2.1,(x.2.2.1.1.set ((rdL r0c x.1.2 x.2.2.2.toNat).1).toNat (rdL r0c x.1.2 x.2.2.2.toNat).2,x.2.2.1.2),IntKind.i64.wrap (x.2.2.2+1))) none) none) none) (some (.inl (x.2.1,x.2.2.1)))
def u7n:=lpW _ _ u7c
theorem t8h x:u7n x=u7c u7n x:=zW t7v 113 Tryz.f113 5 36 x (by kernel_rfl)
def s2c (x:t04):Ht t04:=(u0s x).bind fun y1=>(u52 x).bind fun y2=>cond (!y2) (some y1) ((u7n (x,(([]:Hu Hs),([]:Hu r0c.den)),y1,0)).bind fun r3=>match r3 with | .inl o4=>some (o4.2.1,([]:Hu r0c.den)) | .inr z5=>none)
theorem r5r:u1y=s2c:=zC 113 rfl Tryz.func113 (by kernel_rfl)
def u3a(x:Int):Ht Int:=zK 111 x
def s19 (x:Int):Ht Int:=(u0r (x,0,1)).bind fun y1=>cond (!y1) (some (0:Int)) (some (IntKind.i64.wrap ((1:Int)+(IntKind.i64.wrap (x*48)))))
theorem r5o:u3a=s19:=zC 111 rfl Tryz.func111 (by kernel_rfl)
def u3x(x:q7o):Ht s9r:=zK 159 x
def u5r(g:o40→Ht (o5b⊕s9r))(x:o40):Ht (o5b⊕s9r):=cond (decide (x.2.2≥0)) (cond (y4l x.2.2 x.2.1.2.length) (cond (decide ((rdL r0c x.2.1.2 x.2.2.toNat).1=x.1)) (cond (y4l x.2.2 x.2.1.2.length) (some (.inr ((rdL r0c x.2.1.2 x.2.2.toNat).2,true))) none) (g (x.1,x.2.1,IntKind.i64.wrap (x.2.2 - 1)))) none) (some (.inl (x.1,x.2.1)))
def u5v:=lpW _ _ u5r
theorem t66 x:u5v x=u5r u5v x:=zW t6l 159 Tryz.f159 4 41 x (by kernel_rfl)
def t9j (x:q7o):Ht s9r:=(u0r (x.2,0,IntKind.i64.wrap ((x.1.1.length:Int) - (1:Int)))).bind fun y1=>cond (!y1) (some ((⟨#[]⟩:Hs),false)) ((u5v (x.2,x.1,IntKind.i64.wrap ((x.1.2.length:Int) - (1:Int)))).bind fun r2=>match r2 with | .inl o3=>cond (y4l o3.1 o3.2.1.length) (some (rdL Ty.str o3.2.1 o3.1.toNat,true)) none | .inr z4=>some z4)
theorem r3l:u3x=t9j:=zC 159 rfl Tryz.func159 (by kernel_rfl)
def u9t(x:q7o):Ht Int:=zK 237 x
def s8n (x:q7o):Ht Int:=(u3x x).bind fun y1=>((cond (!y1.2) (some true) (some (z7l y1.1 (⟨#[]⟩:Hs)))):Ht Bool).bind fun j2=>cond j2 (some (0:Int)) (cond (y4l (0:Int) y1.1.size) (some (IntKind.i64.wrap ((y1.1.data.toList.getD (0:Int).toNat 0).toNat:Int))) none)
theorem q0l:u9t=s8n:=zC 237 rfl Tryz.func237 (by kernel_rfl)
def u62(x:q7o):Ht Int:=zK 224 x
def s7x (x:q7o):Ht Int:=(u0r (x.2,0,1)).bind fun y1=>cond (!y1) (some (0:Int)) ((u3a x.2).bind fun y2=>(u9t (x.1,y2)).bind fun y3=>some y3)
theorem r9w:u62=s7x:=zC 224 rfl Tryz.func224 (by kernel_rfl)
def t2z(x:p96):Ht s9r:=zK 253 x
def u5s(g:o4h→Ht (Hs⊕s9r))(x:o4h):Ht (Hs⊕s9r):=cond (decide (x.2.2.2.2<x.2.1)) (((cond (decide (x.1<0)) (some true) (some (decide (x.1>(x.2.2.1.1.length:Int))))):Ht Bool).bind fun j2=>cond j2 (some (.inr ((⟨#[]⟩:Hs),false))) ((u3x (x.2.2.1,IntKind.i64.wrap (x.1+x.2.2.2.2))).bind fun y3=>cond (!y3.2) (some (.inr ((⟨#[]⟩:Hs),false))) (cond (decide (x.2.2.2.1.size+y3.1.size≤140737488355328)) (g (x.1,x.2.1,x.2.2.1,x.2.2.2.1++y3.1,IntKind.i64.wrap (x.2.2.2.2+1))) none))) (some (.inl x.2.2.2.1))
def u5w:=lpW _ _ u5s
theorem t67 x:u5w x=u5s u5w x:=zW t6m 253 Tryz.f253 5 43 x (by kernel_rfl)
def t9l (x:p96):Ht s9r:=(u0r (x.2.2,0,100)).bind fun y1=>cond (!y1) (some ((⟨#[]⟩:Hs),false)) ((u5w (x.2.1,x.2.2,x.1,(⟨#[]⟩:Hs),0)).bind fun r4=>match r4 with | .inl o5=>some (o5,true) | .inr z6=>some z6)
theorem r3n:t2z=t9l:=zC 253 rfl Tryz.func253 (by kernel_rfl)
def u1b(x:Int):Ht Hs:=zK 255 x
def s4o(g:(Int×r4a)→Ht ((Int×r4a)⊕Unit))(x:(Int×r4a)):Ht ((Int×r4a)⊕Unit):=cond (decide (x.1>127)) (cond (Nat.ble (x.2.length+([(IntKind.u8.wrap (IntKind.i64.wrap ((Int.tmod x.1 (128:Int))+128)))]:Hu Int).length) z8x) (g (IntKind.i64.wrap (Int.tdiv x.1 (128:Int)),x.2++([(IntKind.u8.wrap (IntKind.i64.wrap ((Int.tmod x.1 (128:Int))+128)))]:Hu Int))) none) (some (.inl x))
def t16:=lpW _ _ s4o
theorem r87 x:t16 x=s4o t16 x:=zW s54 255 Tryz.f255 2 22 x (by kernel_rfl)
def r04 (x:Int):Ht Hs:=(t16 (x,([]:Hu Int))).bind fun r1=>match r1 with | .inl o2=>cond (Nat.ble (o2.2.length+([(IntKind.u8.wrap o2.1)]:Hu Int).length) z8x) (some (y7e (o2.2++([(IntKind.u8.wrap o2.1)]:Hu Int)))) none | .inr z3=>none
theorem q3p:u1b=r04:=zC 255 rfl Tryz.func255 (by kernel_rfl)
def t3n(x:p0c):Ht (Int×p6u):=zK 270 x
def t0a(g:o5c→Ht (Unit⊕(Int×p6u)))(x:o5c):Ht (Unit⊕(Int×p6u)):=((cond (decide (x.2.2.2.2<(x.1.size:Int))) (some (decide (x.2.2.2.2<(IntKind.i64.wrap (x.2.1+5))))) (some false)):Ht Bool).bind fun j2=>cond j2 (cond (y4l x.2.2.2.2 x.1.size) (cond (y4l x.2.2.2.2 x.1.size) (cond (decide (((x.1.data.toList.getD x.2.2.2.2.toNat 0).toNat:Int)<(128:Int))) (((cond (decide ((IntKind.i64.wrap (x.2.2.1+(IntKind.i64.wrap ((Int.tmod (IntKind.i64.wrap ((x.1.data.toList.getD x.2.2.2.2.toNat 0).toNat:Int)) (128:Int))*x.2.2.2.1))))>1000000000)) (some true) ((u1b (IntKind.i64.wrap (x.2.2.1+(IntKind.i64.wrap ((Int.tmod (IntKind.i64.wrap ((x.1.data.toList.getD x.2.2.2.2.toNat 0).toNat:Int)) (128:Int))*x.2.2.2.1))))).bind fun y3=>cond (decide (0≤x.2.1)&&decide (x.2.1≤(IntKind.i64.wrap (x.2.2.2.2+1)))&&decide ((IntKind.i64.wrap (x.2.2.2.2+1))≤(x.1.size:Int))) (some (!z7l y3 (x.1.extract x.2.1.toNat (IntKind.i64.wrap (x.2.2.2.2+1)).toNat))) none)):Ht Bool).bind fun j4=>cond j4 (some (.inr (0,0,false))) (some (.inr (IntKind.i64.wrap (x.2.2.1+(IntKind.i64.wrap ((Int.tmod (IntKind.i64.wrap ((x.1.data.toList.getD x.2.2.2.2.toNat 0).toNat:Int)) (128:Int))*x.2.2.2.1))),IntKind.i64.wrap (x.2.2.2.2+1),true)))) (g (x.1,x.2.1,IntKind.i64.wrap (x.2.2.1+(IntKind.i64.wrap ((Int.tmod (IntKind.i64.wrap ((x.1.data.toList.getD x.2.2.2.2.toNat 0).toNat:Int)) (128:Int))*x.2.2.2.1))),IntKind.i64.wrap (x.2.2.2.1*128),IntKind.i64.wrap (x.2.2.2.2+1)))) none) none) (some (.inl ()))
def t0o:=lpW _ _ t0a
theorem s34 x:t0o x=t0a t0o x:=zW s3a 270 Tryz.f270 6 58 x (by kernel_rfl)
def s78 (x:p0c):Ht (Int×p6u):=(u0r (x.2,0,(x.1.size:Int))).bind fun y1=>cond (!y1) (some (0,0,false)) ((t0o (x.1,x.2,0,1,x.2)).bind fun r5=>match r5 with | .inl o6=>some (0,0,false) | .inr z7=>some z7)
theorem r97:t3n=s78:=zC 270 rfl Tryz.func270 (by kernel_rfl)
def t0y(x:p0c):Ht p0b:=zK 254 x
def s2g (x:p0c):Ht p0b:=(t3n x).bind fun y1=>((cond (!y1.2.2) (some true) (cond (decide (y1.1>20000)) (some true) (some (decide (y1.1>(IntKind.i64.wrap ((x.1.size:Int) - y1.2.1))))))):Ht Bool).bind fun j2=>cond j2 (some ((⟨#[]⟩:Hs),0,false)) (cond (decide (0≤y1.2.1)&&decide (y1.2.1≤(IntKind.i64.wrap (y1.2.1+y1.1)))&&decide ((IntKind.i64.wrap (y1.2.1+y1.1))≤(x.1.size:Int))) (some (x.1.extract y1.2.1.toNat (IntKind.i64.wrap (y1.2.1+y1.1)).toNat,IntKind.i64.wrap (y1.2.1+y1.1),true)) none)
theorem r5v:t0y=s2g:=zC 254 rfl Tryz.func254 (by kernel_rfl)
def u5h(x:q7o):Ht (r9g×p6u):=zK 220 x
def u7e(g:o3y→Ht ((r9g×Int)⊕(r9g×p6u)))(x:o3y):Ht ((r9g×Int)⊕(r9g×p6u)):=(u62 (x.2.1,x.1)).bind fun y4=>cond (decide (x.2.2.2.2.2.2<y4)) ((t0y (x.2.2.2.1,x.2.2.2.2.2.1)).bind fun y5=>((cond (!y5.2.2) (some true) (some (z7l y5.1 (⟨#[]⟩:Hs)))):Ht Bool).bind fun j6=>cond j6 (some (.inr (x.2.2.1,0,false))) (cond (Nat.ble (x.2.2.2.2.1.length+([y5.1]:Hu Hs).length) z8x) (g (x.1,x.2.1,x.2.2.1,x.2.2.2.1,x.2.2.2.2.1++([y5.1]:Hu Hs),y5.2.1,IntKind.i64.wrap (x.2.2.2.2.2.2+1))) none)) (some (.inl (x.2.2.2.2.1,x.2.2.2.2.2.1)))
def u7o:=lpW _ _ u7e
theorem t8j x:u7o x=u7e u7o x:=zW t7x 220 Tryz.f220 10 61 x (by kernel_rfl)
def s4y (x:q7o):Ht (r9g×p6u):=(u0r (x.2,0,1)).bind fun y1=>cond (!y1) (some (([]:Hu Hs),0,false)) ((u3a x.2).bind fun y2=>(t2z (x.1,IntKind.i64.wrap (y2+1),47)).bind fun y3=>cond (!y3.2) (some (([]:Hu Hs),0,false)) ((u7o (x.2,x.1,([]:Hu Hs),y3.1,([]:Hu Hs),0,0)).bind fun r7=>match r7 with | .inl o8=>some (o8.1,o8.2,true) | .inr z9=>some z9))
theorem r7o:u5h=s4y:=zC 220 rfl Tryz.func220 (by kernel_rfl)
def t4b(x:t04):Ht Bool:=zK 178 x
def r4n (x:t04):Ht Bool:=(((u52 x).bind fun y1=>cond (!y1) (some true) ((u5i ()).bind fun y2=>cond (!decide ((x.1.length:Int)=y2)) (some true) (some (decide ((x.2.length:Int)>(0:Int)))))):Ht Bool).bind fun j3=>cond j3 (some false) ((u5h (x,0)).bind fun y4=>(u5h (x,1)).bind fun y5=>((cond y4.2.2 (some y5.2.2) (some false)):Ht Bool).bind fun j6=>some j6)
theorem q5z:t4b=r4n:=zC 178 rfl Tryz.func178 (by kernel_rfl)
def u5g(x:t04):Ht Int:=zK 205 x
def s4r (x:t04):Ht Int:=(u9t (x,0)).bind fun y1=>some (Int.tmod y1 (2:Int))
theorem r7h:u5g=s4r:=zC 205 rfl Tryz.func205 (by kernel_rfl)
def u4v(x:p64):Ht r3f:=zK 114 x
def t7i (x:p64):Ht r3f:=(u0s x.1).bind fun y1=>(((u52 x.1).bind fun y2=>cond (!y2) (some true) ((u0r (x.2.1,0,IntKind.i64.wrap ((x.1.1.length:Int) - (1:Int)))).bind fun y3=>cond (!y3) (some true) (cond (!decide ((x.2.2.size:Int)=(64:Int))) (some true) (some (decide ((x.1.2.length:Int)≥(60:Int))))))):Ht Bool).bind fun j4=>cond j4 (some (y1,false)) (cond (Nat.ble (y1.2.length+([x.2]:Hu r0c.den).length) z8x) (some ((y1.1,y1.2++([x.2]:Hu r0c.den)),true)) none)
theorem r1t:u4v=t7i:=zC 114 rfl Tryz.func114 (by kernel_rfl)
def u2p(x:o4k):Ht r3f:=zK 110 x
def t03(g:Z80→Ht (p88⊕r3f))(x:Z80):Ht (p88⊕r3f):=cond (decide (x.2.2.2.2.2.2<(x.2.2.1.size:Int))) (cond (decide ((IntKind.i64.wrap ((64:Int) - (Int.tmod (IntKind.i64.wrap (x.2.1+x.2.2.2.2.2.2)) (64:Int))))>(IntKind.i64.wrap ((x.2.2.1.size:Int) - x.2.2.2.2.2.2)))) ((u3x (x.2.2.2.2.2.1,IntKind.i64.wrap (x.1+(IntKind.i64.wrap (Int.tdiv (IntKind.i64.wrap (x.2.1+x.2.2.2.2.2.2)) (64:Int)))))).bind fun y6=>((cond (!y6.2) (some true) (some (!decide ((y6.1.size:Int)=(64:Int))))):Ht Bool).bind fun j7=>cond j7 ((u0s x.2.2.2.1).bind fun y8=>some (.inr (y8,false))) (cond (decide (0≤(0:Int))&&decide ((0:Int)≤(Int.tmod (IntKind.i64.wrap (x.2.1+x.2.2.2.2.2.2)) (64:Int)))&&decide ((Int.tmod (IntKind.i64.wrap (x.2.1+x.2.2.2.2.2.2)) (64:Int))≤(y6.1.size:Int))) (cond (decide (0≤x.2.2.2.2.2.2)&&decide (x.2.2.2.2.2.2≤(IntKind.i64.wrap (x.2.2.2.2.2.2+(IntKind.i64.wrap ((x.2.2.1.size:Int) - x.2.2.2.2.2.2)))))&&decide ((IntKind.i64.wrap (x.2.2.2.2.2.2+(IntKind.i64.wrap ((x.2.2.1.size:Int) - x.2.2.2.2.2.2))))≤(x.2.2.1.size:Int))) (cond (decide ((y6.1.extract (0:Int).toNat (Int.tmod (IntKind.i64.wrap (x.2.1+x.2.2.2.2.2.2)) (64:Int)).toNat).size+(x.2.2.1.extract x.2.2.2.2.2.2.toNat (IntKind.i64.wrap (x.2.2.2.2.2.2+(IntKind.i64.wrap ((x.2.2.1.size:Int) - x.2.2.2.2.2.2)))).toNat).size≤140737488355328)) (cond (decide (0≤(IntKind.i64.wrap ((Int.tmod (IntKind.i64.wrap (x.2.1+x.2.2.2.2.2.2)) (64:Int))+(IntKind.i64.wrap ((x.2.2.1.size:Int) - x.2.2.2.2.2.2)))))&&decide ((IntKind.i64.wrap ((Int.tmod (IntKind.i64.wrap (x.2.1+x.2.2.2.2.2.2)) (64:Int))+(IntKind.i64.wrap ((x.2.2.1.size:Int) - x.2.2.2.2.2.2))))≤(y6.1.size:Int))&&decide ((y6.1.size:Int)≤(y6.1.size:Int))) (cond (decide (((y6.1.extract (0:Int).toNat (Int.tmod (IntKind.i64.wrap (x.2.1+x.2.2.2.2.2.2)) (64:Int)).toNat)++(x.2.2.1.extract x.2.2.2.2.2.2.toNat (IntKind.i64.wrap (x.2.2.2.2.2.2+(IntKind.i64.wrap ((x.2.2.1.size:Int) - x.2.2.2.2.2.2)))).toNat)).size+(y6.1.extract (IntKind.i64.wrap ((Int.tmod (IntKind.i64.wrap (x.2.1+x.2.2.2.2.2.2)) (64:Int))+(IntKind.i64.wrap ((x.2.2.1.size:Int) - x.2.2.2.2.2.2)))).toNat (y6.1.size:Int).toNat).size≤140737488355328)) ((u4v (x.2.2.2.2.2.1,IntKind.i64.wrap (x.1+(IntKind.i64.wrap (Int.tdiv (IntKind.i64.wrap (x.2.1+x.2.2.2.2.2.2)) (64:Int)))),((y6.1.extract (0:Int).toNat (Int.tmod (IntKind.i64.wrap (x.2.1+x.2.2.2.2.2.2)) (64:Int)).toNat)++(x.2.2.1.extract x.2.2.2.2.2.2.toNat (IntKind.i64.wrap (x.2.2.2.2.2.2+(IntKind.i64.wrap ((x.2.2.1.size:Int) - x.2.2.2.2.2.2)))).toNat))++(y6.1.extract (IntKind.i64.wrap ((Int.tmod (IntKind.i64.wrap (x.2.1+x.2.2.2.2.2.2)) (64:Int))+(IntKind.i64.wrap ((x.2.2.1.size:Int) - x.2.2.2.2.2.2)))).toNat (y6.1.size:Int).toNat))).bind fun y9=>cond (!y9.2) ((u0s x.2.2.2.1).bind fun y10=>some (.inr (y10,false))) (g (x.1,x.2.1,x.2.2.1,x.2.2.2.1,x.2.2.2.2.1,y9.1,IntKind.i64.wrap (x.2.2.2.2.2.2+(IntKind.i64.wrap ((x.2.2.1.size:Int) - x.2.2.2.2.2.2)))))) none) none) none) none) none)) ((u3x (x.2.2.2.2.2.1,IntKind.i64.wrap (x.1+(IntKind.i64.wrap (Int.tdiv (IntKind.i64.wrap (x.2.1+x.2.2.2.2.2.2)) (64:Int)))))).bind fun y11=>((cond (!y11.2) (some true) (some (!decide ((y11.1.size:Int)=(64:Int))))):Ht Bool).bind fun j12=>cond j12 ((u0s x.2.2.2.1).bind fun y13=>some (.inr (y13,false))) (cond (decide (0≤(0:Int))&&decide ((0:Int)≤(Int.tmod (IntKind.i64.wrap (x.2.1+x.2.2.2.2.2.2)) (64:Int)))&&decide ((Int.tmod (IntKind.i64.wrap (x.2.1+x.2.2.2.2.2.2)) (64:Int))≤(y11.1.size:Int))) (cond (decide (0≤x.2.2.2.2.2.2)&&decide (x.2.2.2.2.2.2≤(IntKind.i64.wrap (x.2.2.2.2.2.2+(IntKind.i64.wrap ((64:Int) - (Int.tmod (IntKind.i64.wrap (x.2.1+x.2.2.2.2.2.2)) (64:Int)))))))&&decide ((IntKind.i64.wrap (x.2.2.2.2.2.2+(IntKind.i64.wrap ((64:Int) - (Int.tmod (IntKind.i64.wrap (x.2.1+x.2.2.2.2.2.2)) (64:Int))))))≤(x.2.2.1.size:Int))) (cond (decide ((y11.1.extract (0:Int).toNat (Int.tmod (IntKind.i64.wrap (x.2.1+x.2.2.2.2.2.2)) (64:Int)).toNat).size+(x.2.2.1.extract x.2.2.2.2.2.2.toNat (IntKind.i64.wrap (x.2.2.2.2.2.2+(IntKind.i64.wrap ((64:Int) - (Int.tmod (IntKind.i64.wrap (x.2.1+x.2.2.2.2.2.2)) (64:Int)))))).toNat).size≤140737488355328)) (cond (decide (0≤(IntKind.i64.wrap ((Int.tmod (IntKind.i64.wrap (x.2.1+x.2.2.2.2.2.2)) (64:Int))+(IntKind.i64.wrap ((64:Int) - (Int.tmod (IntKind.i64.wrap (x.2.1+x.2.2.2.2.2.2)) (64:Int)))))))&&decide ((IntKind.i64.wrap ((Int.tmod (IntKind.i64.wrap (x.2.1+x.2.2.2.2.2.2)) (64:Int))+(IntKind.i64.wrap ((64:Int) - (Int.tmod (IntKind.i64.wrap (x.2.1+x.2.2.2.2.2.2)) (64:Int))))))≤(y11.1.size:Int))&&decide ((y11.1.size:Int)≤(y11.1.size:Int))) (cond (decide (((y11.1.extract (0:Int).toNat (Int.tmod (IntKind.i64.wrap (x.2.1+x.2.2.2.2.2.2)) (64:Int)).toNat)++(x.2.2.1.extract x.2.2.2.2.2.2.toNat (IntKind.i64.wrap (x.2.2.2.2.2.2+(IntKind.i64.wrap ((64:Int) - (Int.tmod (IntKind.i64.wrap (x.2.1+x.2.2.2.2.2.2)) (64:Int)))))).toNat)).size+(y11.1.extract (IntKind.i64.wrap ((Int.tmod (IntKind.i64.wrap (x.2.1+x.2.2.2.2.2.2)) (64:Int))+(IntKind.i64.wrap ((64:Int) - (Int.tmod (IntKind.i64.wrap (x.2.1+x.2.2.2.2.2.2)) (64:Int)))))).toNat (y11.1.size:Int).toNat).size≤140737488355328)) ((u4v (x.2.2.2.2.2.1,IntKind.i64.wrap (x.1+(IntKind.i64.wrap (Int.tdiv (IntKind.i64.wrap (x.2.1+x.2.2.2.2.2.2)) (64:Int)))),((y11.1.extract (0:Int).toNat (Int.tmod (IntKind.i64.wrap (x.2.1+x.2.2.2.2.2.2)) (64:Int)).toNat)++(x.2.2.1.extract x.2.2.2.2.2.2.toNat (IntKind.i64.wrap (x.2.2.2.2.2.2+(IntKind.i64.wrap ((64:Int) - (Int.tmod (IntKind.i64.wrap (x.2.1+x.2.2.2.2.2.2)) (64:Int)))))).toNat))++(y11.1.extract (IntKind.i64.wrap ((Int.tmod (IntKind.i64.wrap (x.2.1+x.2.2.2.2.2.2)) (64:Int))+(IntKind.i64.wrap ((64:Int) - (Int.tmod (IntKind.i64.wrap (x.2.1+x.2.2.2.2.2.2)) (64:Int)))))).toNat (y11.1.size:Int).toNat))).bind fun y14=>cond (!y14.2) ((u0s x.2.2.2.1).bind fun y15=>some (.inr (y15,false))) (g (x.1,x.2.1,x.2.2.1,x.2.2.2.1,x.2.2.2.2.1,y14.1,IntKind.i64.wrap (x.2.2.2.2.2.2+(IntKind.i64.wrap ((64:Int) - (Int.tmod (IntKind.i64.wrap (x.2.1+x.2.2.2.2.2.2)) (64:Int)))))))) none) none) none) none) none))) (some (.inl (x.2.2.2.2.1,x.2.2.2.2.2.1)))
def u2n:=lpW _ _ t03
theorem r0b x:u2n x=t03 u2n x:=zW t6o 110 Tryz.f110 5 111 x (by kernel_rfl)
def t9n (x:o4k):Ht r3f:=(u0s x.1).bind fun y1=>(((u0r (x.2.2.1,0,6400)).bind fun y2=>cond (!y2) (some true) ((u0r (x.2.1,0,IntKind.i64.wrap ((x.1.1.length:Int) - (1:Int)))).bind fun y3=>cond (!y3) (some true) ((u52 x.1).bind fun y4=>some (!y4)))):Ht Bool).bind fun j5=>cond j5 (some (y1,false)) ((u2n (x.2.1,x.2.2.1,x.2.2.2,x.1,(([]:Hu Hs),([]:Hu r0c.den)),y1,0)).bind fun r16=>match r16 with | .inl o17=>some (o17.2,true) | .inr z18=>some z18)
theorem r3p:u2p=t9n:=zC 110 rfl Tryz.func110 (by kernel_rfl)
def u54(x:Int):Ht Hs:=zK 112 x
def r07 (x:Int):Ht Hs:=some (y7e ([(IntKind.u8.wrap x)]:Hu Int))
theorem s1b:u54=r07:=zC 112 rfl Tryz.func112 (by kernel_rfl)
def u8i(x:p96):Ht r3f:=zK 223 x
def s5b (x:p96):Ht r3f:=(u3a x.2.1).bind fun y1=>(u54 x.2.2).bind fun y2=>(u2p (x.1,y1,0,y2)).bind fun y3=>some y3
theorem r7z:u8i=s5b:=zC 223 rfl Tryz.func223 (by kernel_rfl)
def t2f(x:p64):Ht r3f:=zK 221 x
def s5a (x:p64):Ht r3f:=(u5h (x.1,x.2.1)).bind fun y1=>((cond (!y1.2.2) (some true) (cond (z7l x.2.2 (⟨#[]⟩:Hs)) (some true) (cond (decide ((x.2.2.size:Int)>(3008:Int))) (some true) ((u62 (x.1,x.2.1)).bind fun y2=>some (decide (y2≥255)))))):Ht Bool).bind fun j3=>cond j3 ((u0s x.1).bind fun y4=>some (y4,false)) ((u1b (x.2.2.size:Int)).bind fun y5=>cond (decide (y5.size+x.2.2.size≤140737488355328)) (cond (decide (((y5++x.2.2).size:Int)>(IntKind.i64.wrap ((3008:Int) - y1.2.1)))) ((u0s x.1).bind fun y6=>some (y6,false)) ((u3a x.2.1).bind fun y7=>(u2p (x.1,IntKind.i64.wrap (y7+1),y1.2.1,y5++x.2.2)).bind fun y8=>some y8)) none)
theorem r7y:t2f=s5a:=zC 221 rfl Tryz.func221 (by kernel_rfl)
def t5w(x:p64):Ht r3f:=zK 236 x
def r08 (x:p64):Ht r3f:=(t2f x).bind fun y1=>cond (!y1.2) (some (y1.1,false)) ((u1y y1.1).bind fun y2=>(u62 (x.1,x.2.1)).bind fun y3=>(u8i (y2,x.2.1,IntKind.i64.wrap (y3+1))).bind fun y4=>(u1y y4.1).bind fun y5=>some (y5,y4.2))
theorem q3s:t5w=r08:=zC 236 rfl Tryz.func236 (by kernel_rfl)
def t9c(x:o1m):Ht r3f:=zK 202 x
def u6d(g:o3v→Ht (o39⊕Unit))(x:o3v):Ht (o39⊕Unit):=((cond (decide (x.2.2.2.2.2<(x.1.length:Int))) (some x.2.2.2.2.1) (some false)):Ht Bool).bind fun j4=>cond j4 (cond (y4l x.2.2.2.2.2 x.1.length) ((t5w (x.2.2.2.1,x.2.2.1,rdL Ty.str x.1 x.2.2.2.2.2.toNat)).bind fun y5=>g (x.1,x.2.1,x.2.2.1,y5.1,y5.2,IntKind.i64.wrap (x.2.2.2.2.2+1))) none) (some (.inl (x.2.1,x.2.2.2.1,x.2.2.2.2.1)))
def u6p:=lpW _ _ u6d
theorem t4z x:u6p x=u6d u6p x:=zW s3k 202 Tryz.f202 5 42 x (by kernel_rfl)
def s8o (x:o1m):Ht r3f:=(u5g x.1).bind fun y1=>(u8i (x.1,IntKind.i64.wrap ((1:Int) - y1),0)).bind fun y2=>(u1y y2.1).bind fun y3=>(u6p (x.2,(([]:Hu Hs),([]:Hu r0c.den)),IntKind.i64.wrap ((1:Int) - y1),y3,y2.2,0)).bind fun r6=>match r6 with | .inl o7=>some o7.2 | .inr z8=>none
theorem q0m:t9c=s8o:=zC 202 rfl Tryz.func202 (by kernel_rfl)
def t9d(x:t04):Ht r3f:=zK 203 x
def s8p (x:t04):Ht r3f:=(u9t (x,0)).bind fun y1=>(u54 (IntKind.i64.wrap (y1+1))).bind fun y2=>(u2p (x,0,0,y2)).bind fun y3=>some y3
theorem q0n:t9d=s8p:=zC 203 rfl Tryz.func203 (by kernel_rfl)
def t01(x:o1m):Ht r3f:=zK 155 x
def s2m (x:o1m):Ht r3f:=(t4b x.1).bind fun y1=>cond (!y1) ((u0s x.1).bind fun y2=>some (y2,false)) ((t9c x).bind fun y3=>cond (!y3.2) ((u0s x.1).bind fun y4=>some (y4,false)) ((t9d y3.1).bind fun y5=>cond (!y5.2) ((u0s x.1).bind fun y6=>some (y6,false)) ((u1y y5.1).bind fun y7=>some (y7,true))))
theorem r51:t01=s2m:=zC 155 rfl Tryz.func155 (by kernel_rfl)
def u8g(x:t04):Ht r9g:=zK 217 x
def s4v (x:t04):Ht r9g:=(u5g x).bind fun y1=>(u5h (x,y1)).bind fun y2=>some y2.1
theorem r7l:u8g=s4v:=zC 217 rfl Tryz.func217 (by kernel_rfl)
def t2i(x:t6b):Ht Bool:=zK 263 x
def s5d (x:t6b):Ht Bool:=((cond (decide (x.1=0)) (cond (decide (x.2.1=0)) (cond (decide (x.2.2.1=0)) (cond (decide (x.2.2.2.1=0)) (cond (decide ((x.2.2.2.2.1.length:Int)=(0:Int))) (cond (decide ((x.2.2.2.2.2.1.length:Int)=(0:Int))) (cond (!x.2.2.2.2.2.2.1) (some (z7l x.2.2.2.2.2.2.2 (⟨#[]⟩:Hs))) (some false)) (some false)) (some false)) (some false)) (some false)) (some false)) (some false)):Ht Bool).bind fun j1=>some j1
theorem r71:t2i=s5d:=zC 263 rfl Tryz.func263 (by kernel_rfl)
def t4v(x:t1m):Ht Bool:=zK 264 x
def s2p (x:t1m):Ht Bool:=((cond (decide (x.2.2.2.1=0)) (cond (decide (x.2.2.2.2=0)) (cond (decide ((x.1.length:Int)=(0:Int))) (cond (decide ((x.2.1.length:Int)=(0:Int))) (some (decide ((x.2.2.1.length:Int)=(0:Int)))) (some false)) (some false)) (some false)) (some false)):Ht Bool).bind fun j1=>some j1
theorem r54:t4v=s2p:=zC 264 rfl Tryz.func264 (by kernel_rfl)
def t2b(x:Z46):Ht Bool:=zK 241 x
def s40 (x:Z46):Ht Bool:=(u0r (x.1,1,4)).bind fun y1=>cond (!y1) (some false) (((cond (decide (x.1=1)) (some true) (some (decide (x.1=2)))):Ht Bool).bind fun j2=>((cond j2 ((u3r x.2.1).bind fun y3=>cond (!y3) (some true) (cond (!j2) ((t2i x.2.1).bind fun y4=>cond (!y4) (some true) (cond (decide (x.1=1)) (cond (!decide (x.2.1.2.1=3)) (some true) (cond (decide (x.1=2)) (some (!decide (x.2.1.2.1=2))) (some false))) (cond (decide (x.1=2)) (some (!decide (x.2.1.2.1=2))) (some false)))) (cond (decide (x.1=1)) (cond (!decide (x.2.1.2.1=3)) (some true) (cond (decide (x.1=2)) (some (!decide (x.2.1.2.1=2))) (some false))) (cond (decide (x.1=2)) (some (!decide (x.2.1.2.1=2))) (some false))))) (cond (!j2) ((t2i x.2.1).bind fun y5=>cond (!y5) (some true) (cond (decide (x.1=1)) (cond (!decide (x.2.1.2.1=3)) (some true) (cond (decide (x.1=2)) (some (!decide (x.2.1.2.1=2))) (some false))) (cond (decide (x.1=2)) (some (!decide (x.2.1.2.1=2))) (some false)))) (cond (decide (x.1=1)) (cond (!decide (x.2.1.2.1=3)) (some true) (cond (decide (x.1=2)) (some (!decide (x.2.1.2.1=2))) (some false))) (cond (decide (x.1=2)) (some (!decide (x.2.1.2.1=2))) (some false))))):Ht Bool).bind fun j6=>cond j6 (some false) (((cond (decide (x.1=3)) ((u3p x.2.2.1).bind fun y7=>cond (!y7) (some true) (cond (!decide (x.1=3)) (cond (!z7l x.2.2.1 (⟨#[]⟩:Hs)) (some true) (some x.2.2.2.1)) (some false))) (cond (!decide (x.1=3)) (cond (!z7l x.2.2.1 (⟨#[]⟩:Hs)) (some true) (some x.2.2.2.1)) (some false))):Ht Bool).bind fun j8=>cond j8 (some false) (cond (decide (x.1=4)) ((u4r x.2.2.2.2).bind fun y9=>some y9) ((t4v x.2.2.2.2).bind fun y10=>some y10))))
theorem r7q:t2b=s40:=zC 241 rfl Tryz.func241 (by kernel_rfl)
def t3q(x:Int):Ht Hs:=zK 265 x
def s8k (x:Int):Ht Hs:=some (y7e ([IntKind.u8.wrap (Int.fdiv x (2^(min (24:Int).toNat IntKind.u32.bits))),IntKind.u8.wrap (Int.fdiv x (2^(min (16:Int).toNat IntKind.u32.bits))),IntKind.u8.wrap (Int.fdiv x (2^(min (8:Int).toNat IntKind.u32.bits))),IntKind.u8.wrap x]:Hu Int))
theorem s86:t3q=s8k:=zC 265 rfl Tryz.func265 (by kernel_rfl)
def t88(x:(Int×Hs)):Ht Int:=zK 274 x
def s10(g:(Int×(Hs×p84))→Ht ((Int×p0c)⊕Unit))(x:(Int×(Hs×p84))):Ht ((Int×p0c)⊕Unit):=cond (decide (x.2.2.2<8)) (cond (decide ((Int.tmod x.1 (2:Int))=1)) (g (IntKind.u32.wrap ((BitVec.ofInt IntKind.u32.bits (IntKind.u32.wrap (Int.tdiv x.1 (2:Int)))^^^BitVec.ofInt IntKind.u32.bits (3558460437:Int)).toNat:Int),x.2.1,x.2.2.1,IntKind.i64.wrap (x.2.2.2+1))) (g (IntKind.u32.wrap (Int.tdiv x.1 (2:Int)),x.2.1,x.2.2.1,IntKind.i64.wrap (x.2.2.2+1)))) (some (.inl (x.1,x.2.1,x.2.2.1)))
def t0q:=lpW _ _ s10
theorem r6d x:t0q x=s10 t0q x:=zW s3d 274 Tryz.f274 6 33 x (by kernel_rfl)
def t0b(g:(Int×p0c)→Ht p7m)(x:(Int×p0c)):Ht p7m:=cond (decide (x.2.2<(x.2.1.size:Int))) (cond (y4l x.2.2 x.2.1.size) ((t0q (IntKind.u32.wrap ((BitVec.ofInt IntKind.u32.bits x.1^^^BitVec.ofInt IntKind.u32.bits (IntKind.u32.wrap ((x.2.1.data.toList.getD x.2.2.toNat 0).toNat:Int))).toNat:Int),x.2.1,x.2.2,0)).bind fun r1=>match r1 with | .inl o2=>g (o2.1,o2.2.1,IntKind.i64.wrap (o2.2.2+1)) | .inr z3=>some (.inr ())) none) (some (.inl x.1))
def t0p:=lpW _ _ t0b
theorem s36 x:t0p x=t0b t0p x:=zW s3c 274 Tryz.f274 2 33 x (by kernel_rfl)
def s8a (x:(Int×Hs)):Ht Int:=(t0p (x.1,x.2,0)).bind fun r4=>match r4 with | .inl o5=>some o5 | .inr z6=>none
theorem r99:t88=s8a:=zC 274 rfl Tryz.func274 (by kernel_rfl)
end
end Go.Proofs.YtdeadnnhblaflaaGreatDoor.Ab
