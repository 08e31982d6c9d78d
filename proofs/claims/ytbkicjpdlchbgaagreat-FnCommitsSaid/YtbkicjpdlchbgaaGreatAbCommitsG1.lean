import Derived.Test.YtbkicjpdlchbgaaGreatAbK2
import Derived.Test.YtbkicjpdlchbgaaGreatAbF4
import Derived.Test.YtbkicjpdlchbgaaGreatAbS1
import Derived.KernelRfl
import Derived.Test.YtbkicjpdlchbgaaGreatProg
namespace Go.Proofs.YtbkicjpdlchbgaaGreat.Ab
open Go
set_option linter.unusedVariables false
noncomputable section
abbrev q4f:Ty:=(.pair .str .str)
abbrev o5z:Ty:=(.pair .str .bool)
abbrev u1x:Ty:=(.pair .str o5z)
abbrev o5x:Ty:=(.pair .bool .str)
abbrev p01:Ty:=(.pair (.sl u1x) o5x)
abbrev r8k:Ty:=(.pair (.sl q4f) p01)
abbrev r32:Ty:=(.pair (.int .i64) r8k)
abbrev r0g:Ty:=(.pair (.int .i64) r32)
abbrev s7i:Ty:=(.pair (.int .i64) r0g)
abbrev u0a:Ty:=(.pair (.int .i64) s7i)
abbrev o5w:Ty:=(.pair .bool (.int .i64))
abbrev o0y:Ty:=(.pair .str o5w)
abbrev u0g:Ty:=(.pair .str o0y)
abbrev p4t:Ty:=(.pair (.int .i64) .str)
abbrev o4e:Ty:=(.pair (.int .i64) (.int .i64))
abbrev t8a:Ty:=(.pair (.sl u0a) o4e)
abbrev p48:Ty:=(.pair (.sl u0a) t8a)
abbrev r9n:Ty:=(.pair (.sl u0g) p48)
abbrev q7x:Ty:=(.pair r9n (.sl u0a))
abbrev p2c:Ty:=(.pair (.sl .str) (.sl p4t))
abbrev p46:Ty:=(.pair q7x p2c)
abbrev p44:Ty:=(.pair .bool r9n)
abbrev p49:Ty:=(.pair .str p44)
abbrev p47:Ty:=(.pair u0a p49)
abbrev p45:Ty:=(.pair (.int .i64) p47)
abbrev o5y:Ty:=(.pair (.int .i64) .bool)
abbrev o0z:Ty:=(.pair .str o5y)
abbrev p9m:Ty:=(.pair (.sl (.int .u8)) o4e)
abbrev s0i:=((List ByteArray)×(List p4t.den))
abbrev o21:=((ByteArray×ByteArray)×ByteArray)
abbrev o20:=((List q4f.den)×(List u1x.den))
abbrev o2z:=((List u1x.den)×(List u1x.den))
abbrev o2y:=(ByteArray×((List Int)×(Int×Int)))
abbrev o5i:=(ByteArray×(ByteArray×(Int×Bool)))
abbrev o0q:=((List u0g.den)×(ByteArray×Int))
abbrev o5h:=(ByteArray×(Int×(Int×(Int×Int))))
abbrev o0p:=(List (List u0a.den))
abbrev o5g:=((List q4f.den)×((List q4f.den)×Int))
abbrev p04:=((List u0a.den)×Int)
abbrev o5f:=(Int×s0i)
abbrev p03:=(s0i×Int)
abbrev o2x:=((List q4f.den)×((List u1x.den)×Int))
abbrev r58:=(s0i×Bool)
abbrev o3s:=((List u0g.den)×(ByteArray×ByteArray))
abbrev o5e:=((List u1x.den)×(Int×(List u1x.den)))
abbrev o2w:=((List u1x.den)×((List u1x.den)×Int))
abbrev o5d:=(((List Int)×(Int×Int))×(List ByteArray))
abbrev o2v:=((List u0g.den)×((List u1x.den)×Int))
abbrev o5c:=(s0i×ByteArray)
abbrev o5b:=(o0p×Int)
abbrev o5a:=((List u0g.den)×(Int×(List u0g.den)))
abbrev o0o:=((List u0a.den)×(Int×Int))
abbrev o2u:=(s0i×(Int×Int))
abbrev o49:=(Int×p03)
abbrev o2t:=((List u1x.den)×((List q4f.den)×(Int×Int)))
abbrev o48:=((List q4f.den)×((List u1x.den)×(Int×Int)))
abbrev o2s:=((List u1x.den)×(ByteArray×(ByteArray×Bool)))
abbrev o47:=((ByteArray×ByteArray)×((List Int)×(Int×Int)))
abbrev o46:=((List u0g.den)×((ByteArray×ByteArray)×Int))
abbrev p84:=((List u1x.den)×((List u1x.den)×(Int×Int)))
abbrev o45:=(ByteArray×(Int×((List u0g.den)×(Int×Int))))
abbrev o44:=((List u0g.den)×(ByteArray×(Int×(Int×Int))))
abbrev o43:=((List u0a.den)×(ByteArray×Int))
abbrev o2r:=(s0i×(List ByteArray))
abbrev o42:=((List u1x.den)×(Int×((List u0g.den)×Int)))
abbrev p83:=(s0i×(Int×ByteArray))
abbrev o2q:=(Int×o0o)
abbrev o2p:=((List u0g.den)×((List u0g.den)×(Int×Int)))
abbrev p63:=((List u0a.den)×(Int×(Int×Int)))
abbrev o41:=((List u0g.den)×(Int×((List u0g.den)×Int)))
abbrev o40:=(Int×((List u0g.den)×((List u0g.den)×Int)))
abbrev o03:=((ByteArray×(ByteArray×Bool))×((List u1x.den)×Int))
abbrev o4z:=((ByteArray×(ByteArray×Bool))×((List Int)×(Int×Int)))
abbrev o4y:=((List u0g.den)×(ByteArray×(ByteArray×(Bool×Int))))
abbrev o4x:=(Int×((List u0g.den)×((List u1x.den)×(Int×Int))))
abbrev o2o:=((ByteArray×(Int×Bool))×(List u0a.den))
abbrev o4w:=((List u0a.den)×(ByteArray×(Int×Bool)))
abbrev o4v:=(s0i×(Int×(Int×ByteArray)))
abbrev o3r:=(Int×o2p)
abbrev o4u:=(Int×(Int×(s0i×(ByteArray×Int))))
abbrev o4t:=(Int×((List u0g.den)×((List u0g.den)×(Int×(Int×Int)))))
abbrev o4s:=((List u0g.den)×(Int×((List q4f.den)×((List ByteArray)×Int))))
abbrev o4r:=((List u1x.den)×((ByteArray×(ByteArray×Bool))×(List u1x.den)))
abbrev o4q:=((List u0g.den)×((ByteArray×ByteArray)×((List ByteArray)×Int)))
abbrev o4p:=((List u0g.den)×((ByteArray×ByteArray)×(Int×(List ByteArray))))
abbrev o0n:=(s0i×s0i)
abbrev o4o:=((List u0g.den)×((ByteArray×(ByteArray×(Bool×Int)))×(Int×Int)))
abbrev o4n:=((List u0a.den)×p04)
abbrev o2n:=((List u1x.den)×o03)
abbrev o2m:=((ByteArray×(ByteArray×(Bool×Int)))×(ByteArray×(ByteArray×(Bool×Int))))
abbrev o4m:=(s0i×r58)
abbrev o4l:=((List u0g.den)×(ByteArray×(Int×(Int×((List u0g.den)×(Int×Int))))))
abbrev o4k:=((ByteArray×(Int×Bool))×o2q)
abbrev o4j:=((List u0g.den)×o3r)
abbrev o4i:=(Int×((List u0g.den)×o2p))
abbrev o3q:=((List u0a.den)×o0o)
abbrev t4k:=(Int×(Int×(Int×(Int×((List q4f.den)×((List u1x.den)×(Bool×ByteArray)))))))
abbrev o4h:=(Int×(s0i×p03))
abbrev o4g:=((List u0a.den)×(o0p×(Int×Int)))
abbrev o4f:=((List u0a.den)×o2q)
abbrev p02:=(t4k×Int)
abbrev Z99:=(t4k×Bool)
abbrev Z98:=(t4k×ByteArray)
abbrev Z97:=(t4k×(Int×Bool))
abbrev Z96:=((List u0g.den)×((ByteArray×ByteArray)×((List ByteArray)×(Int×(ByteArray×(List ByteArray))))))
abbrev Z95:=(o0p×(Int×(o0p×(Int×Int))))
abbrev Z94:=(t4k×(ByteArray×Int))
abbrev Z93:=((List u0g.den)×o3q)
abbrev Z92:=(Int×(s0i×((List ByteArray)×(ByteArray×((List ByteArray)×(Int×Int))))))
abbrev Z91:=((List u0g.den)×((ByteArray×ByteArray)×((List ByteArray)×(Int×(ByteArray×((List ByteArray)×Int))))))
abbrev Z90:=((List u1x.den)×((ByteArray×ByteArray)×((List q4f.den)×(Int×(Int×((List u1x.den)×(Int×Int)))))))
abbrev Z89:=(t4k×(ByteArray×ByteArray))
abbrev Z88:=((List ByteArray)×(s0i×(Int×(s0i×(Bool×Int)))))
abbrev Z87:=(Z93×Int)
abbrev Z86:=(Z93×Bool)
abbrev Z85:=(s0i×(s0i×p03))
abbrev Z84:=(t4k×((List q4f.den)×(Int×Int)))
abbrev Z83:=(Z93×ByteArray)
abbrev Z82:=(t4k×(ByteArray×(ByteArray×Bool)))
abbrev Z81:=(Z93×(List Int))
abbrev Z80:=(t4k×((List u0g.den)×ByteArray))
abbrev Z79:=((List u1x.den)×((ByteArray×(ByteArray×Bool))×((List u1x.den)×(Int×(Int×((List u1x.den)×(Int×Int)))))))
abbrev Z78:=((List u0g.den)×(ByteArray×t4k))
abbrev Z77:=(Z93×(Int×Bool))
abbrev Z76:=((List u0a.den)×t4k)
abbrev Z75:=(t4k×(List u0a.den))
abbrev Z74:=((List u1x.den)×(Int×((List u0g.den)×(Int×((ByteArray×(ByteArray×(Bool×Int)))×((List u0g.den)×Int))))))
abbrev Z73:=(Z93×(ByteArray×Int))
abbrev Z72:=(ByteArray×Z87)
abbrev Z71:=(Z93×((List Int)×Int))
abbrev Z70:=((List u0g.den)×(ByteArray×p02))
abbrev Z69:=((List u0a.den)×p02)
abbrev Z68:=(t4k×o3s)
abbrev Z67:=(Z93×((List Int)×(Int×Int)))
abbrev Z66:=((List u0a.den)×(t4k×(Int×Int)))
abbrev Z65:=((List u0a.den)×(t4k×(Bool×Int)))
abbrev Z64:=(Z93×(List u0a.den))
abbrev Z63:=(Z93×((List u0g.den)×(Int×Int)))
abbrev Z62:=(Int×(Int×(ByteArray×Z85)))
abbrev Z61:=(Z64×Int)
abbrev Z60:=((List u0g.den)×(t4k×((List q4f.den)×((List ByteArray)×Int))))
abbrev Z59:=((List u0g.den)×(t4k×((ByteArray×ByteArray)×(List u0g.den))))
abbrev Z58:=(Z93×o0o)
abbrev Z57:=(Z64×(Int×Int))
abbrev Z56:=(Int×Z61)
abbrev Z55:=((List u0a.den)×Z75)
abbrev Z54:=((List u0g.den)×(t4k×((ByteArray×ByteArray)×((List u0g.den)×Int))))
abbrev Z53:=(Z64×(Int×ByteArray))
abbrev Z52:=(Z64×(ByteArray×Bool))
abbrev Z51:=(Z64×((List q4f.den)×Int))
abbrev Z50:=(Z64×(ByteArray×(Bool×Int)))
abbrev Z49:=(Z64×((List Int)×(Int×Int)))
abbrev Z48:=((List u0a.den)×(Z75×(Int×Int)))
abbrev Z47:=(t4k×t4k)
abbrev Z46:=(Z64×(Int×(ByteArray×ByteArray)))
abbrev Z45:=(Z64×(List u0a.den))
abbrev Z44:=(Z64×s0i)
abbrev Z43:=(Z64×(Int×(ByteArray×(ByteArray×Bool))))
abbrev Z42:=(Int×Z44)
abbrev Z41:=(Z44×Int)
abbrev Z40:=(Bool×Z44)
abbrev Z39:=(Z44×Bool)
abbrev Z38:=(Z64×(Int×p04))
abbrev Z37:=(Z64×o0o)
abbrev Z36:=(Z93×t4k)
abbrev Z35:=(Z44×(Int×ByteArray))
abbrev Z34:=(Z44×(ByteArray×Bool))
abbrev Z33:=(t4k×((ByteArray×(Int×Bool))×t4k))
abbrev Z32:=(Z93×Z98)
abbrev Z31:=(Z44×((List Int)×(Int×Int)))
abbrev Z30:=(((List Int)×(Int×Int))×Z44)
abbrev Z29:=(t4k×Z75)
abbrev Z28:=(Z93×Z93)
abbrev Z27:=(t4k×((ByteArray×(Int×Bool))×(t4k×(Int×Int))))
abbrev Z26:=(Int×(t4k×(ByteArray×(Bool×Z93))))
abbrev Z25:=((List u0a.den)×(t4k×(Int×p02)))
abbrev Z24:=(Z26×Bool)
abbrev Z23:=((List u0a.den)×(t4k×(Bool×(Int×p02))))
abbrev Z22:=(Z64×(Int×t4k))
abbrev Z21:=(Z93×(Z93×((List ByteArray)×Int)))
abbrev Z20:=(Z93×((ByteArray×(Int×Bool))×Z93))
abbrev Z19:=(Z64×(Int×p02))
abbrev Z18:=(Z93×((ByteArray×(Int×Bool))×(Z93×(Int×Int))))
abbrev Z17:=(t4k×((ByteArray×ByteArray)×Z47))
abbrev Z16:=(t4k×((ByteArray×ByteArray)×(t4k×p02)))
abbrev Z15:=(t4k×Z28)
abbrev Z14:=(Z93×Z26)
abbrev Z13:=(Z93×(Z93×Z87))
abbrev Z12:=(Z93×(Z93×(Z93×(Int×Int))))
abbrev Z11:=(ByteArray×Z13)
abbrev Z10:=(Z64×(Z26×Int))
abbrev Z9:=(((List Int)×(Int×Int))×(Z44×Z44))
abbrev Z8:=(t4k×(Z93×Z36))
abbrev Z7:=(Z44×Z26)
abbrev Z6:=(((List Int)×(Int×Int))×(Int×(Z44×Z41)))
abbrev Z5:=(t4k×(Z93×(Z93×(t4k×(Unit×(Int×Int))))))
abbrev Z4:=(ByteArray×(Z93×(t4k×(Z93×Z87))))
abbrev Z3:=(Z93×(t4k×(Z93×(Z93×p02))))
abbrev Z2:=(ByteArray×(Z93×Z8))
abbrev Z1:=(ByteArray×Z3)
def o5o:Tabs where
 ty:= [(3,(.int .i64)),(5,(.int .u8)),(9, .str),(22,(.sl (.int .u8))),(24,(.sl u0g)),(25,(.sl u0a)),(27,r9n),(29,q7x),(30,(.sl .str)),(31,(.sl p4t)),(33,p2c),(35,p46),(51,u1x),(58,(.sl (.int .i64))),(85,(.sl q4f)),(86,(.sl u1x)),(88,u0a),(90,p45),(97,(.sl q4f)),(100,q4f),(155,u0g),(167,q4f),(210,o0z),(217,(.sl (.sl u0a))),(244,p9m),(275,(.int .u32)),(307,p4t)]
 lay:= [(3,1,false),(4,1,false),(5,1,false),(9,1,false),(22,1,false),(24,1,false),(25,1,false),(27,5,true),(29,6,true),(30,1,false),(31,1,false),(33,2,true),(35,8,true),(51,3,true),(85,1,false),(86,1,false),(88,8,true),(90,16,true),(100,2,true),(155,4,true),(167,2,true)]
 fld:= [(27, [(0,1,false),(1,1,false),(2,1,false),(3,1,false),(4,1,false)]),(29, [(0,5,true),(5,1,false)]),(33, [(0,1,false),(1,1,false)]),(35, [(0,6,true),(6,2,true)]),(51, [(0,1,false),(1,1,false),(2,1,false)]),(88, [(0,1,false),(1,1,false),(2,1,false),(3,1,false),(4,1,false),(5,1,false),(6,1,false),(7,1,false)]),(90, [(0,1,false),(1,8,true),(9,1,false),(10,1,false),(11,5,true)]),(100, [(0,1,false),(1,1,false)]),(155, [(0,1,false),(1,1,false),(2,1,false),(3,1,false)]),(167, [(0,1,false),(1,1,false)]),(210, [(0,1,false),(1,1,false),(2,1,false)]),(244, [(0,1,false),(1,1,false),(2,1,false)]),(307, [(0,1,false),(1,1,false)])]
 eqs:= [(100, [.s, .s]),(167, [.s, .s])]
abbrev zL (a:List Nat) (s:Sh) (n:Nat) (b:List Nat) (t:Sh) (c:List Nat) (u:Sh):LoopA:=⟨⟨a,s, []⟩,n,⟨b,t, []⟩,⟨c,u, []⟩⟩
def zS (i o:Sh) (n:Nat:=1) (b:List Bool:= []):Sig:=⟨i,b,o,n⟩
abbrev o1w:Ty:=.int .u8
abbrev o6a:Ty:=.sl u0a
abbrev o1x:Ty:=.int .i64
abbrev u1l:Sh:=.int .i64
abbrev s0h:Sh:=.tr false u0a
abbrev r9k:Sh:=.own true u0a
abbrev s2f:Sh:=.pair u1l u1l
abbrev s7m:Sh:=.tr false u0g
abbrev r52:Sh:=.tr false u1x
abbrev p17:Sh:=.pair .str .bool
abbrev q7p:Sh:=.own true u0g
abbrev o1y:Sh:=.pair q7p (.pair r9k (.pair r9k s2f))
abbrev o0h:Sh:=.pair o1y r9k
abbrev o33:Sh:=.pair .str .str
abbrev q37:Sh:=.box o1y
abbrev p0l:Sh:=.pair .str u1l
abbrev o3c:Sh:=.pair .str p17
abbrev p29:Sh:=.tr false q4f
abbrev o29:Sh:=.pair u1l (.pair u1l (.pair u1l (.pair u1l (.pair p29 (.pair r52 (.pair .bool .str))))))
abbrev r9l:Sh:=.agg o29
abbrev q7q:Sh:=.rbox o29
abbrev r8g:Sh:=.box o29
abbrev p4q:Sh:=.own true .str
abbrev o0g:Sh:=.pair p4q (.own true p4t)
abbrev p28:Sh:=.box (.pair o0h o0g)
abbrev p40:Sh:=.pair (.agg o0g) .bool
abbrev o13:Sh:=.own false u0a
abbrev o3e:Sh:=.pair r8g u1l
abbrev p9e:Sh:=.tr true u0g
abbrev p4r:Sh:=.box o0g
abbrev p8w:Sh:=.pair r9l s0h
abbrev p4s:Sh:=.rbox u1l
abbrev o3f:Sh:=.clo 284 (.pair q7q (.rbox s0h))
abbrev p60:Sh:=.agg o0h
abbrev o2a:Sh:=.pair u1l .str
abbrev o2b:Sh:=.pair r52 s2f
abbrev p8x:Sh:=.own true u1x
abbrev o3d:Sh:=.pair (.box o3c) (.pair p8x u1l)
abbrev p9f:Sh:=.pair u1l .bool
abbrev p0k:Sh:=.box (.pair .str p9f)
abbrev o0k:Sh:=.pair r52 u1l
abbrev o0l:Sh:=.pair r9l q7q
abbrev p9g:Sh:=.pair s0h s2f
abbrev o0e:Sh:=.pair s7m (.pair s0h p9g)
abbrev p27:Sh:=.agg (.pair o0e s0h)
abbrev o1z:Sh:=.agg (.pair u1l (.pair o29 (.pair .str (.pair .bool o0e))))
abbrev q2b:Sh:=.box o0e
abbrev q7s:Sh:=.agg o0e
abbrev o0j:Sh:=.box (.pair o0e s0h)
abbrev p8v:Sh:=.pair p27 u1l
abbrev p41:Sh:=.agg o1y
abbrev p9h:Sh:=.own true q4f
abbrev o0f:Sh:=.pair u1l (.pair u1l (.pair u1l (.pair u1l (.pair p9h (.pair p8x (.pair .bool .str))))))
abbrev o3b:Sh:=.pair p60 (.pair (.agg (.pair u1l (.pair o0f (.pair .str (.pair .bool o1y))))) u1l)
abbrev p3a:Sh:=.box o0f
abbrev p61:Sh:=.agg o33
abbrev o0m:Sh:=.tr false o1w
abbrev q2a:Sh:=.box (.pair o0m s2f)
abbrev o3g:Sh:=.agg (.pair o0h o0g)
abbrev p8y:Sh:=.agg o3c
abbrev o2c:Sh:=.pair u1l s2f
abbrev o2d:Sh:=.pair p60 u1l
abbrev o2e:Sh:=.pair r9l r9l
abbrev o2f:Sh:=.pair r9k u1l
abbrev o34:Sh:=.pair p4r (.pair p4r u1l)
abbrev o35:Sh:=.pair q37 (.pair q37 u1l)
abbrev o2g:Sh:=.pair s0h o3e
abbrev o2h:Sh:=.pair s7m s2f
abbrev p9i:Sh:=.int .u32
abbrev p80:Sh:=.box o33
abbrev o5q:Sh:=.pair s7m (.pair p80 (.pair (.tr true .str) (.pair u1l (.pair .str (.pair p4q u1l)))))
abbrev o2i:Sh:=.tr false o6a
abbrev o36:Sh:=.pair s0h (.clo 282 q7q)
abbrev o37:Sh:=.pair s0h (.clo 385 q7q)
abbrev o38:Sh:=.pair s0h (.clo 386 q7q)
abbrev o39:Sh:=.pair s0h (.clo 283 q7q)
abbrev o4a:Sh:=.pair s0h (.clo 285 q7q)
abbrev o4b:Sh:=.pair s0h (.clo 289 q7q)
abbrev o4c:Sh:=.pair (.tr true .str) u1l
abbrev o4d:Sh:=.pair (.agg o0f) .bool
abbrev o2j:Sh:=.pair .bool u1l
abbrev o0i:Sh:=.pair .str (.pair .str o2j)
abbrev o3h:Sh:=.pair q7s s0h
abbrev o3k:Sh:=.pair u1l o3e
abbrev o5s:Sh:=.pair p3a (.pair p0k (.pair p3a s2f))
abbrev o2k:Sh:=.pair q7p u1l
abbrev o5r:Sh:=.pair r52 (.pair u1l (.pair p9e (.pair u1l (.pair (.box o0i) o2k))))
abbrev o3l:Sh:=.pair q37 q37
abbrev o5t:Sh:=.pair r8g (.pair q37 (.pair q37 p3a))
abbrev o3m:Sh:=.pair r52 o2b
abbrev o5u:Sh:=.pair q2b (.pair (.own true o1x) u1l)
abbrev o5v:Sh:=.pair q2b (.pair (.tr true o1x) u1l)
abbrev o2l:Sh:=.tr false .str
abbrev o3a:Sh:=.pair o2l (.tr false p4t)
abbrev p0g:Sh:=.agg o3a
abbrev p8z:Sh:=.box o3a
abbrev o3i:Sh:=.pair p0g u1l
abbrev o3j:Sh:=.pair p0g o2a
def p94:Nat→Sig
 | 15=>zS o0m .bool
 | 106=>zS r9l (.agg o0f)
 | 241=>zS s0h r9k
 | 104=>zS q7s p41
 | 108=>zS p27 p60
 | 188=>zS o2c .bool
 | 191=>zS .str .bool
 | 110=>zS p8y .bool
 | 243=>zS r52 .bool
 | 316=>zS p61 .bool
 | 189=>zS r9l .bool
 | 197=>zS s7m .bool
 | 69=>zS q7s .bool
 | 109=>zS p27 .bool
 | 24=>zS p27 (.pair p60 s2f) 3
 | 95=>zS o0m q2a
 | 270=>zS q2a (.pair u1l q2a) 1 [true]
 | 140=>zS (.pair q2a u1l) (.pair u1l q2a) 1 [true,false]
 | 223=>zS .unit p41
 | 348=>zS .unit p60
 | 330=>zS .unit u1l
 | 394=>zS (.pair u1l (.int .u8)) .str
 | 464=>zS .unit .str
 | 418=>zS u1l p40 2
 | 349=>zS .unit (.agg o0g)
 | 230=>zS .unit o3g
 | 49=>zS p8v u1l
 | 242=>zS (.pair r52 p8y) p8x
 | 111=>zS (.pair r9l p8y) o4d 2
 | 25=>zS (.pair p27 (.pair u1l p8y)) o2d 2
 | 337=>zS p0g (.agg o0g)
 | 225=>zS (.agg (.pair (.pair o0e s0h) o3a)) o3g
 | 313=>zS u1l .str
 | 315=>zS p0l (.pair u1l p9f) 3
 | 310=>zS p0l (.pair .str p9f) 3
 | 180=>zS p0k (.pair .str p0k) 1 [true]
 | 181=>zS p0k (.pair .bool p0k) 1 [true]
 | 186=>zS p0k (.pair u1l p0k) 1 [true]
 | 182=>zS p0l (.pair (.agg o0f) p9f) 3
 | 187=>zS (.pair p0k u1l) (.pair r9k p0k) 1 [true,false]
 | 65=>zS p0l (.pair p41 p9f) 3
 | 190=>zS r9l .bool
 | 192=>zS q7s .bool
 | 66=>zS o1z .bool
 | 307=>zS p9i .str
 | 392=>zS (.pair p9i .str) p9i
 | 308=>zS .str p9i
 | 178=>zS .str p17 2
 | 304=>zS .str .str
 | 305=>zS .bool .str
 | 306=>zS r9l p17 2
 | 314=>zS s0h .str
 | 185=>zS q7s p17 2
 | 176=>zS o1z p17 2
 | 177=>zS .str p17 2
 | 60=>zS .str (.pair (.agg (.pair u1l (.pair o0f (.pair .str (.pair .bool o1y))))) .bool) 2
 | 105=>zS o3h u1l
 | 113=>zS (.pair s7m p0l) u1l
 | 107=>zS (.pair s7m u1l) q7p
 | 21=>zS o3h p41
 | 287=>zS o2e .bool
 | 281=>zS (.pair p61 .str) .bool
 | 288=>zS (.pair p29 r52) .bool
 | 162=>zS o2e .bool
 | 161=>zS p8w .bool
 | 379=>zS (.pair s7m o0k) q7p
 | 318=>zS (.pair q7s r9l) p41
 | 319=>zS (.pair q7s .str) u1l
 | 320=>zS (.pair q7s (.pair r9l .str)) p41
 | 321=>zS (.pair q7s .str) p41
 | 201=>zS (.pair q7s o1z) (.pair q7s .bool) 2
 | 73=>zS (.pair q7s o1z) (.pair p41 .bool) 2
 | 417=>zS o3i p17 2
 | 344=>zS (.pair p0g s2f) p17 2
 | 345=>zS u1l u1l
 | 347=>zS o3i u1l
 | 346=>zS o3i u1l
 | 227=>zS o3i (.pair p4q p9f) 3
 | 228=>zS p0g u1l
 | 91=>zS p0g p4q
 | 88=>zS p0g (.pair p41 .bool) 2
 | 329=>zS p0g .bool
 | 212=>zS p0g .bool
 | 413=>zS p0g (.agg o0g)
 | 414=>zS o3j p40 2
 | 411=>zS (.pair p0g (.pair u1l o2a)) p40 2
 | 412=>zS u1l .str
 | 432=>zS (.pair p0g s2f) p40 2
 | 430=>zS o3j p40 2
 | 463=>zS o3j p40 2
 | 415=>zS (.pair p0g o2l) p40 2
 | 416=>zS p0g p40 2
 | 343=>zS (.pair p0g o2l) p40 2
 | 226=>zS p0g p40 2
 | 90=>zS (.agg (.pair (.pair o0e s0h) o3a)) (.pair o3g .bool) 2
 | 245=>zS (.pair q2a o2l) (.pair .str q2a) 1 [true,false]
 | 247=>zS (.pair q2a u1l) (.pair .bool q2a) 1 [true,false]
 | 351=>zS q2a (.pair .str q2a) 1 [true]
 | 322=>zS q2a (.pair p8y q2a) 1 [true]
 | 419=>zS (.pair r9l p61) o4d 2
 | 27=>zS (.pair s7m p0l) p17 2
 | 420=>zS (.pair r9l (.pair s7m .str)) p17 2
 | 350=>zS (.pair p27 o2a) (.pair p60 (.pair .str o2j)) 4
 | 153=>zS (.pair s7m p61) p4q
 | 421=>zS (.pair r9l (.pair s7m p61)) p9h
 | 352=>zS (.pair p27 (.pair u1l p61)) (.pair p60 (.pair p9h u1l)) 3
 | 353=>zS q2a (.pair p61 q2a) 1 [true]
 | 424=>zS (.pair (.box o0h) u1l) (.box o0h) 0 [true,false]
 | 159=>zS (.pair r52 r52) .bool
 | 53=>zS p8w .bool
 | 160=>zS p8w .bool
 | 54=>zS p8w .bool
 | 406=>zS q7s .bool
 | 467=>zS q7s o13
 | 465=>zS p8v u1l
 | 422=>zS p8v o3b 3
 | 469=>zS o3j p40 2
 | 429=>zS (.pair p0g .str) p40 2
 | 423=>zS (.pair p28 o1z) (.pair .bool p28) 1 [true,false]
 | 354=>zS (.pair p28 u1l) (.pair u1l p28) 1 [true,false]
 | 466=>zS p8w .bool
 | 425=>zS (.pair p27 o2a) o3b 3
 | 355=>zS (.pair p28 o2a) (.pair u1l p28) 1 [true,false,false]
 | 339=>zS (.pair p27 p17) o3b 3
 | 356=>zS (.pair p28 p17) (.pair u1l p28) 1 [true,false,false]
 | 357=>zS p8v o2d 2
 | 231=>zS (.pair q2a p28) (.pair q2a p28) 0 [true,true]
 | 94=>zS (.pair q2a u1l) (.pair o3g q2a) 1 [true,false]
 | 139=>zS q2a (.pair p60 q2a) 1 [true]
 | 40=>zS o0m o2d 2
 | 156=>zS (.pair r9l p4s) .bool
 | 10021=>zS (.pair s0h (.clo 156 p4s)) u1l
 | 50=>zS p8v u1l
 | 290=>zS (.pair .nil u1l) r9k
 | 164=>zS o2i o13
 | 144=>zS p27 o13
 | 151=>zS q7s .bool
 | 125=>zS r9l .bool
 | 195=>zS r9l .bool
 | 253=>zS (.pair r52 r52) .bool
 | 282=>zS o0l .bool
 | 10020=>zS o36 u1l
 | 10019=>zS o36 .bool
 | 10018=>zS o36 .bool
 | 154=>zS p8w .bool
 | 258=>zS (.pair p61 .str) .bool
 | 252=>zS (.pair p29 r52) .bool
 | 442=>zS o2e .bool
 | 384=>zS o2e .bool
 | 273=>zS o2e .bool
 | 385=>zS o0l .bool
 | 10008=>zS o37 u1l
 | 10007=>zS o37 .bool
 | 10006=>zS o37 .bool
 | 274=>zS p8w .bool
 | 386=>zS o0l .bool
 | 10005=>zS o38 u1l
 | 10004=>zS o38 .bool
 | 10003=>zS o38 .bool
 | 278=>zS p8w .bool
 | 283=>zS o0l .bool
 | 10011=>zS o39 u1l
 | 10010=>zS o39 .bool
 | 10009=>zS o39 .bool
 | 285=>zS o0l .bool
 | 10017=>zS o4a u1l
 | 10016=>zS o4a .bool
 | 10015=>zS o4a .bool
 | 284=>zS (.pair r9l (.pair q7q (.rbox s0h))) .bool
 | 10014=>zS (.pair s0h o3f) u1l
 | 10013=>zS (.pair s0h o3f) .bool
 | 10012=>zS (.pair s0h o3f) .bool
 | 155=>zS p8w .bool
 | 48=>zS p8v u1l
 | 147=>zS r9l (.agg o0f)
 | 271=>zS s0h r9k
 | 200=>zS q7s p41
 | 235=>zS o3h u1l
 | 363=>zS (.pair s7m p0l) u1l
 | 364=>zS (.pair .str (.rbox s7m)) u1l
 | 238=>zS (.pair s7m u1l) q7p
 | 237=>zS (.pair r9l p4s) .bool
 | 10023=>zS (.pair s0h (.clo 237 p4s)) u1l
 | 10022=>zS (.pair r9k (.clo 237 p4s)) r9k
 | 100=>zS o3h p41
 | 141=>zS p27 p60
 | 277=>zS (.pair r9l p4s) .bool
 | 10028=>zS (.pair s0h (.clo 277 p4s)) u1l
 | 10027=>zS (.pair r9k (.clo 277 p4s)) r9k
 | 145=>zS p8v p60
 | 77=>zS p8v o2d 2
 | 257=>zS (.pair q7p (.pair u1l q7p)) q7p
 | 433=>zS .str .bool
 | 372=>zS o33 u1l
 | 434=>zS u1l .bool
 | 373=>zS s2f u1l
 | 256=>zS (.pair (.agg o0i) (.agg o0i)) u1l
 | 255=>zS (.pair (.agg o0i) (.rbox o0i)) .bool
 | 10024=>zS (.pair s7m (.clo 255 (.rbox o0i))) u1l
 | 120=>zS (.pair s7m o0k) q7p
 | 279=>zS o0l .bool
 | 10026=>zS (.pair s0h (.clo 279 q7q)) u1l
 | 10025=>zS (.pair r9k (.clo 279 q7q)) r9k
 | 150=>zS (.pair q7s r9l) p41
 | 43=>zS p8v o3b 3
 | 45=>zS (.pair p29 p29) .bool
 | 46=>zS (.pair s7m (.pair p61 u1l)) p9h
 | 47=>zS .unit p61
 | 289=>zS o0l .bool
 | 10002=>zS o4b u1l
 | 10001=>zS o4b .bool
 | 10000=>zS o4b .bool
 | 163=>zS (.pair s0h u1l) .bool
 | 205=>zS o2c .bool
 | 142=>zS .str .bool
 | 208=>zS p61 .bool
 | 157=>zS p8y .bool
 | 291=>zS r52 .bool
 | 165=>zS r9l .bool
 | 204=>zS s7m .bool
 | 76=>zS q7s .bool
 | 55=>zS p27 .bool
 | 51=>zS p27 (.pair p60 s2f) 3
 | 387=>zS (.pair p8x (.pair u1l p8x)) p8x
 | 286=>zS (.pair r52 p8y) p8x
 | 158=>zS (.pair r9l p8y) o4d 2
 | 52=>zS (.pair p27 (.pair u1l p8y)) o2d 2
 | 7=>zS o0m .bool
 | _=>zS .unit .unit 0
def o1a:Nat→Nat→Option Join
 | 188,3=>some ⟨[6],.bool,[]⟩
 | 191,9=>some ⟨[19],.bool,[]⟩
 | 110,3=>some ⟨[2],.bool,[]⟩
 | 243,9=>some ⟨[33],.bool,[]⟩
 | 316,3=>some ⟨[2],.bool,[]⟩
 | 189,3=>some ⟨[31],.bool,[]⟩
 | 189,17=>some ⟨[67],.bool,[]⟩
 | 189,21=>some ⟨[86],.bool,[]⟩
 | 189,25=>some ⟨[2],.bool,[]⟩
 | 197,11=>some ⟨[39],.bool,[]⟩
 | 197,15=>some ⟨[74],.bool,[]⟩
 | 69,3=>some ⟨[38],.bool,[]⟩
 | 69,27=>some ⟨[98],.bool,[]⟩
 | 69,41=>some ⟨[146],.bool,[]⟩
 | 109,3=>some ⟨[16],.bool,[]⟩
 | 109,15=>some ⟨[68],.bool,[]⟩
 | 24,5=>some ⟨[23],.bool,[]⟩
 | 95,7=>some ⟨[15],.bool,[]⟩
 | 111,5=>some ⟨[21],.bool,[]⟩
 | 315,13=>some ⟨[25],.bool,[]⟩
 | 315,23=>some ⟨[54],.bool,[]⟩
 | 310,5=>some ⟨[30],.bool,[]⟩
 | 180,5=>some ⟨[26],.bool,[]⟩
 | 181,3=>some ⟨[30],.bool,[]⟩
 | 186,5=>some ⟨[26],.bool,[]⟩
 | 182,17=>some ⟨[46],.bool,[]⟩
 | 182,31=>some ⟨[76],.bool,[]⟩
 | 182,47=>some ⟨[108],.bool,[]⟩
 | 187,9=>some ⟨[28],.bool,[]⟩
 | 65,13=>some ⟨[37],.bool,[]⟩
 | 65,31=>some ⟨[72],.bool,[]⟩
 | 190,3=>some ⟨[2],.bool,[]⟩
 | 192,3=>some ⟨[2],.bool,[]⟩
 | 66,7=>some ⟨[3],.bool,[]⟩
 | 66,9=>some ⟨[54],.bool,[]⟩
 | 66,13=>some ⟨[77],.bool,[]⟩
 | 177,5=>some ⟨[24],.bool,[]⟩
 | 60,5=>some ⟨[20],.bool,[]⟩
 | 60,29=>some ⟨[66],.bool,[]⟩
 | 113,11=>some ⟨[47],.bool,[]⟩
 | 107,13=>some ⟨[38],.bool,[]⟩
 | 107,37=>some ⟨[90],.bool,[]⟩
 | 287,7=>some ⟨[31],.bool,[]⟩
 | 281,3=>some ⟨[4],.bool,[]⟩
 | 162,3=>some ⟨[4],.bool,[]⟩
 | 161,9=>some ⟨[25],.bool,[]⟩
 | 379,17=>some ⟨[72],.bool,[]⟩
 | 201,15=>some ⟨[36],.bool,[]⟩
 | 73,3=>some ⟨[16],.bool,[]⟩
 | 344,15=>some ⟨[28],.bool,[]⟩
 | 347,5=>some ⟨[18],.bool,[]⟩
 | 227,27=>some ⟨[52],.bool,[]⟩
 | 88,17=>some ⟨[39],.bool,[]⟩
 | 329,3=>some ⟨[15],.bool,[]⟩
 | 329,23=>some ⟨[58],.bool,[]⟩
 | 212,3=>some ⟨[24],.bool,[]⟩
 | 212,11=>some ⟨[2],.bool,[]⟩
 | 414,5=>some ⟨[33],.bool,[]⟩
 | 411,5=>some ⟨[37],.bool,[]⟩
 | 411,25=>some ⟨[77],.bool,[]⟩
 | 430,5=>some ⟨[35],.bool,[]⟩
 | 415,11=>some ⟨[27],.bool,[]⟩
 | 226,7=>some ⟨[24],.bool,[]⟩
 | 419,5=>some ⟨[22],.bool,[]⟩
 | 27,5=>some ⟨[21],.bool,[]⟩
 | 53,11=>some ⟨[45],.bool,[]⟩
 | 160,9=>some ⟨[33],.bool,[]⟩
 | 54,3=>some ⟨[16],.bool,[]⟩
 | 54,15=>some ⟨[43],.bool,[]⟩
 | 54,19=>some ⟨[56],.bool,[]⟩
 | 54,25=>some ⟨[70],.bool,[]⟩
 | 54,31=>some ⟨[91],.bool,[]⟩
 | 406,3=>some ⟨[2],.bool,[]⟩
 | 469,3=>some ⟨[17],.bool,[]⟩
 | 466,17=>some ⟨[33],.bool,[]⟩
 | 466,29=>some ⟨[64],.bool,[]⟩
 | 425,21=>some ⟨[52],.bool,[]⟩
 | 425,25=>some ⟨[61],.bool,[]⟩
 | 339,11=>some ⟨[26],.bool,[]⟩
 | 231,15=>some ⟨[54],.bool,[]⟩
 | 151,3=>some ⟨[2],.bool,[]⟩
 | 282,3=>some ⟨[3],.bool,[]⟩
 | 258,3=>some ⟨[4],.bool,[]⟩
 | 442,3=>some ⟨[4],.bool,[]⟩
 | 273,3=>some ⟨[4],.bool,[]⟩
 | 385,3=>some ⟨[3],.bool,[]⟩
 | 386,3=>some ⟨[3],.bool,[]⟩
 | 283,3=>some ⟨[3],.bool,[]⟩
 | 285,3=>some ⟨[3],.bool,[]⟩
 | 284,3=>some ⟨[13],.bool,[]⟩
 | 155,3=>some ⟨[12],.bool,[]⟩
 | 363,11=>some ⟨[40],.bool,[]⟩
 | 238,11=>some ⟨[31],.bool,[]⟩
 | 205,3=>some ⟨[6],.bool,[]⟩
 | 142,9=>some ⟨[19],.bool,[]⟩
 | 208,3=>some ⟨[2],.bool,[]⟩
 | 157,3=>some ⟨[2],.bool,[]⟩
 | 291,9=>some ⟨[29],.bool,[]⟩
 | 165,15=>some ⟨[52],.bool,[]⟩
 | 165,19=>some ⟨[74],.bool,[]⟩
 | 165,23=>some ⟨[2],.bool,[]⟩
 | 204,9=>some ⟨[50],.bool,[]⟩
 | 76,3=>some ⟨[36],.bool,[]⟩
 | 76,25=>some ⟨[88],.bool,[]⟩
 | 76,37=>some ⟨[128],.bool,[]⟩
 | 55,13=>some ⟨[71],.bool,[]⟩
 | 51,5=>some ⟨[23],.bool,[]⟩
 | 286,7=>some ⟨[22],.bool,[]⟩
 | 286,11=>some ⟨[38],.bool,[]⟩
 | 158,5=>some ⟨[21],.bool,[]⟩
 | 7,17=>some ⟨[56],.bool,[]⟩
 | 7,23=>some ⟨[2],.bool,[]⟩
 | 7,31=>some ⟨[2],.bool,[]⟩
 | _,_=>none
abbrev s6k:=zL [0,3,4] (.pair s0h o2f) 0 [3] r9k [] .unit
abbrev r2n:=zL [0,3] p0l 0 [0] .str [2] .bool
abbrev s3k:=zL [0,3] o0k 0 [0] r52 [2] .bool
abbrev r2r:=zL [1,3] o3e 0 [1] r8g [2] .bool
abbrev t9m:=zL [0,3] (.pair s7m u1l) 0 [0] s7m [2] .bool
abbrev s82:=zL [1,3] (.pair q2b u1l) 0 [1] q2b [2] .bool
abbrev s5w:=zL [1,4,5] o5u 2 [1,4] (.pair q2b (.own true o1x)) [2] .bool
abbrev s5x:=zL [1,4,7] o5u 4 [1,4] (.pair q2b (.tr true o1x)) [2] .bool
abbrev s5y:=zL [1,4,9] o5v 6 [] .unit [2] .bool
abbrev s5z:=zL [1,4,9,10] (.pair q2b (.pair (.tr true o1x) s2f)) 8 [1,4,9] o5v [2] .bool
abbrev s3a:=zL [1,3] (.pair o0j u1l) 0 [] .unit [2] .bool
abbrev s01:=zL [1,3,4,5] (.pair o0j o3k) 2 [1,3,4] (.pair o0j (.pair u1l r8g)) [2] .bool
abbrev s02:=zL [1,3,4,6] (.pair o0j o3k) 4 [1,3] (.pair o0j u1l) [2] .bool
abbrev s9a:=zL [0,3,4] (.pair o0m s2f) 0 [0,3] (.pair o0m u1l) [] .unit
abbrev s6g:=zL [0,1,5,6] (.pair u1l (.pair (.int .u8) (.pair (.own true o1w) u1l))) 0 [5] (.tr true o1w) [] .unit
abbrev s52:=zL [0,2,4,5] (.pair u1l o34) 0 [2,4] (.pair p4r p4r) [] .unit
abbrev s86:=zL [1,2,5] (.pair u1l (.pair o0j u1l)) 0 [] .unit [4] u1l
abbrev s3c:=zL [0,3,5,6] (.pair r52 o3d) 0 [0,3,5] (.pair r52 (.pair (.box o3c) p8x)) [] .unit
abbrev s3d:=zL [0,3,5,7] (.pair r52 o3d) 2 [5] p8x [] .unit
abbrev s9b:=zL [0,3] (.pair u1l (.own true o1w)) 0 [0,3] (.pair u1l (.own true o1w)) [] .unit
abbrev s58:=zL [0,1,7,8,9] (.pair .str (.pair u1l o2c)) 0 [] .unit [4,5,6] (.pair u1l p9f)
abbrev s57:=zL [4,7,8,9,10] o5s 0 [4,7,8] (.pair p3a (.pair p0k p3a)) [] .unit
abbrev s3f:=zL [4,7,8,12,13] o5s 2 [4,7,8] (.pair p3a (.pair p0k p3a)) [] .unit
abbrev t8r:=zL [0,1,5,6,7] (.pair p0k (.pair u1l (.pair r9k s2f))) 0 [0,5] (.pair p0k r9k) [0,4] (.pair p0k r9k)
abbrev s3e:=zL [4,7,8,9,10] (.pair q37 (.pair p0k (.pair q37 s2f))) 0 [4,7,8] (.pair q37 (.pair p0k q37)) [] .unit
abbrev s6a:=zL [0,1,5] (.pair p9i p0l) 0 [0] p9i [] .unit
abbrev s6b:=zL [0,1,5,6] (.pair p9i (.pair .str s2f)) 2 [0,1,5] (.pair p9i p0l) [] .unit
abbrev s6f:=zL [1,4,5] (.pair r8g p0l) 0 [1,4] (.pair r8g .str) [] .unit
abbrev s3j:=zL [1,4,6] (.pair r8g p0l) 2 [1,4] (.pair r8g .str) [] .unit
abbrev s6l:=zL [0,3,4] (.pair s0h p0l) 0 [3] .str [] .unit
abbrev s29:=zL [1,4,5] (.pair q2b p0l) 0 [1,4] (.pair q2b .str) [] .unit
abbrev s3b:=zL [1,5,6] p9g 0 [5] u1l [] .unit
abbrev r2s:=zL [0,1,2,7,8] (.pair s7m (.pair .str o2c)) 0 [7] u1l [] .unit
abbrev s6e:=zL [0,1,5,6] (.pair s7m (.pair u1l o2k)) 0 [1,5] (.pair u1l p9e) [] .unit
abbrev s3h:=zL [1,5,8,9] (.pair u1l (.pair p9e o2k)) 2 [8] q7p [] .unit
abbrev s3i:=zL [1,5,8,9,10,11] (.pair u1l (.pair p9e (.pair q7p o2c))) 4 [1,5,8,9,10] (.pair u1l (.pair p9e (.pair q7p s2f))) [] .unit
abbrev s89:=zL [2,4,5,6,7] (.pair q2b (.pair q37 (.pair q37 s2f))) 0 [2,4,5,6] (.pair q2b o35) [] .unit
abbrev s6c:=zL [0,1,5] (.pair p29 o0k) 0 [] .unit [4] .bool
abbrev s6d:=zL [0,1,5,6] (.pair p29 o2b) 2 [0,1,5] (.pair p29 o0k) [4] .bool
abbrev r2q:=zL [1,2,5] o2g 0 [] .unit [4] .bool
abbrev t8o:=zL [1,2,7,8] (.pair r52 (.pair u1l o2k)) 0 [7] q7p [] .unit
abbrev t8p:=zL [1,2,7,8,9,10,11] o5r 2 [1,2,7,8,9,10,11] o5r [] .unit
abbrev s3g:=zL [2,3,4,5,6,7] (.pair q2b (.pair r8g (.pair q37 (.pair q37 (.pair (.box (.pair u1l (.pair u1l (.pair u1l (.pair u1l (.pair (.tr true q4f) (.pair (.tr true u1x) (.pair .bool .str)))))))) u1l))))) 0 [3,4,5] (.pair r8g o3l) [] .unit
abbrev s59:=zL [1,2,5] (.pair .str (.pair q2b u1l)) 0 [] .unit [4] u1l
abbrev s04:=zL [2,3,4,6,7,8,9] (.pair .str (.pair q2b (.pair r8g (.pair q37 (.pair q37 (.pair p3a u1l)))))) 0 [2,3,4,6,7,8] (.pair .str (.pair q2b o5t)) [] .unit
abbrev t9j:=zL [2,3,4,6,7,10] (.pair .str (.pair q2b (.pair r8g o35))) 2 [4,6,7] (.pair r8g o3l) [] .unit
abbrev s53:=zL [1,2,4,5,6] (.pair .str (.pair q2b o35)) 0 [4,5] o3l [] .unit
abbrev t9k:=zL [1,2,6] (.pair u1l (.pair p8z u1l)) 0 [1,2] (.pair u1l p8z) [4,5] p17
abbrev t9l:=zL [1,2,3,8,9] (.pair u1l (.pair u1l (.pair p8z p0l))) 0 [8] .str [6,7] p17
abbrev s05:=zL [1,2,7,8,10,11,12] (.pair u1l (.pair p8z (.pair p4q (.pair .str (.pair p4q s2f))))) 0 [10,11] (.pair p4q u1l) [4,5,6] (.pair p4q p9f)
abbrev s56:=zL [2,4,5,6] (.pair q37 (.pair q37 o4c)) 0 [2,4] o3l [2,3] (.pair q37 .bool)
abbrev s84:=zL [1,3] (.pair p8z u1l) 0 [1] p8z [2] .bool
abbrev s85:=zL [1,4] (.pair p8z u1l) 2 [] .unit [2] .bool
abbrev s03:=zL [1,2,3,4] (.pair p8z o34) 0 [2,3] (.pair p4r p4r) [] .unit
abbrev t9n:=zL [1,2,3,4,8,10,11] (.pair u1l (.pair u1l (.pair .str (.pair p8z o34)))) 0 [8,10] (.pair p4r p4r) [8,9] (.pair p4r .bool)
abbrev s6h:=zL [1,4,6,7,8,9] (.pair o2l (.pair p4r (.pair u1l (.pair p4r o2j)))) 0 [4,7,8] (.pair p4r (.pair p4r .bool)) [] .unit
abbrev s06:=zL [2,3,4,6,7] (.pair r8g (.pair p80 (.pair p3a (.pair p3a u1l)))) 0 [2,3,4,6] (.pair r8g (.pair p80 (.pair p3a p3a))) [4,5] (.pair p3a .bool)
abbrev s87:=zL [1,2,3,8] (.pair s7m (.pair .str o3e)) 0 [1,2,3] (.pair s7m (.pair .str r8g)) [6,7] p17
abbrev s6i:=zL [0,3,5,6] (.pair s7m (.pair p80 (.pair p4q u1l))) 0 [5] p4q [] .unit
abbrev s6j:=zL [0,3,5,6,7,8,9] o5q 2 [0,3,5,6,7,8] (.pair s7m (.pair p80 (.pair (.tr true .str) (.pair u1l (.pair .str p4q))))) [] .unit
abbrev s3l:=zL [0,3,5,6,7,8,10] o5q 4 [0,3,6,8] (.pair s7m (.pair p80 (.pair u1l p4q))) [] .unit
abbrev s54:=zL [1,3,5,7,8] (.pair s7m (.pair r8g (.pair p80 o2k))) 0 [1,3,5,7] (.pair s7m (.pair r8g (.pair p80 p9e))) [] .unit
abbrev s55:=zL [1,3,9,10,11] (.pair s7m (.pair r8g (.pair p9h o4c))) 2 [9] p9h [] .unit
abbrev s9c:=zL [0,1,4,5] (.pair (.box o0h) (.pair u1l o2f)) 0 [0,4] (.pair (.box o0h) r9k) [] .unit
abbrev r2o:=zL [0,1,5] (.pair r52 o0k) 0 [] .unit [4] .bool
abbrev r2p:=zL [0,1,5,6] o3m 2 [0,1,5] (.pair r52 o0k) [4] .bool
abbrev s50:=zL [1,2,5] o2g 0 [] .unit [4] .bool
abbrev r5k:=zL [1,2,5] o2g 0 [] .unit [4] .bool
abbrev s83:=zL [1,2,5] o2g 0 [] .unit [4] .bool
abbrev s51:=zL [1,2,5,6,7] (.pair s0h (.pair r8g o3k)) 2 [1,2,5] o2g [4] .bool
abbrev t8q:=zL [1,2,5,6] (.pair s0h (.pair r8g o2j)) 0 [] .unit [4] .bool
abbrev t7y:=zL [1,2,5,6,7,8] (.pair s0h (.pair r8g (.pair .bool o3k))) 2 [1,2,5,6] (.pair s0h (.pair r8g o2j)) [4] .bool
abbrev s6m:=zL [0,1,4,5,6] (.pair q2a (.pair u1l (.pair p28 (.pair p28 u1l)))) 0 [0,4,5] (.pair q2a (.pair p28 p28)) [] .unit
abbrev u3s:=zL [0,1,7,8] (.pair s0h (.pair (.clo 156 p4s) s2f)) 0 [] .unit [4] u1l
abbrev t2r:=zL [0,3,9,10,11] (.pair o2i (.pair u1l (.pair o2i s2f))) 0 [0,3] (.pair o2i u1l) [] .unit
abbrev t05:=zL [6,25,26,27] (.pair o13 (.pair o2i s2f)) 2 [6] o13 [] .unit
abbrev r2k:=zL [1,9,10,11] o3m 0 [] .unit [4] .bool
abbrev r2l:=zL [1,6,9,10,11,15,16,17] (.pair r52 (.pair (.box o3c) (.pair r52 (.pair u1l (.pair u1l o2b))))) 2 [1,9,10,11] o3m [4] .bool
abbrev u3a:=zL [0,1,7,8] (.pair s0h (.pair (.clo 282 q7q) s2f)) 0 [] .unit [4] u1l
abbrev s5t:=zL [1,9,10,11] (.pair r52 (.pair p29 s2f)) 0 [] .unit [4] .bool
abbrev s5u:=zL [1,6,9,10,11,15,16,17] (.pair r52 (.pair p80 (.pair p29 (.pair u1l (.pair u1l o2b))))) 2 [1,9,10,11] (.pair r52 (.pair p29 s2f)) [4] .bool
abbrev u4l:=zL [0,1,7,8] (.pair s0h (.pair (.clo 385 q7q) s2f)) 0 [] .unit [4] u1l
abbrev u38:=zL [0,1,7,8] (.pair s0h (.pair (.clo 386 q7q) s2f)) 0 [] .unit [4] u1l
abbrev u3q:=zL [0,1,7,8] (.pair s0h (.pair (.clo 283 q7q) s2f)) 0 [] .unit [4] u1l
abbrev u2x:=zL [0,1,7,8] (.pair s0h (.pair (.clo 285 q7q) s2f)) 0 [] .unit [4] u1l
abbrev u3r:=zL [0,1,7,8] (.pair s0h (.pair o3f s2f)) 0 [] .unit [4] u1l
abbrev s28:=zL [3,6,7,8] (.pair r9k p9g) 0 [3] r9k [] .unit
abbrev s24:=zL [5,10,11,12] (.pair u1l p9g) 0 [5] u1l [] .unit
abbrev s81:=zL [0,1,2,7,10,11,12] (.pair s7m (.pair .str (.pair u1l (.pair u1l o2h)))) 0 [7] u1l [] .unit
abbrev s0y:=zL [0,4,7,8,9] (.pair .str (.pair u1l o2h)) 0 [4] u1l [] .unit
abbrev s5v:=zL [0,1,5,12,13,14] (.pair s7m (.pair u1l (.pair (.box q7p) o2h))) 0 [1,5] (.pair u1l (.box q7p)) [] .unit
abbrev s26:=zL [1,8,9,38,39,40] (.pair u1l (.pair (.clo 364 (.rbox p9e)) (.pair q7p (.pair p9e s2f)))) 2 [9] q7p [] .unit
abbrev u3t:=zL [0,1,7,8] (.pair s0h (.pair (.clo 237 p4s) s2f)) 0 [] .unit [4] u1l
abbrev u29:=zL [0,1,5,6] (.pair r9k (.pair (.clo 237 p4s) s2f)) 0 [0,5] o2f [] .unit
abbrev u3c:=zL [0,1,7,8] (.pair s0h (.pair (.clo 277 p4s) s2f)) 0 [] .unit [4] u1l
abbrev u2w:=zL [0,1,5,6] (.pair r9k (.pair (.clo 277 p4s) s2f)) 0 [0,5] o2f [] .unit
abbrev u12:=zL [0,1,7,8] (.pair s7m (.pair (.clo 255 (.rbox o0i)) s2f)) 0 [] .unit [4] u1l
abbrev t8n:=zL [2,7,14,15,16] (.pair u1l (.pair q7p o2b)) 0 [7] q7p [] .unit
abbrev u3b:=zL [0,1,7,8] (.pair s0h (.pair (.clo 279 q7q) s2f)) 0 [] .unit [4] u1l
abbrev u2v:=zL [0,1,5,6] (.pair r9k (.pair (.clo 279 q7q) s2f)) 0 [0,5] o2f [] .unit
abbrev s5s:LoopA:=⟨⟨[3,4,5,6,46,47,48],(.pair r8g (.pair q37 (.pair q37 (.pair p3a (.pair .skip s2f))))),[(46,5,2,u0a)]⟩,0,⟨[3,4,5,6],o5t,[]⟩,⟨[],.unit,[]⟩⟩
abbrev s00:=zL [0,1,5] (.pair p29 (.pair p29 u1l)) 0 [] .unit [4] .bool
abbrev s88:=zL [0,2,7,8,9] (.pair s7m (.pair u1l (.pair p9h o4c))) 0 [7] p9h [] .unit
abbrev u2o:=zL [0,1,7,8] (.pair s0h (.pair (.clo 289 q7q) s2f)) 0 [] .unit [4] u1l
abbrev s0z:=zL [0,1,7,8,9] (.pair s0h (.pair u1l p9g)) 0 [] .unit [4] .bool
abbrev r2j:=zL [0,3] p0l 0 [0] .str [2] .bool
abbrev s27:=zL [0,5,6,7] o3m 0 [0] r52 [2] .bool
abbrev r2m:=zL [1,6,7,8] (.pair r8g (.pair p29 s2f)) 0 [1] r8g [2] .bool
abbrev t9i:=zL [0,5,6,7] (.pair s7m o2h) 0 [0] s7m [2] .bool
abbrev s80:=zL [1,38,39,40] (.pair q2b o2h) 0 [1] q2b [2] .bool
abbrev s5q:=zL [1,51,52,53] (.pair q2b p9g) 2 [1] q2b [2] .bool
abbrev s5r:=zL [1,91,92,93] (.pair q2b p9g) 4 [1] q2b [2] .bool
abbrev s23:=zL [1,33,34,35] (.pair o0j p9g) 0 [] .unit [2] .bool
abbrev s25:=zL [3,5,6] o3d 0 [3,5,6] o3d [] .unit
def o1f:Nat→Nat→Option LoopA
 | 241,3=>some s6k
 | 191,2=>some r2n
 | 243,2=>some s3k
 | 189,4=>some r2r
 | 197,2=>some t9m
 | 69,4=>some s82
 | 69,10=>some s5w
 | 69,17=>some s5x
 | 69,24=>some s5y
 | 69,27=>some s5z
 | 109,4=>some s3a
 | 109,10=>some s01
 | 109,15=>some s02
 | 95,3=>some s9a
 | 394,3=>some s6g
 | 418,5=>some s52
 | 49,2=>some s86
 | 242,3=>some s3c
 | 242,9=>some s3d
 | 313,2=>some s9b
 | 315,6=>some s58
 | 182,8=>some s57
 | 182,15=>some s3f
 | 187,4=>some t8r
 | 65,6=>some s3e
 | 392,2=>some s6a
 | 392,6=>some s6b
 | 306,5=>some s6f
 | 306,10=>some s3j
 | 314,3=>some s6l
 | 185,5=>some s29
 | 105,3=>some s3b
 | 113,3=>some r2s
 | 107,3=>some s6e
 | 107,10=>some s3h
 | 107,14=>some s3i
 | 21,5=>some s89
 | 288,2=>some s6c
 | 288,5=>some s6d
 | 161,2=>some r2q
 | 379,3=>some t8o
 | 379,8=>some t8p
 | 318,12=>some s3g
 | 319,2=>some s59
 | 320,8=>some s04
 | 320,14=>some t9j
 | 321,4=>some s53
 | 417,4=>some t9k
 | 344,5=>some t9l
 | 227,10=>some s05
 | 88,4=>some s56
 | 329,4=>some s84
 | 329,9=>some s85
 | 413,5=>some s03
 | 411,5=>some t9n
 | 415,5=>some s6h
 | 419,5=>some s06
 | 420,2=>some s87
 | 153,3=>some s6i
 | 153,9=>some s6j
 | 153,15=>some s3l
 | 421,3=>some s54
 | 421,9=>some s55
 | 424,2=>some s9c
 | 159,2=>some r2o
 | 159,5=>some r2p
 | 53,2=>some s50
 | 160,2=>some r5k
 | 54,4=>some s83
 | 54,12=>some s51
 | 466,5=>some t8q
 | 466,12=>some t7y
 | 94,3=>some s6m
 | 10021,2=>some u3s
 | 164,3=>some t2r
 | 164,11=>some t05
 | 253,2=>some r2k
 | 253,5=>some r2l
 | 10020,2=>some u3a
 | 252,2=>some s5t
 | 252,5=>some s5u
 | 10008,2=>some u4l
 | 10005,2=>some u38
 | 10011,2=>some u3q
 | 10017,2=>some u2x
 | 10014,2=>some u3r
 | 271,3=>some s28
 | 235,3=>some s24
 | 363,3=>some s81
 | 364,3=>some s0y
 | 238,3=>some s5v
 | 238,11=>some s26
 | 10023,2=>some u3t
 | 10022,5=>some u29
 | 10028,2=>some u3c
 | 10027,5=>some u2w
 | 10024,2=>some u12
 | 120,3=>some t8n
 | 10026,2=>some u3b
 | 10025,5=>some u2v
 | 150,9=>some s5s
 | 45,4=>some s00
 | 46,4=>some s88
 | 10002,2=>some u2o
 | 163,2=>some s0z
 | 142,2=>some r2j
 | 291,2=>some s27
 | 165,2=>some r2m
 | 204,2=>some t9i
 | 76,4=>some s80
 | 76,10=>some s5q
 | 76,16=>some s5r
 | 55,4=>some s23
 | 286,3=>some s25
 | _,_=>none
def o57:Nat→Nat
 | 10000=>127
 | 10001=>261
 | 10002=>148
 | 10003=>127
 | 10004=>261
 | 10005=>148
 | 10006=>127
 | 10007=>261
 | 10008=>148
 | 10009=>127
 | 10010=>261
 | 10011=>148
 | 10012=>127
 | 10013=>261
 | 10014=>148
 | 10015=>127
 | 10016=>261
 | 10017=>148
 | 10018=>127
 | 10019=>261
 | 10020=>148
 | 10021=>148
 | 10022=>236
 | 10023=>148
 | 10024=>254
 | 10025=>236
 | 10026=>148
 | 10027=>236
 | 10028=>148
 | f=>f
def o1m:Nat→List Nat→Nat
 | 127, [289] =>10000
 | 261, [289] =>10001
 | 148, [289] =>10002
 | 127, [386] =>10003
 | 261, [386] =>10004
 | 148, [386] =>10005
 | 127, [385] =>10006
 | 261, [385] =>10007
 | 148, [385] =>10008
 | 127, [283] =>10009
 | 261, [283] =>10010
 | 148, [283] =>10011
 | 127, [284] =>10012
 | 261, [284] =>10013
 | 148, [284] =>10014
 | 127, [285] =>10015
 | 261, [285] =>10016
 | 148, [285] =>10017
 | 127, [282] =>10018
 | 261, [282] =>10019
 | 148, [282] =>10020
 | 148, [156] =>10021
 | 236, [237] =>10022
 | 148, [237] =>10023
 | 254, [255] =>10024
 | 236, [279] =>10025
 | 148, [279] =>10026
 | 236, [277] =>10027
 | 148, [277] =>10028
 | f,_=>f
def p6b:(f:Nat)→Option ((p94 f).ins.den→Option (p94 f).out.den)
 | 257=>some (y2q u0g)
 | 387=>some (y2q u1x)
 | _=>none
def p87:Plan:= {sig:=p94,join:=o1a,loop:=o1f,fn:=o57,pick:=o1m,prim:=p6b,gd:=y8a}
def A:Ann:=ann o5o p87
set_option maxRecDepth 100000
abbrev r50:Type:=(List u0a.den)
abbrev q2e:Type:=(List u0g.den)
abbrev r9c:Type:=(ByteArray×Bool)
abbrev r3y:Type:=(Unit⊕Bool)
abbrev r51:Type:=(Unit⊕Int)
abbrev p0j:Type:=(ByteArray×Int)
abbrev p0f:Type:=(List u1x.den)
abbrev p9b:Type:=(ByteArray×ByteArray)
abbrev p4x:Type:=(List ByteArray)
abbrev p4y:Type:=(List q4f.den)
abbrev p4z:Type:=(Int⊕Unit)
abbrev q7o:Type:=(List Int)
abbrev p9c:Type:=(q2e⊕Unit)
abbrev p6z:Type:=(Int×Int)
abbrev q36:Type:=(q7o×p6z)
abbrev p9d:Type:=(Z93⊕Bool)
abbrev p8u:Type:=(Int×Bool)
abbrev p26:Type:=(ByteArray×p8u)
abbrev o26:Type:=((Int×q2e)⊕Unit)
abbrev o0t:Type:=(r50⊕Unit)
abbrev o0u:Type:=(p04⊕Unit)
abbrev o27:Type:=(ByteArray⊕Bool)
abbrev o28:Type:=(ByteArray×r9c)
abbrev o0v:Type:=(q2e×Int)
abbrev o0w:Type:=(q36×Int)
abbrev zLv:=y5x Tryz.prog A
abbrev zK (f:Nat) (x:(A.sig f).ins.den):=zLv.call f x
theorem zC (f:Nat) {fn:Func} {X:(A.sig f).ins.den→Option (A.sig f).out.den} (hp:A.prim f=none) (hf:Tryz.prog.funcs[A.fn f]? =some fn) (hb:z7s A zLv lpW f fn=X):zK f=X:=funext (y7p hp hf (congrFun hb))
theorem zW (l:LoopA) (f:Nat) (fn:Func) (r n:Nat) {S:(l.head.sh.den→Option (l.out.sh.den⊕l.ret.sh.den))→l.head.sh.den→Option (l.out.sh.den⊕l.ret.sh.den)} (x:l.head.sh.den) (h:S=z7n A zLv lpW f (y7w fn r) l n):lpW _ _ S x=S (lpW _ _ S) x:=y7x h x
def q4x(x:q7o):Option Bool:=zK 15 x
def q4g (x:q7o):Option Bool:=(some (decide ((x.length:Int) >(1048576:Int))))
theorem p3v:q4x=q4g:=zC 15 rfl Tryz.func15 (by kernel_rfl)
def u02(x:t4k):Option t4k:=zK 106 x
def r1u (x:t4k):Option t4k:=(bif (Nat.ble (([] :List q4f.den).length+x.2.2.2.2.1.length) z7w) then(bif (Nat.ble (([] :List u1x.den).length+x.2.2.2.2.2.1.length) z7w) then(some (x.1,(x.2.1,(x.2.2.1,(x.2.2.2.1,((([] :List q4f.den)++x.2.2.2.2.1),((([] :List u1x.den)++x.2.2.2.2.2.1),x.2.2.2.2.2.2))))))) else none) else none)
theorem q3n:u02=r1u:=zC 106 rfl Tryz.func106 (by kernel_rfl)
def t3c(x:r50):Option r50:=zK 241 x
def t34(g:o4n→Option o0t)(x:o4n):Option o0t:=(bif (decide (x.2.2<(x.1.length:Int))) then(bif (y4q x.2.2 x.1.length) then((u02 (rdL u0a x.1 (x.2.2).toNat)).bind fun y1=>(bif (Nat.ble (x.2.1.length+([y1] :List u0a.den).length) z7w) then(g (x.1,((x.2.1++([y1] :List u0a.den)),(IntKind.i64.wrap (x.2.2+1))))) else none)) else none) else(some (.inl x.2.1)))
def t4d:=lpW _ _ t34
theorem s7f x:t4d x=t34 t4d x:=zW s6k 241 Tryz.f241 3 21 x (by kernel_rfl)
def r1w (x:r50):Option r50:=((t4d (x,(([] :List u0a.den),0))).bind fun r2=>match r2 with | .inl o3=>(some o3) | .inr z4=>none)
theorem q3p:t3c=r1w:=zC 241 rfl Tryz.func241 (by kernel_rfl)
def u2k(x:Z93):Option Z93:=zK 104 x
def r1v (x:Z93):Option Z93:=(bif (Nat.ble (([] :List u0g.den).length+x.1.length) z7w) then((t3c x.2.1).bind fun y1=>((t3c x.2.2.1).bind fun y2=>(some ((([] :List u0g.den)++x.1),(y1,(y2,x.2.2.2)))))) else none)
theorem q3o:u2k=r1v:=zC 104 rfl Tryz.func104 (by kernel_rfl)
def u0m(x:Z64):Option Z64:=zK 108 x
def r1z (x:Z64):Option Z64:=((u2k x.1).bind fun y1=>((t3c x.2).bind fun y2=>(some (y1,y2))))
theorem q3s:u0m=r1z:=zC 108 rfl Tryz.func108 (by kernel_rfl)
def u0o(x:(Int×p6z)):Option Bool:=zK 188 x
def r7v (x:(Int×p6z)):Option Bool:=(((bif (decide (x.1≥x.2.1)) then(some (decide (x.1≤x.2.2))) else(some false)):Option Bool).bind fun j1=>(some j1))
theorem q82:u0o=r7v:=zC 188 rfl Tryz.func188 (by kernel_rfl)
def u5n(x:ByteArray):Option Bool:=zK 191 x
def t6x(g:p0j→Option o27)(x:p0j):Option o27:=(bif (decide (x.2<(x.1.size:Int))) then(((bif (y4q x.2 x.1.size) then(bif (decide (((x.1.data.toList.getD (x.2).toNat 0).toNat:Int)<(97:Int))) then(some true) else(bif (y4q x.2 x.1.size) then(some (decide (((x.1.data.toList.getD (x.2).toNat 0).toNat:Int) >(122:Int)))) else none)) else none):Option Bool).bind fun j1=>(bif j1 then(some (.inr false)) else(g (x.1,(IntKind.i64.wrap (x.2+1)))))) else(some (.inl x.1)))
def t66:=lpW _ _ t6x
theorem r22 x:t66 x=t6x t66 x:=zW r2n 191 Tryz.f191 2 23 x (by kernel_rfl)
def r7p (x:ByteArray):Option Bool:=((t66 (x,0)).bind fun r2=>match r2 with | .inl o3=>((u0o ((o3.size:Int),(1,3))).bind fun y4=>(some y4)) | .inr z5=>(some z5))
theorem q8w:u5n=r7p:=zC 191 rfl Tryz.func191 (by kernel_rfl)
def t3a(x:o28):Option Bool:=zK 110 x
def r1i (x:o28):Option Bool:=((((u5n x.1).bind fun y1=>(bif y1 then(bif (decide ((x.2.1.size:Int)≤(12:Int))) then(bif (!x.2.2) then(some true) else(some (z7o x.2.1 (⟨#[]⟩:ByteArray)))) else(some false)) else(some false))):Option Bool).bind fun j2=>(some j2))
theorem q3c:t3a=r1i:=zC 110 rfl Tryz.func110 (by kernel_rfl)
def t51(x:p0f):Option Bool:=zK 243 x
def t12(g:(p0f×Int)→Option (p0f⊕Bool))(x:(p0f×Int)):Option (p0f⊕Bool):=(bif (decide (x.2<(x.1.length:Int))) then(((bif (y4q x.2 x.1.length) then((t3a (rdL u1x x.1 (x.2).toNat)).bind fun y1=>(bif (!y1) then(some true) else(bif (decide (x.2 >0)) then(bif (y4q (IntKind.i64.wrap (x.2 - 1)) x.1.length) then(bif (y4q x.2 x.1.length) then(some (!y3c (rdL u1x x.1 ((IntKind.i64.wrap (x.2 - 1))).toNat).1 (rdL u1x x.1 (x.2).toNat).1)) else none) else none) else(some false)))) else none):Option Bool).bind fun j2=>(bif j2 then(some (.inr false)) else(g (x.1,(IntKind.i64.wrap (x.2+1)))))) else(some (.inl x.1)))
def t2d:=lpW _ _ t12
theorem s4b x:t2d x=t12 t2d x:=zW s3k 243 Tryz.f243 2 37 x (by kernel_rfl)
def s8j (x:p0f):Option Bool:=((t2d (x,0)).bind fun r3=>match r3 with | .inl o4=>(some (decide ((o4.length:Int)≤(8:Int)))) | .inr z5=>(some z5))
theorem q00:t51=s8j:=zC 243 rfl Tryz.func243 (by kernel_rfl)
def t29(x:p9b):Option Bool:=zK 316 x
def r09 (x:p9b):Option Bool:=((((u5n x.1).bind fun y1=>(bif y1 then((u5n x.2).bind fun y2=>(bif y2 then(some (y3c x.1 x.2 || z7o x.1 x.2)) else(some false))) else(some false))):Option Bool).bind fun j3=>(some j3))
theorem q23:t29=r09:=zC 316 rfl Tryz.func316 (by kernel_rfl)
def u5p(x:t4k):Option Bool:=zK 189 x
def t61(g:p02→Option (t4k⊕Bool))(x:p02):Option (t4k⊕Bool):=(bif (decide (x.2<(x.1.2.2.2.2.1.length:Int))) then(bif (y4q x.2 x.1.2.2.2.2.1.length) then((t29 (rdL q4f x.1.2.2.2.2.1 (x.2).toNat)).bind fun y6=>(bif (!y6) then(some (.inr false)) else(g (x.1,(IntKind.i64.wrap (x.2+1)))))) else none) else(some (.inl x.1)))
def t69:=lpW _ _ t61
theorem r26 x:t69 x=t61 t69 x:=zW r2r 189 Tryz.f189 4 95 x (by kernel_rfl)
def r7u (x:t4k):Option Bool:=((((u0o (x.1,(1,9999))).bind fun y1=>(bif (!y1) then(some true) else((u0o (x.2.1,(1,3))).bind fun y2=>(bif (!y2) then(some true) else((u0o (x.2.2.1,(0,9999))).bind fun y3=>(bif (!y3) then(some true) else(bif (decide ((x.2.2.2.2.1.length:Int) >(8:Int))) then(some true) else((t51 x.2.2.2.2.2.1).bind fun y4=>(some (!y4)))))))))):Option Bool).bind fun j5=>(bif j5 then(some false) else((t69 (x,0)).bind fun r7=>match r7 with | .inl o8=>(((bif (decide (o8.2.1=3)) then((u0o (o8.2.2.2.1,((IntKind.i64.wrap (o8.2.2.1+1)),9999))).bind fun y9=>(bif (!y9) then(some true) else(bif (!decide (o8.2.1=3)) then(some (!decide (o8.2.2.2.1=0))) else(some false)))) else(bif (!decide (o8.2.1=3)) then(some (!decide (o8.2.2.2.1=0))) else(some false))):Option Bool).bind fun j10=>(bif j10 then(some false) else(((bif (decide (o8.2.1=2)) then((u5n o8.2.2.2.2.2.2.2).bind fun y11=>(bif (!y11) then(some true) else(bif (!decide (o8.2.1=2)) then(some (!z7o o8.2.2.2.2.2.2.2 (⟨#[]⟩:ByteArray))) else(some false)))) else(bif (!decide (o8.2.1=2)) then(some (!z7o o8.2.2.2.2.2.2.2 (⟨#[]⟩:ByteArray))) else(some false))):Option Bool).bind fun j12=>(bif j12 then(some false) else(((bif (!decide (o8.2.1=1)) then(some true) else(some (!o8.2.2.2.2.2.2.1))):Option Bool).bind fun j13=>(some j13)))))) | .inr z14=>(some z14))))
theorem q81:u5p=r7u:=zC 189 rfl Tryz.func189 (by kernel_rfl)
def t6n(x:q2e):Option Bool:=zK 197 x
def u8a(g:o0v→Option (q2e⊕Bool))(x:o0v):Option (q2e⊕Bool):=(bif (decide (x.2<(x.1.length:Int))) then(bif (y4q x.2 x.1.length) then((((u5n (rdL u0g x.1 (x.2).toNat).1).bind fun y1=>(bif (!y1) then(some true) else(bif (decide (((rdL u0g x.1 (x.2).toNat).2.1.size:Int) >(12:Int))) then(some true) else(bif (rdL u0g x.1 (x.2).toNat).2.2.1 then(bif (!z7o (rdL u0g x.1 (x.2).toNat).2.1 (⟨#[]⟩:ByteArray)) then(some true) else((u0o ((rdL u0g x.1 (x.2).toNat).2.2.2,(1,9999))).bind fun y2=>(some (!y2)))) else((u0o ((rdL u0g x.1 (x.2).toNat).2.2.2,(1,9999))).bind fun y3=>(some (!y3))))))):Option Bool).bind fun j4=>(bif j4 then(some (.inr false)) else(((bif (decide (x.2 >0)) then(bif (y4q (IntKind.i64.wrap (x.2 - 1)) x.1.length) then(bif (!(y3c (rdL u0g x.1 ((IntKind.i64.wrap (x.2 - 1))).toNat).1 (rdL u0g x.1 (x.2).toNat).1 || z7o (rdL u0g x.1 ((IntKind.i64.wrap (x.2 - 1))).toNat).1 (rdL u0g x.1 (x.2).toNat).1)) then(some true) else(bif (y4q (IntKind.i64.wrap (x.2 - 1)) x.1.length) then(bif (z7o (rdL u0g x.1 ((IntKind.i64.wrap (x.2 - 1))).toNat).1 (rdL u0g x.1 (x.2).toNat).1) then(bif (y4q (IntKind.i64.wrap (x.2 - 1)) x.1.length) then(some (decide ((rdL u0g x.1 ((IntKind.i64.wrap (x.2 - 1))).toNat).2.2.2≥(rdL u0g x.1 (x.2).toNat).2.2.2))) else none) else(some false)) else none)) else none) else(some false)):Option Bool).bind fun j5=>(bif j5 then(some (.inr false)) else(g (x.1,(IntKind.i64.wrap (x.2+1)))))))) else none) else(some (.inl x.1)))
def u8e:=lpW _ _ u8a
theorem s0e x:u8e x=u8a u8e x:=zW t9m 197 Tryz.f197 2 78 x (by kernel_rfl)
def s2r (x:q2e):Option Bool:=((u8e (x,0)).bind fun r6=>match r6 with | .inl o7=>(some (decide ((o7.length:Int)≤(120:Int)))) | .inr z8=>(some z8))
theorem r6p:t6n=s2r:=zC 197 rfl Tryz.func197 (by kernel_rfl)
def u6o(x:Z93):Option Bool:=zK 69 x
def t45(g:Z87→Option p9d)(x:Z87):Option p9d:=(bif (decide (x.2<(x.1.1.length:Int))) then(bif (y4q x.2 x.1.1.length) then(bif (decide ((rdL u0g x.1.1 (x.2).toNat).2.2.2 >x.1.2.2.2.1)) then(some (.inr false)) else(g (x.1,(IntKind.i64.wrap (x.2+1))))) else none) else(some (.inl x.1)))
def t0t:=lpW _ _ t45
theorem s9w x:t0t x=t45 t0t x:=zW s82 69 Tryz.f69 4 179 x (by kernel_rfl)
def t3m(g:Z71→Option (Z81⊕Bool))(x:Z71):Option (Z81⊕Bool):=(bif (decide (x.2.2<(x.1.2.1.length:Int))) then(bif (y4q x.2.2 x.1.2.1.length) then((((u5p (rdL u0a x.1.2.1 (x.2.2).toNat)).bind fun y7=>(bif (!y7) then(some true) else(bif (!decide ((rdL u0a x.1.2.1 (x.2.2).toNat).2.1=3)) then(some true) else(bif (decide ((rdL u0a x.1.2.1 (x.2.2).toNat).2.2.2.1 >x.1.2.2.2.1)) then(some true) else(bif (decide (x.2.2 >0)) then(bif (y4q (IntKind.i64.wrap (x.2.2 - 1)) x.1.2.1.length) then(some (decide ((rdL u0a x.1.2.1 ((IntKind.i64.wrap (x.2.2 - 1))).toNat).2.2.2.1≥(rdL u0a x.1.2.1 (x.2.2).toNat).2.2.2.1))) else none) else(some false)))))):Option Bool).bind fun j8=>(bif j8 then(some (.inr false)) else(bif (Nat.ble (x.2.1.length+([(rdL u0a x.1.2.1 (x.2.2).toNat).1] :List Int).length) z7w) then(g (x.1,((x.2.1++([(rdL u0a x.1.2.1 (x.2.2).toNat).1] :List Int)),(IntKind.i64.wrap (x.2.2+1))))) else none))) else none) else(some (.inl (x.1,x.2.1))))
def u58:=lpW _ _ t3m
theorem s6u x:u58 x=t3m u58 x:=zW s5w 69 Tryz.f69 10 179 x (by kernel_rfl)
def t3n(g:Z71→Option (Z81⊕Bool))(x:Z71):Option (Z81⊕Bool):=(bif (decide (x.2.2<(x.1.2.2.1.length:Int))) then(bif (y4q x.2.2 x.1.2.2.1.length) then((((u5p (rdL u0a x.1.2.2.1 (x.2.2).toNat)).bind fun y11=>(bif (!y11) then(some true) else(bif (!decide ((rdL u0a x.1.2.2.1 (x.2.2).toNat).2.1=2)) then(some true) else(bif (decide ((rdL u0a x.1.2.2.1 (x.2.2).toNat).2.2.1 >x.1.2.2.2.1)) then(some true) else(bif (decide (x.2.2 >0)) then(bif (y4q (IntKind.i64.wrap (x.2.2 - 1)) x.1.2.2.1.length) then(some (!y3c (rdL u0a x.1.2.2.1 ((IntKind.i64.wrap (x.2.2 - 1))).toNat).2.2.2.2.2.2.2 (rdL u0a x.1.2.2.1 (x.2.2).toNat).2.2.2.2.2.2.2)) else none) else(some false)))))):Option Bool).bind fun j12=>(bif j12 then(some (.inr false)) else(bif (Nat.ble (x.2.1.length+([(rdL u0a x.1.2.2.1 (x.2.2).toNat).1] :List Int).length) z7w) then(g (x.1,((x.2.1++([(rdL u0a x.1.2.2.1 (x.2.2).toNat).1] :List Int)),(IntKind.i64.wrap (x.2.2+1))))) else none))) else none) else(some (.inl (x.1,x.2.1))))
def u83:=lpW _ _ t3n
theorem s6v x:u83 x=t3n u83 x:=zW s5x 69 Tryz.f69 17 179 x (by kernel_rfl)
def t3p(g:Z67→Option (Z71⊕Bool))(x:Z67):Option (Z71⊕Bool):=(bif (decide (x.2.2.2<x.2.2.1)) then(bif (y4q x.2.2.2 x.2.1.length) then(bif (y4q x.2.2.1 x.2.1.length) then(bif (decide ((rdL (Ty.int .i64) x.2.1 (x.2.2.2).toNat)=(rdL (Ty.int .i64) x.2.1 (x.2.2.1).toNat))) then(some (.inr false)) else(g (x.1,(x.2.1,(x.2.2.1,(IntKind.i64.wrap (x.2.2.2+1))))))) else none) else none) else(some (.inl (x.1,(x.2.1,x.2.2.1)))))
def u84:=lpW _ _ t3p
theorem s6x x:u84 x=t3p u84 x:=zW s5z 69 Tryz.f69 27 179 x (by kernel_rfl)
def t3o(g:Z71→Option r3y)(x:Z71):Option r3y:=(bif (decide (x.2.2<(x.2.1.length:Int))) then((u84 (x.1,(x.2.1,(x.2.2,0)))).bind fun r15=>match r15 with | .inl o16=>(bif (y4q o16.2.2 o16.2.1.length) then(bif (decide ((rdL (Ty.int .i64) o16.2.1 (o16.2.2).toNat)≥o16.1.2.2.2.2)) then(some (.inr false)) else(g (o16.1,(o16.2.1,(IntKind.i64.wrap (o16.2.2+1)))))) else none) | .inr z17=>(some (.inr z17))) else(some (.inl ())))
def u59:=lpW _ _ t3o
theorem s6w x:u59 x=t3o u59 x:=zW s5y 69 Tryz.f69 24 179 x (by kernel_rfl)
def r4f (x:Z93):Option Bool:=((((t6n x.1).bind fun y1=>(bif (!y1) then(some true) else(bif (decide ((x.2.1.length:Int) >(12:Int))) then(some true) else(bif (decide ((x.2.2.1.length:Int) >(3:Int))) then(some true) else((u0o (x.2.2.2.1,(0,9999))).bind fun y2=>(bif (!y2) then(some true) else((u0o (x.2.2.2.2,(1,9999))).bind fun y3=>(some (!y3))))))))):Option Bool).bind fun j4=>(bif j4 then(some false) else((t0t (x,0)).bind fun r5=>match r5 with | .inl o6=>((u58 (o6,(([] :List Int),0))).bind fun r9=>match r9 with | .inl o10=>((u83 (o10.1,(o10.2,0))).bind fun r13=>match r13 with | .inl o14=>((u59 (o14.1,(o14.2,0))).bind fun r18=>match r18 with | .inl o19=>(some true) | .inr z20=>(some z20)) | .inr z21=>(some z21)) | .inr z22=>(some z22)) | .inr z23=>(some z23))))
theorem q6f:u6o=r4f:=zC 69 rfl Tryz.func69 (by kernel_rfl)
def t9v(x:Z64):Option Bool:=zK 109 x
def u94(g:Z19→Option (Z22⊕Bool))(x:Z19):Option (Z22⊕Bool):=(bif (decide (x.2.2.2<(x.1.1.2.1.length:Int))) then(bif (y4q x.2.2.2 x.1.1.2.1.length) then(bif (decide ((rdL u0a x.1.1.2.1 (x.2.2.2).toNat).1=x.2.2.1.1)) then(some (.inr false)) else(g (x.1,(x.2.1,(x.2.2.1,(IntKind.i64.wrap (x.2.2.2+1))))))) else none) else(some (.inl (x.1,(x.2.1,x.2.2.1)))))
def u6l:=lpW _ _ u94
theorem s1k x:u6l x=u94 u6l x:=zW s01 109 Tryz.f109 10 105 x (by kernel_rfl)
def u95(g:Z19→Option (Z61⊕Bool))(x:Z19):Option (Z61⊕Bool):=(bif (decide (x.2.2.2<(x.1.1.2.2.1.length:Int))) then(bif (y4q x.2.2.2 x.1.1.2.2.1.length) then(bif (decide ((rdL u0a x.1.1.2.2.1 (x.2.2.2).toNat).1=x.2.2.1.1)) then(some (.inr false)) else(g (x.1,(x.2.1,(x.2.2.1,(IntKind.i64.wrap (x.2.2.2+1))))))) else none) else(some (.inl (x.1,x.2.1))))
def u48:=lpW _ _ u95
theorem s1l x:u48 x=u95 u48 x:=zW s02 109 Tryz.f109 15 105 x (by kernel_rfl)
def t1r(g:Z61→Option r3y)(x:Z61):Option r3y:=(bif (decide (x.2<(x.1.2.length:Int))) then(bif (y4q x.2 x.1.2.length) then((((u5p (rdL u0a x.1.2 (x.2).toNat)).bind fun y3=>(bif (!y3) then(some true) else(bif (!decide ((rdL u0a x.1.2 (x.2).toNat).2.1=1)) then(some true) else(bif (decide ((rdL u0a x.1.2 (x.2).toNat).1≥x.1.1.2.2.2.2)) then(some true) else(bif (decide ((rdL u0a x.1.2 (x.2).toNat).2.2.1 >x.1.1.2.2.2.1)) then(some true) else(bif (decide (x.2 >0)) then(bif (y4q (IntKind.i64.wrap (x.2 - 1)) x.1.2.length) then(some (decide ((rdL u0a x.1.2 ((IntKind.i64.wrap (x.2 - 1))).toNat).1≥(rdL u0a x.1.2 (x.2).toNat).1))) else none) else(some false))))))):Option Bool).bind fun j4=>(bif j4 then(some (.inr false)) else((u6l (x.1,(x.2,((rdL u0a x.1.2 (x.2).toNat),0)))).bind fun r5=>match r5 with | .inl o6=>((u48 (o6.1,(o6.2.1,(o6.2.2,0)))).bind fun r7=>match r7 with | .inl o8=>(g (o8.1,(IntKind.i64.wrap (o8.2+1)))) | .inr z9=>(some (.inr z9))) | .inr z10=>(some (.inr z10))))) else none) else(some (.inl ())))
def u5q:=lpW _ _ t1r
theorem s31 x:u5q x=t1r u5q x:=zW s3a 109 Tryz.f109 4 105 x (by kernel_rfl)
def s76 (x:Z64):Option Bool:=((((u6o x.1).bind fun y1=>(bif (!y1) then(some true) else(some (decide ((x.2.length:Int) >(4:Int)))))):Option Bool).bind fun j2=>(bif j2 then(some false) else((u5q (x,0)).bind fun r11=>match r11 with | .inl o12=>(some true) | .inr z13=>(some z13))))
theorem q0o:t9v=s76:=zC 109 rfl Tryz.func109 (by kernel_rfl)
def t1e(x:Z64):Option Z57:=zK 24 x
def r7n (x:Z64):Option Z57:=((u0m x).bind fun y1=>((((t9v x).bind fun y2=>(bif (!y2) then(some true) else(bif (decide ((x.2.length:Int)≥(4:Int))) then(some true) else(some (decide (x.1.2.2.2.2≥9999)))))):Option Bool).bind fun j3=>(bif j3 then(some (y1,(0,3))) else(bif (Nat.ble (y1.2.length+([(x.1.2.2.2.2,(1,(x.1.2.2.2.1,(0,(([] :List q4f.den),(([] :List u1x.den),(false,(⟨#[]⟩:ByteArray))))))))] :List u0a.den).length) z7w) then(some (((y1.1.1,(y1.1.2.1,(y1.1.2.2.1,(y1.1.2.2.2.1,(IntKind.i64.wrap (x.1.2.2.2.2+1)))))),(y1.2++([(x.1.2.2.2.2,(1,(x.1.2.2.2.1,(0,(([] :List q4f.den),(([] :List u1x.den),(false,(⟨#[]⟩:ByteArray))))))))] :List u0a.den))),(x.1.2.2.2.2,0))) else none))))
theorem q8u:t1e=r7n:=zC 24 rfl Tryz.func24 (by kernel_rfl)
def s43(x:q7o):Option q36:=zK 95 x
def t0q(g:q36→Option ((q7o×Int)⊕Unit))(x:q36):Option ((q7o×Int)⊕Unit):=(((bif (decide (x.2.2<(x.1.length:Int))) then(some (decide (x.2.2<4000))) else(some false)):Option Bool).bind fun j1=>(bif j1 then(bif (y4q x.2.2 x.1.length) then(g (x.1,((IntKind.i64.wrap ((BitVec.ofInt (IntKind.i64).bits (IntKind.i64.wrap ((IntKind.i64.wrap ((IntKind.i64.wrap (x.2.1*131))+(IntKind.i64.wrap (rdL (Ty.int .u8) x.1 (x.2.2).toNat))))+7))&&&BitVec.ofInt (IntKind.i64).bits (1073741823:Int)).toNat:Int)),(IntKind.i64.wrap (x.2.2+1))))) else none) else(some (.inl (x.1,x.2.1)))))
def t0x:=lpW _ _ t0q
theorem s0f x:t0x x=t0q t0x x:=zW s9a 95 Tryz.f95 3 32 x (by kernel_rfl)
def r4v (x:q7o):Option q36:=((t0x (x,((IntKind.i64.wrap ((77601:Int)+(x.length:Int))),0))).bind fun r2=>match r2 with | .inl o3=>(some (o3.1,(0,o3.2))) | .inr z4=>none)
theorem q6v:s43=r4v:=zC 95 rfl Tryz.func95 (by kernel_rfl)
def u6v(x:q36):Option (Int×q36):=zK 270 x
def r1j (x:q36):Option (Int×q36):=(bif (decide (x.2.1<(x.1.length:Int))) then(bif (y4q x.2.1 x.1.length) then(some ((IntKind.i64.wrap ((BitVec.ofInt (IntKind.i64).bits (IntKind.i64.wrap ((IntKind.i64.wrap ((BitVec.ofInt (IntKind.i64).bits (IntKind.i64.wrap ((BitVec.ofInt (IntKind.i64).bits (Int.fdiv (IntKind.i64.wrap ((IntKind.i64.wrap (x.2.2*6364136223846793005))+1442695040888963407)) (2^(min ((33:Int)).toNat (IntKind.i64).bits)))^^^BitVec.ofInt (IntKind.i64).bits (Int.fdiv (IntKind.i64.wrap ((IntKind.i64.wrap (x.2.2*6364136223846793005))+1442695040888963407)) (2^(min ((45:Int)).toNat (IntKind.i64).bits)))).toNat:Int))&&&BitVec.ofInt (IntKind.i64).bits (255:Int)).toNat:Int))+(IntKind.i64.wrap (rdL (Ty.int .u8) x.1 (x.2.1).toNat))))&&&BitVec.ofInt (IntKind.i64).bits (255:Int)).toNat:Int)),(x.1,((IntKind.i64.wrap (x.2.1+1)),(IntKind.i64.wrap ((IntKind.i64.wrap (x.2.2*6364136223846793005))+1442695040888963407)))))) else none) else(some ((IntKind.i64.wrap ((BitVec.ofInt (IntKind.i64).bits (IntKind.i64.wrap ((BitVec.ofInt (IntKind.i64).bits (Int.fdiv (IntKind.i64.wrap ((IntKind.i64.wrap (x.2.2*6364136223846793005))+1442695040888963407)) (2^(min ((33:Int)).toNat (IntKind.i64).bits)))^^^BitVec.ofInt (IntKind.i64).bits (Int.fdiv (IntKind.i64.wrap ((IntKind.i64.wrap (x.2.2*6364136223846793005))+1442695040888963407)) (2^(min ((45:Int)).toNat (IntKind.i64).bits)))).toNat:Int))&&&BitVec.ofInt (IntKind.i64).bits (255:Int)).toNat:Int)),(x.1,(x.2.1,(IntKind.i64.wrap ((IntKind.i64.wrap (x.2.2*6364136223846793005))+1442695040888963407)))))))
theorem q3d:u6v=r1j:=zC 270 rfl Tryz.func270 (by kernel_rfl)
def u17(x:o0w):Option (Int×q36):=zK 140 x
def s8k (x:o0w):Option (Int×q36):=(bif (decide (x.2≤0)) then(some (0,x.1)) else(bif (decide (x.2≤256)) then((u6v x.1).bind fun y1=>(bif (!decide (x.2=0)) then(some ((Int.tmod y1.1 x.2),y1.2)) else none)) else((u6v x.1).bind fun y2=>((u6v y2.2).bind fun y3=>((u6v y3.2).bind fun y4=>((u6v y4.2).bind fun y5=>(bif (!decide (x.2=0)) then(some ((Int.tmod (IntKind.i64.wrap ((IntKind.i64.wrap ((IntKind.i64.wrap ((IntKind.i64.wrap (y2.1*16777216))+(IntKind.i64.wrap (y3.1*65536))))+(IntKind.i64.wrap (y4.1*256))))+y5.1)) x.2),y5.2)) else none)))))))
theorem q01:u17=s8k:=zC 140 rfl Tryz.func140 (by kernel_rfl)
def s12(x:Unit):Option Z93:=zK 223 x
def r00 (x:Unit):Option Z93:=(some (([] :List u0g.den),(([] :List u0a.den),(([] :List u0a.den),(0,1)))))
theorem r2d:s12=r00:=zC 223 rfl Tryz.func223 (by kernel_rfl)
def t8e(x:Unit):Option Z64:=zK 348 x
def s5e (x:Unit):Option Z64:=((s12 ()).bind fun y1=>(some (y1,([] :List u0a.den))))
theorem r8y:t8e=s5e:=zC 348 rfl Tryz.func348 (by kernel_rfl)
def u7s(x:Unit):Option Int:=zK 330 x
def r57 (x:Unit):Option Int:=(some (97:Int))
theorem s2z:u7s=r57:=zC 330 rfl Tryz.func330 (by kernel_rfl)
def r2u(x:p6z):Option ByteArray:=zK 394 x
def t78(g:(Int×(Int×(q7o×Int)))→Option (q7o⊕Unit))(x:(Int×(Int×(q7o×Int)))):Option (q7o⊕Unit):=(bif (decide (x.2.2.2<x.1)) then(bif (y4q x.2.2.2 x.2.2.1.length) then(g (x.1,(x.2.1,((x.2.2.1.set (x.2.2.2).toNat x.2.1),(IntKind.i64.wrap (x.2.2.2+1)))))) else none) else(some (.inl x.2.2.1)))
def u9e:=lpW _ _ t78
theorem s7c x:u9e x=t78 u9e x:=zW s6g 394 Tryz.f394 3 20 x (by kernel_rfl)
def r1k (x:p6z):Option ByteArray:=(bif (decide (0≤x.1)&&decide (x.1≤1099511627776)) then((u9e (x.1,(x.2,((List.replicate (x.1).toNat ((Ty.int .u8)).zero),0)))).bind fun r1=>match r1 with | .inl o2=>(some (y7g o2)) | .inr z3=>none) else none)
theorem q3e:r2u=r1k:=zC 394 rfl Tryz.func394 (by kernel_rfl)
def s18(x:Unit):Option ByteArray:=zK 464 x
def r1p (x:Unit):Option ByteArray:=((r2u (64,0)).bind fun y1=>(some y1))
theorem q3i:s18=r1p:=zC 464 rfl Tryz.func464 (by kernel_rfl)
def r2t(x:Int):Option r58:=zK 418 x
def t77(g:o4h→Option (o0n⊕Unit))(x:o4h):Option (o0n⊕Unit):=(bif (decide (x.2.2.2<x.1)) then((s18 ()).bind fun y2=>(bif (Nat.ble (x.2.2.1.1.length+([y2] :List ByteArray).length) z7w) then(g (x.1,(x.2.1,(((x.2.2.1.1++([y2] :List ByteArray)),x.2.2.1.2),(IntKind.i64.wrap (x.2.2.2+1)))))) else none)) else(some (.inl (x.2.1,x.2.2.1))))
def u86:=lpW _ _ t77
theorem s6z x:u86 x=t77 u86 x:=zW s52 418 Tryz.f418 5 23 x (by kernel_rfl)
def r03 (x:Int):Option r58:=((u0o (x,(1,100))).bind fun y1=>(bif (!y1) then(some ((([] :List ByteArray),([] :List p4t.den)),false)) else((u86 (x,((([] :List ByteArray),([] :List p4t.den)),((([] :List ByteArray),([] :List p4t.den)),0)))).bind fun r3=>match r3 with | .inl o4=>(some (o4.2,true)) | .inr z5=>none)))
theorem q2x:r2t=r03:=zC 418 rfl Tryz.func418 (by kernel_rfl)
def s41(x:Unit):Option s0i:=zK 349 x
def r4m (x:Unit):Option s0i:=((u7s ()).bind fun y1=>((r2t y1).bind fun y2=>(some y2.1)))
theorem q6m:s41=r4m:=zC 349 rfl Tryz.func349 (by kernel_rfl)
def t90(x:Unit):Option Z44:=zK 230 x
def s8f (x:Unit):Option Z44:=((t8e ()).bind fun y1=>((s41 ()).bind fun y2=>(some (y1,y2))))
theorem q0x:t90=s8f:=zC 230 rfl Tryz.func230 (by kernel_rfl)
def u4y(x:Z61):Option Int:=zK 49 x
def t0o(g:Z56→Option r51)(x:Z56):Option r51:=(bif (decide (x.2.2<(x.2.1.2.length:Int))) then(bif (y4q x.2.2 x.2.1.2.length) then(bif (decide ((rdL u0a x.2.1.2 (x.2.2).toNat).1=x.1)) then(some (.inr x.2.2)) else(g (x.1,(x.2.1,(IntKind.i64.wrap (x.2.2+1)))))) else none) else(some (.inl ())))
def t0v:=lpW _ _ t0o
theorem s90 x:t0v x=t0o t0v x:=zW s86 49 Tryz.f49 2 22 x (by kernel_rfl)
def r4n (x:Z61):Option Int:=((t0v (x.2,(x.1,0))).bind fun r1=>match r1 with | .inl o2=>(some (-1:Int)) | .inr z3=>(some z3))
theorem q6n:u4y=r4n:=zC 49 rfl Tryz.func49 (by kernel_rfl)
def t9y(x:o2s):Option p0f:=zK 242 x
def t1t(g:o2n→Option (o4r⊕Unit))(x:o2n):Option (o4r⊕Unit):=(bif (decide (x.2.2.2<(x.1.length:Int))) then(bif (y4q x.2.2.2 x.1.length) then(bif (y3c (rdL u1x x.1 (x.2.2.2).toNat).1 x.2.1.1) then(bif (y4q x.2.2.2 x.1.length) then(bif (Nat.ble (x.2.2.1.length+([(rdL u1x x.1 (x.2.2.2).toNat)] :List u1x.den).length) z7w) then(g (x.1,(x.2.1,((x.2.2.1++([(rdL u1x x.1 (x.2.2.2).toNat)] :List u1x.den)),(IntKind.i64.wrap (x.2.2.2+1)))))) else none) else none) else(g (x.1,(x.2.1,(x.2.2.1,(IntKind.i64.wrap (x.2.2.2+1))))))) else none) else(some (.inl (x.1,(x.2.1,x.2.2.1)))))
def t2a:=lpW _ _ t1t
theorem s33 x:t2a x=t1t t2a x:=zW s3c 242 Tryz.f242 3 56 x (by kernel_rfl)
def t1u(g:o2n→Option (p0f⊕Unit))(x:o2n):Option (p0f⊕Unit):=(bif (decide (x.2.2.2<(x.1.length:Int))) then(bif (y4q x.2.2.2 x.1.length) then(bif (!(y3c (rdL u1x x.1 (x.2.2.2).toNat).1 x.2.1.1 || z7o (rdL u1x x.1 (x.2.2.2).toNat).1 x.2.1.1)) then(bif (y4q x.2.2.2 x.1.length) then(bif (Nat.ble (x.2.2.1.length+([(rdL u1x x.1 (x.2.2.2).toNat)] :List u1x.den).length) z7w) then(g (x.1,(x.2.1,((x.2.2.1++([(rdL u1x x.1 (x.2.2.2).toNat)] :List u1x.den)),(IntKind.i64.wrap (x.2.2.2+1)))))) else none) else none) else(g (x.1,(x.2.1,(x.2.2.1,(IntKind.i64.wrap (x.2.2.2+1))))))) else none) else(some (.inl x.2.2.1)))
def t2b:=lpW _ _ t1u
theorem s34 x:t2b x=t1u t2b x:=zW s3d 242 Tryz.f242 9 56 x (by kernel_rfl)
def s8a (x:o2s):Option p0f:=((t2a (x.1,(x.2,(([] :List u1x.den),0)))).bind fun r1=>match r1 with | .inl o2=>(bif (Nat.ble (o2.2.2.length+([o2.2.1] :List u1x.den).length) z7w) then((t2b (o2.1,(o2.2.1,((o2.2.2++([o2.2.1] :List u1x.den)),0)))).bind fun r3=>match r3 with | .inl o4=>(some o4) | .inr z5=>none) else none) | .inr z6=>none)
theorem q0s:t9y=s8a:=zC 242 rfl Tryz.func242 (by kernel_rfl)
def t92(x:Z82):Option Z99:=zK 111 x
def s8i (x:Z82):Option Z99:=((u02 x.1).bind fun y1=>((((u5p x.1).bind fun y2=>(bif (!y2) then(some true) else(bif (!decide (x.1.2.1=1)) then(some true) else((t3a x.2).bind fun y3=>(some (!y3)))))):Option Bool).bind fun j4=>(bif j4 then(some (y1,false)) else((t9y (x.1.2.2.2.2.2.1,x.2)).bind fun y5=>((t51 y5).bind fun y6=>(bif (!y6) then((u02 x.1).bind fun y7=>(some (y7,false))) else(some ((y1.1,(y1.2.1,(y1.2.2.1,(y1.2.2.2.1,(y1.2.2.2.2.1,(y5,y1.2.2.2.2.2.2)))))),true))))))))
theorem q0z:t92=s8i:=zC 111 rfl Tryz.func111 (by kernel_rfl)
def t2j(x:Z43):Option Z61:=zK 25 x
def r4q (x:Z43):Option Z61:=((u0m x.1).bind fun y1=>((u4y (x.1,x.2.1)).bind fun y2=>(bif (decide (y2<0)) then(some (y1,1)) else((t3a x.2.2).bind fun y3=>(bif (!y3) then(some (y1,2)) else(bif (y4q y2 x.1.2.length) then((t92 ((rdL u0a x.1.2 (y2).toNat),x.2.2)).bind fun y4=>(bif (!y4.2) then(some (y1,3)) else(bif (y4q y2 y1.2.length) then(some ((y1.1,(y1.2.set (y2).toNat y4.1)),0)) else none))) else none))))))
theorem q6q:t2j=r4q:=zC 25 rfl Tryz.func25 (by kernel_rfl)
def u01(x:s0i):Option s0i:=zK 337 x
def r1o (x:s0i):Option s0i:=(bif (Nat.ble (([] :List ByteArray).length+x.1.length) z7w) then(bif (Nat.ble (([] :List p4t.den).length+x.2.length) z7w) then(some ((([] :List ByteArray)++x.1),(([] :List p4t.den)++x.2))) else none) else none)
theorem q3h:u01=r1o:=zC 337 rfl Tryz.func337 (by kernel_rfl)
def s2c(x:Z44):Option Z44:=zK 225 x
def r19 (x:Z44):Option Z44:=((u0m x.1).bind fun y1=>((u01 x.2).bind fun y2=>(some (y1,y2))))
theorem q3u:s2c=r19:=zC 225 rfl Tryz.func225 (by kernel_rfl)
def u1n(x:Int):Option ByteArray:=zK 313 x
def s7o(g:(Int×q7o)→Option ((Int×q7o)⊕Unit))(x:(Int×q7o)):Option ((Int×q7o)⊕Unit):=(bif (decide (x.1 >127)) then(bif (Nat.ble (x.2.length+([(IntKind.u8.wrap (IntKind.i64.wrap ((Int.tmod x.1 (128:Int))+128)))] :List Int).length) z7w) then(g ((IntKind.i64.wrap (Int.tdiv x.1 (128:Int))),(x.2++([(IntKind.u8.wrap (IntKind.i64.wrap ((Int.tmod x.1 (128:Int))+128)))] :List Int)))) else none) else(some (.inl x)))
def t5h:=lpW _ _ s7o
theorem q19 x:t5h x=s7o t5h x:=zW s9b 313 Tryz.f313 2 22 x (by kernel_rfl)
def r4w (x:Int):Option ByteArray:=((t5h (x,([] :List Int))).bind fun r1=>match r1 with | .inl o2=>(bif (Nat.ble (o2.2.length+([(IntKind.u8.wrap o2.1)] :List Int).length) z7w) then(some (y7g (o2.2++([(IntKind.u8.wrap o2.1)] :List Int)))) else none) | .inr z3=>none)
theorem q6w:u1n=r4w:=zC 313 rfl Tryz.func313 (by kernel_rfl)
def t7m(x:p0j):Option (Int×p8u):=zK 315 x
def t3w(g:o5h→Option (Unit⊕(Int×p8u)))(x:o5h):Option (Unit⊕(Int×p8u)):=(((bif (decide (x.2.2.2.2<(x.1.size:Int))) then(some (decide (x.2.2.2.2<(IntKind.i64.wrap (x.2.1+5))))) else(some false)):Option Bool).bind fun j2=>(bif j2 then(bif (y4q x.2.2.2.2 x.1.size) then(bif (y4q x.2.2.2.2 x.1.size) then(bif (decide (((x.1.data.toList.getD (x.2.2.2.2).toNat 0).toNat:Int)<(128:Int))) then(((bif (decide ((IntKind.i64.wrap (x.2.2.1+(IntKind.i64.wrap ((Int.tmod (IntKind.i64.wrap ((x.1.data.toList.getD (x.2.2.2.2).toNat 0).toNat:Int)) (128:Int))*x.2.2.2.1)))) >1000000000)) then(some true) else((u1n (IntKind.i64.wrap (x.2.2.1+(IntKind.i64.wrap ((Int.tmod (IntKind.i64.wrap ((x.1.data.toList.getD (x.2.2.2.2).toNat 0).toNat:Int)) (128:Int))*x.2.2.2.1))))).bind fun y3=>(bif (decide (0≤x.2.1)&&decide (x.2.1≤(IntKind.i64.wrap (x.2.2.2.2+1)))&&decide ((IntKind.i64.wrap (x.2.2.2.2+1))≤(x.1.size:Int))) then(some (!z7o y3 (x.1.extract (x.2.1).toNat ((IntKind.i64.wrap (x.2.2.2.2+1))).toNat))) else none))):Option Bool).bind fun j4=>(bif j4 then(some (.inr (0,(0,false)))) else(some (.inr ((IntKind.i64.wrap (x.2.2.1+(IntKind.i64.wrap ((Int.tmod (IntKind.i64.wrap ((x.1.data.toList.getD (x.2.2.2.2).toNat 0).toNat:Int)) (128:Int))*x.2.2.2.1)))),((IntKind.i64.wrap (x.2.2.2.2+1)),true)))))) else(g (x.1,(x.2.1,((IntKind.i64.wrap (x.2.2.1+(IntKind.i64.wrap ((Int.tmod (IntKind.i64.wrap ((x.1.data.toList.getD (x.2.2.2.2).toNat 0).toNat:Int)) (128:Int))*x.2.2.2.1)))),((IntKind.i64.wrap (x.2.2.2.1*128)),(IntKind.i64.wrap (x.2.2.2.2+1)))))))) else none) else none) else(some (.inl ()))))
def t38:=lpW _ _ t3w
theorem s65 x:t38 x=t3w t38 x:=zW s58 315 Tryz.f315 6 58 x (by kernel_rfl)
def r1b (x:p0j):Option (Int×p8u):=((u0o (x.2,(0,(x.1.size:Int)))).bind fun y1=>(bif (!y1) then(some (0,(0,false))) else((t38 (x.1,(x.2,(0,(1,x.2))))).bind fun r5=>match r5 with | .inl o6=>(some (0,(0,false))) | .inr z7=>(some z7))))
theorem q25:t7m=r1b:=zC 315 rfl Tryz.func315 (by kernel_rfl)
def t4h(x:p0j):Option p26:=zK 310 x
def s5j (x:p0j):Option p26:=((t7m x).bind fun y1=>(((bif (!y1.2.2) then(some true) else(bif (decide (y1.1 >20000)) then(some true) else(some (decide (y1.1 >(IntKind.i64.wrap ((x.1.size:Int) - y1.2.1))))))):Option Bool).bind fun j2=>(bif j2 then(some ((⟨#[]⟩:ByteArray),(0,false))) else(bif (decide (0≤y1.2.1)&&decide (y1.2.1≤(IntKind.i64.wrap (y1.2.1+y1.1)))&&decide ((IntKind.i64.wrap (y1.2.1+y1.1))≤(x.1.size:Int))) then(some ((x.1.extract (y1.2.1).toNat ((IntKind.i64.wrap (y1.2.1+y1.1))).toNat),((IntKind.i64.wrap (y1.2.1+y1.1)),true))) else none))))
theorem r83:t4h=s5j:=zC 310 rfl Tryz.func310 (by kernel_rfl)
def u1o(x:p26):Option o5i:=zK 180 x
def t9c (x:p26):Option o5i:=((t4h (x.1,x.2.1)).bind fun y1=>(((bif x.2.2 then(some true) else(some (!y1.2.2))):Option Bool).bind fun j2=>(bif j2 then(some ((⟨#[]⟩:ByteArray),(x.1,(x.2.1,true)))) else(some (y1.1,(x.1,(y1.2.1,x.2.2)))))))
theorem r3g:u1o=t9c:=zC 180 rfl Tryz.func180 (by kernel_rfl)
def u5u(x:p26):Option (Bool×p26):=zK 181 x
def s2t (x:p26):Option (Bool×p26):=(((bif x.2.2 then(some true) else(bif (decide (x.2.1≥(x.1.size:Int))) then(some true) else(bif (y4q x.2.1 x.1.size) then(some (decide (((x.1.data.toList.getD (x.2.1).toNat 0).toNat:Int) >(1:Int)))) else none))):Option Bool).bind fun j1=>(bif j1 then(some (false,(x.1,(x.2.1,true)))) else(bif (y4q (IntKind.i64.wrap ((IntKind.i64.wrap (x.2.1+1)) - 1)) x.1.size) then(some ((decide (((x.1.data.toList.getD ((IntKind.i64.wrap ((IntKind.i64.wrap (x.2.1+1)) - 1))).toNat 0).toNat:Int)=(1:Int))),(x.1,((IntKind.i64.wrap (x.2.1+1)),x.2.2)))) else none)))
theorem r6r:u5u=s2t:=zC 181 rfl Tryz.func181 (by kernel_rfl)
def u2b(x:p26):Option (Int×p26):=zK 186 x
def r40 (x:p26):Option (Int×p26):=((t7m (x.1,x.2.1)).bind fun y1=>(((bif x.2.2 then(some true) else(some (!y1.2.2))):Option Bool).bind fun j2=>(bif j2 then(some (0,(x.1,(x.2.1,true)))) else(some (y1.1,(x.1,(y1.2.1,x.2.2)))))))
theorem q60:u2b=r40:=zC 186 rfl Tryz.func186 (by kernel_rfl)
def t7l(x:p0j):Option Z97:=zK 182 x
def t3v(g:Z27→Option (Z33⊕Unit))(x:Z27):Option (Z33⊕Unit):=(((bif (decide (x.2.2.2.2<x.2.2.2.1)) then(bif (decide (x.2.2.2.2<10)) then(some (!x.2.1.2.2)) else(some false)) else(some false)):Option Bool).bind fun j6=>(bif j6 then((u1o x.2.1).bind fun y7=>((u1o y7.2).bind fun y8=>(bif (Nat.ble (x.2.2.1.2.2.2.2.1.length+([(y7.1,y8.1)] :List q4f.den).length) z7w) then(g (x.1,(y8.2,((x.2.2.1.1,(x.2.2.1.2.1,(x.2.2.1.2.2.1,(x.2.2.1.2.2.2.1,((x.2.2.1.2.2.2.2.1++([(y7.1,y8.1)] :List q4f.den)),x.2.2.1.2.2.2.2.2))))),(x.2.2.2.1,(IntKind.i64.wrap (x.2.2.2.2+1))))))) else none))) else(some (.inl (x.1,(x.2.1,x.2.2.1))))))
def u89:=lpW _ _ t3v
theorem s64 x:u89 x=t3v u89 x:=zW s57 182 Tryz.f182 8 115 x (by kernel_rfl)
def t1w(g:Z27→Option (Z33⊕Unit))(x:Z27):Option (Z33⊕Unit):=(((bif (decide (x.2.2.2.2<x.2.2.2.1)) then(bif (decide (x.2.2.2.2<10)) then(some (!x.2.1.2.2)) else(some false)) else(some false)):Option Bool).bind fun j12=>(bif j12 then((u1o x.2.1).bind fun y13=>((u1o y13.2).bind fun y14=>((u5u y14.2).bind fun y15=>(bif (Nat.ble (x.2.2.1.2.2.2.2.2.1.length+([(y13.1,(y14.1,y15.1))] :List u1x.den).length) z7w) then(g (x.1,(y15.2,((x.2.2.1.1,(x.2.2.1.2.1,(x.2.2.1.2.2.1,(x.2.2.1.2.2.2.1,(x.2.2.1.2.2.2.2.1,((x.2.2.1.2.2.2.2.2.1++([(y13.1,(y14.1,y15.1))] :List u1x.den)),x.2.2.1.2.2.2.2.2.2)))))),(x.2.2.2.1,(IntKind.i64.wrap (x.2.2.2.2+1))))))) else none)))) else(some (.inl (x.1,(x.2.1,x.2.2.1))))))
def u7f:=lpW _ _ t1w
theorem s36 x:u7f x=t1w u7f x:=zW s3f 182 Tryz.f182 15 115 x (by kernel_rfl)
def r1a (x:p0j):Option Z97:=((u2b (x.1,(x.2,false))).bind fun y1=>((u2b y1.2).bind fun y2=>((u2b y2.2).bind fun y3=>((u2b y3.2).bind fun y4=>((u2b y4.2).bind fun y5=>((u89 ((0,(0,(0,(0,(([] :List q4f.den),(([] :List u1x.den),(false,(⟨#[]⟩:ByteArray)))))))),(y5.2,((y1.1,(y2.1,(y3.1,(y4.1,(([] :List q4f.den),(([] :List u1x.den),(false,(⟨#[]⟩:ByteArray)))))))),(y5.1,0))))).bind fun r9=>match r9 with | .inl o10=>((u2b o10.2.1).bind fun y11=>((u7f (o10.1,(y11.2,(o10.2.2,(y11.1,0))))).bind fun r16=>match r16 with | .inl o17=>((u5u o17.2.1).bind fun y18=>((u1o y18.2).bind fun y19=>(((bif y19.2.2.2 then(some true) else((u5p (o17.2.2.1,(o17.2.2.2.1,(o17.2.2.2.2.1,(o17.2.2.2.2.2.1,(o17.2.2.2.2.2.2.1,(o17.2.2.2.2.2.2.2.1,(y18.1,y19.1)))))))).bind fun y20=>(some (!y20)))):Option Bool).bind fun j21=>(bif j21 then(some ((0,(0,(0,(0,(([] :List q4f.den),(([] :List u1x.den),(false,(⟨#[]⟩:ByteArray)))))))),(0,false))) else(some ((o17.2.2.1,(o17.2.2.2.1,(o17.2.2.2.2.1,(o17.2.2.2.2.2.1,(o17.2.2.2.2.2.2.1,(o17.2.2.2.2.2.2.2.1,(y18.1,y19.1))))))),(y19.2.2.1,true))))))) | .inr z22=>none)) | .inr z23=>none))))))
theorem q24:t7l=r1a:=zC 182 rfl Tryz.func182 (by kernel_rfl)
def t0j(x:(p26×Int)):Option o4w:=zK 187 x
def u3z(g:o4k→Option (o2o⊕o2o))(x:o4k):Option (o2o⊕o2o):=(((bif (decide (x.2.2.2.2<x.2.2.2.1)) then(bif (decide (x.2.2.2.2≤x.2.1)) then(some (!x.1.2.2)) else(some false)) else(some false)):Option Bool).bind fun j2=>(bif j2 then((t7l (x.1.1,x.1.2.1)).bind fun y3=>(bif (!y3.2.2) then(some (.inr ((x.1.1,(x.1.2.1,true)),x.2.2.1))) else(bif (Nat.ble (x.2.2.1.length+([y3.1] :List u0a.den).length) z7w) then(g ((x.1.1,(y3.2.1,x.1.2.2)),(x.2.1,((x.2.2.1++([y3.1] :List u0a.den)),(x.2.2.2.1,(IntKind.i64.wrap (x.2.2.2.2+1))))))) else none))) else(some (.inl (x.1,x.2.2.1)))))
def u5g:=lpW _ _ u3z
theorem u69 x:u5g x=u3z u5g x:=zW t8r 187 Tryz.f187 4 59 x (by kernel_rfl)
def s0v (x:(p26×Int)):Option o4w:=((u2b x.1).bind fun y1=>((u5g (y1.2,(x.2,(([] :List u0a.den),(y1.1,0))))).bind fun r4=>match r4 with | .inl o5=>(some (o5.2,o5.1)) | .inr z6=>(some (z6.2,z6.1))))
theorem r5g:t0j=s0v:=zC 187 rfl Tryz.func187 (by kernel_rfl)
def t9z(x:p0j):Option Z77:=zK 65 x
def t1v(g:Z18→Option (Z20⊕Unit))(x:Z18):Option (Z20⊕Unit):=(((bif (decide (x.2.2.2.2<x.2.2.2.1)) then(bif (decide (x.2.2.2.2<130)) then(some (!x.2.1.2.2)) else(some false)) else(some false)):Option Bool).bind fun j4=>(bif j4 then((u1o x.2.1).bind fun y5=>((u1o y5.2).bind fun y6=>((u5u y6.2).bind fun y7=>((u2b y7.2).bind fun y8=>(bif (Nat.ble (x.2.2.1.1.length+([(y5.1,(y6.1,(y7.1,y8.1)))] :List u0g.den).length) z7w) then(g (x.1,(y8.2,(((x.2.2.1.1++([(y5.1,(y6.1,(y7.1,y8.1)))] :List u0g.den)),x.2.2.1.2),(x.2.2.2.1,(IntKind.i64.wrap (x.2.2.2.2+1))))))) else none))))) else(some (.inl (x.1,(x.2.1,x.2.2.1))))))
def u7e:=lpW _ _ t1v
theorem s35 x:u7e x=t1v u7e x:=zW s3e 65 Tryz.f65 6 79 x (by kernel_rfl)
def s8c (x:p0j):Option Z77:=((u2b (x.1,(x.2,false))).bind fun y1=>((u2b y1.2).bind fun y2=>((u2b y2.2).bind fun y3=>((u7e ((([] :List u0g.den),(([] :List u0a.den),(([] :List u0a.den),(0,0)))),(y3.2,((([] :List u0g.den),(([] :List u0a.den),(([] :List u0a.den),(y1.1,y2.1)))),(y3.1,0))))).bind fun r9=>match r9 with | .inl o10=>((t0j (o10.2.1,12)).bind fun y11=>((t0j (y11.2,3)).bind fun y12=>(((bif y12.2.2.2 then(some true) else((u6o (o10.2.2.1,(y11.1,(y12.1,o10.2.2.2.2.2)))).bind fun y13=>(some (!y13)))):Option Bool).bind fun j14=>(bif j14 then(some ((([] :List u0g.den),(([] :List u0a.den),(([] :List u0a.den),(0,0)))),(0,false))) else(some ((o10.2.2.1,(y11.1,(y12.1,o10.2.2.2.2.2))),(y12.2.2.1,true))))))) | .inr z15=>none))))
theorem q0u:t9z=s8c:=zC 65 rfl Tryz.func65 (by kernel_rfl)
def t54(x:t4k):Option Bool:=zK 190 x
def s8q (x:t4k):Option Bool:=(((bif (decide (x.1=0)) then(bif (decide (x.2.1=0)) then(bif (decide (x.2.2.1=0)) then(bif (decide (x.2.2.2.1=0)) then(bif (decide ((x.2.2.2.2.1.length:Int)=(0:Int))) then(bif (decide ((x.2.2.2.2.2.1.length:Int)=(0:Int))) then(bif (!x.2.2.2.2.2.2.1) then(some (z7o x.2.2.2.2.2.2.2 (⟨#[]⟩:ByteArray))) else(some false)) else(some false)) else(some false)) else(some false)) else(some false)) else(some false)) else(some false)):Option Bool).bind fun j1=>(some j1))
theorem q07:t54=s8q:=zC 190 rfl Tryz.func190 (by kernel_rfl)
def t8h(x:Z93):Option Bool:=zK 192 x
def s5l (x:Z93):Option Bool:=(((bif (decide (x.2.2.2.1=0)) then(bif (decide (x.2.2.2.2=0)) then(bif (decide ((x.1.length:Int)=(0:Int))) then(bif (decide ((x.2.1.length:Int)=(0:Int))) then(some (decide ((x.2.2.1.length:Int)=(0:Int)))) else(some false)) else(some false)) else(some false)) else(some false)):Option Bool).bind fun j1=>(some j1))
theorem r85:t8h=s5l:=zC 192 rfl Tryz.func192 (by kernel_rfl)
def t5y(x:Z26):Option Bool:=zK 66 x
def s8d (x:Z26):Option Bool:=((u0o (x.1,(1,4))).bind fun y1=>(bif (!y1) then(some false) else(((bif (decide (x.1=1)) then(some true) else(some (decide (x.1=2)))):Option Bool).bind fun j2=>(((bif j2 then((u5p x.2.1).bind fun y3=>(bif (!y3) then(some true) else(bif (!j2) then((t54 x.2.1).bind fun y4=>(bif (!y4) then(some true) else(bif (decide (x.1=1)) then(bif (!decide (x.2.1.2.1=3)) then(some true) else(bif (decide (x.1=2)) then(some (!decide (x.2.1.2.1=2))) else(some false))) else(bif (decide (x.1=2)) then(some (!decide (x.2.1.2.1=2))) else(some false))))) else(bif (decide (x.1=1)) then(bif (!decide (x.2.1.2.1=3)) then(some true) else(bif (decide (x.1=2)) then(some (!decide (x.2.1.2.1=2))) else(some false))) else(bif (decide (x.1=2)) then(some (!decide (x.2.1.2.1=2))) else(some false)))))) else(bif (!j2) then((t54 x.2.1).bind fun y5=>(bif (!y5) then(some true) else(bif (decide (x.1=1)) then(bif (!decide (x.2.1.2.1=3)) then(some true) else(bif (decide (x.1=2)) then(some (!decide (x.2.1.2.1=2))) else(some false))) else(bif (decide (x.1=2)) then(some (!decide (x.2.1.2.1=2))) else(some false))))) else(bif (decide (x.1=1)) then(bif (!decide (x.2.1.2.1=3)) then(some true) else(bif (decide (x.1=2)) then(some (!decide (x.2.1.2.1=2))) else(some false))) else(bif (decide (x.1=2)) then(some (!decide (x.2.1.2.1=2))) else(some false))))):Option Bool).bind fun j6=>(bif j6 then(some false) else(((bif (decide (x.1=3)) then((u5n x.2.2.1).bind fun y7=>(bif (!y7) then(some true) else(bif (!decide (x.1=3)) then(bif (!z7o x.2.2.1 (⟨#[]⟩:ByteArray)) then(some true) else(some x.2.2.2.1)) else(some false)))) else(bif (!decide (x.1=3)) then(bif (!z7o x.2.2.1 (⟨#[]⟩:ByteArray)) then(some true) else(some x.2.2.2.1)) else(some false))):Option Bool).bind fun j8=>(bif j8 then(some false) else(bif (decide (x.1=4)) then((u6o x.2.2.2.2).bind fun y9=>(some y9)) else((t8h x.2.2.2.2).bind fun y10=>(some y10))))))))))
theorem q0v:t5y=s8d:=zC 66 rfl Tryz.func66 (by kernel_rfl)
def t7o(x:Int):Option ByteArray:=zK 307 x
def r1n (x:Int):Option ByteArray:=(some (y7g ([(IntKind.u8.wrap (Int.fdiv x (2^(min ((24:Int)).toNat (IntKind.u32).bits)))),(IntKind.u8.wrap (Int.fdiv x (2^(min ((16:Int)).toNat (IntKind.u32).bits)))),(IntKind.u8.wrap (Int.fdiv x (2^(min ((8:Int)).toNat (IntKind.u32).bits)))),(IntKind.u8.wrap x)] :List Int)))
theorem r2e:t7o=r1n:=zC 307 rfl Tryz.func307 (by kernel_rfl)
def s15(x:(Int×ByteArray)):Option Int:=zK 392 x
def s46(g:(Int×(ByteArray×p6z))→Option ((Int×p0j)⊕Unit))(x:(Int×(ByteArray×p6z))):Option ((Int×p0j)⊕Unit):=(bif (decide (x.2.2.2<8)) then(bif (decide ((Int.tmod x.1 (2:Int))=1)) then(g ((IntKind.u32.wrap ((BitVec.ofInt (IntKind.u32).bits (IntKind.u32.wrap (Int.tdiv x.1 (2:Int)))^^^BitVec.ofInt (IntKind.u32).bits (3558460437:Int)).toNat:Int)),(x.2.1,(x.2.2.1,(IntKind.i64.wrap (x.2.2.2+1)))))) else(g ((IntKind.u32.wrap (Int.tdiv x.1 (2:Int))),(x.2.1,(x.2.2.1,(IntKind.i64.wrap (x.2.2.2+1))))))) else(some (.inl (x.1,(x.2.1,x.2.2.1)))))
def t4a:=lpW _ _ s46
theorem r9a x:t4a x=s46 t4a x:=zW s6b 392 Tryz.f392 6 33 x (by kernel_rfl)
def t3x(g:(Int×p0j)→Option p4z)(x:(Int×p0j)):Option p4z:=(bif (decide (x.2.2<(x.2.1.size:Int))) then(bif (y4q x.2.2 x.2.1.size) then((t4a ((IntKind.u32.wrap ((BitVec.ofInt (IntKind.u32).bits x.1^^^BitVec.ofInt (IntKind.u32).bits (IntKind.u32.wrap ((x.2.1.data.toList.getD (x.2.2).toNat 0).toNat:Int))).toNat:Int)),(x.2.1,(x.2.2,0)))).bind fun r1=>match r1 with | .inl o2=>(g (o2.1,(o2.2.1,(IntKind.i64.wrap (o2.2.2+1))))) | .inr z3=>(some (.inr ()))) else none) else(some (.inl x.1)))
def t39:=lpW _ _ t3x
theorem s67 x:t39 x=t3x t39 x:=zW s6a 392 Tryz.f392 2 33 x (by kernel_rfl)
def r1d (x:(Int×ByteArray)):Option Int:=((t39 (x.1,(x.2,0))).bind fun r4=>match r4 with | .inl o5=>(some o5) | .inr z6=>none)
theorem q27:s15=r1d:=zC 392 rfl Tryz.func392 (by kernel_rfl)
def s1d(x:ByteArray):Option Int:=zK 308 x
def s8g (x:ByteArray):Option Int:=((s15 (4294967295,x)).bind fun y1=>(some y1))
theorem r71:s1d=s8g:=zC 308 rfl Tryz.func308 (by kernel_rfl)
def t5z(x:ByteArray):Option r9c:=zK 178 x
def r4s (x:ByteArray):Option r9c:=(bif (decide ((x.size:Int) >(20000:Int))) then(some ((⟨#[]⟩:ByteArray),false)) else((s1d x).bind fun y1=>((t7o y1).bind fun y2=>(bif (decide (x.size+y2.size≤140737488355328)) then(some ((x++y2),true)) else none))))
theorem q6s:t5z=r4s:=zC 178 rfl Tryz.func178 (by kernel_rfl)
def u2j(x:ByteArray):Option ByteArray:=zK 304 x
def s8p (x:ByteArray):Option ByteArray:=((u1n (x.size:Int)).bind fun y1=>(bif (decide (y1.size+x.size≤140737488355328)) then(some (y1++x)) else none))
theorem q06:u2j=s8p:=zC 304 rfl Tryz.func304 (by kernel_rfl)
def t2m(x:Bool):Option ByteArray:=zK 305 x
def r4z (x:Bool):Option ByteArray:=(bif x then(some (⟨#[1]⟩:ByteArray)) else(some (⟨#[0]⟩:ByteArray)))
theorem q6z:t2m=r4z:=zC 305 rfl Tryz.func305 (by kernel_rfl)
def t7n(x:t4k):Option r9c:=zK 306 x
def t31(g:Z94→Option (Z98⊕Unit))(x:Z94):Option (Z98⊕Unit):=(bif (decide (x.2.2<(x.1.2.2.2.2.1.length:Int))) then(bif (y4q x.2.2 x.1.2.2.2.2.1.length) then((u2j (rdL q4f x.1.2.2.2.2.1 (x.2.2).toNat).1).bind fun y7=>(bif (decide (x.2.1.size+y7.size≤140737488355328)) then(bif (y4q x.2.2 x.1.2.2.2.2.1.length) then((u2j (rdL q4f x.1.2.2.2.2.1 (x.2.2).toNat).2).bind fun y8=>(bif (decide ((x.2.1++y7).size+y8.size≤140737488355328)) then(g (x.1,(((x.2.1++y7)++y8),(IntKind.i64.wrap (x.2.2+1))))) else none)) else none) else none)) else none) else(some (.inl (x.1,x.2.1))))
def u9d:=lpW _ _ t31
theorem s7b x:u9d x=t31 u9d x:=zW s6f 306 Tryz.f306 5 101 x (by kernel_rfl)
def t11(g:Z94→Option (Z98⊕Unit))(x:Z94):Option (Z98⊕Unit):=(bif (decide (x.2.2<(x.1.2.2.2.2.2.1.length:Int))) then(bif (y4q x.2.2 x.1.2.2.2.2.2.1.length) then((u2j (rdL u1x x.1.2.2.2.2.2.1 (x.2.2).toNat).1).bind fun y12=>(bif (decide (x.2.1.size+y12.size≤140737488355328)) then(bif (y4q x.2.2 x.1.2.2.2.2.2.1.length) then((u2j (rdL u1x x.1.2.2.2.2.2.1 (x.2.2).toNat).2.1).bind fun y13=>(bif (decide ((x.2.1++y12).size+y13.size≤140737488355328)) then(bif (y4q x.2.2 x.1.2.2.2.2.2.1.length) then((t2m (rdL u1x x.1.2.2.2.2.2.1 (x.2.2).toNat).2.2).bind fun y14=>(bif (decide (((x.2.1++y12)++y13).size+y14.size≤140737488355328)) then(g (x.1,((((x.2.1++y12)++y13)++y14),(IntKind.i64.wrap (x.2.2+1))))) else none)) else none) else none)) else none) else none)) else none) else(some (.inl (x.1,x.2.1))))
def u7h:=lpW _ _ t11
theorem s4a x:u7h x=t11 u7h x:=zW s3j 306 Tryz.f306 10 101 x (by kernel_rfl)
def r1h (x:t4k):Option r9c:=((u5p x).bind fun y1=>(bif (!y1) then(some ((⟨#[]⟩:ByteArray),false)) else((u1n x.1).bind fun y2=>((u1n x.2.1).bind fun y3=>(bif (decide (y2.size+y3.size≤140737488355328)) then((u1n x.2.2.1).bind fun y4=>(bif (decide ((y2++y3).size+y4.size≤140737488355328)) then((u1n x.2.2.2.1).bind fun y5=>(bif (decide (((y2++y3)++y4).size+y5.size≤140737488355328)) then((u1n (x.2.2.2.2.1.length:Int)).bind fun y6=>(bif (decide ((((y2++y3)++y4)++y5).size+y6.size≤140737488355328)) then((u9d (x,(((((y2++y3)++y4)++y5)++y6),0))).bind fun r9=>match r9 with | .inl o10=>((u1n (o10.1.2.2.2.2.2.1.length:Int)).bind fun y11=>(bif (decide (o10.2.size+y11.size≤140737488355328)) then((u7h (o10.1,((o10.2++y11),0))).bind fun r15=>match r15 with | .inl o16=>((t2m o16.1.2.2.2.2.2.2.1).bind fun y17=>(bif (decide (o16.2.size+y17.size≤140737488355328)) then((u2j o16.1.2.2.2.2.2.2.2).bind fun y18=>(bif (decide ((o16.2++y17).size+y18.size≤140737488355328)) then(some (((o16.2++y17)++y18),true)) else none)) else none)) | .inr z19=>none) else none)) | .inr z20=>none) else none)) else none)) else none)) else none)))))
theorem q3b:t7n=r1h:=zC 306 rfl Tryz.func306 (by kernel_rfl)
def t7q(x:r50):Option ByteArray:=zK 314 x
def t35(g:o43→Option (ByteArray⊕Unit))(x:o43):Option (ByteArray⊕Unit):=(bif (decide (x.2.2<(x.1.length:Int))) then(bif (y4q x.2.2 x.1.length) then((t7n (rdL u0a x.1 (x.2.2).toNat)).bind fun y2=>(bif (decide (x.2.1.size+y2.1.size≤140737488355328)) then(g (x.1,((x.2.1++y2.1),(IntKind.i64.wrap (x.2.2+1))))) else none)) else none) else(some (.inl x.2.1)))
def u9h:=lpW _ _ t35
theorem s7g x:u9h x=t35 u9h x:=zW s6l 314 Tryz.f314 3 28 x (by kernel_rfl)
def r1y (x:r50):Option ByteArray:=((u1n (x.length:Int)).bind fun y1=>((u9h (x,(y1,0))).bind fun r3=>match r3 with | .inl o4=>(some o4) | .inr z5=>none))
theorem q3r:t7q=r1y:=zC 314 rfl Tryz.func314 (by kernel_rfl)
def t9u(x:Z93):Option r9c:=zK 185 x
def t1q(g:Z73→Option (Z83⊕Unit))(x:Z73):Option (Z83⊕Unit):=(bif (decide (x.2.2<(x.1.1.length:Int))) then(bif (y4q x.2.2 x.1.1.length) then((u2j (rdL u0g x.1.1 (x.2.2).toNat).1).bind fun y5=>(bif (decide (x.2.1.size+y5.size≤140737488355328)) then((u2j (rdL u0g x.1.1 (x.2.2).toNat).2.1).bind fun y6=>(bif (decide ((x.2.1++y5).size+y6.size≤140737488355328)) then((t2m (rdL u0g x.1.1 (x.2.2).toNat).2.2.1).bind fun y7=>(bif (decide (((x.2.1++y5)++y6).size+y7.size≤140737488355328)) then((u1n (rdL u0g x.1.1 (x.2.2).toNat).2.2.2).bind fun y8=>(bif (decide ((((x.2.1++y5)++y6)++y7).size+y8.size≤140737488355328)) then(g (x.1,(((((x.2.1++y5)++y6)++y7)++y8),(IntKind.i64.wrap (x.2.2+1))))) else none)) else none)) else none)) else none)) else none) else(some (.inl (x.1,x.2.1))))
def u7d:=lpW _ _ t1q
theorem s30 x:u7d x=t1q u7d x:=zW s29 185 Tryz.f185 5 60 x (by kernel_rfl)
def s75 (x:Z93):Option r9c:=((u6o x).bind fun y1=>(bif (!y1) then(some ((⟨#[]⟩:ByteArray),false)) else((u1n x.2.2.2.1).bind fun y2=>((u1n x.2.2.2.2).bind fun y3=>(bif (decide (y2.size+y3.size≤140737488355328)) then((u1n (x.1.length:Int)).bind fun y4=>(bif (decide ((y2++y3).size+y4.size≤140737488355328)) then((u7d (x,(((y2++y3)++y4),0))).bind fun r9=>match r9 with | .inl o10=>((t7q o10.1.2.1).bind fun y11=>(bif (decide (o10.2.size+y11.size≤140737488355328)) then((t7q o10.1.2.2.1).bind fun y12=>(bif (decide ((o10.2++y11).size+y12.size≤140737488355328)) then(some (((o10.2++y11)++y12),true)) else none)) else none)) | .inr z13=>none) else none)) else none)))))
theorem q0n:t9u=s75:=zC 185 rfl Tryz.func185 (by kernel_rfl)
def u2z(x:Z26):Option r9c:=zK 176 x
def s2p (x:Z26):Option r9c:=((t5y x).bind fun y1=>(bif (!y1) then(some ((⟨#[]⟩:ByteArray),false)) else(bif (decide (x.1=3)) then((u2j x.2.2.1).bind fun y2=>(bif (decide ((y7g ([(IntKind.u8.wrap x.1)] :List Int)).size+y2.size≤140737488355328)) then((t2m x.2.2.2.1).bind fun y3=>(bif (decide (((y7g ([(IntKind.u8.wrap x.1)] :List Int))++y2).size+y3.size≤140737488355328)) then((t5z (((y7g ([(IntKind.u8.wrap x.1)] :List Int))++y2)++y3)).bind fun y4=>(some y4)) else none)) else none)) else(bif (decide (x.1=4)) then((t9u x.2.2.2.2).bind fun y5=>(bif (decide ((y7g ([(IntKind.u8.wrap x.1)] :List Int)).size+y5.1.size≤140737488355328)) then((t5z ((y7g ([(IntKind.u8.wrap x.1)] :List Int))++y5.1)).bind fun y6=>(some y6)) else none)) else((t7n x.2.1).bind fun y7=>(bif (decide ((y7g ([(IntKind.u8.wrap x.1)] :List Int)).size+y7.1.size≤140737488355328)) then((t5z ((y7g ([(IntKind.u8.wrap x.1)] :List Int))++y7.1)).bind fun y8=>(some y8)) else none))))))
theorem r6n:u2z=s2p:=zC 176 rfl Tryz.func176 (by kernel_rfl)
def t91(x:ByteArray):Option r9c:=zK 177 x
def s8h (x:ByteArray):Option r9c:=(((bif (decide ((IntKind.i64.wrap ((x.size:Int) - (4:Int)))<0)) then(some true) else(bif (decide ((IntKind.i64.wrap ((x.size:Int) - (4:Int))) >20000)) then(some true) else(bif (decide (0≤(IntKind.i64.wrap ((x.size:Int) - (4:Int))))&&decide ((IntKind.i64.wrap ((x.size:Int) - (4:Int)))≤(x.size:Int))&&decide ((x.size:Int)≤(x.size:Int))) then(bif (decide (0≤(0:Int))&&decide ((0:Int)≤(IntKind.i64.wrap ((x.size:Int) - (4:Int))))&&decide ((IntKind.i64.wrap ((x.size:Int) - (4:Int)))≤(x.size:Int))) then((s1d (x.extract ((0:Int)).toNat ((IntKind.i64.wrap ((x.size:Int) - (4:Int)))).toNat)).bind fun y1=>((t7o y1).bind fun y2=>(some (!z7o (x.extract ((IntKind.i64.wrap ((x.size:Int) - (4:Int)))).toNat ((x.size:Int)).toNat) y2)))) else none) else none))):Option Bool).bind fun j3=>(bif j3 then(some ((⟨#[]⟩:ByteArray),false)) else(bif (decide (0≤(0:Int))&&decide ((0:Int)≤(IntKind.i64.wrap ((x.size:Int) - (4:Int))))&&decide ((IntKind.i64.wrap ((x.size:Int) - (4:Int)))≤(x.size:Int))) then(some ((x.extract ((0:Int)).toNat ((IntKind.i64.wrap ((x.size:Int) - (4:Int)))).toNat),true)) else none)))
theorem q0y:t91=s8h:=zC 177 rfl Tryz.func177 (by kernel_rfl)
def t6l(x:ByteArray):Option Z24:=zK 60 x
def s2n (x:ByteArray):Option Z24:=((t91 x).bind fun y1=>(((bif (!y1.2) then(some true) else(some (z7o y1.1 (⟨#[]⟩:ByteArray)))):Option Bool).bind fun j2=>(bif j2 then(some ((0,((0,(0,(0,(0,(([] :List q4f.den),(([] :List u1x.den),(false,(⟨#[]⟩:ByteArray)))))))),((⟨#[]⟩:ByteArray),(false,(([] :List u0g.den),(([] :List u0a.den),(([] :List u0a.den),(0,0)))))))),false)) else(bif (y4q (0:Int) y1.1.size) then(bif (decide ((IntKind.i64.wrap ((y1.1.data.toList.getD ((0:Int)).toNat 0).toNat:Int))=3)) then((u1o (y1.1,(1,false))).bind fun y3=>((u5u y3.2).bind fun y4=>((u2z ((IntKind.i64.wrap ((y1.1.data.toList.getD ((0:Int)).toNat 0).toNat:Int)),((0,(0,(0,(0,(([] :List q4f.den),(([] :List u1x.den),(false,(⟨#[]⟩:ByteArray)))))))),(y3.1,(y4.1,(([] :List u0g.den),(([] :List u0a.den),(([] :List u0a.den),(0,0))))))))).bind fun y5=>(((bif (!y5.2) then(some true) else(some (!z7o y5.1 x))):Option Bool).bind fun j6=>(bif j6 then(some ((0,((0,(0,(0,(0,(([] :List q4f.den),(([] :List u1x.den),(false,(⟨#[]⟩:ByteArray)))))))),((⟨#[]⟩:ByteArray),(false,(([] :List u0g.den),(([] :List u0a.den),(([] :List u0a.den),(0,0)))))))),false)) else(some (((IntKind.i64.wrap ((y1.1.data.toList.getD ((0:Int)).toNat 0).toNat:Int)),((0,(0,(0,(0,(([] :List q4f.den),(([] :List u1x.den),(false,(⟨#[]⟩:ByteArray)))))))),(y3.1,(y4.1,(([] :List u0g.den),(([] :List u0a.den),(([] :List u0a.den),(0,0)))))))),true))))))) else(bif (decide ((IntKind.i64.wrap ((y1.1.data.toList.getD ((0:Int)).toNat 0).toNat:Int))=4)) then((t9z (y1.1,1)).bind fun y7=>((u2z ((IntKind.i64.wrap ((y1.1.data.toList.getD ((0:Int)).toNat 0).toNat:Int)),((0,(0,(0,(0,(([] :List q4f.den),(([] :List u1x.den),(false,(⟨#[]⟩:ByteArray)))))))),((⟨#[]⟩:ByteArray),(false,y7.1))))).bind fun y8=>(((bif (!y8.2) then(some true) else(some (!z7o y8.1 x))):Option Bool).bind fun j9=>(bif j9 then(some ((0,((0,(0,(0,(0,(([] :List q4f.den),(([] :List u1x.den),(false,(⟨#[]⟩:ByteArray)))))))),((⟨#[]⟩:ByteArray),(false,(([] :List u0g.den),(([] :List u0a.den),(([] :List u0a.den),(0,0)))))))),false)) else(some (((IntKind.i64.wrap ((y1.1.data.toList.getD ((0:Int)).toNat 0).toNat:Int)),((0,(0,(0,(0,(([] :List q4f.den),(([] :List u1x.den),(false,(⟨#[]⟩:ByteArray)))))))),((⟨#[]⟩:ByteArray),(false,y7.1)))),true)))))) else((t7l (y1.1,1)).bind fun y10=>((u2z ((IntKind.i64.wrap ((y1.1.data.toList.getD ((0:Int)).toNat 0).toNat:Int)),(y10.1,((⟨#[]⟩:ByteArray),(false,(([] :List u0g.den),(([] :List u0a.den),(([] :List u0a.den),(0,0))))))))).bind fun y11=>(((bif (!y11.2) then(some true) else(some (!z7o y11.1 x))):Option Bool).bind fun j12=>(bif j12 then(some ((0,((0,(0,(0,(0,(([] :List q4f.den),(([] :List u1x.den),(false,(⟨#[]⟩:ByteArray)))))))),((⟨#[]⟩:ByteArray),(false,(([] :List u0g.den),(([] :List u0a.den),(([] :List u0a.den),(0,0)))))))),false)) else(some (((IntKind.i64.wrap ((y1.1.data.toList.getD ((0:Int)).toNat 0).toNat:Int)),(y10.1,((⟨#[]⟩:ByteArray),(false,(([] :List u0g.den),(([] :List u0a.den),(([] :List u0a.den),(0,0)))))))),true)))))))) else none))))
theorem r6l:t6l=s2n:=zC 60 rfl Tryz.func60 (by kernel_rfl)
def t9x(x:Z64):Option Int:=zK 105 x
def t1s(g:o0o→Option p4z)(x:o0o):Option p4z:=(bif (decide (x.2.2<(x.1.length:Int))) then(bif (y4q x.2.2 x.1.length) then(bif (decide ((rdL u0a x.1 (x.2.2).toNat).2.2.1<x.2.1)) then(bif (y4q x.2.2 x.1.length) then(g (x.1,((rdL u0a x.1 (x.2.2).toNat).2.2.1,(IntKind.i64.wrap (x.2.2+1))))) else none) else(g (x.1,(x.2.1,(IntKind.i64.wrap (x.2.2+1)))))) else none) else(some (.inl x.2.1)))
def t19:=lpW _ _ t1s
theorem s32 x:t19 x=t1s t19 x:=zW s3b 105 Tryz.f105 3 28 x (by kernel_rfl)
def s79 (x:Z64):Option Int:=((t19 (x.2,(x.1.2.2.2.1,0))).bind fun r1=>match r1 with | .inl o2=>(some o2) | .inr z3=>none)
theorem q0r:t9x=s79:=zC 105 rfl Tryz.func105 (by kernel_rfl)
def s1e(x:o0q):Option Int:=zK 113 x
def t62(g:o44→Option p4z)(x:o44):Option p4z:=(bif (decide (x.2.2.2.2<(x.1.length:Int))) then(((bif (y4q x.2.2.2.2 x.1.length) then(bif (z7o (rdL u0g x.1 (x.2.2.2.2).toNat).1 x.2.1) then(bif (y4q x.2.2.2.2 x.1.length) then(bif (decide ((rdL u0g x.1 (x.2.2.2.2).toNat).2.2.2≤x.2.2.1)) then(bif (decide (x.2.2.2.1<0)) then(some true) else(bif (y4q x.2.2.2.2 x.1.length) then(bif (y4q x.2.2.2.1 x.1.length) then(some (decide ((rdL u0g x.1 (x.2.2.2.2).toNat).2.2.2 >(rdL u0g x.1 (x.2.2.2.1).toNat).2.2.2))) else none) else none)) else(some false)) else none) else(some false)) else none):Option Bool).bind fun j1=>(bif j1 then(g (x.1,(x.2.1,(x.2.2.1,(x.2.2.2.2,(IntKind.i64.wrap (x.2.2.2.2+1))))))) else(g (x.1,(x.2.1,(x.2.2.1,(x.2.2.2.1,(IntKind.i64.wrap (x.2.2.2.2+1))))))))) else(some (.inl x.2.2.2.1)))
def t21:=lpW _ _ t62
theorem r27 x:t21 x=t62 t21 x:=zW r2s 113 Tryz.f113 3 50 x (by kernel_rfl)
def r7w (x:o0q):Option Int:=((t21 (x.1,(x.2.1,(x.2.2,((-1:Int),0))))).bind fun r2=>match r2 with | .inl o3=>(some o3) | .inr z4=>none)
theorem q83:s1e=r7w:=zC 113 rfl Tryz.func113 (by kernel_rfl)
def s17(x:o0v):Option q2e:=zK 107 x
def t30(g:o41→Option o26)(x:o41):Option o26:=(bif (decide (x.2.2.2<(x.1.length:Int))) then(bif (y4q x.2.2.2 x.1.length) then((s1e (x.1,((rdL u0g x.1 (x.2.2.2).toNat).1,x.2.1))).bind fun y1=>(((bif (y4q x.2.2.2 x.1.length) then(bif (decide ((rdL u0g x.1 (x.2.2.2).toNat).2.2.2 >x.2.1)) then(some true) else(some (decide (y1=x.2.2.2)))) else none):Option Bool).bind fun j2=>(bif j2 then(bif (y4q x.2.2.2 x.1.length) then(bif (Nat.ble (x.2.2.1.length+([(rdL u0g x.1 (x.2.2.2).toNat)] :List u0g.den).length) z7w) then(g (x.1,(x.2.1,((x.2.2.1++([(rdL u0g x.1 (x.2.2.2).toNat)] :List u0g.den)),(IntKind.i64.wrap (x.2.2.2+1)))))) else none) else none) else(g (x.1,(x.2.1,(x.2.2.1,(IntKind.i64.wrap (x.2.2.2+1))))))))) else none) else(some (.inl (x.2.1,x.2.2.1))))
def u9c:=lpW _ _ t30
theorem s7a x:u9c x=t30 u9c x:=zW s6e 107 Tryz.f107 3 99 x (by kernel_rfl)
def t1z(g:o4t→Option (o3r⊕Unit))(x:o4t):Option (o3r⊕Unit):=(bif (decide (x.2.2.2.2.2<(x.2.1.length:Int))) then(bif (y4q x.2.2.2.2.2 x.2.1.length) then(bif (y4q x.2.2.2.1 x.2.1.length) then(bif (z7o (rdL u0g x.2.1 (x.2.2.2.2.2).toNat).1 (rdL u0g x.2.1 (x.2.2.2.1).toNat).1) then(g (x.1,(x.2.1,(x.2.2.1,(x.2.2.2.1,((IntKind.i64.wrap (x.2.2.2.2.1+1)),(IntKind.i64.wrap (x.2.2.2.2.2+1)))))))) else(g (x.1,(x.2.1,(x.2.2.1,(x.2.2.2.1,(x.2.2.2.2.1,(IntKind.i64.wrap (x.2.2.2.2.2+1))))))))) else none) else none) else(some (.inl (x.1,(x.2.1,(x.2.2.1,(x.2.2.2.1,x.2.2.2.2.1)))))))
def u7g:=lpW _ _ t1z
theorem s39 x:u7g x=t1z u7g x:=zW s3i 107 Tryz.f107 14 99 x (by kernel_rfl)
def t1y(g:o40→Option p9c)(x:o40):Option p9c:=(bif (decide (x.2.2.2<(x.2.1.length:Int))) then((u7g (x.1,(x.2.1,(x.2.2.1,(x.2.2.2,(0,0)))))).bind fun r5=>match r5 with | .inl o6=>(((bif (y4q o6.2.2.2.1 o6.2.1.length) then(bif (!(rdL u0g o6.2.1 (o6.2.2.2.1).toNat).2.2.1) then(some true) else(bif (y4q o6.2.2.2.1 o6.2.1.length) then(bif (decide ((rdL u0g o6.2.1 (o6.2.2.2.1).toNat).2.2.2 >o6.1)) then(some true) else(some (decide (o6.2.2.2.2 >1)))) else none)) else none):Option Bool).bind fun j7=>(bif j7 then(bif (y4q o6.2.2.2.1 o6.2.1.length) then(bif (Nat.ble (o6.2.2.1.length+([(rdL u0g o6.2.1 (o6.2.2.2.1).toNat)] :List u0g.den).length) z7w) then(g (o6.1,(o6.2.1,((o6.2.2.1++([(rdL u0g o6.2.1 (o6.2.2.2.1).toNat)] :List u0g.den)),(IntKind.i64.wrap (o6.2.2.2.1+1)))))) else none) else none) else(g (o6.1,(o6.2.1,(o6.2.2.1,(IntKind.i64.wrap (o6.2.2.2.1+1)))))))) | .inr z8=>(some (.inr ()))) else(some (.inl x.2.2.1)))
def t2c:=lpW _ _ t1y
theorem s38 x:t2c x=t1y t2c x:=zW s3h 107 Tryz.f107 10 99 x (by kernel_rfl)
def r1g (x:o0v):Option q2e:=((u9c (x.1,(x.2,(([] :List u0g.den),0)))).bind fun r3=>match r3 with | .inl o4=>((t2c (o4.1,(o4.2,(([] :List u0g.den),0)))).bind fun r9=>match r9 with | .inl o10=>(some o10) | .inr z11=>none) | .inr z12=>none)
theorem q3a:s17=r1g:=zC 107 rfl Tryz.func107 (by kernel_rfl)
def t2l(x:Z64):Option Z93:=zK 21 x
def t5a(g:Z12→Option (Z13⊕Unit))(x:Z12):Option (Z13⊕Unit):=(bif (decide (x.2.2.2.2<(x.1.2.1.length:Int))) then(bif (y4q x.2.2.2.2 x.1.2.1.length) then(bif (decide ((rdL u0a x.1.2.1 (x.2.2.2.2).toNat).2.2.2.1 >x.2.2.2.1)) then(bif (y4q x.2.2.2.2 x.1.2.1.length) then((u02 (rdL u0a x.1.2.1 (x.2.2.2.2).toNat)).bind fun y3=>(bif (Nat.ble (x.2.2.1.2.1.length+([y3] :List u0a.den).length) z7w) then(g (x.1,(x.2.1,((x.2.2.1.1,((x.2.2.1.2.1++([y3] :List u0a.den)),x.2.2.1.2.2)),(x.2.2.2.1,(IntKind.i64.wrap (x.2.2.2.2+1))))))) else none)) else none) else(g (x.1,(x.2.1,(x.2.2.1,(x.2.2.2.1,(IntKind.i64.wrap (x.2.2.2.2+1)))))))) else none) else(some (.inl (x.1,(x.2.1,(x.2.2.1,x.2.2.2.1))))))
def t5g:=lpW _ _ t5a
theorem s93 x:t5g x=t5a t5g x:=zW s89 21 Tryz.f21 5 47 x (by kernel_rfl)
def r4u (x:Z64):Option Z93:=((u2k x.1).bind fun y1=>((t9x x).bind fun y2=>((t5g (x.1,((([] :List u0g.den),(([] :List u0a.den),(([] :List u0a.den),(0,0)))),((y1.1,(([] :List u0a.den),y1.2.2)),(y2,0))))).bind fun r4=>match r4 with | .inl o5=>((s17 (o5.1.1,o5.2.2.2)).bind fun y6=>(some (y6,o5.2.2.1.2))) | .inr z7=>none)))
theorem q6u:t2l=r4u:=zC 21 rfl Tryz.func21 (by kernel_rfl)
def s4x(x:Z47):Option Bool:=zK 287 x
def r4g (x:Z47):Option Bool:=(bif (decide (x.1.1=x.2.1)) then(some false) else(((bif (decide (x.1.2.1=3)) then(bif (decide (x.1.2.2.2.1≤x.2.2.2.1)) then(some true) else(bif (decide (x.2.2.1=3)) then(some (decide (x.2.2.2.2.1≤x.1.2.2.1))) else(some false))) else(bif (decide (x.2.2.1=3)) then(some (decide (x.2.2.2.2.1≤x.1.2.2.1))) else(some false))):Option Bool).bind fun j1=>(bif j1 then(some false) else(some true))))
theorem q6g:s4x=r4g:=zC 287 rfl Tryz.func287 (by kernel_rfl)
def t7j(x:o21):Option Bool:=zK 281 x
def r05 (x:o21):Option Bool:=(((bif (!y3c x.2 x.1.1) then(some (y3c x.2 x.1.2 || z7o x.2 x.1.2)) else(some false)):Option Bool).bind fun j1=>(some j1))
theorem q2z:t7j=r05:=zC 281 rfl Tryz.func281 (by kernel_rfl)
def s16(x:o20):Option Bool:=zK 288 x
def t3z(g:o48→Option (o2x⊕Bool))(x:o48):Option (o2x⊕Bool):=(bif (decide (x.2.2.2<(x.2.1.length:Int))) then(bif (y4q x.2.2.1 x.1.length) then(bif (y4q x.2.2.2 x.2.1.length) then((t7j ((rdL q4f x.1 (x.2.2.1).toNat),(rdL u1x x.2.1 (x.2.2.2).toNat).1)).bind fun y1=>(bif y1 then(some (.inr true)) else(g (x.1,(x.2.1,(x.2.2.1,(IntKind.i64.wrap (x.2.2.2+1)))))))) else none) else none) else(some (.inl (x.1,(x.2.1,x.2.2.1)))))
def u9b:=lpW _ _ t3z
theorem s69 x:u9b x=t3z u9b x:=zW s6d 288 Tryz.f288 5 29 x (by kernel_rfl)
def t3y(g:o2x→Option r3y)(x:o2x):Option r3y:=(bif (decide (x.2.2<(x.1.length:Int))) then((u9b (x.1,(x.2.1,(x.2.2,0)))).bind fun r2=>match r2 with | .inl o3=>(g (o3.1,(o3.2.1,(IntKind.i64.wrap (o3.2.2+1))))) | .inr z4=>(some (.inr z4))) else(some (.inl ())))
def t4b:=lpW _ _ t3y
theorem s68 x:t4b x=t3y t4b x:=zW s6c 288 Tryz.f288 2 29 x (by kernel_rfl)
def r1f (x:o20):Option Bool:=((t4b (x.1,(x.2,0))).bind fun r5=>match r5 with | .inl o6=>(some false) | .inr z7=>(some z7))
theorem q29:s16=r1f:=zC 288 rfl Tryz.func288 (by kernel_rfl)
def u2f(x:Z47):Option Bool:=zK 162 x
def r7m (x:Z47):Option Bool:=((((s4x x).bind fun y1=>(bif y1 then((s16 (x.1.2.2.2.2.1,x.2.2.2.2.2.2.1)).bind fun y2=>(some y2)) else(some false))):Option Bool).bind fun j3=>(some j3))
theorem q8t:u2f=r7m:=zC 162 rfl Tryz.func162 (by kernel_rfl)
def t72(x:Z75):Option Bool:=zK 161 x
def t60(g:Z69→Option r3y)(x:Z69):Option r3y:=(bif (decide (x.2.2<(x.1.length:Int))) then(((bif (y4q x.2.2 x.1.length) then(bif (decide ((rdL u0a x.1 (x.2.2).toNat).2.1=3)) then(bif (y4q x.2.2 x.1.length) then((u2f (x.2.1,(rdL u0a x.1 (x.2.2).toNat))).bind fun y1=>(some y1)) else none) else(some false)) else none):Option Bool).bind fun j2=>(bif j2 then(some (.inr true)) else(g (x.1,(x.2.1,(IntKind.i64.wrap (x.2.2+1))))))) else(some (.inl ())))
def t68:=lpW _ _ t60
theorem r25 x:t68 x=t60 t68 x:=zW r2q 161 Tryz.f161 2 26 x (by kernel_rfl)
def r7t (x:Z75):Option Bool:=((t68 (x.2,(x.1,0))).bind fun r3=>match r3 with | .inl o4=>(some false) | .inr z5=>(some z5))
theorem q80:t72=r7t:=zC 161 rfl Tryz.func161 (by kernel_rfl)
def t0h(x:o2v):Option q2e:=zK 379 x
def u65(g:Z74→Option (Z74⊕Unit))(x:Z74):Option (Z74⊕Unit):=(((bif (decide (x.2.2.2.2.2.2<(x.2.2.1.length:Int))) then(bif (y4q x.2.2.2.2.2.2 x.2.2.1.length) then(bif (y3c (rdL u0g x.2.2.1 (x.2.2.2.2.2.2).toNat).1 x.2.2.2.2.1.1) then(some true) else(bif (y4q x.2.2.2.2.2.2 x.2.2.1.length) then(bif (z7o (rdL u0g x.2.2.1 (x.2.2.2.2.2.2).toNat).1 x.2.2.2.2.1.1) then(bif (y4q x.2.2.2.2.2.2 x.2.2.1.length) then(some (decide ((rdL u0g x.2.2.1 (x.2.2.2.2.2.2).toNat).2.2.2≤x.2.2.2.2.1.2.2.2))) else none) else(some false)) else none)) else none) else(some false)):Option Bool).bind fun j1=>(bif j1 then(bif (y4q x.2.2.2.2.2.2 x.2.2.1.length) then(bif (Nat.ble (x.2.2.2.2.2.1.length+([(rdL u0g x.2.2.1 (x.2.2.2.2.2.2).toNat)] :List u0g.den).length) z7w) then(g (x.1,(x.2.1,(x.2.2.1,(x.2.2.2.1,(x.2.2.2.2.1,((x.2.2.2.2.2.1++([(rdL u0g x.2.2.1 (x.2.2.2.2.2.2).toNat)] :List u0g.den)),(IntKind.i64.wrap (x.2.2.2.2.2.2+1))))))))) else none) else none) else(some (.inl x))))
def u5e:=lpW _ _ u65
theorem t8v x:u5e x=u65 u5e x:=zW t8p 379 Tryz.f379 8 93 x (by kernel_rfl)
def u64(g:o42→Option p9c)(x:o42):Option p9c:=(bif (decide (x.2.2.2<(x.1.length:Int))) then(bif (y4q x.2.2.2 x.1.length) then(bif (y4q x.2.2.2 x.1.length) then(bif (y4q x.2.2.2 x.1.length) then((u5e (x.1,(x.2.1,(x.2.2.1,(x.2.2.2,(((rdL u1x x.1 (x.2.2.2).toNat).1,((rdL u1x x.1 (x.2.2.2).toNat).2.1,((rdL u1x x.1 (x.2.2.2).toNat).2.2,x.2.1))),(([] :List u0g.den),0))))))).bind fun r2=>match r2 with | .inl o3=>(bif (Nat.ble (o3.2.2.2.2.2.1.length+([o3.2.2.2.2.1] :List u0g.den).length) z7w) then(bif (decide (0≤o3.2.2.2.2.2.2)&&decide (o3.2.2.2.2.2.2≤(o3.2.2.1.length:Int))&&decide ((o3.2.2.1.length:Int)≤(o3.2.2.1.length:Int))) then(bif (Nat.ble ((o3.2.2.2.2.2.1++([o3.2.2.2.2.1] :List u0g.den)).length+((o3.2.2.1.take ((o3.2.2.1.length:Int)).toNat).drop (o3.2.2.2.2.2.2).toNat).length) z7w) then(g (o3.1,(o3.2.1,(((o3.2.2.2.2.2.1++([o3.2.2.2.2.1] :List u0g.den))++((o3.2.2.1.take ((o3.2.2.1.length:Int)).toNat).drop (o3.2.2.2.2.2.2).toNat)),(IntKind.i64.wrap (o3.2.2.2.1+1)))))) else none) else none) else none) | .inr z4=>(some (.inr ()))) else none) else none) else none) else(some (.inl x.2.2.1)))
def u68:=lpW _ _ u64
theorem t8u x:u68 x=u64 u68 x:=zW t8o 379 Tryz.f379 3 93 x (by kernel_rfl)
def s0s (x:o2v):Option q2e:=(bif (Nat.ble (([] :List u0g.den).length+x.1.length) z7w) then((u68 (x.2.1,(x.2.2,((([] :List u0g.den)++x.1),0)))).bind fun r5=>match r5 with | .inl o6=>(some o6) | .inr z7=>none) else none)
theorem r5c:t0h=s0s:=zC 379 rfl Tryz.func379 (by kernel_rfl)
def u5o(x:Z36):Option Z93:=zK 318 x
def t1x(g:Z3→Option (Z15⊕Unit))(x:Z3):Option (Z15⊕Unit):=(bif (decide (x.2.2.2.2.2<(x.1.2.2.1.length:Int))) then(bif (y4q x.2.2.2.2.2 x.1.2.2.1.length) then((u02 (rdL u0a x.1.2.2.1 (x.2.2.2.2.2).toNat)).bind fun y4=>(bif (decide (y4.1=x.2.1.1)) then(g (x.1,(x.2.1,(x.2.2.1,(x.2.2.2.1,(x.2.2.2.2.1,(IntKind.i64.wrap (x.2.2.2.2.2+1)))))))) else((u2f (y4,x.2.2.2.2.1)).bind fun y5=>(bif y5 then(bif (Nat.ble (x.2.2.2.1.2.2.1.length+([(y4.1,(y4.2.1,(y4.2.2.1,(y4.2.2.2.1,(y4.2.2.2.2.1,(y4.2.2.2.2.2.1,(true,y4.2.2.2.2.2.2.2)))))))] :List u0a.den).length) z7w) then(g (x.1,(x.2.1,(x.2.2.1,((x.2.2.2.1.1,(x.2.2.2.1.2.1,((x.2.2.2.1.2.2.1++([(y4.1,(y4.2.1,(y4.2.2.1,(y4.2.2.2.1,(y4.2.2.2.2.1,(y4.2.2.2.2.2.1,(true,y4.2.2.2.2.2.2.2)))))))] :List u0a.den)),x.2.2.2.1.2.2.2))),(x.2.2.2.2.1,(IntKind.i64.wrap (x.2.2.2.2.2+1)))))))) else none) else(bif (Nat.ble (x.2.2.2.1.2.2.1.length+([y4] :List u0a.den).length) z7w) then(g (x.1,(x.2.1,(x.2.2.1,((x.2.2.2.1.1,(x.2.2.2.1.2.1,((x.2.2.2.1.2.2.1++([y4] :List u0a.den)),x.2.2.2.1.2.2.2))),(x.2.2.2.2.1,(IntKind.i64.wrap (x.2.2.2.2.2+1)))))))) else none))))) else none) else(some (.inl (x.2.1,(x.2.2.1,x.2.2.2.1)))))
def u5r:=lpW _ _ t1x
theorem s37 x:u5r x=t1x u5r x:=zW s3g 318 Tryz.f318 12 85 x (by kernel_rfl)
def r1e (x:Z36):Option Z93:=((u2k x.1).bind fun y1=>((u02 x.2).bind fun y2=>(bif x.2.2.2.2.2.2.2.1 then((t0h (x.1.1,(y2.2.2.2.2.2.1,(IntKind.i64.wrap (x.1.2.2.2.1+1))))).bind fun y3=>(bif (Nat.ble (y1.2.1.length+([(y2.1,(3,(y2.2.2.1,((IntKind.i64.wrap (x.1.2.2.2.1+1)),(y2.2.2.2.2.1,(y2.2.2.2.2.2.1,(true,(⟨#[]⟩:ByteArray))))))))] :List u0a.den).length) z7w) then((u5r (x.1,(x.2,((([] :List u0g.den),(([] :List u0a.den),(([] :List u0a.den),(0,0)))),((y3,((y1.2.1++([(y2.1,(3,(y2.2.2.1,((IntKind.i64.wrap (x.1.2.2.2.1+1)),(y2.2.2.2.2.1,(y2.2.2.2.2.2.1,(true,(⟨#[]⟩:ByteArray))))))))] :List u0a.den)),(([] :List u0a.den),((IntKind.i64.wrap (x.1.2.2.2.1+1)),y1.2.2.2.2)))),((y2.1,(3,(y2.2.2.1,((IntKind.i64.wrap (x.1.2.2.2.1+1)),(y2.2.2.2.2.1,(y2.2.2.2.2.2.1,(true,(⟨#[]⟩:ByteArray)))))))),0)))))).bind fun r6=>match r6 with | .inl o7=>(bif (decide (o7.1.1≥o7.2.2.2.2.2.2)) then(some (o7.2.2.1,(o7.2.2.2.1,(o7.2.2.2.2.1,(o7.2.2.2.2.2.1,(IntKind.i64.wrap (o7.1.1+1))))))) else(some o7.2.2)) | .inr z8=>none) else none)) else((t72 (x.2,x.1.2.1)).bind fun y9=>((t0h (x.1.1,(y2.2.2.2.2.2.1,(IntKind.i64.wrap (x.1.2.2.2.1+1))))).bind fun y10=>(bif (Nat.ble (y1.2.1.length+([(y2.1,(3,(y2.2.2.1,((IntKind.i64.wrap (x.1.2.2.2.1+1)),(y2.2.2.2.2.1,(y2.2.2.2.2.2.1,(y9,(⟨#[]⟩:ByteArray))))))))] :List u0a.den).length) z7w) then((u5r (x.1,(x.2,((([] :List u0g.den),(([] :List u0a.den),(([] :List u0a.den),(0,0)))),((y10,((y1.2.1++([(y2.1,(3,(y2.2.2.1,((IntKind.i64.wrap (x.1.2.2.2.1+1)),(y2.2.2.2.2.1,(y2.2.2.2.2.2.1,(y9,(⟨#[]⟩:ByteArray))))))))] :List u0a.den)),(([] :List u0a.den),((IntKind.i64.wrap (x.1.2.2.2.1+1)),y1.2.2.2.2)))),((y2.1,(3,(y2.2.2.1,((IntKind.i64.wrap (x.1.2.2.2.1+1)),(y2.2.2.2.2.1,(y2.2.2.2.2.2.1,(y9,(⟨#[]⟩:ByteArray)))))))),0)))))).bind fun r13=>match r13 with | .inl o14=>(bif (decide (o14.1.1≥o14.2.2.2.2.2.2)) then(some (o14.2.2.1,(o14.2.2.2.1,(o14.2.2.2.2.1,(o14.2.2.2.2.2.1,(IntKind.i64.wrap (o14.1.1+1))))))) else(some o14.2.2)) | .inr z15=>none) else none))))))
theorem q28:u5o=r1e:=zC 318 rfl Tryz.func318 (by kernel_rfl)
def u1u(x:Z83):Option Int:=zK 319 x
def u8x(g:Z72→Option r51)(x:Z72):Option r51:=(bif (decide (x.2.2<(x.2.1.2.2.1.length:Int))) then(bif (y4q x.2.2 x.2.1.2.2.1.length) then(bif (z7o (rdL u0a x.2.1.2.2.1 (x.2.2).toNat).2.2.2.2.2.2.2 x.1) then(some (.inr x.2.2)) else(g (x.1,(x.2.1,(IntKind.i64.wrap (x.2.2+1)))))) else none) else(some (.inl ())))
def u9a:=lpW _ _ u8x
theorem s66 x:u9a x=u8x u9a x:=zW s59 319 Tryz.f319 2 22 x (by kernel_rfl)
def r1c (x:Z83):Option Int:=((u9a (x.2,(x.1,0))).bind fun r1=>match r1 with | .inl o2=>(some (-1:Int)) | .inr z3=>(some z3))
theorem q26:u1u=r1c:=zC 319 rfl Tryz.func319 (by kernel_rfl)
def u5c(x:Z32):Option Z93:=zK 320 x
def u97(g:Z1→Option (Z2⊕Unit))(x:Z1):Option (Z2⊕Unit):=(bif (decide (x.2.2.2.2.2.2<(x.2.1.2.2.1.length:Int))) then(bif (y4q x.2.2.2.2.2.2 x.2.1.2.2.1.length) then(bif (y3c (rdL u0a x.2.1.2.2.1 (x.2.2.2.2.2.2).toNat).2.2.2.2.2.2.2 x.1) then(bif (y4q x.2.2.2.2.2.2 x.2.1.2.2.1.length) then((u02 (rdL u0a x.2.1.2.2.1 (x.2.2.2.2.2.2).toNat)).bind fun y3=>(bif (Nat.ble (x.2.2.2.2.1.2.2.1.length+([y3] :List u0a.den).length) z7w) then(g (x.1,(x.2.1,(x.2.2.1,(x.2.2.2.1,((x.2.2.2.2.1.1,(x.2.2.2.2.1.2.1,((x.2.2.2.2.1.2.2.1++([y3] :List u0a.den)),x.2.2.2.2.1.2.2.2))),(x.2.2.2.2.2.1,(IntKind.i64.wrap (x.2.2.2.2.2.2+1))))))))) else none)) else none) else(g (x.1,(x.2.1,(x.2.2.1,(x.2.2.2.1,(x.2.2.2.2.1,(x.2.2.2.2.2.1,(IntKind.i64.wrap (x.2.2.2.2.2.2+1)))))))))) else none) else(some (.inl (x.1,(x.2.1,(x.2.2.1,(x.2.2.2.1,(x.2.2.2.2.1,x.2.2.2.2.2.1))))))))
def u49:=lpW _ _ u97
theorem s1n x:u49 x=u97 u49 x:=zW s04 320 Tryz.f320 8 97 x (by kernel_rfl)
def u77(g:Z4→Option (Z15⊕Unit))(x:Z4):Option (Z15⊕Unit):=(bif (decide (x.2.2.2.2.2<(x.2.1.2.2.1.length:Int))) then(bif (y4q x.2.2.2.2.2 x.2.1.2.2.1.length) then(bif (!y3c (rdL u0a x.2.1.2.2.1 (x.2.2.2.2.2).toNat).2.2.2.2.2.2.2 x.1) then(bif (y4q x.2.2.2.2.2 x.2.1.2.2.1.length) then((u02 (rdL u0a x.2.1.2.2.1 (x.2.2.2.2.2).toNat)).bind fun y6=>(bif (Nat.ble (x.2.2.2.2.1.2.2.1.length+([y6] :List u0a.den).length) z7w) then(g (x.1,(x.2.1,(x.2.2.1,(x.2.2.2.1,((x.2.2.2.2.1.1,(x.2.2.2.2.1.2.1,((x.2.2.2.2.1.2.2.1++([y6] :List u0a.den)),x.2.2.2.2.1.2.2.2))),(IntKind.i64.wrap (x.2.2.2.2.2+1)))))))) else none)) else none) else(g (x.1,(x.2.1,(x.2.2.1,(x.2.2.2.1,(x.2.2.2.2.1,(IntKind.i64.wrap (x.2.2.2.2.2+1))))))))) else none) else(some (.inl (x.2.2.1,(x.2.2.2.1,x.2.2.2.2.1)))))
def u4t:=lpW _ _ u77
theorem s0b x:u4t x=u77 u4t x:=zW t9j 320 Tryz.f320 14 97 x (by kernel_rfl)
def s5g (x:Z32):Option Z93:=((u2k x.1).bind fun y1=>((u02 x.2.1).bind fun y2=>(bif x.2.1.2.2.2.2.2.2.1 then((u49 (x.2.2,(x.1,(x.2.1,((([] :List u0g.den),(([] :List u0a.den),(([] :List u0a.den),(0,0)))),((y1.1,(y1.2.1,(([] :List u0a.den),y1.2.2.2))),((y2.1,(2,(y2.2.2.1,(y2.2.2.2.1,(y2.2.2.2.2.1,(y2.2.2.2.2.2.1,(true,x.2.2))))))),0))))))).bind fun r4=>match r4 with | .inl o5=>(bif (Nat.ble (o5.2.2.2.2.1.2.2.1.length+([o5.2.2.2.2.2] :List u0a.den).length) z7w) then((u4t (o5.1,(o5.2.1,(o5.2.2.1,(o5.2.2.2.1,((o5.2.2.2.2.1.1,(o5.2.2.2.2.1.2.1,((o5.2.2.2.2.1.2.2.1++([o5.2.2.2.2.2] :List u0a.den)),o5.2.2.2.2.1.2.2.2))),0)))))).bind fun r7=>match r7 with | .inl o8=>(bif (decide (o8.1.1≥o8.2.2.2.2.2.2)) then(some (o8.2.2.1,(o8.2.2.2.1,(o8.2.2.2.2.1,(o8.2.2.2.2.2.1,(IntKind.i64.wrap (o8.1.1+1))))))) else(some o8.2.2)) | .inr z9=>none) else none) | .inr z10=>none) else((t72 (x.2.1,x.1.2.1)).bind fun y11=>((u49 (x.2.2,(x.1,(x.2.1,((([] :List u0g.den),(([] :List u0a.den),(([] :List u0a.den),(0,0)))),((y1.1,(y1.2.1,(([] :List u0a.den),y1.2.2.2))),((y2.1,(2,(y2.2.2.1,(y2.2.2.2.1,(y2.2.2.2.2.1,(y2.2.2.2.2.2.1,(y11,x.2.2))))))),0))))))).bind fun r13=>match r13 with | .inl o14=>(bif (Nat.ble (o14.2.2.2.2.1.2.2.1.length+([o14.2.2.2.2.2] :List u0a.den).length) z7w) then((u4t (o14.1,(o14.2.1,(o14.2.2.1,(o14.2.2.2.1,((o14.2.2.2.2.1.1,(o14.2.2.2.2.1.2.1,((o14.2.2.2.2.1.2.2.1++([o14.2.2.2.2.2] :List u0a.den)),o14.2.2.2.2.1.2.2.2))),0)))))).bind fun r16=>match r16 with | .inl o17=>(bif (decide (o17.1.1≥o17.2.2.2.2.2.2)) then(some (o17.2.2.1,(o17.2.2.2.1,(o17.2.2.2.2.1,(o17.2.2.2.2.2.1,(IntKind.i64.wrap (o17.1.1+1))))))) else(some o17.2.2)) | .inr z18=>none) else none) | .inr z19=>none)))))
theorem r80:u5c=s5g:=zC 320 rfl Tryz.func320 (by kernel_rfl)
def t7i(x:Z83):Option Z93:=zK 321 x
def t3r(g:Z11→Option (Z28⊕Unit))(x:Z11):Option (Z28⊕Unit):=(bif (decide (x.2.2.2.2<(x.2.1.2.2.1.length:Int))) then(bif (y4q x.2.2.2.2 x.2.1.2.2.1.length) then(bif (!z7o (rdL u0a x.2.1.2.2.1 (x.2.2.2.2).toNat).2.2.2.2.2.2.2 x.1) then(bif (y4q x.2.2.2.2 x.2.1.2.2.1.length) then((u02 (rdL u0a x.2.1.2.2.1 (x.2.2.2.2).toNat)).bind fun y2=>(bif (Nat.ble (x.2.2.2.1.2.2.1.length+([y2] :List u0a.den).length) z7w) then(g (x.1,(x.2.1,(x.2.2.1,((x.2.2.2.1.1,(x.2.2.2.1.2.1,((x.2.2.2.1.2.2.1++([y2] :List u0a.den)),x.2.2.2.1.2.2.2))),(IntKind.i64.wrap (x.2.2.2.2+1))))))) else none)) else none) else(g (x.1,(x.2.1,(x.2.2.1,(x.2.2.2.1,(IntKind.i64.wrap (x.2.2.2.2+1)))))))) else none) else(some (.inl (x.2.2.1,x.2.2.2.1))))
def u87:=lpW _ _ t3r
theorem s60 x:u87 x=t3r u87 x:=zW s53 321 Tryz.f321 4 38 x (by kernel_rfl)
def r04 (x:Z83):Option Z93:=((u2k x.1).bind fun y1=>((u87 (x.2,(x.1,((([] :List u0g.den),(([] :List u0a.den),(([] :List u0a.den),(0,0)))),((y1.1,(y1.2.1,(([] :List u0a.den),y1.2.2.2))),0))))).bind fun r3=>match r3 with | .inl o4=>(some o4.2) | .inr z5=>none))
theorem q2y:t7i=r04:=zC 321 rfl Tryz.func321 (by kernel_rfl)
def s2b(x:Z14):Option Z86:=zK 201 x
def r1x (x:Z14):Option Z86:=(bif (decide (x.2.1=1)) then(bif (!decide (x.2.2.1.2.2.2.1=(IntKind.i64.wrap (x.1.2.2.2.1+1)))) then(some (x.1,false)) else((u5o (x.1,x.2.2.1)).bind fun y1=>(some (y1,true)))) else(bif (decide (x.2.1=2)) then(((bif (decide ((x.1.2.2.1.length:Int)≥(3:Int))) then(some true) else((u1u (x.1,x.2.2.1.2.2.2.2.2.2.2)).bind fun y2=>(some (decide (y2≥0))))):Option Bool).bind fun j3=>(bif j3 then(some (x.1,false)) else((u5c (x.1,(x.2.2.1,x.2.2.1.2.2.2.2.2.2.2))).bind fun y4=>(some (y4,true))))) else(bif (decide (x.2.1=3)) then((u1u (x.1,x.2.2.2.1)).bind fun y5=>(bif (decide (y5<0)) then(some (x.1,false)) else(bif x.2.2.2.2.1 then(bif (y4q y5 x.1.2.2.1.length) then((u5o (x.1,(rdL u0a x.1.2.2.1 (y5).toNat))).bind fun y6=>(some (y6,true))) else none) else((t7i (x.1,x.2.2.2.1)).bind fun y7=>(some (y7,true)))))) else((u2k x.2.2.2.2.2).bind fun y8=>(some (y8,true))))))
theorem q3q:s2b=r1x:=zC 201 rfl Tryz.func201 (by kernel_rfl)
def s42(x:Z14):Option Z86:=zK 73 x
def r4p (x:Z14):Option Z86:=((((u6o x.1).bind fun y1=>(bif (!y1) then(some true) else((t5y x.2).bind fun y2=>(some (!y2))))):Option Bool).bind fun j3=>(bif j3 then((u2k x.1).bind fun y4=>(some (y4,false))) else((s2b x).bind fun y5=>(bif (!y5.2) then((u2k x.1).bind fun y6=>(some (y6,false))) else((t2l (y5.1,([] :List u0a.den))).bind fun y7=>((u6o y7).bind fun y8=>(bif (!y8) then((u2k x.1).bind fun y9=>(some (y9,false))) else(some (y7,true)))))))))
theorem q6p:s42=r4p:=zC 73 rfl Tryz.func73 (by kernel_rfl)
def u5t(x:p03):Option r9c:=zK 417 x
def u78(g:o49→Option (o5f⊕r9c))(x:o49):Option (o5f⊕r9c):=(bif (decide (x.2.2≥0)) then(bif (y4q x.2.2 x.2.1.2.length) then(bif (decide ((rdL p4t x.2.1.2 (x.2.2).toNat).1=x.1)) then(bif (y4q x.2.2 x.2.1.2.length) then(some (.inr ((rdL p4t x.2.1.2 (x.2.2).toNat).2,true))) else none) else(g (x.1,(x.2.1,(IntKind.i64.wrap (x.2.2 - 1)))))) else none) else(some (.inl (x.1,x.2.1))))
def u8c:=lpW _ _ u78
theorem s0c x:u8c x=u78 u8c x:=zW t9k 417 Tryz.f417 4 41 x (by kernel_rfl)
def s2o (x:p03):Option r9c:=((u0o (x.2,(0,(IntKind.i64.wrap ((x.1.1.length:Int) - (1:Int)))))).bind fun y1=>(bif (!y1) then(some ((⟨#[]⟩:ByteArray),false)) else((u8c (x.2,(x.1,(IntKind.i64.wrap ((x.1.2.length:Int) - (1:Int)))))).bind fun r2=>match r2 with | .inl o3=>(bif (y4q o3.1 o3.2.1.length) then(some ((rdL Ty.str o3.2.1 (o3.1).toNat),true)) else none) | .inr z4=>(some z4))))
theorem r6m:u5t=s2o:=zC 417 rfl Tryz.func417 (by kernel_rfl)
def t6m(x:o2u):Option r9c:=zK 344 x
def u79(g:o4u→Option (ByteArray⊕r9c))(x:o4u):Option (ByteArray⊕r9c):=(bif (decide (x.2.2.2.2<x.2.1)) then(((bif (decide (x.1<0)) then(some true) else(some (decide (x.1 >(x.2.2.1.1.length:Int))))):Option Bool).bind fun j2=>(bif j2 then(some (.inr ((⟨#[]⟩:ByteArray),false))) else((u5t (x.2.2.1,(IntKind.i64.wrap (x.1+x.2.2.2.2)))).bind fun y3=>(bif (!y3.2) then(some (.inr ((⟨#[]⟩:ByteArray),false))) else(bif (decide (x.2.2.2.1.size+y3.1.size≤140737488355328)) then(g (x.1,(x.2.1,(x.2.2.1,((x.2.2.2.1++y3.1),(IntKind.i64.wrap (x.2.2.2.2+1))))))) else none))))) else(some (.inl x.2.2.2.1)))
def u8d:=lpW _ _ u79
theorem s0d x:u8d x=u79 u8d x:=zW t9l 344 Tryz.f344 5 43 x (by kernel_rfl)
def s2q (x:o2u):Option r9c:=((u0o (x.2.2,(0,100))).bind fun y1=>(bif (!y1) then(some ((⟨#[]⟩:ByteArray),false)) else((u8d (x.2.1,(x.2.2,(x.1,((⟨#[]⟩:ByteArray),0))))).bind fun r4=>match r4 with | .inl o5=>(some (o5,true)) | .inr z6=>(some z6))))
theorem r6o:t6m=s2q:=zC 344 rfl Tryz.func344 (by kernel_rfl)
def u6e(x:Int):Option Int:=zK 345 x
def s5d (x:Int):Option Int:=((u0o (x,(0,1))).bind fun y1=>(bif (!y1) then(some (0:Int)) else(some (IntKind.i64.wrap ((1:Int)+(IntKind.i64.wrap (x*48)))))))
theorem r8x:u6e=s5d:=zC 345 rfl Tryz.func345 (by kernel_rfl)
def t3b(x:p03):Option Int:=zK 347 x
def r1q (x:p03):Option Int:=((u5t x).bind fun y1=>(((bif (!y1.2) then(some true) else(some (z7o y1.1 (⟨#[]⟩:ByteArray)))):Option Bool).bind fun j2=>(bif j2 then(some (0:Int)) else(bif (y4q (0:Int) y1.1.size) then(some (IntKind.i64.wrap ((y1.1.data.toList.getD ((0:Int)).toNat 0).toNat:Int))) else none))))
theorem q3j:t3b=r1q:=zC 347 rfl Tryz.func347 (by kernel_rfl)
def t28(x:p03):Option Int:=zK 346 x
def r02 (x:p03):Option Int:=((u0o (x.2,(0,1))).bind fun y1=>(bif (!y1) then(some (0:Int)) else((u6e x.2).bind fun y2=>((t3b (x.1,y2)).bind fun y3=>(some y3)))))
theorem q2w:t28=r02:=zC 346 rfl Tryz.func346 (by kernel_rfl)
end
end Go.Proofs.YtbkicjpdlchbgaaGreat.Ab
