import Derived.Test.YtbkicjpdlchbgaaGreatAbK2
import Derived.Test.YtbkicjpdlchbgaaGreatAbF4
import Derived.Test.YtbkicjpdlchbgaaGreatAbS1
import Derived.KernelRfl
import Derived.Test.YtbkicjpdlchbgaaGreatProg
namespace Go.Proofs.YtbkicjpdlchbgaaGreat.Ab
open Go
set_option linter.unusedVariables false
noncomputable section
abbrev q5p:Ty:=(.pair .str .str)
abbrev o5p:Ty:=(.pair .str .bool)
abbrev u2f:Ty:=(.pair .str o5p)
abbrev o5n:Ty:=(.pair .bool .str)
abbrev p0v:Ty:=(.pair (.sl u2f) o5n)
abbrev r8r:Ty:=(.pair (.sl q5p) p0v)
abbrev r4a:Ty:=(.pair (.int .i64) r8r)
abbrev r0x:Ty:=(.pair (.int .i64) r4a)
abbrev s73:Ty:=(.pair (.int .i64) r0x)
abbrev u0a:Ty:=(.pair (.int .i64) s73)
abbrev o5m:Ty:=(.pair .bool (.int .i64))
abbrev o0q:Ty:=(.pair .str o5m)
abbrev u0i:Ty:=(.pair .str o0q)
abbrev p4o:Ty:=(.pair (.int .i64) .str)
abbrev o30:Ty:=(.pair (.int .i64) (.int .i64))
abbrev t83:Ty:=(.pair (.sl u0a) o30)
abbrev p40:Ty:=(.pair (.sl u0a) t83)
abbrev r9y:Ty:=(.pair (.sl u0i) p40)
abbrev q7u:Ty:=(.pair r9y (.sl u0a))
abbrev p15:Ty:=(.pair (.sl .str) (.sl p4o))
abbrev p4y:Ty:=(.pair q7u p15)
abbrev p4w:Ty:=(.pair .bool r9y)
abbrev p41:Ty:=(.pair .str p4w)
abbrev p4z:Ty:=(.pair u0a p41)
abbrev p4x:Ty:=(.pair (.int .i64) p4z)
abbrev o5o:Ty:=(.pair (.int .i64) .bool)
abbrev o0r:Ty:=(.pair .str o5o)
abbrev p89:Ty:=(.pair (.sl (.int .u8)) o30)
abbrev s1b:=((List ByteArray)×(List p4o.den))
abbrev o2i:=((List q5p.den)×(List u2f.den))
abbrev o2h:=((ByteArray×ByteArray)×ByteArray)
abbrev o2g:=((List u2f.den)×(List u2f.den))
abbrev o46:=(ByteArray×(ByteArray×(Int×Bool)))
abbrev o2f:=(ByteArray×((List Int)×(Int×Int)))
abbrev o0e:=((List u0i.den)×(ByteArray×Int))
abbrev o45:=(ByteArray×(Int×(Int×(Int×Int))))
abbrev o0d:=(List (List u0a.den))
abbrev p3d:=((List u0a.den)×Int)
abbrev o44:=((List q5p.den)×((List q5p.den)×Int))
abbrev p0x:=(s1b×Int)
abbrev o43:=(Int×s1b)
abbrev o2e:=((List q5p.den)×((List u2f.den)×Int))
abbrev r6b:=(s1b×Bool)
abbrev o42:=(((List Int)×(Int×Int))×(List ByteArray))
abbrev o3b:=((List u0i.den)×(ByteArray×ByteArray))
abbrev o2d:=((List u2f.den)×((List u2f.den)×Int))
abbrev o2c:=((List u0i.den)×((List u2f.den)×Int))
abbrev o0c:=((List u0a.den)×ByteArray)
abbrev o41:=(o0d×Int)
abbrev o40:=(s1b×ByteArray)
abbrev o2b:=((List u0a.den)×(Int×Int))
abbrev o4z:=((List u0i.den)×(Int×(List u0i.den)))
abbrev o2a:=(s1b×(Int×Int))
abbrev o4y:=(Int×p0x)
abbrev o4x:=((List q5p.den)×((List u2f.den)×(Int×Int)))
abbrev o13:=((List u2f.den)×((List q5p.den)×(Int×Int)))
abbrev o4w:=((ByteArray×ByteArray)×((List Int)×(Int×Int)))
abbrev o4v:=((List u2f.den)×(ByteArray×(ByteArray×Bool)))
abbrev o0b:=((List u2f.den)×((List u2f.den)×(Int×Int)))
abbrev o4u:=((List u0i.den)×((ByteArray×ByteArray)×Int))
abbrev o4t:=(ByteArray×(Int×((List u0i.den)×(Int×Int))))
abbrev o1z:=(s1b×(List ByteArray))
abbrev o4s:=((List u0i.den)×(ByteArray×(Int×(Int×Int))))
abbrev o4r:=((List u0a.den)×(ByteArray×Int))
abbrev o4q:=((List u2f.den)×(Int×((List u0i.den)×Int)))
abbrev p8p:=(s1b×(Int×ByteArray))
abbrev o4p:=(Int×((List u0i.den)×((List u0i.den)×Int)))
abbrev o4o:=((List u0i.den)×(Int×((List u0i.den)×Int)))
abbrev o3a:=(Int×o2b)
abbrev p6p:=((List u0a.den)×(Int×(Int×Int)))
abbrev o4n:=((ByteArray×(ByteArray×Bool))×((List Int)×(Int×Int)))
abbrev o4m:=((List u0i.den)×(ByteArray×(ByteArray×(Bool×Int))))
abbrev o0a:=((List u0a.den)×(ByteArray×(Int×Int)))
abbrev o4l:=(Int×((List u0i.den)×((List u2f.den)×(Int×Int))))
abbrev o4k:=((List u0a.den)×(ByteArray×(Int×Bool)))
abbrev o4j:=(s1b×(Int×(Int×ByteArray)))
abbrev o1y:=((ByteArray×(Int×Bool))×(List u0a.den))
abbrev o29:=(Int×((List u0i.den)×((List u0i.den)×(Int×Int))))
abbrev o4i:=(Int×(Int×(s1b×(ByteArray×Int))))
abbrev o4h:=(Int×((List u0i.den)×((List u0i.den)×(Int×(Int×Int)))))
abbrev o4g:=((List u0i.den)×(Int×((List q5p.den)×((List ByteArray)×Int))))
abbrev o4f:=((List u0i.den)×((ByteArray×ByteArray)×(Int×(List ByteArray))))
abbrev o4e:=((List u0i.den)×((ByteArray×ByteArray)×((List ByteArray)×Int)))
abbrev o4d:=((List u2f.den)×((ByteArray×(ByteArray×Bool))×(List u2f.den)))
abbrev p99:=(s1b×s1b)
abbrev o4c:=((List u0i.den)×((ByteArray×(ByteArray×(Bool×Int)))×(Int×Int)))
abbrev o4b:=((List u0a.den)×p3d)
abbrev o1x:=((List u2f.den)×((ByteArray×(ByteArray×Bool))×((List u2f.den)×Int)))
abbrev o1w:=((ByteArray×(ByteArray×(Bool×Int)))×(ByteArray×(ByteArray×(Bool×Int))))
abbrev o4a:=(s1b×r6b)
abbrev o39:=((List u0i.den)×(ByteArray×(Int×(Int×((List u0i.den)×(Int×Int))))))
abbrev o38:=((ByteArray×(Int×Bool))×o3a)
abbrev o28:=((List u0a.den)×o2b)
abbrev o37:=(Int×((List u0i.den)×((List u0i.den)×((List u0i.den)×(Int×Int)))))
abbrev o36:=((List u0i.den)×o29)
abbrev t3v:=(Int×(Int×(Int×(Int×((List q5p.den)×((List u2f.den)×(Bool×ByteArray)))))))
abbrev o35:=(Int×(s1b×p0x))
abbrev o34:=((List u0a.den)×(o0d×(Int×Int)))
abbrev p0w:=(t3v×Int)
abbrev p98:=(t3v×Bool)
abbrev p62:=(t3v×ByteArray)
abbrev o33:=(t3v×(Int×Bool))
abbrev o32:=((List u0i.den)×((ByteArray×ByteArray)×((List ByteArray)×(Int×(ByteArray×(List ByteArray))))))
abbrev o31:=(o0d×(Int×(o0d×(Int×Int))))
abbrev o1v:=(t3v×(ByteArray×Int))
abbrev Z99:=((List u0i.den)×o28)
abbrev Z98:=(Int×(s1b×((List ByteArray)×(ByteArray×((List ByteArray)×(Int×Int))))))
abbrev Z97:=((List u0i.den)×((ByteArray×ByteArray)×((List ByteArray)×(Int×(ByteArray×((List ByteArray)×Int))))))
abbrev Z96:=((List u2f.den)×((ByteArray×ByteArray)×((List q5p.den)×(Int×(Int×((List u2f.den)×(Int×Int)))))))
abbrev Z95:=(t3v×(ByteArray×ByteArray))
abbrev Z94:=(Z99×Int)
abbrev Z93:=((List ByteArray)×(s1b×(Int×(s1b×(Bool×Int)))))
abbrev Z92:=(Z99×Bool)
abbrev Z91:=(s1b×(s1b×p0x))
abbrev Z90:=(Z99×ByteArray)
abbrev Z89:=(t3v×(ByteArray×(ByteArray×Bool)))
abbrev Z88:=(t3v×((List u0i.den)×ByteArray))
abbrev Z87:=((List u2f.den)×((ByteArray×(ByteArray×Bool))×((List u2f.den)×(Int×(Int×((List u2f.den)×(Int×Int)))))))
abbrev Z86:=(Z99×(List Int))
abbrev Z85:=((List u0i.den)×(ByteArray×t3v))
abbrev Z84:=((List u0a.den)×t3v)
abbrev Z83:=(t3v×(List u0a.den))
abbrev Z82:=(Z99×(Int×Bool))
abbrev Z81:=((List u2f.den)×(Int×((List u0i.den)×(Int×((ByteArray×(ByteArray×(Bool×Int)))×((List u0i.den)×Int))))))
abbrev Z80:=(Z99×(ByteArray×Int))
abbrev Z79:=(ByteArray×Z94)
abbrev Z78:=((List u0i.den)×(ByteArray×p0w))
abbrev Z77:=(Z99×((List Int)×Int))
abbrev Z76:=((List u0a.den)×p0w)
abbrev Z75:=(t3v×o3b)
abbrev Z74:=(Z99×((List Int)×(Int×Int)))
abbrev Z73:=((List u0a.den)×(t3v×(Int×Int)))
abbrev Z72:=((List u0a.den)×(t3v×(Bool×Int)))
abbrev Z71:=(Z99×(List u0a.den))
abbrev Z70:=(Int×(Int×(ByteArray×Z91)))
abbrev Z69:=(Z71×Int)
abbrev Z68:=((List u0i.den)×(t3v×((List q5p.den)×((List ByteArray)×Int))))
abbrev Z67:=((List u0i.den)×(t3v×((ByteArray×ByteArray)×(List u0i.den))))
abbrev Z66:=(Z71×(Int×Int))
abbrev Z65:=(Int×Z69)
abbrev Z64:=((List u0a.den)×Z83)
abbrev Z63:=((List u0i.den)×(t3v×((ByteArray×ByteArray)×((List u0i.den)×Int))))
abbrev Z62:=(Z71×(Int×ByteArray))
abbrev Z61:=(Z71×(ByteArray×Bool))
abbrev Z60:=(Z71×((List q5p.den)×Int))
abbrev Z59:=(Z71×(ByteArray×(Bool×Int)))
abbrev Z58:=(Z71×((List Int)×(Int×Int)))
abbrev Z57:=((List u0a.den)×(Z83×(Int×Int)))
abbrev Z56:=(t3v×t3v)
abbrev Z55:=(Z71×(Int×(ByteArray×ByteArray)))
abbrev Z54:=(Z71×(List u0a.den))
abbrev Z53:=(Z71×s1b)
abbrev Z52:=(Z71×(Int×(ByteArray×(ByteArray×Bool))))
abbrev Z51:=(Z53×Int)
abbrev Z50:=(Int×Z53)
abbrev Z49:=(Bool×Z53)
abbrev Z48:=(Z53×Bool)
abbrev Z47:=(Z71×(Int×p3d))
abbrev Z46:=(Z99×t3v)
abbrev Z45:=(Z53×(Int×ByteArray))
abbrev Z44:=(Z53×(ByteArray×Bool))
abbrev Z43:=(t3v×((ByteArray×(Int×Bool))×t3v))
abbrev Z42:=(Z99×p62)
abbrev Z41:=(((List Int)×(Int×Int))×Z53)
abbrev Z40:=(Z53×((List Int)×(Int×Int)))
abbrev Z39:=(t3v×Z83)
abbrev Z38:=((List u0a.den)×Z56)
abbrev Z37:=(Z99×Z99)
abbrev Z36:=(t3v×((ByteArray×(Int×Bool))×(t3v×(Int×Int))))
abbrev Z35:=(Int×(t3v×(ByteArray×(Bool×Z99))))
abbrev Z34:=((List u0a.den)×(Z56×(Int×Int)))
abbrev Z33:=((List u0a.den)×(t3v×(Int×p0w)))
abbrev Z32:=(Z35×Bool)
abbrev Z31:=((List u0a.den)×(t3v×(Bool×(Int×p0w))))
abbrev Z30:=(Z71×(Int×t3v))
abbrev Z29:=(Z99×(Z99×((List ByteArray)×Int)))
abbrev Z28:=(Z99×((ByteArray×(Int×Bool))×Z99))
abbrev Z27:=(Z71×(Int×p0w))
abbrev Z26:=((List u0a.den)×(t3v×Z84))
abbrev Z25:=(Z99×((ByteArray×(Int×Bool))×(Z99×(Int×Int))))
abbrev Z24:=((List u0a.den)×((t3v×Z84)×(Int×Int)))
abbrev Z23:=(t3v×Z56)
abbrev Z22:=(t3v×((ByteArray×ByteArray)×Z56))
abbrev Z21:=(t3v×((ByteArray×ByteArray)×(t3v×p0w)))
abbrev Z20:=(t3v×(t3v×Z84))
abbrev Z19:=(t3v×Z37)
abbrev Z18:=(Z99×Z35)
abbrev Z17:=(Z99×(Z99×Z94))
abbrev Z16:=(Z99×(Z99×(Z99×(Int×Int))))
abbrev Z15:=(ByteArray×Z17)
abbrev Z14:=(Z71×Z35)
abbrev Z13:=(Z71×(Z35×Int))
abbrev Z12:=(((List Int)×(Int×Int))×(Z53×Z53))
abbrev Z11:=(t3v×(Z99×Z46))
abbrev Z10:=(((List Int)×(Int×Int))×(Int×(Z53×Z51)))
abbrev Z9:=(Z53×Z35)
abbrev Z8:=(t3v×(Z99×(Z99×(t3v×(Unit×(Int×Int))))))
abbrev Z7:=(ByteArray×(Z99×(t3v×(Z99×Z94))))
abbrev Z6:=(t3v×(Z99×(Z99×(t3v×((List u0a.den)×(List u0a.den))))))
abbrev Z5:=(ByteArray×(t3v×(Z99×(Z99×(t3v×((List u0a.den)×((List u0a.den)×(Unit×(Int×Int)))))))))
abbrev Z4:=(Z99×(t3v×(Z99×(Z99×p0w))))
abbrev Z3:=(ByteArray×(Z99×Z11))
abbrev Z2:=(ByteArray×Z4)
abbrev Z1:=(Z71×(Int×Z13))
def o5d:Tabs where
 ty:= [(3,(.int .i64)),(5,(.int .u8)),(9, .str),(22,(.sl (.int .u8))),(24,(.sl u0i)),(25,(.sl u0a)),(27,r9y),(29,q7u),(30,(.sl .str)),(31,(.sl p4o)),(33,p15),(35,p4y),(51,u2f),(58,(.sl (.int .i64))),(85,(.sl q5p)),(86,(.sl u2f)),(88,u0a),(90,p4x),(97,(.sl q5p)),(100,q5p),(155,u0i),(167,q5p),(210,o0r),(217,(.sl (.sl u0a))),(244,p89),(275,(.int .u32)),(307,p4o)]
 lay:= [(3,1,false),(4,1,false),(5,1,false),(9,1,false),(22,1,false),(24,1,false),(25,1,false),(27,5,true),(29,6,true),(30,1,false),(31,1,false),(33,2,true),(35,8,true),(51,3,true),(85,1,false),(86,1,false),(88,8,true),(90,16,true),(100,2,true),(155,4,true),(167,2,true),(170,1,false)]
 fld:= [(27, [(0,1,false),(1,1,false),(2,1,false),(3,1,false),(4,1,false)]),(29, [(0,5,true),(5,1,false)]),(33, [(0,1,false),(1,1,false)]),(35, [(0,6,true),(6,2,true)]),(51, [(0,1,false),(1,1,false),(2,1,false)]),(88, [(0,1,false),(1,1,false),(2,1,false),(3,1,false),(4,1,false),(5,1,false),(6,1,false),(7,1,false)]),(90, [(0,1,false),(1,8,true),(9,1,false),(10,1,false),(11,5,true)]),(100, [(0,1,false),(1,1,false)]),(155, [(0,1,false),(1,1,false),(2,1,false),(3,1,false)]),(167, [(0,1,false),(1,1,false)]),(210, [(0,1,false),(1,1,false),(2,1,false)]),(244, [(0,1,false),(1,1,false),(2,1,false)]),(307, [(0,1,false),(1,1,false)])]
 eqs:= [(100, [.s, .s]),(167, [.s, .s])]
abbrev zL (a:List Nat) (s:Sh) (n:Nat) (b:List Nat) (t:Sh) (c:List Nat) (u:Sh):LoopA:=⟨⟨a,s, []⟩,n,⟨b,t, []⟩,⟨c,u, []⟩⟩
def zS (i o:Sh) (n:Nat:=1) (b:List Bool:= []):Sig:=⟨i,b,o,n⟩
abbrev o1k:Ty:=.int .u8
abbrev o50:Ty:=.sl u0a
abbrev o1l:Ty:=.int .i64
abbrev t7c:Sh:=.tr false u0a
abbrev u1n:Sh:=.int .i64
abbrev r38:Sh:=.own true u0a
abbrev t9e:Sh:=.pair u1n u1n
abbrev r0m:Sh:=.tr false u0i
abbrev p9z:Sh:=.pair r0m (.pair t7c (.pair t7c t9e))
abbrev r8l:Sh:=.tr false u2f
abbrev p4j:Sh:=.agg (.pair p9z t7c)
abbrev q7k:Sh:=.own true u0i
abbrev o2q:Sh:=.pair q7k (.pair r38 (.pair r38 t9e))
abbrev o2s:Sh:=.pair o2q r38
abbrev p0f:Sh:=.pair .str .bool
abbrev o3n:Sh:=.pair .str .str
abbrev r9n:Sh:=.box o2q
abbrev p0g:Sh:=.pair .str u1n
abbrev q97:Sh:=.agg p9z
abbrev p4k:Sh:=.own true .str
abbrev p91:Sh:=.pair p4k (.own true p4o)
abbrev p2z:Sh:=.box (.pair o2s p91)
abbrev p4u:Sh:=.pair (.agg p91) .bool
abbrev p4l:Sh:=.tr false q5p
abbrev o2p:Sh:=.pair u1n (.pair u1n (.pair u1n (.pair u1n (.pair p4l (.pair r8l (.pair .bool .str))))))
abbrev r7b:Sh:=.rbox o2p
abbrev r7c:Sh:=.agg o2p
abbrev r8m:Sh:=.box o2p
abbrev o1m:Sh:=.agg (.pair u1n (.pair o2p (.pair .str (.pair .bool p9z))))
abbrev o3o:Sh:=.pair (.rbox (.clo 272 r7b)) (.pair (.rbox t7c) r7b)
abbrev o1n:Sh:=.own false u0a
abbrev o2t:Sh:=.pair r8m u1n
abbrev q99:Sh:=.box p9z
abbrev p81:Sh:=.tr true u0i
abbrev p6u:Sh:=.pair r7c t7c
abbrev p4m:Sh:=.box p91
abbrev p82:Sh:=.pair .str p0f
abbrev p8k:Sh:=.pair p4j u1n
abbrev o0m:Sh:=.pair u1n .str
abbrev o0n:Sh:=.box (.pair p9z t7c)
abbrev p4n:Sh:=.rbox u1n
abbrev o2v:Sh:=.clo 284 (.pair r7b (.rbox t7c))
abbrev p20:Sh:=.agg o2q
abbrev p83:Sh:=.pair u1n .bool
abbrev p0e:Sh:=.box (.pair .str p83)
abbrev p93:Sh:=.pair r8l u1n
abbrev p94:Sh:=.pair r7c r7b
abbrev p95:Sh:=.pair r8l t9e
abbrev p6v:Sh:=.agg o2s
abbrev o3p:Sh:=.pair t7c (.clo 276 (.pair r7b r7b))
abbrev p84:Sh:=.own true q5p
abbrev p90:Sh:=.pair u1n (.pair u1n (.pair u1n (.pair u1n (.pair p84 (.pair (.own true u2f) (.pair .bool .str))))))
abbrev p0h:Sh:=.box p90
abbrev o2u:Sh:=.pair u1n (.pair p90 (.pair .str (.pair .bool o2q)))
abbrev o0l:Sh:=.pair p6v (.pair (.agg o2u) u1n)
abbrev o0o:Sh:=.pair r38 u1n
abbrev p6w:Sh:=.agg o3n
abbrev p96:Sh:=.tr false o1k
abbrev q2d:Sh:=.box (.pair p96 t9e)
abbrev o2w:Sh:=.agg (.pair o2s p91)
abbrev o5h:Sh:=.pair r8l (.pair (.box p82) (.pair (.own true u2f) u1n))
abbrev o2x:Sh:=.clo 280 (.rbox .str)
abbrev o1o:Sh:=.pair u1n t9e
abbrev o1p:Sh:=.pair r7c r7c
abbrev o3q:Sh:=.pair p4m (.pair p4m u1n)
abbrev o3r:Sh:=.pair r9n (.pair r9n u1n)
abbrev o1q:Sh:=.pair t7c o2t
abbrev p85:Sh:=.int .u32
abbrev p8m:Sh:=.box o3n
abbrev o5f:Sh:=.pair r0m (.pair p8m (.pair (.tr true .str) (.pair u1n (.pair .str (.pair p4k u1n)))))
abbrev o1r:Sh:=.tr false o50
abbrev o3s:Sh:=.pair t7c (.clo 282 r7b)
abbrev o3t:Sh:=.pair t7c (.clo 385 r7b)
abbrev o3u:Sh:=.pair t7c (.clo 386 r7b)
abbrev o3v:Sh:=.pair t7c (.clo 283 r7b)
abbrev o3w:Sh:=.pair t7c (.clo 285 r7b)
abbrev o3x:Sh:=.pair t7c (.clo 272 r7b)
abbrev o3y:Sh:=.pair t7c (.clo 275 o3o)
abbrev o3z:Sh:=.pair (.tr true .str) u1n
abbrev o1s:Sh:=.pair .bool u1n
abbrev p92:Sh:=.pair .str (.pair .str o1s)
abbrev p97:Sh:=.box o2s
abbrev o2y:Sh:=.pair p6v u1n
abbrev o2z:Sh:=.pair q97 t7c
abbrev o20:Sh:=.pair q97 .str
abbrev o23:Sh:=.pair u1n o2t
abbrev o5i:Sh:=.pair p0h (.pair p0e (.pair p0h t9e))
abbrev o1t:Sh:=.pair q7k u1n
abbrev o5g:Sh:=.pair r8l (.pair u1n (.pair p81 (.pair u1n (.pair (.box p92) o1t))))
abbrev o24:Sh:=.pair r9n r9n
abbrev o5j:Sh:=.pair r8m (.pair r9n (.pair r9n p0h))
abbrev o5k:Sh:=.pair q99 (.pair (.own true o1l) u1n)
abbrev o5l:Sh:=.pair q99 (.pair (.tr true o1l) u1n)
abbrev o1u:Sh:=.tr false .str
abbrev o2r:Sh:=.pair o1u (.tr false p4o)
abbrev q98:Sh:=.agg o2r
abbrev p8l:Sh:=.box o2r
abbrev o21:Sh:=.pair q98 u1n
abbrev o22:Sh:=.pair q98 o0m
def p9p:Nat→Sig
 | 15=>zS p96 .bool
 | 106=>zS r7c (.agg p90)
 | 241=>zS t7c r38
 | 104=>zS q97 p20
 | 108=>zS p4j p6v
 | 188=>zS o1o .bool
 | 191=>zS .str .bool
 | 110=>zS (.agg p82) .bool
 | 243=>zS r8l .bool
 | 316=>zS p6w .bool
 | 189=>zS r7c .bool
 | 197=>zS r0m .bool
 | 69=>zS q97 .bool
 | 109=>zS p4j .bool
 | 24=>zS p4j (.pair p6v t9e) 3
 | 95=>zS p96 q2d
 | 270=>zS q2d (.pair u1n q2d) 1 [true]
 | 140=>zS (.pair q2d u1n) (.pair u1n q2d) 1 [true,false]
 | 223=>zS .unit p20
 | 348=>zS .unit p6v
 | 330=>zS .unit u1n
 | 394=>zS (.pair u1n (.int .u8)) .str
 | 464=>zS .unit .str
 | 418=>zS u1n p4u 2
 | 349=>zS .unit (.agg p91)
 | 230=>zS .unit o2w
 | 49=>zS p8k u1n
 | 242=>zS (.pair r8l (.agg p82)) (.own true u2f)
 | 111=>zS (.pair r7c (.agg p82)) (.pair (.agg p90) .bool) 2
 | 25=>zS (.pair p4j (.pair u1n (.agg p82))) o2y 2
 | 337=>zS q98 (.agg p91)
 | 225=>zS (.agg (.pair (.pair p9z t7c) o2r)) o2w
 | 313=>zS u1n .str
 | 315=>zS p0g (.pair u1n p83) 3
 | 310=>zS p0g (.pair .str p83) 3
 | 180=>zS p0e (.pair .str p0e) 1 [true]
 | 181=>zS p0e (.pair .bool p0e) 1 [true]
 | 186=>zS p0e (.pair u1n p0e) 1 [true]
 | 182=>zS p0g (.pair (.agg p90) p83) 3
 | 187=>zS (.pair p0e u1n) (.pair r38 p0e) 1 [true,false]
 | 65=>zS p0g (.pair p20 p83) 3
 | 190=>zS r7c .bool
 | 192=>zS q97 .bool
 | 66=>zS o1m .bool
 | 307=>zS p85 .str
 | 392=>zS (.pair p85 .str) p85
 | 308=>zS .str p85
 | 178=>zS .str p0f 2
 | 304=>zS .str .str
 | 305=>zS .bool .str
 | 306=>zS r7c p0f 2
 | 314=>zS t7c .str
 | 185=>zS q97 p0f 2
 | 176=>zS o1m p0f 2
 | 177=>zS .str p0f 2
 | 60=>zS .str (.pair (.agg o2u) .bool) 2
 | 105=>zS o2z u1n
 | 113=>zS (.pair r0m p0g) u1n
 | 107=>zS (.pair r0m u1n) q7k
 | 21=>zS o2z p20
 | 287=>zS o1p .bool
 | 281=>zS (.pair p6w .str) .bool
 | 288=>zS (.pair p4l r8l) .bool
 | 162=>zS o1p .bool
 | 161=>zS p6u .bool
 | 379=>zS (.pair r0m p93) q7k
 | 318=>zS (.pair q97 r7c) p20
 | 319=>zS o20 u1n
 | 320=>zS (.pair q97 (.pair r7c .str)) p20
 | 321=>zS o20 p20
 | 201=>zS (.pair q97 o1m) (.pair q97 .bool) 2
 | 73=>zS (.pair q97 o1m) (.pair p20 .bool) 2
 | 417=>zS o21 p0f 2
 | 344=>zS (.pair q98 t9e) p0f 2
 | 345=>zS u1n u1n
 | 347=>zS o21 u1n
 | 346=>zS o21 u1n
 | 227=>zS o21 (.pair p4k p83) 3
 | 228=>zS q98 u1n
 | 91=>zS q98 p4k
 | 88=>zS q98 (.pair p20 .bool) 2
 | 329=>zS q98 .bool
 | 212=>zS q98 .bool
 | 413=>zS q98 (.agg p91)
 | 414=>zS o22 p4u 2
 | 411=>zS (.pair q98 (.pair u1n o0m)) p4u 2
 | 412=>zS u1n .str
 | 432=>zS (.pair q98 t9e) p4u 2
 | 430=>zS o22 p4u 2
 | 463=>zS o22 p4u 2
 | 415=>zS (.pair q98 o1u) p4u 2
 | 416=>zS q98 p4u 2
 | 343=>zS (.pair q98 o1u) p4u 2
 | 226=>zS q98 p4u 2
 | 90=>zS (.agg (.pair (.pair p9z t7c) o2r)) (.pair o2w .bool) 2
 | 245=>zS (.pair q2d o1u) (.pair .str q2d) 1 [true,false]
 | 247=>zS (.pair q2d u1n) (.pair .bool q2d) 1 [true,false]
 | 351=>zS q2d (.pair .str q2d) 1 [true]
 | 322=>zS q2d (.pair (.agg p82) q2d) 1 [true]
 | 419=>zS (.pair r7c p6w) (.pair (.agg p90) .bool) 2
 | 27=>zS (.pair r0m p0g) p0f 2
 | 420=>zS (.pair r7c (.pair r0m .str)) p0f 2
 | 350=>zS (.pair p4j o0m) (.pair p6v (.pair .str o1s)) 4
 | 153=>zS (.pair r0m p6w) p4k
 | 421=>zS (.pair r7c (.pair r0m p6w)) p84
 | 352=>zS (.pair p4j (.pair u1n p6w)) (.pair p6v (.pair p84 u1n)) 3
 | 353=>zS q2d (.pair p6w q2d) 1 [true]
 | 424=>zS (.pair p97 u1n) p97 0 [true,false]
 | 159=>zS (.pair r8l r8l) .bool
 | 53=>zS p6u .bool
 | 160=>zS p6u .bool
 | 54=>zS p6u .bool
 | 406=>zS q97 .bool
 | 467=>zS q97 o1n
 | 465=>zS p8k u1n
 | 422=>zS p8k o0l 3
 | 469=>zS o22 p4u 2
 | 429=>zS (.pair q98 .str) p4u 2
 | 423=>zS (.pair p2z o1m) (.pair .bool p2z) 1 [true,false]
 | 354=>zS (.pair p2z u1n) (.pair u1n p2z) 1 [true,false]
 | 466=>zS p6u .bool
 | 425=>zS (.pair p4j o0m) o0l 3
 | 355=>zS (.pair p2z o0m) (.pair u1n p2z) 1 [true,false,false]
 | 339=>zS (.pair p4j p0f) o0l 3
 | 356=>zS (.pair p2z p0f) (.pair u1n p2z) 1 [true,false,false]
 | 357=>zS p8k o2y 2
 | 231=>zS (.pair q2d p2z) (.pair q2d p2z) 0 [true,true]
 | 94=>zS (.pair q2d u1n) (.pair o2w q2d) 1 [true,false]
 | 139=>zS q2d (.pair p6v q2d) 1 [true]
 | 40=>zS p96 o2y 2
 | 149=>zS (.pair r7c (.rbox .str)) .bool
 | 10010=>zS (.pair t7c (.clo 149 (.rbox .str))) u1n
 | 42=>zS o20 u1n
 | 156=>zS (.pair r7c p4n) .bool
 | 10013=>zS (.pair t7c (.clo 156 p4n)) u1n
 | 50=>zS p8k u1n
 | 290=>zS (.pair .nil u1n) r38
 | 164=>zS o1r o1n
 | 144=>zS p4j o1n
 | 151=>zS q97 .bool
 | 125=>zS r7c .bool
 | 195=>zS r7c .bool
 | 253=>zS (.pair r8l r8l) .bool
 | 282=>zS p94 .bool
 | 10028=>zS o3s u1n
 | 10027=>zS o3s .bool
 | 10026=>zS o3s .bool
 | 154=>zS p6u .bool
 | 258=>zS (.pair p6w .str) .bool
 | 252=>zS (.pair p4l r8l) .bool
 | 442=>zS o1p .bool
 | 384=>zS o1p .bool
 | 273=>zS o1p .bool
 | 385=>zS p94 .bool
 | 10016=>zS o3t u1n
 | 10015=>zS o3t .bool
 | 10014=>zS o3t .bool
 | 274=>zS p6u .bool
 | 386=>zS p94 .bool
 | 10005=>zS o3u u1n
 | 10004=>zS o3u .bool
 | 10003=>zS o3u .bool
 | 278=>zS p6u .bool
 | 283=>zS p94 .bool
 | 10019=>zS o3v u1n
 | 10018=>zS o3v .bool
 | 10017=>zS o3v .bool
 | 285=>zS p94 .bool
 | 10025=>zS o3w u1n
 | 10024=>zS o3w .bool
 | 10023=>zS o3w .bool
 | 284=>zS (.pair r7c (.pair r7b (.rbox t7c))) .bool
 | 10022=>zS (.pair t7c o2v) u1n
 | 10021=>zS (.pair t7c o2v) .bool
 | 10020=>zS (.pair t7c o2v) .bool
 | 155=>zS p6u .bool
 | 48=>zS p8k u1n
 | 147=>zS r7c (.agg p90)
 | 271=>zS t7c r38
 | 200=>zS q97 p20
 | 235=>zS o2z u1n
 | 363=>zS (.pair r0m p0g) u1n
 | 364=>zS (.pair .str (.rbox r0m)) u1n
 | 238=>zS (.pair r0m u1n) q7k
 | 237=>zS (.pair r7c p4n) .bool
 | 10001=>zS (.pair t7c (.clo 237 p4n)) u1n
 | 10000=>zS (.pair r38 (.clo 237 p4n)) r38
 | 100=>zS o2z p20
 | 141=>zS p4j p6v
 | 277=>zS (.pair r7c p4n) .bool
 | 10012=>zS (.pair t7c (.clo 277 p4n)) u1n
 | 10011=>zS (.pair r38 (.clo 277 p4n)) r38
 | 145=>zS p8k p6v
 | 77=>zS p8k o2y 2
 | 205=>zS o1o .bool
 | 142=>zS .str .bool
 | 272=>zS p94 .bool
 | 10031=>zS o3x u1n
 | 10030=>zS o3x .bool
 | 10029=>zS o3x .bool
 | 276=>zS (.pair r7c (.pair r7b r7b)) .bool
 | 10037=>zS o3p u1n
 | 10036=>zS o3p .bool
 | 10035=>zS o3p .bool
 | 275=>zS (.pair r7c o3o) .bool
 | 10034=>zS o3y u1n
 | 10033=>zS o3y .bool
 | 10032=>zS o3y .bool
 | 143=>zS p6u .bool
 | 146=>zS (.pair q97 (.pair r7c .str)) p20
 | 41=>zS (.pair p4j o0m) o0l 3
 | 257=>zS (.pair q7k (.pair u1n q7k)) q7k
 | 433=>zS .str .bool
 | 372=>zS o3n u1n
 | 434=>zS u1n .bool
 | 373=>zS t9e u1n
 | 256=>zS (.pair (.agg p92) (.agg p92)) u1n
 | 255=>zS (.pair (.agg p92) (.rbox p92)) .bool
 | 10002=>zS (.pair r0m (.clo 255 (.rbox p92))) u1n
 | 120=>zS (.pair r0m p93) q7k
 | 279=>zS p94 .bool
 | 10007=>zS (.pair t7c (.clo 279 r7b)) u1n
 | 10006=>zS (.pair r38 (.clo 279 r7b)) r38
 | 150=>zS (.pair q97 r7c) p20
 | 43=>zS p8k o0l 3
 | 280=>zS (.pair r7c (.rbox .str)) .bool
 | 10009=>zS (.pair t7c o2x) u1n
 | 10008=>zS (.pair r38 o2x) r38
 | 152=>zS o20 p20
 | 44=>zS (.pair p4j p0f) o0l 3
 | 45=>zS (.pair p4l p4l) .bool
 | 46=>zS (.pair r0m (.pair p6w u1n)) p84
 | 47=>zS .unit p6w
 | 6=>zS p96 .bool
 | _=>zS .unit .unit 0
def o01:Nat→Nat→Option Join
 | 188,3=>some ⟨[6],.bool,[]⟩
 | 191,9=>some ⟨[19],.bool,[]⟩
 | 110,3=>some ⟨[2],.bool,[]⟩
 | 243,9=>some ⟨[33],.bool,[]⟩
 | 316,3=>some ⟨[2],.bool,[]⟩
 | 189,3=>some ⟨[31],.bool,[]⟩
 | 189,17=>some ⟨[67],.bool,[]⟩
 | 189,21=>some ⟨[86],.bool,[]⟩
 | 189,25=>some ⟨[2],.bool,[]⟩
 | 197,11=>some ⟨[39],.bool,[]⟩
 | 197,15=>some ⟨[74],.bool,[]⟩
 | 69,3=>some ⟨[38],.bool,[]⟩
 | 69,27=>some ⟨[98],.bool,[]⟩
 | 69,41=>some ⟨[146],.bool,[]⟩
 | 109,3=>some ⟨[16],.bool,[]⟩
 | 109,15=>some ⟨[68],.bool,[]⟩
 | 24,5=>some ⟨[23],.bool,[]⟩
 | 95,7=>some ⟨[15],.bool,[]⟩
 | 111,5=>some ⟨[21],.bool,[]⟩
 | 315,13=>some ⟨[25],.bool,[]⟩
 | 315,23=>some ⟨[54],.bool,[]⟩
 | 310,5=>some ⟨[30],.bool,[]⟩
 | 180,5=>some ⟨[26],.bool,[]⟩
 | 181,3=>some ⟨[30],.bool,[]⟩
 | 186,5=>some ⟨[26],.bool,[]⟩
 | 182,17=>some ⟨[46],.bool,[]⟩
 | 182,31=>some ⟨[76],.bool,[]⟩
 | 182,47=>some ⟨[108],.bool,[]⟩
 | 187,9=>some ⟨[28],.bool,[]⟩
 | 65,13=>some ⟨[37],.bool,[]⟩
 | 65,31=>some ⟨[72],.bool,[]⟩
 | 190,3=>some ⟨[2],.bool,[]⟩
 | 192,3=>some ⟨[2],.bool,[]⟩
 | 66,7=>some ⟨[3],.bool,[]⟩
 | 66,9=>some ⟨[54],.bool,[]⟩
 | 66,13=>some ⟨[77],.bool,[]⟩
 | 177,5=>some ⟨[24],.bool,[]⟩
 | 60,5=>some ⟨[20],.bool,[]⟩
 | 60,29=>some ⟨[66],.bool,[]⟩
 | 113,11=>some ⟨[47],.bool,[]⟩
 | 107,13=>some ⟨[38],.bool,[]⟩
 | 107,37=>some ⟨[90],.bool,[]⟩
 | 287,7=>some ⟨[31],.bool,[]⟩
 | 281,3=>some ⟨[4],.bool,[]⟩
 | 162,3=>some ⟨[4],.bool,[]⟩
 | 161,9=>some ⟨[25],.bool,[]⟩
 | 379,17=>some ⟨[72],.bool,[]⟩
 | 201,15=>some ⟨[36],.bool,[]⟩
 | 73,3=>some ⟨[16],.bool,[]⟩
 | 344,15=>some ⟨[28],.bool,[]⟩
 | 347,5=>some ⟨[18],.bool,[]⟩
 | 227,27=>some ⟨[52],.bool,[]⟩
 | 88,17=>some ⟨[39],.bool,[]⟩
 | 329,3=>some ⟨[15],.bool,[]⟩
 | 329,23=>some ⟨[58],.bool,[]⟩
 | 212,3=>some ⟨[24],.bool,[]⟩
 | 212,11=>some ⟨[2],.bool,[]⟩
 | 414,5=>some ⟨[33],.bool,[]⟩
 | 411,5=>some ⟨[37],.bool,[]⟩
 | 411,25=>some ⟨[77],.bool,[]⟩
 | 430,5=>some ⟨[35],.bool,[]⟩
 | 415,11=>some ⟨[27],.bool,[]⟩
 | 226,7=>some ⟨[24],.bool,[]⟩
 | 419,5=>some ⟨[22],.bool,[]⟩
 | 27,5=>some ⟨[21],.bool,[]⟩
 | 53,11=>some ⟨[45],.bool,[]⟩
 | 160,9=>some ⟨[33],.bool,[]⟩
 | 54,3=>some ⟨[16],.bool,[]⟩
 | 54,15=>some ⟨[43],.bool,[]⟩
 | 54,19=>some ⟨[56],.bool,[]⟩
 | 54,25=>some ⟨[70],.bool,[]⟩
 | 54,31=>some ⟨[91],.bool,[]⟩
 | 406,3=>some ⟨[2],.bool,[]⟩
 | 469,3=>some ⟨[17],.bool,[]⟩
 | 466,17=>some ⟨[33],.bool,[]⟩
 | 466,29=>some ⟨[64],.bool,[]⟩
 | 425,21=>some ⟨[52],.bool,[]⟩
 | 425,25=>some ⟨[61],.bool,[]⟩
 | 339,11=>some ⟨[26],.bool,[]⟩
 | 231,15=>some ⟨[54],.bool,[]⟩
 | 151,3=>some ⟨[2],.bool,[]⟩
 | 282,3=>some ⟨[3],.bool,[]⟩
 | 258,3=>some ⟨[4],.bool,[]⟩
 | 442,3=>some ⟨[4],.bool,[]⟩
 | 273,3=>some ⟨[4],.bool,[]⟩
 | 385,3=>some ⟨[3],.bool,[]⟩
 | 386,3=>some ⟨[3],.bool,[]⟩
 | 283,3=>some ⟨[3],.bool,[]⟩
 | 285,3=>some ⟨[3],.bool,[]⟩
 | 284,3=>some ⟨[13],.bool,[]⟩
 | 155,3=>some ⟨[12],.bool,[]⟩
 | 363,11=>some ⟨[40],.bool,[]⟩
 | 238,11=>some ⟨[31],.bool,[]⟩
 | 205,3=>some ⟨[6],.bool,[]⟩
 | 142,9=>some ⟨[19],.bool,[]⟩
 | 272,3=>some ⟨[3],.bool,[]⟩
 | 276,3=>some ⟨[4],.bool,[]⟩
 | 41,19=>some ⟨[55],.bool,[]⟩
 | 41,23=>some ⟨[64],.bool,[]⟩
 | 44,13=>some ⟨[27],.bool,[]⟩
 | 6,13=>some ⟨[2],.bool,[]⟩
 | 6,33=>some ⟨[2],.bool,[]⟩
 | 6,35=>some ⟨[2],.bool,[]⟩
 | _,_=>none
abbrev s67:=zL [0,3,4] (.pair t7c o0o) 0 [3] r38 [] .unit
abbrev r25:=zL [0,3] p0g 0 [0] .str [2] .bool
abbrev s38:=zL [0,3] p93 0 [0] r8l [2] .bool
abbrev r29:=zL [1,3] o2t 0 [1] r8m [2] .bool
abbrev s0k:=zL [0,3] (.pair r0m u1n) 0 [0] r0m [2] .bool
abbrev s9l:=zL [1,3] (.pair q99 u1n) 0 [1] q99 [2] .bool
abbrev s6j:=zL [1,4,5] o5k 2 [1,4] (.pair q99 (.own true o1l)) [2] .bool
abbrev s6k:=zL [1,4,7] o5k 4 [1,4] (.pair q99 (.tr true o1l)) [2] .bool
abbrev s6l:=zL [1,4,9] o5l 6 [] .unit [2] .bool
abbrev s6m:=zL [1,4,9,10] (.pair q99 (.pair (.tr true o1l) t9e)) 8 [1,4,9] o5l [2] .bool
abbrev s3y:=zL [1,3] (.pair o0n u1n) 0 [] .unit [2] .bool
abbrev s1w:=zL [1,3,4,5] (.pair o0n o23) 2 [1,3,4] (.pair o0n (.pair u1n r8m)) [2] .bool
abbrev s1x:=zL [1,3,4,6] (.pair o0n o23) 4 [1,3] (.pair o0n u1n) [2] .bool
abbrev s9t:=zL [0,3,4] (.pair p96 t9e) 0 [0,3] (.pair p96 u1n) [] .unit
abbrev s63:=zL [0,1,5,6] (.pair u1n (.pair (.int .u8) (.pair (.own true o1k) u1n))) 0 [5] (.tr true o1k) [] .unit
abbrev s6p:=zL [0,2,4,5] (.pair u1n o3q) 0 [2,4] (.pair p4m p4m) [] .unit
abbrev s9p:=zL [1,2,5] (.pair u1n (.pair o0n u1n)) 0 [] .unit [4] u1n
abbrev s30:=zL [0,3,5,6] o5h 0 [0,3,5] (.pair r8l (.pair (.box p82) (.own true u2f))) [] .unit
abbrev s31:=zL [0,3,5,7] o5h 2 [5] (.own true u2f) [] .unit
abbrev s9u:=zL [0,3] (.pair u1n (.own true o1k)) 0 [0,3] (.pair u1n (.own true o1k)) [] .unit
abbrev s6v:=zL [0,1,7,8,9] (.pair .str (.pair u1n o1o)) 0 [] .unit [4,5,6] (.pair u1n p83)
abbrev s6u:=zL [4,7,8,9,10] o5i 0 [4,7,8] (.pair p0h (.pair p0e p0h)) [] .unit
abbrev s33:=zL [4,7,8,12,13] o5i 2 [4,7,8] (.pair p0h (.pair p0e p0h)) [] .unit
abbrev t9p:=zL [0,1,5,6,7] (.pair p0e (.pair u1n (.pair r38 t9e))) 0 [0,5] (.pair p0e r38) [0,4] (.pair p0e r38)
abbrev s32:=zL [4,7,8,9,10] (.pair r9n (.pair p0e (.pair r9n t9e))) 0 [4,7,8] (.pair r9n (.pair p0e r9n)) [] .unit
abbrev s6x:=zL [0,1,5] (.pair p85 p0g) 0 [0] p85 [] .unit
abbrev s6y:=zL [0,1,5,6] (.pair p85 (.pair .str t9e)) 2 [0,1,5] (.pair p85 p0g) [] .unit
abbrev s62:=zL [1,4,5] (.pair r8m p0g) 0 [1,4] (.pair r8m .str) [] .unit
abbrev s37:=zL [1,4,6] (.pair r8m p0g) 2 [1,4] (.pair r8m .str) [] .unit
abbrev s68:=zL [0,3,4] (.pair t7c p0g) 0 [3] .str [] .unit
abbrev s3x:=zL [1,4,5] (.pair q99 p0g) 0 [1,4] (.pair q99 .str) [] .unit
abbrev s3z:=zL [1,5,6] (.pair t7c t9e) 0 [5] u1n [] .unit
abbrev r3a:=zL [0,1,2,7,8] (.pair r0m (.pair .str o1o)) 0 [7] u1n [] .unit
abbrev s61:=zL [0,1,5,6] (.pair r0m (.pair u1n o1t)) 0 [1,5] (.pair u1n p81) [] .unit
abbrev s35:=zL [1,5,8,9] (.pair u1n (.pair p81 o1t)) 2 [8] q7k [] .unit
abbrev s36:=zL [1,5,8,9,10,11] (.pair u1n (.pair p81 (.pair q7k o1o))) 4 [1,5,8,9,10] (.pair u1n (.pair p81 (.pair q7k t9e))) [] .unit
abbrev s9s:=zL [2,4,5,6,7] (.pair q99 (.pair r9n (.pair r9n t9e))) 0 [2,4,5,6] (.pair q99 o3r) [] .unit
abbrev s6z:=zL [0,1,5] (.pair p4l p93) 0 [] .unit [4] .bool
abbrev s60:=zL [0,1,5,6] (.pair p4l p95) 2 [0,1,5] (.pair p4l p93) [4] .bool
abbrev r28:=zL [1,2,5] o1q 0 [] .unit [4] .bool
abbrev t9m:=zL [1,2,7,8] (.pair r8l (.pair u1n o1t)) 0 [7] q7k [] .unit
abbrev t9n:=zL [1,2,7,8,9,10,11] o5g 2 [1,2,7,8,9,10,11] o5g [] .unit
abbrev s34:=zL [2,3,4,5,6,7] (.pair q99 (.pair r8m (.pair r9n (.pair r9n (.pair (.box (.pair u1n (.pair u1n (.pair u1n (.pair u1n (.pair (.tr true q5p) (.pair (.tr true u2f) (.pair .bool .str)))))))) u1n))))) 0 [3,4,5] (.pair r8m o24) [] .unit
abbrev s6w:=zL [1,2,5] (.pair .str (.pair q99 u1n)) 0 [] .unit [4] u1n
abbrev s1z:=zL [2,3,4,6,7,8,9] (.pair .str (.pair q99 (.pair r8m (.pair r9n (.pair r9n (.pair p0h u1n)))))) 0 [2,3,4,6,7,8] (.pair .str (.pair q99 o5j)) [] .unit
abbrev s0h:=zL [2,3,4,6,7,10] (.pair .str (.pair q99 (.pair r8m o3r))) 2 [4,6,7] (.pair r8m o24) [] .unit
abbrev s6q:=zL [1,2,4,5,6] (.pair .str (.pair q99 o3r)) 0 [4,5] o24 [] .unit
abbrev s0i:=zL [1,2,6] (.pair u1n (.pair p8l u1n)) 0 [1,2] (.pair u1n p8l) [4,5] p0f
abbrev s0j:=zL [1,2,3,8,9] (.pair u1n (.pair u1n (.pair p8l p0g))) 0 [8] .str [6,7] p0f
abbrev s10:=zL [1,2,7,8,10,11,12] (.pair u1n (.pair p8l (.pair p4k (.pair .str (.pair p4k t9e))))) 0 [10,11] (.pair p4k u1n) [4,5,6] (.pair p4k p83)
abbrev s6t:=zL [2,4,5,6] (.pair r9n (.pair r9n o3z)) 0 [2,4] o24 [2,3] (.pair r9n .bool)
abbrev s9n:=zL [1,3] (.pair p8l u1n) 0 [1] p8l [2] .bool
abbrev s9o:=zL [1,4] (.pair p8l u1n) 2 [] .unit [2] .bool
abbrev s1y:=zL [1,2,3,4] (.pair p8l o3q) 0 [2,3] (.pair p4m p4m) [] .unit
abbrev s0l:=zL [1,2,3,4,8,10,11] (.pair u1n (.pair u1n (.pair .str (.pair p8l o3q)))) 0 [8,10] (.pair p4m p4m) [8,9] (.pair p4m .bool)
abbrev s64:=zL [1,4,6,7,8,9] (.pair o1u (.pair p4m (.pair u1n (.pair p4m o1s)))) 0 [4,7,8] (.pair p4m (.pair p4m .bool)) [] .unit
abbrev s11:=zL [2,3,4,6,7] (.pair r8m (.pair p8m (.pair p0h (.pair p0h u1n)))) 0 [2,3,4,6] (.pair r8m (.pair p8m (.pair p0h p0h))) [4,5] (.pair p0h .bool)
abbrev s9q:=zL [1,2,3,8] (.pair r0m (.pair .str o2t)) 0 [1,2,3] (.pair r0m (.pair .str r8m)) [6,7] p0f
abbrev s65:=zL [0,3,5,6] (.pair r0m (.pair p8m (.pair p4k u1n))) 0 [5] p4k [] .unit
abbrev s66:=zL [0,3,5,6,7,8,9] o5f 2 [0,3,5,6,7,8] (.pair r0m (.pair p8m (.pair (.tr true .str) (.pair u1n (.pair .str p4k))))) [] .unit
abbrev s39:=zL [0,3,5,6,7,8,10] o5f 4 [0,3,6,8] (.pair r0m (.pair p8m (.pair u1n p4k))) [] .unit
abbrev s6r:=zL [1,3,5,7,8] (.pair r0m (.pair r8m (.pair p8m o1t))) 0 [1,3,5,7] (.pair r0m (.pair r8m (.pair p8m p81))) [] .unit
abbrev s6s:=zL [1,3,9,10,11] (.pair r0m (.pair r8m (.pair p84 o3z))) 2 [9] p84 [] .unit
abbrev s9v:=zL [0,1,4,5] (.pair p97 (.pair u1n o0o)) 0 [0,4] (.pair p97 r38) [] .unit
abbrev r26:=zL [0,1,5] (.pair r8l p93) 0 [] .unit [4] .bool
abbrev r27:=zL [0,1,5,6] (.pair r8l p95) 2 [0,1,5] (.pair r8l p93) [4] .bool
abbrev s6n:=zL [1,2,5] o1q 0 [] .unit [4] .bool
abbrev r5r:=zL [1,2,5] o1q 0 [] .unit [4] .bool
abbrev s9m:=zL [1,2,5] o1q 0 [] .unit [4] .bool
abbrev s6o:=zL [1,2,5,6,7] (.pair t7c (.pair r8m o23)) 2 [1,2,5] o1q [4] .bool
abbrev t9o:=zL [1,2,5,6] (.pair t7c (.pair r8m o1s)) 0 [] .unit [4] .bool
abbrev t8p:=zL [1,2,5,6,7,8] (.pair t7c (.pair r8m (.pair .bool o23))) 2 [1,2,5,6] (.pair t7c (.pair r8m o1s)) [4] .bool
abbrev s69:=zL [0,1,4,5,6] (.pair q2d (.pair u1n (.pair p2z (.pair p2z u1n)))) 0 [0,4,5] (.pair q2d (.pair p2z p2z)) [] .unit
abbrev u30:=zL [0,1,7,8] (.pair t7c (.pair (.clo 149 (.rbox .str)) t9e)) 0 [] .unit [4] u1n
abbrev u4k:=zL [0,1,7,8] (.pair t7c (.pair (.clo 156 p4n) t9e)) 0 [] .unit [4] u1n
abbrev t3r:=zL [0,3,9,10,11] (.pair o1r (.pair u1n (.pair o1r t9e))) 0 [0,3] (.pair o1r u1n) [] .unit
abbrev t2c:=zL [6,25,26,27] (.pair o1n (.pair o1r t9e)) 2 [6] o1n [] .unit
abbrev r23:=zL [1,9,10,11] (.pair r8l p95) 0 [] .unit [4] .bool
abbrev r24:=zL [1,6,9,10,11,15,16,17] (.pair r8l (.pair (.box p82) (.pair r8l (.pair u1n (.pair u1n p95))))) 2 [1,9,10,11] (.pair r8l p95) [4] .bool
abbrev u3y:=zL [0,1,7,8] (.pair t7c (.pair (.clo 282 r7b) t9e)) 0 [] .unit [4] u1n
abbrev s6g:=zL [1,9,10,11] (.pair r8l (.pair p4l t9e)) 0 [] .unit [4] .bool
abbrev s6h:=zL [1,6,9,10,11,15,16,17] (.pair r8l (.pair p8m (.pair p4l (.pair u1n (.pair u1n p95))))) 2 [1,9,10,11] (.pair r8l (.pair p4l t9e)) [4] .bool
abbrev u5d:=zL [0,1,7,8] (.pair t7c (.pair (.clo 385 r7b) t9e)) 0 [] .unit [4] u1n
abbrev u4y:=zL [0,1,7,8] (.pair t7c (.pair (.clo 386 r7b) t9e)) 0 [] .unit [4] u1n
abbrev u4i:=zL [0,1,7,8] (.pair t7c (.pair (.clo 283 r7b) t9e)) 0 [] .unit [4] u1n
abbrev u3i:=zL [0,1,7,8] (.pair t7c (.pair (.clo 285 r7b) t9e)) 0 [] .unit [4] u1n
abbrev u4j:=zL [0,1,7,8] (.pair t7c (.pair o2v t9e)) 0 [] .unit [4] u1n
abbrev s3w:=zL [3,6,7,8] (.pair r38 (.pair t7c t9e)) 0 [3] r38 [] .unit
abbrev s3u:=zL [5,10,11,12] (.pair u1n (.pair t7c t9e)) 0 [5] u1n [] .unit
abbrev s9k:=zL [0,1,2,7,10,11,12] (.pair r0m (.pair .str (.pair u1n (.pair u1n (.pair r0m t9e))))) 0 [7] u1n [] .unit
abbrev s1u:=zL [0,4,7,8,9] (.pair .str (.pair u1n (.pair r0m t9e))) 0 [4] u1n [] .unit
abbrev s6i:=zL [0,1,5,12,13,14] (.pair r0m (.pair u1n (.pair (.box q7k) (.pair r0m t9e)))) 0 [1,5] (.pair u1n (.box q7k)) [] .unit
abbrev s3v:=zL [1,8,9,38,39,40] (.pair u1n (.pair (.clo 364 (.rbox p81)) (.pair q7k (.pair p81 t9e)))) 2 [9] q7k [] .unit
abbrev u4l:=zL [0,1,7,8] (.pair t7c (.pair (.clo 237 p4n) t9e)) 0 [] .unit [4] u1n
abbrev u3x:=zL [0,1,5,6] (.pair r38 (.pair (.clo 237 p4n) t9e)) 0 [0,5] o0o [] .unit
abbrev u33:=zL [0,1,7,8] (.pair t7c (.pair (.clo 277 p4n) t9e)) 0 [] .unit [4] u1n
abbrev u3h:=zL [0,1,5,6] (.pair r38 (.pair (.clo 277 p4n) t9e)) 0 [0,5] o0o [] .unit
abbrev r22:=zL [0,3] p0g 0 [0] .str [2] .bool
abbrev u2s:=zL [0,1,7,8] (.pair t7c (.pair (.clo 272 r7b) t9e)) 0 [] .unit [4] u1n
abbrev u2h:=zL [0,1,7,8] (.pair t7c (.pair (.clo 276 (.pair r7b r7b)) t9e)) 0 [] .unit [4] u1n
abbrev u2t:=zL [0,1,7,8] (.pair t7c (.pair (.clo 275 o3o) t9e)) 0 [] .unit [4] u1n
abbrev s1t:LoopA:=⟨⟨[2,4,6,7,8,9,10,30,31,32],(.pair .str (.pair r8m (.pair r9n (.pair r9n (.pair p0h (.pair r38 (.pair r38 (.pair .skip t9e)))))))),[(30,7,2,u0a)]⟩,0,⟨[4,6,7,8,9,10],(.pair r8m (.pair r9n (.pair r9n (.pair p0h (.pair r38 (.tr true u0a)))))),[]⟩,⟨[],.unit,[]⟩⟩
abbrev u17:=zL [0,1,7,8] (.pair r0m (.pair (.clo 255 (.rbox p92)) t9e)) 0 [] .unit [4] u1n
abbrev t9l:=zL [2,7,14,15,16] (.pair u1n (.pair q7k p95)) 0 [7] q7k [] .unit
abbrev u31:=zL [0,1,7,8] (.pair t7c (.pair (.clo 279 r7b) t9e)) 0 [] .unit [4] u1n
abbrev u3g:=zL [0,1,5,6] (.pair r38 (.pair (.clo 279 r7b) t9e)) 0 [0,5] o0o [] .unit
abbrev s6f:LoopA:=⟨⟨[3,4,5,6,46,47,48],(.pair r8m (.pair r9n (.pair r9n (.pair p0h (.pair .skip t9e))))),[(46,5,2,u0a)]⟩,0,⟨[3,4,5,6],o5j,[]⟩,⟨[],.unit,[]⟩⟩
abbrev u3z:=zL [0,1,7,8] (.pair t7c (.pair o2x t9e)) 0 [] .unit [4] u1n
abbrev u3f:=zL [0,1,5,6] (.pair r38 (.pair o2x t9e)) 0 [0,5] o0o [] .unit
abbrev s1v:=zL [0,1,5] (.pair p4l (.pair p4l u1n)) 0 [] .unit [4] .bool
abbrev s9r:=zL [0,2,7,8,9] (.pair r0m (.pair u1n (.pair p84 o3z))) 0 [7] p84 [] .unit
abbrev s0g:=zL [3,4,5,6,8] (.pair p97 (.pair u1n (.pair p97 (.pair (.box o2u) u1n)))) 0 [5,6] (.pair p97 (.box o2u)) [] .unit
def o05:Nat→Nat→Option LoopA
 | 241,3=>some s67
 | 191,2=>some r25
 | 243,2=>some s38
 | 189,4=>some r29
 | 197,2=>some s0k
 | 69,4=>some s9l
 | 69,10=>some s6j
 | 69,17=>some s6k
 | 69,24=>some s6l
 | 69,27=>some s6m
 | 109,4=>some s3y
 | 109,10=>some s1w
 | 109,15=>some s1x
 | 95,3=>some s9t
 | 394,3=>some s63
 | 418,5=>some s6p
 | 49,2=>some s9p
 | 242,3=>some s30
 | 242,9=>some s31
 | 313,2=>some s9u
 | 315,6=>some s6v
 | 182,8=>some s6u
 | 182,15=>some s33
 | 187,4=>some t9p
 | 65,6=>some s32
 | 392,2=>some s6x
 | 392,6=>some s6y
 | 306,5=>some s62
 | 306,10=>some s37
 | 314,3=>some s68
 | 185,5=>some s3x
 | 105,3=>some s3z
 | 113,3=>some r3a
 | 107,3=>some s61
 | 107,10=>some s35
 | 107,14=>some s36
 | 21,5=>some s9s
 | 288,2=>some s6z
 | 288,5=>some s60
 | 161,2=>some r28
 | 379,3=>some t9m
 | 379,8=>some t9n
 | 318,12=>some s34
 | 319,2=>some s6w
 | 320,8=>some s1z
 | 320,14=>some s0h
 | 321,4=>some s6q
 | 417,4=>some s0i
 | 344,5=>some s0j
 | 227,10=>some s10
 | 88,4=>some s6t
 | 329,4=>some s9n
 | 329,9=>some s9o
 | 413,5=>some s1y
 | 411,5=>some s0l
 | 415,5=>some s64
 | 419,5=>some s11
 | 420,2=>some s9q
 | 153,3=>some s65
 | 153,9=>some s66
 | 153,15=>some s39
 | 421,3=>some s6r
 | 421,9=>some s6s
 | 424,2=>some s9v
 | 159,2=>some r26
 | 159,5=>some r27
 | 53,2=>some s6n
 | 160,2=>some r5r
 | 54,4=>some s9m
 | 54,12=>some s6o
 | 466,5=>some t9o
 | 466,12=>some t8p
 | 94,3=>some s69
 | 10010,2=>some u30
 | 10013,2=>some u4k
 | 164,3=>some t3r
 | 164,11=>some t2c
 | 253,2=>some r23
 | 253,5=>some r24
 | 10028,2=>some u3y
 | 252,2=>some s6g
 | 252,5=>some s6h
 | 10016,2=>some u5d
 | 10005,2=>some u4y
 | 10019,2=>some u4i
 | 10025,2=>some u3i
 | 10022,2=>some u4j
 | 271,3=>some s3w
 | 235,3=>some s3u
 | 363,3=>some s9k
 | 364,3=>some s1u
 | 238,3=>some s6i
 | 238,11=>some s3v
 | 10001,2=>some u4l
 | 10000,5=>some u3x
 | 10012,2=>some u33
 | 10011,5=>some u3h
 | 142,2=>some r22
 | 10031,2=>some u2s
 | 10037,2=>some u2h
 | 10034,2=>some u2t
 | 146,6=>some s1t
 | 10002,2=>some u17
 | 120,3=>some t9l
 | 10007,2=>some u31
 | 10006,5=>some u3g
 | 150,9=>some s6f
 | 10009,2=>some u3z
 | 10008,5=>some u3f
 | 45,4=>some s1v
 | 46,4=>some s9r
 | 6,8=>some s0g
 | _,_=>none
def o5x:Nat→Nat
 | 10000=>236
 | 10001=>148
 | 10002=>254
 | 10003=>127
 | 10004=>261
 | 10005=>148
 | 10006=>236
 | 10007=>148
 | 10008=>236
 | 10009=>148
 | 10010=>148
 | 10011=>236
 | 10012=>148
 | 10013=>148
 | 10014=>127
 | 10015=>261
 | 10016=>148
 | 10017=>127
 | 10018=>261
 | 10019=>148
 | 10020=>127
 | 10021=>261
 | 10022=>148
 | 10023=>127
 | 10024=>261
 | 10025=>148
 | 10026=>127
 | 10027=>261
 | 10028=>148
 | 10029=>127
 | 10030=>261
 | 10031=>148
 | 10032=>127
 | 10033=>261
 | 10034=>148
 | 10035=>127
 | 10036=>261
 | 10037=>148
 | f=>f
def o1b:Nat→List Nat→Nat
 | 236, [237] =>10000
 | 148, [237] =>10001
 | 254, [255] =>10002
 | 127, [386] =>10003
 | 261, [386] =>10004
 | 148, [386] =>10005
 | 236, [279] =>10006
 | 148, [279] =>10007
 | 236, [280] =>10008
 | 148, [280] =>10009
 | 148, [149] =>10010
 | 236, [277] =>10011
 | 148, [277] =>10012
 | 148, [156] =>10013
 | 127, [385] =>10014
 | 261, [385] =>10015
 | 148, [385] =>10016
 | 127, [283] =>10017
 | 261, [283] =>10018
 | 148, [283] =>10019
 | 127, [284] =>10020
 | 261, [284] =>10021
 | 148, [284] =>10022
 | 127, [285] =>10023
 | 261, [285] =>10024
 | 148, [285] =>10025
 | 127, [282] =>10026
 | 261, [282] =>10027
 | 148, [282] =>10028
 | 127, [272] =>10029
 | 261, [272] =>10030
 | 148, [272] =>10031
 | 127, [275] =>10032
 | 261, [275] =>10033
 | 148, [275] =>10034
 | 127, [276] =>10035
 | 261, [276] =>10036
 | 148, [276] =>10037
 | f,_=>f
def p50:(f:Nat)→Option ((p9p f).ins.den→Option (p9p f).out.den)
 | 257=>some (y2q u0i)
 | _=>none
def p8t:Plan:= {sig:=p9p,join:=o01,loop:=o05,fn:=o5x,pick:=o1b,prim:=p50,gd:=y8a}
def A:Ann:=ann o5d p8t
set_option maxRecDepth 100000
abbrev r57:Type:=(List u0a.den)
abbrev q7n:Type:=(List u0i.den)
abbrev r8j:Type:=(ByteArray×Bool)
abbrev s8a:Type:=(Unit⊕Int)
abbrev r8k:Type:=(Unit⊕Bool)
abbrev p0d:Type:=(ByteArray×Int)
abbrev p4r:Type:=(List ByteArray)
abbrev p4s:Type:=(List q5p.den)
abbrev p6t:Type:=(List u2f.den)
abbrev p4t:Type:=(Int⊕Unit)
abbrev q7j:Type:=(List Int)
abbrev o0h:Type:=(ByteArray×ByteArray)
abbrev p8z:Type:=(q7n⊕Unit)
abbrev p80:Type:=(p3d⊕Unit)
abbrev p6n:Type:=(Int×Int)
abbrev q39:Type:=(q7j×p6n)
abbrev p8j:Type:=(Int×Bool)
abbrev p2y:Type:=(ByteArray×p8j)
abbrev o2n:Type:=((Int×q7n)⊕Unit)
abbrev o0i:Type:=(r57⊕Unit)
abbrev o2o:Type:=(ByteArray⊕Bool)
abbrev o0j:Type:=(q7n×Int)
abbrev o0k:Type:=(q39×Int)
abbrev zLv:=y5x Tryz.prog A
abbrev zK (f:Nat) (x:(A.sig f).ins.den):=zLv.call f x
theorem zC (f:Nat) {fn:Func} {X:(A.sig f).ins.den→Option (A.sig f).out.den} (hp:A.prim f=none) (hf:Tryz.prog.funcs[A.fn f]? =some fn) (hb:z7s A zLv lpW f fn=X):zK f=X:=funext (y7p hp hf (congrFun hb))
theorem zW (l:LoopA) (f:Nat) (fn:Func) (r n:Nat) {S:(l.head.sh.den→Option (l.out.sh.den⊕l.ret.sh.den))→l.head.sh.den→Option (l.out.sh.den⊕l.ret.sh.den)} (x:l.head.sh.den) (h:S=z7n A zLv lpW f (y7w fn r) l n):lpW _ _ S x=S (lpW _ _ S) x:=y7x h x
def q4y(x:q7j):Option Bool:=zK 15 x
def q4i (x:q7j):Option Bool:=(some (decide ((x.length:Int) >(1048576:Int))))
theorem p3l:q4y=q4i:=zC 15 rfl Tryz.func15 (by kernel_rfl)
def u05(x:t3v):Option t3v:=zK 106 x
def r2l (x:t3v):Option t3v:=(bif (Nat.ble (([] :List q5p.den).length+x.2.2.2.2.1.length) z7w) then(bif (Nat.ble (([] :List u2f.den).length+x.2.2.2.2.2.1.length) z7w) then(some (x.1,(x.2.1,(x.2.2.1,(x.2.2.2.1,((([] :List q5p.den)++x.2.2.2.2.1),((([] :List u2f.den)++x.2.2.2.2.2.1),x.2.2.2.2.2.2))))))) else none) else none)
theorem q3o:u05=r2l:=zC 106 rfl Tryz.func106 (by kernel_rfl)
def t4c(x:r57):Option r57:=zK 241 x
def t41(g:o4b→Option o0i)(x:o4b):Option o0i:=(bif (decide (x.2.2<(x.1.length:Int))) then(bif (y4q x.2.2 x.1.length) then((u05 (rdL u0a x.1 (x.2.2).toNat)).bind fun y1=>(bif (Nat.ble (x.2.1.length+([y1] :List u0a.den).length) z7w) then(g (x.1,((x.2.1++([y1] :List u0a.den)),(IntKind.i64.wrap (x.2.2+1))))) else none)) else none) else(some (.inl x.2.1)))
def t5a:=lpW _ _ t41
theorem s7z x:t5a x=t41 t5a x:=zW s67 241 Tryz.f241 3 21 x (by kernel_rfl)
def r2n (x:r57):Option r57:=((t5a (x,(([] :List u0a.den),0))).bind fun r2=>match r2 with | .inl o3=>(some o3) | .inr z4=>none)
theorem q3q:t4c=r2n:=zC 241 rfl Tryz.func241 (by kernel_rfl)
def u2z(x:Z99):Option Z99:=zK 104 x
def r2m (x:Z99):Option Z99:=(bif (Nat.ble (([] :List u0i.den).length+x.1.length) z7w) then((t4c x.2.1).bind fun y1=>((t4c x.2.2.1).bind fun y2=>(some ((([] :List u0i.den)++x.1),(y1,(y2,x.2.2.2)))))) else none)
theorem q3p:u2z=r2m:=zC 104 rfl Tryz.func104 (by kernel_rfl)
def u0l(x:Z71):Option Z71:=zK 108 x
def r2q (x:Z71):Option Z71:=((u2z x.1).bind fun y1=>((t4c x.2).bind fun y2=>(some (y1,y2))))
theorem q3t:u0l=r2q:=zC 108 rfl Tryz.func108 (by kernel_rfl)
def u0n(x:(Int×p6n)):Option Bool:=zK 188 x
def r7z (x:(Int×p6n)):Option Bool:=(((bif (decide (x.1≥x.2.1)) then(some (decide (x.1≤x.2.2))) else(some false)):Option Bool).bind fun j1=>(some j1))
theorem q8z:u0n=r7z:=zC 188 rfl Tryz.func188 (by kernel_rfl)
def u6l(x:ByteArray):Option Bool:=zK 191 x
def t7t(g:p0d→Option o2o)(x:p0d):Option o2o:=(bif (decide (x.2<(x.1.size:Int))) then(((bif (y4q x.2 x.1.size) then(bif (decide (((x.1.data.toList.getD (x.2).toNat 0).toNat:Int)<(97:Int))) then(some true) else(bif (y4q x.2 x.1.size) then(some (decide (((x.1.data.toList.getD (x.2).toNat 0).toNat:Int) >(122:Int)))) else none)) else none):Option Bool).bind fun j1=>(bif j1 then(some (.inr false)) else(g (x.1,(IntKind.i64.wrap (x.2+1)))))) else(some (.inl x.1)))
def t71:=lpW _ _ t7t
theorem r3k x:t71 x=t7t t71 x:=zW r25 191 Tryz.f191 2 23 x (by kernel_rfl)
def r7t (x:ByteArray):Option Bool:=((t71 (x,0)).bind fun r2=>match r2 with | .inl o3=>((u0n ((o3.size:Int),(1,3))).bind fun y4=>(some y4)) | .inr z5=>(some z5))
theorem q8t:u6l=r7t:=zC 191 rfl Tryz.func191 (by kernel_rfl)
def t4a(x:(ByteArray×r8j)):Option Bool:=zK 110 x
def r19 (x:(ByteArray×r8j)):Option Bool:=((((u6l x.1).bind fun y1=>(bif y1 then(bif (decide ((x.2.1.size:Int)≤(12:Int))) then(bif (!x.2.2) then(some true) else(some (z7o x.2.1 (⟨#[]⟩:ByteArray)))) else(some false)) else(some false))):Option Bool).bind fun j2=>(some j2))
theorem q3d:t4a=r19:=zC 110 rfl Tryz.func110 (by kernel_rfl)
def t6y(x:p6t):Option Bool:=zK 243 x
def t25(g:(p6t×Int)→Option (p6t⊕Bool))(x:(p6t×Int)):Option (p6t⊕Bool):=(bif (decide (x.2<(x.1.length:Int))) then(((bif (y4q x.2 x.1.length) then((t4a (rdL u2f x.1 (x.2).toNat)).bind fun y1=>(bif (!y1) then(some true) else(bif (decide (x.2 >0)) then(bif (y4q (IntKind.i64.wrap (x.2 - 1)) x.1.length) then(bif (y4q x.2 x.1.length) then(some (!y3c (rdL u2f x.1 ((IntKind.i64.wrap (x.2 - 1))).toNat).1 (rdL u2f x.1 (x.2).toNat).1)) else none) else none) else(some false)))) else none):Option Bool).bind fun j2=>(bif j2 then(some (.inr false)) else(g (x.1,(IntKind.i64.wrap (x.2+1)))))) else(some (.inl x.1)))
def t3e:=lpW _ _ t25
theorem s4w x:t3e x=t25 t3e x:=zW s38 243 Tryz.f243 2 37 x (by kernel_rfl)
def s84 (x:p6t):Option Bool:=((t3e (x,0)).bind fun r3=>match r3 with | .inl o4=>(some (decide ((o4.length:Int)≤(8:Int)))) | .inr z5=>(some z5))
theorem q08:t6y=s84:=zC 243 rfl Tryz.func243 (by kernel_rfl)
def t39(x:o0h):Option Bool:=zK 316 x
def r1s (x:o0h):Option Bool:=((((u6l x.1).bind fun y1=>(bif y1 then((u6l x.2).bind fun y2=>(bif y2 then(some (y3c x.1 x.2 || z7o x.1 x.2)) else(some false))) else(some false))):Option Bool).bind fun j3=>(some j3))
theorem q24:t39=r1s:=zC 316 rfl Tryz.func316 (by kernel_rfl)
def u6n(x:t3v):Option Bool:=zK 189 x
def t7x(g:p0w→Option (t3v⊕Bool))(x:p0w):Option (t3v⊕Bool):=(bif (decide (x.2<(x.1.2.2.2.2.1.length:Int))) then(bif (y4q x.2 x.1.2.2.2.2.1.length) then((t39 (rdL q5p x.1.2.2.2.2.1 (x.2).toNat)).bind fun y6=>(bif (!y6) then(some (.inr false)) else(g (x.1,(IntKind.i64.wrap (x.2+1)))))) else none) else(some (.inl x.1)))
def t74:=lpW _ _ t7x
theorem r3o x:t74 x=t7x t74 x:=zW r29 189 Tryz.f189 4 95 x (by kernel_rfl)
def r7y (x:t3v):Option Bool:=((((u0n (x.1,(1,9999))).bind fun y1=>(bif (!y1) then(some true) else((u0n (x.2.1,(1,3))).bind fun y2=>(bif (!y2) then(some true) else((u0n (x.2.2.1,(0,9999))).bind fun y3=>(bif (!y3) then(some true) else(bif (decide ((x.2.2.2.2.1.length:Int) >(8:Int))) then(some true) else((t6y x.2.2.2.2.2.1).bind fun y4=>(some (!y4)))))))))):Option Bool).bind fun j5=>(bif j5 then(some false) else((t74 (x,0)).bind fun r7=>match r7 with | .inl o8=>(((bif (decide (o8.2.1=3)) then((u0n (o8.2.2.2.1,((IntKind.i64.wrap (o8.2.2.1+1)),9999))).bind fun y9=>(bif (!y9) then(some true) else(bif (!decide (o8.2.1=3)) then(some (!decide (o8.2.2.2.1=0))) else(some false)))) else(bif (!decide (o8.2.1=3)) then(some (!decide (o8.2.2.2.1=0))) else(some false))):Option Bool).bind fun j10=>(bif j10 then(some false) else(((bif (decide (o8.2.1=2)) then((u6l o8.2.2.2.2.2.2.2).bind fun y11=>(bif (!y11) then(some true) else(bif (!decide (o8.2.1=2)) then(some (!z7o o8.2.2.2.2.2.2.2 (⟨#[]⟩:ByteArray))) else(some false)))) else(bif (!decide (o8.2.1=2)) then(some (!z7o o8.2.2.2.2.2.2.2 (⟨#[]⟩:ByteArray))) else(some false))):Option Bool).bind fun j12=>(bif j12 then(some false) else(((bif (!decide (o8.2.1=1)) then(some true) else(some (!o8.2.2.2.2.2.2.1))):Option Bool).bind fun j13=>(some j13)))))) | .inr z14=>(some z14))))
theorem q8y:u6n=r7y:=zC 189 rfl Tryz.func189 (by kernel_rfl)
def t7k(x:q7n):Option Bool:=zK 197 x
def u9l(g:o0j→Option (q7n⊕Bool))(x:o0j):Option (q7n⊕Bool):=(bif (decide (x.2<(x.1.length:Int))) then(bif (y4q x.2 x.1.length) then((((u6l (rdL u0i x.1 (x.2).toNat).1).bind fun y1=>(bif (!y1) then(some true) else(bif (decide (((rdL u0i x.1 (x.2).toNat).2.1.size:Int) >(12:Int))) then(some true) else(bif (rdL u0i x.1 (x.2).toNat).2.2.1 then(bif (!z7o (rdL u0i x.1 (x.2).toNat).2.1 (⟨#[]⟩:ByteArray)) then(some true) else((u0n ((rdL u0i x.1 (x.2).toNat).2.2.2,(1,9999))).bind fun y2=>(some (!y2)))) else((u0n ((rdL u0i x.1 (x.2).toNat).2.2.2,(1,9999))).bind fun y3=>(some (!y3))))))):Option Bool).bind fun j4=>(bif j4 then(some (.inr false)) else(((bif (decide (x.2 >0)) then(bif (y4q (IntKind.i64.wrap (x.2 - 1)) x.1.length) then(bif (!(y3c (rdL u0i x.1 ((IntKind.i64.wrap (x.2 - 1))).toNat).1 (rdL u0i x.1 (x.2).toNat).1 || z7o (rdL u0i x.1 ((IntKind.i64.wrap (x.2 - 1))).toNat).1 (rdL u0i x.1 (x.2).toNat).1)) then(some true) else(bif (y4q (IntKind.i64.wrap (x.2 - 1)) x.1.length) then(bif (z7o (rdL u0i x.1 ((IntKind.i64.wrap (x.2 - 1))).toNat).1 (rdL u0i x.1 (x.2).toNat).1) then(bif (y4q (IntKind.i64.wrap (x.2 - 1)) x.1.length) then(some (decide ((rdL u0i x.1 ((IntKind.i64.wrap (x.2 - 1))).toNat).2.2.2≥(rdL u0i x.1 (x.2).toNat).2.2.2))) else none) else(some false)) else none)) else none) else(some false)):Option Bool).bind fun j5=>(bif j5 then(some (.inr false)) else(g (x.1,(IntKind.i64.wrap (x.2+1)))))))) else none) else(some (.inl x.1)))
def u9o:=lpW _ _ u9l
theorem s08 x:u9o x=u9l u9o x:=zW s0k 197 Tryz.f197 2 78 x (by kernel_rfl)
def s3j (x:q7n):Option Bool:=((u9o (x,0)).bind fun r6=>match r6 with | .inl o7=>(some (decide ((o7.length:Int)≤(120:Int)))) | .inr z8=>(some z8))
theorem r6q:t7k=s3j:=zC 197 rfl Tryz.func197 (by kernel_rfl)
def u7s(x:Z99):Option Bool:=zK 69 x
def t52(g:Z94→Option (Z99⊕Bool))(x:Z94):Option (Z99⊕Bool):=(bif (decide (x.2<(x.1.1.length:Int))) then(bif (y4q x.2 x.1.1.length) then(bif (decide ((rdL u0i x.1.1 (x.2).toNat).2.2.2 >x.1.2.2.2.1)) then(some (.inr false)) else(g (x.1,(IntKind.i64.wrap (x.2+1))))) else none) else(some (.inl x.1)))
def t12:=lpW _ _ t52
theorem r0c x:t12 x=t52 t12 x:=zW s9l 69 Tryz.f69 4 179 x (by kernel_rfl)
def t4j(g:Z77→Option (Z86⊕Bool))(x:Z77):Option (Z86⊕Bool):=(bif (decide (x.2.2<(x.1.2.1.length:Int))) then(bif (y4q x.2.2 x.1.2.1.length) then((((u6n (rdL u0a x.1.2.1 (x.2.2).toNat)).bind fun y7=>(bif (!y7) then(some true) else(bif (!decide ((rdL u0a x.1.2.1 (x.2.2).toNat).2.1=3)) then(some true) else(bif (decide ((rdL u0a x.1.2.1 (x.2.2).toNat).2.2.2.1 >x.1.2.2.2.1)) then(some true) else(bif (decide (x.2.2 >0)) then(bif (y4q (IntKind.i64.wrap (x.2.2 - 1)) x.1.2.1.length) then(some (decide ((rdL u0a x.1.2.1 ((IntKind.i64.wrap (x.2.2 - 1))).toNat).2.2.2.1≥(rdL u0a x.1.2.1 (x.2.2).toNat).2.2.2.1))) else none) else(some false)))))):Option Bool).bind fun j8=>(bif j8 then(some (.inr false)) else(bif (Nat.ble (x.2.1.length+([(rdL u0a x.1.2.1 (x.2.2).toNat).1] :List Int).length) z7w) then(g (x.1,((x.2.1++([(rdL u0a x.1.2.1 (x.2.2).toNat).1] :List Int)),(IntKind.i64.wrap (x.2.2+1))))) else none))) else none) else(some (.inl (x.1,x.2.1))))
def u68:=lpW _ _ t4j
theorem s7e x:u68 x=t4j u68 x:=zW s6j 69 Tryz.f69 10 179 x (by kernel_rfl)
def t4k(g:Z77→Option (Z86⊕Bool))(x:Z77):Option (Z86⊕Bool):=(bif (decide (x.2.2<(x.1.2.2.1.length:Int))) then(bif (y4q x.2.2 x.1.2.2.1.length) then((((u6n (rdL u0a x.1.2.2.1 (x.2.2).toNat)).bind fun y11=>(bif (!y11) then(some true) else(bif (!decide ((rdL u0a x.1.2.2.1 (x.2.2).toNat).2.1=2)) then(some true) else(bif (decide ((rdL u0a x.1.2.2.1 (x.2.2).toNat).2.2.1 >x.1.2.2.2.1)) then(some true) else(bif (decide (x.2.2 >0)) then(bif (y4q (IntKind.i64.wrap (x.2.2 - 1)) x.1.2.2.1.length) then(some (!y3c (rdL u0a x.1.2.2.1 ((IntKind.i64.wrap (x.2.2 - 1))).toNat).2.2.2.2.2.2.2 (rdL u0a x.1.2.2.1 (x.2.2).toNat).2.2.2.2.2.2.2)) else none) else(some false)))))):Option Bool).bind fun j12=>(bif j12 then(some (.inr false)) else(bif (Nat.ble (x.2.1.length+([(rdL u0a x.1.2.2.1 (x.2.2).toNat).1] :List Int).length) z7w) then(g (x.1,((x.2.1++([(rdL u0a x.1.2.2.1 (x.2.2).toNat).1] :List Int)),(IntKind.i64.wrap (x.2.2+1))))) else none))) else none) else(some (.inl (x.1,x.2.1))))
def t0b:=lpW _ _ t4k
theorem s7f x:t0b x=t4k t0b x:=zW s6k 69 Tryz.f69 17 179 x (by kernel_rfl)
def t4m(g:Z74→Option (Z77⊕Bool))(x:Z74):Option (Z77⊕Bool):=(bif (decide (x.2.2.2<x.2.2.1)) then(bif (y4q x.2.2.2 x.2.1.length) then(bif (y4q x.2.2.1 x.2.1.length) then(bif (decide ((rdL (Ty.int .i64) x.2.1 (x.2.2.2).toNat)=(rdL (Ty.int .i64) x.2.1 (x.2.2.1).toNat))) then(some (.inr false)) else(g (x.1,(x.2.1,(x.2.2.1,(IntKind.i64.wrap (x.2.2.2+1))))))) else none) else none) else(some (.inl (x.1,(x.2.1,x.2.2.1)))))
def t0c:=lpW _ _ t4m
theorem s7h x:t0c x=t4m t0c x:=zW s6m 69 Tryz.f69 27 179 x (by kernel_rfl)
def t4l(g:Z77→Option r8k)(x:Z77):Option r8k:=(bif (decide (x.2.2<(x.2.1.length:Int))) then((t0c (x.1,(x.2.1,(x.2.2,0)))).bind fun r15=>match r15 with | .inl o16=>(bif (y4q o16.2.2 o16.2.1.length) then(bif (decide ((rdL (Ty.int .i64) o16.2.1 (o16.2.2).toNat)≥o16.1.2.2.2.2)) then(some (.inr false)) else(g (o16.1,(o16.2.1,(IntKind.i64.wrap (o16.2.2+1)))))) else none) | .inr z17=>(some (.inr z17))) else(some (.inl ())))
def u69:=lpW _ _ t4l
theorem s7g x:u69 x=t4l u69 x:=zW s6l 69 Tryz.f69 24 179 x (by kernel_rfl)
def r4l (x:Z99):Option Bool:=((((t7k x.1).bind fun y1=>(bif (!y1) then(some true) else(bif (decide ((x.2.1.length:Int) >(12:Int))) then(some true) else(bif (decide ((x.2.2.1.length:Int) >(3:Int))) then(some true) else((u0n (x.2.2.2.1,(0,9999))).bind fun y2=>(bif (!y2) then(some true) else((u0n (x.2.2.2.2,(1,9999))).bind fun y3=>(some (!y3))))))))):Option Bool).bind fun j4=>(bif j4 then(some false) else((t12 (x,0)).bind fun r5=>match r5 with | .inl o6=>((u68 (o6,(([] :List Int),0))).bind fun r9=>match r9 with | .inl o10=>((t0b (o10.1,(o10.2,0))).bind fun r13=>match r13 with | .inl o14=>((u69 (o14.1,(o14.2,0))).bind fun r18=>match r18 with | .inl o19=>(some true) | .inr z20=>(some z20)) | .inr z21=>(some z21)) | .inr z22=>(some z22)) | .inr z23=>(some z23))))
theorem q59:u7s=r4l:=zC 69 rfl Tryz.func69 (by kernel_rfl)
def s0q(x:Z71):Option Bool:=zK 109 x
def t1g(g:Z27→Option (Z30⊕Bool))(x:Z27):Option (Z30⊕Bool):=(bif (decide (x.2.2.2<(x.1.1.2.1.length:Int))) then(bif (y4q x.2.2.2 x.1.1.2.1.length) then(bif (decide ((rdL u0a x.1.1.2.1 (x.2.2.2).toNat).1=x.2.2.1.1)) then(some (.inr false)) else(g (x.1,(x.2.1,(x.2.2.1,(IntKind.i64.wrap (x.2.2.2+1))))))) else none) else(some (.inl (x.1,(x.2.1,x.2.2.1)))))
def u7n:=lpW _ _ t1g
theorem s2d x:u7n x=t1g u7n x:=zW s1w 109 Tryz.f109 10 105 x (by kernel_rfl)
def t1h(g:Z27→Option (Z69⊕Bool))(x:Z27):Option (Z69⊕Bool):=(bif (decide (x.2.2.2<(x.1.1.2.2.1.length:Int))) then(bif (y4q x.2.2.2 x.1.1.2.2.1.length) then(bif (decide ((rdL u0a x.1.1.2.2.1 (x.2.2.2).toNat).1=x.2.2.1.1)) then(some (.inr false)) else(g (x.1,(x.2.1,(x.2.2.1,(IntKind.i64.wrap (x.2.2.2+1))))))) else none) else(some (.inl (x.1,x.2.1))))
def u54:=lpW _ _ t1h
theorem s2e x:u54 x=t1h u54 x:=zW s1x 109 Tryz.f109 15 105 x (by kernel_rfl)
def t2v(g:Z69→Option r8k)(x:Z69):Option r8k:=(bif (decide (x.2<(x.1.2.length:Int))) then(bif (y4q x.2 x.1.2.length) then((((u6n (rdL u0a x.1.2 (x.2).toNat)).bind fun y3=>(bif (!y3) then(some true) else(bif (!decide ((rdL u0a x.1.2 (x.2).toNat).2.1=1)) then(some true) else(bif (decide ((rdL u0a x.1.2 (x.2).toNat).1≥x.1.1.2.2.2.2)) then(some true) else(bif (decide ((rdL u0a x.1.2 (x.2).toNat).2.2.1 >x.1.1.2.2.2.1)) then(some true) else(bif (decide (x.2 >0)) then(bif (y4q (IntKind.i64.wrap (x.2 - 1)) x.1.2.length) then(some (decide ((rdL u0a x.1.2 ((IntKind.i64.wrap (x.2 - 1))).toNat).1≥(rdL u0a x.1.2 (x.2).toNat).1))) else none) else(some false))))))):Option Bool).bind fun j4=>(bif j4 then(some (.inr false)) else((u7n (x.1,(x.2,((rdL u0a x.1.2 (x.2).toNat),0)))).bind fun r5=>match r5 with | .inl o6=>((u54 (o6.1,(o6.2.1,(o6.2.2,0)))).bind fun r7=>match r7 with | .inl o8=>(g (o8.1,(IntKind.i64.wrap (o8.2+1)))) | .inr z9=>(some (.inr z9))) | .inr z10=>(some (.inr z10))))) else none) else(some (.inl ())))
def u6o:=lpW _ _ t2v
theorem s4m x:u6o x=t2v u6o x:=zW s3y 109 Tryz.f109 4 105 x (by kernel_rfl)
def s8r (x:Z71):Option Bool:=((((u7s x.1).bind fun y1=>(bif (!y1) then(some true) else(some (decide ((x.2.length:Int) >(4:Int)))))):Option Bool).bind fun j2=>(bif j2 then(some false) else((u6o (x,0)).bind fun r11=>match r11 with | .inl o12=>(some true) | .inr z13=>(some z13))))
theorem q0w:s0q=s8r:=zC 109 rfl Tryz.func109 (by kernel_rfl)
def t2j(x:Z71):Option Z66:=zK 24 x
def r7r (x:Z71):Option Z66:=((u0l x).bind fun y1=>((((s0q x).bind fun y2=>(bif (!y2) then(some true) else(bif (decide ((x.2.length:Int)≥(4:Int))) then(some true) else(some (decide (x.1.2.2.2.2≥9999)))))):Option Bool).bind fun j3=>(bif j3 then(some (y1,(0,3))) else(bif (Nat.ble (y1.2.length+([(x.1.2.2.2.2,(1,(x.1.2.2.2.1,(0,(([] :List q5p.den),(([] :List u2f.den),(false,(⟨#[]⟩:ByteArray))))))))] :List u0a.den).length) z7w) then(some (((y1.1.1,(y1.1.2.1,(y1.1.2.2.1,(y1.1.2.2.2.1,(IntKind.i64.wrap (x.1.2.2.2.2+1)))))),(y1.2++([(x.1.2.2.2.2,(1,(x.1.2.2.2.1,(0,(([] :List q5p.den),(([] :List u2f.den),(false,(⟨#[]⟩:ByteArray))))))))] :List u0a.den))),(x.1.2.2.2.2,0))) else none))))
theorem q8r:t2j=r7r:=zC 24 rfl Tryz.func24 (by kernel_rfl)
def s5s(x:q7j):Option q39:=zK 95 x
def t1z(g:q39→Option ((q7j×Int)⊕Unit))(x:q39):Option ((q7j×Int)⊕Unit):=(((bif (decide (x.2.2<(x.1.length:Int))) then(some (decide (x.2.2<4000))) else(some false)):Option Bool).bind fun j1=>(bif j1 then(bif (y4q x.2.2 x.1.length) then(g (x.1,((IntKind.i64.wrap ((BitVec.ofInt (IntKind.i64).bits (IntKind.i64.wrap ((IntKind.i64.wrap ((IntKind.i64.wrap (x.2.1*131))+(IntKind.i64.wrap (rdL (Ty.int .u8) x.1 (x.2.2).toNat))))+7))&&&BitVec.ofInt (IntKind.i64).bits (1073741823:Int)).toNat:Int)),(IntKind.i64.wrap (x.2.2+1))))) else none) else(some (.inl (x.1,x.2.1)))))
def t16:=lpW _ _ t1z
theorem s09 x:t16 x=t1z t16 x:=zW s9t 95 Tryz.f95 3 32 x (by kernel_rfl)
def r41 (x:q7j):Option q39:=((t16 (x,((IntKind.i64.wrap ((77601:Int)+(x.length:Int))),0))).bind fun r2=>match r2 with | .inl o3=>(some (o3.1,(0,o3.2))) | .inr z4=>none)
theorem q6p:s5s=r41:=zC 95 rfl Tryz.func95 (by kernel_rfl)
def u70(x:q39):Option (Int×q39):=zK 270 x
def r2a (x:q39):Option (Int×q39):=(bif (decide (x.2.1<(x.1.length:Int))) then(bif (y4q x.2.1 x.1.length) then(some ((IntKind.i64.wrap ((BitVec.ofInt (IntKind.i64).bits (IntKind.i64.wrap ((IntKind.i64.wrap ((BitVec.ofInt (IntKind.i64).bits (IntKind.i64.wrap ((BitVec.ofInt (IntKind.i64).bits (Int.fdiv (IntKind.i64.wrap ((IntKind.i64.wrap (x.2.2*6364136223846793005))+1442695040888963407)) (2^(min ((33:Int)).toNat (IntKind.i64).bits)))^^^BitVec.ofInt (IntKind.i64).bits (Int.fdiv (IntKind.i64.wrap ((IntKind.i64.wrap (x.2.2*6364136223846793005))+1442695040888963407)) (2^(min ((45:Int)).toNat (IntKind.i64).bits)))).toNat:Int))&&&BitVec.ofInt (IntKind.i64).bits (255:Int)).toNat:Int))+(IntKind.i64.wrap (rdL (Ty.int .u8) x.1 (x.2.1).toNat))))&&&BitVec.ofInt (IntKind.i64).bits (255:Int)).toNat:Int)),(x.1,((IntKind.i64.wrap (x.2.1+1)),(IntKind.i64.wrap ((IntKind.i64.wrap (x.2.2*6364136223846793005))+1442695040888963407)))))) else none) else(some ((IntKind.i64.wrap ((BitVec.ofInt (IntKind.i64).bits (IntKind.i64.wrap ((BitVec.ofInt (IntKind.i64).bits (Int.fdiv (IntKind.i64.wrap ((IntKind.i64.wrap (x.2.2*6364136223846793005))+1442695040888963407)) (2^(min ((33:Int)).toNat (IntKind.i64).bits)))^^^BitVec.ofInt (IntKind.i64).bits (Int.fdiv (IntKind.i64.wrap ((IntKind.i64.wrap (x.2.2*6364136223846793005))+1442695040888963407)) (2^(min ((45:Int)).toNat (IntKind.i64).bits)))).toNat:Int))&&&BitVec.ofInt (IntKind.i64).bits (255:Int)).toNat:Int)),(x.1,(x.2.1,(IntKind.i64.wrap ((IntKind.i64.wrap (x.2.2*6364136223846793005))+1442695040888963407)))))))
theorem q3e:u70=r2a:=zC 270 rfl Tryz.func270 (by kernel_rfl)
def u2c(x:o0k):Option (Int×q39):=zK 140 x
def s85 (x:o0k):Option (Int×q39):=(bif (decide (x.2≤0)) then(some (0,x.1)) else(bif (decide (x.2≤256)) then((u70 x.1).bind fun y1=>(bif (!decide (x.2=0)) then(some ((Int.tmod y1.1 x.2),y1.2)) else none)) else((u70 x.1).bind fun y2=>((u70 y2.2).bind fun y3=>((u70 y3.2).bind fun y4=>((u70 y4.2).bind fun y5=>(bif (!decide (x.2=0)) then(some ((Int.tmod (IntKind.i64.wrap ((IntKind.i64.wrap ((IntKind.i64.wrap ((IntKind.i64.wrap (y2.1*16777216))+(IntKind.i64.wrap (y3.1*65536))))+(IntKind.i64.wrap (y4.1*256))))+y5.1)) x.2),y5.2)) else none)))))))
theorem q09:u2c=s85:=zC 140 rfl Tryz.func140 (by kernel_rfl)
def s2t(x:Unit):Option Z99:=zK 223 x
def r1j (x:Unit):Option Z99:=(some (([] :List u0i.den),(([] :List u0a.den),(([] :List u0a.den),(0,1)))))
theorem r2y:s2t=r1j:=zC 223 rfl Tryz.func223 (by kernel_rfl)
def t87(x:Unit):Option Z71:=zK 348 x
def s53 (x:Unit):Option Z71:=((s2t ()).bind fun y1=>(some (y1,([] :List u0a.den))))
theorem r87:t87=s53:=zC 348 rfl Tryz.func348 (by kernel_rfl)
def u8y(x:Unit):Option Int:=zK 330 x
def r6a (x:Unit):Option Int:=(some (97:Int))
theorem s3q:u8y=r6a:=zC 330 rfl Tryz.func330 (by kernel_rfl)
def r3c(x:p6n):Option ByteArray:=zK 394 x
def t81(g:(Int×(Int×(q7j×Int)))→Option (q7j⊕Unit))(x:(Int×(Int×(q7j×Int)))):Option (q7j⊕Unit):=(bif (decide (x.2.2.2<x.1)) then(bif (y4q x.2.2.2 x.2.2.1.length) then(g (x.1,(x.2.1,((x.2.2.1.set (x.2.2.2).toNat x.2.1),(IntKind.i64.wrap (x.2.2.2+1)))))) else none) else(some (.inl x.2.2.1)))
def t0m:=lpW _ _ t81
theorem s7w x:t0m x=t81 t0m x:=zW s63 394 Tryz.f394 3 20 x (by kernel_rfl)
def r2b (x:p6n):Option ByteArray:=(bif (decide (0≤x.1)&&decide (x.1≤1099511627776)) then((t0m (x.1,(x.2,((List.replicate (x.1).toNat ((Ty.int .u8)).zero),0)))).bind fun r1=>match r1 with | .inl o2=>(some (y7g o2)) | .inr z3=>none) else none)
theorem q3f:r3c=r2b:=zC 394 rfl Tryz.func394 (by kernel_rfl)
def s20(x:Unit):Option ByteArray:=zK 464 x
def r2g (x:Unit):Option ByteArray:=((r3c (64,0)).bind fun y1=>(some y1))
theorem q3j:s20=r2g:=zC 464 rfl Tryz.func464 (by kernel_rfl)
def r3b(x:Int):Option r6b:=zK 418 x
def t80(g:o35→Option (p99⊕Unit))(x:o35):Option (p99⊕Unit):=(bif (decide (x.2.2.2<x.1)) then((s20 ()).bind fun y2=>(bif (Nat.ble (x.2.2.1.1.length+([y2] :List ByteArray).length) z7w) then(g (x.1,(x.2.1,(((x.2.2.1.1++([y2] :List ByteArray)),x.2.2.1.2),(IntKind.i64.wrap (x.2.2.2+1)))))) else none)) else(some (.inl (x.2.1,x.2.2.1))))
def t0e:=lpW _ _ t80
theorem s7j x:t0e x=t80 t0e x:=zW s6p 418 Tryz.f418 5 23 x (by kernel_rfl)
def r1m (x:Int):Option r6b:=((u0n (x,(1,100))).bind fun y1=>(bif (!y1) then(some ((([] :List ByteArray),([] :List p4o.den)),false)) else((t0e (x,((([] :List ByteArray),([] :List p4o.den)),((([] :List ByteArray),([] :List p4o.den)),0)))).bind fun r3=>match r3 with | .inl o4=>(some (o4.2,true)) | .inr z5=>none)))
theorem q2y:r3b=r1m:=zC 418 rfl Tryz.func418 (by kernel_rfl)
def s5q(x:Unit):Option s1b:=zK 349 x
def r4s (x:Unit):Option s1b:=((u8y ()).bind fun y1=>((r3b y1).bind fun y2=>(some y2.1)))
theorem q6g:s5q=r4s:=zC 349 rfl Tryz.func349 (by kernel_rfl)
def s0v(x:Unit):Option Z53:=zK 230 x
def s80 (x:Unit):Option Z53:=((t87 ()).bind fun y1=>((s5q ()).bind fun y2=>(some (y1,y2))))
theorem q05:s0v=s80:=zC 230 rfl Tryz.func230 (by kernel_rfl)
def u6i(x:Z69):Option Int:=zK 49 x
def t1x(g:Z65→Option s8a)(x:Z65):Option s8a:=(bif (decide (x.2.2<(x.2.1.2.length:Int))) then(bif (y4q x.2.2 x.2.1.2.length) then(bif (decide ((rdL u0a x.2.1.2 (x.2.2).toNat).1=x.1)) then(some (.inr x.2.2)) else(g (x.1,(x.2.1,(IntKind.i64.wrap (x.2.2+1)))))) else none) else(some (.inl ())))
def t14:=lpW _ _ t1x
theorem r0g x:t14 x=t1x t14 x:=zW s9p 49 Tryz.f49 2 22 x (by kernel_rfl)
def r4t (x:Z69):Option Int:=((t14 (x.2,(x.1,0))).bind fun r1=>match r1 with | .inl o2=>(some (-1:Int)) | .inr z3=>(some z3))
theorem q6h:u6i=r4t:=zC 49 rfl Tryz.func49 (by kernel_rfl)
def s0t(x:o4v):Option p6t:=zK 242 x
def t2x(g:o1x→Option (o4d⊕Unit))(x:o1x):Option (o4d⊕Unit):=(bif (decide (x.2.2.2<(x.1.length:Int))) then(bif (y4q x.2.2.2 x.1.length) then(bif (y3c (rdL u2f x.1 (x.2.2.2).toNat).1 x.2.1.1) then(bif (y4q x.2.2.2 x.1.length) then(bif (Nat.ble (x.2.2.1.length+([(rdL u2f x.1 (x.2.2.2).toNat)] :List u2f.den).length) z7w) then(g (x.1,(x.2.1,((x.2.2.1++([(rdL u2f x.1 (x.2.2.2).toNat)] :List u2f.den)),(IntKind.i64.wrap (x.2.2.2+1)))))) else none) else none) else(g (x.1,(x.2.1,(x.2.2.1,(IntKind.i64.wrap (x.2.2.2+1))))))) else none) else(some (.inl (x.1,(x.2.1,x.2.2.1)))))
def t3b:=lpW _ _ t2x
theorem s4o x:t3b x=t2x t3b x:=zW s30 242 Tryz.f242 3 56 x (by kernel_rfl)
def t2y(g:o1x→Option (p6t⊕Unit))(x:o1x):Option (p6t⊕Unit):=(bif (decide (x.2.2.2<(x.1.length:Int))) then(bif (y4q x.2.2.2 x.1.length) then(bif (!(y3c (rdL u2f x.1 (x.2.2.2).toNat).1 x.2.1.1 || z7o (rdL u2f x.1 (x.2.2.2).toNat).1 x.2.1.1)) then(bif (y4q x.2.2.2 x.1.length) then(bif (Nat.ble (x.2.2.1.length+([(rdL u2f x.1 (x.2.2.2).toNat)] :List u2f.den).length) z7w) then(g (x.1,(x.2.1,((x.2.2.1++([(rdL u2f x.1 (x.2.2.2).toNat)] :List u2f.den)),(IntKind.i64.wrap (x.2.2.2+1)))))) else none) else none) else(g (x.1,(x.2.1,(x.2.2.1,(IntKind.i64.wrap (x.2.2.2+1))))))) else none) else(some (.inl x.2.2.1)))
def t3c:=lpW _ _ t2y
theorem s4p x:t3c x=t2y t3c x:=zW s31 242 Tryz.f242 9 56 x (by kernel_rfl)
def s8v (x:o4v):Option p6t:=((t3b (x.1,(x.2,(([] :List u2f.den),0)))).bind fun r1=>match r1 with | .inl o2=>(bif (Nat.ble (o2.2.2.length+([o2.2.1] :List u2f.den).length) z7w) then((t3c (o2.1,(o2.2.1,((o2.2.2++([o2.2.1] :List u2f.den)),0)))).bind fun r3=>match r3 with | .inl o4=>(some o4) | .inr z5=>none) else none) | .inr z6=>none)
theorem q00:s0t=s8v:=zC 242 rfl Tryz.func242 (by kernel_rfl)
def s0x(x:Z89):Option p98:=zK 111 x
def s83 (x:Z89):Option p98:=((u05 x.1).bind fun y1=>((((u6n x.1).bind fun y2=>(bif (!y2) then(some true) else(bif (!decide (x.1.2.1=1)) then(some true) else((t4a x.2).bind fun y3=>(some (!y3)))))):Option Bool).bind fun j4=>(bif j4 then(some (y1,false)) else((s0t (x.1.2.2.2.2.2.1,x.2)).bind fun y5=>((t6y y5).bind fun y6=>(bif (!y6) then((u05 x.1).bind fun y7=>(some (y7,false))) else(some ((y1.1,(y1.2.1,(y1.2.2.1,(y1.2.2.2.1,(y1.2.2.2.2.1,(y5,y1.2.2.2.2.2.2)))))),true))))))))
theorem q07:s0x=s83:=zC 111 rfl Tryz.func111 (by kernel_rfl)
def t3k(x:Z52):Option Z69:=zK 25 x
def r4w (x:Z52):Option Z69:=((u0l x.1).bind fun y1=>((u6i (x.1,x.2.1)).bind fun y2=>(bif (decide (y2<0)) then(some (y1,1)) else((t4a x.2.2).bind fun y3=>(bif (!y3) then(some (y1,2)) else(bif (y4q y2 x.1.2.length) then((s0x ((rdL u0a x.1.2 (y2).toNat),x.2.2)).bind fun y4=>(bif (!y4.2) then(some (y1,3)) else(bif (y4q y2 y1.2.length) then(some ((y1.1,(y1.2.set (y2).toNat y4.1)),0)) else none))) else none))))))
theorem q6k:t3k=r4w:=zC 25 rfl Tryz.func25 (by kernel_rfl)
def u04(x:s1b):Option s1b:=zK 337 x
def r2f (x:s1b):Option s1b:=(bif (Nat.ble (([] :List ByteArray).length+x.1.length) z7w) then(bif (Nat.ble (([] :List p4o.den).length+x.2.length) z7w) then(some ((([] :List ByteArray)++x.1),(([] :List p4o.den)++x.2))) else none) else none)
theorem q3i:u04=r2f:=zC 337 rfl Tryz.func337 (by kernel_rfl)
def s24(x:Z53):Option Z53:=zK 225 x
def r2s (x:Z53):Option Z53:=((u0l x.1).bind fun y1=>((u04 x.2).bind fun y2=>(some (y1,y2))))
theorem q3v:s24=r2s:=zC 225 rfl Tryz.func225 (by kernel_rfl)
def u1s(x:Int):Option ByteArray:=zK 313 x
def s8d(g:(Int×q7j)→Option ((Int×q7j)⊕Unit))(x:(Int×q7j)):Option ((Int×q7j)⊕Unit):=(bif (decide (x.1 >127)) then(bif (Nat.ble (x.2.length+([(IntKind.u8.wrap (IntKind.i64.wrap ((Int.tmod x.1 (128:Int))+128)))] :List Int).length) z7w) then(g ((IntKind.i64.wrap (Int.tdiv x.1 (128:Int))),(x.2++([(IntKind.u8.wrap (IntKind.i64.wrap ((Int.tmod x.1 (128:Int))+128)))] :List Int)))) else none) else(some (.inl x)))
def t6f:=lpW _ _ s8d
theorem q2c x:t6f x=s8d t6f x:=zW s9u 313 Tryz.f313 2 22 x (by kernel_rfl)
def r42 (x:Int):Option ByteArray:=((t6f (x,([] :List Int))).bind fun r1=>match r1 with | .inl o2=>(bif (Nat.ble (o2.2.length+([(IntKind.u8.wrap o2.1)] :List Int).length) z7w) then(some (y7g (o2.2++([(IntKind.u8.wrap o2.1)] :List Int)))) else none) | .inr z3=>none)
theorem q6q:u1s=r42:=zC 313 rfl Tryz.func313 (by kernel_rfl)
def t8c(x:p0d):Option (Int×p8j):=zK 315 x
def t4t(g:o45→Option (Unit⊕(Int×p8j)))(x:o45):Option (Unit⊕(Int×p8j)):=(((bif (decide (x.2.2.2.2<(x.1.size:Int))) then(some (decide (x.2.2.2.2<(IntKind.i64.wrap (x.2.1+5))))) else(some false)):Option Bool).bind fun j2=>(bif j2 then(bif (y4q x.2.2.2.2 x.1.size) then(bif (y4q x.2.2.2.2 x.1.size) then(bif (decide (((x.1.data.toList.getD (x.2.2.2.2).toNat 0).toNat:Int)<(128:Int))) then(((bif (decide ((IntKind.i64.wrap (x.2.2.1+(IntKind.i64.wrap ((Int.tmod (IntKind.i64.wrap ((x.1.data.toList.getD (x.2.2.2.2).toNat 0).toNat:Int)) (128:Int))*x.2.2.2.1)))) >1000000000)) then(some true) else((u1s (IntKind.i64.wrap (x.2.2.1+(IntKind.i64.wrap ((Int.tmod (IntKind.i64.wrap ((x.1.data.toList.getD (x.2.2.2.2).toNat 0).toNat:Int)) (128:Int))*x.2.2.2.1))))).bind fun y3=>(bif (decide (0≤x.2.1)&&decide (x.2.1≤(IntKind.i64.wrap (x.2.2.2.2+1)))&&decide ((IntKind.i64.wrap (x.2.2.2.2+1))≤(x.1.size:Int))) then(some (!z7o y3 (x.1.extract (x.2.1).toNat ((IntKind.i64.wrap (x.2.2.2.2+1))).toNat))) else none))):Option Bool).bind fun j4=>(bif j4 then(some (.inr (0,(0,false)))) else(some (.inr ((IntKind.i64.wrap (x.2.2.1+(IntKind.i64.wrap ((Int.tmod (IntKind.i64.wrap ((x.1.data.toList.getD (x.2.2.2.2).toNat 0).toNat:Int)) (128:Int))*x.2.2.2.1)))),((IntKind.i64.wrap (x.2.2.2.2+1)),true)))))) else(g (x.1,(x.2.1,((IntKind.i64.wrap (x.2.2.1+(IntKind.i64.wrap ((Int.tmod (IntKind.i64.wrap ((x.1.data.toList.getD (x.2.2.2.2).toNat 0).toNat:Int)) (128:Int))*x.2.2.2.1)))),((IntKind.i64.wrap (x.2.2.2.1*128)),(IntKind.i64.wrap (x.2.2.2.2+1)))))))) else none) else none) else(some (.inl ()))))
def t45:=lpW _ _ t4t
theorem s7p x:t45 x=t4t t45 x:=zW s6v 315 Tryz.f315 6 58 x (by kernel_rfl)
def r1u (x:p0d):Option (Int×p8j):=((u0n (x.2,(0,(x.1.size:Int)))).bind fun y1=>(bif (!y1) then(some (0,(0,false))) else((t45 (x.1,(x.2,(0,(1,x.2))))).bind fun r5=>match r5 with | .inl o6=>(some (0,(0,false))) | .inr z7=>(some z7))))
theorem q26:t8c=r1u:=zC 315 rfl Tryz.func315 (by kernel_rfl)
def t5f(x:p0d):Option p2y:=zK 310 x
def s58 (x:p0d):Option p2y:=((t8c x).bind fun y1=>(((bif (!y1.2.2) then(some true) else(bif (decide (y1.1 >20000)) then(some true) else(some (decide (y1.1 >(IntKind.i64.wrap ((x.1.size:Int) - y1.2.1))))))):Option Bool).bind fun j2=>(bif j2 then(some ((⟨#[]⟩:ByteArray),(0,false))) else(bif (decide (0≤y1.2.1)&&decide (y1.2.1≤(IntKind.i64.wrap (y1.2.1+y1.1)))&&decide ((IntKind.i64.wrap (y1.2.1+y1.1))≤(x.1.size:Int))) then(some ((x.1.extract (y1.2.1).toNat ((IntKind.i64.wrap (y1.2.1+y1.1))).toNat),((IntKind.i64.wrap (y1.2.1+y1.1)),true))) else none))))
theorem r9c:t5f=s58:=zC 310 rfl Tryz.func310 (by kernel_rfl)
def u1t(x:p2y):Option o46:=zK 180 x
def s0c (x:p2y):Option o46:=((t5f (x.1,x.2.1)).bind fun y1=>(((bif x.2.2 then(some true) else(some (!y1.2.2))):Option Bool).bind fun j2=>(bif j2 then(some ((⟨#[]⟩:ByteArray),(x.1,(x.2.1,true)))) else(some (y1.1,(x.1,(y1.2.1,x.2.2)))))))
theorem r3x:u1t=s0c:=zC 180 rfl Tryz.func180 (by kernel_rfl)
def u6r(x:p2y):Option (Bool×p2y):=zK 181 x
def s3l (x:p2y):Option (Bool×p2y):=(((bif x.2.2 then(some true) else(bif (decide (x.2.1≥(x.1.size:Int))) then(some true) else(bif (y4q x.2.1 x.1.size) then(some (decide (((x.1.data.toList.getD (x.2.1).toNat 0).toNat:Int) >(1:Int)))) else none))):Option Bool).bind fun j1=>(bif j1 then(some (false,(x.1,(x.2.1,true)))) else(bif (y4q (IntKind.i64.wrap ((IntKind.i64.wrap (x.2.1+1)) - 1)) x.1.size) then(some ((decide (((x.1.data.toList.getD ((IntKind.i64.wrap ((IntKind.i64.wrap (x.2.1+1)) - 1))).toNat 0).toNat:Int)=(1:Int))),(x.1,((IntKind.i64.wrap (x.2.1+1)),x.2.2)))) else none)))
theorem r6s:u6r=s3l:=zC 181 rfl Tryz.func181 (by kernel_rfl)
def u2i(x:p2y):Option (Int×p2y):=zK 186 x
def r46 (x:p2y):Option (Int×p2y):=((t8c (x.1,x.2.1)).bind fun y1=>(((bif x.2.2 then(some true) else(some (!y1.2.2))):Option Bool).bind fun j2=>(bif j2 then(some (0,(x.1,(x.2.1,true)))) else(some (y1.1,(x.1,(y1.2.1,x.2.2)))))))
theorem q6u:u2i=r46:=zC 186 rfl Tryz.func186 (by kernel_rfl)
def t8b(x:p0d):Option o33:=zK 182 x
def t4s(g:Z36→Option (Z43⊕Unit))(x:Z36):Option (Z43⊕Unit):=(((bif (decide (x.2.2.2.2<x.2.2.2.1)) then(bif (decide (x.2.2.2.2<10)) then(some (!x.2.1.2.2)) else(some false)) else(some false)):Option Bool).bind fun j6=>(bif j6 then((u1t x.2.1).bind fun y7=>((u1t y7.2).bind fun y8=>(bif (Nat.ble (x.2.2.1.2.2.2.2.1.length+([(y7.1,y8.1)] :List q5p.den).length) z7w) then(g (x.1,(y8.2,((x.2.2.1.1,(x.2.2.1.2.1,(x.2.2.1.2.2.1,(x.2.2.1.2.2.2.1,((x.2.2.1.2.2.2.2.1++([(y7.1,y8.1)] :List q5p.den)),x.2.2.1.2.2.2.2.2))))),(x.2.2.2.1,(IntKind.i64.wrap (x.2.2.2.2+1))))))) else none))) else(some (.inl (x.1,(x.2.1,x.2.2.1))))))
def t0h:=lpW _ _ t4s
theorem s7o x:t0h x=t4s t0h x:=zW s6u 182 Tryz.f182 8 115 x (by kernel_rfl)
def t20(g:Z36→Option (Z43⊕Unit))(x:Z36):Option (Z43⊕Unit):=(((bif (decide (x.2.2.2.2<x.2.2.2.1)) then(bif (decide (x.2.2.2.2<10)) then(some (!x.2.1.2.2)) else(some false)) else(some false)):Option Bool).bind fun j12=>(bif j12 then((u1t x.2.1).bind fun y13=>((u1t y13.2).bind fun y14=>((u6r y14.2).bind fun y15=>(bif (Nat.ble (x.2.2.1.2.2.2.2.2.1.length+([(y13.1,(y14.1,y15.1))] :List u2f.den).length) z7w) then(g (x.1,(y15.2,((x.2.2.1.1,(x.2.2.1.2.1,(x.2.2.1.2.2.1,(x.2.2.1.2.2.2.1,(x.2.2.1.2.2.2.2.1,((x.2.2.1.2.2.2.2.2.1++([(y13.1,(y14.1,y15.1))] :List u2f.den)),x.2.2.1.2.2.2.2.2.2)))))),(x.2.2.2.1,(IntKind.i64.wrap (x.2.2.2.2+1))))))) else none)))) else(some (.inl (x.1,(x.2.1,x.2.2.1))))))
def u8l:=lpW _ _ t20
theorem s4r x:u8l x=t20 u8l x:=zW s33 182 Tryz.f182 15 115 x (by kernel_rfl)
def r1t (x:p0d):Option o33:=((u2i (x.1,(x.2,false))).bind fun y1=>((u2i y1.2).bind fun y2=>((u2i y2.2).bind fun y3=>((u2i y3.2).bind fun y4=>((u2i y4.2).bind fun y5=>((t0h ((0,(0,(0,(0,(([] :List q5p.den),(([] :List u2f.den),(false,(⟨#[]⟩:ByteArray)))))))),(y5.2,((y1.1,(y2.1,(y3.1,(y4.1,(([] :List q5p.den),(([] :List u2f.den),(false,(⟨#[]⟩:ByteArray)))))))),(y5.1,0))))).bind fun r9=>match r9 with | .inl o10=>((u2i o10.2.1).bind fun y11=>((u8l (o10.1,(y11.2,(o10.2.2,(y11.1,0))))).bind fun r16=>match r16 with | .inl o17=>((u6r o17.2.1).bind fun y18=>((u1t y18.2).bind fun y19=>(((bif y19.2.2.2 then(some true) else((u6n (o17.2.2.1,(o17.2.2.2.1,(o17.2.2.2.2.1,(o17.2.2.2.2.2.1,(o17.2.2.2.2.2.2.1,(o17.2.2.2.2.2.2.2.1,(y18.1,y19.1)))))))).bind fun y20=>(some (!y20)))):Option Bool).bind fun j21=>(bif j21 then(some ((0,(0,(0,(0,(([] :List q5p.den),(([] :List u2f.den),(false,(⟨#[]⟩:ByteArray)))))))),(0,false))) else(some ((o17.2.2.1,(o17.2.2.2.1,(o17.2.2.2.2.1,(o17.2.2.2.2.2.1,(o17.2.2.2.2.2.2.1,(o17.2.2.2.2.2.2.2.1,(y18.1,y19.1))))))),(y19.2.2.1,true))))))) | .inr z22=>none)) | .inr z23=>none))))))
theorem q25:t8b=r1t:=zC 182 rfl Tryz.func182 (by kernel_rfl)
def t1t(x:(p2y×Int)):Option o4k:=zK 187 x
def u4p(g:o38→Option (o1y⊕o1y))(x:o38):Option (o1y⊕o1y):=(((bif (decide (x.2.2.2.2<x.2.2.2.1)) then(bif (decide (x.2.2.2.2≤x.2.1)) then(some (!x.1.2.2)) else(some false)) else(some false)):Option Bool).bind fun j2=>(bif j2 then((t8b (x.1.1,x.1.2.1)).bind fun y3=>(bif (!y3.2.2) then(some (.inr ((x.1.1,(x.1.2.1,true)),x.2.2.1))) else(bif (Nat.ble (x.2.2.1.length+([y3.1] :List u0a.den).length) z7w) then(g ((x.1.1,(y3.2.1,x.1.2.2)),(x.2.1,((x.2.2.1++([y3.1] :List u0a.den)),(x.2.2.2.1,(IntKind.i64.wrap (x.2.2.2.2+1))))))) else none))) else(some (.inl (x.1,x.2.2.1)))))
def u6d:=lpW _ _ u4p
theorem u8g x:u6d x=u4p u6d x:=zW t9p 187 Tryz.f187 4 59 x (by kernel_rfl)
def s1q (x:(p2y×Int)):Option o4k:=((u2i x.1).bind fun y1=>((u6d (y1.2,(x.2,(([] :List u0a.den),(y1.1,0))))).bind fun r4=>match r4 with | .inl o5=>(some (o5.2,o5.1)) | .inr z6=>(some (z6.2,z6.1))))
theorem r5m:t1t=s1q:=zC 187 rfl Tryz.func187 (by kernel_rfl)
def s0u(x:p0d):Option Z82:=zK 65 x
def t2z(g:Z25→Option (Z28⊕Unit))(x:Z25):Option (Z28⊕Unit):=(((bif (decide (x.2.2.2.2<x.2.2.2.1)) then(bif (decide (x.2.2.2.2<130)) then(some (!x.2.1.2.2)) else(some false)) else(some false)):Option Bool).bind fun j4=>(bif j4 then((u1t x.2.1).bind fun y5=>((u1t y5.2).bind fun y6=>((u6r y6.2).bind fun y7=>((u2i y7.2).bind fun y8=>(bif (Nat.ble (x.2.2.1.1.length+([(y5.1,(y6.1,(y7.1,y8.1)))] :List u0i.den).length) z7w) then(g (x.1,(y8.2,(((x.2.2.1.1++([(y5.1,(y6.1,(y7.1,y8.1)))] :List u0i.den)),x.2.2.1.2),(x.2.2.2.1,(IntKind.i64.wrap (x.2.2.2.2+1))))))) else none))))) else(some (.inl (x.1,(x.2.1,x.2.2.1))))))
def u8k:=lpW _ _ t2z
theorem s4q x:u8k x=t2z u8k x:=zW s32 65 Tryz.f65 6 79 x (by kernel_rfl)
def s8x (x:p0d):Option Z82:=((u2i (x.1,(x.2,false))).bind fun y1=>((u2i y1.2).bind fun y2=>((u2i y2.2).bind fun y3=>((u8k ((([] :List u0i.den),(([] :List u0a.den),(([] :List u0a.den),(0,0)))),(y3.2,((([] :List u0i.den),(([] :List u0a.den),(([] :List u0a.den),(y1.1,y2.1)))),(y3.1,0))))).bind fun r9=>match r9 with | .inl o10=>((t1t (o10.2.1,12)).bind fun y11=>((t1t (y11.2,3)).bind fun y12=>(((bif y12.2.2.2 then(some true) else((u7s (o10.2.2.1,(y11.1,(y12.1,o10.2.2.2.2.2)))).bind fun y13=>(some (!y13)))):Option Bool).bind fun j14=>(bif j14 then(some ((([] :List u0i.den),(([] :List u0a.den),(([] :List u0a.den),(0,0)))),(0,false))) else(some ((o10.2.2.1,(y11.1,(y12.1,o10.2.2.2.2.2))),(y12.2.2.1,true))))))) | .inr z15=>none))))
theorem q02:s0u=s8x:=zC 65 rfl Tryz.func65 (by kernel_rfl)
def t61(x:t3v):Option Bool:=zK 190 x
def s9b (x:t3v):Option Bool:=(((bif (decide (x.1=0)) then(bif (decide (x.2.1=0)) then(bif (decide (x.2.2.1=0)) then(bif (decide (x.2.2.2.1=0)) then(bif (decide ((x.2.2.2.2.1.length:Int)=(0:Int))) then(bif (decide ((x.2.2.2.2.2.1.length:Int)=(0:Int))) then(bif (!x.2.2.2.2.2.2.1) then(some (z7o x.2.2.2.2.2.2.2 (⟨#[]⟩:ByteArray))) else(some false)) else(some false)) else(some false)) else(some false)) else(some false)) else(some false)) else(some false)):Option Bool).bind fun j1=>(some j1))
theorem q1f:t61=s9b:=zC 190 rfl Tryz.func190 (by kernel_rfl)
def t9a(x:Z99):Option Bool:=zK 192 x
def s6a (x:Z99):Option Bool:=(((bif (decide (x.2.2.2.1=0)) then(bif (decide (x.2.2.2.2=0)) then(bif (decide ((x.1.length:Int)=(0:Int))) then(bif (decide ((x.2.1.length:Int)=(0:Int))) then(some (decide ((x.2.2.1.length:Int)=(0:Int)))) else(some false)) else(some false)) else(some false)) else(some false)):Option Bool).bind fun j1=>(some j1))
theorem r9e:t9a=s6a:=zC 192 rfl Tryz.func192 (by kernel_rfl)
def t6v(x:Z35):Option Bool:=zK 66 x
def s8y (x:Z35):Option Bool:=((u0n (x.1,(1,4))).bind fun y1=>(bif (!y1) then(some false) else(((bif (decide (x.1=1)) then(some true) else(some (decide (x.1=2)))):Option Bool).bind fun j2=>(((bif j2 then((u6n x.2.1).bind fun y3=>(bif (!y3) then(some true) else(bif (!j2) then((t61 x.2.1).bind fun y4=>(bif (!y4) then(some true) else(bif (decide (x.1=1)) then(bif (!decide (x.2.1.2.1=3)) then(some true) else(bif (decide (x.1=2)) then(some (!decide (x.2.1.2.1=2))) else(some false))) else(bif (decide (x.1=2)) then(some (!decide (x.2.1.2.1=2))) else(some false))))) else(bif (decide (x.1=1)) then(bif (!decide (x.2.1.2.1=3)) then(some true) else(bif (decide (x.1=2)) then(some (!decide (x.2.1.2.1=2))) else(some false))) else(bif (decide (x.1=2)) then(some (!decide (x.2.1.2.1=2))) else(some false)))))) else(bif (!j2) then((t61 x.2.1).bind fun y5=>(bif (!y5) then(some true) else(bif (decide (x.1=1)) then(bif (!decide (x.2.1.2.1=3)) then(some true) else(bif (decide (x.1=2)) then(some (!decide (x.2.1.2.1=2))) else(some false))) else(bif (decide (x.1=2)) then(some (!decide (x.2.1.2.1=2))) else(some false))))) else(bif (decide (x.1=1)) then(bif (!decide (x.2.1.2.1=3)) then(some true) else(bif (decide (x.1=2)) then(some (!decide (x.2.1.2.1=2))) else(some false))) else(bif (decide (x.1=2)) then(some (!decide (x.2.1.2.1=2))) else(some false))))):Option Bool).bind fun j6=>(bif j6 then(some false) else(((bif (decide (x.1=3)) then((u6l x.2.2.1).bind fun y7=>(bif (!y7) then(some true) else(bif (!decide (x.1=3)) then(bif (!z7o x.2.2.1 (⟨#[]⟩:ByteArray)) then(some true) else(some x.2.2.2.1)) else(some false)))) else(bif (!decide (x.1=3)) then(bif (!z7o x.2.2.1 (⟨#[]⟩:ByteArray)) then(some true) else(some x.2.2.2.1)) else(some false))):Option Bool).bind fun j8=>(bif j8 then(some false) else(bif (decide (x.1=4)) then((u7s x.2.2.2.2).bind fun y9=>(some y9)) else((t9a x.2.2.2.2).bind fun y10=>(some y10))))))))))
theorem q03:t6v=s8y:=zC 66 rfl Tryz.func66 (by kernel_rfl)
def t8e(x:Int):Option ByteArray:=zK 307 x
def r2e (x:Int):Option ByteArray:=(some (y7g ([(IntKind.u8.wrap (Int.fdiv x (2^(min ((24:Int)).toNat (IntKind.u32).bits)))),(IntKind.u8.wrap (Int.fdiv x (2^(min ((16:Int)).toNat (IntKind.u32).bits)))),(IntKind.u8.wrap (Int.fdiv x (2^(min ((8:Int)).toNat (IntKind.u32).bits)))),(IntKind.u8.wrap x)] :List Int)))
theorem r2z:t8e=r2e:=zC 307 rfl Tryz.func307 (by kernel_rfl)
def s2x(x:(Int×ByteArray)):Option Int:=zK 392 x
def s5v(g:(Int×(ByteArray×p6n))→Option ((Int×p0d)⊕Unit))(x:(Int×(ByteArray×p6n))):Option ((Int×p0d)⊕Unit):=(bif (decide (x.2.2.2<8)) then(bif (decide ((Int.tmod x.1 (2:Int))=1)) then(g ((IntKind.u32.wrap ((BitVec.ofInt (IntKind.u32).bits (IntKind.u32.wrap (Int.tdiv x.1 (2:Int)))^^^BitVec.ofInt (IntKind.u32).bits (3558460437:Int)).toNat:Int)),(x.2.1,(x.2.2.1,(IntKind.i64.wrap (x.2.2.2+1)))))) else(g ((IntKind.u32.wrap (Int.tdiv x.1 (2:Int))),(x.2.1,(x.2.2.1,(IntKind.i64.wrap (x.2.2.2+1))))))) else(some (.inl (x.1,(x.2.1,x.2.2.1)))))
def t47:=lpW _ _ s5v
theorem r9l x:t47 x=s5v t47 x:=zW s6y 392 Tryz.f392 6 33 x (by kernel_rfl)
def t4u(g:(Int×p0d)→Option p4t)(x:(Int×p0d)):Option p4t:=(bif (decide (x.2.2<(x.2.1.size:Int))) then(bif (y4q x.2.2 x.2.1.size) then((t47 ((IntKind.u32.wrap ((BitVec.ofInt (IntKind.u32).bits x.1^^^BitVec.ofInt (IntKind.u32).bits (IntKind.u32.wrap ((x.2.1.data.toList.getD (x.2.2).toNat 0).toNat:Int))).toNat:Int)),(x.2.1,(x.2.2,0)))).bind fun r1=>match r1 with | .inl o2=>(g (o2.1,(o2.2.1,(IntKind.i64.wrap (o2.2.2+1))))) | .inr z3=>(some (.inr ()))) else none) else(some (.inl x.1)))
def t46:=lpW _ _ t4u
theorem s7r x:t46 x=t4u t46 x:=zW s6x 392 Tryz.f392 2 33 x (by kernel_rfl)
def r1w (x:(Int×ByteArray)):Option Int:=((t46 (x.1,(x.2,0))).bind fun r4=>match r4 with | .inl o5=>(some o5) | .inr z6=>none)
theorem q28:s2x=r1w:=zC 392 rfl Tryz.func392 (by kernel_rfl)
def s17(x:ByteArray):Option Int:=zK 308 x
def s81 (x:ByteArray):Option Int:=((s2x (4294967295,x)).bind fun y1=>(some y1))
theorem r76:s17=s81:=zC 308 rfl Tryz.func308 (by kernel_rfl)
def t6x(x:ByteArray):Option r8j:=zK 178 x
def r4y (x:ByteArray):Option r8j:=(bif (decide ((x.size:Int) >(20000:Int))) then(some ((⟨#[]⟩:ByteArray),false)) else((s17 x).bind fun y1=>((t8e y1).bind fun y2=>(bif (decide (x.size+y2.size≤140737488355328)) then(some ((x++y2),true)) else none))))
theorem q6m:t6x=r4y:=zC 178 rfl Tryz.func178 (by kernel_rfl)
def u2y(x:ByteArray):Option ByteArray:=zK 304 x
def s9a (x:ByteArray):Option ByteArray:=((u1s (x.size:Int)).bind fun y1=>(bif (decide (y1.size+x.size≤140737488355328)) then(some (y1++x)) else none))
theorem q1e:u2y=s9a:=zC 304 rfl Tryz.func304 (by kernel_rfl)
def t3m(x:Bool):Option ByteArray:=zK 305 x
def r45 (x:Bool):Option ByteArray:=(bif x then(some (⟨#[1]⟩:ByteArray)) else(some (⟨#[0]⟩:ByteArray)))
theorem q6t:t3m=r45:=zC 305 rfl Tryz.func305 (by kernel_rfl)
def t8d(x:t3v):Option r8j:=zK 306 x
def t4y(g:o1v→Option (p62⊕Unit))(x:o1v):Option (p62⊕Unit):=(bif (decide (x.2.2<(x.1.2.2.2.2.1.length:Int))) then(bif (y4q x.2.2 x.1.2.2.2.2.1.length) then((u2y (rdL q5p x.1.2.2.2.2.1 (x.2.2).toNat).1).bind fun y7=>(bif (decide (x.2.1.size+y7.size≤140737488355328)) then(bif (y4q x.2.2 x.1.2.2.2.2.1.length) then((u2y (rdL q5p x.1.2.2.2.2.1 (x.2.2).toNat).2).bind fun y8=>(bif (decide ((x.2.1++y7).size+y8.size≤140737488355328)) then(g (x.1,(((x.2.1++y7)++y8),(IntKind.i64.wrap (x.2.2+1))))) else none)) else none) else none)) else none) else(some (.inl (x.1,x.2.1))))
def t0l:=lpW _ _ t4y
theorem s7v x:t0l x=t4y t0l x:=zW s62 306 Tryz.f306 5 101 x (by kernel_rfl)
def t24(g:o1v→Option (p62⊕Unit))(x:o1v):Option (p62⊕Unit):=(bif (decide (x.2.2<(x.1.2.2.2.2.2.1.length:Int))) then(bif (y4q x.2.2 x.1.2.2.2.2.2.1.length) then((u2y (rdL u2f x.1.2.2.2.2.2.1 (x.2.2).toNat).1).bind fun y12=>(bif (decide (x.2.1.size+y12.size≤140737488355328)) then(bif (y4q x.2.2 x.1.2.2.2.2.2.1.length) then((u2y (rdL u2f x.1.2.2.2.2.2.1 (x.2.2).toNat).2.1).bind fun y13=>(bif (decide ((x.2.1++y12).size+y13.size≤140737488355328)) then(bif (y4q x.2.2 x.1.2.2.2.2.2.1.length) then((t3m (rdL u2f x.1.2.2.2.2.2.1 (x.2.2).toNat).2.2).bind fun y14=>(bif (decide (((x.2.1++y12)++y13).size+y14.size≤140737488355328)) then(g (x.1,((((x.2.1++y12)++y13)++y14),(IntKind.i64.wrap (x.2.2+1))))) else none)) else none) else none)) else none) else none)) else none) else(some (.inl (x.1,x.2.1))))
def u8n:=lpW _ _ t24
theorem s4v x:u8n x=t24 u8n x:=zW s37 306 Tryz.f306 10 101 x (by kernel_rfl)
def r12 (x:t3v):Option r8j:=((u6n x).bind fun y1=>(bif (!y1) then(some ((⟨#[]⟩:ByteArray),false)) else((u1s x.1).bind fun y2=>((u1s x.2.1).bind fun y3=>(bif (decide (y2.size+y3.size≤140737488355328)) then((u1s x.2.2.1).bind fun y4=>(bif (decide ((y2++y3).size+y4.size≤140737488355328)) then((u1s x.2.2.2.1).bind fun y5=>(bif (decide (((y2++y3)++y4).size+y5.size≤140737488355328)) then((u1s (x.2.2.2.2.1.length:Int)).bind fun y6=>(bif (decide ((((y2++y3)++y4)++y5).size+y6.size≤140737488355328)) then((t0l (x,(((((y2++y3)++y4)++y5)++y6),0))).bind fun r9=>match r9 with | .inl o10=>((u1s (o10.1.2.2.2.2.2.1.length:Int)).bind fun y11=>(bif (decide (o10.2.size+y11.size≤140737488355328)) then((u8n (o10.1,((o10.2++y11),0))).bind fun r15=>match r15 with | .inl o16=>((t3m o16.1.2.2.2.2.2.2.1).bind fun y17=>(bif (decide (o16.2.size+y17.size≤140737488355328)) then((u2y o16.1.2.2.2.2.2.2.2).bind fun y18=>(bif (decide ((o16.2++y17).size+y18.size≤140737488355328)) then(some (((o16.2++y17)++y18),true)) else none)) else none)) | .inr z19=>none) else none)) | .inr z20=>none) else none)) else none)) else none)) else none)))))
theorem q3c:t8d=r12:=zC 306 rfl Tryz.func306 (by kernel_rfl)
def t8g(x:r57):Option ByteArray:=zK 314 x
def t42(g:o4r→Option (ByteArray⊕Unit))(x:o4r):Option (ByteArray⊕Unit):=(bif (decide (x.2.2<(x.1.length:Int))) then(bif (y4q x.2.2 x.1.length) then((t8d (rdL u0a x.1 (x.2.2).toNat)).bind fun y2=>(bif (decide (x.2.1.size+y2.1.size≤140737488355328)) then(g (x.1,((x.2.1++y2.1),(IntKind.i64.wrap (x.2.2+1))))) else none)) else none) else(some (.inl x.2.1)))
def t0p:=lpW _ _ t42
theorem s70 x:t0p x=t42 t0p x:=zW s68 314 Tryz.f314 3 28 x (by kernel_rfl)
def r2p (x:r57):Option ByteArray:=((u1s (x.length:Int)).bind fun y1=>((t0p (x,(y1,0))).bind fun r3=>match r3 with | .inl o4=>(some o4) | .inr z5=>none))
theorem q3s:t8g=r2p:=zC 314 rfl Tryz.func314 (by kernel_rfl)
def s0p(x:Z99):Option r8j:=zK 185 x
def t2u(g:Z80→Option (Z90⊕Unit))(x:Z80):Option (Z90⊕Unit):=(bif (decide (x.2.2<(x.1.1.length:Int))) then(bif (y4q x.2.2 x.1.1.length) then((u2y (rdL u0i x.1.1 (x.2.2).toNat).1).bind fun y5=>(bif (decide (x.2.1.size+y5.size≤140737488355328)) then((u2y (rdL u0i x.1.1 (x.2.2).toNat).2.1).bind fun y6=>(bif (decide ((x.2.1++y5).size+y6.size≤140737488355328)) then((t3m (rdL u0i x.1.1 (x.2.2).toNat).2.2.1).bind fun y7=>(bif (decide (((x.2.1++y5)++y6).size+y7.size≤140737488355328)) then((u1s (rdL u0i x.1.1 (x.2.2).toNat).2.2.2).bind fun y8=>(bif (decide ((((x.2.1++y5)++y6)++y7).size+y8.size≤140737488355328)) then(g (x.1,(((((x.2.1++y5)++y6)++y7)++y8),(IntKind.i64.wrap (x.2.2+1))))) else none)) else none)) else none)) else none)) else none) else(some (.inl (x.1,x.2.1))))
def u8j:=lpW _ _ t2u
theorem s4l x:u8j x=t2u u8j x:=zW s3x 185 Tryz.f185 5 60 x (by kernel_rfl)
def s8q (x:Z99):Option r8j:=((u7s x).bind fun y1=>(bif (!y1) then(some ((⟨#[]⟩:ByteArray),false)) else((u1s x.2.2.2.1).bind fun y2=>((u1s x.2.2.2.2).bind fun y3=>(bif (decide (y2.size+y3.size≤140737488355328)) then((u1s (x.1.length:Int)).bind fun y4=>(bif (decide ((y2++y3).size+y4.size≤140737488355328)) then((u8j (x,(((y2++y3)++y4),0))).bind fun r9=>match r9 with | .inl o10=>((t8g o10.1.2.1).bind fun y11=>(bif (decide (o10.2.size+y11.size≤140737488355328)) then((t8g o10.1.2.2.1).bind fun y12=>(bif (decide ((o10.2++y11).size+y12.size≤140737488355328)) then(some (((o10.2++y11)++y12),true)) else none)) else none)) | .inr z13=>none) else none)) else none)))))
theorem q0v:s0p=s8q:=zC 185 rfl Tryz.func185 (by kernel_rfl)
def u3m(x:Z35):Option r8j:=zK 176 x
def s3h (x:Z35):Option r8j:=((t6v x).bind fun y1=>(bif (!y1) then(some ((⟨#[]⟩:ByteArray),false)) else(bif (decide (x.1=3)) then((u2y x.2.2.1).bind fun y2=>(bif (decide ((y7g ([(IntKind.u8.wrap x.1)] :List Int)).size+y2.size≤140737488355328)) then((t3m x.2.2.2.1).bind fun y3=>(bif (decide (((y7g ([(IntKind.u8.wrap x.1)] :List Int))++y2).size+y3.size≤140737488355328)) then((t6x (((y7g ([(IntKind.u8.wrap x.1)] :List Int))++y2)++y3)).bind fun y4=>(some y4)) else none)) else none)) else(bif (decide (x.1=4)) then((s0p x.2.2.2.2).bind fun y5=>(bif (decide ((y7g ([(IntKind.u8.wrap x.1)] :List Int)).size+y5.1.size≤140737488355328)) then((t6x ((y7g ([(IntKind.u8.wrap x.1)] :List Int))++y5.1)).bind fun y6=>(some y6)) else none)) else((t8d x.2.1).bind fun y7=>(bif (decide ((y7g ([(IntKind.u8.wrap x.1)] :List Int)).size+y7.1.size≤140737488355328)) then((t6x ((y7g ([(IntKind.u8.wrap x.1)] :List Int))++y7.1)).bind fun y8=>(some y8)) else none))))))
theorem r6o:u3m=s3h:=zC 176 rfl Tryz.func176 (by kernel_rfl)
def s0w(x:ByteArray):Option r8j:=zK 177 x
def s82 (x:ByteArray):Option r8j:=(((bif (decide ((IntKind.i64.wrap ((x.size:Int) - (4:Int)))<0)) then(some true) else(bif (decide ((IntKind.i64.wrap ((x.size:Int) - (4:Int))) >20000)) then(some true) else(bif (decide (0≤(IntKind.i64.wrap ((x.size:Int) - (4:Int))))&&decide ((IntKind.i64.wrap ((x.size:Int) - (4:Int)))≤(x.size:Int))&&decide ((x.size:Int)≤(x.size:Int))) then(bif (decide (0≤(0:Int))&&decide ((0:Int)≤(IntKind.i64.wrap ((x.size:Int) - (4:Int))))&&decide ((IntKind.i64.wrap ((x.size:Int) - (4:Int)))≤(x.size:Int))) then((s17 (x.extract ((0:Int)).toNat ((IntKind.i64.wrap ((x.size:Int) - (4:Int)))).toNat)).bind fun y1=>((t8e y1).bind fun y2=>(some (!z7o (x.extract ((IntKind.i64.wrap ((x.size:Int) - (4:Int)))).toNat ((x.size:Int)).toNat) y2)))) else none) else none))):Option Bool).bind fun j3=>(bif j3 then(some ((⟨#[]⟩:ByteArray),false)) else(bif (decide (0≤(0:Int))&&decide ((0:Int)≤(IntKind.i64.wrap ((x.size:Int) - (4:Int))))&&decide ((IntKind.i64.wrap ((x.size:Int) - (4:Int)))≤(x.size:Int))) then(some ((x.extract ((0:Int)).toNat ((IntKind.i64.wrap ((x.size:Int) - (4:Int)))).toNat),true)) else none)))
theorem q06:s0w=s82:=zC 177 rfl Tryz.func177 (by kernel_rfl)
def t7i(x:ByteArray):Option Z32:=zK 60 x
def s3f (x:ByteArray):Option Z32:=((s0w x).bind fun y1=>(((bif (!y1.2) then(some true) else(some (z7o y1.1 (⟨#[]⟩:ByteArray)))):Option Bool).bind fun j2=>(bif j2 then(some ((0,((0,(0,(0,(0,(([] :List q5p.den),(([] :List u2f.den),(false,(⟨#[]⟩:ByteArray)))))))),((⟨#[]⟩:ByteArray),(false,(([] :List u0i.den),(([] :List u0a.den),(([] :List u0a.den),(0,0)))))))),false)) else(bif (y4q (0:Int) y1.1.size) then(bif (decide ((IntKind.i64.wrap ((y1.1.data.toList.getD ((0:Int)).toNat 0).toNat:Int))=3)) then((u1t (y1.1,(1,false))).bind fun y3=>((u6r y3.2).bind fun y4=>((u3m ((IntKind.i64.wrap ((y1.1.data.toList.getD ((0:Int)).toNat 0).toNat:Int)),((0,(0,(0,(0,(([] :List q5p.den),(([] :List u2f.den),(false,(⟨#[]⟩:ByteArray)))))))),(y3.1,(y4.1,(([] :List u0i.den),(([] :List u0a.den),(([] :List u0a.den),(0,0))))))))).bind fun y5=>(((bif (!y5.2) then(some true) else(some (!z7o y5.1 x))):Option Bool).bind fun j6=>(bif j6 then(some ((0,((0,(0,(0,(0,(([] :List q5p.den),(([] :List u2f.den),(false,(⟨#[]⟩:ByteArray)))))))),((⟨#[]⟩:ByteArray),(false,(([] :List u0i.den),(([] :List u0a.den),(([] :List u0a.den),(0,0)))))))),false)) else(some (((IntKind.i64.wrap ((y1.1.data.toList.getD ((0:Int)).toNat 0).toNat:Int)),((0,(0,(0,(0,(([] :List q5p.den),(([] :List u2f.den),(false,(⟨#[]⟩:ByteArray)))))))),(y3.1,(y4.1,(([] :List u0i.den),(([] :List u0a.den),(([] :List u0a.den),(0,0)))))))),true))))))) else(bif (decide ((IntKind.i64.wrap ((y1.1.data.toList.getD ((0:Int)).toNat 0).toNat:Int))=4)) then((s0u (y1.1,1)).bind fun y7=>((u3m ((IntKind.i64.wrap ((y1.1.data.toList.getD ((0:Int)).toNat 0).toNat:Int)),((0,(0,(0,(0,(([] :List q5p.den),(([] :List u2f.den),(false,(⟨#[]⟩:ByteArray)))))))),((⟨#[]⟩:ByteArray),(false,y7.1))))).bind fun y8=>(((bif (!y8.2) then(some true) else(some (!z7o y8.1 x))):Option Bool).bind fun j9=>(bif j9 then(some ((0,((0,(0,(0,(0,(([] :List q5p.den),(([] :List u2f.den),(false,(⟨#[]⟩:ByteArray)))))))),((⟨#[]⟩:ByteArray),(false,(([] :List u0i.den),(([] :List u0a.den),(([] :List u0a.den),(0,0)))))))),false)) else(some (((IntKind.i64.wrap ((y1.1.data.toList.getD ((0:Int)).toNat 0).toNat:Int)),((0,(0,(0,(0,(([] :List q5p.den),(([] :List u2f.den),(false,(⟨#[]⟩:ByteArray)))))))),((⟨#[]⟩:ByteArray),(false,y7.1)))),true)))))) else((t8b (y1.1,1)).bind fun y10=>((u3m ((IntKind.i64.wrap ((y1.1.data.toList.getD ((0:Int)).toNat 0).toNat:Int)),(y10.1,((⟨#[]⟩:ByteArray),(false,(([] :List u0i.den),(([] :List u0a.den),(([] :List u0a.den),(0,0))))))))).bind fun y11=>(((bif (!y11.2) then(some true) else(some (!z7o y11.1 x))):Option Bool).bind fun j12=>(bif j12 then(some ((0,((0,(0,(0,(0,(([] :List q5p.den),(([] :List u2f.den),(false,(⟨#[]⟩:ByteArray)))))))),((⟨#[]⟩:ByteArray),(false,(([] :List u0i.den),(([] :List u0a.den),(([] :List u0a.den),(0,0)))))))),false)) else(some (((IntKind.i64.wrap ((y1.1.data.toList.getD ((0:Int)).toNat 0).toNat:Int)),(y10.1,((⟨#[]⟩:ByteArray),(false,(([] :List u0i.den),(([] :List u0a.den),(([] :List u0a.den),(0,0)))))))),true)))))))) else none))))
theorem r6m:t7i=s3f:=zC 60 rfl Tryz.func60 (by kernel_rfl)
def s0s(x:Z71):Option Int:=zK 105 x
def t2w(g:o2b→Option p4t)(x:o2b):Option p4t:=(bif (decide (x.2.2<(x.1.length:Int))) then(bif (y4q x.2.2 x.1.length) then(bif (decide ((rdL u0a x.1 (x.2.2).toNat).2.2.1<x.2.1)) then(bif (y4q x.2.2 x.1.length) then(g (x.1,((rdL u0a x.1 (x.2.2).toNat).2.2.1,(IntKind.i64.wrap (x.2.2+1))))) else none) else(g (x.1,(x.2.1,(IntKind.i64.wrap (x.2.2+1)))))) else none) else(some (.inl x.2.1)))
def t3a:=lpW _ _ t2w
theorem s4n x:t3a x=t2w t3a x:=zW s3z 105 Tryz.f105 3 28 x (by kernel_rfl)
def s8u (x:Z71):Option Int:=((t3a (x.2,(x.1.2.2.2.1,0))).bind fun r1=>match r1 with | .inl o2=>(some o2) | .inr z3=>none)
theorem q0z:s0s=s8u:=zC 105 rfl Tryz.func105 (by kernel_rfl)
def s18(x:o0e):Option Int:=zK 113 x
def t7y(g:o4s→Option p4t)(x:o4s):Option p4t:=(bif (decide (x.2.2.2.2<(x.1.length:Int))) then(((bif (y4q x.2.2.2.2 x.1.length) then(bif (z7o (rdL u0i x.1 (x.2.2.2.2).toNat).1 x.2.1) then(bif (y4q x.2.2.2.2 x.1.length) then(bif (decide ((rdL u0i x.1 (x.2.2.2.2).toNat).2.2.2≤x.2.2.1)) then(bif (decide (x.2.2.2.1<0)) then(some true) else(bif (y4q x.2.2.2.2 x.1.length) then(bif (y4q x.2.2.2.1 x.1.length) then(some (decide ((rdL u0i x.1 (x.2.2.2.2).toNat).2.2.2 >(rdL u0i x.1 (x.2.2.2.1).toNat).2.2.2))) else none) else none)) else(some false)) else none) else(some false)) else none):Option Bool).bind fun j1=>(bif j1 then(g (x.1,(x.2.1,(x.2.2.1,(x.2.2.2.2,(IntKind.i64.wrap (x.2.2.2.2+1))))))) else(g (x.1,(x.2.1,(x.2.2.1,(x.2.2.2.1,(IntKind.i64.wrap (x.2.2.2.2+1))))))))) else(some (.inl x.2.2.2.1)))
def t32:=lpW _ _ t7y
theorem r3p x:t32 x=t7y t32 x:=zW r3a 113 Tryz.f113 3 50 x (by kernel_rfl)
def r70 (x:o0e):Option Int:=((t32 (x.1,(x.2.1,(x.2.2,((-1:Int),0))))).bind fun r2=>match r2 with | .inl o3=>(some o3) | .inr z4=>none)
theorem q80:s18=r70:=zC 113 rfl Tryz.func113 (by kernel_rfl)
def s2z(x:o0j):Option q7n:=zK 107 x
def t4x(g:o4o→Option o2n)(x:o4o):Option o2n:=(bif (decide (x.2.2.2<(x.1.length:Int))) then(bif (y4q x.2.2.2 x.1.length) then((s18 (x.1,((rdL u0i x.1 (x.2.2.2).toNat).1,x.2.1))).bind fun y1=>(((bif (y4q x.2.2.2 x.1.length) then(bif (decide ((rdL u0i x.1 (x.2.2.2).toNat).2.2.2 >x.2.1)) then(some true) else(some (decide (y1=x.2.2.2)))) else none):Option Bool).bind fun j2=>(bif j2 then(bif (y4q x.2.2.2 x.1.length) then(bif (Nat.ble (x.2.2.1.length+([(rdL u0i x.1 (x.2.2.2).toNat)] :List u0i.den).length) z7w) then(g (x.1,(x.2.1,((x.2.2.1++([(rdL u0i x.1 (x.2.2.2).toNat)] :List u0i.den)),(IntKind.i64.wrap (x.2.2.2+1)))))) else none) else none) else(g (x.1,(x.2.1,(x.2.2.1,(IntKind.i64.wrap (x.2.2.2+1))))))))) else none) else(some (.inl (x.2.1,x.2.2.1))))
def t0k:=lpW _ _ t4x
theorem s7u x:t0k x=t4x t0k x:=zW s61 107 Tryz.f107 3 99 x (by kernel_rfl)
def t23(g:o4h→Option (o29⊕Unit))(x:o4h):Option (o29⊕Unit):=(bif (decide (x.2.2.2.2.2<(x.2.1.length:Int))) then(bif (y4q x.2.2.2.2.2 x.2.1.length) then(bif (y4q x.2.2.2.1 x.2.1.length) then(bif (z7o (rdL u0i x.2.1 (x.2.2.2.2.2).toNat).1 (rdL u0i x.2.1 (x.2.2.2.1).toNat).1) then(g (x.1,(x.2.1,(x.2.2.1,(x.2.2.2.1,((IntKind.i64.wrap (x.2.2.2.2.1+1)),(IntKind.i64.wrap (x.2.2.2.2.2+1)))))))) else(g (x.1,(x.2.1,(x.2.2.1,(x.2.2.2.1,(x.2.2.2.2.1,(IntKind.i64.wrap (x.2.2.2.2.2+1))))))))) else none) else none) else(some (.inl (x.1,(x.2.1,(x.2.2.1,(x.2.2.2.1,x.2.2.2.2.1)))))))
def u8m:=lpW _ _ t23
theorem s4u x:u8m x=t23 u8m x:=zW s36 107 Tryz.f107 14 99 x (by kernel_rfl)
def t22(g:o4p→Option p8z)(x:o4p):Option p8z:=(bif (decide (x.2.2.2<(x.2.1.length:Int))) then((u8m (x.1,(x.2.1,(x.2.2.1,(x.2.2.2,(0,0)))))).bind fun r5=>match r5 with | .inl o6=>(((bif (y4q o6.2.2.2.1 o6.2.1.length) then(bif (!(rdL u0i o6.2.1 (o6.2.2.2.1).toNat).2.2.1) then(some true) else(bif (y4q o6.2.2.2.1 o6.2.1.length) then(bif (decide ((rdL u0i o6.2.1 (o6.2.2.2.1).toNat).2.2.2 >o6.1)) then(some true) else(some (decide (o6.2.2.2.2 >1)))) else none)) else none):Option Bool).bind fun j7=>(bif j7 then(bif (y4q o6.2.2.2.1 o6.2.1.length) then(bif (Nat.ble (o6.2.2.1.length+([(rdL u0i o6.2.1 (o6.2.2.2.1).toNat)] :List u0i.den).length) z7w) then(g (o6.1,(o6.2.1,((o6.2.2.1++([(rdL u0i o6.2.1 (o6.2.2.2.1).toNat)] :List u0i.den)),(IntKind.i64.wrap (o6.2.2.2.1+1)))))) else none) else none) else(g (o6.1,(o6.2.1,(o6.2.2.1,(IntKind.i64.wrap (o6.2.2.2.1+1)))))))) | .inr z8=>(some (.inr ()))) else(some (.inl x.2.2.1)))
def t3d:=lpW _ _ t22
theorem s4t x:t3d x=t22 t3d x:=zW s35 107 Tryz.f107 10 99 x (by kernel_rfl)
def r1z (x:o0j):Option q7n:=((t0k (x.1,(x.2,(([] :List u0i.den),0)))).bind fun r3=>match r3 with | .inl o4=>((t3d (o4.1,(o4.2,(([] :List u0i.den),0)))).bind fun r9=>match r9 with | .inl o10=>(some o10) | .inr z11=>none) | .inr z12=>none)
theorem q3b:s2z=r1z:=zC 107 rfl Tryz.func107 (by kernel_rfl)
def t3l(x:Z71):Option Z99:=zK 21 x
def t57(g:Z16→Option (Z17⊕Unit))(x:Z16):Option (Z17⊕Unit):=(bif (decide (x.2.2.2.2<(x.1.2.1.length:Int))) then(bif (y4q x.2.2.2.2 x.1.2.1.length) then(bif (decide ((rdL u0a x.1.2.1 (x.2.2.2.2).toNat).2.2.2.1 >x.2.2.2.1)) then(bif (y4q x.2.2.2.2 x.1.2.1.length) then((u05 (rdL u0a x.1.2.1 (x.2.2.2.2).toNat)).bind fun y3=>(bif (Nat.ble (x.2.2.1.2.1.length+([y3] :List u0a.den).length) z7w) then(g (x.1,(x.2.1,((x.2.2.1.1,((x.2.2.1.2.1++([y3] :List u0a.den)),x.2.2.1.2.2)),(x.2.2.2.1,(IntKind.i64.wrap (x.2.2.2.2+1))))))) else none)) else none) else(g (x.1,(x.2.1,(x.2.2.1,(x.2.2.2.1,(IntKind.i64.wrap (x.2.2.2.2+1)))))))) else none) else(some (.inl (x.1,(x.2.1,(x.2.2.1,x.2.2.2.1))))))
def t6e:=lpW _ _ t57
theorem r0j x:t6e x=t57 t6e x:=zW s9s 21 Tryz.f21 5 47 x (by kernel_rfl)
def r40 (x:Z71):Option Z99:=((u2z x.1).bind fun y1=>((s0s x).bind fun y2=>((t6e (x.1,((([] :List u0i.den),(([] :List u0a.den),(([] :List u0a.den),(0,0)))),((y1.1,(([] :List u0a.den),y1.2.2)),(y2,0))))).bind fun r4=>match r4 with | .inl o5=>((s2z (o5.1.1,o5.2.2.2)).bind fun y6=>(some (y6,o5.2.2.1.2))) | .inr z7=>none)))
theorem q6o:t3l=r40:=zC 21 rfl Tryz.func21 (by kernel_rfl)
def s5m(x:Z56):Option Bool:=zK 287 x
def r4m (x:Z56):Option Bool:=(bif (decide (x.1.1=x.2.1)) then(some false) else(((bif (decide (x.1.2.1=3)) then(bif (decide (x.1.2.2.2.1≤x.2.2.2.1)) then(some true) else(bif (decide (x.2.2.1=3)) then(some (decide (x.2.2.2.2.1≤x.1.2.2.1))) else(some false))) else(bif (decide (x.2.2.1=3)) then(some (decide (x.2.2.2.2.1≤x.1.2.2.1))) else(some false))):Option Bool).bind fun j1=>(bif j1 then(some false) else(some true))))
theorem q6a:s5m=r4m:=zC 287 rfl Tryz.func287 (by kernel_rfl)
def t79(x:o2h):Option Bool:=zK 281 x
def r1o (x:o2h):Option Bool:=(((bif (!y3c x.2 x.1.1) then(some (y3c x.2 x.1.2 || z7o x.2 x.1.2)) else(some false)):Option Bool).bind fun j1=>(some j1))
theorem q20:t79=r1o:=zC 281 rfl Tryz.func281 (by kernel_rfl)
def s2y(x:o2i):Option Bool:=zK 288 x
def t4w(g:o4x→Option (o2e⊕Bool))(x:o4x):Option (o2e⊕Bool):=(bif (decide (x.2.2.2<(x.2.1.length:Int))) then(bif (y4q x.2.2.1 x.1.length) then(bif (y4q x.2.2.2 x.2.1.length) then((t79 ((rdL q5p x.1 (x.2.2.1).toNat),(rdL u2f x.2.1 (x.2.2.2).toNat).1)).bind fun y1=>(bif y1 then(some (.inr true)) else(g (x.1,(x.2.1,(x.2.2.1,(IntKind.i64.wrap (x.2.2.2+1)))))))) else none) else none) else(some (.inl (x.1,(x.2.1,x.2.2.1)))))
def t0j:=lpW _ _ t4w
theorem s7t x:t0j x=t4w t0j x:=zW s60 288 Tryz.f288 5 29 x (by kernel_rfl)
def t4v(g:o2e→Option r8k)(x:o2e):Option r8k:=(bif (decide (x.2.2<(x.1.length:Int))) then((t0j (x.1,(x.2.1,(x.2.2,0)))).bind fun r2=>match r2 with | .inl o3=>(g (o3.1,(o3.2.1,(IntKind.i64.wrap (o3.2.2+1))))) | .inr z4=>(some (.inr z4))) else(some (.inl ())))
def t48:=lpW _ _ t4v
theorem s7s x:t48 x=t4v t48 x:=zW s6z 288 Tryz.f288 2 29 x (by kernel_rfl)
def r1y (x:o2i):Option Bool:=((t48 (x.1,(x.2,0))).bind fun r5=>match r5 with | .inl o6=>(some false) | .inr z7=>(some z7))
theorem q3a:s2y=r1y:=zC 288 rfl Tryz.func288 (by kernel_rfl)
def u2w(x:Z56):Option Bool:=zK 162 x
def r7q (x:Z56):Option Bool:=((((s5m x).bind fun y1=>(bif y1 then((s2y (x.1.2.2.2.2.1,x.2.2.2.2.2.2.1)).bind fun y2=>(some y2)) else(some false))):Option Bool).bind fun j3=>(some j3))
theorem q8q:u2w=r7q:=zC 162 rfl Tryz.func162 (by kernel_rfl)
def t8v(x:Z83):Option Bool:=zK 161 x
def t7w(g:Z76→Option r8k)(x:Z76):Option r8k:=(bif (decide (x.2.2<(x.1.length:Int))) then(((bif (y4q x.2.2 x.1.length) then(bif (decide ((rdL u0a x.1 (x.2.2).toNat).2.1=3)) then(bif (y4q x.2.2 x.1.length) then((u2w (x.2.1,(rdL u0a x.1 (x.2.2).toNat))).bind fun y1=>(some y1)) else none) else(some false)) else none):Option Bool).bind fun j2=>(bif j2 then(some (.inr true)) else(g (x.1,(x.2.1,(IntKind.i64.wrap (x.2.2+1))))))) else(some (.inl ())))
def t73:=lpW _ _ t7w
theorem r3n x:t73 x=t7w t73 x:=zW r28 161 Tryz.f161 2 26 x (by kernel_rfl)
def r7x (x:Z83):Option Bool:=((t73 (x.2,(x.1,0))).bind fun r3=>match r3 with | .inl o4=>(some false) | .inr z5=>(some z5))
theorem q8x:t8v=r7x:=zC 161 rfl Tryz.func161 (by kernel_rfl)
def t1r(x:o2c):Option q7n:=zK 379 x
def u8b(g:Z81→Option (Z81⊕Unit))(x:Z81):Option (Z81⊕Unit):=(((bif (decide (x.2.2.2.2.2.2<(x.2.2.1.length:Int))) then(bif (y4q x.2.2.2.2.2.2 x.2.2.1.length) then(bif (y3c (rdL u0i x.2.2.1 (x.2.2.2.2.2.2).toNat).1 x.2.2.2.2.1.1) then(some true) else(bif (y4q x.2.2.2.2.2.2 x.2.2.1.length) then(bif (z7o (rdL u0i x.2.2.1 (x.2.2.2.2.2.2).toNat).1 x.2.2.2.2.1.1) then(bif (y4q x.2.2.2.2.2.2 x.2.2.1.length) then(some (decide ((rdL u0i x.2.2.1 (x.2.2.2.2.2.2).toNat).2.2.2≤x.2.2.2.2.1.2.2.2))) else none) else(some false)) else none)) else none) else(some false)):Option Bool).bind fun j1=>(bif j1 then(bif (y4q x.2.2.2.2.2.2 x.2.2.1.length) then(bif (Nat.ble (x.2.2.2.2.2.1.length+([(rdL u0i x.2.2.1 (x.2.2.2.2.2.2).toNat)] :List u0i.den).length) z7w) then(g (x.1,(x.2.1,(x.2.2.1,(x.2.2.2.1,(x.2.2.2.2.1,((x.2.2.2.2.2.1++([(rdL u0i x.2.2.1 (x.2.2.2.2.2.2).toNat)] :List u0i.den)),(IntKind.i64.wrap (x.2.2.2.2.2.2+1))))))))) else none) else none) else(some (.inl x))))
def u6b:=lpW _ _ u8b
theorem t9s x:u6b x=u8b u6b x:=zW t9n 379 Tryz.f379 8 93 x (by kernel_rfl)
def u8a(g:o4q→Option p8z)(x:o4q):Option p8z:=(bif (decide (x.2.2.2<(x.1.length:Int))) then(bif (y4q x.2.2.2 x.1.length) then(bif (y4q x.2.2.2 x.1.length) then(bif (y4q x.2.2.2 x.1.length) then((u6b (x.1,(x.2.1,(x.2.2.1,(x.2.2.2,(((rdL u2f x.1 (x.2.2.2).toNat).1,((rdL u2f x.1 (x.2.2.2).toNat).2.1,((rdL u2f x.1 (x.2.2.2).toNat).2.2,x.2.1))),(([] :List u0i.den),0))))))).bind fun r2=>match r2 with | .inl o3=>(bif (Nat.ble (o3.2.2.2.2.2.1.length+([o3.2.2.2.2.1] :List u0i.den).length) z7w) then(bif (decide (0≤o3.2.2.2.2.2.2)&&decide (o3.2.2.2.2.2.2≤(o3.2.2.1.length:Int))&&decide ((o3.2.2.1.length:Int)≤(o3.2.2.1.length:Int))) then(bif (Nat.ble ((o3.2.2.2.2.2.1++([o3.2.2.2.2.1] :List u0i.den)).length+((o3.2.2.1.take ((o3.2.2.1.length:Int)).toNat).drop (o3.2.2.2.2.2.2).toNat).length) z7w) then(g (o3.1,(o3.2.1,(((o3.2.2.2.2.2.1++([o3.2.2.2.2.1] :List u0i.den))++((o3.2.2.1.take ((o3.2.2.1.length:Int)).toNat).drop (o3.2.2.2.2.2.2).toNat)),(IntKind.i64.wrap (o3.2.2.2.1+1)))))) else none) else none) else none) | .inr z4=>(some (.inr ()))) else none) else none) else none) else(some (.inl x.2.2.1)))
def u8e:=lpW _ _ u8a
theorem t9r x:u8e x=u8a u8e x:=zW t9m 379 Tryz.f379 3 93 x (by kernel_rfl)
def s1n (x:o2c):Option q7n:=(bif (Nat.ble (([] :List u0i.den).length+x.1.length) z7w) then((u8e (x.2.1,(x.2.2,((([] :List u0i.den)++x.1),0)))).bind fun r5=>match r5 with | .inl o6=>(some o6) | .inr z7=>none) else none)
theorem r5i:t1r=s1n:=zC 379 rfl Tryz.func379 (by kernel_rfl)
def u6m(x:Z46):Option Z99:=zK 318 x
def t21(g:Z4→Option (Z19⊕Unit))(x:Z4):Option (Z19⊕Unit):=(bif (decide (x.2.2.2.2.2<(x.1.2.2.1.length:Int))) then(bif (y4q x.2.2.2.2.2 x.1.2.2.1.length) then((u05 (rdL u0a x.1.2.2.1 (x.2.2.2.2.2).toNat)).bind fun y4=>(bif (decide (y4.1=x.2.1.1)) then(g (x.1,(x.2.1,(x.2.2.1,(x.2.2.2.1,(x.2.2.2.2.1,(IntKind.i64.wrap (x.2.2.2.2.2+1)))))))) else((u2w (y4,x.2.2.2.2.1)).bind fun y5=>(bif y5 then(bif (Nat.ble (x.2.2.2.1.2.2.1.length+([(y4.1,(y4.2.1,(y4.2.2.1,(y4.2.2.2.1,(y4.2.2.2.2.1,(y4.2.2.2.2.2.1,(true,y4.2.2.2.2.2.2.2)))))))] :List u0a.den).length) z7w) then(g (x.1,(x.2.1,(x.2.2.1,((x.2.2.2.1.1,(x.2.2.2.1.2.1,((x.2.2.2.1.2.2.1++([(y4.1,(y4.2.1,(y4.2.2.1,(y4.2.2.2.1,(y4.2.2.2.2.1,(y4.2.2.2.2.2.1,(true,y4.2.2.2.2.2.2.2)))))))] :List u0a.den)),x.2.2.2.1.2.2.2))),(x.2.2.2.2.1,(IntKind.i64.wrap (x.2.2.2.2.2+1)))))))) else none) else(bif (Nat.ble (x.2.2.2.1.2.2.1.length+([y4] :List u0a.den).length) z7w) then(g (x.1,(x.2.1,(x.2.2.1,((x.2.2.2.1.1,(x.2.2.2.1.2.1,((x.2.2.2.1.2.2.1++([y4] :List u0a.den)),x.2.2.2.1.2.2.2))),(x.2.2.2.2.1,(IntKind.i64.wrap (x.2.2.2.2.2+1)))))))) else none))))) else none) else(some (.inl (x.2.1,(x.2.2.1,x.2.2.2.1)))))
def u6p:=lpW _ _ t21
theorem s4s x:u6p x=t21 u6p x:=zW s34 318 Tryz.f318 12 85 x (by kernel_rfl)
def r1x (x:Z46):Option Z99:=((u2z x.1).bind fun y1=>((u05 x.2).bind fun y2=>(bif x.2.2.2.2.2.2.2.1 then((t1r (x.1.1,(y2.2.2.2.2.2.1,(IntKind.i64.wrap (x.1.2.2.2.1+1))))).bind fun y3=>(bif (Nat.ble (y1.2.1.length+([(y2.1,(3,(y2.2.2.1,((IntKind.i64.wrap (x.1.2.2.2.1+1)),(y2.2.2.2.2.1,(y2.2.2.2.2.2.1,(true,(⟨#[]⟩:ByteArray))))))))] :List u0a.den).length) z7w) then((u6p (x.1,(x.2,((([] :List u0i.den),(([] :List u0a.den),(([] :List u0a.den),(0,0)))),((y3,((y1.2.1++([(y2.1,(3,(y2.2.2.1,((IntKind.i64.wrap (x.1.2.2.2.1+1)),(y2.2.2.2.2.1,(y2.2.2.2.2.2.1,(true,(⟨#[]⟩:ByteArray))))))))] :List u0a.den)),(([] :List u0a.den),((IntKind.i64.wrap (x.1.2.2.2.1+1)),y1.2.2.2.2)))),((y2.1,(3,(y2.2.2.1,((IntKind.i64.wrap (x.1.2.2.2.1+1)),(y2.2.2.2.2.1,(y2.2.2.2.2.2.1,(true,(⟨#[]⟩:ByteArray)))))))),0)))))).bind fun r6=>match r6 with | .inl o7=>(bif (decide (o7.1.1≥o7.2.2.2.2.2.2)) then(some (o7.2.2.1,(o7.2.2.2.1,(o7.2.2.2.2.1,(o7.2.2.2.2.2.1,(IntKind.i64.wrap (o7.1.1+1))))))) else(some o7.2.2)) | .inr z8=>none) else none)) else((t8v (x.2,x.1.2.1)).bind fun y9=>((t1r (x.1.1,(y2.2.2.2.2.2.1,(IntKind.i64.wrap (x.1.2.2.2.1+1))))).bind fun y10=>(bif (Nat.ble (y1.2.1.length+([(y2.1,(3,(y2.2.2.1,((IntKind.i64.wrap (x.1.2.2.2.1+1)),(y2.2.2.2.2.1,(y2.2.2.2.2.2.1,(y9,(⟨#[]⟩:ByteArray))))))))] :List u0a.den).length) z7w) then((u6p (x.1,(x.2,((([] :List u0i.den),(([] :List u0a.den),(([] :List u0a.den),(0,0)))),((y10,((y1.2.1++([(y2.1,(3,(y2.2.2.1,((IntKind.i64.wrap (x.1.2.2.2.1+1)),(y2.2.2.2.2.1,(y2.2.2.2.2.2.1,(y9,(⟨#[]⟩:ByteArray))))))))] :List u0a.den)),(([] :List u0a.den),((IntKind.i64.wrap (x.1.2.2.2.1+1)),y1.2.2.2.2)))),((y2.1,(3,(y2.2.2.1,((IntKind.i64.wrap (x.1.2.2.2.1+1)),(y2.2.2.2.2.1,(y2.2.2.2.2.2.1,(y9,(⟨#[]⟩:ByteArray)))))))),0)))))).bind fun r13=>match r13 with | .inl o14=>(bif (decide (o14.1.1≥o14.2.2.2.2.2.2)) then(some (o14.2.2.1,(o14.2.2.2.1,(o14.2.2.2.2.1,(o14.2.2.2.2.2.1,(IntKind.i64.wrap (o14.1.1+1))))))) else(some o14.2.2)) | .inr z15=>none) else none))))))
theorem q29:u6m=r1x:=zC 318 rfl Tryz.func318 (by kernel_rfl)
def u11(x:Z90):Option Int:=zK 319 x
def u97(g:Z79→Option s8a)(x:Z79):Option s8a:=(bif (decide (x.2.2<(x.2.1.2.2.1.length:Int))) then(bif (y4q x.2.2 x.2.1.2.2.1.length) then(bif (z7o (rdL u0a x.2.1.2.2.1 (x.2.2).toNat).2.2.2.2.2.2.2 x.1) then(some (.inr x.2.2)) else(g (x.1,(x.2.1,(IntKind.i64.wrap (x.2.2+1)))))) else none) else(some (.inl ())))
def t0i:=lpW _ _ u97
theorem s7q x:t0i x=u97 t0i x:=zW s6w 319 Tryz.f319 2 22 x (by kernel_rfl)
def r1v (x:Z90):Option Int:=((t0i (x.2,(x.1,0))).bind fun r1=>match r1 with | .inl o2=>(some (-1:Int)) | .inr z3=>(some z3))
theorem q27:u11=r1v:=zC 319 rfl Tryz.func319 (by kernel_rfl)
def u59(x:Z42):Option Z99:=zK 320 x
def t1j(g:Z2→Option (Z3⊕Unit))(x:Z2):Option (Z3⊕Unit):=(bif (decide (x.2.2.2.2.2.2<(x.2.1.2.2.1.length:Int))) then(bif (y4q x.2.2.2.2.2.2 x.2.1.2.2.1.length) then(bif (y3c (rdL u0a x.2.1.2.2.1 (x.2.2.2.2.2.2).toNat).2.2.2.2.2.2.2 x.1) then(bif (y4q x.2.2.2.2.2.2 x.2.1.2.2.1.length) then((u05 (rdL u0a x.2.1.2.2.1 (x.2.2.2.2.2.2).toNat)).bind fun y3=>(bif (Nat.ble (x.2.2.2.2.1.2.2.1.length+([y3] :List u0a.den).length) z7w) then(g (x.1,(x.2.1,(x.2.2.1,(x.2.2.2.1,((x.2.2.2.2.1.1,(x.2.2.2.2.1.2.1,((x.2.2.2.2.1.2.2.1++([y3] :List u0a.den)),x.2.2.2.2.1.2.2.2))),(x.2.2.2.2.2.1,(IntKind.i64.wrap (x.2.2.2.2.2.2+1))))))))) else none)) else none) else(g (x.1,(x.2.1,(x.2.2.1,(x.2.2.2.1,(x.2.2.2.2.1,(x.2.2.2.2.2.1,(IntKind.i64.wrap (x.2.2.2.2.2.2+1)))))))))) else none) else(some (.inl (x.1,(x.2.1,(x.2.2.1,(x.2.2.2.1,(x.2.2.2.2.1,x.2.2.2.2.2.1))))))))
def u55:=lpW _ _ t1j
theorem s2g x:u55 x=t1j u55 x:=zW s1z 320 Tryz.f320 8 97 x (by kernel_rfl)
def u9i(g:Z7→Option (Z19⊕Unit))(x:Z7):Option (Z19⊕Unit):=(bif (decide (x.2.2.2.2.2<(x.2.1.2.2.1.length:Int))) then(bif (y4q x.2.2.2.2.2 x.2.1.2.2.1.length) then(bif (!y3c (rdL u0a x.2.1.2.2.1 (x.2.2.2.2.2).toNat).2.2.2.2.2.2.2 x.1) then(bif (y4q x.2.2.2.2.2 x.2.1.2.2.1.length) then((u05 (rdL u0a x.2.1.2.2.1 (x.2.2.2.2.2).toNat)).bind fun y6=>(bif (Nat.ble (x.2.2.2.2.1.2.2.1.length+([y6] :List u0a.den).length) z7w) then(g (x.1,(x.2.1,(x.2.2.1,(x.2.2.2.1,((x.2.2.2.2.1.1,(x.2.2.2.2.1.2.1,((x.2.2.2.2.1.2.2.1++([y6] :List u0a.den)),x.2.2.2.2.1.2.2.2))),(IntKind.i64.wrap (x.2.2.2.2.2+1)))))))) else none)) else none) else(g (x.1,(x.2.1,(x.2.2.1,(x.2.2.2.1,(x.2.2.2.2.1,(IntKind.i64.wrap (x.2.2.2.2.2+1))))))))) else none) else(some (.inl (x.2.2.1,(x.2.2.2.1,x.2.2.2.2.1)))))
def u5j:=lpW _ _ u9i
theorem s05 x:u5j x=u9i u5j x:=zW s0h 320 Tryz.f320 14 97 x (by kernel_rfl)
def s55 (x:Z42):Option Z99:=((u2z x.1).bind fun y1=>((u05 x.2.1).bind fun y2=>(bif x.2.1.2.2.2.2.2.2.1 then((u55 (x.2.2,(x.1,(x.2.1,((([] :List u0i.den),(([] :List u0a.den),(([] :List u0a.den),(0,0)))),((y1.1,(y1.2.1,(([] :List u0a.den),y1.2.2.2))),((y2.1,(2,(y2.2.2.1,(y2.2.2.2.1,(y2.2.2.2.2.1,(y2.2.2.2.2.2.1,(true,x.2.2))))))),0))))))).bind fun r4=>match r4 with | .inl o5=>(bif (Nat.ble (o5.2.2.2.2.1.2.2.1.length+([o5.2.2.2.2.2] :List u0a.den).length) z7w) then((u5j (o5.1,(o5.2.1,(o5.2.2.1,(o5.2.2.2.1,((o5.2.2.2.2.1.1,(o5.2.2.2.2.1.2.1,((o5.2.2.2.2.1.2.2.1++([o5.2.2.2.2.2] :List u0a.den)),o5.2.2.2.2.1.2.2.2))),0)))))).bind fun r7=>match r7 with | .inl o8=>(bif (decide (o8.1.1≥o8.2.2.2.2.2.2)) then(some (o8.2.2.1,(o8.2.2.2.1,(o8.2.2.2.2.1,(o8.2.2.2.2.2.1,(IntKind.i64.wrap (o8.1.1+1))))))) else(some o8.2.2)) | .inr z9=>none) else none) | .inr z10=>none) else((t8v (x.2.1,x.1.2.1)).bind fun y11=>((u55 (x.2.2,(x.1,(x.2.1,((([] :List u0i.den),(([] :List u0a.den),(([] :List u0a.den),(0,0)))),((y1.1,(y1.2.1,(([] :List u0a.den),y1.2.2.2))),((y2.1,(2,(y2.2.2.1,(y2.2.2.2.1,(y2.2.2.2.2.1,(y2.2.2.2.2.2.1,(y11,x.2.2))))))),0))))))).bind fun r13=>match r13 with | .inl o14=>(bif (Nat.ble (o14.2.2.2.2.1.2.2.1.length+([o14.2.2.2.2.2] :List u0a.den).length) z7w) then((u5j (o14.1,(o14.2.1,(o14.2.2.1,(o14.2.2.2.1,((o14.2.2.2.2.1.1,(o14.2.2.2.2.1.2.1,((o14.2.2.2.2.1.2.2.1++([o14.2.2.2.2.2] :List u0a.den)),o14.2.2.2.2.1.2.2.2))),0)))))).bind fun r16=>match r16 with | .inl o17=>(bif (decide (o17.1.1≥o17.2.2.2.2.2.2)) then(some (o17.2.2.1,(o17.2.2.2.1,(o17.2.2.2.2.1,(o17.2.2.2.2.2.1,(IntKind.i64.wrap (o17.1.1+1))))))) else(some o17.2.2)) | .inr z18=>none) else none) | .inr z19=>none)))))
theorem r89:u59=s55:=zC 320 rfl Tryz.func320 (by kernel_rfl)
def t78(x:Z90):Option Z99:=zK 321 x
def t4o(g:Z15→Option (Z37⊕Unit))(x:Z15):Option (Z37⊕Unit):=(bif (decide (x.2.2.2.2<(x.2.1.2.2.1.length:Int))) then(bif (y4q x.2.2.2.2 x.2.1.2.2.1.length) then(bif (!z7o (rdL u0a x.2.1.2.2.1 (x.2.2.2.2).toNat).2.2.2.2.2.2.2 x.1) then(bif (y4q x.2.2.2.2 x.2.1.2.2.1.length) then((u05 (rdL u0a x.2.1.2.2.1 (x.2.2.2.2).toNat)).bind fun y2=>(bif (Nat.ble (x.2.2.2.1.2.2.1.length+([y2] :List u0a.den).length) z7w) then(g (x.1,(x.2.1,(x.2.2.1,((x.2.2.2.1.1,(x.2.2.2.1.2.1,((x.2.2.2.1.2.2.1++([y2] :List u0a.den)),x.2.2.2.1.2.2.2))),(IntKind.i64.wrap (x.2.2.2.2+1))))))) else none)) else none) else(g (x.1,(x.2.1,(x.2.2.1,(x.2.2.2.1,(IntKind.i64.wrap (x.2.2.2.2+1)))))))) else none) else(some (.inl (x.2.2.1,x.2.2.2.1))))
def t0f:=lpW _ _ t4o
theorem s7k x:t0f x=t4o t0f x:=zW s6q 321 Tryz.f321 4 38 x (by kernel_rfl)
def r1n (x:Z90):Option Z99:=((u2z x.1).bind fun y1=>((t0f (x.2,(x.1,((([] :List u0i.den),(([] :List u0a.den),(([] :List u0a.den),(0,0)))),((y1.1,(y1.2.1,(([] :List u0a.den),y1.2.2.2))),0))))).bind fun r3=>match r3 with | .inl o4=>(some o4.2) | .inr z5=>none))
theorem q2z:t78=r1n:=zC 321 rfl Tryz.func321 (by kernel_rfl)
def s23(x:Z18):Option Z92:=zK 201 x
def r2o (x:Z18):Option Z92:=(bif (decide (x.2.1=1)) then(bif (!decide (x.2.2.1.2.2.2.1=(IntKind.i64.wrap (x.1.2.2.2.1+1)))) then(some (x.1,false)) else((u6m (x.1,x.2.2.1)).bind fun y1=>(some (y1,true)))) else(bif (decide (x.2.1=2)) then(((bif (decide ((x.1.2.2.1.length:Int)≥(3:Int))) then(some true) else((u11 (x.1,x.2.2.1.2.2.2.2.2.2.2)).bind fun y2=>(some (decide (y2≥0))))):Option Bool).bind fun j3=>(bif j3 then(some (x.1,false)) else((u59 (x.1,(x.2.2.1,x.2.2.1.2.2.2.2.2.2.2))).bind fun y4=>(some (y4,true))))) else(bif (decide (x.2.1=3)) then((u11 (x.1,x.2.2.2.1)).bind fun y5=>(bif (decide (y5<0)) then(some (x.1,false)) else(bif x.2.2.2.2.1 then(bif (y4q y5 x.1.2.2.1.length) then((u6m (x.1,(rdL u0a x.1.2.2.1 (y5).toNat))).bind fun y6=>(some (y6,true))) else none) else((t78 (x.1,x.2.2.2.1)).bind fun y7=>(some (y7,true)))))) else((u2z x.2.2.2.2.2).bind fun y8=>(some (y8,true))))))
theorem q3r:s23=r2o:=zC 201 rfl Tryz.func201 (by kernel_rfl)
def s5r(x:Z18):Option Z92:=zK 73 x
def r4v (x:Z18):Option Z92:=((((u7s x.1).bind fun y1=>(bif (!y1) then(some true) else((t6v x.2).bind fun y2=>(some (!y2))))):Option Bool).bind fun j3=>(bif j3 then((u2z x.1).bind fun y4=>(some (y4,false))) else((s23 x).bind fun y5=>(bif (!y5.2) then((u2z x.1).bind fun y6=>(some (y6,false))) else((t3l (y5.1,([] :List u0a.den))).bind fun y7=>((u7s y7).bind fun y8=>(bif (!y8) then((u2z x.1).bind fun y9=>(some (y9,false))) else(some (y7,true)))))))))
theorem q6j:s5r=r4v:=zC 73 rfl Tryz.func73 (by kernel_rfl)
end
end Go.Proofs.YtbkicjpdlchbgaaGreat.Ab
