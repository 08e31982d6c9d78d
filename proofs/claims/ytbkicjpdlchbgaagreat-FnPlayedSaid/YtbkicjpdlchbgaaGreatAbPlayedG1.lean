import Derived.Test.YtbkicjpdlchbgaaGreatAbK2
import Derived.Test.YtbkicjpdlchbgaaGreatAbF4
import Derived.Test.YtbkicjpdlchbgaaGreatAbS1
import Derived.KernelRfl
import Derived.Test.YtbkicjpdlchbgaaGreatProg
namespace Go.Proofs.YtbkicjpdlchbgaaGreat.Ab
open Go
set_option linter.unusedVariables false
noncomputable section
abbrev o3i:Ty:=(.pair .bool (.int .i64))
abbrev p8g:Ty:=(.pair .str o3i)
abbrev u0e:Ty:=(.pair .str p8g)
abbrev o3l:Ty:=(.pair .str .bool)
abbrev u1x:Ty:=(.pair .str o3l)
abbrev q2t:Ty:=(.pair .str .str)
abbrev o3j:Ty:=(.pair .bool .str)
abbrev q8w:Ty:=(.pair (.sl u1x) o3j)
abbrev r6w:Ty:=(.pair (.sl q2t) q8w)
abbrev r2b:Ty:=(.pair (.int .i64) r6w)
abbrev s8x:Ty:=(.pair (.int .i64) r2b)
abbrev s56:Ty:=(.pair (.int .i64) s8x)
abbrev u0a:Ty:=(.pair (.int .i64) s56)
abbrev p14:Ty:=(.pair (.int .i64) .str)
abbrev o1o:Ty:=(.pair (.int .i64) (.int .i64))
abbrev t6j:Ty:=(.pair (.sl u0a) o1o)
abbrev p2i:Ty:=(.pair (.sl u0a) t6j)
abbrev r73:Ty:=(.pair (.sl u0e) p2i)
abbrev q59:Ty:=(.pair r73 (.sl u0a))
abbrev q9y:Ty:=(.pair (.sl .str) (.sl p14))
abbrev p2g:Ty:=(.pair q59 q9y)
abbrev p2e:Ty:=(.pair .bool r73)
abbrev p2j:Ty:=(.pair .str p2e)
abbrev p2h:Ty:=(.pair u0a p2j)
abbrev p2f:Ty:=(.pair (.int .i64) p2h)
abbrev o3k:Ty:=(.pair (.int .i64) .bool)
abbrev p8h:Ty:=(.pair .str o3k)
abbrev p6x:Ty:=(.pair (.sl (.int .u8)) o1o)
abbrev t84:=((List ByteArray)×(List p14.den))
abbrev p99:=((ByteArray×ByteArray)×ByteArray)
abbrev p98:=((List q2t.den)×(List u1x.den))
abbrev p97:=((List u1x.den)×(List u1x.den))
abbrev o25:=(ByteArray×(ByteArray×(Int×Bool)))
abbrev p96:=(ByteArray×((List Int)×(Int×Int)))
abbrev p72:=((List u0e.den)×(ByteArray×Int))
abbrev o24:=(ByteArray×(Int×(Int×(Int×Int))))
abbrev p71:=(List (List u0a.den))
abbrev o23:=((List u0e.den)×(List u0e.den))
abbrev p4n:=((List u0a.den)×Int)
abbrev q8x:=(t84×Int)
abbrev o22:=(Int×t84)
abbrev p95:=((List q2t.den)×((List u1x.den)×Int))
abbrev r4p:=(t84×Bool)
abbrev o21:=((List q2t.den)×((List Int)×(Int×Int)))
abbrev o20:=(((List Int)×(Int×Int))×(List q2t.den))
abbrev p70:=((List u1x.den)×((List u1x.den)×Int))
abbrev o2z:=(((List Int)×(Int×Int))×(List ByteArray))
abbrev o05:=((List u0e.den)×(ByteArray×ByteArray))
abbrev o2y:=((List u1x.den)×((List Int)×(Int×Int)))
abbrev o2x:=(((List Int)×(Int×Int))×(List u1x.den))
abbrev p94:=((List u0e.den)×((List u1x.den)×Int))
abbrev p7z:=((List u0a.den)×ByteArray)
abbrev p93:=((List u0e.den)×((List Int)×(Int×Int)))
abbrev o2w:=(t84×ByteArray)
abbrev o2v:=(((List Int)×(Int×Int))×(List u0e.den))
abbrev o2u:=(p71×Int)
abbrev o2t:=((List u0e.den)×(Int×(List u0e.den)))
abbrev o04:=((List u0e.den)×((List u0e.den)×Int))
abbrev p8k:=((List u0a.den)×(Int×Int))
abbrev o2s:=(Int×q8x)
abbrev p92:=(t84×(Int×Int))
abbrev o2r:=((List q2t.den)×((List u1x.den)×(Int×Int)))
abbrev p91:=((List u1x.den)×((List q2t.den)×(Int×Int)))
abbrev o2q:=((List u1x.den)×(ByteArray×(ByteArray×Bool)))
abbrev o2p:=(((List Int)×(Int×Int))×((List q2t.den)×Int))
abbrev o2o:=((ByteArray×ByteArray)×((List Int)×(Int×Int)))
abbrev p90:=((List u1x.den)×((List u1x.den)×(Int×Int)))
abbrev o2n:=(((List Int)×(Int×Int))×((List u1x.den)×Int))
abbrev o2m:=(ByteArray×(Int×((List u0e.den)×(Int×Int))))
abbrev o2l:=((List u0a.den)×(ByteArray×Int))
abbrev o2k:=((List u1x.den)×(Int×((List u0e.den)×Int)))
abbrev o2j:=((List u0e.den)×(ByteArray×(Int×(Int×Int))))
abbrev p9z:=(t84×(List ByteArray))
abbrev p6c:=(t84×(Int×ByteArray))
abbrev o2i:=(((List Int)×(Int×Int))×((List u0e.den)×Int))
abbrev p9y:=((List u0a.den)×(Int×(Int×Int)))
abbrev o2h:=(Int×o04)
abbrev p9x:=((List u0e.den)×((List u0e.den)×(Int×Int)))
abbrev o2g:=((List u0e.den)×(Int×((List u0e.den)×Int)))
abbrev p9w:=(Int×p8k)
abbrev p9v:=((ByteArray×(ByteArray×Bool))×((List Int)×(Int×Int)))
abbrev o2f:=((List u0e.den)×(ByteArray×(ByteArray×(Bool×Int))))
abbrev o2e:=(Int×((List u0e.den)×((List u1x.den)×(Int×Int))))
abbrev p7y:=((List u0a.den)×(ByteArray×(Int×Int)))
abbrev p9u:=((ByteArray×(Int×Bool))×(List u0a.den))
abbrev o2d:=((List u0a.den)×(ByteArray×(Int×Bool)))
abbrev o2c:=(t84×(Int×(Int×ByteArray)))
abbrev o03:=(Int×p9x)
abbrev o2b:=(Int×(Int×(t84×(ByteArray×Int))))
abbrev o02:=((List u0a.den)×(List u0a.den))
abbrev o2a:=(Int×((List u0e.den)×((List u0e.den)×(Int×(Int×Int)))))
abbrev o13:=((List u0e.den)×((ByteArray×ByteArray)×((List ByteArray)×Int)))
abbrev o1z:=((List u0e.den)×((ByteArray×ByteArray)×(Int×(List ByteArray))))
abbrev o1y:=((List u1x.den)×((ByteArray×(ByteArray×Bool))×(List u1x.den)))
abbrev p7x:=(t84×t84)
abbrev o1x:=((List u0e.den)×((ByteArray×(ByteArray×(Bool×Int)))×(Int×Int)))
abbrev p9t:=((List u0a.den)×p4n)
abbrev p9s:=((List u1x.den)×((ByteArray×(ByteArray×Bool))×((List u1x.den)×Int)))
abbrev p9r:=((ByteArray×(ByteArray×(Bool×Int)))×(ByteArray×(ByteArray×(Bool×Int))))
abbrev o1w:=(t84×r4p)
abbrev o1v:=((List u0e.den)×(ByteArray×(Int×(Int×((List u0e.den)×(Int×Int))))))
abbrev o1u:=((ByteArray×(Int×Bool))×p9w)
abbrev o01:=((List u0a.den)×p8k)
abbrev o1t:=(Int×((List u0e.den)×p9x))
abbrev o1s:=((List u0e.den)×o03)
abbrev t0t:=(Int×(Int×(Int×(Int×((List q2t.den)×((List u1x.den)×(Bool×ByteArray)))))))
abbrev o1r:=(Int×(t84×q8x))
abbrev o1q:=((List u0a.den)×(p71×(Int×Int)))
abbrev o1p:=((List u0a.den)×p9w)
abbrev Z99:=(t0t×Int)
abbrev Z98:=(t0t×Bool)
abbrev Z97:=(t0t×ByteArray)
abbrev Z96:=(t0t×(Int×Bool))
abbrev Z95:=((List u0e.den)×((ByteArray×ByteArray)×((List ByteArray)×(Int×(ByteArray×(List ByteArray))))))
abbrev Z94:=(p71×(Int×(p71×(Int×Int))))
abbrev Z93:=(t0t×(ByteArray×Int))
abbrev Z92:=((List u0e.den)×o01)
abbrev Z91:=(Int×(t84×((List ByteArray)×(ByteArray×((List ByteArray)×(Int×Int))))))
abbrev Z90:=((List u0e.den)×((ByteArray×ByteArray)×((List ByteArray)×(Int×(ByteArray×((List ByteArray)×Int))))))
abbrev Z89:=((List u1x.den)×((ByteArray×ByteArray)×((List q2t.den)×(Int×(Int×((List u1x.den)×(Int×Int)))))))
abbrev Z88:=(t0t×(ByteArray×ByteArray))
abbrev Z87:=(t0t×((List Int)×(Int×Int)))
abbrev Z86:=(Z92×Int)
abbrev Z85:=((List ByteArray)×(t84×(Int×(t84×(Bool×Int)))))
abbrev Z84:=(Z92×Bool)
abbrev Z83:=(t84×(t84×q8x))
abbrev Z82:=(t0t×((List q2t.den)×(Int×Int)))
abbrev Z81:=(Z92×ByteArray)
abbrev Z80:=(t0t×(ByteArray×(ByteArray×Bool)))
abbrev Z79:=(t0t×((List u0e.den)×ByteArray))
abbrev Z78:=(Z92×(List Int))
abbrev Z77:=((List u0e.den)×(ByteArray×t0t))
abbrev Z76:=((List u0a.den)×t0t)
abbrev Z75:=(Z92×(Int×Bool))
abbrev Z74:=(t0t×(List u0a.den))
abbrev Z73:=((List u1x.den)×(Int×((List u0e.den)×(Int×((ByteArray×(ByteArray×(Bool×Int)))×((List u0e.den)×Int))))))
abbrev Z72:=(ByteArray×Z86)
abbrev Z71:=(Z92×(ByteArray×Int))
abbrev Z70:=((List u0e.den)×(ByteArray×Z99))
abbrev Z69:=(Z92×((List Int)×Int))
abbrev Z68:=((List u0a.den)×Z99)
abbrev Z67:=(t0t×o05)
abbrev Z66:=(Z92×((List Int)×(Int×Int)))
abbrev Z65:=((List u0a.den)×(t0t×(Int×Int)))
abbrev Z64:=((List u0a.den)×(t0t×(Bool×Int)))
abbrev Z63:=(Z92×(List u0a.den))
abbrev Z62:=(Z92×((List u0e.den)×(Int×Int)))
abbrev Z61:=(Int×(Int×(ByteArray×Z83)))
abbrev Z60:=(Z63×Int)
abbrev Z59:=((List u0e.den)×(t0t×((List q2t.den)×((List ByteArray)×Int))))
abbrev Z58:=((List u0e.den)×(t0t×((ByteArray×ByteArray)×(List u0e.den))))
abbrev Z57:=(Z92×p8k)
abbrev Z56:=(Z63×(Int×Int))
abbrev Z55:=(Int×Z60)
abbrev Z54:=((List u0e.den)×(t0t×((ByteArray×ByteArray)×((List u0e.den)×Int))))
abbrev Z53:=(Z63×(Int×ByteArray))
abbrev Z52:=(Z63×(ByteArray×Bool))
abbrev Z51:=(Z63×((List q2t.den)×Int))
abbrev Z50:=(Z63×(ByteArray×(Bool×Int)))
abbrev Z49:=(t0t×t0t)
abbrev Z48:=(Z63×(Int×(ByteArray×ByteArray)))
abbrev Z47:=(Z63×(List u0a.den))
abbrev Z46:=(Z63×t84)
abbrev Z45:=(t0t×Z99)
abbrev Z44:=(Z63×(Int×(ByteArray×(ByteArray×Bool))))
abbrev Z43:=(Int×Z46)
abbrev Z42:=(Z46×Int)
abbrev Z41:=(Z46×Bool)
abbrev Z40:=(Bool×Z46)
abbrev Z39:=(Z63×(Int×p4n))
abbrev Z38:=(Z92×t0t)
abbrev Z37:=(Z46×(Int×ByteArray))
abbrev Z36:=(Z46×(ByteArray×Bool))
abbrev Z35:=(t0t×((ByteArray×(Int×Bool))×t0t))
abbrev Z34:=(Z92×Z97)
abbrev Z33:=(Z46×((List Int)×(Int×Int)))
abbrev Z32:=(((List Int)×(Int×Int))×Z46)
abbrev Z31:=(Z92×Z92)
abbrev Z30:=(t0t×((ByteArray×(Int×Bool))×(t0t×(Int×Int))))
abbrev Z29:=(Int×(t0t×(ByteArray×(Bool×Z92))))
abbrev Z28:=((List u0a.den)×(t0t×(Int×Z99)))
abbrev Z27:=(Z29×Bool)
abbrev Z26:=((List u0a.den)×(t0t×(Bool×(Int×Z99))))
abbrev Z25:=(Z63×(Int×t0t))
abbrev Z24:=(Z92×(Z92×((List ByteArray)×Int)))
abbrev Z23:=(Z92×((ByteArray×(Int×Bool))×Z92))
abbrev Z22:=(Z63×(Int×Z99))
abbrev Z21:=(Z29×((List Int)×(Int×Int)))
abbrev Z20:=(Z92×((ByteArray×(Int×Bool))×(Z92×(Int×Int))))
abbrev Z19:=(t0t×((ByteArray×ByteArray)×Z49))
abbrev Z18:=(t0t×((ByteArray×ByteArray)×Z45))
abbrev Z17:=(t0t×Z31)
abbrev Z16:=(Z92×Z29)
abbrev Z15:=(Z92×(Z92×Z86))
abbrev Z14:=(Z92×(Z92×(Z92×(Int×Int))))
abbrev Z13:=(ByteArray×Z15)
abbrev Z12:=(Z63×(Z29×Int))
abbrev Z11:=(((List Int)×(Int×Int))×(Z46×Z46))
abbrev Z10:=(t0t×(Z92×Z38))
abbrev Z9:=(Z46×Z29)
abbrev Z8:=(((List Int)×(Int×Int))×(Int×(Z46×Z42)))
abbrev Z7:=(t0t×(Z92×(Z92×(t0t×(Unit×(Int×Int))))))
abbrev Z6:=(ByteArray×(Z92×(t0t×(Z92×Z86))))
abbrev Z5:=(t0t×(Z92×(Z92×(t0t×o02))))
abbrev Z4:=(ByteArray×(t0t×(Z92×(Z92×(t0t×((List u0a.den)×((List u0a.den)×(Unit×(Int×Int)))))))))
abbrev Z3:=(Z92×(t0t×(Z92×(Z92×Z99))))
abbrev Z2:=(ByteArray×(Z92×Z10))
abbrev Z1:=(ByteArray×Z3)
def o29:Tabs where
 ty:= [(3,(.int .i64)),(4, .bool),(5,(.int .u8)),(9, .str),(22,(.sl (.int .u8))),(24,(.sl u0e)),(25,(.sl u0a)),(27,r73),(29,q59),(30,(.sl .str)),(31,(.sl p14)),(33,q9y),(35,p2g),(51,u1x),(58,(.sl (.int .i64))),(85,(.sl q2t)),(86,(.sl u1x)),(88,u0a),(90,p2f),(97,(.sl q2t)),(100,q2t),(155,u0e),(167,q2t),(210,p8h),(217,(.sl (.sl u0a))),(244,p6x),(275,(.int .u32)),(307,p14)]
 lay:= [(3,1,false),(4,1,false),(5,1,false),(9,1,false),(22,1,false),(24,1,false),(25,1,false),(27,5,true),(29,6,true),(30,1,false),(31,1,false),(33,2,true),(35,8,true),(51,3,true),(85,1,false),(86,1,false),(88,8,true),(90,16,true),(100,2,true),(155,4,true)]
 fld:= [(27, [(0,1,false),(1,1,false),(2,1,false),(3,1,false),(4,1,false)]),(29, [(0,5,true),(5,1,false)]),(33, [(0,1,false),(1,1,false)]),(35, [(0,6,true),(6,2,true)]),(51, [(0,1,false),(1,1,false),(2,1,false)]),(88, [(0,1,false),(1,1,false),(2,1,false),(3,1,false),(4,1,false),(5,1,false),(6,1,false),(7,1,false)]),(90, [(0,1,false),(1,8,true),(9,1,false),(10,1,false),(11,5,true)]),(100, [(0,1,false),(1,1,false)]),(155, [(0,1,false),(1,1,false),(2,1,false),(3,1,false)]),(167, [(0,1,false),(1,1,false)]),(210, [(0,1,false),(1,1,false),(2,1,false)]),(244, [(0,1,false),(1,1,false),(2,1,false)]),(307, [(0,1,false),(1,1,false)])]
 eqs:= [(51, [.s, .s, .b]),(100, [.s, .s]),(155, [.s, .s, .b, .i])]
abbrev zL (a:List Nat) (s:Sh) (n:Nat) (b:List Nat) (t:Sh) (c:List Nat) (u:Sh):LoopA:=⟨⟨a,s, []⟩,n,⟨b,t, []⟩,⟨c,u, []⟩⟩
def zS (i o:Sh) (n:Nat:=1) (b:List Bool:= []):Sig:=⟨i,b,o,n⟩
abbrev p9d:Ty:=.int .u8
abbrev o3w:Ty:=.sl u0a
abbrev p9e:Ty:=.int .i64
abbrev u1p:Sh:=.int .i64
abbrev s84:Sh:=.tr false u0a
abbrev r4j:Sh:=.own true u0a
abbrev s59:Sh:=.pair u1p u1p
abbrev s8l:Sh:=.tr false u0e
abbrev r6s:Sh:=.tr false u1x
abbrev q0t:Sh:=.own true u0e
abbrev p79:Sh:=.pair q0t (.pair r4j (.pair r4j s59))
abbrev q8d:Sh:=.pair .str .bool
abbrev r7r:Sh:=.box p79
abbrev o1h:Sh:=.pair .str .str
abbrev q8j:Sh:=.pair .str u1p
abbrev p6o:Sh:=.agg (.pair p79 r4j)
abbrev p12:Sh:=.own true .str
abbrev p8a:Sh:=.pair p12 (.own true p14)
abbrev p9f:Sh:=.pair (.pair p79 r4j) p8a
abbrev p2a:Sh:=.pair (.agg p8a) .bool
abbrev q52:Sh:=.agg p79
abbrev p7u:Sh:=.agg (.pair .str q8d)
abbrev p6p:Sh:=.tr true u0e
abbrev p54:Sh:=.own true u1x
abbrev p13:Sh:=.box p8a
abbrev o0m:Sh:=.own false u0a
abbrev p4g:Sh:=.tr false q2t
abbrev o0j:Sh:=.pair u1p (.pair u1p (.pair u1p (.pair u1p (.pair p4g (.pair r6s (.pair .bool .str))))))
abbrev r6t:Sh:=.agg o0j
abbrev r4k:Sh:=.box o0j
abbrev p9h:Sh:=.pair r4k u1p
abbrev p4b:Sh:=.rbox o0j
abbrev p6q:Sh:=.pair r6s u1p
abbrev p9i:Sh:=.pair u1p .str
abbrev p0r:Sh:=.box p9f
abbrev p55:Sh:=.tr false p9d
abbrev t7m:Sh:=.box (.pair p55 s59)
abbrev p6r:Sh:=.pair u1p .bool
abbrev q8i:Sh:=.box (.pair .str p6r)
abbrev p6s:Sh:=.own true q2t
abbrev o1g:Sh:=.pair u1p (.pair u1p (.pair u1p (.pair u1p (.pair p6s (.pair p54 (.pair .bool .str))))))
abbrev p9g:Sh:=.agg (.pair u1p (.pair o1g (.pair .str (.pair .bool p79))))
abbrev q8k:Sh:=.box o1g
abbrev p8b:Sh:=.pair r6t r6t
abbrev p8c:Sh:=.pair r6t s84
abbrev p7v:Sh:=.pair s84 s59
abbrev o0k:Sh:=.pair s8l (.pair s84 p7v)
abbrev p7r:Sh:=.agg (.pair u1p (.pair o0j (.pair .str (.pair .bool o0k))))
abbrev p7t:Sh:=.pair o0k s84
abbrev q2l:Sh:=.agg o0k
abbrev q0p:Sh:=.box o0k
abbrev p56:Sh:=.agg p7t
abbrev o0n:Sh:=.box (.pair p79 r4j)
abbrev o3d:Sh:=.pair r6s (.pair (.box (.pair .str q8d)) (.pair p54 u1p))
abbrev o0o:Sh:=.clo 237 (.rbox u1p)
abbrev o0p:Sh:=.clo 280 (.rbox .str)
abbrev p57:Sh:=.agg o1h
abbrev p9j:Sh:=.pair u1p s59
abbrev o1i:Sh:=.pair p6o (.pair p9g u1p)
abbrev o1j:Sh:=.pair p13 (.pair p13 u1p)
abbrev p9k:Sh:=.pair r4j u1p
abbrev p8d:Sh:=.pair q0t u1p
abbrev o1k:Sh:=.pair r7r (.pair r7r u1p)
abbrev p9l:Sh:=.pair r6s s59
abbrev p9m:Sh:=.pair s84 p9h
abbrev p9n:Sh:=.pair s8l s59
abbrev p6t:Sh:=.int .u32
abbrev p59:Sh:=.box o1h
abbrev o3b:Sh:=.pair s8l (.pair p59 (.pair (.tr true .str) (.pair u1p (.pair .str (.pair p12 u1p)))))
abbrev o1l:Sh:=.pair s84 (.clo 289 p4b)
abbrev p9o:Sh:=.tr false o3w
abbrev o1m:Sh:=.pair s84 (.clo 386 p4b)
abbrev p7w:Sh:=.agg o1g
abbrev p9p:Sh:=.pair .bool u1p
abbrev p7s:Sh:=.pair .str (.pair .str p9p)
abbrev o3c:Sh:=.pair r6s (.pair u1p (.pair p6p (.pair u1p (.pair (.box p7s) p8d))))
abbrev o1n:Sh:=.pair (.box p7t) u1p
abbrev o0q:Sh:=.pair p56 u1p
abbrev o0r:Sh:=.pair q2l s84
abbrev o0s:Sh:=.pair s8l u1p
abbrev o0t:Sh:=.pair q2l .str
abbrev o0w:Sh:=.pair u1p p9h
abbrev o3e:Sh:=.pair q8k (.pair q8i (.pair q8k s59))
abbrev o0x:Sh:=.pair r7r r7r
abbrev o3f:Sh:=.pair r4k (.pair r7r (.pair r7r q8k))
abbrev o3g:Sh:=.pair q0p (.pair (.own true p9e) u1p)
abbrev o3h:Sh:=.pair q0p (.pair (.tr true p9e) u1p)
abbrev p9q:Sh:=.tr false .str
abbrev o0l:Sh:=.pair p9q (.tr false p14)
abbrev q8e:Sh:=.agg o0l
abbrev p58:Sh:=.box o0l
abbrev o0u:Sh:=.pair q8e u1p
abbrev o0v:Sh:=.pair q8e p9i
def p7h:Nat→Sig
 | 15=>zS p55 .bool
 | 198=>zS (.pair s8l s8l) .bool
 | 317=>zS (.pair r6s r6s) .bool
 | 196=>zS p8b .bool
 | 199=>zS (.pair s84 s84) .bool
 | 70=>zS (.pair q2l q2l) .bool
 | 95=>zS p55 t7m
 | 270=>zS t7m (.pair u1p t7m) 1 [true]
 | 140=>zS (.pair t7m u1p) (.pair u1p t7m) 1 [true,false]
 | 223=>zS .unit q52
 | 348=>zS .unit p6o
 | 330=>zS .unit u1p
 | 188=>zS p9j .bool
 | 394=>zS (.pair u1p (.int .u8)) .str
 | 464=>zS .unit .str
 | 418=>zS u1p p2a 2
 | 349=>zS .unit (.agg p8a)
 | 230=>zS .unit (.agg p9f)
 | 106=>zS r6t p7w
 | 241=>zS s84 r4j
 | 104=>zS q2l q52
 | 108=>zS p56 p6o
 | 191=>zS .str .bool
 | 110=>zS p7u .bool
 | 243=>zS r6s .bool
 | 316=>zS p57 .bool
 | 189=>zS r6t .bool
 | 197=>zS s8l .bool
 | 69=>zS q2l .bool
 | 109=>zS p56 .bool
 | 24=>zS p56 (.pair p6o s59) 3
 | 49=>zS o0q u1p
 | 242=>zS (.pair r6s p7u) p54
 | 111=>zS (.pair r6t p7u) (.pair p7w .bool) 2
 | 25=>zS (.pair p56 (.pair u1p p7u)) (.pair p6o u1p) 2
 | 337=>zS q8e (.agg p8a)
 | 225=>zS (.agg (.pair p7t o0l)) (.agg p9f)
 | 313=>zS u1p .str
 | 315=>zS q8j (.pair u1p p6r) 3
 | 310=>zS q8j (.pair .str p6r) 3
 | 180=>zS q8i (.pair .str q8i) 1 [true]
 | 181=>zS q8i (.pair .bool q8i) 1 [true]
 | 186=>zS q8i (.pair u1p q8i) 1 [true]
 | 182=>zS q8j (.pair p7w p6r) 3
 | 187=>zS (.pair q8i u1p) (.pair r4j q8i) 1 [true,false]
 | 65=>zS q8j (.pair q52 p6r) 3
 | 190=>zS r6t .bool
 | 192=>zS q2l .bool
 | 66=>zS p7r .bool
 | 307=>zS p6t .str
 | 392=>zS (.pair p6t .str) p6t
 | 308=>zS .str p6t
 | 178=>zS .str q8d 2
 | 304=>zS .str .str
 | 305=>zS .bool .str
 | 306=>zS r6t q8d 2
 | 314=>zS s84 .str
 | 185=>zS q2l q8d 2
 | 176=>zS p7r q8d 2
 | 177=>zS .str q8d 2
 | 60=>zS .str (.pair p9g .bool) 2
 | 105=>zS o0r u1p
 | 113=>zS (.pair s8l q8j) u1p
 | 107=>zS o0s q0t
 | 21=>zS o0r q52
 | 287=>zS p8b .bool
 | 281=>zS (.pair p57 .str) .bool
 | 288=>zS (.pair p4g r6s) .bool
 | 162=>zS p8b .bool
 | 161=>zS p8c .bool
 | 379=>zS (.pair s8l p6q) q0t
 | 318=>zS (.pair q2l r6t) q52
 | 319=>zS o0t u1p
 | 320=>zS (.pair q2l (.pair r6t .str)) q52
 | 321=>zS o0t q52
 | 201=>zS (.pair q2l p7r) (.pair q2l .bool) 2
 | 73=>zS (.pair q2l p7r) (.pair q52 .bool) 2
 | 417=>zS o0u q8d 2
 | 344=>zS (.pair q8e s59) q8d 2
 | 345=>zS u1p u1p
 | 347=>zS o0u u1p
 | 346=>zS o0u u1p
 | 227=>zS o0u (.pair p12 p6r) 3
 | 228=>zS q8e u1p
 | 91=>zS q8e p12
 | 88=>zS q8e (.pair q52 .bool) 2
 | 329=>zS q8e .bool
 | 212=>zS q8e .bool
 | 413=>zS q8e (.agg p8a)
 | 414=>zS o0v p2a 2
 | 411=>zS (.pair q8e (.pair u1p p9i)) p2a 2
 | 412=>zS u1p .str
 | 432=>zS (.pair q8e s59) p2a 2
 | 430=>zS o0v p2a 2
 | 463=>zS o0v p2a 2
 | 415=>zS (.pair q8e p9q) p2a 2
 | 416=>zS q8e p2a 2
 | 343=>zS (.pair q8e p9q) p2a 2
 | 226=>zS q8e p2a 2
 | 90=>zS (.agg (.pair p7t o0l)) (.pair (.agg p9f) .bool) 2
 | 245=>zS (.pair t7m p9q) (.pair .str t7m) 1 [true,false]
 | 247=>zS (.pair t7m u1p) (.pair .bool t7m) 1 [true,false]
 | 351=>zS t7m (.pair .str t7m) 1 [true]
 | 322=>zS t7m (.pair p7u t7m) 1 [true]
 | 419=>zS (.pair r6t p57) (.pair p7w .bool) 2
 | 27=>zS (.pair s8l q8j) q8d 2
 | 420=>zS (.pair r6t (.pair s8l .str)) q8d 2
 | 350=>zS (.pair p56 p9i) (.pair p6o (.pair .str p9p)) 4
 | 153=>zS (.pair s8l p57) p12
 | 421=>zS (.pair r6t (.pair s8l p57)) p6s
 | 352=>zS (.pair p56 (.pair u1p p57)) (.pair p6o (.pair p6s u1p)) 3
 | 353=>zS t7m (.pair p57 t7m) 1 [true]
 | 424=>zS (.pair o0n u1p) o0n 0 [true,false]
 | 159=>zS (.pair r6s r6s) .bool
 | 53=>zS p8c .bool
 | 160=>zS p8c .bool
 | 54=>zS p8c .bool
 | 406=>zS q2l .bool
 | 467=>zS q2l o0m
 | 465=>zS o0q u1p
 | 422=>zS o0q o1i 3
 | 469=>zS o0v p2a 2
 | 429=>zS (.pair q8e .str) p2a 2
 | 423=>zS (.pair p0r p7r) (.pair .bool p0r) 1 [true,false]
 | 354=>zS (.pair p0r u1p) (.pair u1p p0r) 1 [true,false]
 | 466=>zS p8c .bool
 | 425=>zS (.pair p56 p9i) o1i 3
 | 355=>zS (.pair p0r p9i) (.pair u1p p0r) 1 [true,false,false]
 | 339=>zS (.pair p56 q8d) o1i 3
 | 356=>zS (.pair p0r q8d) (.pair u1p p0r) 1 [true,false,false]
 | 357=>zS o0q (.pair p6o u1p) 2
 | 231=>zS (.pair t7m p0r) (.pair t7m p0r) 0 [true,true]
 | 94=>zS (.pair t7m u1p) (.pair (.agg p9f) t7m) 1 [true,false]
 | 202=>zS t7m (.pair q52 t7m) 1 [true]
 | 203=>zS t7m (.pair p54 t7m) 1 [true]
 | 445=>zS t7m (.pair p6s t7m) 1 [true]
 | 388=>zS t7m (.pair p7w t7m) 1 [true]
 | 292=>zS t7m (.pair p9g t7m) 1 [true]
 | 389=>zS t7m (.pair p7u t7m) 1 [true]
 | 293=>zS t7m (.pair p7w t7m) 1 [true]
 | 166=>zS t7m (.pair p9g t7m) 1 [true]
 | 393=>zS t7m (.pair q0t t7m) 1 [true]
 | 311=>zS t7m (.pair q0t t7m) 1 [true]
 | 183=>zS t7m (.pair q52 t7m) 1 [true]
 | 71=>zS p55 (.pair q52 p9g) 2
 | 149=>zS (.pair r6t (.rbox .str)) .bool
 | 10011=>zS (.pair s84 (.clo 149 (.rbox .str))) u1p
 | 42=>zS o0t u1p
 | 125=>zS r6t .bool
 | 289=>zS (.pair r6t p4b) .bool
 | 10002=>zS o1l u1p
 | 10001=>zS o1l .bool
 | 10000=>zS o1l .bool
 | 163=>zS (.pair s84 u1p) .bool
 | 290=>zS (.pair .nil u1p) r4j
 | 164=>zS p9o o0m
 | 205=>zS p9j .bool
 | 142=>zS .str .bool
 | 208=>zS p57 .bool
 | 157=>zS p7u .bool
 | 291=>zS r6s .bool
 | 165=>zS r6t .bool
 | 195=>zS r6t .bool
 | 433=>zS .str .bool
 | 372=>zS o1h u1p
 | 434=>zS u1p .bool
 | 373=>zS s59 u1p
 | 256=>zS (.pair (.agg p7s) (.agg p7s)) u1p
 | 204=>zS s8l .bool
 | 76=>zS q2l .bool
 | 193=>zS r6t .bool
 | 194=>zS q2l .bool
 | 67=>zS p7r .bool
 | 147=>zS r6t p7w
 | 271=>zS s84 r4j
 | 200=>zS q2l q52
 | 235=>zS o0r u1p
 | 363=>zS (.pair s8l q8j) u1p
 | 364=>zS (.pair .str (.rbox s8l)) u1p
 | 238=>zS o0s q0t
 | 237=>zS (.pair r6t (.rbox u1p)) .bool
 | 10004=>zS (.pair s84 o0o) u1p
 | 10003=>zS (.pair r4j o0o) r4j
 | 100=>zS o0r q52
 | 258=>zS (.pair p57 .str) .bool
 | 252=>zS (.pair p4g r6s) .bool
 | 442=>zS p8b .bool
 | 384=>zS p8b .bool
 | 273=>zS p8b .bool
 | 386=>zS (.pair r6t p4b) .bool
 | 10008=>zS o1m u1p
 | 10007=>zS o1m .bool
 | 10006=>zS o1m .bool
 | 278=>zS p8c .bool
 | 146=>zS (.pair q2l (.pair r6t .str)) q52
 | 257=>zS (.pair q0t (.pair u1p q0t)) q0t
 | 255=>zS (.pair (.agg p7s) (.rbox p7s)) .bool
 | 10005=>zS (.pair s8l (.clo 255 (.rbox p7s))) u1p
 | 120=>zS (.pair s8l p6q) q0t
 | 279=>zS (.pair r6t p4b) .bool
 | 10010=>zS (.pair s84 (.clo 279 p4b)) u1p
 | 10009=>zS (.pair r4j (.clo 279 p4b)) r4j
 | 150=>zS (.pair q2l r6t) q52
 | 280=>zS (.pair r6t (.rbox .str)) .bool
 | 10013=>zS (.pair s84 o0p) u1p
 | 10012=>zS (.pair r4j o0p) r4j
 | 152=>zS o0t q52
 | 72=>zS (.pair q2l p7r) (.pair q52 .bool) 2
 | 74=>zS p55 q52
 | 75=>zS p55 p54
 | 9=>zS p55 .bool
 | _=>zS .unit .unit 0
def p8r:Nat→Nat→Option Join
 | 196,3=>some ⟨[62],.bool,[]⟩
 | 70,3=>some ⟨[4],.bool,[]⟩
 | 95,7=>some ⟨[15],.bool,[]⟩
 | 188,3=>some ⟨[6],.bool,[]⟩
 | 191,9=>some ⟨[19],.bool,[]⟩
 | 110,3=>some ⟨[2],.bool,[]⟩
 | 243,9=>some ⟨[33],.bool,[]⟩
 | 316,3=>some ⟨[2],.bool,[]⟩
 | 189,3=>some ⟨[31],.bool,[]⟩
 | 189,17=>some ⟨[67],.bool,[]⟩
 | 189,21=>some ⟨[86],.bool,[]⟩
 | 189,25=>some ⟨[2],.bool,[]⟩
 | 197,11=>some ⟨[39],.bool,[]⟩
 | 197,15=>some ⟨[74],.bool,[]⟩
 | 69,3=>some ⟨[38],.bool,[]⟩
 | 69,27=>some ⟨[98],.bool,[]⟩
 | 69,41=>some ⟨[146],.bool,[]⟩
 | 109,3=>some ⟨[16],.bool,[]⟩
 | 109,15=>some ⟨[68],.bool,[]⟩
 | 24,5=>some ⟨[23],.bool,[]⟩
 | 111,5=>some ⟨[21],.bool,[]⟩
 | 315,13=>some ⟨[25],.bool,[]⟩
 | 315,23=>some ⟨[54],.bool,[]⟩
 | 310,5=>some ⟨[30],.bool,[]⟩
 | 180,5=>some ⟨[26],.bool,[]⟩
 | 181,3=>some ⟨[30],.bool,[]⟩
 | 186,5=>some ⟨[26],.bool,[]⟩
 | 182,17=>some ⟨[46],.bool,[]⟩
 | 182,31=>some ⟨[76],.bool,[]⟩
 | 182,47=>some ⟨[108],.bool,[]⟩
 | 187,9=>some ⟨[28],.bool,[]⟩
 | 65,13=>some ⟨[37],.bool,[]⟩
 | 65,31=>some ⟨[72],.bool,[]⟩
 | 190,3=>some ⟨[2],.bool,[]⟩
 | 192,3=>some ⟨[2],.bool,[]⟩
 | 66,7=>some ⟨[3],.bool,[]⟩
 | 66,9=>some ⟨[54],.bool,[]⟩
 | 66,13=>some ⟨[77],.bool,[]⟩
 | 177,5=>some ⟨[24],.bool,[]⟩
 | 60,5=>some ⟨[20],.bool,[]⟩
 | 60,29=>some ⟨[66],.bool,[]⟩
 | 113,11=>some ⟨[47],.bool,[]⟩
 | 107,13=>some ⟨[38],.bool,[]⟩
 | 107,37=>some ⟨[90],.bool,[]⟩
 | 287,7=>some ⟨[31],.bool,[]⟩
 | 281,3=>some ⟨[4],.bool,[]⟩
 | 162,3=>some ⟨[4],.bool,[]⟩
 | 161,9=>some ⟨[25],.bool,[]⟩
 | 379,17=>some ⟨[72],.bool,[]⟩
 | 201,15=>some ⟨[36],.bool,[]⟩
 | 73,3=>some ⟨[16],.bool,[]⟩
 | 344,15=>some ⟨[28],.bool,[]⟩
 | 347,5=>some ⟨[18],.bool,[]⟩
 | 227,27=>some ⟨[52],.bool,[]⟩
 | 88,17=>some ⟨[39],.bool,[]⟩
 | 329,3=>some ⟨[15],.bool,[]⟩
 | 329,23=>some ⟨[58],.bool,[]⟩
 | 212,3=>some ⟨[24],.bool,[]⟩
 | 212,11=>some ⟨[2],.bool,[]⟩
 | 414,5=>some ⟨[33],.bool,[]⟩
 | 411,5=>some ⟨[37],.bool,[]⟩
 | 411,25=>some ⟨[77],.bool,[]⟩
 | 430,5=>some ⟨[35],.bool,[]⟩
 | 415,11=>some ⟨[27],.bool,[]⟩
 | 226,7=>some ⟨[24],.bool,[]⟩
 | 419,5=>some ⟨[22],.bool,[]⟩
 | 27,5=>some ⟨[21],.bool,[]⟩
 | 53,11=>some ⟨[45],.bool,[]⟩
 | 160,9=>some ⟨[33],.bool,[]⟩
 | 54,3=>some ⟨[16],.bool,[]⟩
 | 54,15=>some ⟨[43],.bool,[]⟩
 | 54,19=>some ⟨[56],.bool,[]⟩
 | 54,25=>some ⟨[70],.bool,[]⟩
 | 54,31=>some ⟨[91],.bool,[]⟩
 | 406,3=>some ⟨[2],.bool,[]⟩
 | 469,3=>some ⟨[17],.bool,[]⟩
 | 466,17=>some ⟨[33],.bool,[]⟩
 | 466,29=>some ⟨[64],.bool,[]⟩
 | 425,21=>some ⟨[52],.bool,[]⟩
 | 425,25=>some ⟨[61],.bool,[]⟩
 | 339,11=>some ⟨[26],.bool,[]⟩
 | 231,15=>some ⟨[54],.bool,[]⟩
 | 71,11=>some ⟨[22],.bool,[]⟩
 | 71,19=>some ⟨[42],.bool,[]⟩
 | 205,3=>some ⟨[6],.bool,[]⟩
 | 142,9=>some ⟨[19],.bool,[]⟩
 | 208,3=>some ⟨[2],.bool,[]⟩
 | 157,3=>some ⟨[2],.bool,[]⟩
 | 291,9=>some ⟨[29],.bool,[]⟩
 | 165,15=>some ⟨[52],.bool,[]⟩
 | 165,19=>some ⟨[74],.bool,[]⟩
 | 165,23=>some ⟨[2],.bool,[]⟩
 | 204,9=>some ⟨[50],.bool,[]⟩
 | 76,3=>some ⟨[36],.bool,[]⟩
 | 76,25=>some ⟨[88],.bool,[]⟩
 | 76,37=>some ⟨[128],.bool,[]⟩
 | 193,3=>some ⟨[2],.bool,[]⟩
 | 194,3=>some ⟨[2],.bool,[]⟩
 | 67,11=>some ⟨[3],.bool,[]⟩
 | 67,15=>some ⟨[3],.bool,[]⟩
 | 67,25=>some ⟨[2],.bool,[]⟩
 | 363,11=>some ⟨[40],.bool,[]⟩
 | 238,11=>some ⟨[31],.bool,[]⟩
 | 258,3=>some ⟨[4],.bool,[]⟩
 | 442,3=>some ⟨[4],.bool,[]⟩
 | 273,3=>some ⟨[4],.bool,[]⟩
 | 386,3=>some ⟨[3],.bool,[]⟩
 | 72,3=>some ⟨[16],.bool,[]⟩
 | 72,23=>some ⟨[6],.bool,[]⟩
 | 72,33=>some ⟨[72],.bool,[]⟩
 | 72,41=>some ⟨[92],.bool,[]⟩
 | 9,13=>some ⟨[41],.bool,[]⟩
 | 9,25=>some ⟨[2],.bool,[]⟩
 | _,_=>none
abbrev t58:=zL [0,1,5] (.pair s8l o0s) 0 [] .unit [4] .bool
abbrev t71:=zL [0,1,5] (.pair r6s p6q) 0 [] .unit [4] .bool
abbrev s4j:=zL [2,3,5] (.pair r4k p9h) 0 [] .unit [4] .bool
abbrev s1t:=zL [0,1,5] (.pair s84 (.pair s84 u1p)) 0 [] .unit [4] .bool
abbrev s7t:=zL [0,3,4] (.pair p55 s59) 0 [0,3] (.pair p55 u1p) [] .unit
abbrev s44:=zL [0,1,5,6] (.pair u1p (.pair (.int .u8) (.pair (.own true p9d) u1p))) 0 [5] (.tr true p9d) [] .unit
abbrev s4q:=zL [0,2,4,5] (.pair u1p o1j) 0 [2,4] (.pair p13 p13) [] .unit
abbrev s48:=zL [0,3,4] (.pair s84 p9k) 0 [3] r4j [] .unit
abbrev r0y:=zL [0,3] q8j 0 [0] .str [2] .bool
abbrev s15:=zL [0,3] p6q 0 [0] r6s [2] .bool
abbrev r02:=zL [1,3] p9h 0 [1] r4k [2] .bool
abbrev t75:=zL [0,3] o0s 0 [0] s8l [2] .bool
abbrev s7m:=zL [1,3] (.pair q0p u1p) 0 [1] q0p [2] .bool
abbrev s4k:=zL [1,4,5] o3g 2 [1,4] (.pair q0p (.own true p9e)) [2] .bool
abbrev s4l:=zL [1,4,7] o3g 4 [1,4] (.pair q0p (.tr true p9e)) [2] .bool
abbrev s4m:=zL [1,4,9] o3h 6 [] .unit [2] .bool
abbrev s4n:=zL [1,4,9,10] (.pair q0p (.pair (.tr true p9e) s59)) 8 [1,4,9] o3h [2] .bool
abbrev s1v:=zL [1,3] o1n 0 [] .unit [2] .bool
abbrev t9m:=zL [1,3,4,5] (.pair (.box p7t) o0w) 2 [1,3,4] (.pair (.box p7t) (.pair u1p r4k)) [2] .bool
abbrev t9n:=zL [1,3,4,6] (.pair (.box p7t) o0w) 4 [1,3] o1n [2] .bool
abbrev s7q:=zL [1,2,5] (.pair u1p o1n) 0 [] .unit [4] u1p
abbrev s1x:=zL [0,3,5,6] o3d 0 [0,3,5] (.pair r6s (.pair (.box (.pair .str q8d)) p54)) [] .unit
abbrev s1y:=zL [0,3,5,7] o3d 2 [5] p54 [] .unit
abbrev s7u:=zL [0,3] (.pair u1p (.own true p9d)) 0 [0,3] (.pair u1p (.own true p9d)) [] .unit
abbrev s4w:=zL [0,1,7,8,9] (.pair .str (.pair u1p p9j)) 0 [] .unit [4,5,6] (.pair u1p p6r)
abbrev s4v:=zL [4,7,8,9,10] o3e 0 [4,7,8] (.pair q8k (.pair q8i q8k)) [] .unit
abbrev s10:=zL [4,7,8,12,13] o3e 2 [4,7,8] (.pair q8k (.pair q8i q8k)) [] .unit
abbrev t65:=zL [0,1,5,6,7] (.pair q8i (.pair u1p (.pair r4j s59))) 0 [0,5] (.pair q8i r4j) [0,4] (.pair q8i r4j)
abbrev s1z:=zL [4,7,8,9,10] (.pair r7r (.pair q8i (.pair r7r s59))) 0 [4,7,8] (.pair r7r (.pair q8i r7r)) [] .unit
abbrev s4y:=zL [0,1,5] (.pair p6t q8j) 0 [0] p6t [] .unit
abbrev s4z:=zL [0,1,5,6] (.pair p6t (.pair .str s59)) 2 [0,1,5] (.pair p6t q8j) [] .unit
abbrev s43:=zL [1,4,5] (.pair r4k q8j) 0 [1,4] (.pair r4k .str) [] .unit
abbrev s14:=zL [1,4,6] (.pair r4k q8j) 2 [1,4] (.pair r4k .str) [] .unit
abbrev s49:=zL [0,3,4] (.pair s84 q8j) 0 [3] .str [] .unit
abbrev s1u:=zL [1,4,5] (.pair q0p q8j) 0 [1,4] (.pair q0p .str) [] .unit
abbrev s1w:=zL [1,5,6] p7v 0 [5] u1p [] .unit
abbrev r03:=zL [0,1,2,7,8] (.pair s8l (.pair .str p9j)) 0 [7] u1p [] .unit
abbrev s42:=zL [0,1,5,6] (.pair s8l (.pair u1p p8d)) 0 [1,5] (.pair u1p p6p) [] .unit
abbrev s12:=zL [1,5,8,9] (.pair u1p (.pair p6p p8d)) 2 [8] q0t [] .unit
abbrev s13:=zL [1,5,8,9,10,11] (.pair u1p (.pair p6p (.pair q0t p9j))) 4 [1,5,8,9,10] (.pair u1p (.pair p6p (.pair q0t s59))) [] .unit
abbrev s7s:=zL [2,4,5,6,7] (.pair q0p (.pair r7r (.pair r7r s59))) 0 [2,4,5,6] (.pair q0p o1k) [] .unit
abbrev s40:=zL [0,1,5] (.pair p4g p6q) 0 [] .unit [4] .bool
abbrev s41:=zL [0,1,5,6] (.pair p4g p9l) 2 [0,1,5] (.pair p4g p6q) [4] .bool
abbrev r01:=zL [1,2,5] p9m 0 [] .unit [4] .bool
abbrev t61:=zL [1,2,7,8] (.pair r6s (.pair u1p p8d)) 0 [7] q0t [] .unit
abbrev t62:=zL [1,2,7,8,9,10,11] o3c 2 [1,2,7,8,9,10,11] o3c [] .unit
abbrev s11:=zL [2,3,4,5,6,7] (.pair q0p (.pair r4k (.pair r7r (.pair r7r (.pair (.box (.pair u1p (.pair u1p (.pair u1p (.pair u1p (.pair (.tr true q2t) (.pair (.tr true u1x) (.pair .bool .str)))))))) u1p))))) 0 [3,4,5] (.pair r4k o0x) [] .unit
abbrev s4x:=zL [1,2,5] (.pair .str (.pair q0p u1p)) 0 [] .unit [4] u1p
abbrev t9p:=zL [2,3,4,6,7,8,9] (.pair .str (.pair q0p (.pair r4k (.pair r7r (.pair r7r (.pair q8k u1p)))))) 0 [2,3,4,6,7,8] (.pair .str (.pair q0p o3f)) [] .unit
abbrev t72:=zL [2,3,4,6,7,10] (.pair .str (.pair q0p (.pair r4k o1k))) 2 [4,6,7] (.pair r4k o0x) [] .unit
abbrev s4r:=zL [1,2,4,5,6] (.pair .str (.pair q0p o1k)) 0 [4,5] o0x [] .unit
abbrev t73:=zL [1,2,6] (.pair u1p (.pair p58 u1p)) 0 [1,2] (.pair u1p p58) [4,5] q8d
abbrev t74:=zL [1,2,3,8,9] (.pair u1p (.pair u1p (.pair p58 q8j))) 0 [8] .str [6,7] q8d
abbrev t9q:=zL [1,2,7,8,10,11,12] (.pair u1p (.pair p58 (.pair p12 (.pair .str (.pair p12 s59))))) 0 [10,11] (.pair p12 u1p) [4,5,6] (.pair p12 p6r)
abbrev s4u:=zL [2,4,5,6] (.pair r7r (.pair r7r (.pair (.tr true .str) u1p))) 0 [2,4] o0x [2,3] (.pair r7r .bool)
abbrev s7o:=zL [1,3] (.pair p58 u1p) 0 [1] p58 [2] .bool
abbrev s7p:=zL [1,4] (.pair p58 u1p) 2 [] .unit [2] .bool
abbrev t9o:=zL [1,2,3,4] (.pair p58 o1j) 0 [2,3] (.pair p13 p13) [] .unit
abbrev t76:=zL [1,2,3,4,8,10,11] (.pair u1p (.pair u1p (.pair .str (.pair p58 o1j)))) 0 [8,10] (.pair p13 p13) [8,9] (.pair p13 .bool)
abbrev s45:=zL [1,4,6,7,8,9] (.pair p9q (.pair p13 (.pair u1p (.pair p13 p9p)))) 0 [4,7,8] (.pair p13 (.pair p13 .bool)) [] .unit
abbrev t9r:=zL [2,3,4,6,7] (.pair r4k (.pair p59 (.pair q8k (.pair q8k u1p)))) 0 [2,3,4,6] (.pair r4k (.pair p59 (.pair q8k q8k))) [4,5] (.pair q8k .bool)
abbrev s7r:=zL [1,2,3,8] (.pair s8l (.pair .str p9h)) 0 [1,2,3] (.pair s8l (.pair .str r4k)) [6,7] q8d
abbrev s46:=zL [0,3,5,6] (.pair s8l (.pair p59 (.pair p12 u1p))) 0 [5] p12 [] .unit
abbrev s47:=zL [0,3,5,6,7,8,9] o3b 2 [0,3,5,6,7,8] (.pair s8l (.pair p59 (.pair (.tr true .str) (.pair u1p (.pair .str p12))))) [] .unit
abbrev s16:=zL [0,3,5,6,7,8,10] o3b 4 [0,3,6,8] (.pair s8l (.pair p59 (.pair u1p p12))) [] .unit
abbrev s4s:=zL [1,3,5,7,8] (.pair s8l (.pair r4k (.pair p59 p8d))) 0 [1,3,5,7] (.pair s8l (.pair r4k (.pair p59 p6p))) [] .unit
abbrev s4t:=zL [1,3,9,10,11] (.pair s8l (.pair r4k (.pair p6s (.pair (.tr true .str) u1p)))) 2 [9] p6s [] .unit
abbrev s7v:=zL [0,1,4,5] (.pair o0n (.pair u1p p9k)) 0 [0,4] (.pair o0n r4j) [] .unit
abbrev r0z:=zL [0,1,5] (.pair r6s p6q) 0 [] .unit [4] .bool
abbrev r00:=zL [0,1,5,6] (.pair r6s p9l) 2 [0,1,5] (.pair r6s p6q) [4] .bool
abbrev s4o:=zL [1,2,5] p9m 0 [] .unit [4] .bool
abbrev r3y:=zL [1,2,5] p9m 0 [] .unit [4] .bool
abbrev s7n:=zL [1,2,5] p9m 0 [] .unit [4] .bool
abbrev s4p:=zL [1,2,5,6,7] (.pair s84 (.pair r4k o0w)) 2 [1,2,5] p9m [4] .bool
abbrev t63:=zL [1,2,5,6] (.pair s84 (.pair r4k p9p)) 0 [] .unit [4] .bool
abbrev t59:=zL [1,2,5,6,7,8] (.pair s84 (.pair r4k (.pair .bool o0w))) 2 [1,2,5,6] (.pair s84 (.pair r4k p9p)) [4] .bool
abbrev s5a:=zL [0,1,4,5,6] (.pair t7m (.pair u1p (.pair p0r (.pair p0r u1p)))) 0 [0,4,5] (.pair t7m (.pair p0r p0r)) [] .unit
abbrev t9t:=zL [0,3,4] (.pair t7m (.pair p54 u1p)) 0 [0,3] (.pair t7m p54) [] .unit
abbrev t9s:=zL [0,3,4] (.pair t7m (.pair p6s u1p)) 0 [0,3] (.pair t7m p6s) [] .unit
abbrev t64:=zL [0,3,4] (.pair t7m p8d) 0 [0,3] (.pair t7m q0t) [] .unit
abbrev u21:=zL [0,1,7,8] (.pair s84 (.pair (.clo 149 (.rbox .str)) s59)) 0 [] .unit [4] u1p
abbrev u2k:=zL [0,1,7,8] (.pair s84 (.pair (.clo 289 p4b) s59)) 0 [] .unit [4] u1p
abbrev t9l:=zL [0,1,7,8,9] (.pair s84 (.pair u1p p7v)) 0 [] .unit [4] .bool
abbrev t02:=zL [0,3,9,10,11] (.pair p9o (.pair u1p (.pair p9o s59))) 0 [0,3] (.pair p9o u1p) [] .unit
abbrev u9s:=zL [6,25,26,27] (.pair o0m (.pair p9o s59)) 2 [6] o0m [] .unit
abbrev r0w:=zL [0,3] q8j 0 [0] .str [2] .bool
abbrev s1r:=zL [0,5,6,7] (.pair r6s p9l) 0 [0] r6s [2] .bool
abbrev r0x:=zL [1,6,7,8] (.pair r4k (.pair p4g s59)) 0 [1] r4k [2] .bool
abbrev t70:=zL [0,5,6,7] (.pair s8l p9n) 0 [0] s8l [2] .bool
abbrev s7k:=zL [1,38,39,40] (.pair q0p p9n) 0 [1] q0p [2] .bool
abbrev s4d:=zL [1,51,52,53] (.pair q0p p7v) 2 [1] q0p [2] .bool
abbrev s4e:=zL [1,91,92,93] (.pair q0p p7v) 4 [1] q0p [2] .bool
abbrev s1s:=zL [3,6,7,8] (.pair r4j p7v) 0 [3] r4j [] .unit
abbrev s1p:=zL [5,10,11,12] (.pair u1p p7v) 0 [5] u1p [] .unit
abbrev s7l:=zL [0,1,2,7,10,11,12] (.pair s8l (.pair .str (.pair u1p (.pair u1p p9n)))) 0 [7] u1p [] .unit
abbrev t9k:=zL [0,4,7,8,9] (.pair .str (.pair u1p p9n)) 0 [4] u1p [] .unit
abbrev s4i:=zL [0,1,5,12,13,14] (.pair s8l (.pair u1p (.pair (.box q0t) p9n))) 0 [1,5] (.pair u1p (.box q0t)) [] .unit
abbrev s1q:=zL [1,8,9,38,39,40] (.pair u1p (.pair (.clo 364 (.rbox p6p)) (.pair q0t (.pair p6p s59)))) 2 [9] q0t [] .unit
abbrev u3c:=zL [0,1,7,8] (.pair s84 (.pair o0o s59)) 0 [] .unit [4] u1p
abbrev u2z:=zL [0,1,5,6] (.pair r4j (.pair o0o s59)) 0 [0,5] p9k [] .unit
abbrev s4g:=zL [1,9,10,11] (.pair r6s (.pair p4g s59)) 0 [] .unit [4] .bool
abbrev s4h:=zL [1,6,9,10,11,15,16,17] (.pair r6s (.pair p59 (.pair p4g (.pair u1p (.pair u1p p9l))))) 2 [1,9,10,11] (.pair r6s (.pair p4g s59)) [4] .bool
abbrev u3n:=zL [0,1,7,8] (.pair s84 (.pair (.clo 386 p4b) s59)) 0 [] .unit [4] u1p
abbrev t9j:LoopA:=⟨⟨[2,4,6,7,8,9,10,30,31,32],(.pair .str (.pair r4k (.pair r7r (.pair r7r (.pair q8k (.pair r4j (.pair r4j (.pair .skip s59)))))))),[(30,7,2,u0a)]⟩,0,⟨[4,6,7,8,9,10],(.pair r4k (.pair r7r (.pair r7r (.pair q8k (.pair r4j (.tr true u0a)))))),[]⟩,⟨[],.unit,[]⟩⟩
abbrev u1y:=zL [0,1,7,8] (.pair s8l (.pair (.clo 255 (.rbox p7s)) s59)) 0 [] .unit [4] u1p
abbrev t60:=zL [2,7,14,15,16] (.pair u1p (.pair q0t p9l)) 0 [7] q0t [] .unit
abbrev u22:=zL [0,1,7,8] (.pair s84 (.pair (.clo 279 p4b) s59)) 0 [] .unit [4] u1p
abbrev u2q:=zL [0,1,5,6] (.pair r4j (.pair (.clo 279 p4b) s59)) 0 [0,5] p9k [] .unit
abbrev s4f:LoopA:=⟨⟨[3,4,5,6,46,47,48],(.pair r4k (.pair r7r (.pair r7r (.pair q8k (.pair .skip s59))))),[(46,5,2,u0a)]⟩,0,⟨[3,4,5,6],o3f,[]⟩,⟨[],.unit,[]⟩⟩
abbrev u20:=zL [0,1,7,8] (.pair s84 (.pair o0p s59)) 0 [] .unit [4] u1p
abbrev u2p:=zL [0,1,5,6] (.pair r4j (.pair o0p s59)) 0 [0,5] p9k [] .unit
def p8w:Nat→Nat→Option LoopA
 | 198,4=>some t58
 | 317,4=>some t71
 | 196,4=>some s4j
 | 199,4=>some s1t
 | 95,3=>some s7t
 | 394,3=>some s44
 | 418,5=>some s4q
 | 241,3=>some s48
 | 191,2=>some r0y
 | 243,2=>some s15
 | 189,4=>some r02
 | 197,2=>some t75
 | 69,4=>some s7m
 | 69,10=>some s4k
 | 69,17=>some s4l
 | 69,24=>some s4m
 | 69,27=>some s4n
 | 109,4=>some s1v
 | 109,10=>some t9m
 | 109,15=>some t9n
 | 49,2=>some s7q
 | 242,3=>some s1x
 | 242,9=>some s1y
 | 313,2=>some s7u
 | 315,6=>some s4w
 | 182,8=>some s4v
 | 182,15=>some s10
 | 187,4=>some t65
 | 65,6=>some s1z
 | 392,2=>some s4y
 | 392,6=>some s4z
 | 306,5=>some s43
 | 306,10=>some s14
 | 314,3=>some s49
 | 185,5=>some s1u
 | 105,3=>some s1w
 | 113,3=>some r03
 | 107,3=>some s42
 | 107,10=>some s12
 | 107,14=>some s13
 | 21,5=>some s7s
 | 288,2=>some s40
 | 288,5=>some s41
 | 161,2=>some r01
 | 379,3=>some t61
 | 379,8=>some t62
 | 318,12=>some s11
 | 319,2=>some s4x
 | 320,8=>some t9p
 | 320,14=>some t72
 | 321,4=>some s4r
 | 417,4=>some t73
 | 344,5=>some t74
 | 227,10=>some t9q
 | 88,4=>some s4u
 | 329,4=>some s7o
 | 329,9=>some s7p
 | 413,5=>some t9o
 | 411,5=>some t76
 | 415,5=>some s45
 | 419,5=>some t9r
 | 420,2=>some s7r
 | 153,3=>some s46
 | 153,9=>some s47
 | 153,15=>some s16
 | 421,3=>some s4s
 | 421,9=>some s4t
 | 424,2=>some s7v
 | 159,2=>some r0z
 | 159,5=>some r00
 | 53,2=>some s4o
 | 160,2=>some r3y
 | 54,4=>some s7n
 | 54,12=>some s4p
 | 466,5=>some t63
 | 466,12=>some t59
 | 94,3=>some s5a
 | 203,3=>some t9t
 | 445,3=>some t9s
 | 393,3=>some t64
 | 10011,2=>some u21
 | 10002,2=>some u2k
 | 163,2=>some t9l
 | 164,3=>some t02
 | 164,11=>some u9s
 | 142,2=>some r0w
 | 291,2=>some s1r
 | 165,2=>some r0x
 | 204,2=>some t70
 | 76,4=>some s7k
 | 76,10=>some s4d
 | 76,16=>some s4e
 | 271,3=>some s1s
 | 235,3=>some s1p
 | 363,3=>some s7l
 | 364,3=>some t9k
 | 238,3=>some s4i
 | 238,11=>some s1q
 | 10004,2=>some u3c
 | 10003,5=>some u2z
 | 252,2=>some s4g
 | 252,5=>some s4h
 | 10008,2=>some u3n
 | 146,6=>some t9j
 | 10005,2=>some u1y
 | 120,3=>some t60
 | 10010,2=>some u22
 | 10009,5=>some u2q
 | 150,9=>some s4f
 | 10013,2=>some u20
 | 10012,5=>some u2p
 | _,_=>none
def o3t:Nat→Nat
 | 10000=>127
 | 10001=>261
 | 10002=>148
 | 10003=>236
 | 10004=>148
 | 10005=>254
 | 10006=>127
 | 10007=>261
 | 10008=>148
 | 10009=>236
 | 10010=>148
 | 10011=>148
 | 10012=>236
 | 10013=>148
 | f=>f
def p83:Nat→List Nat→Nat
 | 127, [289] =>10000
 | 261, [289] =>10001
 | 148, [289] =>10002
 | 236, [237] =>10003
 | 148, [237] =>10004
 | 254, [255] =>10005
 | 127, [386] =>10006
 | 261, [386] =>10007
 | 148, [386] =>10008
 | 236, [279] =>10009
 | 148, [279] =>10010
 | 148, [149] =>10011
 | 236, [280] =>10012
 | 148, [280] =>10013
 | f,_=>f
def p3p:(f:Nat)→Option ((p7h f).ins.den→Option (p7h f).out.den)
 | 257=>some (y2q u0e)
 | _=>none
def p6i:Plan:= {sig:=p7h,join:=p8r,loop:=p8w,fn:=o3t,pick:=p83,prim:=p3p,gd:=y8a}
def A:Ann:=ann o29 p6i
set_option maxRecDepth 100000
abbrev r7y:Type:=(List u0a.den)
abbrev q0s:Type:=(List u0e.den)
abbrev r7q:Type:=(ByteArray×Bool)
abbrev r1i:Type:=(Unit⊕Bool)
abbrev q8g:Type:=(ByteArray×Int)
abbrev q8h:Type:=(List u1x.den)
abbrev q55:Type:=(Unit⊕Int)
abbrev p18:Type:=(List ByteArray)
abbrev q0o:Type:=(List Int)
abbrev p19:Type:=(Int⊕Unit)
abbrev p74:Type:=(ByteArray×ByteArray)
abbrev p6m:Type:=(q0s⊕Unit)
abbrev p4a:Type:=(Int×Int)
abbrev s2v:Type:=(q0o×p4a)
abbrev p6n:Type:=(Z92⊕Bool)
abbrev p53:Type:=(Int×Bool)
abbrev p0q:Type:=(ByteArray×p53)
abbrev o0g:Type:=((Int×q0s)⊕Unit)
abbrev p75:Type:=(r7y⊕Unit)
abbrev p76:Type:=(p4n⊕Unit)
abbrev o0h:Type:=(ByteArray⊕Bool)
abbrev p77:Type:=(s2v×Int)
abbrev o0i:Type:=(ByteArray×r7q)
abbrev p78:Type:=(q0s×Int)
abbrev zLv:=y5x Tryz.prog A
abbrev zK (f:Nat) (x:(A.sig f).ins.den):=zLv.call f x
theorem zC (f:Nat) {fn:Func} {X:(A.sig f).ins.den→Option (A.sig f).out.den} (hp:A.prim f=none) (hf:Tryz.prog.funcs[A.fn f]? =some fn) (hb:z7s A zLv lpW f fn=X):zK f=X:=funext (y7p hp hf (congrFun hb))
theorem zW (l:LoopA) (f:Nat) (fn:Func) (r n:Nat) {S:(l.head.sh.den→Option (l.out.sh.den⊕l.ret.sh.den))→l.head.sh.den→Option (l.out.sh.den⊕l.ret.sh.den)} (x:l.head.sh.den) (h:S=z7n A zLv lpW f (y7w fn r) l n):lpW _ _ S x=S (lpW _ _ S) x:=y7x h x
def q3e(x:q0o):Option Bool:=zK 15 x
def q2v (x:q0o):Option Bool:=(some (decide ((x.length:Int) >(1048576:Int))))
theorem p08:q3e=q2v:=zC 15 rfl Tryz.func15 (by kernel_rfl)
def t20(x:o23):Option Bool:=zK 198 x
def u5m(g:o04→Option r1i)(x:o04):Option r1i:=(bif (decide (x.2.2<(x.1.length:Int))) then(bif (y4q x.2.2 x.1.length) then(bif (y4q x.2.2 x.2.1.length) then(bif (!(z7o (rdL u0e x.1 (x.2.2).toNat).1 (rdL u0e x.2.1 (x.2.2).toNat).1&&(z7o (rdL u0e x.1 (x.2.2).toNat).2.1 (rdL u0e x.2.1 (x.2.2).toNat).2.1&&(((rdL u0e x.1 (x.2.2).toNat).2.2.1==(rdL u0e x.2.1 (x.2.2).toNat).2.2.1)&&(decide ((rdL u0e x.1 (x.2.2).toNat).2.2.2=(rdL u0e x.2.1 (x.2.2).toNat).2.2.2)&&true))))) then(some (.inr false)) else(g (x.1,(x.2.1,(IntKind.i64.wrap (x.2.2+1)))))) else none) else none) else(some (.inl ())))
def u5p:=lpW _ _ u5m
theorem t6f x:u5p x=u5m u5p x:=zW t58 198 Tryz.f198 4 26 x (by kernel_rfl)
def t7t (x:o23):Option Bool:=(bif (!decide ((x.1.length:Int)=(x.2.length:Int))) then(some false) else((u5p (x.1,(x.2,0))).bind fun r1=>match r1 with | .inl o2=>(some true) | .inr z3=>(some z3)))
theorem r1n:t20=t7t:=zC 198 rfl Tryz.func198 (by kernel_rfl)
def t4y(x:p97):Option Bool:=zK 317 x
def u62(g:p70→Option r1i)(x:p70):Option r1i:=(bif (decide (x.2.2<(x.1.length:Int))) then(bif (y4q x.2.2 x.1.length) then(bif (y4q x.2.2 x.2.1.length) then(bif (!(z7o (rdL u1x x.1 (x.2.2).toNat).1 (rdL u1x x.2.1 (x.2.2).toNat).1&&(z7o (rdL u1x x.1 (x.2.2).toNat).2.1 (rdL u1x x.2.1 (x.2.2).toNat).2.1&&(((rdL u1x x.1 (x.2.2).toNat).2.2==(rdL u1x x.2.1 (x.2.2).toNat).2.2)&&true)))) then(some (.inr false)) else(g (x.1,(x.2.1,(IntKind.i64.wrap (x.2.2+1)))))) else none) else none) else(some (.inl ())))
def u68:=lpW _ _ u62
theorem t8x x:u68 x=u62 u68 x:=zW t71 317 Tryz.f317 4 26 x (by kernel_rfl)
def s06 (x:p97):Option Bool:=(bif (!decide ((x.1.length:Int)=(x.2.length:Int))) then(some false) else((u68 (x.1,(x.2,0))).bind fun r1=>match r1 with | .inl o2=>(some true) | .inr z3=>(some z3)))
theorem r4y:t4y=s06:=zC 317 rfl Tryz.func317 (by kernel_rfl)
def s0n(x:Z49):Option Bool:=zK 196 x
def t1t(g:Z45→Option r1i)(x:Z45):Option r1i:=(bif (decide (x.2.2<(x.1.2.2.2.2.1.length:Int))) then(bif (y4q x.2.2 x.1.2.2.2.2.1.length) then(bif (y4q x.2.2 x.2.1.2.2.2.2.1.length) then(bif (!(z7o (rdL q2t x.1.2.2.2.2.1 (x.2.2).toNat).1 (rdL q2t x.2.1.2.2.2.2.1 (x.2.2).toNat).1&&(z7o (rdL q2t x.1.2.2.2.2.1 (x.2.2).toNat).2 (rdL q2t x.2.1.2.2.2.2.1 (x.2.2).toNat).2&&true))) then(some (.inr false)) else(g (x.1,(x.2.1,(IntKind.i64.wrap (x.2.2+1)))))) else none) else none) else(some (.inl ())))
def u7w:=lpW _ _ t1t
theorem s5h x:u7w x=t1t u7w x:=zW s4j 196 Tryz.f196 4 81 x (by kernel_rfl)
def s9j (x:Z49):Option Bool:=(((bif (!decide (x.1.1=x.2.1)) then(some true) else(bif (!decide (x.1.2.1=x.2.2.1)) then(some true) else(bif (!decide (x.1.2.2.1=x.2.2.2.1)) then(some true) else(bif (!decide (x.1.2.2.2.1=x.2.2.2.2.1)) then(some true) else(bif (!(x.1.2.2.2.2.2.2.1==x.2.2.2.2.2.2.2.1)) then(some true) else(bif (!z7o x.1.2.2.2.2.2.2.2 x.2.2.2.2.2.2.2.2) then(some true) else(bif (!decide ((x.1.2.2.2.2.1.length:Int)=(x.2.2.2.2.2.1.length:Int))) then(some true) else((t4y (x.1.2.2.2.2.2.1,x.2.2.2.2.2.2.1)).bind fun y1=>(some (!y1)))))))))):Option Bool).bind fun j2=>(bif j2 then(some false) else((u7w (x.1,(x.2,0))).bind fun r3=>match r3 with | .inl o4=>(some true) | .inr z5=>(some z5))))
theorem q09:s0n=s9j:=zC 196 rfl Tryz.func196 (by kernel_rfl)
def t39(x:o02):Option Bool:=zK 199 x
def u95(g:p9t→Option r1i)(x:p9t):Option r1i:=(bif (decide (x.2.2<(x.1.length:Int))) then(bif (y4q x.2.2 x.1.length) then(bif (y4q x.2.2 x.2.1.length) then((s0n ((rdL u0a x.1 (x.2.2).toNat),(rdL u0a x.2.1 (x.2.2).toNat))).bind fun y1=>(bif (!y1) then(some (.inr false)) else(g (x.1,(x.2.1,(IntKind.i64.wrap (x.2.2+1))))))) else none) else none) else(some (.inl ())))
def t0n:=lpW _ _ u95
theorem s2h x:t0n x=u95 t0n x:=zW s1t 199 Tryz.f199 4 27 x (by kernel_rfl)
def s6p (x:o02):Option Bool:=(bif (!decide ((x.1.length:Int)=(x.2.length:Int))) then(some false) else((t0n (x.1,(x.2,0))).bind fun r2=>match r2 with | .inl o3=>(some true) | .inr z4=>(some z4)))
theorem r8y:t39=s6p:=zC 199 rfl Tryz.func199 (by kernel_rfl)
def t38(x:Z31):Option Bool:=zK 70 x
def s6o (x:Z31):Option Bool:=((((t20 (x.1.1,x.2.1)).bind fun y1=>(bif y1 then((t39 (x.1.2.1,x.2.2.1)).bind fun y2=>(bif y2 then((t39 (x.1.2.2.1,x.2.2.2.1)).bind fun y3=>(bif y3 then(bif (decide (x.1.2.2.2.1=x.2.2.2.2.1)) then(some (decide (x.1.2.2.2.2=x.2.2.2.2.2))) else(some false)) else(some false))) else(some false))) else(some false))):Option Bool).bind fun j4=>(some j4))
theorem r8x:t38=s6o:=zC 70 rfl Tryz.func70 (by kernel_rfl)
def t4f(x:q0o):Option s2v:=zK 95 x
def u9e(g:s2v→Option ((q0o×Int)⊕Unit))(x:s2v):Option ((q0o×Int)⊕Unit):=(((bif (decide (x.2.2<(x.1.length:Int))) then(some (decide (x.2.2<4000))) else(some false)):Option Bool).bind fun j1=>(bif j1 then(bif (y4q x.2.2 x.1.length) then(g (x.1,((IntKind.i64.wrap ((BitVec.ofInt (IntKind.i64).bits (IntKind.i64.wrap ((IntKind.i64.wrap ((IntKind.i64.wrap (x.2.1*131))+(IntKind.i64.wrap (rdL (Ty.int .u8) x.1 (x.2.2).toNat))))+7))&&&BitVec.ofInt (IntKind.i64).bits (1073741823:Int)).toNat:Int)),(IntKind.i64.wrap (x.2.2+1))))) else none) else(some (.inl (x.1,x.2.1)))))
def u9l:=lpW _ _ u9e
theorem t82 x:u9l x=u9e u9l x:=zW s7t 95 Tryz.f95 3 32 x (by kernel_rfl)
def r20 (x:q0o):Option s2v:=((u9l (x,((IntKind.i64.wrap ((77601:Int)+(x.length:Int))),0))).bind fun r2=>match r2 with | .inl o3=>(some (o3.1,(0,o3.2))) | .inr z4=>none)
theorem q40:t4f=r20:=zC 95 rfl Tryz.func95 (by kernel_rfl)
def u51(x:s2v):Option (Int×s2v):=zK 270 x
def s93 (x:s2v):Option (Int×s2v):=(bif (decide (x.2.1<(x.1.length:Int))) then(bif (y4q x.2.1 x.1.length) then(some ((IntKind.i64.wrap ((BitVec.ofInt (IntKind.i64).bits (IntKind.i64.wrap ((IntKind.i64.wrap ((BitVec.ofInt (IntKind.i64).bits (IntKind.i64.wrap ((BitVec.ofInt (IntKind.i64).bits (Int.fdiv (IntKind.i64.wrap ((IntKind.i64.wrap (x.2.2*6364136223846793005))+1442695040888963407)) (2^(min ((33:Int)).toNat (IntKind.i64).bits)))^^^BitVec.ofInt (IntKind.i64).bits (Int.fdiv (IntKind.i64.wrap ((IntKind.i64.wrap (x.2.2*6364136223846793005))+1442695040888963407)) (2^(min ((45:Int)).toNat (IntKind.i64).bits)))).toNat:Int))&&&BitVec.ofInt (IntKind.i64).bits (255:Int)).toNat:Int))+(IntKind.i64.wrap (rdL (Ty.int .u8) x.1 (x.2.1).toNat))))&&&BitVec.ofInt (IntKind.i64).bits (255:Int)).toNat:Int)),(x.1,((IntKind.i64.wrap (x.2.1+1)),(IntKind.i64.wrap ((IntKind.i64.wrap (x.2.2*6364136223846793005))+1442695040888963407)))))) else none) else(some ((IntKind.i64.wrap ((BitVec.ofInt (IntKind.i64).bits (IntKind.i64.wrap ((BitVec.ofInt (IntKind.i64).bits (Int.fdiv (IntKind.i64.wrap ((IntKind.i64.wrap (x.2.2*6364136223846793005))+1442695040888963407)) (2^(min ((33:Int)).toNat (IntKind.i64).bits)))^^^BitVec.ofInt (IntKind.i64).bits (Int.fdiv (IntKind.i64.wrap ((IntKind.i64.wrap (x.2.2*6364136223846793005))+1442695040888963407)) (2^(min ((45:Int)).toNat (IntKind.i64).bits)))).toNat:Int))&&&BitVec.ofInt (IntKind.i64).bits (255:Int)).toNat:Int)),(x.1,(x.2.1,(IntKind.i64.wrap ((IntKind.i64.wrap (x.2.2*6364136223846793005))+1442695040888963407)))))))
theorem q1s:u51=s93:=zC 270 rfl Tryz.func270 (by kernel_rfl)
def u0j(x:p77):Option (Int×s2v):=zK 140 x
def s67 (x:p77):Option (Int×s2v):=(bif (decide (x.2≤0)) then(some (0,x.1)) else(bif (decide (x.2≤256)) then((u51 x.1).bind fun y1=>(bif (!decide (x.2=0)) then(some ((Int.tmod y1.1 x.2),y1.2)) else none)) else((u51 x.1).bind fun y2=>((u51 y2.2).bind fun y3=>((u51 y3.2).bind fun y4=>((u51 y4.2).bind fun y5=>(bif (!decide (x.2=0)) then(some ((Int.tmod (IntKind.i64.wrap ((IntKind.i64.wrap ((IntKind.i64.wrap ((IntKind.i64.wrap (y2.1*16777216))+(IntKind.i64.wrap (y3.1*65536))))+(IntKind.i64.wrap (y4.1*256))))+y5.1)) x.2),y5.2)) else none)))))))
theorem r9f:u0j=s67:=zC 140 rfl Tryz.func140 (by kernel_rfl)
def s0o(x:Unit):Option Z92:=zK 223 x
def s9k (x:Unit):Option Z92:=(some (([] :List u0e.den),(([] :List u0a.den),(([] :List u0a.den),(0,1)))))
theorem r0p:s0o=s9k:=zC 223 rfl Tryz.func223 (by kernel_rfl)
def t6q(x:Unit):Option Z63:=zK 348 x
def s3z (x:Unit):Option Z63:=((s0o ()).bind fun y1=>(some (y1,([] :List u0a.den))))
theorem r7a:t6q=s3z:=zC 348 rfl Tryz.func348 (by kernel_rfl)
def u6s(x:Unit):Option Int:=zK 330 x
def r4o (x:Unit):Option Int:=(some (97:Int))
theorem s1l:u6s=r4o:=zC 330 rfl Tryz.func330 (by kernel_rfl)
def u0r(x:(Int×p4a)):Option Bool:=zK 188 x
def r59 (x:(Int×p4a)):Option Bool:=(((bif (decide (x.1≥x.2.1)) then(some (decide (x.1≤x.2.2))) else(some false)):Option Bool).bind fun j1=>(some j1))
theorem q68:u0r=r59:=zC 188 rfl Tryz.func188 (by kernel_rfl)
def u8m(x:p4a):Option ByteArray:=zK 394 x
def u7q(g:(Int×(Int×(q0o×Int)))→Option (q0o⊕Unit))(x:(Int×(Int×(q0o×Int)))):Option (q0o⊕Unit):=(bif (decide (x.2.2.2<x.1)) then(bif (y4q x.2.2.2 x.2.2.1.length) then(g (x.1,(x.2.1,((x.2.2.1.set (x.2.2.2).toNat x.2.1),(IntKind.i64.wrap (x.2.2.2+1)))))) else none) else(some (.inl x.2.2.1)))
def u4g:=lpW _ _ u7q
theorem t2t x:u4g x=u7q u4g x:=zW s44 394 Tryz.f394 3 20 x (by kernel_rfl)
def s0f (x:p4a):Option ByteArray:=(bif (decide (0≤x.1)&&decide (x.1≤1099511627776)) then((u4g (x.1,(x.2,((List.replicate (x.1).toNat ((Ty.int .u8)).zero),0)))).bind fun r1=>match r1 with | .inl o2=>(some (y7g o2)) | .inr z3=>none) else none)
theorem r0q:u8m=s0f:=zC 394 rfl Tryz.func394 (by kernel_rfl)
def s0v(x:Unit):Option ByteArray:=zK 464 x
def s98 (x:Unit):Option ByteArray:=((u8m (64,0)).bind fun y1=>(some y1))
theorem q1w:s0v=s98:=zC 464 rfl Tryz.func464 (by kernel_rfl)
def r04(x:Int):Option r4p:=zK 418 x
def t6h(g:o1r→Option (p7x⊕Unit))(x:o1r):Option (p7x⊕Unit):=(bif (decide (x.2.2.2<x.1)) then((s0v ()).bind fun y2=>(bif (Nat.ble (x.2.2.1.1.length+([y2] :List ByteArray).length) z7w) then(g (x.1,(x.2.1,(((x.2.2.1.1++([y2] :List ByteArray)),x.2.2.1.2),(IntKind.i64.wrap (x.2.2.2+1)))))) else none)) else(some (.inl (x.2.1,x.2.2.1))))
def u70:=lpW _ _ t6h
theorem s5n x:u70 x=t6h u70 x:=zW s4q 418 Tryz.f418 5 23 x (by kernel_rfl)
def s9n (x:Int):Option r4p:=((u0r (x,(1,100))).bind fun y1=>(bif (!y1) then(some ((([] :List ByteArray),([] :List p14.den)),false)) else((u70 (x,((([] :List ByteArray),([] :List p14.den)),((([] :List ByteArray),([] :List p14.den)),0)))).bind fun r3=>match r3 with | .inl o4=>(some (o4.2,true)) | .inr z5=>none)))
theorem q1c:r04=s9n:=zC 418 rfl Tryz.func418 (by kernel_rfl)
def s3i(x:Unit):Option t84:=zK 349 x
def r2s (x:Unit):Option t84:=((u6s ()).bind fun y1=>((r04 y1).bind fun y2=>(some y2.1)))
theorem q4s:s3i=r2s:=zC 349 rfl Tryz.func349 (by kernel_rfl)
def t8k(x:Unit):Option Z46:=zK 230 x
def s62 (x:Unit):Option Z46:=((t6q ()).bind fun y1=>((s3i ()).bind fun y2=>(some (y1,y2))))
theorem r9b:t8k=s62:=zC 230 rfl Tryz.func230 (by kernel_rfl)
def u0w(x:t0t):Option t0t:=zK 106 x
def s0g (x:t0t):Option t0t:=(bif (Nat.ble (([] :List q2t.den).length+x.2.2.2.2.1.length) z7w) then(bif (Nat.ble (([] :List u1x.den).length+x.2.2.2.2.2.1.length) z7w) then(some (x.1,(x.2.1,(x.2.2.1,(x.2.2.2.1,((([] :List q2t.den)++x.2.2.2.2.1),((([] :List u1x.den)++x.2.2.2.2.2.1),x.2.2.2.2.2.2))))))) else none) else none)
theorem r0s:u0w=s0g:=zC 106 rfl Tryz.func106 (by kernel_rfl)
def t1k(x:r7y):Option r7y:=zK 241 x
def t2d(g:p9t→Option p75)(x:p9t):Option p75:=(bif (decide (x.2.2<(x.1.length:Int))) then(bif (y4q x.2.2 x.1.length) then((u0w (rdL u0a x.1 (x.2.2).toNat)).bind fun y1=>(bif (Nat.ble (x.2.1.length+([y1] :List u0a.den).length) z7w) then(g (x.1,((x.2.1++([y1] :List u0a.den)),(IntKind.i64.wrap (x.2.2+1))))) else none)) else none) else(some (.inl x.2.1)))
def t2m:=lpW _ _ t2d
theorem s52 x:t2m x=t2d t2m x:=zW s48 241 Tryz.f241 3 21 x (by kernel_rfl)
def r0f (x:r7y):Option r7y:=((t2m (x,(([] :List u0a.den),0))).bind fun r2=>match r2 with | .inl o3=>(some o3) | .inr z4=>none)
theorem q13:t1k=r0f:=zC 241 rfl Tryz.func241 (by kernel_rfl)
def u13(x:Z92):Option Z92:=zK 104 x
def r0e (x:Z92):Option Z92:=(bif (Nat.ble (([] :List u0e.den).length+x.1.length) z7w) then((t1k x.2.1).bind fun y1=>((t1k x.2.2.1).bind fun y2=>(some ((([] :List u0e.den)++x.1),(y1,(y2,x.2.2.2)))))) else none)
theorem q12:u13=r0e:=zC 104 rfl Tryz.func104 (by kernel_rfl)
def u0o(x:Z63):Option Z63:=zK 108 x
def r0i (x:Z63):Option Z63:=((u13 x.1).bind fun y1=>((t1k x.2).bind fun y2=>(some (y1,y2))))
theorem q16:u0o=r0i:=zC 108 rfl Tryz.func108 (by kernel_rfl)
def u4t(x:ByteArray):Option Bool:=zK 191 x
def t5a(g:q8g→Option o0h)(x:q8g):Option o0h:=(bif (decide (x.2<(x.1.size:Int))) then(((bif (y4q x.2 x.1.size) then(bif (decide (((x.1.data.toList.getD (x.2).toNat 0).toNat:Int)<(97:Int))) then(some true) else(bif (y4q x.2 x.1.size) then(some (decide (((x.1.data.toList.getD (x.2).toNat 0).toNat:Int) >(122:Int)))) else none)) else none):Option Bool).bind fun j1=>(bif j1 then(some (.inr false)) else(g (x.1,(IntKind.i64.wrap (x.2+1)))))) else(some (.inl x.1)))
def t5i:=lpW _ _ t5a
theorem r1b x:t5i x=t5a t5i x:=zW r0y 191 Tryz.f191 2 23 x (by kernel_rfl)
def r53 (x:ByteArray):Option Bool:=((t5i (x,0)).bind fun r2=>match r2 with | .inl o3=>((u0r ((o3.size:Int),(1,3))).bind fun y4=>(some y4)) | .inr z5=>(some z5))
theorem q62:u4t=r53:=zC 191 rfl Tryz.func191 (by kernel_rfl)
def t1i(x:o0i):Option Bool:=zK 110 x
def s92 (x:o0i):Option Bool:=((((u4t x.1).bind fun y1=>(bif y1 then(bif (decide ((x.2.1.size:Int)≤(12:Int))) then(bif (!x.2.2) then(some true) else(some (z7o x.2.1 (⟨#[]⟩:ByteArray)))) else(some false)) else(some false))):Option Bool).bind fun j2=>(some j2))
theorem q1r:t1i=s92:=zC 110 rfl Tryz.func110 (by kernel_rfl)
def t4e(x:q8h):Option Bool:=zK 243 x
def t0h(g:(q8h×Int)→Option (q8h⊕Bool))(x:(q8h×Int)):Option (q8h⊕Bool):=(bif (decide (x.2<(x.1.length:Int))) then(((bif (y4q x.2 x.1.length) then((t1i (rdL u1x x.1 (x.2).toNat)).bind fun y1=>(bif (!y1) then(some true) else(bif (decide (x.2 >0)) then(bif (y4q (IntKind.i64.wrap (x.2 - 1)) x.1.length) then(bif (y4q x.2 x.1.length) then(some (!y3c (rdL u1x x.1 ((IntKind.i64.wrap (x.2 - 1))).toNat).1 (rdL u1x x.1 (x.2).toNat).1)) else none) else none) else(some false)))) else none):Option Bool).bind fun j2=>(bif j2 then(some (.inr false)) else(g (x.1,(IntKind.i64.wrap (x.2+1)))))) else(some (.inl x.1)))
def t0s:=lpW _ _ t0h
theorem s2t x:t0s x=t0h t0s x:=zW s15 243 Tryz.f243 2 37 x (by kernel_rfl)
def s66 (x:q8h):Option Bool:=((t0s (x,0)).bind fun r3=>match r3 with | .inl o4=>(some (decide ((o4.length:Int)≤(8:Int)))) | .inr z5=>(some z5))
theorem r9e:t4e=s66:=zC 243 rfl Tryz.func243 (by kernel_rfl)
def t1h(x:p74):Option Bool:=zK 316 x
def s9t (x:p74):Option Bool:=((((u4t x.1).bind fun y1=>(bif y1 then((u4t x.2).bind fun y2=>(bif y2 then(some (y3c x.1 x.2 || z7o x.1 x.2)) else(some false))) else(some false))):Option Bool).bind fun j3=>(some j3))
theorem q1i:t1h=s9t:=zC 316 rfl Tryz.func316 (by kernel_rfl)
def u4v(x:t0t):Option Bool:=zK 189 x
def t5e(g:Z99→Option (t0t⊕Bool))(x:Z99):Option (t0t⊕Bool):=(bif (decide (x.2<(x.1.2.2.2.2.1.length:Int))) then(bif (y4q x.2 x.1.2.2.2.2.1.length) then((t1h (rdL q2t x.1.2.2.2.2.1 (x.2).toNat)).bind fun y6=>(bif (!y6) then(some (.inr false)) else(g (x.1,(IntKind.i64.wrap (x.2+1)))))) else none) else(some (.inl x.1)))
def t5l:=lpW _ _ t5e
theorem r1f x:t5l x=t5e t5l x:=zW r02 189 Tryz.f189 4 95 x (by kernel_rfl)
def r58 (x:t0t):Option Bool:=((((u0r (x.1,(1,9999))).bind fun y1=>(bif (!y1) then(some true) else((u0r (x.2.1,(1,3))).bind fun y2=>(bif (!y2) then(some true) else((u0r (x.2.2.1,(0,9999))).bind fun y3=>(bif (!y3) then(some true) else(bif (decide ((x.2.2.2.2.1.length:Int) >(8:Int))) then(some true) else((t4e x.2.2.2.2.2.1).bind fun y4=>(some (!y4)))))))))):Option Bool).bind fun j5=>(bif j5 then(some false) else((t5l (x,0)).bind fun r7=>match r7 with | .inl o8=>(((bif (decide (o8.2.1=3)) then((u0r (o8.2.2.2.1,((IntKind.i64.wrap (o8.2.2.1+1)),9999))).bind fun y9=>(bif (!y9) then(some true) else(bif (!decide (o8.2.1=3)) then(some (!decide (o8.2.2.2.1=0))) else(some false)))) else(bif (!decide (o8.2.1=3)) then(some (!decide (o8.2.2.2.1=0))) else(some false))):Option Bool).bind fun j10=>(bif j10 then(some false) else(((bif (decide (o8.2.1=2)) then((u4t o8.2.2.2.2.2.2.2).bind fun y11=>(bif (!y11) then(some true) else(bif (!decide (o8.2.1=2)) then(some (!z7o o8.2.2.2.2.2.2.2 (⟨#[]⟩:ByteArray))) else(some false)))) else(bif (!decide (o8.2.1=2)) then(some (!z7o o8.2.2.2.2.2.2.2 (⟨#[]⟩:ByteArray))) else(some false))):Option Bool).bind fun j12=>(bif j12 then(some false) else(((bif (!decide (o8.2.1=1)) then(some true) else(some (!o8.2.2.2.2.2.2.1))):Option Bool).bind fun j13=>(some j13)))))) | .inr z14=>(some z14))))
theorem q67:u4v=r58:=zC 189 rfl Tryz.func189 (by kernel_rfl)
def t43(x:q0s):Option Bool:=zK 197 x
def u66(g:p78→Option (q0s⊕Bool))(x:p78):Option (q0s⊕Bool):=(bif (decide (x.2<(x.1.length:Int))) then(bif (y4q x.2 x.1.length) then((((u4t (rdL u0e x.1 (x.2).toNat).1).bind fun y1=>(bif (!y1) then(some true) else(bif (decide (((rdL u0e x.1 (x.2).toNat).2.1.size:Int) >(12:Int))) then(some true) else(bif (rdL u0e x.1 (x.2).toNat).2.2.1 then(bif (!z7o (rdL u0e x.1 (x.2).toNat).2.1 (⟨#[]⟩:ByteArray)) then(some true) else((u0r ((rdL u0e x.1 (x.2).toNat).2.2.2,(1,9999))).bind fun y2=>(some (!y2)))) else((u0r ((rdL u0e x.1 (x.2).toNat).2.2.2,(1,9999))).bind fun y3=>(some (!y3))))))):Option Bool).bind fun j4=>(bif j4 then(some (.inr false)) else(((bif (decide (x.2 >0)) then(bif (y4q (IntKind.i64.wrap (x.2 - 1)) x.1.length) then(bif (!(y3c (rdL u0e x.1 ((IntKind.i64.wrap (x.2 - 1))).toNat).1 (rdL u0e x.1 (x.2).toNat).1 || z7o (rdL u0e x.1 ((IntKind.i64.wrap (x.2 - 1))).toNat).1 (rdL u0e x.1 (x.2).toNat).1)) then(some true) else(bif (y4q (IntKind.i64.wrap (x.2 - 1)) x.1.length) then(bif (z7o (rdL u0e x.1 ((IntKind.i64.wrap (x.2 - 1))).toNat).1 (rdL u0e x.1 (x.2).toNat).1) then(bif (y4q (IntKind.i64.wrap (x.2 - 1)) x.1.length) then(some (decide ((rdL u0e x.1 ((IntKind.i64.wrap (x.2 - 1))).toNat).2.2.2≥(rdL u0e x.1 (x.2).toNat).2.2.2))) else none) else(some false)) else none)) else none) else(some false)):Option Bool).bind fun j5=>(bif j5 then(some (.inr false)) else(g (x.1,(IntKind.i64.wrap (x.2+1)))))))) else none) else(some (.inl x.1)))
def u7b:=lpW _ _ u66
theorem t81 x:u7b x=u66 u7b x:=zW t75 197 Tryz.f197 2 78 x (by kernel_rfl)
def s1d (x:q0s):Option Bool:=((u7b (x,0)).bind fun r6=>match r6 with | .inl o7=>(some (decide ((o7.length:Int)≤(120:Int)))) | .inr z8=>(some z8))
theorem r45:t43=s1d:=zC 197 rfl Tryz.func197 (by kernel_rfl)
def u5v(x:Z92):Option Bool:=zK 69 x
def t3m(g:Z86→Option p6n)(x:Z86):Option p6n:=(bif (decide (x.2<(x.1.1.length:Int))) then(bif (y4q x.2 x.1.1.length) then(bif (decide ((rdL u0e x.1.1 (x.2).toNat).2.2.2 >x.1.2.2.2.1)) then(some (.inr false)) else(g (x.1,(IntKind.i64.wrap (x.2+1))))) else none) else(some (.inl x.1)))
def u9h:=lpW _ _ t3m
theorem s8d x:u9h x=t3m u9h x:=zW s7m 69 Tryz.f69 4 179 x (by kernel_rfl)
def t1u(g:Z69→Option (Z78⊕Bool))(x:Z69):Option (Z78⊕Bool):=(bif (decide (x.2.2<(x.1.2.1.length:Int))) then(bif (y4q x.2.2 x.1.2.1.length) then((((u4v (rdL u0a x.1.2.1 (x.2.2).toNat)).bind fun y7=>(bif (!y7) then(some true) else(bif (!decide ((rdL u0a x.1.2.1 (x.2.2).toNat).2.1=3)) then(some true) else(bif (decide ((rdL u0a x.1.2.1 (x.2.2).toNat).2.2.2.1 >x.1.2.2.2.1)) then(some true) else(bif (decide (x.2.2 >0)) then(bif (y4q (IntKind.i64.wrap (x.2.2 - 1)) x.1.2.1.length) then(some (decide ((rdL u0a x.1.2.1 ((IntKind.i64.wrap (x.2.2 - 1))).toNat).2.2.2.1≥(rdL u0a x.1.2.1 (x.2.2).toNat).2.2.2.1))) else none) else(some false)))))):Option Bool).bind fun j8=>(bif j8 then(some (.inr false)) else(bif (Nat.ble (x.2.1.length+([(rdL u0a x.1.2.1 (x.2.2).toNat).1] :List Int).length) z7w) then(g (x.1,((x.2.1++([(rdL u0a x.1.2.1 (x.2.2).toNat).1] :List Int)),(IntKind.i64.wrap (x.2.2+1))))) else none))) else none) else(some (.inl (x.1,x.2.1))))
def u5a:=lpW _ _ t1u
theorem s5i x:u5a x=t1u u5a x:=zW s4k 69 Tryz.f69 10 179 x (by kernel_rfl)
def t1v(g:Z69→Option (Z78⊕Bool))(x:Z69):Option (Z78⊕Bool):=(bif (decide (x.2.2<(x.1.2.2.1.length:Int))) then(bif (y4q x.2.2 x.1.2.2.1.length) then((((u4v (rdL u0a x.1.2.2.1 (x.2.2).toNat)).bind fun y11=>(bif (!y11) then(some true) else(bif (!decide ((rdL u0a x.1.2.2.1 (x.2.2).toNat).2.1=2)) then(some true) else(bif (decide ((rdL u0a x.1.2.2.1 (x.2.2).toNat).2.2.1 >x.1.2.2.2.1)) then(some true) else(bif (decide (x.2.2 >0)) then(bif (y4q (IntKind.i64.wrap (x.2.2 - 1)) x.1.2.2.1.length) then(some (!y3c (rdL u0a x.1.2.2.1 ((IntKind.i64.wrap (x.2.2 - 1))).toNat).2.2.2.2.2.2.2 (rdL u0a x.1.2.2.1 (x.2.2).toNat).2.2.2.2.2.2.2)) else none) else(some false)))))):Option Bool).bind fun j12=>(bif j12 then(some (.inr false)) else(bif (Nat.ble (x.2.1.length+([(rdL u0a x.1.2.2.1 (x.2.2).toNat).1] :List Int).length) z7w) then(g (x.1,((x.2.1++([(rdL u0a x.1.2.2.1 (x.2.2).toNat).1] :List Int)),(IntKind.i64.wrap (x.2.2+1))))) else none))) else none) else(some (.inl (x.1,x.2.1))))
def u7x:=lpW _ _ t1v
theorem s5j x:u7x x=t1v u7x x:=zW s4l 69 Tryz.f69 17 179 x (by kernel_rfl)
def t1x(g:Z66→Option (Z69⊕Bool))(x:Z66):Option (Z69⊕Bool):=(bif (decide (x.2.2.2<x.2.2.1)) then(bif (y4q x.2.2.2 x.2.1.length) then(bif (y4q x.2.2.1 x.2.1.length) then(bif (decide ((rdL (Ty.int .i64) x.2.1 (x.2.2.2).toNat)=(rdL (Ty.int .i64) x.2.1 (x.2.2.1).toNat))) then(some (.inr false)) else(g (x.1,(x.2.1,(x.2.2.1,(IntKind.i64.wrap (x.2.2.2+1))))))) else none) else none) else(some (.inl (x.1,(x.2.1,x.2.2.1)))))
def u7y:=lpW _ _ t1x
theorem s5l x:u7y x=t1x u7y x:=zW s4n 69 Tryz.f69 27 179 x (by kernel_rfl)
def t1w(g:Z69→Option r1i)(x:Z69):Option r1i:=(bif (decide (x.2.2<(x.2.1.length:Int))) then((u7y (x.1,(x.2.1,(x.2.2,0)))).bind fun r15=>match r15 with | .inl o16=>(bif (y4q o16.2.2 o16.2.1.length) then(bif (decide ((rdL (Ty.int .i64) o16.2.1 (o16.2.2).toNat)≥o16.1.2.2.2.2)) then(some (.inr false)) else(g (o16.1,(o16.2.1,(IntKind.i64.wrap (o16.2.2+1)))))) else none) | .inr z17=>(some (.inr z17))) else(some (.inl ())))
def u5b:=lpW _ _ t1w
theorem s5k x:u5b x=t1w u5b x:=zW s4m 69 Tryz.f69 24 179 x (by kernel_rfl)
def r2l (x:Z92):Option Bool:=((((t43 x.1).bind fun y1=>(bif (!y1) then(some true) else(bif (decide ((x.2.1.length:Int) >(12:Int))) then(some true) else(bif (decide ((x.2.2.1.length:Int) >(3:Int))) then(some true) else((u0r (x.2.2.2.1,(0,9999))).bind fun y2=>(bif (!y2) then(some true) else((u0r (x.2.2.2.2,(1,9999))).bind fun y3=>(some (!y3))))))))):Option Bool).bind fun j4=>(bif j4 then(some false) else((u9h (x,0)).bind fun r5=>match r5 with | .inl o6=>((u5a (o6,(([] :List Int),0))).bind fun r9=>match r9 with | .inl o10=>((u7x (o10.1,(o10.2,0))).bind fun r13=>match r13 with | .inl o14=>((u5b (o14.1,(o14.2,0))).bind fun r18=>match r18 with | .inl o19=>(some true) | .inr z20=>(some z20)) | .inr z21=>(some z21)) | .inr z22=>(some z22)) | .inr z23=>(some z23))))
theorem q4l:u5v=r2l:=zC 69 rfl Tryz.func69 (by kernel_rfl)
def t8g(x:Z63):Option Bool:=zK 109 x
def u8v(g:Z22→Option (Z25⊕Bool))(x:Z22):Option (Z25⊕Bool):=(bif (decide (x.2.2.2<(x.1.1.2.1.length:Int))) then(bif (y4q x.2.2.2 x.1.1.2.1.length) then(bif (decide ((rdL u0a x.1.1.2.1 (x.2.2.2).toNat).1=x.2.2.1.1)) then(some (.inr false)) else(g (x.1,(x.2.1,(x.2.2.1,(IntKind.i64.wrap (x.2.2.2+1))))))) else none) else(some (.inl (x.1,(x.2.1,x.2.2.1)))))
def u5q:=lpW _ _ u8v
theorem t98 x:u5q x=u8v u5q x:=zW t9m 109 Tryz.f109 10 105 x (by kernel_rfl)
def u8w(g:Z22→Option (Z60⊕Bool))(x:Z22):Option (Z60⊕Bool):=(bif (decide (x.2.2.2<(x.1.1.2.2.1.length:Int))) then(bif (y4q x.2.2.2 x.1.1.2.2.1.length) then(bif (decide ((rdL u0a x.1.1.2.2.1 (x.2.2.2).toNat).1=x.2.2.1.1)) then(some (.inr false)) else(g (x.1,(x.2.1,(x.2.2.1,(IntKind.i64.wrap (x.2.2.2+1))))))) else none) else(some (.inl (x.1,x.2.1))))
def u4b:=lpW _ _ u8w
theorem t99 x:u4b x=u8w u4b x:=zW t9n 109 Tryz.f109 15 105 x (by kernel_rfl)
def u97(g:Z60→Option r1i)(x:Z60):Option r1i:=(bif (decide (x.2<(x.1.2.length:Int))) then(bif (y4q x.2 x.1.2.length) then((((u4v (rdL u0a x.1.2 (x.2).toNat)).bind fun y3=>(bif (!y3) then(some true) else(bif (!decide ((rdL u0a x.1.2 (x.2).toNat).2.1=1)) then(some true) else(bif (decide ((rdL u0a x.1.2 (x.2).toNat).1≥x.1.1.2.2.2.2)) then(some true) else(bif (decide ((rdL u0a x.1.2 (x.2).toNat).2.2.1 >x.1.1.2.2.2.1)) then(some true) else(bif (decide (x.2 >0)) then(bif (y4q (IntKind.i64.wrap (x.2 - 1)) x.1.2.length) then(some (decide ((rdL u0a x.1.2 ((IntKind.i64.wrap (x.2 - 1))).toNat).1≥(rdL u0a x.1.2 (x.2).toNat).1))) else none) else(some false))))))):Option Bool).bind fun j4=>(bif j4 then(some (.inr false)) else((u5q (x.1,(x.2,((rdL u0a x.1.2 (x.2).toNat),0)))).bind fun r5=>match r5 with | .inl o6=>((u4b (o6.1,(o6.2.1,(o6.2.2,0)))).bind fun r7=>match r7 with | .inl o8=>(g (o8.1,(IntKind.i64.wrap (o8.2+1)))) | .inr z9=>(some (.inr z9))) | .inr z10=>(some (.inr z10))))) else none) else(some (.inl ())))
def u4w:=lpW _ _ u97
theorem s2j x:u4w x=u97 u4w x:=zW s1v 109 Tryz.f109 4 105 x (by kernel_rfl)
def s6t (x:Z63):Option Bool:=((((u5v x.1).bind fun y1=>(bif (!y1) then(some true) else(some (decide ((x.2.length:Int) >(4:Int)))))):Option Bool).bind fun j2=>(bif j2 then(some false) else((u4w (x,0)).bind fun r11=>match r11 with | .inl o12=>(some true) | .inr z13=>(some z13))))
theorem r82:t8g=s6t:=zC 109 rfl Tryz.func109 (by kernel_rfl)
def t3d(x:Z63):Option Z56:=zK 24 x
def r51 (x:Z63):Option Z56:=((u0o x).bind fun y1=>((((t8g x).bind fun y2=>(bif (!y2) then(some true) else(bif (decide ((x.2.length:Int)≥(4:Int))) then(some true) else(some (decide (x.1.2.2.2.2≥9999)))))):Option Bool).bind fun j3=>(bif j3 then(some (y1,(0,3))) else(bif (Nat.ble (y1.2.length+([(x.1.2.2.2.2,(1,(x.1.2.2.2.1,(0,(([] :List q2t.den),(([] :List u1x.den),(false,(⟨#[]⟩:ByteArray))))))))] :List u0a.den).length) z7w) then(some (((y1.1.1,(y1.1.2.1,(y1.1.2.2.1,(y1.1.2.2.2.1,(IntKind.i64.wrap (x.1.2.2.2.2+1)))))),(y1.2++([(x.1.2.2.2.2,(1,(x.1.2.2.2.1,(0,(([] :List q2t.den),(([] :List u1x.den),(false,(⟨#[]⟩:ByteArray))))))))] :List u0a.den))),(x.1.2.2.2.2,0))) else none))))
theorem q60:t3d=r51:=zC 24 rfl Tryz.func24 (by kernel_rfl)
def u4r(x:Z60):Option Int:=zK 49 x
def u9c(g:Z55→Option q55)(x:Z55):Option q55:=(bif (decide (x.2.2<(x.2.1.2.length:Int))) then(bif (y4q x.2.2 x.2.1.2.length) then(bif (decide ((rdL u0a x.2.1.2 (x.2.2).toNat).1=x.1)) then(some (.inr x.2.2)) else(g (x.1,(x.2.1,(IntKind.i64.wrap (x.2.2+1)))))) else none) else(some (.inl ())))
def u9j:=lpW _ _ u9c
theorem s8h x:u9j x=u9c u9j x:=zW s7q 49 Tryz.f49 2 22 x (by kernel_rfl)
def r2t (x:Z60):Option Int:=((u9j (x.2,(x.1,0))).bind fun r1=>match r1 with | .inl o2=>(some (-1:Int)) | .inr z3=>(some z3))
theorem q4t:u4r=r2t:=zC 49 rfl Tryz.func49 (by kernel_rfl)
def t4a(x:o2q):Option q8h:=zK 242 x
def u99(g:p9s→Option (o1y⊕Unit))(x:p9s):Option (o1y⊕Unit):=(bif (decide (x.2.2.2<(x.1.length:Int))) then(bif (y4q x.2.2.2 x.1.length) then(bif (y3c (rdL u1x x.1 (x.2.2.2).toNat).1 x.2.1.1) then(bif (y4q x.2.2.2 x.1.length) then(bif (Nat.ble (x.2.2.1.length+([(rdL u1x x.1 (x.2.2.2).toNat)] :List u1x.den).length) z7w) then(g (x.1,(x.2.1,((x.2.2.1++([(rdL u1x x.1 (x.2.2.2).toNat)] :List u1x.den)),(IntKind.i64.wrap (x.2.2.2+1)))))) else none) else none) else(g (x.1,(x.2.1,(x.2.2.1,(IntKind.i64.wrap (x.2.2.2+1))))))) else none) else(some (.inl (x.1,(x.2.1,x.2.2.1)))))
def t0p:=lpW _ _ u99
theorem s2l x:t0p x=u99 t0p x:=zW s1x 242 Tryz.f242 3 56 x (by kernel_rfl)
def t0a(g:p9s→Option (q8h⊕Unit))(x:p9s):Option (q8h⊕Unit):=(bif (decide (x.2.2.2<(x.1.length:Int))) then(bif (y4q x.2.2.2 x.1.length) then(bif (!(y3c (rdL u1x x.1 (x.2.2.2).toNat).1 x.2.1.1 || z7o (rdL u1x x.1 (x.2.2.2).toNat).1 x.2.1.1)) then(bif (y4q x.2.2.2 x.1.length) then(bif (Nat.ble (x.2.2.1.length+([(rdL u1x x.1 (x.2.2.2).toNat)] :List u1x.den).length) z7w) then(g (x.1,(x.2.1,((x.2.2.1++([(rdL u1x x.1 (x.2.2.2).toNat)] :List u1x.den)),(IntKind.i64.wrap (x.2.2.2+1)))))) else none) else none) else(g (x.1,(x.2.1,(x.2.2.1,(IntKind.i64.wrap (x.2.2.2+1))))))) else none) else(some (.inl x.2.2.1)))
def t0q:=lpW _ _ t0a
theorem s2m x:t0q x=t0a t0q x:=zW s1y 242 Tryz.f242 9 56 x (by kernel_rfl)
def s6x (x:o2q):Option q8h:=((t0p (x.1,(x.2,(([] :List u1x.den),0)))).bind fun r1=>match r1 with | .inl o2=>(bif (Nat.ble (o2.2.2.length+([o2.2.1] :List u1x.den).length) z7w) then((t0q (o2.1,(o2.2.1,((o2.2.2++([o2.2.1] :List u1x.den)),0)))).bind fun r3=>match r3 with | .inl o4=>(some o4) | .inr z5=>none) else none) | .inr z6=>none)
theorem r86:t4a=s6x:=zC 242 rfl Tryz.func242 (by kernel_rfl)
def t8m(x:Z80):Option Z98:=zK 111 x
def s65 (x:Z80):Option Z98:=((u0w x.1).bind fun y1=>((((u4v x.1).bind fun y2=>(bif (!y2) then(some true) else(bif (!decide (x.1.2.1=1)) then(some true) else((t1i x.2).bind fun y3=>(some (!y3)))))):Option Bool).bind fun j4=>(bif j4 then(some (y1,false)) else((t4a (x.1.2.2.2.2.2.1,x.2)).bind fun y5=>((t4e y5).bind fun y6=>(bif (!y6) then((u0w x.1).bind fun y7=>(some (y7,false))) else(some ((y1.1,(y1.2.1,(y1.2.2.1,(y1.2.2.2.1,(y1.2.2.2.2.1,(y5,y1.2.2.2.2.2.2)))))),true))))))))
theorem r9d:t8m=s65:=zC 111 rfl Tryz.func111 (by kernel_rfl)
def t0w(x:Z44):Option Z60:=zK 25 x
def r2w (x:Z44):Option Z60:=((u0o x.1).bind fun y1=>((u4r (x.1,x.2.1)).bind fun y2=>(bif (decide (y2<0)) then(some (y1,1)) else((t1i x.2.2).bind fun y3=>(bif (!y3) then(some (y1,2)) else(bif (y4q y2 x.1.2.length) then((t8m ((rdL u0a x.1.2 (y2).toNat),x.2.2)).bind fun y4=>(bif (!y4.2) then(some (y1,3)) else(bif (y4q y2 y1.2.length) then(some ((y1.1,(y1.2.set (y2).toNat y4.1)),0)) else none))) else none))))))
theorem q4w:t0w=r2w:=zC 25 rfl Tryz.func25 (by kernel_rfl)
def u03(x:t84):Option t84:=zK 337 x
def s97 (x:t84):Option t84:=(bif (Nat.ble (([] :List ByteArray).length+x.1.length) z7w) then(bif (Nat.ble (([] :List p14.den).length+x.2.length) z7w) then(some ((([] :List ByteArray)++x.1),(([] :List p14.den)++x.2))) else none) else none)
theorem q1v:u03=s97:=zC 337 rfl Tryz.func337 (by kernel_rfl)
def s00(x:Z46):Option Z46:=zK 225 x
def r0k (x:Z46):Option Z46:=((u0o x.1).bind fun y1=>((u03 x.2).bind fun y2=>(some (y1,y2))))
theorem q18:s00=r0k:=zC 225 rfl Tryz.func225 (by kernel_rfl)
def u1j(x:Int):Option ByteArray:=zK 313 x
def s6c(g:(Int×q0o)→Option ((Int×q0o)⊕Unit))(x:(Int×q0o)):Option ((Int×q0o)⊕Unit):=(bif (decide (x.1 >127)) then(bif (Nat.ble (x.2.length+([(IntKind.u8.wrap (IntKind.i64.wrap ((Int.tmod x.1 (128:Int))+128)))] :List Int).length) z7w) then(g ((IntKind.i64.wrap (Int.tdiv x.1 (128:Int))),(x.2++([(IntKind.u8.wrap (IntKind.i64.wrap ((Int.tmod x.1 (128:Int))+128)))] :List Int)))) else none) else(some (.inl x)))
def t3x:=lpW _ _ s6c
theorem q0m x:t3x x=s6c t3x x:=zW s7u 313 Tryz.f313 2 22 x (by kernel_rfl)
def r21 (x:Int):Option ByteArray:=((t3x (x,([] :List Int))).bind fun r1=>match r1 with | .inl o2=>(bif (Nat.ble (o2.2.length+([(IntKind.u8.wrap o2.1)] :List Int).length) z7w) then(some (y7g (o2.2++([(IntKind.u8.wrap o2.1)] :List Int)))) else none) | .inr z3=>none)
theorem q41:u1j=r21:=zC 313 rfl Tryz.func313 (by kernel_rfl)
def t5w(x:q8g):Option (Int×p53):=zK 315 x
def t15(g:o24→Option (Unit⊕(Int×p53)))(x:o24):Option (Unit⊕(Int×p53)):=(((bif (decide (x.2.2.2.2<(x.1.size:Int))) then(some (decide (x.2.2.2.2<(IntKind.i64.wrap (x.2.1+5))))) else(some false)):Option Bool).bind fun j2=>(bif j2 then(bif (y4q x.2.2.2.2 x.1.size) then(bif (y4q x.2.2.2.2 x.1.size) then(bif (decide (((x.1.data.toList.getD (x.2.2.2.2).toNat 0).toNat:Int)<(128:Int))) then(((bif (decide ((IntKind.i64.wrap (x.2.2.1+(IntKind.i64.wrap ((Int.tmod (IntKind.i64.wrap ((x.1.data.toList.getD (x.2.2.2.2).toNat 0).toNat:Int)) (128:Int))*x.2.2.2.1)))) >1000000000)) then(some true) else((u1j (IntKind.i64.wrap (x.2.2.1+(IntKind.i64.wrap ((Int.tmod (IntKind.i64.wrap ((x.1.data.toList.getD (x.2.2.2.2).toNat 0).toNat:Int)) (128:Int))*x.2.2.2.1))))).bind fun y3=>(bif (decide (0≤x.2.1)&&decide (x.2.1≤(IntKind.i64.wrap (x.2.2.2.2+1)))&&decide ((IntKind.i64.wrap (x.2.2.2.2+1))≤(x.1.size:Int))) then(some (!z7o y3 (x.1.extract (x.2.1).toNat ((IntKind.i64.wrap (x.2.2.2.2+1))).toNat))) else none))):Option Bool).bind fun j4=>(bif j4 then(some (.inr (0,(0,false)))) else(some (.inr ((IntKind.i64.wrap (x.2.2.1+(IntKind.i64.wrap ((Int.tmod (IntKind.i64.wrap ((x.1.data.toList.getD (x.2.2.2.2).toNat 0).toNat:Int)) (128:Int))*x.2.2.2.1)))),((IntKind.i64.wrap (x.2.2.2.2+1)),true)))))) else(g (x.1,(x.2.1,((IntKind.i64.wrap (x.2.2.1+(IntKind.i64.wrap ((Int.tmod (IntKind.i64.wrap ((x.1.data.toList.getD (x.2.2.2.2).toNat 0).toNat:Int)) (128:Int))*x.2.2.2.1)))),((IntKind.i64.wrap (x.2.2.2.1*128)),(IntKind.i64.wrap (x.2.2.2.2+1)))))))) else none) else none) else(some (.inl ()))))
def t2h:=lpW _ _ t15
theorem s5t x:t2h x=t15 t2h x:=zW s4w 315 Tryz.f315 6 58 x (by kernel_rfl)
def s9v (x:q8g):Option (Int×p53):=((u0r (x.2,(0,(x.1.size:Int)))).bind fun y1=>(bif (!y1) then(some (0,(0,false))) else((t2h (x.1,(x.2,(0,(1,x.2))))).bind fun r5=>match r5 with | .inl o6=>(some (0,(0,false))) | .inr z7=>(some z7))))
theorem q1k:t5w=s9v:=zC 315 rfl Tryz.func315 (by kernel_rfl)
def t2s(x:q8g):Option p0q:=zK 310 x
def s34 (x:q8g):Option p0q:=((t5w x).bind fun y1=>(((bif (!y1.2.2) then(some true) else(bif (decide (y1.1 >20000)) then(some true) else(some (decide (y1.1 >(IntKind.i64.wrap ((x.1.size:Int) - y1.2.1))))))):Option Bool).bind fun j2=>(bif j2 then(some ((⟨#[]⟩:ByteArray),(0,false))) else(bif (decide (0≤y1.2.1)&&decide (y1.2.1≤(IntKind.i64.wrap (y1.2.1+y1.1)))&&decide ((IntKind.i64.wrap (y1.2.1+y1.1))≤(x.1.size:Int))) then(some ((x.1.extract (y1.2.1).toNat ((IntKind.i64.wrap (y1.2.1+y1.1))).toNat),((IntKind.i64.wrap (y1.2.1+y1.1)),true))) else none))))
theorem r7f:t2s=s34:=zC 310 rfl Tryz.func310 (by kernel_rfl)
def u1n(x:p0q):Option o25:=zK 180 x
def t7w (x:p0q):Option o25:=((t2s (x.1,x.2.1)).bind fun y1=>(((bif x.2.2 then(some true) else(some (!y1.2.2))):Option Bool).bind fun j2=>(bif j2 then(some ((⟨#[]⟩:ByteArray),(x.1,(x.2.1,true)))) else(some (y1.1,(x.1,(y1.2.1,x.2.2)))))))
theorem r1o:u1n=t7w:=zC 180 rfl Tryz.func180 (by kernel_rfl)
def u4z(x:p0q):Option (Bool×p0q):=zK 181 x
def s1f (x:p0q):Option (Bool×p0q):=(((bif x.2.2 then(some true) else(bif (decide (x.2.1≥(x.1.size:Int))) then(some true) else(bif (y4q x.2.1 x.1.size) then(some (decide (((x.1.data.toList.getD (x.2.1).toNat 0).toNat:Int) >(1:Int)))) else none))):Option Bool).bind fun j1=>(bif j1 then(some (false,(x.1,(x.2.1,true)))) else(bif (y4q (IntKind.i64.wrap ((IntKind.i64.wrap (x.2.1+1)) - 1)) x.1.size) then(some ((decide (((x.1.data.toList.getD ((IntKind.i64.wrap ((IntKind.i64.wrap (x.2.1+1)) - 1))).toNat 0).toNat:Int)=(1:Int))),(x.1,((IntKind.i64.wrap (x.2.1+1)),x.2.2)))) else none)))
theorem r47:u4z=s1f:=zC 181 rfl Tryz.func181 (by kernel_rfl)
def u16(x:p0q):Option (Int×p0q):=zK 186 x
def r28 (x:p0q):Option (Int×p0q):=((t5w (x.1,x.2.1)).bind fun y1=>(((bif x.2.2 then(some true) else(some (!y1.2.2))):Option Bool).bind fun j2=>(bif j2 then(some (0,(x.1,(x.2.1,true)))) else(some (y1.1,(x.1,(y1.2.1,x.2.2)))))))
theorem q48:u16=r28:=zC 186 rfl Tryz.func186 (by kernel_rfl)
def t5v(x:q8g):Option Z96:=zK 182 x
def t14(g:Z30→Option (Z35⊕Unit))(x:Z30):Option (Z35⊕Unit):=(((bif (decide (x.2.2.2.2<x.2.2.2.1)) then(bif (decide (x.2.2.2.2<10)) then(some (!x.2.1.2.2)) else(some false)) else(some false)):Option Bool).bind fun j6=>(bif j6 then((u1n x.2.1).bind fun y7=>((u1n y7.2).bind fun y8=>(bif (Nat.ble (x.2.2.1.2.2.2.2.1.length+([(y7.1,y8.1)] :List q2t.den).length) z7w) then(g (x.1,(y8.2,((x.2.2.1.1,(x.2.2.1.2.1,(x.2.2.1.2.2.1,(x.2.2.1.2.2.2.1,((x.2.2.1.2.2.2.2.1++([(y7.1,y8.1)] :List q2t.den)),x.2.2.1.2.2.2.2.2))))),(x.2.2.2.1,(IntKind.i64.wrap (x.2.2.2.2+1))))))) else none))) else(some (.inl (x.1,(x.2.1,x.2.2.1))))))
def u73:=lpW _ _ t14
theorem s5s x:u73 x=t14 u73 x:=zW s4v 182 Tryz.f182 8 115 x (by kernel_rfl)
def t0c(g:Z30→Option (Z35⊕Unit))(x:Z30):Option (Z35⊕Unit):=(((bif (decide (x.2.2.2.2<x.2.2.2.1)) then(bif (decide (x.2.2.2.2<10)) then(some (!x.2.1.2.2)) else(some false)) else(some false)):Option Bool).bind fun j12=>(bif j12 then((u1n x.2.1).bind fun y13=>((u1n y13.2).bind fun y14=>((u4z y14.2).bind fun y15=>(bif (Nat.ble (x.2.2.1.2.2.2.2.2.1.length+([(y13.1,(y14.1,y15.1))] :List u1x.den).length) z7w) then(g (x.1,(y15.2,((x.2.2.1.1,(x.2.2.1.2.1,(x.2.2.1.2.2.1,(x.2.2.1.2.2.2.1,(x.2.2.1.2.2.2.2.1,((x.2.2.1.2.2.2.2.2.1++([(y13.1,(y14.1,y15.1))] :List u1x.den)),x.2.2.1.2.2.2.2.2.2)))))),(x.2.2.2.1,(IntKind.i64.wrap (x.2.2.2.2+1))))))) else none)))) else(some (.inl (x.1,(x.2.1,x.2.2.1))))))
def u6h:=lpW _ _ t0c
theorem s2o x:u6h x=t0c u6h x:=zW s10 182 Tryz.f182 15 115 x (by kernel_rfl)
def s9u (x:q8g):Option Z96:=((u16 (x.1,(x.2,false))).bind fun y1=>((u16 y1.2).bind fun y2=>((u16 y2.2).bind fun y3=>((u16 y3.2).bind fun y4=>((u16 y4.2).bind fun y5=>((u73 ((0,(0,(0,(0,(([] :List q2t.den),(([] :List u1x.den),(false,(⟨#[]⟩:ByteArray)))))))),(y5.2,((y1.1,(y2.1,(y3.1,(y4.1,(([] :List q2t.den),(([] :List u1x.den),(false,(⟨#[]⟩:ByteArray)))))))),(y5.1,0))))).bind fun r9=>match r9 with | .inl o10=>((u16 o10.2.1).bind fun y11=>((u6h (o10.1,(y11.2,(o10.2.2,(y11.1,0))))).bind fun r16=>match r16 with | .inl o17=>((u4z o17.2.1).bind fun y18=>((u1n y18.2).bind fun y19=>(((bif y19.2.2.2 then(some true) else((u4v (o17.2.2.1,(o17.2.2.2.1,(o17.2.2.2.2.1,(o17.2.2.2.2.2.1,(o17.2.2.2.2.2.2.1,(o17.2.2.2.2.2.2.2.1,(y18.1,y19.1)))))))).bind fun y20=>(some (!y20)))):Option Bool).bind fun j21=>(bif j21 then(some ((0,(0,(0,(0,(([] :List q2t.den),(([] :List u1x.den),(false,(⟨#[]⟩:ByteArray)))))))),(0,false))) else(some ((o17.2.2.1,(o17.2.2.2.1,(o17.2.2.2.2.1,(o17.2.2.2.2.2.1,(o17.2.2.2.2.2.2.1,(o17.2.2.2.2.2.2.2.1,(y18.1,y19.1))))))),(y19.2.2.1,true))))))) | .inr z22=>none)) | .inr z23=>none))))))
theorem q1j:t5v=s9u:=zC 182 rfl Tryz.func182 (by kernel_rfl)
def u89(x:(p0q×Int)):Option o2d:=zK 187 x
def u3h(g:o1u→Option (p9u⊕p9u))(x:o1u):Option (p9u⊕p9u):=(((bif (decide (x.2.2.2.2<x.2.2.2.1)) then(bif (decide (x.2.2.2.2≤x.2.1)) then(some (!x.1.2.2)) else(some false)) else(some false)):Option Bool).bind fun j2=>(bif j2 then((t5v (x.1.1,x.1.2.1)).bind fun y3=>(bif (!y3.2.2) then(some (.inr ((x.1.1,(x.1.2.1,true)),x.2.2.1))) else(bif (Nat.ble (x.2.2.1.length+([y3.1] :List u0a.den).length) z7w) then(g ((x.1.1,(y3.2.1,x.1.2.2)),(x.2.1,((x.2.2.1++([y3.1] :List u0a.den)),(x.2.2.2.1,(IntKind.i64.wrap (x.2.2.2.2+1))))))) else none))) else(some (.inl (x.1,x.2.2.1)))))
def u4m:=lpW _ _ u3h
theorem u6c x:u4m x=u3h u4m x:=zW t65 187 Tryz.f187 4 59 x (by kernel_rfl)
def t9g (x:(p0q×Int)):Option o2d:=((u16 x.1).bind fun y1=>((u4m (y1.2,(x.2,(([] :List u0a.den),(y1.1,0))))).bind fun r4=>match r4 with | .inl o5=>(some (o5.2,o5.1)) | .inr z6=>(some (z6.2,z6.1))))
theorem r3t:u89=t9g:=zC 187 rfl Tryz.func187 (by kernel_rfl)
def t8j(x:q8g):Option Z75:=zK 65 x
def t0b(g:Z20→Option (Z23⊕Unit))(x:Z20):Option (Z23⊕Unit):=(((bif (decide (x.2.2.2.2<x.2.2.2.1)) then(bif (decide (x.2.2.2.2<130)) then(some (!x.2.1.2.2)) else(some false)) else(some false)):Option Bool).bind fun j4=>(bif j4 then((u1n x.2.1).bind fun y5=>((u1n y5.2).bind fun y6=>((u4z y6.2).bind fun y7=>((u16 y7.2).bind fun y8=>(bif (Nat.ble (x.2.2.1.1.length+([(y5.1,(y6.1,(y7.1,y8.1)))] :List u0e.den).length) z7w) then(g (x.1,(y8.2,(((x.2.2.1.1++([(y5.1,(y6.1,(y7.1,y8.1)))] :List u0e.den)),x.2.2.1.2),(x.2.2.2.1,(IntKind.i64.wrap (x.2.2.2.2+1))))))) else none))))) else(some (.inl (x.1,(x.2.1,x.2.2.1))))))
def u6g:=lpW _ _ t0b
theorem s2n x:u6g x=t0b u6g x:=zW s1z 65 Tryz.f65 6 79 x (by kernel_rfl)
def s6z (x:q8g):Option Z75:=((u16 (x.1,(x.2,false))).bind fun y1=>((u16 y1.2).bind fun y2=>((u16 y2.2).bind fun y3=>((u6g ((([] :List u0e.den),(([] :List u0a.den),(([] :List u0a.den),(0,0)))),(y3.2,((([] :List u0e.den),(([] :List u0a.den),(([] :List u0a.den),(y1.1,y2.1)))),(y3.1,0))))).bind fun r9=>match r9 with | .inl o10=>((u89 (o10.2.1,12)).bind fun y11=>((u89 (y11.2,3)).bind fun y12=>(((bif y12.2.2.2 then(some true) else((u5v (o10.2.2.1,(y11.1,(y12.1,o10.2.2.2.2.2)))).bind fun y13=>(some (!y13)))):Option Bool).bind fun j14=>(bif j14 then(some ((([] :List u0e.den),(([] :List u0a.den),(([] :List u0a.den),(0,0)))),(0,false))) else(some ((o10.2.2.1,(y11.1,(y12.1,o10.2.2.2.2.2))),(y12.2.2.1,true))))))) | .inr z15=>none))))
theorem r88:t8j=s6z:=zC 65 rfl Tryz.func65 (by kernel_rfl)
def t4l(x:t0t):Option Bool:=zK 190 x
def s7b (x:t0t):Option Bool:=(((bif (decide (x.1=0)) then(bif (decide (x.2.1=0)) then(bif (decide (x.2.2.1=0)) then(bif (decide (x.2.2.2.1=0)) then(bif (decide ((x.2.2.2.2.1.length:Int)=(0:Int))) then(bif (decide ((x.2.2.2.2.2.1.length:Int)=(0:Int))) then(bif (!x.2.2.2.2.2.2.1) then(some (z7o x.2.2.2.2.2.2.2 (⟨#[]⟩:ByteArray))) else(some false)) else(some false)) else(some false)) else(some false)) else(some false)) else(some false)) else(some false)):Option Bool).bind fun j1=>(some j1))
theorem r9j:t4l=s7b:=zC 190 rfl Tryz.func190 (by kernel_rfl)
def t6u(x:Z92):Option Bool:=zK 192 x
def s37 (x:Z92):Option Bool:=(((bif (decide (x.2.2.2.1=0)) then(bif (decide (x.2.2.2.2=0)) then(bif (decide ((x.1.length:Int)=(0:Int))) then(bif (decide ((x.2.1.length:Int)=(0:Int))) then(some (decide ((x.2.2.1.length:Int)=(0:Int)))) else(some false)) else(some false)) else(some false)) else(some false)):Option Bool).bind fun j1=>(some j1))
theorem r7i:t6u=s37:=zC 192 rfl Tryz.func192 (by kernel_rfl)
def t4c(x:Z29):Option Bool:=zK 66 x
def s60 (x:Z29):Option Bool:=((u0r (x.1,(1,4))).bind fun y1=>(bif (!y1) then(some false) else(((bif (decide (x.1=1)) then(some true) else(some (decide (x.1=2)))):Option Bool).bind fun j2=>(((bif j2 then((u4v x.2.1).bind fun y3=>(bif (!y3) then(some true) else(bif (!j2) then((t4l x.2.1).bind fun y4=>(bif (!y4) then(some true) else(bif (decide (x.1=1)) then(bif (!decide (x.2.1.2.1=3)) then(some true) else(bif (decide (x.1=2)) then(some (!decide (x.2.1.2.1=2))) else(some false))) else(bif (decide (x.1=2)) then(some (!decide (x.2.1.2.1=2))) else(some false))))) else(bif (decide (x.1=1)) then(bif (!decide (x.2.1.2.1=3)) then(some true) else(bif (decide (x.1=2)) then(some (!decide (x.2.1.2.1=2))) else(some false))) else(bif (decide (x.1=2)) then(some (!decide (x.2.1.2.1=2))) else(some false)))))) else(bif (!j2) then((t4l x.2.1).bind fun y5=>(bif (!y5) then(some true) else(bif (decide (x.1=1)) then(bif (!decide (x.2.1.2.1=3)) then(some true) else(bif (decide (x.1=2)) then(some (!decide (x.2.1.2.1=2))) else(some false))) else(bif (decide (x.1=2)) then(some (!decide (x.2.1.2.1=2))) else(some false))))) else(bif (decide (x.1=1)) then(bif (!decide (x.2.1.2.1=3)) then(some true) else(bif (decide (x.1=2)) then(some (!decide (x.2.1.2.1=2))) else(some false))) else(bif (decide (x.1=2)) then(some (!decide (x.2.1.2.1=2))) else(some false))))):Option Bool).bind fun j6=>(bif j6 then(some false) else(((bif (decide (x.1=3)) then((u4t x.2.2.1).bind fun y7=>(bif (!y7) then(some true) else(bif (!decide (x.1=3)) then(bif (!z7o x.2.2.1 (⟨#[]⟩:ByteArray)) then(some true) else(some x.2.2.2.1)) else(some false)))) else(bif (!decide (x.1=3)) then(bif (!z7o x.2.2.1 (⟨#[]⟩:ByteArray)) then(some true) else(some x.2.2.2.1)) else(some false))):Option Bool).bind fun j8=>(bif j8 then(some false) else(bif (decide (x.1=4)) then((u5v x.2.2.2.2).bind fun y9=>(some y9)) else((t6u x.2.2.2.2).bind fun y10=>(some y10))))))))))
theorem r89:t4c=s60:=zC 66 rfl Tryz.func66 (by kernel_rfl)
def t5y(x:Int):Option ByteArray:=zK 307 x
def s96 (x:Int):Option ByteArray:=(some (y7g ([(IntKind.u8.wrap (Int.fdiv x (2^(min ((24:Int)).toNat (IntKind.u32).bits)))),(IntKind.u8.wrap (Int.fdiv x (2^(min ((16:Int)).toNat (IntKind.u32).bits)))),(IntKind.u8.wrap (Int.fdiv x (2^(min ((8:Int)).toNat (IntKind.u32).bits)))),(IntKind.u8.wrap x)] :List Int)))
theorem r0r:t5y=s96:=zC 307 rfl Tryz.func307 (by kernel_rfl)
def s0s(x:(Int×ByteArray)):Option Int:=zK 392 x
def s3r(g:(Int×(ByteArray×p4a))→Option ((Int×q8g)⊕Unit))(x:(Int×(ByteArray×p4a))):Option ((Int×q8g)⊕Unit):=(bif (decide (x.2.2.2<8)) then(bif (decide ((Int.tmod x.1 (2:Int))=1)) then(g ((IntKind.u32.wrap ((BitVec.ofInt (IntKind.u32).bits (IntKind.u32.wrap (Int.tdiv x.1 (2:Int)))^^^BitVec.ofInt (IntKind.u32).bits (3558460437:Int)).toNat:Int)),(x.2.1,(x.2.2.1,(IntKind.i64.wrap (x.2.2.2+1)))))) else(g ((IntKind.u32.wrap (Int.tdiv x.1 (2:Int))),(x.2.1,(x.2.2.1,(IntKind.i64.wrap (x.2.2.2+1))))))) else(some (.inl (x.1,(x.2.1,x.2.2.1)))))
def t2j:=lpW _ _ s3r
theorem r7o x:t2j x=s3r t2j x:=zW s4z 392 Tryz.f392 6 33 x (by kernel_rfl)
def t16(g:(Int×q8g)→Option p19)(x:(Int×q8g)):Option p19:=(bif (decide (x.2.2<(x.2.1.size:Int))) then(bif (y4q x.2.2 x.2.1.size) then((t2j ((IntKind.u32.wrap ((BitVec.ofInt (IntKind.u32).bits x.1^^^BitVec.ofInt (IntKind.u32).bits (IntKind.u32.wrap ((x.2.1.data.toList.getD (x.2.2).toNat 0).toNat:Int))).toNat:Int)),(x.2.1,(x.2.2,0)))).bind fun r1=>match r1 with | .inl o2=>(g (o2.1,(o2.2.1,(IntKind.i64.wrap (o2.2.2+1))))) | .inr z3=>(some (.inr ()))) else none) else(some (.inl x.1)))
def t2i:=lpW _ _ t16
theorem s5v x:t2i x=t16 t2i x:=zW s4y 392 Tryz.f392 2 33 x (by kernel_rfl)
def s9x (x:(Int×ByteArray)):Option Int:=((t2i (x.1,(x.2,0))).bind fun r4=>match r4 with | .inl o5=>(some o5) | .inr z6=>none)
theorem q1m:s0s=s9x:=zC 392 rfl Tryz.func392 (by kernel_rfl)
def t91(x:ByteArray):Option Int:=zK 308 x
def s63 (x:ByteArray):Option Int:=((s0s (4294967295,x)).bind fun y1=>(some y1))
theorem r6g:t91=s63:=zC 308 rfl Tryz.func308 (by kernel_rfl)
def t4d(x:ByteArray):Option r7q:=zK 178 x
def r2x (x:ByteArray):Option r7q:=(bif (decide ((x.size:Int) >(20000:Int))) then(some ((⟨#[]⟩:ByteArray),false)) else((t91 x).bind fun y1=>((t5y y1).bind fun y2=>(bif (decide (x.size+y2.size≤140737488355328)) then(some ((x++y2),true)) else none))))
theorem q4x:t4d=r2x:=zC 178 rfl Tryz.func178 (by kernel_rfl)
def u2e(x:ByteArray):Option ByteArray:=zK 304 x
def s7a (x:ByteArray):Option ByteArray:=((u1j (x.size:Int)).bind fun y1=>(bif (decide (y1.size+x.size≤140737488355328)) then(some (y1++x)) else none))
theorem r9i:u2e=s7a:=zC 304 rfl Tryz.func304 (by kernel_rfl)
def t0y(x:Bool):Option ByteArray:=zK 305 x
def r26 (x:Bool):Option ByteArray:=(bif x then(some (⟨#[1]⟩:ByteArray)) else(some (⟨#[0]⟩:ByteArray)))
theorem q46:t0y=r26:=zC 305 rfl Tryz.func305 (by kernel_rfl)
def t5x(x:t0t):Option r7q:=zK 306 x
def t2a(g:Z93→Option (Z97⊕Unit))(x:Z93):Option (Z97⊕Unit):=(bif (decide (x.2.2<(x.1.2.2.2.2.1.length:Int))) then(bif (y4q x.2.2 x.1.2.2.2.2.1.length) then((u2e (rdL q2t x.1.2.2.2.2.1 (x.2.2).toNat).1).bind fun y7=>(bif (decide (x.2.1.size+y7.size≤140737488355328)) then(bif (y4q x.2.2 x.1.2.2.2.2.1.length) then((u2e (rdL q2t x.1.2.2.2.2.1 (x.2.2).toNat).2).bind fun y8=>(bif (decide ((x.2.1++y7).size+y8.size≤140737488355328)) then(g (x.1,(((x.2.1++y7)++y8),(IntKind.i64.wrap (x.2.2+1))))) else none)) else none) else none)) else none) else(some (.inl (x.1,x.2.1))))
def u77:=lpW _ _ t2a
theorem s5z x:u77 x=t2a u77 x:=zW s43 306 Tryz.f306 5 101 x (by kernel_rfl)
def t0g(g:Z93→Option (Z97⊕Unit))(x:Z93):Option (Z97⊕Unit):=(bif (decide (x.2.2<(x.1.2.2.2.2.2.1.length:Int))) then(bif (y4q x.2.2 x.1.2.2.2.2.2.1.length) then((u2e (rdL u1x x.1.2.2.2.2.2.1 (x.2.2).toNat).1).bind fun y12=>(bif (decide (x.2.1.size+y12.size≤140737488355328)) then(bif (y4q x.2.2 x.1.2.2.2.2.2.1.length) then((u2e (rdL u1x x.1.2.2.2.2.2.1 (x.2.2).toNat).2.1).bind fun y13=>(bif (decide ((x.2.1++y12).size+y13.size≤140737488355328)) then(bif (y4q x.2.2 x.1.2.2.2.2.2.1.length) then((t0y (rdL u1x x.1.2.2.2.2.2.1 (x.2.2).toNat).2.2).bind fun y14=>(bif (decide (((x.2.1++y12)++y13).size+y14.size≤140737488355328)) then(g (x.1,((((x.2.1++y12)++y13)++y14),(IntKind.i64.wrap (x.2.2+1))))) else none)) else none) else none)) else none) else none)) else none) else(some (.inl (x.1,x.2.1))))
def u6j:=lpW _ _ t0g
theorem s2s x:u6j x=t0g u6j x:=zW s14 306 Tryz.f306 10 101 x (by kernel_rfl)
def s91 (x:t0t):Option r7q:=((u4v x).bind fun y1=>(bif (!y1) then(some ((⟨#[]⟩:ByteArray),false)) else((u1j x.1).bind fun y2=>((u1j x.2.1).bind fun y3=>(bif (decide (y2.size+y3.size≤140737488355328)) then((u1j x.2.2.1).bind fun y4=>(bif (decide ((y2++y3).size+y4.size≤140737488355328)) then((u1j x.2.2.2.1).bind fun y5=>(bif (decide (((y2++y3)++y4).size+y5.size≤140737488355328)) then((u1j (x.2.2.2.2.1.length:Int)).bind fun y6=>(bif (decide ((((y2++y3)++y4)++y5).size+y6.size≤140737488355328)) then((u77 (x,(((((y2++y3)++y4)++y5)++y6),0))).bind fun r9=>match r9 with | .inl o10=>((u1j (o10.1.2.2.2.2.2.1.length:Int)).bind fun y11=>(bif (decide (o10.2.size+y11.size≤140737488355328)) then((u6j (o10.1,((o10.2++y11),0))).bind fun r15=>match r15 with | .inl o16=>((t0y o16.1.2.2.2.2.2.2.1).bind fun y17=>(bif (decide (o16.2.size+y17.size≤140737488355328)) then((u2e o16.1.2.2.2.2.2.2.2).bind fun y18=>(bif (decide ((o16.2++y17).size+y18.size≤140737488355328)) then(some (((o16.2++y17)++y18),true)) else none)) else none)) | .inr z19=>none) else none)) | .inr z20=>none) else none)) else none)) else none)) else none)))))
theorem q1q:t5x=s91:=zC 306 rfl Tryz.func306 (by kernel_rfl)
def t5z(x:r7y):Option ByteArray:=zK 314 x
def t2e(g:o2l→Option (ByteArray⊕Unit))(x:o2l):Option (ByteArray⊕Unit):=(bif (decide (x.2.2<(x.1.length:Int))) then(bif (y4q x.2.2 x.1.length) then((t5x (rdL u0a x.1 (x.2.2).toNat)).bind fun y2=>(bif (decide (x.2.1.size+y2.1.size≤140737488355328)) then(g (x.1,((x.2.1++y2.1),(IntKind.i64.wrap (x.2.2+1))))) else none)) else none) else(some (.inl x.2.1)))
def u8a:=lpW _ _ t2e
theorem s53 x:u8a x=t2e u8a x:=zW s49 314 Tryz.f314 3 28 x (by kernel_rfl)
def r0h (x:r7y):Option ByteArray:=((u1j (x.length:Int)).bind fun y1=>((u8a (x,(y1,0))).bind fun r3=>match r3 with | .inl o4=>(some o4) | .inr z5=>none))
theorem q15:t5z=r0h:=zC 314 rfl Tryz.func314 (by kernel_rfl)
def t8e(x:Z92):Option r7q:=zK 185 x
def u96(g:Z71→Option (Z81⊕Unit))(x:Z71):Option (Z81⊕Unit):=(bif (decide (x.2.2<(x.1.1.length:Int))) then(bif (y4q x.2.2 x.1.1.length) then((u2e (rdL u0e x.1.1 (x.2.2).toNat).1).bind fun y5=>(bif (decide (x.2.1.size+y5.size≤140737488355328)) then((u2e (rdL u0e x.1.1 (x.2.2).toNat).2.1).bind fun y6=>(bif (decide ((x.2.1++y5).size+y6.size≤140737488355328)) then((t0y (rdL u0e x.1.1 (x.2.2).toNat).2.2.1).bind fun y7=>(bif (decide (((x.2.1++y5)++y6).size+y7.size≤140737488355328)) then((u1j (rdL u0e x.1.1 (x.2.2).toNat).2.2.2).bind fun y8=>(bif (decide ((((x.2.1++y5)++y6)++y7).size+y8.size≤140737488355328)) then(g (x.1,(((((x.2.1++y5)++y6)++y7)++y8),(IntKind.i64.wrap (x.2.2+1))))) else none)) else none)) else none)) else none)) else none) else(some (.inl (x.1,x.2.1))))
def u6f:=lpW _ _ u96
theorem s2i x:u6f x=u96 u6f x:=zW s1u 185 Tryz.f185 5 60 x (by kernel_rfl)
def s6r (x:Z92):Option r7q:=((u5v x).bind fun y1=>(bif (!y1) then(some ((⟨#[]⟩:ByteArray),false)) else((u1j x.2.2.2.1).bind fun y2=>((u1j x.2.2.2.2).bind fun y3=>(bif (decide (y2.size+y3.size≤140737488355328)) then((u1j (x.1.length:Int)).bind fun y4=>(bif (decide ((y2++y3).size+y4.size≤140737488355328)) then((u6f (x,(((y2++y3)++y4),0))).bind fun r9=>match r9 with | .inl o10=>((t5z o10.1.2.1).bind fun y11=>(bif (decide (o10.2.size+y11.size≤140737488355328)) then((t5z o10.1.2.2.1).bind fun y12=>(bif (decide ((o10.2++y11).size+y12.size≤140737488355328)) then(some (((o10.2++y11)++y12),true)) else none)) else none)) | .inr z13=>none) else none)) else none)))))
theorem r80:t8e=s6r:=zC 185 rfl Tryz.func185 (by kernel_rfl)
def u2r(x:Z29):Option r7q:=zK 176 x
def s1b (x:Z29):Option r7q:=((t4c x).bind fun y1=>(bif (!y1) then(some ((⟨#[]⟩:ByteArray),false)) else(bif (decide (x.1=3)) then((u2e x.2.2.1).bind fun y2=>(bif (decide ((y7g ([(IntKind.u8.wrap x.1)] :List Int)).size+y2.size≤140737488355328)) then((t0y x.2.2.2.1).bind fun y3=>(bif (decide (((y7g ([(IntKind.u8.wrap x.1)] :List Int))++y2).size+y3.size≤140737488355328)) then((t4d (((y7g ([(IntKind.u8.wrap x.1)] :List Int))++y2)++y3)).bind fun y4=>(some y4)) else none)) else none)) else(bif (decide (x.1=4)) then((t8e x.2.2.2.2).bind fun y5=>(bif (decide ((y7g ([(IntKind.u8.wrap x.1)] :List Int)).size+y5.1.size≤140737488355328)) then((t4d ((y7g ([(IntKind.u8.wrap x.1)] :List Int))++y5.1)).bind fun y6=>(some y6)) else none)) else((t5x x.2.1).bind fun y7=>(bif (decide ((y7g ([(IntKind.u8.wrap x.1)] :List Int)).size+y7.1.size≤140737488355328)) then((t4d ((y7g ([(IntKind.u8.wrap x.1)] :List Int))++y7.1)).bind fun y8=>(some y8)) else none))))))
theorem r43:u2r=s1b:=zC 176 rfl Tryz.func176 (by kernel_rfl)
def t8l(x:ByteArray):Option r7q:=zK 177 x
def s64 (x:ByteArray):Option r7q:=(((bif (decide ((IntKind.i64.wrap ((x.size:Int) - (4:Int)))<0)) then(some true) else(bif (decide ((IntKind.i64.wrap ((x.size:Int) - (4:Int))) >20000)) then(some true) else(bif (decide (0≤(IntKind.i64.wrap ((x.size:Int) - (4:Int))))&&decide ((IntKind.i64.wrap ((x.size:Int) - (4:Int)))≤(x.size:Int))&&decide ((x.size:Int)≤(x.size:Int))) then(bif (decide (0≤(0:Int))&&decide ((0:Int)≤(IntKind.i64.wrap ((x.size:Int) - (4:Int))))&&decide ((IntKind.i64.wrap ((x.size:Int) - (4:Int)))≤(x.size:Int))) then((t91 (x.extract ((0:Int)).toNat ((IntKind.i64.wrap ((x.size:Int) - (4:Int)))).toNat)).bind fun y1=>((t5y y1).bind fun y2=>(some (!z7o (x.extract ((IntKind.i64.wrap ((x.size:Int) - (4:Int)))).toNat ((x.size:Int)).toNat) y2)))) else none) else none))):Option Bool).bind fun j3=>(bif j3 then(some ((⟨#[]⟩:ByteArray),false)) else(bif (decide (0≤(0:Int))&&decide ((0:Int)≤(IntKind.i64.wrap ((x.size:Int) - (4:Int))))&&decide ((IntKind.i64.wrap ((x.size:Int) - (4:Int)))≤(x.size:Int))) then(some ((x.extract ((0:Int)).toNat ((IntKind.i64.wrap ((x.size:Int) - (4:Int)))).toNat),true)) else none)))
theorem r9c:t8l=s64:=zC 177 rfl Tryz.func177 (by kernel_rfl)
def t41(x:ByteArray):Option Z27:=zK 60 x
def s09 (x:ByteArray):Option Z27:=((t8l x).bind fun y1=>(((bif (!y1.2) then(some true) else(some (z7o y1.1 (⟨#[]⟩:ByteArray)))):Option Bool).bind fun j2=>(bif j2 then(some ((0,((0,(0,(0,(0,(([] :List q2t.den),(([] :List u1x.den),(false,(⟨#[]⟩:ByteArray)))))))),((⟨#[]⟩:ByteArray),(false,(([] :List u0e.den),(([] :List u0a.den),(([] :List u0a.den),(0,0)))))))),false)) else(bif (y4q (0:Int) y1.1.size) then(bif (decide ((IntKind.i64.wrap ((y1.1.data.toList.getD ((0:Int)).toNat 0).toNat:Int))=3)) then((u1n (y1.1,(1,false))).bind fun y3=>((u4z y3.2).bind fun y4=>((u2r ((IntKind.i64.wrap ((y1.1.data.toList.getD ((0:Int)).toNat 0).toNat:Int)),((0,(0,(0,(0,(([] :List q2t.den),(([] :List u1x.den),(false,(⟨#[]⟩:ByteArray)))))))),(y3.1,(y4.1,(([] :List u0e.den),(([] :List u0a.den),(([] :List u0a.den),(0,0))))))))).bind fun y5=>(((bif (!y5.2) then(some true) else(some (!z7o y5.1 x))):Option Bool).bind fun j6=>(bif j6 then(some ((0,((0,(0,(0,(0,(([] :List q2t.den),(([] :List u1x.den),(false,(⟨#[]⟩:ByteArray)))))))),((⟨#[]⟩:ByteArray),(false,(([] :List u0e.den),(([] :List u0a.den),(([] :List u0a.den),(0,0)))))))),false)) else(some (((IntKind.i64.wrap ((y1.1.data.toList.getD ((0:Int)).toNat 0).toNat:Int)),((0,(0,(0,(0,(([] :List q2t.den),(([] :List u1x.den),(false,(⟨#[]⟩:ByteArray)))))))),(y3.1,(y4.1,(([] :List u0e.den),(([] :List u0a.den),(([] :List u0a.den),(0,0)))))))),true))))))) else(bif (decide ((IntKind.i64.wrap ((y1.1.data.toList.getD ((0:Int)).toNat 0).toNat:Int))=4)) then((t8j (y1.1,1)).bind fun y7=>((u2r ((IntKind.i64.wrap ((y1.1.data.toList.getD ((0:Int)).toNat 0).toNat:Int)),((0,(0,(0,(0,(([] :List q2t.den),(([] :List u1x.den),(false,(⟨#[]⟩:ByteArray)))))))),((⟨#[]⟩:ByteArray),(false,y7.1))))).bind fun y8=>(((bif (!y8.2) then(some true) else(some (!z7o y8.1 x))):Option Bool).bind fun j9=>(bif j9 then(some ((0,((0,(0,(0,(0,(([] :List q2t.den),(([] :List u1x.den),(false,(⟨#[]⟩:ByteArray)))))))),((⟨#[]⟩:ByteArray),(false,(([] :List u0e.den),(([] :List u0a.den),(([] :List u0a.den),(0,0)))))))),false)) else(some (((IntKind.i64.wrap ((y1.1.data.toList.getD ((0:Int)).toNat 0).toNat:Int)),((0,(0,(0,(0,(([] :List q2t.den),(([] :List u1x.den),(false,(⟨#[]⟩:ByteArray)))))))),((⟨#[]⟩:ByteArray),(false,y7.1)))),true)))))) else((t5v (y1.1,1)).bind fun y10=>((u2r ((IntKind.i64.wrap ((y1.1.data.toList.getD ((0:Int)).toNat 0).toNat:Int)),(y10.1,((⟨#[]⟩:ByteArray),(false,(([] :List u0e.den),(([] :List u0a.den),(([] :List u0a.den),(0,0))))))))).bind fun y11=>(((bif (!y11.2) then(some true) else(some (!z7o y11.1 x))):Option Bool).bind fun j12=>(bif j12 then(some ((0,((0,(0,(0,(0,(([] :List q2t.den),(([] :List u1x.den),(false,(⟨#[]⟩:ByteArray)))))))),((⟨#[]⟩:ByteArray),(false,(([] :List u0e.den),(([] :List u0a.den),(([] :List u0a.den),(0,0)))))))),false)) else(some (((IntKind.i64.wrap ((y1.1.data.toList.getD ((0:Int)).toNat 0).toNat:Int)),(y10.1,((⟨#[]⟩:ByteArray),(false,(([] :List u0e.den),(([] :List u0a.den),(([] :List u0a.den),(0,0)))))))),true)))))))) else none))))
theorem r41:t41=s09:=zC 60 rfl Tryz.func60 (by kernel_rfl)
def t8i(x:Z63):Option Int:=zK 105 x
def u98(g:p8k→Option p19)(x:p8k):Option p19:=(bif (decide (x.2.2<(x.1.length:Int))) then(bif (y4q x.2.2 x.1.length) then(bif (decide ((rdL u0a x.1 (x.2.2).toNat).2.2.1<x.2.1)) then(bif (y4q x.2.2 x.1.length) then(g (x.1,((rdL u0a x.1 (x.2.2).toNat).2.2.1,(IntKind.i64.wrap (x.2.2+1))))) else none) else(g (x.1,(x.2.1,(IntKind.i64.wrap (x.2.2+1)))))) else none) else(some (.inl x.2.1)))
def t0o:=lpW _ _ u98
theorem s2k x:t0o x=u98 t0o x:=zW s1w 105 Tryz.f105 3 28 x (by kernel_rfl)
def s6w (x:Z63):Option Int:=((t0o (x.2,(x.1.2.2.2.1,0))).bind fun r1=>match r1 with | .inl o2=>(some o2) | .inr z3=>none)
theorem r85:t8i=s6w:=zC 105 rfl Tryz.func105 (by kernel_rfl)
def t92(x:p72):Option Int:=zK 113 x
def t5f(g:o2j→Option p19)(x:o2j):Option p19:=(bif (decide (x.2.2.2.2<(x.1.length:Int))) then(((bif (y4q x.2.2.2.2 x.1.length) then(bif (z7o (rdL u0e x.1 (x.2.2.2.2).toNat).1 x.2.1) then(bif (y4q x.2.2.2.2 x.1.length) then(bif (decide ((rdL u0e x.1 (x.2.2.2.2).toNat).2.2.2≤x.2.2.1)) then(bif (decide (x.2.2.2.1<0)) then(some true) else(bif (y4q x.2.2.2.2 x.1.length) then(bif (y4q x.2.2.2.1 x.1.length) then(some (decide ((rdL u0e x.1 (x.2.2.2.2).toNat).2.2.2 >(rdL u0e x.1 (x.2.2.2.1).toNat).2.2.2))) else none) else none)) else(some false)) else none) else(some false)) else none):Option Bool).bind fun j1=>(bif j1 then(g (x.1,(x.2.1,(x.2.2.1,(x.2.2.2.2,(IntKind.i64.wrap (x.2.2.2.2+1))))))) else(g (x.1,(x.2.1,(x.2.2.1,(x.2.2.2.1,(IntKind.i64.wrap (x.2.2.2.2+1))))))))) else(some (.inl x.2.2.2.1)))
def t1a:=lpW _ _ t5f
theorem r1g x:t1a x=t5f t1a x:=zW r03 113 Tryz.f113 3 50 x (by kernel_rfl)
def r6a (x:p72):Option Int:=((t1a (x.1,(x.2.1,(x.2.2,((-1:Int),0))))).bind fun r2=>match r2 with | .inl o3=>(some o3) | .inr z4=>none)
theorem q69:t92=r6a:=zC 113 rfl Tryz.func113 (by kernel_rfl)
def s0u(x:p78):Option q0s:=zK 107 x
def t19(g:o2g→Option o0g)(x:o2g):Option o0g:=(bif (decide (x.2.2.2<(x.1.length:Int))) then(bif (y4q x.2.2.2 x.1.length) then((t92 (x.1,((rdL u0e x.1 (x.2.2.2).toNat).1,x.2.1))).bind fun y1=>(((bif (y4q x.2.2.2 x.1.length) then(bif (decide ((rdL u0e x.1 (x.2.2.2).toNat).2.2.2 >x.2.1)) then(some true) else(some (decide (y1=x.2.2.2)))) else none):Option Bool).bind fun j2=>(bif j2 then(bif (y4q x.2.2.2 x.1.length) then(bif (Nat.ble (x.2.2.1.length+([(rdL u0e x.1 (x.2.2.2).toNat)] :List u0e.den).length) z7w) then(g (x.1,(x.2.1,((x.2.2.1++([(rdL u0e x.1 (x.2.2.2).toNat)] :List u0e.den)),(IntKind.i64.wrap (x.2.2.2+1)))))) else none) else none) else(g (x.1,(x.2.1,(x.2.2.1,(IntKind.i64.wrap (x.2.2.2+1))))))))) else none) else(some (.inl (x.2.1,x.2.2.1))))
def u76:=lpW _ _ t19
theorem s5y x:u76 x=t19 u76 x:=zW s42 107 Tryz.f107 3 99 x (by kernel_rfl)
def t0f(g:o2a→Option (o03⊕Unit))(x:o2a):Option (o03⊕Unit):=(bif (decide (x.2.2.2.2.2<(x.2.1.length:Int))) then(bif (y4q x.2.2.2.2.2 x.2.1.length) then(bif (y4q x.2.2.2.1 x.2.1.length) then(bif (z7o (rdL u0e x.2.1 (x.2.2.2.2.2).toNat).1 (rdL u0e x.2.1 (x.2.2.2.1).toNat).1) then(g (x.1,(x.2.1,(x.2.2.1,(x.2.2.2.1,((IntKind.i64.wrap (x.2.2.2.2.1+1)),(IntKind.i64.wrap (x.2.2.2.2.2+1)))))))) else(g (x.1,(x.2.1,(x.2.2.1,(x.2.2.2.1,(x.2.2.2.2.1,(IntKind.i64.wrap (x.2.2.2.2.2+1))))))))) else none) else none) else(some (.inl (x.1,(x.2.1,(x.2.2.1,(x.2.2.2.1,x.2.2.2.2.1)))))))
def u6i:=lpW _ _ t0f
theorem s2r x:u6i x=t0f u6i x:=zW s13 107 Tryz.f107 14 99 x (by kernel_rfl)
def t0e(g:o2h→Option p6m)(x:o2h):Option p6m:=(bif (decide (x.2.2.2<(x.2.1.length:Int))) then((u6i (x.1,(x.2.1,(x.2.2.1,(x.2.2.2,(0,0)))))).bind fun r5=>match r5 with | .inl o6=>(((bif (y4q o6.2.2.2.1 o6.2.1.length) then(bif (!(rdL u0e o6.2.1 (o6.2.2.2.1).toNat).2.2.1) then(some true) else(bif (y4q o6.2.2.2.1 o6.2.1.length) then(bif (decide ((rdL u0e o6.2.1 (o6.2.2.2.1).toNat).2.2.2 >o6.1)) then(some true) else(some (decide (o6.2.2.2.2 >1)))) else none)) else none):Option Bool).bind fun j7=>(bif j7 then(bif (y4q o6.2.2.2.1 o6.2.1.length) then(bif (Nat.ble (o6.2.2.1.length+([(rdL u0e o6.2.1 (o6.2.2.2.1).toNat)] :List u0e.den).length) z7w) then(g (o6.1,(o6.2.1,((o6.2.2.1++([(rdL u0e o6.2.1 (o6.2.2.2.1).toNat)] :List u0e.den)),(IntKind.i64.wrap (o6.2.2.2.1+1)))))) else none) else none) else(g (o6.1,(o6.2.1,(o6.2.2.1,(IntKind.i64.wrap (o6.2.2.2.1+1)))))))) | .inr z8=>(some (.inr ()))) else(some (.inl x.2.2.1)))
def t0r:=lpW _ _ t0e
theorem s2q x:t0r x=t0e t0r x:=zW s12 107 Tryz.f107 10 99 x (by kernel_rfl)
def s90 (x:p78):Option q0s:=((u76 (x.1,(x.2,(([] :List u0e.den),0)))).bind fun r3=>match r3 with | .inl o4=>((t0r (o4.1,(o4.2,(([] :List u0e.den),0)))).bind fun r9=>match r9 with | .inl o10=>(some o10) | .inr z11=>none) | .inr z12=>none)
theorem q1p:s0u=s90:=zC 107 rfl Tryz.func107 (by kernel_rfl)
def t0x(x:Z63):Option Z92:=zK 21 x
def t3q(g:Z14→Option (Z15⊕Unit))(x:Z14):Option (Z15⊕Unit):=(bif (decide (x.2.2.2.2<(x.1.2.1.length:Int))) then(bif (y4q x.2.2.2.2 x.1.2.1.length) then(bif (decide ((rdL u0a x.1.2.1 (x.2.2.2.2).toNat).2.2.2.1 >x.2.2.2.1)) then(bif (y4q x.2.2.2.2 x.1.2.1.length) then((u0w (rdL u0a x.1.2.1 (x.2.2.2.2).toNat)).bind fun y3=>(bif (Nat.ble (x.2.2.1.2.1.length+([y3] :List u0a.den).length) z7w) then(g (x.1,(x.2.1,((x.2.2.1.1,((x.2.2.1.2.1++([y3] :List u0a.den)),x.2.2.1.2.2)),(x.2.2.2.1,(IntKind.i64.wrap (x.2.2.2.2+1))))))) else none)) else none) else(g (x.1,(x.2.1,(x.2.2.1,(x.2.2.2.1,(IntKind.i64.wrap (x.2.2.2.2+1)))))))) else none) else(some (.inl (x.1,(x.2.1,(x.2.2.1,x.2.2.2.1))))))
def t3w:=lpW _ _ t3q
theorem s8j x:t3w x=t3q t3w x:=zW s7s 21 Tryz.f21 5 47 x (by kernel_rfl)
def r2z (x:Z63):Option Z92:=((u13 x.1).bind fun y1=>((t8i x).bind fun y2=>((t3w (x.1,((([] :List u0e.den),(([] :List u0a.den),(([] :List u0a.den),(0,0)))),((y1.1,(([] :List u0a.den),y1.2.2)),(y2,0))))).bind fun r4=>match r4 with | .inl o5=>((s0u (o5.1.1,o5.2.2.2)).bind fun y6=>(some (y6,o5.2.2.1.2))) | .inr z7=>none)))
theorem q4z:t0x=r2z:=zC 21 rfl Tryz.func21 (by kernel_rfl)
def s3e(x:Z49):Option Bool:=zK 287 x
def r2m (x:Z49):Option Bool:=(bif (decide (x.1.1=x.2.1)) then(some false) else(((bif (decide (x.1.2.1=3)) then(bif (decide (x.1.2.2.2.1≤x.2.2.2.1)) then(some true) else(bif (decide (x.2.2.1=3)) then(some (decide (x.2.2.2.2.1≤x.1.2.2.1))) else(some false))) else(bif (decide (x.2.2.1=3)) then(some (decide (x.2.2.2.2.1≤x.1.2.2.1))) else(some false))):Option Bool).bind fun j1=>(bif j1 then(some false) else(some true))))
theorem q4m:s3e=r2m:=zC 287 rfl Tryz.func287 (by kernel_rfl)
def t5t(x:p99):Option Bool:=zK 281 x
def s9p (x:p99):Option Bool:=(((bif (!y3c x.2 x.1.1) then(some (y3c x.2 x.1.2 || z7o x.2 x.1.2)) else(some false)):Option Bool).bind fun j1=>(some j1))
theorem q1e:t5t=s9p:=zC 281 rfl Tryz.func281 (by kernel_rfl)
def s0t(x:p98):Option Bool:=zK 288 x
def t18(g:o2r→Option (p95⊕Bool))(x:o2r):Option (p95⊕Bool):=(bif (decide (x.2.2.2<(x.2.1.length:Int))) then(bif (y4q x.2.2.1 x.1.length) then(bif (y4q x.2.2.2 x.2.1.length) then((t5t ((rdL q2t x.1 (x.2.2.1).toNat),(rdL u1x x.2.1 (x.2.2.2).toNat).1)).bind fun y1=>(bif y1 then(some (.inr true)) else(g (x.1,(x.2.1,(x.2.2.1,(IntKind.i64.wrap (x.2.2.2+1)))))))) else none) else none) else(some (.inl (x.1,(x.2.1,x.2.2.1)))))
def u75:=lpW _ _ t18
theorem s5x x:u75 x=t18 u75 x:=zW s41 288 Tryz.f288 5 29 x (by kernel_rfl)
def t17(g:p95→Option r1i)(x:p95):Option r1i:=(bif (decide (x.2.2<(x.1.length:Int))) then((u75 (x.1,(x.2.1,(x.2.2,0)))).bind fun r2=>match r2 with | .inl o3=>(g (o3.1,(o3.2.1,(IntKind.i64.wrap (o3.2.2+1))))) | .inr z4=>(some (.inr z4))) else(some (.inl ())))
def t2k:=lpW _ _ t17
theorem s5w x:t2k x=t17 t2k x:=zW s40 288 Tryz.f288 2 29 x (by kernel_rfl)
def s9z (x:p98):Option Bool:=((t2k (x.1,(x.2,0))).bind fun r5=>match r5 with | .inl o6=>(some false) | .inr z7=>(some z7))
theorem q1o:s0t=s9z:=zC 288 rfl Tryz.func288 (by kernel_rfl)
def u2a(x:Z49):Option Bool:=zK 162 x
def r50 (x:Z49):Option Bool:=((((s3e x).bind fun y1=>(bif y1 then((s0t (x.1.2.2.2.2.1,x.2.2.2.2.2.2.1)).bind fun y2=>(some y2)) else(some false))):Option Bool).bind fun j3=>(some j3))
theorem q6z:u2a=r50:=zC 162 rfl Tryz.func162 (by kernel_rfl)
def t6b(x:Z74):Option Bool:=zK 161 x
def t5d(g:Z68→Option r1i)(x:Z68):Option r1i:=(bif (decide (x.2.2<(x.1.length:Int))) then(((bif (y4q x.2.2 x.1.length) then(bif (decide ((rdL u0a x.1 (x.2.2).toNat).2.1=3)) then(bif (y4q x.2.2 x.1.length) then((u2a (x.2.1,(rdL u0a x.1 (x.2.2).toNat))).bind fun y1=>(some y1)) else none) else(some false)) else none):Option Bool).bind fun j2=>(bif j2 then(some (.inr true)) else(g (x.1,(x.2.1,(IntKind.i64.wrap (x.2.2+1))))))) else(some (.inl ())))
def t5k:=lpW _ _ t5d
theorem r1e x:t5k x=t5d t5k x:=zW r01 161 Tryz.f161 2 26 x (by kernel_rfl)
def r57 (x:Z74):Option Bool:=((t5k (x.2,(x.1,0))).bind fun r3=>match r3 with | .inl o4=>(some false) | .inr z5=>(some z5))
theorem q66:t6b=r57:=zC 161 rfl Tryz.func161 (by kernel_rfl)
def u5w(x:p94):Option q0s:=zK 379 x
def u58(g:Z73→Option (Z73⊕Unit))(x:Z73):Option (Z73⊕Unit):=(((bif (decide (x.2.2.2.2.2.2<(x.2.2.1.length:Int))) then(bif (y4q x.2.2.2.2.2.2 x.2.2.1.length) then(bif (y3c (rdL u0e x.2.2.1 (x.2.2.2.2.2.2).toNat).1 x.2.2.2.2.1.1) then(some true) else(bif (y4q x.2.2.2.2.2.2 x.2.2.1.length) then(bif (z7o (rdL u0e x.2.2.1 (x.2.2.2.2.2.2).toNat).1 x.2.2.2.2.1.1) then(bif (y4q x.2.2.2.2.2.2 x.2.2.1.length) then(some (decide ((rdL u0e x.2.2.1 (x.2.2.2.2.2.2).toNat).2.2.2≤x.2.2.2.2.1.2.2.2))) else none) else(some false)) else none)) else none) else(some false)):Option Bool).bind fun j1=>(bif j1 then(bif (y4q x.2.2.2.2.2.2 x.2.2.1.length) then(bif (Nat.ble (x.2.2.2.2.2.1.length+([(rdL u0e x.2.2.1 (x.2.2.2.2.2.2).toNat)] :List u0e.den).length) z7w) then(g (x.1,(x.2.1,(x.2.2.1,(x.2.2.2.1,(x.2.2.2.2.1,((x.2.2.2.2.2.1++([(rdL u0e x.2.2.1 (x.2.2.2.2.2.2).toNat)] :List u0e.den)),(IntKind.i64.wrap (x.2.2.2.2.2.2+1))))))))) else none) else none) else(some (.inl x))))
def u4j:=lpW _ _ u58
theorem t68 x:u4j x=u58 u4j x:=zW t62 379 Tryz.f379 8 93 x (by kernel_rfl)
def u57(g:o2k→Option p6m)(x:o2k):Option p6m:=(bif (decide (x.2.2.2<(x.1.length:Int))) then(bif (y4q x.2.2.2 x.1.length) then(bif (y4q x.2.2.2 x.1.length) then(bif (y4q x.2.2.2 x.1.length) then((u4j (x.1,(x.2.1,(x.2.2.1,(x.2.2.2,(((rdL u1x x.1 (x.2.2.2).toNat).1,((rdL u1x x.1 (x.2.2.2).toNat).2.1,((rdL u1x x.1 (x.2.2.2).toNat).2.2,x.2.1))),(([] :List u0e.den),0))))))).bind fun r2=>match r2 with | .inl o3=>(bif (Nat.ble (o3.2.2.2.2.2.1.length+([o3.2.2.2.2.1] :List u0e.den).length) z7w) then(bif (decide (0≤o3.2.2.2.2.2.2)&&decide (o3.2.2.2.2.2.2≤(o3.2.2.1.length:Int))&&decide ((o3.2.2.1.length:Int)≤(o3.2.2.1.length:Int))) then(bif (Nat.ble ((o3.2.2.2.2.2.1++([o3.2.2.2.2.1] :List u0e.den)).length+((o3.2.2.1.take ((o3.2.2.1.length:Int)).toNat).drop (o3.2.2.2.2.2.2).toNat).length) z7w) then(g (o3.1,(o3.2.1,(((o3.2.2.2.2.2.1++([o3.2.2.2.2.1] :List u0e.den))++((o3.2.2.1.take ((o3.2.2.1.length:Int)).toNat).drop (o3.2.2.2.2.2.2).toNat)),(IntKind.i64.wrap (o3.2.2.2.1+1)))))) else none) else none) else none) | .inr z4=>(some (.inr ()))) else none) else none) else none) else(some (.inl x.2.2.1)))
def u6b:=lpW _ _ u57
theorem t67 x:u6b x=u57 u6b x:=zW t61 379 Tryz.f379 3 93 x (by kernel_rfl)
def t9c (x:p94):Option q0s:=(bif (Nat.ble (([] :List u0e.den).length+x.1.length) z7w) then((u6b (x.2.1,(x.2.2,((([] :List u0e.den)++x.1),0)))).bind fun r5=>match r5 with | .inl o6=>(some o6) | .inr z7=>none) else none)
theorem r3n:u5w=t9c:=zC 379 rfl Tryz.func379 (by kernel_rfl)
def u4u(x:Z38):Option Z92:=zK 318 x
def t0d(g:Z3→Option (Z17⊕Unit))(x:Z3):Option (Z17⊕Unit):=(bif (decide (x.2.2.2.2.2<(x.1.2.2.1.length:Int))) then(bif (y4q x.2.2.2.2.2 x.1.2.2.1.length) then((u0w (rdL u0a x.1.2.2.1 (x.2.2.2.2.2).toNat)).bind fun y4=>(bif (decide (y4.1=x.2.1.1)) then(g (x.1,(x.2.1,(x.2.2.1,(x.2.2.2.1,(x.2.2.2.2.1,(IntKind.i64.wrap (x.2.2.2.2.2+1)))))))) else((u2a (y4,x.2.2.2.2.1)).bind fun y5=>(bif y5 then(bif (Nat.ble (x.2.2.2.1.2.2.1.length+([(y4.1,(y4.2.1,(y4.2.2.1,(y4.2.2.2.1,(y4.2.2.2.2.1,(y4.2.2.2.2.2.1,(true,y4.2.2.2.2.2.2.2)))))))] :List u0a.den).length) z7w) then(g (x.1,(x.2.1,(x.2.2.1,((x.2.2.2.1.1,(x.2.2.2.1.2.1,((x.2.2.2.1.2.2.1++([(y4.1,(y4.2.1,(y4.2.2.1,(y4.2.2.2.1,(y4.2.2.2.2.1,(y4.2.2.2.2.2.1,(true,y4.2.2.2.2.2.2.2)))))))] :List u0a.den)),x.2.2.2.1.2.2.2))),(x.2.2.2.2.1,(IntKind.i64.wrap (x.2.2.2.2.2+1)))))))) else none) else(bif (Nat.ble (x.2.2.2.1.2.2.1.length+([y4] :List u0a.den).length) z7w) then(g (x.1,(x.2.1,(x.2.2.1,((x.2.2.2.1.1,(x.2.2.2.1.2.1,((x.2.2.2.1.2.2.1++([y4] :List u0a.den)),x.2.2.2.1.2.2.2))),(x.2.2.2.2.1,(IntKind.i64.wrap (x.2.2.2.2.2+1)))))))) else none))))) else none) else(some (.inl (x.2.1,(x.2.2.1,x.2.2.2.1)))))
def u4x:=lpW _ _ t0d
theorem s2p x:u4x x=t0d u4x x:=zW s11 318 Tryz.f318 12 85 x (by kernel_rfl)
def s9y (x:Z38):Option Z92:=((u13 x.1).bind fun y1=>((u0w x.2).bind fun y2=>(bif x.2.2.2.2.2.2.2.1 then((u5w (x.1.1,(y2.2.2.2.2.2.1,(IntKind.i64.wrap (x.1.2.2.2.1+1))))).bind fun y3=>(bif (Nat.ble (y1.2.1.length+([(y2.1,(3,(y2.2.2.1,((IntKind.i64.wrap (x.1.2.2.2.1+1)),(y2.2.2.2.2.1,(y2.2.2.2.2.2.1,(true,(⟨#[]⟩:ByteArray))))))))] :List u0a.den).length) z7w) then((u4x (x.1,(x.2,((([] :List u0e.den),(([] :List u0a.den),(([] :List u0a.den),(0,0)))),((y3,((y1.2.1++([(y2.1,(3,(y2.2.2.1,((IntKind.i64.wrap (x.1.2.2.2.1+1)),(y2.2.2.2.2.1,(y2.2.2.2.2.2.1,(true,(⟨#[]⟩:ByteArray))))))))] :List u0a.den)),(([] :List u0a.den),((IntKind.i64.wrap (x.1.2.2.2.1+1)),y1.2.2.2.2)))),((y2.1,(3,(y2.2.2.1,((IntKind.i64.wrap (x.1.2.2.2.1+1)),(y2.2.2.2.2.1,(y2.2.2.2.2.2.1,(true,(⟨#[]⟩:ByteArray)))))))),0)))))).bind fun r6=>match r6 with | .inl o7=>(bif (decide (o7.1.1≥o7.2.2.2.2.2.2)) then(some (o7.2.2.1,(o7.2.2.2.1,(o7.2.2.2.2.1,(o7.2.2.2.2.2.1,(IntKind.i64.wrap (o7.1.1+1))))))) else(some o7.2.2)) | .inr z8=>none) else none)) else((t6b (x.2,x.1.2.1)).bind fun y9=>((u5w (x.1.1,(y2.2.2.2.2.2.1,(IntKind.i64.wrap (x.1.2.2.2.1+1))))).bind fun y10=>(bif (Nat.ble (y1.2.1.length+([(y2.1,(3,(y2.2.2.1,((IntKind.i64.wrap (x.1.2.2.2.1+1)),(y2.2.2.2.2.1,(y2.2.2.2.2.2.1,(y9,(⟨#[]⟩:ByteArray))))))))] :List u0a.den).length) z7w) then((u4x (x.1,(x.2,((([] :List u0e.den),(([] :List u0a.den),(([] :List u0a.den),(0,0)))),((y10,((y1.2.1++([(y2.1,(3,(y2.2.2.1,((IntKind.i64.wrap (x.1.2.2.2.1+1)),(y2.2.2.2.2.1,(y2.2.2.2.2.2.1,(y9,(⟨#[]⟩:ByteArray))))))))] :List u0a.den)),(([] :List u0a.den),((IntKind.i64.wrap (x.1.2.2.2.1+1)),y1.2.2.2.2)))),((y2.1,(3,(y2.2.2.1,((IntKind.i64.wrap (x.1.2.2.2.1+1)),(y2.2.2.2.2.1,(y2.2.2.2.2.2.1,(y9,(⟨#[]⟩:ByteArray)))))))),0)))))).bind fun r13=>match r13 with | .inl o14=>(bif (decide (o14.1.1≥o14.2.2.2.2.2.2)) then(some (o14.2.2.1,(o14.2.2.2.1,(o14.2.2.2.2.1,(o14.2.2.2.2.2.1,(IntKind.i64.wrap (o14.1.1+1))))))) else(some o14.2.2)) | .inr z15=>none) else none))))))
theorem q1n:u4u=s9y:=zC 318 rfl Tryz.func318 (by kernel_rfl)
def u1u(x:Z81):Option Int:=zK 319 x
def u7p(g:Z72→Option q55)(x:Z72):Option q55:=(bif (decide (x.2.2<(x.2.1.2.2.1.length:Int))) then(bif (y4q x.2.2 x.2.1.2.2.1.length) then(bif (z7o (rdL u0a x.2.1.2.2.1 (x.2.2).toNat).2.2.2.2.2.2.2 x.1) then(some (.inr x.2.2)) else(g (x.1,(x.2.1,(IntKind.i64.wrap (x.2.2+1)))))) else none) else(some (.inl ())))
def u74:=lpW _ _ u7p
theorem s5u x:u74 x=u7p u74 x:=zW s4x 319 Tryz.f319 2 22 x (by kernel_rfl)
def s9w (x:Z81):Option Int:=((u74 (x.2,(x.1,0))).bind fun r1=>match r1 with | .inl o2=>(some (-1:Int)) | .inr z3=>(some z3))
theorem q1l:u1u=s9w:=zC 319 rfl Tryz.func319 (by kernel_rfl)
def u4h(x:Z34):Option Z92:=zK 320 x
def u8y(g:Z1→Option (Z2⊕Unit))(x:Z1):Option (Z2⊕Unit):=(bif (decide (x.2.2.2.2.2.2<(x.2.1.2.2.1.length:Int))) then(bif (y4q x.2.2.2.2.2.2 x.2.1.2.2.1.length) then(bif (y3c (rdL u0a x.2.1.2.2.1 (x.2.2.2.2.2.2).toNat).2.2.2.2.2.2.2 x.1) then(bif (y4q x.2.2.2.2.2.2 x.2.1.2.2.1.length) then((u0w (rdL u0a x.2.1.2.2.1 (x.2.2.2.2.2.2).toNat)).bind fun y3=>(bif (Nat.ble (x.2.2.2.2.1.2.2.1.length+([y3] :List u0a.den).length) z7w) then(g (x.1,(x.2.1,(x.2.2.1,(x.2.2.2.1,((x.2.2.2.2.1.1,(x.2.2.2.2.1.2.1,((x.2.2.2.2.1.2.2.1++([y3] :List u0a.den)),x.2.2.2.2.1.2.2.2))),(x.2.2.2.2.2.1,(IntKind.i64.wrap (x.2.2.2.2.2.2+1))))))))) else none)) else none) else(g (x.1,(x.2.1,(x.2.2.1,(x.2.2.2.1,(x.2.2.2.2.1,(x.2.2.2.2.2.1,(IntKind.i64.wrap (x.2.2.2.2.2.2+1)))))))))) else none) else(some (.inl (x.1,(x.2.1,(x.2.2.1,(x.2.2.2.1,(x.2.2.2.2.1,x.2.2.2.2.2.1))))))))
def u4c:=lpW _ _ u8y
theorem s0b x:u4c x=u8y u4c x:=zW t9p 320 Tryz.f320 8 97 x (by kernel_rfl)
def u63(g:Z6→Option (Z17⊕Unit))(x:Z6):Option (Z17⊕Unit):=(bif (decide (x.2.2.2.2.2<(x.2.1.2.2.1.length:Int))) then(bif (y4q x.2.2.2.2.2 x.2.1.2.2.1.length) then(bif (!y3c (rdL u0a x.2.1.2.2.1 (x.2.2.2.2.2).toNat).2.2.2.2.2.2.2 x.1) then(bif (y4q x.2.2.2.2.2 x.2.1.2.2.1.length) then((u0w (rdL u0a x.2.1.2.2.1 (x.2.2.2.2.2).toNat)).bind fun y6=>(bif (Nat.ble (x.2.2.2.2.1.2.2.1.length+([y6] :List u0a.den).length) z7w) then(g (x.1,(x.2.1,(x.2.2.1,(x.2.2.2.1,((x.2.2.2.2.1.1,(x.2.2.2.2.1.2.1,((x.2.2.2.2.1.2.2.1++([y6] :List u0a.den)),x.2.2.2.2.1.2.2.2))),(IntKind.i64.wrap (x.2.2.2.2.2+1)))))))) else none)) else none) else(g (x.1,(x.2.1,(x.2.2.1,(x.2.2.2.1,(x.2.2.2.2.1,(IntKind.i64.wrap (x.2.2.2.2.2+1))))))))) else none) else(some (.inl (x.2.2.1,(x.2.2.2.1,x.2.2.2.2.1)))))
def u3x:=lpW _ _ u63
theorem t8y x:u3x x=u63 u3x x:=zW t72 320 Tryz.f320 14 97 x (by kernel_rfl)
def s31 (x:Z34):Option Z92:=((u13 x.1).bind fun y1=>((u0w x.2.1).bind fun y2=>(bif x.2.1.2.2.2.2.2.2.1 then((u4c (x.2.2,(x.1,(x.2.1,((([] :List u0e.den),(([] :List u0a.den),(([] :List u0a.den),(0,0)))),((y1.1,(y1.2.1,(([] :List u0a.den),y1.2.2.2))),((y2.1,(2,(y2.2.2.1,(y2.2.2.2.1,(y2.2.2.2.2.1,(y2.2.2.2.2.2.1,(true,x.2.2))))))),0))))))).bind fun r4=>match r4 with | .inl o5=>(bif (Nat.ble (o5.2.2.2.2.1.2.2.1.length+([o5.2.2.2.2.2] :List u0a.den).length) z7w) then((u3x (o5.1,(o5.2.1,(o5.2.2.1,(o5.2.2.2.1,((o5.2.2.2.2.1.1,(o5.2.2.2.2.1.2.1,((o5.2.2.2.2.1.2.2.1++([o5.2.2.2.2.2] :List u0a.den)),o5.2.2.2.2.1.2.2.2))),0)))))).bind fun r7=>match r7 with | .inl o8=>(bif (decide (o8.1.1≥o8.2.2.2.2.2.2)) then(some (o8.2.2.1,(o8.2.2.2.1,(o8.2.2.2.2.1,(o8.2.2.2.2.2.1,(IntKind.i64.wrap (o8.1.1+1))))))) else(some o8.2.2)) | .inr z9=>none) else none) | .inr z10=>none) else((t6b (x.2.1,x.1.2.1)).bind fun y11=>((u4c (x.2.2,(x.1,(x.2.1,((([] :List u0e.den),(([] :List u0a.den),(([] :List u0a.den),(0,0)))),((y1.1,(y1.2.1,(([] :List u0a.den),y1.2.2.2))),((y2.1,(2,(y2.2.2.1,(y2.2.2.2.1,(y2.2.2.2.2.1,(y2.2.2.2.2.2.1,(y11,x.2.2))))))),0))))))).bind fun r13=>match r13 with | .inl o14=>(bif (Nat.ble (o14.2.2.2.2.1.2.2.1.length+([o14.2.2.2.2.2] :List u0a.den).length) z7w) then((u3x (o14.1,(o14.2.1,(o14.2.2.1,(o14.2.2.2.1,((o14.2.2.2.2.1.1,(o14.2.2.2.2.1.2.1,((o14.2.2.2.2.1.2.2.1++([o14.2.2.2.2.2] :List u0a.den)),o14.2.2.2.2.1.2.2.2))),0)))))).bind fun r16=>match r16 with | .inl o17=>(bif (decide (o17.1.1≥o17.2.2.2.2.2.2)) then(some (o17.2.2.1,(o17.2.2.2.1,(o17.2.2.2.2.1,(o17.2.2.2.2.2.1,(IntKind.i64.wrap (o17.1.1+1))))))) else(some o17.2.2)) | .inr z18=>none) else none) | .inr z19=>none)))))
theorem r7c:u4h=s31:=zC 320 rfl Tryz.func320 (by kernel_rfl)
def t5s(x:Z81):Option Z92:=zK 321 x
def t1z(g:Z13→Option (Z31⊕Unit))(x:Z13):Option (Z31⊕Unit):=(bif (decide (x.2.2.2.2<(x.2.1.2.2.1.length:Int))) then(bif (y4q x.2.2.2.2 x.2.1.2.2.1.length) then(bif (!z7o (rdL u0a x.2.1.2.2.1 (x.2.2.2.2).toNat).2.2.2.2.2.2.2 x.1) then(bif (y4q x.2.2.2.2 x.2.1.2.2.1.length) then((u0w (rdL u0a x.2.1.2.2.1 (x.2.2.2.2).toNat)).bind fun y2=>(bif (Nat.ble (x.2.2.2.1.2.2.1.length+([y2] :List u0a.den).length) z7w) then(g (x.1,(x.2.1,(x.2.2.1,((x.2.2.2.1.1,(x.2.2.2.1.2.1,((x.2.2.2.1.2.2.1++([y2] :List u0a.den)),x.2.2.2.1.2.2.2))),(IntKind.i64.wrap (x.2.2.2.2+1))))))) else none)) else none) else(g (x.1,(x.2.1,(x.2.2.1,(x.2.2.2.1,(IntKind.i64.wrap (x.2.2.2.2+1)))))))) else none) else(some (.inl (x.2.2.1,x.2.2.2.1))))
def u71:=lpW _ _ t1z
theorem s5o x:u71 x=t1z u71 x:=zW s4r 321 Tryz.f321 4 38 x (by kernel_rfl)
def s9o (x:Z81):Option Z92:=((u13 x.1).bind fun y1=>((u71 (x.2,(x.1,((([] :List u0e.den),(([] :List u0a.den),(([] :List u0a.den),(0,0)))),((y1.1,(y1.2.1,(([] :List u0a.den),y1.2.2.2))),0))))).bind fun r3=>match r3 with | .inl o4=>(some o4.2) | .inr z5=>none))
theorem q1d:t5s=s9o:=zC 321 rfl Tryz.func321 (by kernel_rfl)
def s0z(x:Z16):Option Z84:=zK 201 x
def r0g (x:Z16):Option Z84:=(bif (decide (x.2.1=1)) then(bif (!decide (x.2.2.1.2.2.2.1=(IntKind.i64.wrap (x.1.2.2.2.1+1)))) then(some (x.1,false)) else((u4u (x.1,x.2.2.1)).bind fun y1=>(some (y1,true)))) else(bif (decide (x.2.1=2)) then(((bif (decide ((x.1.2.2.1.length:Int)≥(3:Int))) then(some true) else((u1u (x.1,x.2.2.1.2.2.2.2.2.2.2)).bind fun y2=>(some (decide (y2≥0))))):Option Bool).bind fun j3=>(bif j3 then(some (x.1,false)) else((u4h (x.1,(x.2.2.1,x.2.2.1.2.2.2.2.2.2.2))).bind fun y4=>(some (y4,true))))) else(bif (decide (x.2.1=3)) then((u1u (x.1,x.2.2.2.1)).bind fun y5=>(bif (decide (y5<0)) then(some (x.1,false)) else(bif x.2.2.2.2.1 then(bif (y4q y5 x.1.2.2.1.length) then((u4u (x.1,(rdL u0a x.1.2.2.1 (y5).toNat))).bind fun y6=>(some (y6,true))) else none) else((t5s (x.1,x.2.2.2.1)).bind fun y7=>(some (y7,true)))))) else((u13 x.2.2.2.2.2).bind fun y8=>(some (y8,true))))))
theorem q14:s0z=r0g:=zC 201 rfl Tryz.func201 (by kernel_rfl)
def t7j(x:Z16):Option Z84:=zK 73 x
def r2v (x:Z16):Option Z84:=((((u5v x.1).bind fun y1=>(bif (!y1) then(some true) else((t4c x.2).bind fun y2=>(some (!y2))))):Option Bool).bind fun j3=>(bif j3 then((u13 x.1).bind fun y4=>(some (y4,false))) else((s0z x).bind fun y5=>(bif (!y5.2) then((u13 x.1).bind fun y6=>(some (y6,false))) else((t0x (y5.1,([] :List u0a.den))).bind fun y7=>((u5v y7).bind fun y8=>(bif (!y8) then((u13 x.1).bind fun y9=>(some (y9,false))) else(some (y7,true)))))))))
theorem q4v:t7j=r2v:=zC 73 rfl Tryz.func73 (by kernel_rfl)
def u4y(x:q8x):Option r7q:=zK 417 x
def u64(g:o2s→Option (o22⊕r7q))(x:o2s):Option (o22⊕r7q):=(bif (decide (x.2.2≥0)) then(bif (y4q x.2.2 x.2.1.2.length) then(bif (decide ((rdL p14 x.2.1.2 (x.2.2).toNat).1=x.1)) then(bif (y4q x.2.2 x.2.1.2.length) then(some (.inr ((rdL p14 x.2.1.2 (x.2.2).toNat).2,true))) else none) else(g (x.1,(x.2.1,(IntKind.i64.wrap (x.2.2 - 1)))))) else none) else(some (.inl (x.1,x.2.1))))
def u69:=lpW _ _ u64
theorem t8z x:u69 x=u64 u69 x:=zW t73 417 Tryz.f417 4 41 x (by kernel_rfl)
def s1a (x:q8x):Option r7q:=((u0r (x.2,(0,(IntKind.i64.wrap ((x.1.1.length:Int) - (1:Int)))))).bind fun y1=>(bif (!y1) then(some ((⟨#[]⟩:ByteArray),false)) else((u69 (x.2,(x.1,(IntKind.i64.wrap ((x.1.2.length:Int) - (1:Int)))))).bind fun r2=>match r2 with | .inl o3=>(bif (y4q o3.1 o3.2.1.length) then(some ((rdL Ty.str o3.2.1 (o3.1).toNat),true)) else none) | .inr z4=>(some z4))))
theorem r42:u4y=s1a:=zC 417 rfl Tryz.func417 (by kernel_rfl)
def t42(x:p92):Option r7q:=zK 344 x
def u65(g:o2b→Option (ByteArray⊕r7q))(x:o2b):Option (ByteArray⊕r7q):=(bif (decide (x.2.2.2.2<x.2.1)) then(((bif (decide (x.1<0)) then(some true) else(some (decide (x.1 >(x.2.2.1.1.length:Int))))):Option Bool).bind fun j2=>(bif j2 then(some (.inr ((⟨#[]⟩:ByteArray),false))) else((u4y (x.2.2.1,(IntKind.i64.wrap (x.1+x.2.2.2.2)))).bind fun y3=>(bif (!y3.2) then(some (.inr ((⟨#[]⟩:ByteArray),false))) else(bif (decide (x.2.2.2.1.size+y3.1.size≤140737488355328)) then(g (x.1,(x.2.1,(x.2.2.1,((x.2.2.2.1++y3.1),(IntKind.i64.wrap (x.2.2.2.2+1))))))) else none))))) else(some (.inl x.2.2.2.1)))
def u7a:=lpW _ _ u65
theorem t80 x:u7a x=u65 u7a x:=zW t74 344 Tryz.f344 5 43 x (by kernel_rfl)
def s1c (x:p92):Option r7q:=((u0r (x.2.2,(0,100))).bind fun y1=>(bif (!y1) then(some ((⟨#[]⟩:ByteArray),false)) else((u7a (x.2.1,(x.2.2,(x.1,((⟨#[]⟩:ByteArray),0))))).bind fun r4=>match r4 with | .inl o5=>(some (o5,true)) | .inr z6=>(some z6))))
theorem r44:t42=s1c:=zC 344 rfl Tryz.func344 (by kernel_rfl)
def u5g(x:Int):Option Int:=zK 345 x
def s3y (x:Int):Option Int:=((u0r (x,(0,1))).bind fun y1=>(bif (!y1) then(some (0:Int)) else(some (IntKind.i64.wrap ((1:Int)+(IntKind.i64.wrap (x*48)))))))
theorem r69:u5g=s3y:=zC 345 rfl Tryz.func345 (by kernel_rfl)
def t1j(x:q8x):Option Int:=zK 347 x
def s99 (x:q8x):Option Int:=((u4y x).bind fun y1=>(((bif (!y1.2) then(some true) else(some (z7o y1.1 (⟨#[]⟩:ByteArray)))):Option Bool).bind fun j2=>(bif j2 then(some (0:Int)) else(bif (y4q (0:Int) y1.1.size) then(some (IntKind.i64.wrap ((y1.1.data.toList.getD ((0:Int)).toNat 0).toNat:Int))) else none))))
theorem q1x:t1j=s99:=zC 347 rfl Tryz.func347 (by kernel_rfl)
end
end Go.Proofs.YtbkicjpdlchbgaaGreat.Ab
