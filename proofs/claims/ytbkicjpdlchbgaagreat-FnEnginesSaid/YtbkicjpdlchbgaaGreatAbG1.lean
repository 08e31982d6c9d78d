import Derived.Test.YtbkicjpdlchbgaaGreatAbK2
import Derived.Test.YtbkicjpdlchbgaaGreatAbF4
import Derived.Test.YtbkicjpdlchbgaaGreatAbS1
import Derived.KernelRfl
import Derived.Test.YtbkicjpdlchbgaaGreatProg
namespace Go.Proofs.YtbkicjpdlchbgaaGreat.Ab
open Go
set_option linter.unusedVariables false
noncomputable section
abbrev o06:Ty:=(.pair .bool (.int .i64))
abbrev p6w:Ty:=(.pair .str o06)
abbrev u0g:Ty:=(.pair .str p6w)
abbrev r8w:Ty:=(.pair .str .str)
abbrev o09:Ty:=(.pair .str .bool)
abbrev u13:Ty:=(.pair .str o09)
abbrev o07:Ty:=(.pair .bool .str)
abbrev q7b:Ty:=(.pair (.sl u13) o07)
abbrev r4y:Ty:=(.pair (.sl r8w) q7b)
abbrev r0b:Ty:=(.pair (.int .i64) r4y)
abbrev s7a:Ty:=(.pair (.int .i64) r0b)
abbrev s4f:Ty:=(.pair (.int .i64) s7a)
abbrev u0a:Ty:=(.pair (.int .i64) s4f)
abbrev p0x:Ty:=(.pair (.int .i64) .str)
abbrev p9o:Ty:=(.pair (.int .i64) (.int .i64))
abbrev t5p:Ty:=(.pair (.sl u0a) p9o)
abbrev p1c:Ty:=(.pair (.sl u0a) t5p)
abbrev r50:Ty:=(.pair (.sl u0g) p1c)
abbrev q4c:Ty:=(.pair r50 (.sl u0a))
abbrev q8f:Ty:=(.pair (.sl .str) (.sl p0x))
abbrev p1a:Ty:=(.pair q4c q8f)
abbrev p08:Ty:=(.pair .bool r50)
abbrev p1d:Ty:=(.pair .str p08)
abbrev p1b:Ty:=(.pair u0a p1d)
abbrev p09:Ty:=(.pair (.int .i64) p1b)
abbrev o08:Ty:=(.pair (.int .i64) .bool)
abbrev p6x:Ty:=(.pair .str o08)
abbrev p5g:Ty:=(.pair (.sl (.int .u8)) p9o)
abbrev t7v:=((List ByteArray) × (List p0x.den))
abbrev p8i:=((ByteArray × ByteArray) × ByteArray)
abbrev o0u:=((List r8w.den) × (List u13.den))
abbrev o0t:=((List u13.den) × (List u13.den))
abbrev o0s:=(ByteArray × (ByteArray × (Int × Bool)))
abbrev p8h:=(ByteArray × ((List Int) × (Int × Int)))
abbrev p40:=((List u0g.den) × (ByteArray × Int))
abbrev o0r:=(ByteArray × (Int × (Int × (Int × Int))))
abbrev p6j:=(List (List u0a.den))
abbrev q38:=((List u0a.den) × Int)
abbrev p8g:=((List r8w.den) × (ByteArray × ByteArray))
abbrev o0q:=((List r8w.den) × ((List r8w.den) × Int))
abbrev o0p:=(Int × t7v)
abbrev q7c:=(t7v × Int)
abbrev p8f:=((List r8w.den) × ((List u13.den) × Int))
abbrev r2q:=(t7v × Bool)
abbrev o0o:=((ByteArray × (ByteArray × Bool)) × ByteArray)
abbrev o0n:=(((List Int) × (Int × Int)) × (List ByteArray))
abbrev o0m:=((List u13.den) × (ByteArray × (Int × Int)))
abbrev p8e:=((List u13.den) × ((List u13.den) × Int))
abbrev p89:=((List u0g.den) × (ByteArray × ByteArray))
abbrev o0l:=((List u13.den) × (Int × (List u13.den)))
abbrev o0k:=((List u0g.den) × ((List u13.den) × Int))
abbrev o0j:=(p6j × Int)
abbrev o0i:=(t7v × ByteArray)
abbrev p6i:=((List u0a.den) × (Int × Int))
abbrev o0h:=(Int × q7c)
abbrev p8d:=(t7v × (Int × Int))
abbrev o0g:=((List r8w.den) × ((List u13.den) × (Int × Int)))
abbrev o0f:=((ByteArray × ByteArray) × ((List Int) × (Int × Int)))
abbrev p8c:=((List u13.den) × (ByteArray × (ByteArray × Bool)))
abbrev p8b:=((List u13.den) × ((List u13.den) × (Int × Int)))
abbrev o0e:=((List u0g.den) × ((ByteArray × ByteArray) × Int))
abbrev o0d:=((List ByteArray) × ((List u0g.den) × (Int × Int)))
abbrev o0c:=((List u0a.den) × (ByteArray × Int))
abbrev o0b:=((List u0g.den) × (ByteArray × (Int × (Int × Int))))
abbrev o0a:=((List u13.den) × (Int × ((List u0g.den) × Int)))
abbrev p8a:=(t7v × (List ByteArray))
abbrev p99:=(ByteArray × (Int × ((List u0g.den) × (Int × Int))))
abbrev p4z:=(t7v × (Int × ByteArray))
abbrev p98:=(Int × ((List u0g.den) × ((List u0g.den) × Int)))
abbrev p79:=(Int × p6i)
abbrev p78:=((List u0g.den) × ((List u0g.den) × (Int × Int)))
abbrev p97:=((List r8w.den) × ((ByteArray × ByteArray) × (Int × Int)))
abbrev p96:=((List u0g.den) × (Int × ((List u0g.den) × Int)))
abbrev p26:=((List u0a.den) × (Int × (Int × Int)))
abbrev p61:=((ByteArray × (ByteArray × Bool)) × ((List u13.den) × Int))
abbrev p95:=((ByteArray × (ByteArray × Bool)) × ((List Int) × (Int × Int)))
abbrev p77:=((ByteArray × (Int × Bool)) × (List u0a.den))
abbrev p94:=((List u0a.den) × (ByteArray × (Int × Bool)))
abbrev p93:=(t7v × (Int × (Int × ByteArray)))
abbrev p88:=(Int × p78)
abbrev p92:=(Int × (Int × (t7v × (ByteArray × Int))))
abbrev p91:=(Int × ((List u0g.den) × ((List u0g.den) × (Int × (Int × Int)))))
abbrev p90:=((List u0g.den) × ((ByteArray × ByteArray) × ((List ByteArray) × Int)))
abbrev p9z:=((List u13.den) × ((ByteArray × (ByteArray × Bool)) × (List u13.den)))
abbrev p9y:=((List u0g.den) × (Int × ((List r8w.den) × ((List ByteArray) × Int))))
abbrev p9x:=((List u0g.den) × ((ByteArray × ByteArray) × (Int × (List ByteArray))))
abbrev p6h:=(t7v × t7v)
abbrev p9w:=((List u0a.den) × q38)
abbrev p76:=((List u13.den) × p61)
abbrev p9v:=((ByteArray × (ByteArray × (Bool × Int))) × (ByteArray × (ByteArray × (Bool × Int))))
abbrev p9u:=(t7v × r2q)
abbrev p9t:=((List u0g.den) × (ByteArray × (Int × (Int × ((List u0g.den) × (Int × Int))))))
abbrev p9s:=((ByteArray × (Int × Bool)) × p79)
abbrev p87:=((List u0a.den) × p6i)
abbrev p9r:=((List u0g.den) × p88)
abbrev p9q:=(Int × ((List u0g.den) × p78))
abbrev t19:=(Int × (Int × (Int × (Int × ((List r8w.den) × ((List u13.den) × (Bool × ByteArray)))))))
abbrev p9p:=(Int × (t7v × q7c))
abbrev Z99:=((List u0a.den) × (p6j × (Int × Int)))
abbrev Z98:=((List u0a.den) × p79)
abbrev Z97:=(t19 × Int)
abbrev Z96:=(t19 × Bool)
abbrev Z95:=(t19 × ByteArray)
abbrev Z94:=(t19 × (Int × Bool))
abbrev Z93:=((List u0g.den) × ((ByteArray × ByteArray) × ((List ByteArray) × (Int × (ByteArray × (List ByteArray))))))
abbrev Z92:=(p6j × (Int × (p6j × (Int × Int))))
abbrev Z91:=(t19 × (ByteArray × Int))
abbrev Z90:=((List u0g.den) × p87)
abbrev Z89:=(Int × (t7v × ((List ByteArray) × (ByteArray × ((List ByteArray) × (Int × Int))))))
abbrev Z88:=((List u0g.den) × ((ByteArray × ByteArray) × ((List ByteArray) × (Int × (ByteArray × ((List ByteArray) × Int))))))
abbrev Z87:=(t19 × (ByteArray × ByteArray))
abbrev Z86:=(Z90 × Int)
abbrev Z85:=((List ByteArray) × (t7v × (Int × (t7v × (Bool × Int)))))
abbrev Z84:=(Z90 × Bool)
abbrev Z83:=(t7v × (t7v × q7c))
abbrev Z82:=(t19 × ((List r8w.den) × (Int × Int)))
abbrev Z81:=(Z90 × ByteArray)
abbrev Z80:=(t19 × (ByteArray × (ByteArray × Bool)))
abbrev Z79:=((List u0g.den) × (ByteArray × t19))
abbrev Z78:=(Z90 × (List Int))
abbrev Z77:=(t19 × ((List u0g.den) × ByteArray))
abbrev Z76:=(t19 × (List u0a.den))
abbrev Z75:=(Z90 × (Int × Bool))
abbrev Z74:=((List u0a.den) × t19)
abbrev Z73:=((List u13.den) × (Int × ((List u0g.den) × (Int × ((ByteArray × (ByteArray × (Bool × Int))) × ((List u0g.den) × Int))))))
abbrev Z72:=(Z90 × (ByteArray × Int))
abbrev Z71:=(ByteArray × Z86)
abbrev Z70:=((List u0g.den) × (ByteArray × Z97))
abbrev Z69:=(Z90 × ((List Int) × Int))
abbrev Z68:=((List u0a.den) × Z97)
abbrev Z67:=(t19 × p89)
abbrev Z66:=(Z90 × ((List Int) × (Int × Int)))
abbrev Z65:=((List u0a.den) × (t19 × (Int × Int)))
abbrev Z64:=((List u0a.den) × (t19 × (Bool × Int)))
abbrev Z63:=(Z90 × ((List u0g.den) × (Int × Int)))
abbrev Z62:=(Z90 × (List u0a.den))
abbrev Z61:=(Int × (Int × (ByteArray × Z83)))
abbrev Z60:=(Z62 × Int)
abbrev Z59:=((List u0g.den) × (t19 × ((ByteArray × ByteArray) × (List ByteArray))))
abbrev Z58:=((List u0g.den) × (t19 × ((List r8w.den) × ((List ByteArray) × Int))))
abbrev Z57:=((List u0g.den) × (t19 × ((ByteArray × ByteArray) × (List u0g.den))))
abbrev Z56:=(Z90 × p6i)
abbrev Z55:=(Z62 × (Int × Int))
abbrev Z54:=(Int × Z60)
abbrev Z53:=((List u0g.den) × (t19 × ((ByteArray × ByteArray) × ((List u0g.den) × Int))))
abbrev Z52:=(Z62 × (Int × ByteArray))
abbrev Z51:=(Z62 × (ByteArray × Bool))
abbrev Z50:=(Z62 × ((List r8w.den) × Int))
abbrev Z49:=(Z62 × ((List Int) × (Int × Int)))
abbrev Z48:=(Z62 × (ByteArray × (Bool × Int)))
abbrev Z47:=(t19 × t19)
abbrev Z46:=(Z62 × (Int × (ByteArray × ByteArray)))
abbrev Z45:=(Z62 × (List u0a.den))
abbrev Z44:=(Z62 × t7v)
abbrev Z43:=(Z62 × (Int × ((ByteArray × ByteArray) × Bool)))
abbrev Z42:=(Z62 × (Int × (ByteArray × (ByteArray × Bool))))
abbrev Z41:=((List u0g.den) × (t19 × ((ByteArray × ByteArray) × ((List r8w.den) × ((List ByteArray) × (Int × Int))))))
abbrev Z40:=((List u0g.den) × (t19 × ((ByteArray × ByteArray) × ((List ByteArray) × ((List u13.den) × (Int × Int))))))
abbrev Z39:=(Int × Z44)
abbrev Z38:=(Z44 × Int)
abbrev Z37:=(Bool × Z44)
abbrev Z36:=(Z44 × Bool)
abbrev Z35:=(Z62 × (Int × q38))
abbrev Z34:=(Z62 × p6i)
abbrev Z33:=(Z90 × t19)
abbrev Z32:=(Z44 × (Int × ByteArray))
abbrev Z31:=(Z44 × (ByteArray × Bool))
abbrev Z30:=(t19 × ((ByteArray × (Int × Bool)) × t19))
abbrev Z29:=(Z90 × Z95)
abbrev Z28:=(Z44 × ((List Int) × (Int × Int)))
abbrev Z27:=(((List Int) × (Int × Int)) × Z44)
abbrev Z26:=(Z90 × Z90)
abbrev Z25:=(t19 × ((ByteArray × (Int × Bool)) × (t19 × (Int × Int))))
abbrev Z24:=(Int × (t19 × (ByteArray × (Bool × Z90))))
abbrev Z23:=((List u0a.den) × (t19 × (Int × Z97)))
abbrev Z22:=(Z24 × Bool)
abbrev Z21:=((List u0a.den) × (t19 × (Bool × (Int × Z97))))
abbrev Z20:=(Z62 × (Int × t19))
abbrev Z19:=(Z90 × (Z90 × ((List ByteArray) × Int)))
abbrev Z18:=(Z90 × ((ByteArray × (Int × Bool)) × Z90))
abbrev Z17:=(Z62 × (Int × Z97))
abbrev Z16:=(Z90 × ((ByteArray × (Int × Bool)) × (Z90 × (Int × Int))))
abbrev Z15:=(t19 × ((ByteArray × ByteArray) × Z47))
abbrev Z14:=(t19 × ((ByteArray × ByteArray) × (t19 × Z97)))
abbrev Z13:=(t19 × Z26)
abbrev Z12:=(Z90 × Z24)
abbrev Z11:=(Z90 × (Z90 × Z86))
abbrev Z10:=(Z90 × (Z90 × (Z90 × (Int × Int))))
abbrev Z9:=(ByteArray × Z11)
abbrev Z8:=(Z62 × (Z24 × Int))
abbrev Z7:=(((List Int) × (Int × Int)) × (Z44 × Z44))
abbrev Z6:=(Z44 × Z24)
abbrev Z5:=(((List Int) × (Int × Int)) × (Int × (Z44 × Z38)))
abbrev Z4:=(ByteArray × (Z90 × (t19 × (Z90 × Z86))))
abbrev Z3:=(Z90 × (t19 × (Z90 × (Z90 × Z97))))
abbrev Z2:=(ByteArray × (Z90 × (t19 × (Z90 × Z33))))
abbrev Z1:=(ByteArray × Z3)
def o0z:Tabs where
  ty:= [(3,(.int .i64)),(4, .bool),(5,(.int .u8)),(9, .str),(22,(.sl (.int .u8))),(24,(.sl u0g)),(25,(.sl u0a)),(27,r50),(29,q4c),(30,(.sl .str)),(31,(.sl p0x)),(33,q8f),(35,p1a),(51,u13),(58,(.sl (.int .i64))),(85,(.sl r8w)),(86,(.sl u13)),(88,u0a),(90,p09),(97,(.sl r8w)),(100,r8w),(155,u0g),(167,r8w),(210,p6x),(217,(.sl (.sl u0a))),(244,p5g),(275,(.int .u32)),(307,p0x)]
  lay:= [(3,1,false),(4,1,false),(5,1,false),(9,1,false),(22,1,false),(24,1,false),(25,1,false),(27,5,true),(29,6,true),(30,1,false),(31,1,false),(33,2,true),(35,8,true),(51,3,true),(85,1,false),(86,1,false),(88,8,true),(90,16,true),(100,2,true),(155,4,true),(167,2,true)]
  fld:= [(27, [(0,1,false),(1,1,false),(2,1,false),(3,1,false),(4,1,false)]),(29, [(0,5,true),(5,1,false)]),(33, [(0,1,false),(1,1,false)]),(35, [(0,6,true),(6,2,true)]),(51, [(0,1,false),(1,1,false),(2,1,false)]),(88, [(0,1,false),(1,1,false),(2,1,false),(3,1,false),(4,1,false),(5,1,false),(6,1,false),(7,1,false)]),(90, [(0,1,false),(1,8,true),(9,1,false),(10,1,false),(11,5,true)]),(100, [(0,1,false),(1,1,false)]),(155, [(0,1,false),(1,1,false),(2,1,false),(3,1,false)]),(167, [(0,1,false),(1,1,false)]),(210, [(0,1,false),(1,1,false),(2,1,false)]),(244, [(0,1,false),(1,1,false),(2,1,false)]),(307, [(0,1,false),(1,1,false)])]
  eqs:= [(100, [.s, .s]),(167, [.s, .s])]
abbrev zL (a:List Nat) (s:Sh) (n:Nat) (b:List Nat) (t:Sh) (c:List Nat) (u:Sh):LoopA:=⟨⟨a,s, []⟩,n,⟨b,t, []⟩,⟨c,u, []⟩⟩
def zS (i o:Sh) (n:Nat:=1) (b:List Bool:= []):Sig:=⟨i,b,o,n⟩
abbrev p7u:Ty:=.int .u8
abbrev o1k:Ty:=.sl u0a
abbrev p7v:Ty:=.int .i64
abbrev u1e:Sh:=.int .i64
abbrev r2l:Sh:=.tr false u0a
abbrev q0m:Sh:=.own true u0a
abbrev s4i:Sh:=.tr false u0g
abbrev s69:Sh:=.pair u1e u1e
abbrev q6p:Sh:=.pair .str .bool
abbrev r8m:Sh:=.tr false u13
abbrev p9h:Sh:=.pair .str .str
abbrev p0s:Sh:=.own true u0g
abbrev p7w:Sh:=.pair p0s (.pair q0m (.pair q0m s69))
abbrev p6d:Sh:=.pair p7w q0m
abbrev r8q:Sh:=.own true .str
abbrev p6c:Sh:=.pair r8q (.own true p0x)
abbrev q9b:Sh:=.box (.pair p6d p6c)
abbrev p03:Sh:=.pair (.agg p6c) .bool
abbrev q9c:Sh:=.pair .str u1e
abbrev q36:Sh:=.box p7w
abbrev p9j:Sh:=.pair .str q6p
abbrev p0t:Sh:=.tr false r8w
abbrev p6r:Sh:=.pair u1e (.pair u1e (.pair u1e (.pair u1e (.pair p0t (.pair r8m (.pair .bool .str))))))
abbrev r2m:Sh:=.box p6r
abbrev r2n:Sh:=.agg p6r
abbrev p8r:Sh:=.pair r2m u1e
abbrev p04:Sh:=.own true r8w
abbrev q9d:Sh:=.agg p6d
abbrev q6r:Sh:=.agg p9h
abbrev p0u:Sh:=.box p6c
abbrev p6s:Sh:=.pair u1e .str
abbrev p8s:Sh:=.own false u0a
abbrev p0w:Sh:=.rbox u1e
abbrev p5a:Sh:=.tr true u0g
abbrev p4w:Sh:=.own true u13
abbrev p6b:Sh:=.pair u1e (.pair u1e (.pair u1e (.pair u1e (.pair p04 (.pair p4w (.pair .bool .str))))))
abbrev p9i:Sh:=.pair q9d (.pair (.agg (.pair u1e (.pair p6b (.pair .str (.pair .bool p7w))))) u1e)
abbrev p8q:Sh:=.pair (.box p9j) (.pair p4w u1e)
abbrev p0v:Sh:=.box p6b
abbrev p5b:Sh:=.pair u1e .bool
abbrev q6v:Sh:=.box (.pair .str p5b)
abbrev p8t:Sh:=.pair .bool u1e
abbrev p5c:Sh:=.pair r2l s69
abbrev p6a:Sh:=.pair s4i (.pair r2l p5c)
abbrev q6w:Sh:=.agg (.pair p6a r2l)
abbrev p7x:Sh:=.agg (.pair u1e (.pair p6r (.pair .str (.pair .bool p6a))))
abbrev r8n:Sh:=.box p6a
abbrev q6x:Sh:=.agg p6a
abbrev p6e:Sh:=.box (.pair p6a r2l)
abbrev p6f:Sh:=.pair q6w u1e
abbrev p24:Sh:=.agg p7w
abbrev p05:Sh:=.box p9h
abbrev o02:Sh:=.pair s4i (.pair p05 (.pair (.tr true .str) (.pair u1e (.pair .str (.pair r8q u1e)))))
abbrev p6t:Sh:=.pair r8m u1e
abbrev p6u:Sh:=.pair s4i s69
abbrev p9k:Sh:=.pair r2l (.clo 289 (.rbox p6r))
abbrev p29:Sh:=.agg p9j
abbrev p8u:Sh:=.pair (.agg p6b) .bool
abbrev p6g:Sh:=.tr false p7u
abbrev r8l:Sh:=.box (.pair p6g s69)
abbrev p8v:Sh:=.agg (.pair p6d p6c)
abbrev p7y:Sh:=.pair u1e s69
abbrev p7z:Sh:=.pair q9d u1e
abbrev p70:Sh:=.pair r2n r2l
abbrev p9l:Sh:=.pair p0u (.pair p0u u1e)
abbrev p9m:Sh:=.pair q36 (.pair q36 u1e)
abbrev p71:Sh:=.pair r2l p8r
abbrev p5d:Sh:=.int .u32
abbrev p72:Sh:=.tr false o1k
abbrev p9n:Sh:=.pair (.tr true .str) u1e
abbrev p8w:Sh:=.pair s4i q9c
abbrev p8x:Sh:=.pair q6x r2l
abbrev p73:Sh:=.pair .str p8t
abbrev p80:Sh:=.pair q0m u1e
abbrev p81:Sh:=.pair u1e p8r
abbrev o03:Sh:=.pair p0v (.pair q6v (.pair p0v s69))
abbrev p74:Sh:=.pair p0s u1e
abbrev o01:Sh:=.pair r8m (.pair u1e (.pair p5a (.pair u1e (.pair (.box (.pair .str p73)) p74))))
abbrev p82:Sh:=.pair r8m s69
abbrev p83:Sh:=.pair q36 q36
abbrev o04:Sh:=.pair r8n (.pair (.own true p7v) u1e)
abbrev o05:Sh:=.pair r8n (.pair (.tr true p7v) u1e)
abbrev p75:Sh:=.tr false .str
abbrev p8p:Sh:=.pair p75 (.tr false p0x)
abbrev q6q:Sh:=.agg p8p
abbrev p4x:Sh:=.box p8p
abbrev p8y:Sh:=.pair q6q u1e
abbrev p8z:Sh:=.pair q6q p6s
def p50:Nat→Sig
  | 15=>zS p6g .bool
  | 113=>zS p8w u1e
  | 27=>zS p8w q6p 2
  | 106=>zS r2n (.agg p6b)
  | 241=>zS r2l q0m
  | 104=>zS q6x p24
  | 108=>zS q6w q9d
  | 188=>zS p7y .bool
  | 191=>zS .str .bool
  | 110=>zS p29 .bool
  | 243=>zS r8m .bool
  | 316=>zS q6r .bool
  | 189=>zS r2n .bool
  | 197=>zS s4i .bool
  | 69=>zS q6x .bool
  | 109=>zS q6w .bool
  | 24=>zS q6w (.pair q9d s69) 3
  | 95=>zS p6g r8l
  | 270=>zS r8l (.pair u1e r8l) 1 [true]
  | 140=>zS (.pair r8l u1e) (.pair u1e r8l) 1 [true,false]
  | 223=>zS .unit p24
  | 348=>zS .unit q9d
  | 330=>zS .unit u1e
  | 394=>zS (.pair u1e (.int .u8)) .str
  | 464=>zS .unit .str
  | 418=>zS u1e p03 2
  | 349=>zS .unit (.agg p6c)
  | 230=>zS .unit p8v
  | 49=>zS p6f u1e
  | 242=>zS (.pair r8m p29) p4w
  | 111=>zS (.pair r2n p29) p8u 2
  | 25=>zS (.pair q6w (.pair u1e p29)) p7z 2
  | 337=>zS q6q (.agg p6c)
  | 225=>zS (.agg (.pair (.pair p6a r2l) p8p)) p8v
  | 313=>zS u1e .str
  | 315=>zS q9c (.pair u1e p5b) 3
  | 310=>zS q9c (.pair .str p5b) 3
  | 180=>zS q6v (.pair .str q6v) 1 [true]
  | 181=>zS q6v (.pair .bool q6v) 1 [true]
  | 186=>zS q6v (.pair u1e q6v) 1 [true]
  | 182=>zS q9c (.pair (.agg p6b) p5b) 3
  | 187=>zS (.pair q6v u1e) (.pair q0m q6v) 1 [true,false]
  | 65=>zS q9c (.pair p24 p5b) 3
  | 190=>zS r2n .bool
  | 192=>zS q6x .bool
  | 66=>zS p7x .bool
  | 307=>zS p5d .str
  | 392=>zS (.pair p5d .str) p5d
  | 308=>zS .str p5d
  | 178=>zS .str q6p 2
  | 304=>zS .str .str
  | 305=>zS .bool .str
  | 306=>zS r2n q6p 2
  | 314=>zS r2l .str
  | 185=>zS q6x q6p 2
  | 176=>zS p7x q6p 2
  | 177=>zS .str q6p 2
  | 60=>zS .str (.pair (.agg (.pair u1e (.pair p6b (.pair .str (.pair .bool p7w))))) .bool) 2
  | 105=>zS p8x u1e
  | 107=>zS (.pair s4i u1e) p0s
  | 21=>zS p8x p24
  | 287=>zS (.pair r2n r2n) .bool
  | 281=>zS (.pair q6r .str) .bool
  | 288=>zS (.pair p0t r8m) .bool
  | 162=>zS (.pair r2n r2n) .bool
  | 161=>zS p70 .bool
  | 379=>zS (.pair s4i p6t) p0s
  | 318=>zS (.pair q6x r2n) p24
  | 319=>zS (.pair q6x .str) u1e
  | 320=>zS (.pair q6x (.pair r2n .str)) p24
  | 321=>zS (.pair q6x .str) p24
  | 201=>zS (.pair q6x p7x) (.pair q6x .bool) 2
  | 73=>zS (.pair q6x p7x) (.pair p24 .bool) 2
  | 417=>zS p8y q6p 2
  | 344=>zS (.pair q6q s69) q6p 2
  | 345=>zS u1e u1e
  | 347=>zS p8y u1e
  | 346=>zS p8y u1e
  | 227=>zS p8y (.pair r8q p5b) 3
  | 228=>zS q6q u1e
  | 91=>zS q6q r8q
  | 88=>zS q6q (.pair p24 .bool) 2
  | 329=>zS q6q .bool
  | 212=>zS q6q .bool
  | 413=>zS q6q (.agg p6c)
  | 414=>zS p8z p03 2
  | 411=>zS (.pair q6q (.pair u1e p6s)) p03 2
  | 412=>zS u1e .str
  | 432=>zS (.pair q6q s69) p03 2
  | 430=>zS p8z p03 2
  | 463=>zS p8z p03 2
  | 415=>zS (.pair q6q p75) p03 2
  | 416=>zS q6q p03 2
  | 343=>zS (.pair q6q p75) p03 2
  | 226=>zS q6q p03 2
  | 90=>zS (.agg (.pair (.pair p6a r2l) p8p)) (.pair p8v .bool) 2
  | 245=>zS (.pair r8l p75) (.pair .str r8l) 1 [true,false]
  | 247=>zS (.pair r8l u1e) (.pair .bool r8l) 1 [true,false]
  | 351=>zS r8l (.pair .str r8l) 1 [true]
  | 322=>zS r8l (.pair p29 r8l) 1 [true]
  | 419=>zS (.pair r2n q6r) p8u 2
  | 420=>zS (.pair r2n (.pair s4i .str)) q6p 2
  | 350=>zS (.pair q6w p6s) (.pair q9d p73) 4
  | 153=>zS (.pair s4i q6r) r8q
  | 421=>zS (.pair r2n (.pair s4i q6r)) p04
  | 352=>zS (.pair q6w (.pair u1e q6r)) (.pair q9d (.pair p04 u1e)) 3
  | 353=>zS r8l (.pair q6r r8l) 1 [true]
  | 424=>zS (.pair (.box p6d) u1e) (.box p6d) 0 [true,false]
  | 159=>zS (.pair r8m r8m) .bool
  | 53=>zS p70 .bool
  | 160=>zS p70 .bool
  | 54=>zS p70 .bool
  | 406=>zS q6x .bool
  | 467=>zS q6x p8s
  | 465=>zS p6f u1e
  | 422=>zS p6f p9i 3
  | 469=>zS p8z p03 2
  | 429=>zS (.pair q6q .str) p03 2
  | 423=>zS (.pair q9b p7x) (.pair .bool q9b) 1 [true,false]
  | 354=>zS (.pair q9b u1e) (.pair u1e q9b) 1 [true,false]
  | 466=>zS p70 .bool
  | 425=>zS (.pair q6w p6s) p9i 3
  | 355=>zS (.pair q9b p6s) (.pair u1e q9b) 1 [true,false,false]
  | 339=>zS (.pair q6w q6p) p9i 3
  | 356=>zS (.pair q9b q6p) (.pair u1e q9b) 1 [true,false,false]
  | 357=>zS p6f p7z 2
  | 231=>zS (.pair r8l q9b) (.pair r8l q9b) 0 [true,true]
  | 94=>zS (.pair r8l u1e) (.pair p8v r8l) 1 [true,false]
  | 139=>zS r8l (.pair q9d r8l) 1 [true]
  | 40=>zS p6g p7z 2
  | 45=>zS (.pair p0t p0t) .bool
  | 46=>zS (.pair s4i (.pair q6r u1e)) p04
  | 47=>zS .unit q6r
  | 156=>zS (.pair r2n p0w) .bool
  | 10004=>zS (.pair r2l (.clo 156 p0w)) u1e
  | 50=>zS p6f u1e
  | 125=>zS r2n .bool
  | 289=>zS (.pair r2n (.rbox p6r)) .bool
  | 10002=>zS p9k u1e
  | 10001=>zS p9k .bool
  | 10000=>zS p9k .bool
  | 163=>zS (.pair r2l u1e) .bool
  | 290=>zS (.pair .nil u1e) q0m
  | 164=>zS p72 p8s
  | 205=>zS p7y .bool
  | 142=>zS .str .bool
  | 208=>zS q6r .bool
  | 157=>zS p29 .bool
  | 291=>zS r8m .bool
  | 165=>zS r2n .bool
  | 195=>zS r2n .bool
  | 433=>zS .str .bool
  | 372=>zS p9h u1e
  | 434=>zS u1e .bool
  | 373=>zS s69 u1e
  | 256=>zS (.pair (.agg (.pair .str p73)) (.agg (.pair .str p73))) u1e
  | 204=>zS s4i .bool
  | 76=>zS q6x .bool
  | 55=>zS q6w .bool
  | 147=>zS r2n (.agg p6b)
  | 271=>zS r2l q0m
  | 200=>zS q6x p24
  | 141=>zS q6w q9d
  | 51=>zS q6w (.pair q9d s69) 3
  | 387=>zS (.pair p4w (.pair u1e p4w)) p4w
  | 286=>zS (.pair r8m p29) p4w
  | 158=>zS (.pair r2n p29) p8u 2
  | 52=>zS (.pair q6w (.pair u1e p29)) p7z 2
  | 235=>zS p8x u1e
  | 363=>zS p8w u1e
  | 364=>zS (.pair .str (.rbox s4i)) u1e
  | 238=>zS (.pair s4i u1e) p0s
  | 237=>zS (.pair r2n p0w) .bool
  | 10006=>zS (.pair r2l (.clo 237 p0w)) u1e
  | 10005=>zS (.pair q0m (.clo 237 p0w)) q0m
  | 100=>zS p8x p24
  | 277=>zS (.pair r2n p0w) .bool
  | 10008=>zS (.pair r2l (.clo 277 p0w)) u1e
  | 10007=>zS (.pair q0m (.clo 277 p0w)) q0m
  | 145=>zS p6f q9d
  | 77=>zS p6f p7z 2
  | 446=>zS (.pair p0t q6r) u1e
  | 395=>zS (.pair p0t q6r) .bool
  | 323=>zS (.pair r2n q6r) p8u 2
  | 206=>zS (.pair q6w (.pair u1e (.pair q6r .bool))) (.pair q9d s69) 3
  | 260=>zS p8w q6p 2
  | 397=>zS (.pair p29 (.rbox .str)) .bool
  | 10003=>zS (.pair r8m (.clo 397 (.rbox .str))) u1e
  | 324=>zS (.pair r2n .str) u1e
  | 207=>zS (.pair r2n (.pair s4i .str)) q6p 2
  | 78=>zS (.pair q6w p6s) (.pair q9d p73) 4
  | 258=>zS (.pair q6r .str) .bool
  | 325=>zS r8q r8q 0 [true]
  | 326=>zS r8q r8q
  | 259=>zS s4i r8q
  | 209=>zS (.pair r2n (.pair s4i q6r)) p04
  | 79=>zS (.pair q6w (.pair u1e q6r)) (.pair q9d (.pair p04 u1e)) 3
  | 10=>zS p6g .bool
  | _=>zS .unit .unit 0
def p69:Nat→Nat→Option Join
  | 113,11=>some ⟨[47],.bool,[]⟩
  | 27,5=>some ⟨[21],.bool,[]⟩
  | 188,3=>some ⟨[6],.bool,[]⟩
  | 191,9=>some ⟨[19],.bool,[]⟩
  | 110,3=>some ⟨[2],.bool,[]⟩
  | 243,9=>some ⟨[33],.bool,[]⟩
  | 316,3=>some ⟨[2],.bool,[]⟩
  | 189,3=>some ⟨[31],.bool,[]⟩
  | 189,17=>some ⟨[67],.bool,[]⟩
  | 189,21=>some ⟨[86],.bool,[]⟩
  | 189,25=>some ⟨[2],.bool,[]⟩
  | 197,11=>some ⟨[39],.bool,[]⟩
  | 197,15=>some ⟨[74],.bool,[]⟩
  | 69,3=>some ⟨[38],.bool,[]⟩
  | 69,27=>some ⟨[98],.bool,[]⟩
  | 69,41=>some ⟨[146],.bool,[]⟩
  | 109,3=>some ⟨[16],.bool,[]⟩
  | 109,15=>some ⟨[68],.bool,[]⟩
  | 24,5=>some ⟨[23],.bool,[]⟩
  | 95,7=>some ⟨[15],.bool,[]⟩
  | 111,5=>some ⟨[21],.bool,[]⟩
  | 315,13=>some ⟨[25],.bool,[]⟩
  | 315,23=>some ⟨[54],.bool,[]⟩
  | 310,5=>some ⟨[30],.bool,[]⟩
  | 180,5=>some ⟨[26],.bool,[]⟩
  | 181,3=>some ⟨[30],.bool,[]⟩
  | 186,5=>some ⟨[26],.bool,[]⟩
  | 182,17=>some ⟨[46],.bool,[]⟩
  | 182,31=>some ⟨[76],.bool,[]⟩
  | 182,47=>some ⟨[108],.bool,[]⟩
  | 187,9=>some ⟨[28],.bool,[]⟩
  | 65,13=>some ⟨[37],.bool,[]⟩
  | 65,31=>some ⟨[72],.bool,[]⟩
  | 190,3=>some ⟨[2],.bool,[]⟩
  | 192,3=>some ⟨[2],.bool,[]⟩
  | 66,7=>some ⟨[3],.bool,[]⟩
  | 66,9=>some ⟨[54],.bool,[]⟩
  | 66,13=>some ⟨[77],.bool,[]⟩
  | 177,5=>some ⟨[24],.bool,[]⟩
  | 60,5=>some ⟨[20],.bool,[]⟩
  | 60,29=>some ⟨[66],.bool,[]⟩
  | 107,13=>some ⟨[38],.bool,[]⟩
  | 107,37=>some ⟨[90],.bool,[]⟩
  | 287,7=>some ⟨[31],.bool,[]⟩
  | 281,3=>some ⟨[4],.bool,[]⟩
  | 162,3=>some ⟨[4],.bool,[]⟩
  | 161,9=>some ⟨[25],.bool,[]⟩
  | 379,17=>some ⟨[72],.bool,[]⟩
  | 201,15=>some ⟨[36],.bool,[]⟩
  | 73,3=>some ⟨[16],.bool,[]⟩
  | 344,15=>some ⟨[28],.bool,[]⟩
  | 347,5=>some ⟨[18],.bool,[]⟩
  | 227,27=>some ⟨[52],.bool,[]⟩
  | 88,17=>some ⟨[39],.bool,[]⟩
  | 329,3=>some ⟨[15],.bool,[]⟩
  | 329,23=>some ⟨[58],.bool,[]⟩
  | 212,3=>some ⟨[24],.bool,[]⟩
  | 212,11=>some ⟨[2],.bool,[]⟩
  | 414,5=>some ⟨[33],.bool,[]⟩
  | 411,5=>some ⟨[37],.bool,[]⟩
  | 411,25=>some ⟨[77],.bool,[]⟩
  | 430,5=>some ⟨[35],.bool,[]⟩
  | 415,11=>some ⟨[27],.bool,[]⟩
  | 226,7=>some ⟨[24],.bool,[]⟩
  | 419,5=>some ⟨[22],.bool,[]⟩
  | 53,11=>some ⟨[45],.bool,[]⟩
  | 160,9=>some ⟨[33],.bool,[]⟩
  | 54,3=>some ⟨[16],.bool,[]⟩
  | 54,15=>some ⟨[43],.bool,[]⟩
  | 54,19=>some ⟨[56],.bool,[]⟩
  | 54,25=>some ⟨[70],.bool,[]⟩
  | 54,31=>some ⟨[91],.bool,[]⟩
  | 406,3=>some ⟨[2],.bool,[]⟩
  | 469,3=>some ⟨[17],.bool,[]⟩
  | 466,17=>some ⟨[33],.bool,[]⟩
  | 466,29=>some ⟨[64],.bool,[]⟩
  | 425,21=>some ⟨[52],.bool,[]⟩
  | 425,25=>some ⟨[61],.bool,[]⟩
  | 339,11=>some ⟨[26],.bool,[]⟩
  | 231,15=>some ⟨[54],.bool,[]⟩
  | 205,3=>some ⟨[6],.bool,[]⟩
  | 142,9=>some ⟨[19],.bool,[]⟩
  | 208,3=>some ⟨[2],.bool,[]⟩
  | 157,3=>some ⟨[2],.bool,[]⟩
  | 291,9=>some ⟨[29],.bool,[]⟩
  | 165,15=>some ⟨[52],.bool,[]⟩
  | 165,19=>some ⟨[74],.bool,[]⟩
  | 165,23=>some ⟨[2],.bool,[]⟩
  | 204,9=>some ⟨[50],.bool,[]⟩
  | 76,3=>some ⟨[36],.bool,[]⟩
  | 76,25=>some ⟨[88],.bool,[]⟩
  | 76,37=>some ⟨[128],.bool,[]⟩
  | 55,13=>some ⟨[71],.bool,[]⟩
  | 51,5=>some ⟨[23],.bool,[]⟩
  | 286,7=>some ⟨[22],.bool,[]⟩
  | 286,11=>some ⟨[38],.bool,[]⟩
  | 158,5=>some ⟨[21],.bool,[]⟩
  | 363,11=>some ⟨[40],.bool,[]⟩
  | 238,11=>some ⟨[31],.bool,[]⟩
  | 323,5=>some ⟨[21],.bool,[]⟩
  | 260,5=>some ⟨[21],.bool,[]⟩
  | 258,3=>some ⟨[4],.bool,[]⟩
  | 209,27=>some ⟨[51],.bool,[]⟩
  | 10,13=>some ⟨[65],.bool,[]⟩
  | 10,27=>some ⟨[2],.bool,[]⟩
  | _,_=>none
abbrev s88:=zL [0,1,2,7,8] (.pair s4i (.pair .str p7y)) 0 [7] u1e [] .unit
abbrev s3j:=zL [0,3,4] (.pair r2l p80) 0 [3] q0m [] .unit
abbrev s83:=zL [0,3] q9c 0 [0] .str [2] .bool
abbrev s0l:=zL [0,3] p6t 0 [0] r8m [2] .bool
abbrev s87:=zL [1,3] p8r 0 [1] r2m [2] .bool
abbrev t61:=zL [0,3] (.pair s4i u1e) 0 [0] s4i [2] .bool
abbrev s5x:=zL [1,3] (.pair r8n u1e) 0 [1] r8n [2] .bool
abbrev s2v:=zL [1,4,5] o04 2 [1,4] (.pair r8n (.own true p7v)) [2] .bool
abbrev s2w:=zL [1,4,7] o04 4 [1,4] (.pair r8n (.tr true p7v)) [2] .bool
abbrev s2x:=zL [1,4,9] o05 6 [] .unit [2] .bool
abbrev s2y:=zL [1,4,9,10] (.pair r8n (.pair (.tr true p7v) s69)) 8 [1,4,9] o05 [2] .bool
abbrev s0b:=zL [1,3] (.pair p6e u1e) 0 [] .unit [2] .bool
abbrev t79:=zL [1,3,4,5] (.pair p6e p81) 2 [1,3,4] (.pair p6e (.pair u1e r2m)) [2] .bool
abbrev t8a:=zL [1,3,4,6] (.pair p6e p81) 4 [1,3] (.pair p6e u1e) [2] .bool
abbrev s55:=zL [0,3,4] (.pair p6g s69) 0 [0,3] (.pair p6g u1e) [] .unit
abbrev s3f:=zL [0,1,5,6] (.pair u1e (.pair (.int .u8) (.pair (.own true p7u) u1e))) 0 [5] (.tr true p7u) [] .unit
abbrev s21:=zL [0,2,4,5] (.pair u1e p9l) 0 [2,4] (.pair p0u p0u) [] .unit
abbrev s51:=zL [1,2,5] (.pair u1e (.pair p6e u1e)) 0 [] .unit [4] u1e
abbrev s0d:=zL [0,3,5,6] (.pair r8m p8q) 0 [0,3,5] (.pair r8m (.pair (.box p9j) p4w)) [] .unit
abbrev s0e:=zL [0,3,5,7] (.pair r8m p8q) 2 [5] p4w [] .unit
abbrev s56:=zL [0,3] (.pair u1e (.own true p7u)) 0 [0,3] (.pair u1e (.own true p7u)) [] .unit
abbrev s27:=zL [0,1,7,8,9] (.pair .str (.pair u1e p7y)) 0 [] .unit [4,5,6] (.pair u1e p5b)
abbrev s26:=zL [4,7,8,9,10] o03 0 [4,7,8] (.pair p0v (.pair q6v p0v)) [] .unit
abbrev s0g:=zL [4,7,8,12,13] o03 2 [4,7,8] (.pair p0v (.pair q6v p0v)) [] .unit
abbrev t58:=zL [0,1,5,6,7] (.pair q6v (.pair u1e (.pair q0m s69))) 0 [0,5] (.pair q6v q0m) [0,4] (.pair q6v q0m)
abbrev s0f:=zL [4,7,8,9,10] (.pair q36 (.pair q6v (.pair q36 s69))) 0 [4,7,8] (.pair q36 (.pair q6v q36)) [] .unit
abbrev s29:=zL [0,1,5] (.pair p5d q9c) 0 [0] p5d [] .unit
abbrev s3a:=zL [0,1,5,6] (.pair p5d (.pair .str s69)) 2 [0,1,5] (.pair p5d q9c) [] .unit
abbrev s3e:=zL [1,4,5] (.pair r2m q9c) 0 [1,4] (.pair r2m .str) [] .unit
abbrev s0k:=zL [1,4,6] (.pair r2m q9c) 2 [1,4] (.pair r2m .str) [] .unit
abbrev s3k:=zL [0,3,4] (.pair r2l q9c) 0 [3] .str [] .unit
abbrev s0a:=zL [1,4,5] (.pair r8n q9c) 0 [1,4] (.pair r8n .str) [] .unit
abbrev s0c:=zL [1,5,6] p5c 0 [5] u1e [] .unit
abbrev s3d:=zL [0,1,5,6] (.pair s4i (.pair u1e p74)) 0 [1,5] (.pair u1e p5a) [] .unit
abbrev s0i:=zL [1,5,8,9] (.pair u1e (.pair p5a p74)) 2 [8] p0s [] .unit
abbrev s0j:=zL [1,5,8,9,10,11] (.pair u1e (.pair p5a (.pair p0s p7y))) 4 [1,5,8,9,10] (.pair u1e (.pair p5a (.pair p0s s69))) [] .unit
abbrev s54:=zL [2,4,5,6,7] (.pair r8n (.pair q36 (.pair q36 s69))) 0 [2,4,5,6] (.pair r8n p9m) [] .unit
abbrev s3b:=zL [0,1,5] (.pair p0t p6t) 0 [] .unit [4] .bool
abbrev s3c:=zL [0,1,5,6] (.pair p0t p82) 2 [0,1,5] (.pair p0t p6t) [4] .bool
abbrev s86:=zL [1,2,5] p71 0 [] .unit [4] .bool
abbrev t55:=zL [1,2,7,8] (.pair r8m (.pair u1e p74)) 0 [7] p0s [] .unit
abbrev t56:=zL [1,2,7,8,9,10,11] o01 2 [1,2,7,8,9,10,11] o01 [] .unit
abbrev s0h:=zL [2,3,4,5,6,7] (.pair r8n (.pair r2m (.pair q36 (.pair q36 (.pair (.box (.pair u1e (.pair u1e (.pair u1e (.pair u1e (.pair (.tr true r8w) (.pair (.tr true u13) (.pair .bool .str)))))))) u1e))))) 0 [3,4,5] (.pair r2m p83) [] .unit
abbrev s28:=zL [1,2,5] (.pair .str (.pair r8n u1e)) 0 [] .unit [4] u1e
abbrev t8c:=zL [2,3,4,6,7,8,9] (.pair .str (.pair r8n (.pair r2m (.pair q36 (.pair q36 (.pair p0v u1e)))))) 0 [2,3,4,6,7,8] (.pair .str (.pair r8n (.pair r2m (.pair q36 (.pair q36 p0v))))) [] .unit
abbrev t6y:=zL [2,3,4,6,7,10] (.pair .str (.pair r8n (.pair r2m p9m))) 2 [4,6,7] (.pair r2m p83) [] .unit
abbrev s22:=zL [1,2,4,5,6] (.pair .str (.pair r8n p9m)) 0 [4,5] p83 [] .unit
abbrev t6z:=zL [1,2,6] (.pair u1e (.pair p4x u1e)) 0 [1,2] (.pair u1e p4x) [4,5] q6p
abbrev t60:=zL [1,2,3,8,9] (.pair u1e (.pair u1e (.pair p4x q9c))) 0 [8] .str [6,7] q6p
abbrev t8d:=zL [1,2,7,8,10,11,12] (.pair u1e (.pair p4x (.pair r8q (.pair .str (.pair r8q s69))))) 0 [10,11] (.pair r8q u1e) [4,5,6] (.pair r8q p5b)
abbrev s25:=zL [2,4,5,6] (.pair q36 (.pair q36 p9n)) 0 [2,4] p83 [2,3] (.pair q36 .bool)
abbrev s5z:=zL [1,3] (.pair p4x u1e) 0 [1] p4x [2] .bool
abbrev s50:=zL [1,4] (.pair p4x u1e) 2 [] .unit [2] .bool
abbrev t8b:=zL [1,2,3,4] (.pair p4x p9l) 0 [2,3] (.pair p0u p0u) [] .unit
abbrev t62:=zL [1,2,3,4,8,10,11] (.pair u1e (.pair u1e (.pair .str (.pair p4x p9l)))) 0 [8,10] (.pair p0u p0u) [8,9] (.pair p0u .bool)
abbrev s3g:=zL [1,4,6,7,8,9] (.pair p75 (.pair p0u (.pair u1e (.pair p0u p8t)))) 0 [4,7,8] (.pair p0u (.pair p0u .bool)) [] .unit
abbrev t8e:=zL [2,3,4,6,7] (.pair r2m (.pair p05 (.pair p0v (.pair p0v u1e)))) 0 [2,3,4,6] (.pair r2m (.pair p05 (.pair p0v p0v))) [4,5] (.pair p0v .bool)
abbrev s52:=zL [1,2,3,8] (.pair s4i (.pair .str p8r)) 0 [1,2,3] (.pair s4i (.pair .str r2m)) [6,7] q6p
abbrev s3h:=zL [0,3,5,6] (.pair s4i (.pair p05 (.pair r8q u1e))) 0 [5] r8q [] .unit
abbrev s3i:=zL [0,3,5,6,7,8,9] o02 2 [0,3,5,6,7,8] (.pair s4i (.pair p05 (.pair (.tr true .str) (.pair u1e (.pair .str r8q))))) [] .unit
abbrev s0m:=zL [0,3,5,6,7,8,10] o02 4 [0,3,6,8] (.pair s4i (.pair p05 (.pair u1e r8q))) [] .unit
abbrev s23:=zL [1,3,5,7,8] (.pair s4i (.pair r2m (.pair p05 p74))) 0 [1,3,5,7] (.pair s4i (.pair r2m (.pair p05 p5a))) [] .unit
abbrev s24:=zL [1,3,9,10,11] (.pair s4i (.pair r2m (.pair p04 p9n))) 2 [9] p04 [] .unit
abbrev s57:=zL [0,1,4,5] (.pair (.box p6d) (.pair u1e p80)) 0 [0,4] (.pair (.box p6d) q0m) [] .unit
abbrev s84:=zL [0,1,5] (.pair r8m p6t) 0 [] .unit [4] .bool
abbrev s85:=zL [0,1,5,6] (.pair r8m p82) 2 [0,1,5] (.pair r8m p6t) [4] .bool
abbrev s2z:=zL [1,2,5] p71 0 [] .unit [4] .bool
abbrev r1t:=zL [1,2,5] p71 0 [] .unit [4] .bool
abbrev s5y:=zL [1,2,5] p71 0 [] .unit [4] .bool
abbrev s20:=zL [1,2,5,6,7] (.pair r2l (.pair r2m p81)) 2 [1,2,5] p71 [4] .bool
abbrev t57:=zL [1,2,5,6] (.pair r2l (.pair r2m p8t)) 0 [] .unit [4] .bool
abbrev t5e:=zL [1,2,5,6,7,8] (.pair r2l (.pair r2m (.pair .bool p81))) 2 [1,2,5,6] (.pair r2l (.pair r2m p8t)) [4] .bool
abbrev s3l:=zL [0,1,4,5,6] (.pair r8l (.pair u1e (.pair q9b (.pair q9b u1e)))) 0 [0,4,5] (.pair r8l (.pair q9b q9b)) [] .unit
abbrev t78:=zL [0,1,5] (.pair p0t (.pair p0t u1e)) 0 [] .unit [4] .bool
abbrev s53:=zL [0,2,7,8,9] (.pair s4i (.pair u1e (.pair p04 p9n))) 0 [7] p04 [] .unit
abbrev u2u:=zL [0,1,7,8] (.pair r2l (.pair (.clo 156 p0w) s69)) 0 [] .unit [4] u1e
abbrev u2b:=zL [0,1,7,8] (.pair r2l (.pair (.clo 289 (.rbox p6r)) s69)) 0 [] .unit [4] u1e
abbrev t77:=zL [0,1,7,8,9] (.pair r2l (.pair u1e p5c)) 0 [] .unit [4] .bool
abbrev t0j:=zL [0,3,9,10,11] (.pair p72 (.pair u1e (.pair p72 s69))) 0 [0,3] (.pair p72 u1e) [] .unit
abbrev u8z:=zL [6,25,26,27] (.pair p8s (.pair p72 s69)) 2 [6] p8s [] .unit
abbrev s81:=zL [0,3] q9c 0 [0] .str [2] .bool
abbrev t98:=zL [0,5,6,7] (.pair r8m p82) 0 [0] r8m [2] .bool
abbrev s82:=zL [1,6,7,8] (.pair r2m (.pair p0t s69)) 0 [1] r2m [2] .bool
abbrev t6x:=zL [0,5,6,7] (.pair s4i p6u) 0 [0] s4i [2] .bool
abbrev s5u:=zL [1,38,39,40] (.pair r8n p6u) 0 [1] r8n [2] .bool
abbrev s2r:=zL [1,51,52,53] (.pair r8n p5c) 2 [1] r8n [2] .bool
abbrev s2s:=zL [1,91,92,93] (.pair r8n p5c) 4 [1] r8n [2] .bool
abbrev t93:=zL [1,33,34,35] (.pair p6e p5c) 0 [] .unit [2] .bool
abbrev t99:=zL [3,6,7,8] (.pair q0m p5c) 0 [3] q0m [] .unit
abbrev t96:=zL [3,5,6] p8q 0 [3,5,6] p8q [] .unit
abbrev t94:=zL [5,10,11,12] (.pair u1e p5c) 0 [5] u1e [] .unit
abbrev s5w:=zL [0,1,2,7,10,11,12] (.pair s4i (.pair .str (.pair u1e (.pair u1e p6u)))) 0 [7] u1e [] .unit
abbrev t76:=zL [0,4,7,8,9] (.pair .str (.pair u1e p6u)) 0 [4] u1e [] .unit
abbrev s2u:=zL [0,1,5,12,13,14] (.pair s4i (.pair u1e (.pair (.box p0s) p6u))) 0 [1,5] (.pair u1e (.box p0s)) [] .unit
abbrev t97:=zL [1,8,9,38,39,40] (.pair u1e (.pair (.clo 364 (.rbox p5a)) (.pair p0s (.pair p5a s69)))) 2 [9] p0s [] .unit
abbrev u2v:=zL [0,1,7,8] (.pair r2l (.pair (.clo 237 p0w) s69)) 0 [] .unit [4] u1e
abbrev u2l:=zL [0,1,5,6] (.pair q0m (.pair (.clo 237 p0w) s69)) 0 [0,5] p80 [] .unit
abbrev u2m:=zL [0,1,7,8] (.pair r2l (.pair (.clo 277 p0w) s69)) 0 [] .unit [4] u1e
abbrev u2e:=zL [0,1,5,6] (.pair q0m (.pair (.clo 277 p0w) s69)) 0 [0,5] p80 [] .unit
abbrev u80:=zL [0,3,7,8] (.pair p0t (.pair p05 s69)) 0 [] .unit [4] u1e
abbrev u2n:=zL [0,1,7,8] (.pair r8m (.pair (.clo 397 (.rbox .str)) s69)) 0 [] .unit [4] u1e
abbrev s5v:=zL [3,6,7,8] (.pair r8q p6u) 0 [3] r8q [] .unit
abbrev s2t:=zL [1,3,5,7,18,19,20] (.pair s4i (.pair r2m (.pair p05 (.pair r8q p82)))) 0 [1,3,5,7] (.pair s4i (.pair r2m (.pair p05 r8q))) [] .unit
abbrev t95:=zL [1,3,5,10,33,34,35] (.pair s4i (.pair r2m (.pair p05 (.pair p04 (.pair (.tr true .str) s69))))) 2 [10] p04 [] .unit
def p7d:Nat→Nat→Option LoopA
  | 113,3=>some s88
  | 241,3=>some s3j
  | 191,2=>some s83
  | 243,2=>some s0l
  | 189,4=>some s87
  | 197,2=>some t61
  | 69,4=>some s5x
  | 69,10=>some s2v
  | 69,17=>some s2w
  | 69,24=>some s2x
  | 69,27=>some s2y
  | 109,4=>some s0b
  | 109,10=>some t79
  | 109,15=>some t8a
  | 95,3=>some s55
  | 394,3=>some s3f
  | 418,5=>some s21
  | 49,2=>some s51
  | 242,3=>some s0d
  | 242,9=>some s0e
  | 313,2=>some s56
  | 315,6=>some s27
  | 182,8=>some s26
  | 182,15=>some s0g
  | 187,4=>some t58
  | 65,6=>some s0f
  | 392,2=>some s29
  | 392,6=>some s3a
  | 306,5=>some s3e
  | 306,10=>some s0k
  | 314,3=>some s3k
  | 185,5=>some s0a
  | 105,3=>some s0c
  | 107,3=>some s3d
  | 107,10=>some s0i
  | 107,14=>some s0j
  | 21,5=>some s54
  | 288,2=>some s3b
  | 288,5=>some s3c
  | 161,2=>some s86
  | 379,3=>some t55
  | 379,8=>some t56
  | 318,12=>some s0h
  | 319,2=>some s28
  | 320,8=>some t8c
  | 320,14=>some t6y
  | 321,4=>some s22
  | 417,4=>some t6z
  | 344,5=>some t60
  | 227,10=>some t8d
  | 88,4=>some s25
  | 329,4=>some s5z
  | 329,9=>some s50
  | 413,5=>some t8b
  | 411,5=>some t62
  | 415,5=>some s3g
  | 419,5=>some t8e
  | 420,2=>some s52
  | 153,3=>some s3h
  | 153,9=>some s3i
  | 153,15=>some s0m
  | 421,3=>some s23
  | 421,9=>some s24
  | 424,2=>some s57
  | 159,2=>some s84
  | 159,5=>some s85
  | 53,2=>some s2z
  | 160,2=>some r1t
  | 54,4=>some s5y
  | 54,12=>some s20
  | 466,5=>some t57
  | 466,12=>some t5e
  | 94,3=>some s3l
  | 45,4=>some t78
  | 46,4=>some s53
  | 10004,2=>some u2u
  | 10002,2=>some u2b
  | 163,2=>some t77
  | 164,3=>some t0j
  | 164,11=>some u8z
  | 142,2=>some s81
  | 291,2=>some t98
  | 165,2=>some s82
  | 204,2=>some t6x
  | 76,4=>some s5u
  | 76,10=>some s2r
  | 76,16=>some s2s
  | 55,4=>some t93
  | 271,3=>some t99
  | 286,3=>some t96
  | 235,3=>some t94
  | 363,3=>some s5w
  | 364,3=>some t76
  | 238,3=>some s2u
  | 238,11=>some t97
  | 10006,2=>some u2v
  | 10005,5=>some u2l
  | 10008,2=>some u2m
  | 10007,5=>some u2e
  | 446,2=>some u80
  | 10003,2=>some u2n
  | 259,3=>some s5v
  | 209,3=>some s2t
  | 209,10=>some t95
  | _,_=>none
def o1h:Nat→Nat
  | 10000=>127
  | 10001=>261
  | 10002=>148
  | 10003=>396
  | 10004=>148
  | 10005=>236
  | 10006=>148
  | 10007=>236
  | 10008=>148
  | f=>f
def p7k:Nat→List Nat→Nat
  | 127, [289] =>10000
  | 261, [289] =>10001
  | 148, [289] =>10002
  | 396, [397] =>10003
  | 148, [156] =>10004
  | 236, [237] =>10005
  | 148, [237] =>10006
  | 236, [277] =>10007
  | 148, [277] =>10008
  | f,_=>f
def p2h:(f:Nat)→Option ((p50 f).ins.den→Option (p50 f).out.den)
  | 387=>some (y2q u13)
  | 325=>some (y7a)
  | 326=>some (y0m)
  | _=>none
def p44:Plan:= {sig:=p50,join:=p69,loop:=p7d,fn:=o1h,pick:=p7k,prim:=p2h,gd:=y8a}
def A:Ann:=ann o0z p44
set_option maxRecDepth 100000
abbrev r8k:Type:=(List u0a.den)
abbrev q0l:Type:=(List u0g.den)
abbrev r2k:Type:=(ByteArray × Bool)
abbrev r4v:Type:=(Unit ⊕ Bool)
abbrev r8p:Type:=(List ByteArray)
abbrev q34:Type:=(List u13.den)
abbrev q6t:Type:=(ByteArray × Int)
abbrev p22:Type:=(List r8w.den)
abbrev q6u:Type:=(Unit ⊕ Int)
abbrev p48:Type:=(ByteArray × ByteArray)
abbrev p02:Type:=(Int ⊕ Unit)
abbrev q35:Type:=(List Int)
abbrev p23:Type:=(Int × Int)
abbrev q0k:Type:=(q35 × p23)
abbrev p49:Type:=(Z90 ⊕ Bool)
abbrev p4v:Type:=(Int × Bool)
abbrev q9a:Type:=(ByteArray × p4v)
abbrev p8m:Type:=((Int × q0l) ⊕ Unit)
abbrev p6m:Type:=(r8k ⊕ Unit)
abbrev p6n:Type:=(q0l ⊕ Unit)
abbrev p6o:Type:=(p22 ⊕ Unit)
abbrev p8n:Type:=(ByteArray ⊕ Bool)
abbrev p8o:Type:=(ByteArray × r2k)
abbrev p6p:Type:=(q0l × Int)
abbrev p6q:Type:=(q0k × Int)
abbrev zLv:=y5x Tryz.prog A
abbrev zK (f:Nat) (x:(A.sig f).ins.den):=zLv.call f x
theorem zC (f:Nat) (fn:Func) {X:(A.sig f).ins.den→Option (A.sig f).out.den} (hp:A.prim f=none) (hf:Tryz.prog.funcs[A.fn f]? =some fn) (hb:∀x,z7s A zLv lpW f fn x=X x):zK f=X:=funext (y7p hp hf hb)
theorem zW (l:LoopA) (f:Nat) (fn:Func) (r n:Nat) {S:(l.head.sh.den→Option (l.out.sh.den ⊕ l.ret.sh.den))→l.head.sh.den→Option (l.out.sh.den ⊕ l.ret.sh.den)} (x:l.head.sh.den) (h:S=z7n A zLv lpW f (y7w fn r) l n):lpW _ _ S x=S (lpW _ _ S) x:=y7x h x
def q1c(x:q35):Option Bool:=zK 15 x
def q0u (x:q35):Option Bool:=(some (decide ((x.length:Int) >(1048576:Int))))
theorem q9v:q1c=q0u:=zC 15 Tryz.f15 rfl Tryz.func15 fun x=>by kernel_rfl
def t8l(x:p40):Option Int:=zK 113 x
def t4l(g:o0b→Option p02)(x:o0b):Option p02:=(bif (decide (x.2.2.2.2<(x.1.length:Int))) then (((bif (y4p x.2.2.2.2 x.1.length) then (bif (z7o (rdL u0g x.1 (x.2.2.2.2).toNat).1 x.2.1) then (bif (y4p x.2.2.2.2 x.1.length) then (bif (decide ((rdL u0g x.1 (x.2.2.2.2).toNat).2.2.2≤x.2.2.1)) then (bif (decide (x.2.2.2.1<0)) then (some true) else (bif (y4p x.2.2.2.2 x.1.length) then (bif (y4p x.2.2.2.1 x.1.length) then (some (decide ((rdL u0g x.1 (x.2.2.2.2).toNat).2.2.2 >(rdL u0g x.1 (x.2.2.2.1).toNat).2.2.2))) else none) else none)) else (some false)) else none) else (some false)) else none):Option Bool).bind fun j1=>(bif j1 then (g (x.1,(x.2.1,(x.2.2.1,(x.2.2.2.2,(IntKind.i64.wrap (x.2.2.2.2+1))))))) else (g (x.1,(x.2.1,(x.2.2.1,(x.2.2.2.1,(IntKind.i64.wrap (x.2.2.2.2+1))))))))) else (some (.inl x.2.2.2.1)))
def t0r:=lpW _ _ t4l
theorem s9l x:t0r x=t4l t0r x:=zW s88 113 Tryz.f113 3 50 x (by kernel_rfl)
def r39 (x:p40):Option Int:=((t0r (x.1,(x.2.1,(x.2.2,((-1:Int),0))))).bind fun r2=>match r2 with | .inl o3=>(some o3) | .inr z4=>none)
theorem q5d:t8l=r39:=zC 113 Tryz.f113 rfl Tryz.func113 fun x=>by kernel_rfl
def t0e(x:p40):Option r2k:=zK 27 x
def r02 (x:p40):Option r2k:=((t8l x).bind fun y1=>(((bif (decide (y1<0)) then (some true) else (bif (y4p y1 x.1.length) then (some (rdL u0g x.1 (y1).toNat).2.2.1) else none)):Option Bool).bind fun j2=>(bif j2 then (some ((⟨#[]⟩:ByteArray),false)) else (bif (y4p y1 x.1.length) then (some ((rdL u0g x.1 (y1).toNat).2.1,true)) else none))))
theorem q3a:t0e=r02:=zC 27 Tryz.f27 rfl Tryz.func27 fun x=>by kernel_rfl
def u0y(x:t19):Option t19:=zK 106 x
def s8l (x:t19):Option t19:=(bif (Nat.ble (([] :List r8w.den).length+x.2.2.2.2.1.length) z7w) then (bif (Nat.ble (([] :List u13.den).length+x.2.2.2.2.2.1.length) z7w) then (some (x.1,(x.2.1,(x.2.2.1,(x.2.2.2.1,((([] :List r8w.den)++x.2.2.2.2.1),((([] :List u13.den)++x.2.2.2.2.2.1),x.2.2.2.2.2.2))))))) else none) else none)
theorem r91:u0y=s8l:=zC 106 Tryz.f106 rfl Tryz.func106 fun x=>by kernel_rfl
def t02(x:r8k):Option r8k:=zK 241 x
def t1t(g:p9w→Option p6m)(x:p9w):Option p6m:=(bif (decide (x.2.2<(x.1.length:Int))) then (bif (y4p x.2.2 x.1.length) then ((u0y (rdL u0a x.1 (x.2.2).toNat)).bind fun y1=>(bif (Nat.ble (x.2.1.length+([y1] :List u0a.den).length) z7w) then (g (x.1,((x.2.1++([y1] :List u0a.den)),(IntKind.i64.wrap (x.2.2+1))))) else none)) else none) else (some (.inl x.2.1)))
def t12:=lpW _ _ t1t
theorem s4c x:t12 x=t1t t12 x:=zW s3j 241 Tryz.f241 3 21 x (by kernel_rfl)
def s8n (x:r8k):Option r8k:=((t12 (x,(([] :List u0a.den),0))).bind fun r2=>match r2 with | .inl o3=>(some o3) | .inr z4=>none)
theorem r93:t02=s8n:=zC 241 Tryz.f241 rfl Tryz.func241 fun x=>by kernel_rfl
def u18(x:Z90):Option Z90:=zK 104 x
def s8m (x:Z90):Option Z90:=(bif (Nat.ble (([] :List u0g.den).length+x.1.length) z7w) then ((t02 x.2.1).bind fun y1=>((t02 x.2.2.1).bind fun y2=>(some ((([] :List u0g.den)++x.1),(y1,(y2,x.2.2.2)))))) else none)
theorem r92:u18=s8m:=zC 104 Tryz.f104 rfl Tryz.func104 fun x=>by kernel_rfl
def u0n(x:Z62):Option Z62:=zK 108 x
def s8q (x:Z62):Option Z62:=((u18 x.1).bind fun y1=>((t02 x.2).bind fun y2=>(some (y1,y2))))
theorem r96:u0n=s8q:=zC 108 Tryz.f108 rfl Tryz.func108 fun x=>by kernel_rfl
def u0o(x:(Int × p23)):Option Bool:=zK 188 x
def r38 (x:(Int × p23)):Option Bool:=(((bif (decide (x.1≥x.2.1)) then (some (decide (x.1≤x.2.2))) else (some false)):Option Bool).bind fun j1=>(some j1))
theorem q5c:u0o=r38:=zC 188 Tryz.f188 rfl Tryz.func188 fun x=>by kernel_rfl
def u38(x:ByteArray):Option Bool:=zK 191 x
def t4g(g:q6t→Option p8n)(x:q6t):Option p8n:=(bif (decide (x.2<(x.1.size:Int))) then (((bif (y4p x.2 x.1.size) then (bif (decide (((x.1.data.toList.getD (x.2).toNat 0).toNat:Int)<(97:Int))) then (some true) else (bif (y4p x.2 x.1.size) then (some (decide (((x.1.data.toList.getD (x.2).toNat 0).toNat:Int) >(122:Int)))) else none)) else none):Option Bool).bind fun j1=>(bif j1 then (some (.inr false)) else (g (x.1,(IntKind.i64.wrap (x.2+1)))))) else (some (.inl x.1)))
def t4o:=lpW _ _ t4g
theorem s9g x:t4o x=t4g t4o x:=zW s83 191 Tryz.f191 2 23 x (by kernel_rfl)
def r32 (x:ByteArray):Option Bool:=((t4o (x,0)).bind fun r2=>match r2 with | .inl o3=>((u0o ((o3.size:Int),(1,3))).bind fun y4=>(some y4)) | .inr z5=>(some z5))
theorem q46:u38=r32:=zC 191 Tryz.f191 rfl Tryz.func191 fun x=>by kernel_rfl
def t00(x:p8o):Option Bool:=zK 110 x
def s79 (x:p8o):Option Bool:=((((u38 x.1).bind fun y1=>(bif y1 then (bif (decide ((x.2.1.size:Int)≤(12:Int))) then (bif (!x.2.2) then (some true) else (some (z7o x.2.1 (⟨#[]⟩:ByteArray)))) else (some false)) else (some false))):Option Bool).bind fun j2=>(some j2))
theorem r9q:t00=s79:=zC 110 Tryz.f110 rfl Tryz.func110 fun x=>by kernel_rfl
def t3k(x:q34):Option Bool:=zK 243 x
def u9w(g:(q34 × Int)→Option (q34 ⊕ Bool))(x:(q34 × Int)):Option (q34 ⊕ Bool):=(bif (decide (x.2<(x.1.length:Int))) then (((bif (y4p x.2 x.1.length) then ((t00 (rdL u13 x.1 (x.2).toNat)).bind fun y1=>(bif (!y1) then (some true) else (bif (decide (x.2 >0)) then (bif (y4p (IntKind.i64.wrap (x.2 - 1)) x.1.length) then (bif (y4p x.2 x.1.length) then (some (!y3c (rdL u13 x.1 ((IntKind.i64.wrap (x.2 - 1))).toNat).1 (rdL u13 x.1 (x.2).toNat).1)) else none) else none) else (some false)))) else none):Option Bool).bind fun j2=>(bif j2 then (some (.inr false)) else (g (x.1,(IntKind.i64.wrap (x.2+1)))))) else (some (.inl x.1)))
def u98:=lpW _ _ u9w
theorem s1c x:u98 x=u9w u98 x:=zW s0l 243 Tryz.f243 2 37 x (by kernel_rfl)
def s5e (x:q34):Option Bool:=((u98 (x,0)).bind fun r3=>match r3 with | .inl o4=>(some (decide ((o4.length:Int)≤(8:Int)))) | .inr z5=>(some z5))
theorem r69:t3k=s5e:=zC 243 Tryz.f243 rfl Tryz.func243 fun x=>by kernel_rfl
def t0z(x:p48):Option Bool:=zK 316 x
def s70 (x:p48):Option Bool:=((((u38 x.1).bind fun y1=>(bif y1 then ((u38 x.2).bind fun y2=>(bif y2 then (some (y3c x.1 x.2 || z7o x.1 x.2)) else (some false))) else (some false))):Option Bool).bind fun j3=>(some j3))
theorem r9h:t0z=s70:=zC 316 Tryz.f316 rfl Tryz.func316 fun x=>by kernel_rfl
def u4a(x:t19):Option Bool:=zK 189 x
def t4k(g:Z97→Option (t19 ⊕ Bool))(x:Z97):Option (t19 ⊕ Bool):=(bif (decide (x.2<(x.1.2.2.2.2.1.length:Int))) then (bif (y4p x.2 x.1.2.2.2.2.1.length) then ((t0z (rdL r8w x.1.2.2.2.2.1 (x.2).toNat)).bind fun y6=>(bif (!y6) then (some (.inr false)) else (g (x.1,(IntKind.i64.wrap (x.2+1)))))) else none) else (some (.inl x.1)))
def t4r:=lpW _ _ t4k
theorem s9k x:t4r x=t4k t4r x:=zW s87 189 Tryz.f189 4 95 x (by kernel_rfl)
def r37 (x:t19):Option Bool:=((((u0o (x.1,(1,9999))).bind fun y1=>(bif (!y1) then (some true) else ((u0o (x.2.1,(1,3))).bind fun y2=>(bif (!y2) then (some true) else ((u0o (x.2.2.1,(0,9999))).bind fun y3=>(bif (!y3) then (some true) else (bif (decide ((x.2.2.2.2.1.length:Int) >(8:Int))) then (some true) else ((t3k x.2.2.2.2.2.1).bind fun y4=>(some (!y4)))))))))):Option Bool).bind fun j5=>(bif j5 then (some false) else ((t4r (x,0)).bind fun r7=>match r7 with | .inl o8=>(((bif (decide (o8.2.1=3)) then ((u0o (o8.2.2.2.1,((IntKind.i64.wrap (o8.2.2.1+1)),9999))).bind fun y9=>(bif (!y9) then (some true) else (bif (!decide (o8.2.1=3)) then (some (!decide (o8.2.2.2.1=0))) else (some false)))) else (bif (!decide (o8.2.1=3)) then (some (!decide (o8.2.2.2.1=0))) else (some false))):Option Bool).bind fun j10=>(bif j10 then (some false) else (((bif (decide (o8.2.1=2)) then ((u38 o8.2.2.2.2.2.2.2).bind fun y11=>(bif (!y11) then (some true) else (bif (!decide (o8.2.1=2)) then (some (!z7o o8.2.2.2.2.2.2.2 (⟨#[]⟩:ByteArray))) else (some false)))) else (bif (!decide (o8.2.1=2)) then (some (!z7o o8.2.2.2.2.2.2.2 (⟨#[]⟩:ByteArray))) else (some false))):Option Bool).bind fun j12=>(bif j12 then (some false) else (((bif (!decide (o8.2.1=1)) then (some true) else (some (!o8.2.2.2.2.2.2.1))):Option Bool).bind fun j13=>(some j13)))))) | .inr z14=>(some z14))))
theorem q5b:u4a=r37:=zC 189 Tryz.f189 rfl Tryz.func189 fun x=>by kernel_rfl
def t38(x:q0l):Option Bool:=zK 197 x
def u6k(g:p6p→Option (q0l ⊕ Bool))(x:p6p):Option (q0l ⊕ Bool):=(bif (decide (x.2<(x.1.length:Int))) then (bif (y4p x.2 x.1.length) then ((((u38 (rdL u0g x.1 (x.2).toNat).1).bind fun y1=>(bif (!y1) then (some true) else (bif (decide (((rdL u0g x.1 (x.2).toNat).2.1.size:Int) >(12:Int))) then (some true) else (bif (rdL u0g x.1 (x.2).toNat).2.2.1 then (bif (!z7o (rdL u0g x.1 (x.2).toNat).2.1 (⟨#[]⟩:ByteArray)) then (some true) else ((u0o ((rdL u0g x.1 (x.2).toNat).2.2.2,(1,9999))).bind fun y2=>(some (!y2)))) else ((u0o ((rdL u0g x.1 (x.2).toNat).2.2.2,(1,9999))).bind fun y3=>(some (!y3))))))):Option Bool).bind fun j4=>(bif j4 then (some (.inr false)) else (((bif (decide (x.2 >0)) then (bif (y4p (IntKind.i64.wrap (x.2 - 1)) x.1.length) then (bif (!(y3c (rdL u0g x.1 ((IntKind.i64.wrap (x.2 - 1))).toNat).1 (rdL u0g x.1 (x.2).toNat).1 || z7o (rdL u0g x.1 ((IntKind.i64.wrap (x.2 - 1))).toNat).1 (rdL u0g x.1 (x.2).toNat).1)) then (some true) else (bif (y4p (IntKind.i64.wrap (x.2 - 1)) x.1.length) then (bif (z7o (rdL u0g x.1 ((IntKind.i64.wrap (x.2 - 1))).toNat).1 (rdL u0g x.1 (x.2).toNat).1) then (bif (y4p (IntKind.i64.wrap (x.2 - 1)) x.1.length) then (some (decide ((rdL u0g x.1 ((IntKind.i64.wrap (x.2 - 1))).toNat).2.2.2≥(rdL u0g x.1 (x.2).toNat).2.2.2))) else none) else (some false)) else none)) else none) else (some false)):Option Bool).bind fun j5=>(bif j5 then (some (.inr false)) else (g (x.1,(IntKind.i64.wrap (x.2+1)))))))) else none) else (some (.inl x.1)))
def u6o:=lpW _ _ u6k
theorem t7s x:u6o x=u6k u6o x:=zW t61 197 Tryz.f197 2 78 x (by kernel_rfl)
def t9s (x:q0l):Option Bool:=((u6o (x,0)).bind fun r6=>match r6 with | .inl o7=>(some (decide ((o7.length:Int)≤(120:Int)))) | .inr z8=>(some z8))
theorem r24:t38=t9s:=zC 197 Tryz.f197 rfl Tryz.func197 fun x=>by kernel_rfl
def u45(x:Z90):Option Bool:=zK 69 x
def t2s(g:Z86→Option p49)(x:Z86):Option p49:=(bif (decide (x.2<(x.1.1.length:Int))) then (bif (y4p x.2 x.1.1.length) then (bif (decide ((rdL u0g x.1.1 (x.2).toNat).2.2.2 >x.1.2.2.2.1)) then (some (.inr false)) else (g (x.1,(IntKind.i64.wrap (x.2+1))))) else none) else (some (.inl x.1)))
def u8o:=lpW _ _ t2s
theorem s6r x:u8o x=t2s u8o x:=zW s5x 69 Tryz.f69 4 179 x (by kernel_rfl)
def t1b(g:Z69→Option (Z78 ⊕ Bool))(x:Z69):Option (Z78 ⊕ Bool):=(bif (decide (x.2.2<(x.1.2.1.length:Int))) then (bif (y4p x.2.2 x.1.2.1.length) then ((((u4a (rdL u0a x.1.2.1 (x.2.2).toNat)).bind fun y7=>(bif (!y7) then (some true) else (bif (!decide ((rdL u0a x.1.2.1 (x.2.2).toNat).2.1=3)) then (some true) else (bif (decide ((rdL u0a x.1.2.1 (x.2.2).toNat).2.2.2.1 >x.1.2.2.2.1)) then (some true) else (bif (decide (x.2.2 >0)) then (bif (y4p (IntKind.i64.wrap (x.2.2 - 1)) x.1.2.1.length) then (some (decide ((rdL u0a x.1.2.1 ((IntKind.i64.wrap (x.2.2 - 1))).toNat).2.2.2.1≥(rdL u0a x.1.2.1 (x.2.2).toNat).2.2.2.1))) else none) else (some false)))))):Option Bool).bind fun j8=>(bif j8 then (some (.inr false)) else (bif (Nat.ble (x.2.1.length+([(rdL u0a x.1.2.1 (x.2.2).toNat).1] :List Int).length) z7w) then (g (x.1,((x.2.1++([(rdL u0a x.1.2.1 (x.2.2).toNat).1] :List Int)),(IntKind.i64.wrap (x.2.2+1))))) else none))) else none) else (some (.inl (x.1,x.2.1))))
def u4o:=lpW _ _ t1b
theorem s3r x:u4o x=t1b u4o x:=zW s2v 69 Tryz.f69 10 179 x (by kernel_rfl)
def t1c(g:Z69→Option (Z78 ⊕ Bool))(x:Z69):Option (Z78 ⊕ Bool):=(bif (decide (x.2.2<(x.1.2.2.1.length:Int))) then (bif (y4p x.2.2 x.1.2.2.1.length) then ((((u4a (rdL u0a x.1.2.2.1 (x.2.2).toNat)).bind fun y11=>(bif (!y11) then (some true) else (bif (!decide ((rdL u0a x.1.2.2.1 (x.2.2).toNat).2.1=2)) then (some true) else (bif (decide ((rdL u0a x.1.2.2.1 (x.2.2).toNat).2.2.1 >x.1.2.2.2.1)) then (some true) else (bif (decide (x.2.2 >0)) then (bif (y4p (IntKind.i64.wrap (x.2.2 - 1)) x.1.2.2.1.length) then (some (!y3c (rdL u0a x.1.2.2.1 ((IntKind.i64.wrap (x.2.2 - 1))).toNat).2.2.2.2.2.2.2 (rdL u0a x.1.2.2.1 (x.2.2).toNat).2.2.2.2.2.2.2)) else none) else (some false)))))):Option Bool).bind fun j12=>(bif j12 then (some (.inr false)) else (bif (Nat.ble (x.2.1.length+([(rdL u0a x.1.2.2.1 (x.2.2).toNat).1] :List Int).length) z7w) then (g (x.1,((x.2.1++([(rdL u0a x.1.2.2.1 (x.2.2).toNat).1] :List Int)),(IntKind.i64.wrap (x.2.2+1))))) else none))) else none) else (some (.inl (x.1,x.2.1))))
def u65:=lpW _ _ t1c
theorem s3s x:u65 x=t1c u65 x:=zW s2w 69 Tryz.f69 17 179 x (by kernel_rfl)
def t1e(g:Z66→Option (Z69 ⊕ Bool))(x:Z66):Option (Z69 ⊕ Bool):=(bif (decide (x.2.2.2<x.2.2.1)) then (bif (y4p x.2.2.2 x.2.1.length) then (bif (y4p x.2.2.1 x.2.1.length) then (bif (decide ((rdL (Ty.int .i64) x.2.1 (x.2.2.2).toNat)=(rdL (Ty.int .i64) x.2.1 (x.2.2.1).toNat))) then (some (.inr false)) else (g (x.1,(x.2.1,(x.2.2.1,(IntKind.i64.wrap (x.2.2.2+1))))))) else none) else none) else (some (.inl (x.1,(x.2.1,x.2.2.1)))))
def u66:=lpW _ _ t1e
theorem s3u x:u66 x=t1e u66 x:=zW s2y 69 Tryz.f69 27 179 x (by kernel_rfl)
def t1d(g:Z69→Option r4v)(x:Z69):Option r4v:=(bif (decide (x.2.2<(x.2.1.length:Int))) then ((u66 (x.1,(x.2.1,(x.2.2,0)))).bind fun r15=>match r15 with | .inl o16=>(bif (y4p o16.2.2 o16.2.1.length) then (bif (decide ((rdL (Ty.int .i64) o16.2.1 (o16.2.2).toNat)≥o16.1.2.2.2.2)) then (some (.inr false)) else (g (o16.1,(o16.2.1,(IntKind.i64.wrap (o16.2.2+1)))))) else none) | .inr z17=>(some (.inr z17))) else (some (.inl ())))
def u4p:=lpW _ _ t1d
theorem s3t x:u4p x=t1d u4p x:=zW s2x 69 Tryz.f69 24 179 x (by kernel_rfl)
def r0o (x:Z90):Option Bool:=((((t38 x.1).bind fun y1=>(bif (!y1) then (some true) else (bif (decide ((x.2.1.length:Int) >(12:Int))) then (some true) else (bif (decide ((x.2.2.1.length:Int) >(3:Int))) then (some true) else ((u0o (x.2.2.2.1,(0,9999))).bind fun y2=>(bif (!y2) then (some true) else ((u0o (x.2.2.2.2,(1,9999))).bind fun y3=>(some (!y3))))))))):Option Bool).bind fun j4=>(bif j4 then (some false) else ((u8o (x,0)).bind fun r5=>match r5 with | .inl o6=>((u4o (o6,(([] :List Int),0))).bind fun r9=>match r9 with | .inl o10=>((u65 (o10.1,(o10.2,0))).bind fun r13=>match r13 with | .inl o14=>((u4p (o14.1,(o14.2,0))).bind fun r18=>match r18 with | .inl o19=>(some true) | .inr z20=>(some z20)) | .inr z21=>(some z21)) | .inr z22=>(some z22)) | .inr z23=>(some z23))))
theorem q2w:u45=r0o:=zC 69 Tryz.f69 rfl Tryz.func69 fun x=>by kernel_rfl
def t7a(x:Z62):Option Bool:=zK 109 x
def u71(g:Z17→Option (Z20 ⊕ Bool))(x:Z17):Option (Z20 ⊕ Bool):=(bif (decide (x.2.2.2<(x.1.1.2.1.length:Int))) then (bif (y4p x.2.2.2 x.1.1.2.1.length) then (bif (decide ((rdL u0a x.1.1.2.1 (x.2.2.2).toNat).1=x.2.2.1.1)) then (some (.inr false)) else (g (x.1,(x.2.1,(x.2.2.1,(IntKind.i64.wrap (x.2.2.2+1))))))) else none) else (some (.inl (x.1,(x.2.1,x.2.2.1)))))
def u40:=lpW _ _ u71
theorem t8r x:u40 x=u71 u40 x:=zW t79 109 Tryz.f109 10 105 x (by kernel_rfl)
def u72(g:Z17→Option (Z60 ⊕ Bool))(x:Z17):Option (Z60 ⊕ Bool):=(bif (decide (x.2.2.2<(x.1.1.2.2.1.length:Int))) then (bif (y4p x.2.2.2 x.1.1.2.2.1.length) then (bif (decide ((rdL u0a x.1.1.2.2.1 (x.2.2.2).toNat).1=x.2.2.1.1)) then (some (.inr false)) else (g (x.1,(x.2.1,(x.2.2.1,(IntKind.i64.wrap (x.2.2.2+1))))))) else none) else (some (.inl (x.1,x.2.1))))
def u3q:=lpW _ _ u72
theorem t8s x:u3q x=u72 u3q x:=zW t8a 109 Tryz.f109 15 105 x (by kernel_rfl)
def u9m(g:Z60→Option r4v)(x:Z60):Option r4v:=(bif (decide (x.2<(x.1.2.length:Int))) then (bif (y4p x.2 x.1.2.length) then ((((u4a (rdL u0a x.1.2 (x.2).toNat)).bind fun y3=>(bif (!y3) then (some true) else (bif (!decide ((rdL u0a x.1.2 (x.2).toNat).2.1=1)) then (some true) else (bif (decide ((rdL u0a x.1.2 (x.2).toNat).1≥x.1.1.2.2.2.2)) then (some true) else (bif (decide ((rdL u0a x.1.2 (x.2).toNat).2.2.1 >x.1.1.2.2.2.1)) then (some true) else (bif (decide (x.2 >0)) then (bif (y4p (IntKind.i64.wrap (x.2 - 1)) x.1.2.length) then (some (decide ((rdL u0a x.1.2 ((IntKind.i64.wrap (x.2 - 1))).toNat).1≥(rdL u0a x.1.2 (x.2).toNat).1))) else none) else (some false))))))):Option Bool).bind fun j4=>(bif j4 then (some (.inr false)) else ((u40 (x.1,(x.2,((rdL u0a x.1.2 (x.2).toNat),0)))).bind fun r5=>match r5 with | .inl o6=>((u3q (o6.1,(o6.2.1,(o6.2.2,0)))).bind fun r7=>match r7 with | .inl o8=>(g (o8.1,(IntKind.i64.wrap (o8.2+1)))) | .inr z9=>(some (.inr z9))) | .inr z10=>(some (.inr z10))))) else none) else (some (.inl ())))
def u4b:=lpW _ _ u9m
theorem s02 x:u4b x=u9m u4b x:=zW s0b 109 Tryz.f109 4 105 x (by kernel_rfl)
def s41 (x:Z62):Option Bool:=((((u45 x.1).bind fun y1=>(bif (!y1) then (some true) else (some (decide ((x.2.length:Int) >(4:Int)))))):Option Bool).bind fun j2=>(bif j2 then (some false) else ((u4b (x,0)).bind fun r11=>match r11 with | .inl o12=>(some true) | .inr z13=>(some z13))))
theorem r6x:t7a=s41:=zC 109 Tryz.f109 rfl Tryz.func109 fun x=>by kernel_rfl
def u86(x:Z62):Option Z55:=zK 24 x
def r30 (x:Z62):Option Z55:=((u0n x).bind fun y1=>((((t7a x).bind fun y2=>(bif (!y2) then (some true) else (bif (decide ((x.2.length:Int)≥(4:Int))) then (some true) else (some (decide (x.1.2.2.2.2≥9999)))))):Option Bool).bind fun j3=>(bif j3 then (some (y1,(0,3))) else (bif (Nat.ble (y1.2.length+([(x.1.2.2.2.2,(1,(x.1.2.2.2.1,(0,(([] :List r8w.den),(([] :List u13.den),(false,(⟨#[]⟩:ByteArray))))))))] :List u0a.den).length) z7w) then (some (((y1.1.1,(y1.1.2.1,(y1.1.2.2.1,(y1.1.2.2.2.1,(IntKind.i64.wrap (x.1.2.2.2.2+1)))))),(y1.2++([(x.1.2.2.2.2,(1,(x.1.2.2.2.1,(0,(([] :List r8w.den),(([] :List u13.den),(false,(⟨#[]⟩:ByteArray))))))))] :List u0a.den))),(x.1.2.2.2.2,0))) else none))))
theorem q44:u86=r30:=zC 24 Tryz.f24 rfl Tryz.func24 fun x=>by kernel_rfl
def s14(x:q35):Option q0k:=zK 95 x
def u8l(g:q0k→Option ((q35 × Int) ⊕ Unit))(x:q0k):Option ((q35 × Int) ⊕ Unit):=(((bif (decide (x.2.2<(x.1.length:Int))) then (some (decide (x.2.2<4000))) else (some false)):Option Bool).bind fun j1=>(bif j1 then (bif (y4p x.2.2 x.1.length) then (g (x.1,((IntKind.i64.wrap ((BitVec.ofInt (IntKind.i64).bits (IntKind.i64.wrap ((IntKind.i64.wrap ((IntKind.i64.wrap (x.2.1*131))+(IntKind.i64.wrap (rdL (Ty.int .u8) x.1 (x.2.2).toNat))))+7)) &&& BitVec.ofInt (IntKind.i64).bits (1073741823:Int)).toNat:Int)),(IntKind.i64.wrap (x.2.2+1))))) else none) else (some (.inl (x.1,x.2.1)))))
def u8t:=lpW _ _ u8l
theorem t7t x:u8t x=u8l u8t x:=zW s55 95 Tryz.f95 3 32 x (by kernel_rfl)
def r04 (x:q35):Option q0k:=((u8t (x,((IntKind.i64.wrap ((77601:Int)+(x.length:Int))),0))).bind fun r2=>match r2 with | .inl o3=>(some (o3.1,(0,o3.2))) | .inr z4=>none)
theorem q3c:s14=r04:=zC 95 Tryz.f95 rfl Tryz.func95 fun x=>by kernel_rfl
def u49(x:q0k):Option (Int × q0k):=zK 270 x
def s8a (x:q0k):Option (Int × q0k):=(bif (decide (x.2.1<(x.1.length:Int))) then (bif (y4p x.2.1 x.1.length) then (some ((IntKind.i64.wrap ((BitVec.ofInt (IntKind.i64).bits (IntKind.i64.wrap ((IntKind.i64.wrap ((BitVec.ofInt (IntKind.i64).bits (IntKind.i64.wrap ((BitVec.ofInt (IntKind.i64).bits (Int.fdiv (IntKind.i64.wrap ((IntKind.i64.wrap (x.2.2*6364136223846793005))+1442695040888963407)) (2^(min ((33:Int)).toNat (IntKind.i64).bits)))^^^BitVec.ofInt (IntKind.i64).bits (Int.fdiv (IntKind.i64.wrap ((IntKind.i64.wrap (x.2.2*6364136223846793005))+1442695040888963407)) (2^(min ((45:Int)).toNat (IntKind.i64).bits)))).toNat:Int)) &&& BitVec.ofInt (IntKind.i64).bits (255:Int)).toNat:Int))+(IntKind.i64.wrap (rdL (Ty.int .u8) x.1 (x.2.1).toNat)))) &&& BitVec.ofInt (IntKind.i64).bits (255:Int)).toNat:Int)),(x.1,((IntKind.i64.wrap (x.2.1+1)),(IntKind.i64.wrap ((IntKind.i64.wrap (x.2.2*6364136223846793005))+1442695040888963407)))))) else none) else (some ((IntKind.i64.wrap ((BitVec.ofInt (IntKind.i64).bits (IntKind.i64.wrap ((BitVec.ofInt (IntKind.i64).bits (Int.fdiv (IntKind.i64.wrap ((IntKind.i64.wrap (x.2.2*6364136223846793005))+1442695040888963407)) (2^(min ((33:Int)).toNat (IntKind.i64).bits)))^^^BitVec.ofInt (IntKind.i64).bits (Int.fdiv (IntKind.i64.wrap ((IntKind.i64.wrap (x.2.2*6364136223846793005))+1442695040888963407)) (2^(min ((45:Int)).toNat (IntKind.i64).bits)))).toNat:Int)) &&& BitVec.ofInt (IntKind.i64).bits (255:Int)).toNat:Int)),(x.1,(x.2.1,(IntKind.i64.wrap ((IntKind.i64.wrap (x.2.2*6364136223846793005))+1442695040888963407)))))))
theorem r9r:u49=s8a:=zC 270 Tryz.f270 rfl Tryz.func270 fun x=>by kernel_rfl
def u1u(x:p6q):Option (Int × q0k):=zK 140 x
def s5f (x:p6q):Option (Int × q0k):=(bif (decide (x.2≤0)) then (some (0,x.1)) else (bif (decide (x.2≤256)) then ((u49 x.1).bind fun y1=>(bif (!decide (x.2=0)) then (some ((Int.tmod y1.1 x.2),y1.2)) else none)) else ((u49 x.1).bind fun y2=>((u49 y2.2).bind fun y3=>((u49 y3.2).bind fun y4=>((u49 y4.2).bind fun y5=>(bif (!decide (x.2=0)) then (some ((Int.tmod (IntKind.i64.wrap ((IntKind.i64.wrap ((IntKind.i64.wrap ((IntKind.i64.wrap (y2.1*16777216))+(IntKind.i64.wrap (y3.1*65536))))+(IntKind.i64.wrap (y4.1*256))))+y5.1)) x.2),y5.2)) else none)))))))
theorem r7a:u1u=s5f:=zC 140 Tryz.f140 rfl Tryz.func140 fun x=>by kernel_rfl
def t87(x:Unit):Option Z90:=zK 223 x
def s7r (x:Unit):Option Z90:=(some (([] :List u0g.den),(([] :List u0a.den),(([] :List u0a.den),(0,1)))))
theorem s8w:t87=s7r:=zC 223 Tryz.f223 rfl Tryz.func223 fun x=>by kernel_rfl
def t5t(x:Unit):Option Z62:=zK 348 x
def s2f (x:Unit):Option Z62:=((t87 ()).bind fun y1=>(some (y1,([] :List u0a.den))))
theorem r5a:t5t=s2f:=zC 348 Tryz.f348 rfl Tryz.func348 fun x=>by kernel_rfl
def u53(x:Unit):Option Int:=zK 330 x
def r2p (x:Unit):Option Int:=(some (97:Int))
theorem t9y:u53=r2p:=zC 330 Tryz.f330 rfl Tryz.func330 fun x=>by kernel_rfl
def s9a(x:p23):Option ByteArray:=zK 394 x
def t5n(g:(Int × (Int × (q35 × Int)))→Option (q35 ⊕ Unit))(x:(Int × (Int × (q35 × Int)))):Option (q35 ⊕ Unit):=(bif (decide (x.2.2.2<x.1)) then (bif (y4p x.2.2.2 x.2.2.1.length) then (g (x.1,(x.2.1,((x.2.2.1.set (x.2.2.2).toNat x.2.1),(IntKind.i64.wrap (x.2.2.2+1)))))) else none) else (some (.inl x.2.2.1)))
def u7g:=lpW _ _ t5n
theorem s39 x:u7g x=t5n u7g x:=zW s3f 394 Tryz.f394 3 20 x (by kernel_rfl)
def s8b (x:p23):Option ByteArray:=(bif (decide (0≤x.1) && decide (x.1≤1099511627776)) then ((u7g (x.1,(x.2,((List.replicate (x.1).toNat ((Ty.int .u8)).zero),0)))).bind fun r1=>match r1 with | .inl o2=>(some (y7g o2)) | .inr z3=>none) else none)
theorem r9s:s9a=s8b:=zC 394 Tryz.f394 rfl Tryz.func394 fun x=>by kernel_rfl
def t9e(x:Unit):Option ByteArray:=zK 464 x
def s8g (x:Unit):Option ByteArray:=((s9a (64,0)).bind fun y1=>(some y1))
theorem r9w:t9e=s8g:=zC 464 Tryz.f464 rfl Tryz.func464 fun x=>by kernel_rfl
def s89(x:Int):Option r2q:=zK 418 x
def t5m(g:p9p→Option (p6h ⊕ Unit))(x:p9p):Option (p6h ⊕ Unit):=(bif (decide (x.2.2.2<x.1)) then ((t9e ()).bind fun y2=>(bif (Nat.ble (x.2.2.1.1.length+([y2] :List ByteArray).length) z7w) then (g (x.1,(x.2.1,(((x.2.2.1.1++([y2] :List ByteArray)),x.2.2.1.2),(IntKind.i64.wrap (x.2.2.2+1)))))) else none)) else (some (.inl (x.2.1,x.2.2.1))))
def u68:=lpW _ _ t5m
theorem s3w x:u68 x=t5m u68 x:=zW s21 418 Tryz.f418 5 23 x (by kernel_rfl)
def s7u (x:Int):Option r2q:=((u0o (x,(1,100))).bind fun y1=>(bif (!y1) then (some ((([] :List ByteArray),([] :List p0x.den)),false)) else ((u68 (x,((([] :List ByteArray),([] :List p0x.den)),((([] :List ByteArray),([] :List p0x.den)),0)))).bind fun r3=>match r3 with | .inl o4=>(some (o4.2,true)) | .inr z5=>none)))
theorem r9b:s89=s7u:=zC 418 Tryz.f418 rfl Tryz.func418 fun x=>by kernel_rfl
def s12(x:Unit):Option t7v:=zK 349 x
def r0v (x:Unit):Option t7v:=((u53 ()).bind fun y1=>((s89 y1).bind fun y2=>(some y2.1)))
theorem q23:s12=r0v:=zC 349 Tryz.f349 rfl Tryz.func349 fun x=>by kernel_rfl
def t7f(x:Unit):Option Z44:=zK 230 x
def s5a (x:Unit):Option Z44:=((t5t ()).bind fun y1=>((s12 ()).bind fun y2=>(some (y1,y2))))
theorem r66:t7f=s5a:=zC 230 Tryz.f230 rfl Tryz.func230 fun x=>by kernel_rfl
def u36(x:Z60):Option Int:=zK 49 x
def u8j(g:Z54→Option q6u)(x:Z54):Option q6u:=(bif (decide (x.2.2<(x.2.1.2.length:Int))) then (bif (y4p x.2.2 x.2.1.2.length) then (bif (decide ((rdL u0a x.2.1.2 (x.2.2).toNat).1=x.1)) then (some (.inr x.2.2)) else (g (x.1,(x.2.1,(IntKind.i64.wrap (x.2.2+1)))))) else none) else (some (.inl ())))
def u8q:=lpW _ _ u8j
theorem s6v x:u8q x=u8j u8q x:=zW s51 49 Tryz.f49 2 22 x (by kernel_rfl)
def r0w (x:Z60):Option Int:=((u8q (x.2,(x.1,0))).bind fun r1=>match r1 with | .inl o2=>(some (-1:Int)) | .inr z3=>(some z3))
theorem q24:u36=r0w:=zC 49 Tryz.f49 rfl Tryz.func49 fun x=>by kernel_rfl
def t7d(x:p8c):Option q34:=zK 242 x
def u9o(g:p76→Option (p9z ⊕ Unit))(x:p76):Option (p9z ⊕ Unit):=(bif (decide (x.2.2.2<(x.1.length:Int))) then (bif (y4p x.2.2.2 x.1.length) then (bif (y3c (rdL u13 x.1 (x.2.2.2).toNat).1 x.2.1.1) then (bif (y4p x.2.2.2 x.1.length) then (bif (Nat.ble (x.2.2.1.length+([(rdL u13 x.1 (x.2.2.2).toNat)] :List u13.den).length) z7w) then (g (x.1,(x.2.1,((x.2.2.1++([(rdL u13 x.1 (x.2.2.2).toNat)] :List u13.den)),(IntKind.i64.wrap (x.2.2.2+1)))))) else none) else none) else (g (x.1,(x.2.1,(x.2.2.1,(IntKind.i64.wrap (x.2.2.2+1))))))) else none) else (some (.inl (x.1,(x.2.1,x.2.2.1)))))
def u95:=lpW _ _ u9o
theorem s04 x:u95 x=u9o u95 x:=zW s0d 242 Tryz.f242 3 56 x (by kernel_rfl)
def u9p(g:p76→Option (q34 ⊕ Unit))(x:p76):Option (q34 ⊕ Unit):=(bif (decide (x.2.2.2<(x.1.length:Int))) then (bif (y4p x.2.2.2 x.1.length) then (bif (!(y3c (rdL u13 x.1 (x.2.2.2).toNat).1 x.2.1.1 || z7o (rdL u13 x.1 (x.2.2.2).toNat).1 x.2.1.1)) then (bif (y4p x.2.2.2 x.1.length) then (bif (Nat.ble (x.2.2.1.length+([(rdL u13 x.1 (x.2.2.2).toNat)] :List u13.den).length) z7w) then (g (x.1,(x.2.1,((x.2.2.1++([(rdL u13 x.1 (x.2.2.2).toNat)] :List u13.den)),(IntKind.i64.wrap (x.2.2.2+1)))))) else none) else none) else (g (x.1,(x.2.1,(x.2.2.1,(IntKind.i64.wrap (x.2.2.2+1))))))) else none) else (some (.inl x.2.2.1)))
def u96:=lpW _ _ u9p
theorem s05 x:u96 x=u9p u96 x:=zW s0e 242 Tryz.f242 9 56 x (by kernel_rfl)
def s45 (x:p8c):Option q34:=((u95 (x.1,(x.2,(([] :List u13.den),0)))).bind fun r1=>match r1 with | .inl o2=>(bif (Nat.ble (o2.2.2.length+([o2.2.1] :List u13.den).length) z7w) then ((u96 (o2.1,(o2.2.1,((o2.2.2++([o2.2.1] :List u13.den)),0)))).bind fun r3=>match r3 with | .inl o4=>(some o4) | .inr z5=>none) else none) | .inr z6=>none)
theorem r61:t7d=s45:=zC 242 Tryz.f242 rfl Tryz.func242 fun x=>by kernel_rfl
def t7h(x:Z80):Option Z96:=zK 111 x
def s5d (x:Z80):Option Z96:=((u0y x.1).bind fun y1=>((((u4a x.1).bind fun y2=>(bif (!y2) then (some true) else (bif (!decide (x.1.2.1=1)) then (some true) else ((t00 x.2).bind fun y3=>(some (!y3)))))):Option Bool).bind fun j4=>(bif j4 then (some (y1,false)) else ((t7d (x.1.2.2.2.2.2.1,x.2)).bind fun y5=>((t3k y5).bind fun y6=>(bif (!y6) then ((u0y x.1).bind fun y7=>(some (y7,false))) else (some ((y1.1,(y1.2.1,(y1.2.2.1,(y1.2.2.2.1,(y1.2.2.2.2.1,(y5,y1.2.2.2.2.2.2)))))),true))))))))
theorem r68:t7h=s5d:=zC 111 Tryz.f111 rfl Tryz.func111 fun x=>by kernel_rfl
def t0d(x:Z42):Option Z60:=zK 25 x
def r0z (x:Z42):Option Z60:=((u0n x.1).bind fun y1=>((u36 (x.1,x.2.1)).bind fun y2=>(bif (decide (y2<0)) then (some (y1,1)) else ((t00 x.2.2).bind fun y3=>(bif (!y3) then (some (y1,2)) else (bif (y4p y2 x.1.2.length) then ((t7h ((rdL u0a x.1.2 (y2).toNat),x.2.2)).bind fun y4=>(bif (!y4.2) then (some (y1,3)) else (bif (y4p y2 y1.2.length) then (some ((y1.1,(y1.2.set (y2).toNat y4.1)),0)) else none))) else none))))))
theorem q27:t0d=r0z:=zC 25 Tryz.f25 rfl Tryz.func25 fun x=>by kernel_rfl
def u0x(x:t7v):Option t7v:=zK 337 x
def s8f (x:t7v):Option t7v:=(bif (Nat.ble (([] :List ByteArray).length+x.1.length) z7w) then (bif (Nat.ble (([] :List p0x.den).length+x.2.length) z7w) then (some ((([] :List ByteArray)++x.1),(([] :List p0x.den)++x.2))) else none) else none)
theorem r9v:u0x=s8f:=zC 337 Tryz.f337 rfl Tryz.func337 fun x=>by kernel_rfl
def t9i(x:Z44):Option Z44:=zK 225 x
def s8s (x:Z44):Option Z44:=((u0n x.1).bind fun y1=>((u0x x.2).bind fun y2=>(some (y1,y2))))
theorem r98:t9i=s8s:=zC 225 Tryz.f225 rfl Tryz.func225 fun x=>by kernel_rfl
def u1a(x:Int):Option ByteArray:=zK 313 x
def s4l(g:(Int × q35)→Option ((Int × q35) ⊕ Unit))(x:(Int × q35)):Option ((Int × q35) ⊕ Unit):=(bif (decide (x.1 >127)) then (bif (Nat.ble (x.2.length+([(IntKind.u8.wrap (IntKind.i64.wrap ((Int.tmod x.1 (128:Int))+128)))] :List Int).length) z7w) then (g ((IntKind.i64.wrap (Int.tdiv x.1 (128:Int))),(x.2++([(IntKind.u8.wrap (IntKind.i64.wrap ((Int.tmod x.1 (128:Int))+128)))] :List Int)))) else none) else (some (.inl x)))
def t25:=lpW _ _ s4l
theorem r8j x:t25 x=s4l t25 x:=zW s56 313 Tryz.f313 2 22 x (by kernel_rfl)
def r05 (x:Int):Option ByteArray:=((t25 (x,([] :List Int))).bind fun r1=>match r1 with | .inl o2=>(bif (Nat.ble (o2.2.length+([(IntKind.u8.wrap o2.1)] :List Int).length) z7w) then (some (y7g (o2.2++([(IntKind.u8.wrap o2.1)] :List Int)))) else none) | .inr z3=>none)
theorem q3d:u1a=r05:=zC 313 Tryz.f313 rfl Tryz.func313 fun x=>by kernel_rfl
def t41(x:q6t):Option (Int × p4v):=zK 315 x
def t1l(g:o0r→Option (Unit ⊕ (Int × p4v)))(x:o0r):Option (Unit ⊕ (Int × p4v)):=(((bif (decide (x.2.2.2.2<(x.1.size:Int))) then (some (decide (x.2.2.2.2<(IntKind.i64.wrap (x.2.1+5))))) else (some false)):Option Bool).bind fun j2=>(bif j2 then (bif (y4p x.2.2.2.2 x.1.size) then (bif (y4p x.2.2.2.2 x.1.size) then (bif (decide (((x.1.data.toList.getD (x.2.2.2.2).toNat 0).toNat:Int)<(128:Int))) then (((bif (decide ((IntKind.i64.wrap (x.2.2.1+(IntKind.i64.wrap ((Int.tmod (IntKind.i64.wrap ((x.1.data.toList.getD (x.2.2.2.2).toNat 0).toNat:Int)) (128:Int))*x.2.2.2.1)))) >1000000000)) then (some true) else ((u1a (IntKind.i64.wrap (x.2.2.1+(IntKind.i64.wrap ((Int.tmod (IntKind.i64.wrap ((x.1.data.toList.getD (x.2.2.2.2).toNat 0).toNat:Int)) (128:Int))*x.2.2.2.1))))).bind fun y3=>(bif (decide (0≤x.2.1) && decide (x.2.1≤(IntKind.i64.wrap (x.2.2.2.2+1))) && decide ((IntKind.i64.wrap (x.2.2.2.2+1))≤(x.1.size:Int))) then (some (!z7o y3 (x.1.extract (x.2.1).toNat ((IntKind.i64.wrap (x.2.2.2.2+1))).toNat))) else none))):Option Bool).bind fun j4=>(bif j4 then (some (.inr (0,(0,false)))) else (some (.inr ((IntKind.i64.wrap (x.2.2.1+(IntKind.i64.wrap ((Int.tmod (IntKind.i64.wrap ((x.1.data.toList.getD (x.2.2.2.2).toNat 0).toNat:Int)) (128:Int))*x.2.2.2.1)))),((IntKind.i64.wrap (x.2.2.2.2+1)),true)))))) else (g (x.1,(x.2.1,((IntKind.i64.wrap (x.2.2.1+(IntKind.i64.wrap ((Int.tmod (IntKind.i64.wrap ((x.1.data.toList.getD (x.2.2.2.2).toNat 0).toNat:Int)) (128:Int))*x.2.2.2.1)))),((IntKind.i64.wrap (x.2.2.2.1*128)),(IntKind.i64.wrap (x.2.2.2.2+1)))))))) else none) else none) else (some (.inl ()))))
def t1w:=lpW _ _ t1l
theorem s32 x:t1w x=t1l t1w x:=zW s27 315 Tryz.f315 6 58 x (by kernel_rfl)
def s72 (x:q6t):Option (Int × p4v):=((u0o (x.2,(0,(x.1.size:Int)))).bind fun y1=>(bif (!y1) then (some (0,(0,false))) else ((t1w (x.1,(x.2,(0,(1,x.2))))).bind fun r5=>match r5 with | .inl o6=>(some (0,(0,false))) | .inr z7=>(some z7))))
theorem r9j:t41=s72:=zC 315 Tryz.f315 rfl Tryz.func315 fun x=>by kernel_rfl
def t16(x:q6t):Option q9a:=zK 310 x
def s2k (x:q6t):Option q9a:=((t41 x).bind fun y1=>(((bif (!y1.2.2) then (some true) else (bif (decide (y1.1 >20000)) then (some true) else (some (decide (y1.1 >(IntKind.i64.wrap ((x.1.size:Int) - y1.2.1))))))):Option Bool).bind fun j2=>(bif j2 then (some ((⟨#[]⟩:ByteArray),(0,false))) else (bif (decide (0≤y1.2.1) && decide (y1.2.1≤(IntKind.i64.wrap (y1.2.1+y1.1))) && decide ((IntKind.i64.wrap (y1.2.1+y1.1))≤(x.1.size:Int))) then (some ((x.1.extract (y1.2.1).toNat ((IntKind.i64.wrap (y1.2.1+y1.1))).toNat),((IntKind.i64.wrap (y1.2.1+y1.1)),true))) else none))))
theorem r5f:t16=s2k:=zC 310 Tryz.f310 rfl Tryz.func310 fun x=>by kernel_rfl
def u1c(x:q9a):Option o0s:=zK 180 x
def t6t (x:q9a):Option o0s:=((t16 (x.1,x.2.1)).bind fun y1=>(((bif x.2.2 then (some true) else (some (!y1.2.2))):Option Bool).bind fun j2=>(bif j2 then (some ((⟨#[]⟩:ByteArray),(x.1,(x.2.1,true)))) else (some (y1.1,(x.1,(y1.2.1,x.2.2)))))))
theorem s9u:u1c=t6t:=zC 180 Tryz.f180 rfl Tryz.func180 fun x=>by kernel_rfl
def u4f(x:q9a):Option (Bool × q9a):=zK 181 x
def t9u (x:q9a):Option (Bool × q9a):=(((bif x.2.2 then (some true) else (bif (decide (x.2.1≥(x.1.size:Int))) then (some true) else (bif (y4p x.2.1 x.1.size) then (some (decide (((x.1.data.toList.getD (x.2.1).toNat 0).toNat:Int) >(1:Int)))) else none))):Option Bool).bind fun j1=>(bif j1 then (some (false,(x.1,(x.2.1,true)))) else (bif (y4p (IntKind.i64.wrap ((IntKind.i64.wrap (x.2.1+1)) - 1)) x.1.size) then (some ((decide (((x.1.data.toList.getD ((IntKind.i64.wrap ((IntKind.i64.wrap (x.2.1+1)) - 1))).toNat 0).toNat:Int)=(1:Int))),(x.1,((IntKind.i64.wrap (x.2.1+1)),x.2.2)))) else none)))
theorem r26:u4f=t9u:=zC 181 Tryz.f181 rfl Tryz.func181 fun x=>by kernel_rfl
def u1x(x:q9a):Option (Int × q9a):=zK 186 x
def r09 (x:q9a):Option (Int × q9a):=((t41 (x.1,x.2.1)).bind fun y1=>(((bif x.2.2 then (some true) else (some (!y1.2.2))):Option Bool).bind fun j2=>(bif j2 then (some (0,(x.1,(x.2.1,true)))) else (some (y1.1,(x.1,(y1.2.1,x.2.2)))))))
theorem q3h:u1x=r09:=zC 186 Tryz.f186 rfl Tryz.func186 fun x=>by kernel_rfl
def t40(x:q6t):Option Z94:=zK 182 x
def t1k(g:Z25→Option (Z30 ⊕ Unit))(x:Z25):Option (Z30 ⊕ Unit):=(((bif (decide (x.2.2.2.2<x.2.2.2.1)) then (bif (decide (x.2.2.2.2<10)) then (some (!x.2.1.2.2)) else (some false)) else (some false)):Option Bool).bind fun j6=>(bif j6 then ((u1c x.2.1).bind fun y7=>((u1c y7.2).bind fun y8=>(bif (Nat.ble (x.2.2.1.2.2.2.2.1.length+([(y7.1,y8.1)] :List r8w.den).length) z7w) then (g (x.1,(y8.2,((x.2.2.1.1,(x.2.2.1.2.1,(x.2.2.1.2.2.1,(x.2.2.1.2.2.2.1,((x.2.2.1.2.2.2.2.1++([(y7.1,y8.1)] :List r8w.den)),x.2.2.1.2.2.2.2.2))))),(x.2.2.2.1,(IntKind.i64.wrap (x.2.2.2.2+1))))))) else none))) else (some (.inl (x.1,(x.2.1,x.2.2.1))))))
def u7b:=lpW _ _ t1k
theorem s31 x:u7b x=t1k u7b x:=zW s26 182 Tryz.f182 8 115 x (by kernel_rfl)
def u9r(g:Z25→Option (Z30 ⊕ Unit))(x:Z25):Option (Z30 ⊕ Unit):=(((bif (decide (x.2.2.2.2<x.2.2.2.1)) then (bif (decide (x.2.2.2.2<10)) then (some (!x.2.1.2.2)) else (some false)) else (some false)):Option Bool).bind fun j12=>(bif j12 then ((u1c x.2.1).bind fun y13=>((u1c y13.2).bind fun y14=>((u4f y14.2).bind fun y15=>(bif (Nat.ble (x.2.2.1.2.2.2.2.2.1.length+([(y13.1,(y14.1,y15.1))] :List u13.den).length) z7w) then (g (x.1,(y15.2,((x.2.2.1.1,(x.2.2.1.2.1,(x.2.2.1.2.2.1,(x.2.2.1.2.2.2.1,(x.2.2.1.2.2.2.2.1,((x.2.2.1.2.2.2.2.2.1++([(y13.1,(y14.1,y15.1))] :List u13.den)),x.2.2.1.2.2.2.2.2.2)))))),(x.2.2.2.1,(IntKind.i64.wrap (x.2.2.2.2+1))))))) else none)))) else (some (.inl (x.1,(x.2.1,x.2.2.1))))))
def u5p:=lpW _ _ u9r
theorem s07 x:u5p x=u9r u5p x:=zW s0g 182 Tryz.f182 15 115 x (by kernel_rfl)
def s71 (x:q6t):Option Z94:=((u1x (x.1,(x.2,false))).bind fun y1=>((u1x y1.2).bind fun y2=>((u1x y2.2).bind fun y3=>((u1x y3.2).bind fun y4=>((u1x y4.2).bind fun y5=>((u7b ((0,(0,(0,(0,(([] :List r8w.den),(([] :List u13.den),(false,(⟨#[]⟩:ByteArray)))))))),(y5.2,((y1.1,(y2.1,(y3.1,(y4.1,(([] :List r8w.den),(([] :List u13.den),(false,(⟨#[]⟩:ByteArray)))))))),(y5.1,0))))).bind fun r9=>match r9 with | .inl o10=>((u1x o10.2.1).bind fun y11=>((u5p (o10.1,(y11.2,(o10.2.2,(y11.1,0))))).bind fun r16=>match r16 with | .inl o17=>((u4f o17.2.1).bind fun y18=>((u1c y18.2).bind fun y19=>(((bif y19.2.2.2 then (some true) else ((u4a (o17.2.2.1,(o17.2.2.2.1,(o17.2.2.2.2.1,(o17.2.2.2.2.2.1,(o17.2.2.2.2.2.2.1,(o17.2.2.2.2.2.2.2.1,(y18.1,y19.1)))))))).bind fun y20=>(some (!y20)))):Option Bool).bind fun j21=>(bif j21 then (some ((0,(0,(0,(0,(([] :List r8w.den),(([] :List u13.den),(false,(⟨#[]⟩:ByteArray)))))))),(0,false))) else (some ((o17.2.2.1,(o17.2.2.2.1,(o17.2.2.2.2.1,(o17.2.2.2.2.2.1,(o17.2.2.2.2.2.2.1,(o17.2.2.2.2.2.2.2.1,(y18.1,y19.1))))))),(y19.2.2.1,true))))))) | .inr z22=>none)) | .inr z23=>none))))))
theorem r9i:t40=s71:=zC 182 Tryz.f182 rfl Tryz.func182 fun x=>by kernel_rfl
def u8h(x:(q9a × Int)):Option p94:=zK 187 x
def u2y(g:p9s→Option (p77 ⊕ p77))(x:p9s):Option (p77 ⊕ p77):=(((bif (decide (x.2.2.2.2<x.2.2.2.1)) then (bif (decide (x.2.2.2.2≤x.2.1)) then (some (!x.1.2.2)) else (some false)) else (some false)):Option Bool).bind fun j2=>(bif j2 then ((t40 (x.1.1,x.1.2.1)).bind fun y3=>(bif (!y3.2.2) then (some (.inr ((x.1.1,(x.1.2.1,true)),x.2.2.1))) else (bif (Nat.ble (x.2.2.1.length+([y3.1] :List u0a.den).length) z7w) then (g ((x.1.1,(y3.2.1,x.1.2.2)),(x.2.1,((x.2.2.1++([y3.1] :List u0a.den)),(x.2.2.2.1,(IntKind.i64.wrap (x.2.2.2.2+1))))))) else none))) else (some (.inl (x.1,x.2.2.1)))))
def u3y:=lpW _ _ u2y
theorem u5j x:u3y x=u2y u3y x:=zW t58 187 Tryz.f187 4 59 x (by kernel_rfl)
def t73 (x:(q9a × Int)):Option p94:=((u1x x.1).bind fun y1=>((u3y (y1.2,(x.2,(([] :List u0a.den),(y1.1,0))))).bind fun r4=>match r4 with | .inl o5=>(some (o5.2,o5.1)) | .inr z6=>(some (z6.2,z6.1))))
theorem r1p:u8h=t73:=zC 187 Tryz.f187 rfl Tryz.func187 fun x=>by kernel_rfl
def t7e(x:q6t):Option Z75:=zK 65 x
def u9q(g:Z16→Option (Z18 ⊕ Unit))(x:Z16):Option (Z18 ⊕ Unit):=(((bif (decide (x.2.2.2.2<x.2.2.2.1)) then (bif (decide (x.2.2.2.2<130)) then (some (!x.2.1.2.2)) else (some false)) else (some false)):Option Bool).bind fun j4=>(bif j4 then ((u1c x.2.1).bind fun y5=>((u1c y5.2).bind fun y6=>((u4f y6.2).bind fun y7=>((u1x y7.2).bind fun y8=>(bif (Nat.ble (x.2.2.1.1.length+([(y5.1,(y6.1,(y7.1,y8.1)))] :List u0g.den).length) z7w) then (g (x.1,(y8.2,(((x.2.2.1.1++([(y5.1,(y6.1,(y7.1,y8.1)))] :List u0g.den)),x.2.2.1.2),(x.2.2.2.1,(IntKind.i64.wrap (x.2.2.2.2+1))))))) else none))))) else (some (.inl (x.1,(x.2.1,x.2.2.1))))))
def u5o:=lpW _ _ u9q
theorem s06 x:u5o x=u9q u5o x:=zW s0f 65 Tryz.f65 6 79 x (by kernel_rfl)
def s47 (x:q6t):Option Z75:=((u1x (x.1,(x.2,false))).bind fun y1=>((u1x y1.2).bind fun y2=>((u1x y2.2).bind fun y3=>((u5o ((([] :List u0g.den),(([] :List u0a.den),(([] :List u0a.den),(0,0)))),(y3.2,((([] :List u0g.den),(([] :List u0a.den),(([] :List u0a.den),(y1.1,y2.1)))),(y3.1,0))))).bind fun r9=>match r9 with | .inl o10=>((u8h (o10.2.1,12)).bind fun y11=>((u8h (y11.2,3)).bind fun y12=>(((bif y12.2.2.2 then (some true) else ((u45 (o10.2.2.1,(y11.1,(y12.1,o10.2.2.2.2.2)))).bind fun y13=>(some (!y13)))):Option Bool).bind fun j14=>(bif j14 then (some ((([] :List u0g.den),(([] :List u0a.den),(([] :List u0a.den),(0,0)))),(0,false))) else (some ((o10.2.2.1,(y11.1,(y12.1,o10.2.2.2.2.2))),(y12.2.2.1,true))))))) | .inr z15=>none))))
theorem r63:t7e=s47:=zC 65 Tryz.f65 rfl Tryz.func65 fun x=>by kernel_rfl
def t3n(x:t19):Option Bool:=zK 190 x
def s5l (x:t19):Option Bool:=(((bif (decide (x.1=0)) then (bif (decide (x.2.1=0)) then (bif (decide (x.2.2.1=0)) then (bif (decide (x.2.2.2.1=0)) then (bif (decide ((x.2.2.2.2.1.length:Int)=(0:Int))) then (bif (decide ((x.2.2.2.2.2.1.length:Int)=(0:Int))) then (bif (!x.2.2.2.2.2.2.1) then (some (z7o x.2.2.2.2.2.2.2 (⟨#[]⟩:ByteArray))) else (some false)) else (some false)) else (some false)) else (some false)) else (some false)) else (some false)) else (some false)):Option Bool).bind fun j1=>(some j1))
theorem r7g:t3n=s5l:=zC 190 Tryz.f190 rfl Tryz.func190 fun x=>by kernel_rfl
def t5w(x:Z90):Option Bool:=zK 192 x
def s2m (x:Z90):Option Bool:=(((bif (decide (x.2.2.2.1=0)) then (bif (decide (x.2.2.2.2=0)) then (bif (decide ((x.1.length:Int)=(0:Int))) then (bif (decide ((x.2.1.length:Int)=(0:Int))) then (some (decide ((x.2.2.1.length:Int)=(0:Int)))) else (some false)) else (some false)) else (some false)) else (some false)):Option Bool).bind fun j1=>(some j1))
theorem r5h:t5w=s2m:=zC 192 Tryz.f192 rfl Tryz.func192 fun x=>by kernel_rfl
def t3i(x:Z24):Option Bool:=zK 66 x
def s48 (x:Z24):Option Bool:=((u0o (x.1,(1,4))).bind fun y1=>(bif (!y1) then (some false) else (((bif (decide (x.1=1)) then (some true) else (some (decide (x.1=2)))):Option Bool).bind fun j2=>(((bif j2 then ((u4a x.2.1).bind fun y3=>(bif (!y3) then (some true) else (bif (!j2) then ((t3n x.2.1).bind fun y4=>(bif (!y4) then (some true) else (bif (decide (x.1=1)) then (bif (!decide (x.2.1.2.1=3)) then (some true) else (bif (decide (x.1=2)) then (some (!decide (x.2.1.2.1=2))) else (some false))) else (bif (decide (x.1=2)) then (some (!decide (x.2.1.2.1=2))) else (some false))))) else (bif (decide (x.1=1)) then (bif (!decide (x.2.1.2.1=3)) then (some true) else (bif (decide (x.1=2)) then (some (!decide (x.2.1.2.1=2))) else (some false))) else (bif (decide (x.1=2)) then (some (!decide (x.2.1.2.1=2))) else (some false)))))) else (bif (!j2) then ((t3n x.2.1).bind fun y5=>(bif (!y5) then (some true) else (bif (decide (x.1=1)) then (bif (!decide (x.2.1.2.1=3)) then (some true) else (bif (decide (x.1=2)) then (some (!decide (x.2.1.2.1=2))) else (some false))) else (bif (decide (x.1=2)) then (some (!decide (x.2.1.2.1=2))) else (some false))))) else (bif (decide (x.1=1)) then (bif (!decide (x.2.1.2.1=3)) then (some true) else (bif (decide (x.1=2)) then (some (!decide (x.2.1.2.1=2))) else (some false))) else (bif (decide (x.1=2)) then (some (!decide (x.2.1.2.1=2))) else (some false))))):Option Bool).bind fun j6=>(bif j6 then (some false) else (((bif (decide (x.1=3)) then ((u38 x.2.2.1).bind fun y7=>(bif (!y7) then (some true) else (bif (!decide (x.1=3)) then (bif (!z7o x.2.2.1 (⟨#[]⟩:ByteArray)) then (some true) else (some x.2.2.2.1)) else (some false)))) else (bif (!decide (x.1=3)) then (bif (!z7o x.2.2.1 (⟨#[]⟩:ByteArray)) then (some true) else (some x.2.2.2.1)) else (some false))):Option Bool).bind fun j8=>(bif j8 then (some false) else (bif (decide (x.1=4)) then ((u45 x.2.2.2.2).bind fun y9=>(some y9)) else ((t5w x.2.2.2.2).bind fun y10=>(some y10))))))))))
theorem r64:t3i=s48:=zC 66 Tryz.f66 rfl Tryz.func66 fun x=>by kernel_rfl
def t43(x:Int):Option ByteArray:=zK 307 x
def s8e (x:Int):Option ByteArray:=(some (y7g ([(IntKind.u8.wrap (Int.fdiv x (2^(min ((24:Int)).toNat (IntKind.u32).bits)))),(IntKind.u8.wrap (Int.fdiv x (2^(min ((16:Int)).toNat (IntKind.u32).bits)))),(IntKind.u8.wrap (Int.fdiv x (2^(min ((8:Int)).toNat (IntKind.u32).bits)))),(IntKind.u8.wrap x)] :List Int)))
theorem s8x:t43=s8e:=zC 307 Tryz.f307 rfl Tryz.func307 fun x=>by kernel_rfl
def t9b(x:(Int × ByteArray)):Option Int:=zK 392 x
def s17(g:(Int × (ByteArray × p23))→Option ((Int × q6t) ⊕ Unit))(x:(Int × (ByteArray × p23))):Option ((Int × q6t) ⊕ Unit):=(bif (decide (x.2.2.2<8)) then (bif (decide ((Int.tmod x.1 (2:Int))=1)) then (g ((IntKind.u32.wrap ((BitVec.ofInt (IntKind.u32).bits (IntKind.u32.wrap (Int.tdiv x.1 (2:Int)))^^^BitVec.ofInt (IntKind.u32).bits (3558460437:Int)).toNat:Int)),(x.2.1,(x.2.2.1,(IntKind.i64.wrap (x.2.2.2+1)))))) else (g ((IntKind.u32.wrap (Int.tdiv x.1 (2:Int))),(x.2.1,(x.2.2.1,(IntKind.i64.wrap (x.2.2.2+1))))))) else (some (.inl (x.1,(x.2.1,x.2.2.1)))))
def t1y:=lpW _ _ s17
theorem r5m x:t1y x=s17 t1y x:=zW s3a 392 Tryz.f392 6 33 x (by kernel_rfl)
def t1m(g:(Int × q6t)→Option p02)(x:(Int × q6t)):Option p02:=(bif (decide (x.2.2<(x.2.1.size:Int))) then (bif (y4p x.2.2 x.2.1.size) then ((t1y ((IntKind.u32.wrap ((BitVec.ofInt (IntKind.u32).bits x.1^^^BitVec.ofInt (IntKind.u32).bits (IntKind.u32.wrap ((x.2.1.data.toList.getD (x.2.2).toNat 0).toNat:Int))).toNat:Int)),(x.2.1,(x.2.2,0)))).bind fun r1=>match r1 with | .inl o2=>(g (o2.1,(o2.2.1,(IntKind.i64.wrap (o2.2.2+1))))) | .inr z3=>(some (.inr ()))) else none) else (some (.inl x.1)))
def t1x:=lpW _ _ t1m
theorem s34 x:t1x x=t1m t1x x:=zW s29 392 Tryz.f392 2 33 x (by kernel_rfl)
def s74 (x:(Int × ByteArray)):Option Int:=((t1x (x.1,(x.2,0))).bind fun r4=>match r4 with | .inl o5=>(some o5) | .inr z6=>none)
theorem r9l:t9b=s74:=zC 392 Tryz.f392 rfl Tryz.func392 fun x=>by kernel_rfl
def t8k(x:ByteArray):Option Int:=zK 308 x
def s5b (x:ByteArray):Option Int:=((t9b (4294967295,x)).bind fun y1=>(some y1))
theorem r4g:t8k=s5b:=zC 308 Tryz.f308 rfl Tryz.func308 fun x=>by kernel_rfl
def t3j(x:ByteArray):Option r2k:=zK 178 x
def r01 (x:ByteArray):Option r2k:=(bif (decide ((x.size:Int) >(20000:Int))) then (some ((⟨#[]⟩:ByteArray),false)) else ((t8k x).bind fun y1=>((t43 y1).bind fun y2=>(bif (decide (x.size+y2.size≤140737488355328)) then (some ((x++y2),true)) else none))))
theorem q29:t3j=r01:=zC 178 Tryz.f178 rfl Tryz.func178 fun x=>by kernel_rfl
def u17(x:ByteArray):Option ByteArray:=zK 304 x
def s5k (x:ByteArray):Option ByteArray:=((u1a (x.size:Int)).bind fun y1=>(bif (decide (y1.size+x.size≤140737488355328)) then (some (y1++x)) else none))
theorem r7f:u17=s5k:=zC 304 Tryz.f304 rfl Tryz.func304 fun x=>by kernel_rfl
def t0g(x:Bool):Option ByteArray:=zK 305 x
def r08 (x:Bool):Option ByteArray:=(bif x then (some (⟨#[1]⟩:ByteArray)) else (some (⟨#[0]⟩:ByteArray)))
theorem q3g:t0g=r08:=zC 305 Tryz.f305 rfl Tryz.func305 fun x=>by kernel_rfl
def t42(x:t19):Option r2k:=zK 306 x
def t1q(g:Z91→Option (Z95 ⊕ Unit))(x:Z91):Option (Z95 ⊕ Unit):=(bif (decide (x.2.2<(x.1.2.2.2.2.1.length:Int))) then (bif (y4p x.2.2 x.1.2.2.2.2.1.length) then ((u17 (rdL r8w x.1.2.2.2.2.1 (x.2.2).toNat).1).bind fun y7=>(bif (decide (x.2.1.size+y7.size≤140737488355328)) then (bif (y4p x.2.2 x.1.2.2.2.2.1.length) then ((u17 (rdL r8w x.1.2.2.2.2.1 (x.2.2).toNat).2).bind fun y8=>(bif (decide ((x.2.1++y7).size+y8.size≤140737488355328)) then (g (x.1,(((x.2.1++y7)++y8),(IntKind.i64.wrap (x.2.2+1))))) else none)) else none) else none)) else none) else (some (.inl (x.1,x.2.1))))
def u7f:=lpW _ _ t1q
theorem s38 x:u7f x=t1q u7f x:=zW s3e 306 Tryz.f306 5 101 x (by kernel_rfl)
def u9v(g:Z91→Option (Z95 ⊕ Unit))(x:Z91):Option (Z95 ⊕ Unit):=(bif (decide (x.2.2<(x.1.2.2.2.2.2.1.length:Int))) then (bif (y4p x.2.2 x.1.2.2.2.2.2.1.length) then ((u17 (rdL u13 x.1.2.2.2.2.2.1 (x.2.2).toNat).1).bind fun y12=>(bif (decide (x.2.1.size+y12.size≤140737488355328)) then (bif (y4p x.2.2 x.1.2.2.2.2.2.1.length) then ((u17 (rdL u13 x.1.2.2.2.2.2.1 (x.2.2).toNat).2.1).bind fun y13=>(bif (decide ((x.2.1++y12).size+y13.size≤140737488355328)) then (bif (y4p x.2.2 x.1.2.2.2.2.2.1.length) then ((t0g (rdL u13 x.1.2.2.2.2.2.1 (x.2.2).toNat).2.2).bind fun y14=>(bif (decide (((x.2.1++y12)++y13).size+y14.size≤140737488355328)) then (g (x.1,((((x.2.1++y12)++y13)++y14),(IntKind.i64.wrap (x.2.2+1))))) else none)) else none) else none)) else none) else none)) else none) else (some (.inl (x.1,x.2.1))))
def u5r:=lpW _ _ u9v
theorem s1b x:u5r x=u9v u5r x:=zW s0k 306 Tryz.f306 10 101 x (by kernel_rfl)
def s78 (x:t19):Option r2k:=((u4a x).bind fun y1=>(bif (!y1) then (some ((⟨#[]⟩:ByteArray),false)) else ((u1a x.1).bind fun y2=>((u1a x.2.1).bind fun y3=>(bif (decide (y2.size+y3.size≤140737488355328)) then ((u1a x.2.2.1).bind fun y4=>(bif (decide ((y2++y3).size+y4.size≤140737488355328)) then ((u1a x.2.2.2.1).bind fun y5=>(bif (decide (((y2++y3)++y4).size+y5.size≤140737488355328)) then ((u1a (x.2.2.2.2.1.length:Int)).bind fun y6=>(bif (decide ((((y2++y3)++y4)++y5).size+y6.size≤140737488355328)) then ((u7f (x,(((((y2++y3)++y4)++y5)++y6),0))).bind fun r9=>match r9 with | .inl o10=>((u1a (o10.1.2.2.2.2.2.1.length:Int)).bind fun y11=>(bif (decide (o10.2.size+y11.size≤140737488355328)) then ((u5r (o10.1,((o10.2++y11),0))).bind fun r15=>match r15 with | .inl o16=>((t0g o16.1.2.2.2.2.2.2.1).bind fun y17=>(bif (decide (o16.2.size+y17.size≤140737488355328)) then ((u17 o16.1.2.2.2.2.2.2.2).bind fun y18=>(bif (decide ((o16.2++y17).size+y18.size≤140737488355328)) then (some (((o16.2++y17)++y18),true)) else none)) else none)) | .inr z19=>none) else none)) | .inr z20=>none) else none)) else none)) else none)) else none)))))
theorem r9p:t42=s78:=zC 306 Tryz.f306 rfl Tryz.func306 fun x=>by kernel_rfl
def t45(x:r8k):Option ByteArray:=zK 314 x
def t1u(g:o0c→Option (ByteArray ⊕ Unit))(x:o0c):Option (ByteArray ⊕ Unit):=(bif (decide (x.2.2<(x.1.length:Int))) then (bif (y4p x.2.2 x.1.length) then ((t42 (rdL u0a x.1 (x.2.2).toNat)).bind fun y2=>(bif (decide (x.2.1.size+y2.1.size≤140737488355328)) then (g (x.1,((x.2.1++y2.1),(IntKind.i64.wrap (x.2.2+1))))) else none)) else none) else (some (.inl x.2.1)))
def u7j:=lpW _ _ t1u
theorem s4d x:u7j x=t1u u7j x:=zW s3k 314 Tryz.f314 3 28 x (by kernel_rfl)
def s8p (x:r8k):Option ByteArray:=((u1a (x.length:Int)).bind fun y1=>((u7j (x,(y1,0))).bind fun r3=>match r3 with | .inl o4=>(some o4) | .inr z5=>none))
theorem r95:t45=s8p:=zC 314 Tryz.f314 rfl Tryz.func314 fun x=>by kernel_rfl
def t69(x:Z90):Option r2k:=zK 185 x
def u9l(g:Z72→Option (Z81 ⊕ Unit))(x:Z72):Option (Z81 ⊕ Unit):=(bif (decide (x.2.2<(x.1.1.length:Int))) then (bif (y4p x.2.2 x.1.1.length) then ((u17 (rdL u0g x.1.1 (x.2.2).toNat).1).bind fun y5=>(bif (decide (x.2.1.size+y5.size≤140737488355328)) then ((u17 (rdL u0g x.1.1 (x.2.2).toNat).2.1).bind fun y6=>(bif (decide ((x.2.1++y5).size+y6.size≤140737488355328)) then ((t0g (rdL u0g x.1.1 (x.2.2).toNat).2.2.1).bind fun y7=>(bif (decide (((x.2.1++y5)++y6).size+y7.size≤140737488355328)) then ((u1a (rdL u0g x.1.1 (x.2.2).toNat).2.2.2).bind fun y8=>(bif (decide ((((x.2.1++y5)++y6)++y7).size+y8.size≤140737488355328)) then (g (x.1,(((((x.2.1++y5)++y6)++y7)++y8),(IntKind.i64.wrap (x.2.2+1))))) else none)) else none)) else none)) else none)) else none) else (some (.inl (x.1,x.2.1))))
def u5n:=lpW _ _ u9l
theorem s01 x:u5n x=u9l u5n x:=zW s0a 185 Tryz.f185 5 60 x (by kernel_rfl)
def s40 (x:Z90):Option r2k:=((u45 x).bind fun y1=>(bif (!y1) then (some ((⟨#[]⟩:ByteArray),false)) else ((u1a x.2.2.2.1).bind fun y2=>((u1a x.2.2.2.2).bind fun y3=>(bif (decide (y2.size+y3.size≤140737488355328)) then ((u1a (x.1.length:Int)).bind fun y4=>(bif (decide ((y2++y3).size+y4.size≤140737488355328)) then ((u5n (x,(((y2++y3)++y4),0))).bind fun r9=>match r9 with | .inl o10=>((t45 o10.1.2.1).bind fun y11=>(bif (decide (o10.2.size+y11.size≤140737488355328)) then ((t45 o10.1.2.2.1).bind fun y12=>(bif (decide ((o10.2++y11).size+y12.size≤140737488355328)) then (some (((o10.2++y11)++y12),true)) else none)) else none)) | .inr z13=>none) else none)) else none)))))
theorem r6w:t69=s40:=zC 185 Tryz.f185 rfl Tryz.func185 fun x=>by kernel_rfl
def u2g(x:Z24):Option r2k:=zK 176 x
def t9q (x:Z24):Option r2k:=((t3i x).bind fun y1=>(bif (!y1) then (some ((⟨#[]⟩:ByteArray),false)) else (bif (decide (x.1=3)) then ((u17 x.2.2.1).bind fun y2=>(bif (decide ((y7g ([(IntKind.u8.wrap x.1)] :List Int)).size+y2.size≤140737488355328)) then ((t0g x.2.2.2.1).bind fun y3=>(bif (decide (((y7g ([(IntKind.u8.wrap x.1)] :List Int))++y2).size+y3.size≤140737488355328)) then ((t3j (((y7g ([(IntKind.u8.wrap x.1)] :List Int))++y2)++y3)).bind fun y4=>(some y4)) else none)) else none)) else (bif (decide (x.1=4)) then ((t69 x.2.2.2.2).bind fun y5=>(bif (decide ((y7g ([(IntKind.u8.wrap x.1)] :List Int)).size+y5.1.size≤140737488355328)) then ((t3j ((y7g ([(IntKind.u8.wrap x.1)] :List Int))++y5.1)).bind fun y6=>(some y6)) else none)) else ((t42 x.2.1).bind fun y7=>(bif (decide ((y7g ([(IntKind.u8.wrap x.1)] :List Int)).size+y7.1.size≤140737488355328)) then ((t3j ((y7g ([(IntKind.u8.wrap x.1)] :List Int))++y7.1)).bind fun y8=>(some y8)) else none))))))
theorem r22:u2g=t9q:=zC 176 Tryz.f176 rfl Tryz.func176 fun x=>by kernel_rfl
def t7g(x:ByteArray):Option r2k:=zK 177 x
def s5c (x:ByteArray):Option r2k:=(((bif (decide ((IntKind.i64.wrap ((x.size:Int) - (4:Int)))<0)) then (some true) else (bif (decide ((IntKind.i64.wrap ((x.size:Int) - (4:Int))) >20000)) then (some true) else (bif (decide (0≤(IntKind.i64.wrap ((x.size:Int) - (4:Int)))) && decide ((IntKind.i64.wrap ((x.size:Int) - (4:Int)))≤(x.size:Int)) && decide ((x.size:Int)≤(x.size:Int))) then (bif (decide (0≤(0:Int)) && decide ((0:Int)≤(IntKind.i64.wrap ((x.size:Int) - (4:Int)))) && decide ((IntKind.i64.wrap ((x.size:Int) - (4:Int)))≤(x.size:Int))) then ((t8k (x.extract ((0:Int)).toNat ((IntKind.i64.wrap ((x.size:Int) - (4:Int)))).toNat)).bind fun y1=>((t43 y1).bind fun y2=>(some (!z7o (x.extract ((IntKind.i64.wrap ((x.size:Int) - (4:Int)))).toNat ((x.size:Int)).toNat) y2)))) else none) else none))):Option Bool).bind fun j3=>(bif j3 then (some ((⟨#[]⟩:ByteArray),false)) else (bif (decide (0≤(0:Int)) && decide ((0:Int)≤(IntKind.i64.wrap ((x.size:Int) - (4:Int)))) && decide ((IntKind.i64.wrap ((x.size:Int) - (4:Int)))≤(x.size:Int))) then (some ((x.extract ((0:Int)).toNat ((IntKind.i64.wrap ((x.size:Int) - (4:Int)))).toNat),true)) else none)))
theorem r67:t7g=s5c:=zC 177 Tryz.f177 rfl Tryz.func177 fun x=>by kernel_rfl
def t36(x:ByteArray):Option Z22:=zK 60 x
def t9o (x:ByteArray):Option Z22:=((t7g x).bind fun y1=>(((bif (!y1.2) then (some true) else (some (z7o y1.1 (⟨#[]⟩:ByteArray)))):Option Bool).bind fun j2=>(bif j2 then (some ((0,((0,(0,(0,(0,(([] :List r8w.den),(([] :List u13.den),(false,(⟨#[]⟩:ByteArray)))))))),((⟨#[]⟩:ByteArray),(false,(([] :List u0g.den),(([] :List u0a.den),(([] :List u0a.den),(0,0)))))))),false)) else (bif (y4p (0:Int) y1.1.size) then (bif (decide ((IntKind.i64.wrap ((y1.1.data.toList.getD ((0:Int)).toNat 0).toNat:Int))=3)) then ((u1c (y1.1,(1,false))).bind fun y3=>((u4f y3.2).bind fun y4=>((u2g ((IntKind.i64.wrap ((y1.1.data.toList.getD ((0:Int)).toNat 0).toNat:Int)),((0,(0,(0,(0,(([] :List r8w.den),(([] :List u13.den),(false,(⟨#[]⟩:ByteArray)))))))),(y3.1,(y4.1,(([] :List u0g.den),(([] :List u0a.den),(([] :List u0a.den),(0,0))))))))).bind fun y5=>(((bif (!y5.2) then (some true) else (some (!z7o y5.1 x))):Option Bool).bind fun j6=>(bif j6 then (some ((0,((0,(0,(0,(0,(([] :List r8w.den),(([] :List u13.den),(false,(⟨#[]⟩:ByteArray)))))))),((⟨#[]⟩:ByteArray),(false,(([] :List u0g.den),(([] :List u0a.den),(([] :List u0a.den),(0,0)))))))),false)) else (some (((IntKind.i64.wrap ((y1.1.data.toList.getD ((0:Int)).toNat 0).toNat:Int)),((0,(0,(0,(0,(([] :List r8w.den),(([] :List u13.den),(false,(⟨#[]⟩:ByteArray)))))))),(y3.1,(y4.1,(([] :List u0g.den),(([] :List u0a.den),(([] :List u0a.den),(0,0)))))))),true))))))) else (bif (decide ((IntKind.i64.wrap ((y1.1.data.toList.getD ((0:Int)).toNat 0).toNat:Int))=4)) then ((t7e (y1.1,1)).bind fun y7=>((u2g ((IntKind.i64.wrap ((y1.1.data.toList.getD ((0:Int)).toNat 0).toNat:Int)),((0,(0,(0,(0,(([] :List r8w.den),(([] :List u13.den),(false,(⟨#[]⟩:ByteArray)))))))),((⟨#[]⟩:ByteArray),(false,y7.1))))).bind fun y8=>(((bif (!y8.2) then (some true) else (some (!z7o y8.1 x))):Option Bool).bind fun j9=>(bif j9 then (some ((0,((0,(0,(0,(0,(([] :List r8w.den),(([] :List u13.den),(false,(⟨#[]⟩:ByteArray)))))))),((⟨#[]⟩:ByteArray),(false,(([] :List u0g.den),(([] :List u0a.den),(([] :List u0a.den),(0,0)))))))),false)) else (some (((IntKind.i64.wrap ((y1.1.data.toList.getD ((0:Int)).toNat 0).toNat:Int)),((0,(0,(0,(0,(([] :List r8w.den),(([] :List u13.den),(false,(⟨#[]⟩:ByteArray)))))))),((⟨#[]⟩:ByteArray),(false,y7.1)))),true)))))) else ((t40 (y1.1,1)).bind fun y10=>((u2g ((IntKind.i64.wrap ((y1.1.data.toList.getD ((0:Int)).toNat 0).toNat:Int)),(y10.1,((⟨#[]⟩:ByteArray),(false,(([] :List u0g.den),(([] :List u0a.den),(([] :List u0a.den),(0,0))))))))).bind fun y11=>(((bif (!y11.2) then (some true) else (some (!z7o y11.1 x))):Option Bool).bind fun j12=>(bif j12 then (some ((0,((0,(0,(0,(0,(([] :List r8w.den),(([] :List u13.den),(false,(⟨#[]⟩:ByteArray)))))))),((⟨#[]⟩:ByteArray),(false,(([] :List u0g.den),(([] :List u0a.den),(([] :List u0a.den),(0,0)))))))),false)) else (some (((IntKind.i64.wrap ((y1.1.data.toList.getD ((0:Int)).toNat 0).toNat:Int)),(y10.1,((⟨#[]⟩:ByteArray),(false,(([] :List u0g.den),(([] :List u0a.den),(([] :List u0a.den),(0,0)))))))),true)))))))) else none))))
theorem r20:t36=t9o:=zC 60 Tryz.f60 rfl Tryz.func60 fun x=>by kernel_rfl
def t7c(x:Z62):Option Int:=zK 105 x
def u9n(g:p6i→Option p02)(x:p6i):Option p02:=(bif (decide (x.2.2<(x.1.length:Int))) then (bif (y4p x.2.2 x.1.length) then (bif (decide ((rdL u0a x.1 (x.2.2).toNat).2.2.1<x.2.1)) then (bif (y4p x.2.2 x.1.length) then (g (x.1,((rdL u0a x.1 (x.2.2).toNat).2.2.1,(IntKind.i64.wrap (x.2.2+1))))) else none) else (g (x.1,(x.2.1,(IntKind.i64.wrap (x.2.2+1)))))) else none) else (some (.inl x.2.1)))
def u94:=lpW _ _ u9n
theorem s03 x:u94 x=u9n u94 x:=zW s0c 105 Tryz.f105 3 28 x (by kernel_rfl)
def s44 (x:Z62):Option Int:=((u94 (x.2,(x.1.2.2.2.1,0))).bind fun r1=>match r1 with | .inl o2=>(some o2) | .inr z3=>none)
theorem r60:t7c=s44:=zC 105 Tryz.f105 rfl Tryz.func105 fun x=>by kernel_rfl
def t9d(x:p6p):Option q0l:=zK 107 x
def t1p(g:p96→Option p8m)(x:p96):Option p8m:=(bif (decide (x.2.2.2<(x.1.length:Int))) then (bif (y4p x.2.2.2 x.1.length) then ((t8l (x.1,((rdL u0g x.1 (x.2.2.2).toNat).1,x.2.1))).bind fun y1=>(((bif (y4p x.2.2.2 x.1.length) then (bif (decide ((rdL u0g x.1 (x.2.2.2).toNat).2.2.2 >x.2.1)) then (some true) else (some (decide (y1=x.2.2.2)))) else none):Option Bool).bind fun j2=>(bif j2 then (bif (y4p x.2.2.2 x.1.length) then (bif (Nat.ble (x.2.2.1.length+([(rdL u0g x.1 (x.2.2.2).toNat)] :List u0g.den).length) z7w) then (g (x.1,(x.2.1,((x.2.2.1++([(rdL u0g x.1 (x.2.2.2).toNat)] :List u0g.den)),(IntKind.i64.wrap (x.2.2.2+1)))))) else none) else none) else (g (x.1,(x.2.1,(x.2.2.1,(IntKind.i64.wrap (x.2.2.2+1))))))))) else none) else (some (.inl (x.2.1,x.2.2.1))))
def u7e:=lpW _ _ t1p
theorem s37 x:u7e x=t1p u7e x:=zW s3d 107 Tryz.f107 3 99 x (by kernel_rfl)
def u9u(g:p91→Option (p88 ⊕ Unit))(x:p91):Option (p88 ⊕ Unit):=(bif (decide (x.2.2.2.2.2<(x.2.1.length:Int))) then (bif (y4p x.2.2.2.2.2 x.2.1.length) then (bif (y4p x.2.2.2.1 x.2.1.length) then (bif (z7o (rdL u0g x.2.1 (x.2.2.2.2.2).toNat).1 (rdL u0g x.2.1 (x.2.2.2.1).toNat).1) then (g (x.1,(x.2.1,(x.2.2.1,(x.2.2.2.1,((IntKind.i64.wrap (x.2.2.2.2.1+1)),(IntKind.i64.wrap (x.2.2.2.2.2+1)))))))) else (g (x.1,(x.2.1,(x.2.2.1,(x.2.2.2.1,(x.2.2.2.2.1,(IntKind.i64.wrap (x.2.2.2.2.2+1))))))))) else none) else none) else (some (.inl (x.1,(x.2.1,(x.2.2.1,(x.2.2.2.1,x.2.2.2.2.1)))))))
def u5q:=lpW _ _ u9u
theorem s1a x:u5q x=u9u u5q x:=zW s0j 107 Tryz.f107 14 99 x (by kernel_rfl)
def u9t(g:p98→Option p6n)(x:p98):Option p6n:=(bif (decide (x.2.2.2<(x.2.1.length:Int))) then ((u5q (x.1,(x.2.1,(x.2.2.1,(x.2.2.2,(0,0)))))).bind fun r5=>match r5 with | .inl o6=>(((bif (y4p o6.2.2.2.1 o6.2.1.length) then (bif (!(rdL u0g o6.2.1 (o6.2.2.2.1).toNat).2.2.1) then (some true) else (bif (y4p o6.2.2.2.1 o6.2.1.length) then (bif (decide ((rdL u0g o6.2.1 (o6.2.2.2.1).toNat).2.2.2 >o6.1)) then (some true) else (some (decide (o6.2.2.2.2 >1)))) else none)) else none):Option Bool).bind fun j7=>(bif j7 then (bif (y4p o6.2.2.2.1 o6.2.1.length) then (bif (Nat.ble (o6.2.2.1.length+([(rdL u0g o6.2.1 (o6.2.2.2.1).toNat)] :List u0g.den).length) z7w) then (g (o6.1,(o6.2.1,((o6.2.2.1++([(rdL u0g o6.2.1 (o6.2.2.2.1).toNat)] :List u0g.den)),(IntKind.i64.wrap (o6.2.2.2.1+1)))))) else none) else none) else (g (o6.1,(o6.2.1,(o6.2.2.1,(IntKind.i64.wrap (o6.2.2.2.1+1)))))))) | .inr z8=>(some (.inr ()))) else (some (.inl x.2.2.1)))
def u97:=lpW _ _ u9t
theorem s09 x:u97 x=u9t u97 x:=zW s0i 107 Tryz.f107 10 99 x (by kernel_rfl)
def s77 (x:p6p):Option q0l:=((u7e (x.1,(x.2,(([] :List u0g.den),0)))).bind fun r3=>match r3 with | .inl o4=>((u97 (o4.1,(o4.2,(([] :List u0g.den),0)))).bind fun r9=>match r9 with | .inl o10=>(some o10) | .inr z11=>none) | .inr z12=>none)
theorem r9o:t9d=s77:=zC 107 Tryz.f107 rfl Tryz.func107 fun x=>by kernel_rfl
def t0f(x:Z62):Option Z90:=zK 21 x
def t2x(g:Z10→Option (Z11 ⊕ Unit))(x:Z10):Option (Z11 ⊕ Unit):=(bif (decide (x.2.2.2.2<(x.1.2.1.length:Int))) then (bif (y4p x.2.2.2.2 x.1.2.1.length) then (bif (decide ((rdL u0a x.1.2.1 (x.2.2.2.2).toNat).2.2.2.1 >x.2.2.2.1)) then (bif (y4p x.2.2.2.2 x.1.2.1.length) then ((u0y (rdL u0a x.1.2.1 (x.2.2.2.2).toNat)).bind fun y3=>(bif (Nat.ble (x.2.2.1.2.1.length+([y3] :List u0a.den).length) z7w) then (g (x.1,(x.2.1,((x.2.2.1.1,((x.2.2.1.2.1++([y3] :List u0a.den)),x.2.2.1.2.2)),(x.2.2.2.1,(IntKind.i64.wrap (x.2.2.2.2+1))))))) else none)) else none) else (g (x.1,(x.2.1,(x.2.2.1,(x.2.2.2.1,(IntKind.i64.wrap (x.2.2.2.2+1)))))))) else none) else (some (.inl (x.1,(x.2.1,(x.2.2.1,x.2.2.2.1))))))
def t24:=lpW _ _ t2x
theorem s6y x:t24 x=t2x t24 x:=zW s54 21 Tryz.f21 5 47 x (by kernel_rfl)
def r03 (x:Z62):Option Z90:=((u18 x.1).bind fun y1=>((t7c x).bind fun y2=>((t24 (x.1,((([] :List u0g.den),(([] :List u0a.den),(([] :List u0a.den),(0,0)))),((y1.1,(([] :List u0a.den),y1.2.2)),(y2,0))))).bind fun r4=>match r4 with | .inl o5=>((t9d (o5.1.1,o5.2.2.2)).bind fun y6=>(some (y6,o5.2.2.1.2))) | .inr z7=>none)))
theorem q3b:t0f=r03:=zC 21 Tryz.f21 rfl Tryz.func21 fun x=>by kernel_rfl
def s1y(x:Z47):Option Bool:=zK 287 x
def r0p (x:Z47):Option Bool:=(bif (decide (x.1.1=x.2.1)) then (some false) else (((bif (decide (x.1.2.1=3)) then (bif (decide (x.1.2.2.2.1≤x.2.2.2.1)) then (some true) else (bif (decide (x.2.2.1=3)) then (some (decide (x.2.2.2.2.1≤x.1.2.2.1))) else (some false))) else (bif (decide (x.2.2.1=3)) then (some (decide (x.2.2.2.2.1≤x.1.2.2.1))) else (some false))):Option Bool).bind fun j1=>(bif j1 then (some false) else (some true))))
theorem q2x:s1y=r0p:=zC 287 Tryz.f287 rfl Tryz.func287 fun x=>by kernel_rfl
def t4y(x:p8i):Option Bool:=zK 281 x
def s7w (x:p8i):Option Bool:=(((bif (!y3c x.2 x.1.1) then (some (y3c x.2 x.1.2 || z7o x.2 x.1.2)) else (some false)):Option Bool).bind fun j1=>(some j1))
theorem r9d:t4y=s7w:=zC 281 Tryz.f281 rfl Tryz.func281 fun x=>by kernel_rfl
def t9c(x:o0u):Option Bool:=zK 288 x
def t1o(g:o0g→Option (p8f ⊕ Bool))(x:o0g):Option (p8f ⊕ Bool):=(bif (decide (x.2.2.2<(x.2.1.length:Int))) then (bif (y4p x.2.2.1 x.1.length) then (bif (y4p x.2.2.2 x.2.1.length) then ((t4y ((rdL r8w x.1 (x.2.2.1).toNat),(rdL u13 x.2.1 (x.2.2.2).toNat).1)).bind fun y1=>(bif y1 then (some (.inr true)) else (g (x.1,(x.2.1,(x.2.2.1,(IntKind.i64.wrap (x.2.2.2+1)))))))) else none) else none) else (some (.inl (x.1,(x.2.1,x.2.2.1)))))
def u7d:=lpW _ _ t1o
theorem s36 x:u7d x=t1o u7d x:=zW s3c 288 Tryz.f288 5 29 x (by kernel_rfl)
def t1n(g:p8f→Option r4v)(x:p8f):Option r4v:=(bif (decide (x.2.2<(x.1.length:Int))) then ((u7d (x.1,(x.2.1,(x.2.2,0)))).bind fun r2=>match r2 with | .inl o3=>(g (o3.1,(o3.2.1,(IntKind.i64.wrap (o3.2.2+1))))) | .inr z4=>(some (.inr z4))) else (some (.inl ())))
def t1z:=lpW _ _ t1n
theorem s35 x:t1z x=t1n t1z x:=zW s3b 288 Tryz.f288 2 29 x (by kernel_rfl)
def s76 (x:o0u):Option Bool:=((t1z (x.1,(x.2,0))).bind fun r5=>match r5 with | .inl o6=>(some false) | .inr z7=>(some z7))
theorem r9n:t9c=s76:=zC 288 Tryz.f288 rfl Tryz.func288 fun x=>by kernel_rfl
def u11(x:Z47):Option Bool:=zK 162 x
def r3z (x:Z47):Option Bool:=((((s1y x).bind fun y1=>(bif y1 then ((t9c (x.1.2.2.2.2.1,x.2.2.2.2.2.2.1)).bind fun y2=>(some y2)) else (some false))):Option Bool).bind fun j3=>(some j3))
theorem q43:u11=r3z:=zC 162 Tryz.f162 rfl Tryz.func162 fun x=>by kernel_rfl
def t5h(x:Z76):Option Bool:=zK 161 x
def t4j(g:Z68→Option r4v)(x:Z68):Option r4v:=(bif (decide (x.2.2<(x.1.length:Int))) then (((bif (y4p x.2.2 x.1.length) then (bif (decide ((rdL u0a x.1 (x.2.2).toNat).2.1=3)) then (bif (y4p x.2.2 x.1.length) then ((u11 (x.2.1,(rdL u0a x.1 (x.2.2).toNat))).bind fun y1=>(some y1)) else none) else (some false)) else none):Option Bool).bind fun j2=>(bif j2 then (some (.inr true)) else (g (x.1,(x.2.1,(IntKind.i64.wrap (x.2.2+1))))))) else (some (.inl ())))
def t4q:=lpW _ _ t4j
theorem s9j x:t4q x=t4j t4q x:=zW s86 161 Tryz.f161 2 26 x (by kernel_rfl)
def r36 (x:Z76):Option Bool:=((t4q (x.2,(x.1,0))).bind fun r3=>match r3 with | .inl o4=>(some false) | .inr z5=>(some z5))
theorem q5a:t5h=r36:=zC 161 Tryz.f161 rfl Tryz.func161 fun x=>by kernel_rfl
def u8f(x:o0k):Option q0l:=zK 379 x
def u5f(g:Z73→Option (Z73 ⊕ Unit))(x:Z73):Option (Z73 ⊕ Unit):=(((bif (decide (x.2.2.2.2.2.2<(x.2.2.1.length:Int))) then (bif (y4p x.2.2.2.2.2.2 x.2.2.1.length) then (bif (y3c (rdL u0g x.2.2.1 (x.2.2.2.2.2.2).toNat).1 x.2.2.2.2.1.1) then (some true) else (bif (y4p x.2.2.2.2.2.2 x.2.2.1.length) then (bif (z7o (rdL u0g x.2.2.1 (x.2.2.2.2.2.2).toNat).1 x.2.2.2.2.1.1) then (bif (y4p x.2.2.2.2.2.2 x.2.2.1.length) then (some (decide ((rdL u0g x.2.2.1 (x.2.2.2.2.2.2).toNat).2.2.2≤x.2.2.2.2.1.2.2.2))) else none) else (some false)) else none)) else none) else (some false)):Option Bool).bind fun j1=>(bif j1 then (bif (y4p x.2.2.2.2.2.2 x.2.2.1.length) then (bif (Nat.ble (x.2.2.2.2.2.1.length+([(rdL u0g x.2.2.1 (x.2.2.2.2.2.2).toNat)] :List u0g.den).length) z7w) then (g (x.1,(x.2.1,(x.2.2.1,(x.2.2.2.1,(x.2.2.2.2.1,((x.2.2.2.2.2.1++([(rdL u0g x.2.2.1 (x.2.2.2.2.2.2).toNat)] :List u0g.den)),(IntKind.i64.wrap (x.2.2.2.2.2.2+1))))))))) else none) else none) else (some (.inl x))))
def u3w:=lpW _ _ u5f
theorem t6a x:u3w x=u5f u3w x:=zW t56 379 Tryz.f379 8 93 x (by kernel_rfl)
def u5e(g:o0a→Option p6n)(x:o0a):Option p6n:=(bif (decide (x.2.2.2<(x.1.length:Int))) then (bif (y4p x.2.2.2 x.1.length) then (bif (y4p x.2.2.2 x.1.length) then (bif (y4p x.2.2.2 x.1.length) then ((u3w (x.1,(x.2.1,(x.2.2.1,(x.2.2.2,(((rdL u13 x.1 (x.2.2.2).toNat).1,((rdL u13 x.1 (x.2.2.2).toNat).2.1,((rdL u13 x.1 (x.2.2.2).toNat).2.2,x.2.1))),(([] :List u0g.den),0))))))).bind fun r2=>match r2 with | .inl o3=>(bif (Nat.ble (o3.2.2.2.2.2.1.length+([o3.2.2.2.2.1] :List u0g.den).length) z7w) then (bif (decide (0≤o3.2.2.2.2.2.2) && decide (o3.2.2.2.2.2.2≤(o3.2.2.1.length:Int)) && decide ((o3.2.2.1.length:Int)≤(o3.2.2.1.length:Int))) then (bif (Nat.ble ((o3.2.2.2.2.2.1++([o3.2.2.2.2.1] :List u0g.den)).length+((o3.2.2.1.take ((o3.2.2.1.length:Int)).toNat).drop (o3.2.2.2.2.2.2).toNat).length) z7w) then (g (o3.1,(o3.2.1,(((o3.2.2.2.2.2.1++([o3.2.2.2.2.1] :List u0g.den))++((o3.2.2.1.take ((o3.2.2.1.length:Int)).toNat).drop (o3.2.2.2.2.2.2).toNat)),(IntKind.i64.wrap (o3.2.2.2.1+1)))))) else none) else none) else none) | .inr z4=>(some (.inr ()))) else none) else none) else none) else (some (.inl x.2.2.1)))
def u5h:=lpW _ _ u5e
theorem t59 x:u5h x=u5e u5h x:=zW t55 379 Tryz.f379 3 93 x (by kernel_rfl)
def t70 (x:o0k):Option q0l:=(bif (Nat.ble (([] :List u0g.den).length+x.1.length) z7w) then ((u5h (x.2.1,(x.2.2,((([] :List u0g.den)++x.1),0)))).bind fun r5=>match r5 with | .inl o6=>(some o6) | .inr z7=>none) else none)
theorem r1l:u8f=t70:=zC 379 Tryz.f379 rfl Tryz.func379 fun x=>by kernel_rfl
def u39(x:Z33):Option Z90:=zK 318 x
def u9s(g:Z3→Option (Z13 ⊕ Unit))(x:Z3):Option (Z13 ⊕ Unit):=(bif (decide (x.2.2.2.2.2<(x.1.2.2.1.length:Int))) then (bif (y4p x.2.2.2.2.2 x.1.2.2.1.length) then ((u0y (rdL u0a x.1.2.2.1 (x.2.2.2.2.2).toNat)).bind fun y4=>(bif (decide (y4.1=x.2.1.1)) then (g (x.1,(x.2.1,(x.2.2.1,(x.2.2.2.1,(x.2.2.2.2.1,(IntKind.i64.wrap (x.2.2.2.2.2+1)))))))) else ((u11 (y4,x.2.2.2.2.1)).bind fun y5=>(bif y5 then (bif (Nat.ble (x.2.2.2.1.2.2.1.length+([(y4.1,(y4.2.1,(y4.2.2.1,(y4.2.2.2.1,(y4.2.2.2.2.1,(y4.2.2.2.2.2.1,(true,y4.2.2.2.2.2.2.2)))))))] :List u0a.den).length) z7w) then (g (x.1,(x.2.1,(x.2.2.1,((x.2.2.2.1.1,(x.2.2.2.1.2.1,((x.2.2.2.1.2.2.1++([(y4.1,(y4.2.1,(y4.2.2.1,(y4.2.2.2.1,(y4.2.2.2.2.1,(y4.2.2.2.2.2.1,(true,y4.2.2.2.2.2.2.2)))))))] :List u0a.den)),x.2.2.2.1.2.2.2))),(x.2.2.2.2.1,(IntKind.i64.wrap (x.2.2.2.2.2+1)))))))) else none) else (bif (Nat.ble (x.2.2.2.1.2.2.1.length+([y4] :List u0a.den).length) z7w) then (g (x.1,(x.2.1,(x.2.2.1,((x.2.2.2.1.1,(x.2.2.2.1.2.1,((x.2.2.2.1.2.2.1++([y4] :List u0a.den)),x.2.2.2.1.2.2.2))),(x.2.2.2.2.1,(IntKind.i64.wrap (x.2.2.2.2.2+1)))))))) else none))))) else none) else (some (.inl (x.2.1,(x.2.2.1,x.2.2.2.1)))))
def u4c:=lpW _ _ u9s
theorem s08 x:u4c x=u9s u4c x:=zW s0h 318 Tryz.f318 12 85 x (by kernel_rfl)
def s75 (x:Z33):Option Z90:=((u18 x.1).bind fun y1=>((u0y x.2).bind fun y2=>(bif x.2.2.2.2.2.2.2.1 then ((u8f (x.1.1,(y2.2.2.2.2.2.1,(IntKind.i64.wrap (x.1.2.2.2.1+1))))).bind fun y3=>(bif (Nat.ble (y1.2.1.length+([(y2.1,(3,(y2.2.2.1,((IntKind.i64.wrap (x.1.2.2.2.1+1)),(y2.2.2.2.2.1,(y2.2.2.2.2.2.1,(true,(⟨#[]⟩:ByteArray))))))))] :List u0a.den).length) z7w) then ((u4c (x.1,(x.2,((([] :List u0g.den),(([] :List u0a.den),(([] :List u0a.den),(0,0)))),((y3,((y1.2.1++([(y2.1,(3,(y2.2.2.1,((IntKind.i64.wrap (x.1.2.2.2.1+1)),(y2.2.2.2.2.1,(y2.2.2.2.2.2.1,(true,(⟨#[]⟩:ByteArray))))))))] :List u0a.den)),(([] :List u0a.den),((IntKind.i64.wrap (x.1.2.2.2.1+1)),y1.2.2.2.2)))),((y2.1,(3,(y2.2.2.1,((IntKind.i64.wrap (x.1.2.2.2.1+1)),(y2.2.2.2.2.1,(y2.2.2.2.2.2.1,(true,(⟨#[]⟩:ByteArray)))))))),0)))))).bind fun r6=>match r6 with | .inl o7=>(bif (decide (o7.1.1≥o7.2.2.2.2.2.2)) then (some (o7.2.2.1,(o7.2.2.2.1,(o7.2.2.2.2.1,(o7.2.2.2.2.2.1,(IntKind.i64.wrap (o7.1.1+1))))))) else (some o7.2.2)) | .inr z8=>none) else none)) else ((t5h (x.2,x.1.2.1)).bind fun y9=>((u8f (x.1.1,(y2.2.2.2.2.2.1,(IntKind.i64.wrap (x.1.2.2.2.1+1))))).bind fun y10=>(bif (Nat.ble (y1.2.1.length+([(y2.1,(3,(y2.2.2.1,((IntKind.i64.wrap (x.1.2.2.2.1+1)),(y2.2.2.2.2.1,(y2.2.2.2.2.2.1,(y9,(⟨#[]⟩:ByteArray))))))))] :List u0a.den).length) z7w) then ((u4c (x.1,(x.2,((([] :List u0g.den),(([] :List u0a.den),(([] :List u0a.den),(0,0)))),((y10,((y1.2.1++([(y2.1,(3,(y2.2.2.1,((IntKind.i64.wrap (x.1.2.2.2.1+1)),(y2.2.2.2.2.1,(y2.2.2.2.2.2.1,(y9,(⟨#[]⟩:ByteArray))))))))] :List u0a.den)),(([] :List u0a.den),((IntKind.i64.wrap (x.1.2.2.2.1+1)),y1.2.2.2.2)))),((y2.1,(3,(y2.2.2.1,((IntKind.i64.wrap (x.1.2.2.2.1+1)),(y2.2.2.2.2.1,(y2.2.2.2.2.2.1,(y9,(⟨#[]⟩:ByteArray)))))))),0)))))).bind fun r13=>match r13 with | .inl o14=>(bif (decide (o14.1.1≥o14.2.2.2.2.2.2)) then (some (o14.2.2.1,(o14.2.2.2.1,(o14.2.2.2.2.1,(o14.2.2.2.2.2.1,(IntKind.i64.wrap (o14.1.1+1))))))) else (some o14.2.2)) | .inr z15=>none) else none))))))
theorem r9m:u39=s75:=zC 318 Tryz.f318 rfl Tryz.func318 fun x=>by kernel_rfl
def u1k(x:Z81):Option Int:=zK 319 x
def u6z(g:Z71→Option q6u)(x:Z71):Option q6u:=(bif (decide (x.2.2<(x.2.1.2.2.1.length:Int))) then (bif (y4p x.2.2 x.2.1.2.2.1.length) then (bif (z7o (rdL u0a x.2.1.2.2.1 (x.2.2).toNat).2.2.2.2.2.2.2 x.1) then (some (.inr x.2.2)) else (g (x.1,(x.2.1,(IntKind.i64.wrap (x.2.2+1)))))) else none) else (some (.inl ())))
def u7c:=lpW _ _ u6z
theorem s33 x:u7c x=u6z u7c x:=zW s28 319 Tryz.f319 2 22 x (by kernel_rfl)
def s73 (x:Z81):Option Int:=((u7c (x.2,(x.1,0))).bind fun r1=>match r1 with | .inl o2=>(some (-1:Int)) | .inr z3=>(some z3))
theorem r9k:u1k=s73:=zC 319 Tryz.f319 rfl Tryz.func319 fun x=>by kernel_rfl
def u3u(x:Z29):Option Z90:=zK 320 x
def u74(g:Z1→Option (Z2 ⊕ Unit))(x:Z1):Option (Z2 ⊕ Unit):=(bif (decide (x.2.2.2.2.2.2<(x.2.1.2.2.1.length:Int))) then (bif (y4p x.2.2.2.2.2.2 x.2.1.2.2.1.length) then (bif (y3c (rdL u0a x.2.1.2.2.1 (x.2.2.2.2.2.2).toNat).2.2.2.2.2.2.2 x.1) then (bif (y4p x.2.2.2.2.2.2 x.2.1.2.2.1.length) then ((u0y (rdL u0a x.2.1.2.2.1 (x.2.2.2.2.2.2).toNat)).bind fun y3=>(bif (Nat.ble (x.2.2.2.2.1.2.2.1.length+([y3] :List u0a.den).length) z7w) then (g (x.1,(x.2.1,(x.2.2.1,(x.2.2.2.1,((x.2.2.2.2.1.1,(x.2.2.2.2.1.2.1,((x.2.2.2.2.1.2.2.1++([y3] :List u0a.den)),x.2.2.2.2.1.2.2.2))),(x.2.2.2.2.2.1,(IntKind.i64.wrap (x.2.2.2.2.2.2+1))))))))) else none)) else none) else (g (x.1,(x.2.1,(x.2.2.1,(x.2.2.2.1,(x.2.2.2.2.1,(x.2.2.2.2.2.1,(IntKind.i64.wrap (x.2.2.2.2.2.2+1)))))))))) else none) else (some (.inl (x.1,(x.2.1,(x.2.2.1,(x.2.2.2.1,(x.2.2.2.2.1,x.2.2.2.2.2.1))))))))
def u3r:=lpW _ _ u74
theorem t8u x:u3r x=u74 u3r x:=zW t8c 320 Tryz.f320 8 97 x (by kernel_rfl)
def u6h(g:Z4→Option (Z13 ⊕ Unit))(x:Z4):Option (Z13 ⊕ Unit):=(bif (decide (x.2.2.2.2.2<(x.2.1.2.2.1.length:Int))) then (bif (y4p x.2.2.2.2.2 x.2.1.2.2.1.length) then (bif (!y3c (rdL u0a x.2.1.2.2.1 (x.2.2.2.2.2).toNat).2.2.2.2.2.2.2 x.1) then (bif (y4p x.2.2.2.2.2 x.2.1.2.2.1.length) then ((u0y (rdL u0a x.2.1.2.2.1 (x.2.2.2.2.2).toNat)).bind fun y6=>(bif (Nat.ble (x.2.2.2.2.1.2.2.1.length+([y6] :List u0a.den).length) z7w) then (g (x.1,(x.2.1,(x.2.2.1,(x.2.2.2.1,((x.2.2.2.2.1.1,(x.2.2.2.2.1.2.1,((x.2.2.2.2.1.2.2.1++([y6] :List u0a.den)),x.2.2.2.2.1.2.2.2))),(IntKind.i64.wrap (x.2.2.2.2.2+1)))))))) else none)) else none) else (g (x.1,(x.2.1,(x.2.2.1,(x.2.2.2.1,(x.2.2.2.2.1,(IntKind.i64.wrap (x.2.2.2.2.2+1))))))))) else none) else (some (.inl (x.2.2.1,(x.2.2.2.1,x.2.2.2.2.1)))))
def u3f:=lpW _ _ u6h
theorem t7p x:u3f x=u6h u3f x:=zW t6y 320 Tryz.f320 14 97 x (by kernel_rfl)
def s2h (x:Z29):Option Z90:=((u18 x.1).bind fun y1=>((u0y x.2.1).bind fun y2=>(bif x.2.1.2.2.2.2.2.2.1 then ((u3r (x.2.2,(x.1,(x.2.1,((([] :List u0g.den),(([] :List u0a.den),(([] :List u0a.den),(0,0)))),((y1.1,(y1.2.1,(([] :List u0a.den),y1.2.2.2))),((y2.1,(2,(y2.2.2.1,(y2.2.2.2.1,(y2.2.2.2.2.1,(y2.2.2.2.2.2.1,(true,x.2.2))))))),0))))))).bind fun r4=>match r4 with | .inl o5=>(bif (Nat.ble (o5.2.2.2.2.1.2.2.1.length+([o5.2.2.2.2.2] :List u0a.den).length) z7w) then ((u3f (o5.1,(o5.2.1,(o5.2.2.1,(o5.2.2.2.1,((o5.2.2.2.2.1.1,(o5.2.2.2.2.1.2.1,((o5.2.2.2.2.1.2.2.1++([o5.2.2.2.2.2] :List u0a.den)),o5.2.2.2.2.1.2.2.2))),0)))))).bind fun r7=>match r7 with | .inl o8=>(bif (decide (o8.1.1≥o8.2.2.2.2.2.2)) then (some (o8.2.2.1,(o8.2.2.2.1,(o8.2.2.2.2.1,(o8.2.2.2.2.2.1,(IntKind.i64.wrap (o8.1.1+1))))))) else (some o8.2.2)) | .inr z9=>none) else none) | .inr z10=>none) else ((t5h (x.2.1,x.1.2.1)).bind fun y11=>((u3r (x.2.2,(x.1,(x.2.1,((([] :List u0g.den),(([] :List u0a.den),(([] :List u0a.den),(0,0)))),((y1.1,(y1.2.1,(([] :List u0a.den),y1.2.2.2))),((y2.1,(2,(y2.2.2.1,(y2.2.2.2.1,(y2.2.2.2.2.1,(y2.2.2.2.2.2.1,(y11,x.2.2))))))),0))))))).bind fun r13=>match r13 with | .inl o14=>(bif (Nat.ble (o14.2.2.2.2.1.2.2.1.length+([o14.2.2.2.2.2] :List u0a.den).length) z7w) then ((u3f (o14.1,(o14.2.1,(o14.2.2.1,(o14.2.2.2.1,((o14.2.2.2.2.1.1,(o14.2.2.2.2.1.2.1,((o14.2.2.2.2.1.2.2.1++([o14.2.2.2.2.2] :List u0a.den)),o14.2.2.2.2.1.2.2.2))),0)))))).bind fun r16=>match r16 with | .inl o17=>(bif (decide (o17.1.1≥o17.2.2.2.2.2.2)) then (some (o17.2.2.1,(o17.2.2.2.1,(o17.2.2.2.2.1,(o17.2.2.2.2.2.1,(IntKind.i64.wrap (o17.1.1+1))))))) else (some o17.2.2)) | .inr z18=>none) else none) | .inr z19=>none)))))
theorem r5c:u3u=s2h:=zC 320 Tryz.f320 rfl Tryz.func320 fun x=>by kernel_rfl
def t4x(x:Z81):Option Z90:=zK 321 x
def t1g(g:Z9→Option (Z26 ⊕ Unit))(x:Z9):Option (Z26 ⊕ Unit):=(bif (decide (x.2.2.2.2<(x.2.1.2.2.1.length:Int))) then (bif (y4p x.2.2.2.2 x.2.1.2.2.1.length) then (bif (!z7o (rdL u0a x.2.1.2.2.1 (x.2.2.2.2).toNat).2.2.2.2.2.2.2 x.1) then (bif (y4p x.2.2.2.2 x.2.1.2.2.1.length) then ((u0y (rdL u0a x.2.1.2.2.1 (x.2.2.2.2).toNat)).bind fun y2=>(bif (Nat.ble (x.2.2.2.1.2.2.1.length+([y2] :List u0a.den).length) z7w) then (g (x.1,(x.2.1,(x.2.2.1,((x.2.2.2.1.1,(x.2.2.2.1.2.1,((x.2.2.2.1.2.2.1++([y2] :List u0a.den)),x.2.2.2.1.2.2.2))),(IntKind.i64.wrap (x.2.2.2.2+1))))))) else none)) else none) else (g (x.1,(x.2.1,(x.2.2.1,(x.2.2.2.1,(IntKind.i64.wrap (x.2.2.2.2+1)))))))) else none) else (some (.inl (x.2.2.1,x.2.2.2.1))))
def u69:=lpW _ _ t1g
theorem s3x x:u69 x=t1g u69 x:=zW s22 321 Tryz.f321 4 38 x (by kernel_rfl)
def s7v (x:Z81):Option Z90:=((u18 x.1).bind fun y1=>((u69 (x.2,(x.1,((([] :List u0g.den),(([] :List u0a.den),(([] :List u0a.den),(0,0)))),((y1.1,(y1.2.1,(([] :List u0a.den),y1.2.2.2))),0))))).bind fun r3=>match r3 with | .inl o4=>(some o4.2) | .inr z5=>none))
theorem r9c:t4x=s7v:=zC 321 Tryz.f321 rfl Tryz.func321 fun x=>by kernel_rfl
def t9h(x:Z12):Option Z84:=zK 201 x
def s8o (x:Z12):Option Z84:=(bif (decide (x.2.1=1)) then (bif (!decide (x.2.2.1.2.2.2.1=(IntKind.i64.wrap (x.1.2.2.2.1+1)))) then (some (x.1,false)) else ((u39 (x.1,x.2.2.1)).bind fun y1=>(some (y1,true)))) else (bif (decide (x.2.1=2)) then (((bif (decide ((x.1.2.2.1.length:Int)≥(3:Int))) then (some true) else ((u1k (x.1,x.2.2.1.2.2.2.2.2.2.2)).bind fun y2=>(some (decide (y2≥0))))):Option Bool).bind fun j3=>(bif j3 then (some (x.1,false)) else ((u3u (x.1,(x.2.2.1,x.2.2.1.2.2.2.2.2.2.2))).bind fun y4=>(some (y4,true))))) else (bif (decide (x.2.1=3)) then ((u1k (x.1,x.2.2.2.1)).bind fun y5=>(bif (decide (y5<0)) then (some (x.1,false)) else (bif x.2.2.2.2.1 then (bif (y4p y5 x.1.2.2.1.length) then ((u39 (x.1,(rdL u0a x.1.2.2.1 (y5).toNat))).bind fun y6=>(some (y6,true))) else none) else ((t4x (x.1,x.2.2.2.1)).bind fun y7=>(some (y7,true)))))) else ((u18 x.2.2.2.2.2).bind fun y8=>(some (y8,true))))))
theorem r94:t9h=s8o:=zC 201 Tryz.f201 rfl Tryz.func201 fun x=>by kernel_rfl
def s13(x:Z12):Option Z84:=zK 73 x
def r0y (x:Z12):Option Z84:=((((u45 x.1).bind fun y1=>(bif (!y1) then (some true) else ((t3i x.2).bind fun y2=>(some (!y2))))):Option Bool).bind fun j3=>(bif j3 then ((u18 x.1).bind fun y4=>(some (y4,false))) else ((t9h x).bind fun y5=>(bif (!y5.2) then ((u18 x.1).bind fun y6=>(some (y6,false))) else ((t0f (y5.1,([] :List u0a.den))).bind fun y7=>((u45 y7).bind fun y8=>(bif (!y8) then ((u18 x.1).bind fun y9=>(some (y9,false))) else (some (y7,true)))))))))
theorem q26:s13=r0y:=zC 73 Tryz.f73 rfl Tryz.func73 fun x=>by kernel_rfl
def u4e(x:q7c):Option r2k:=zK 417 x
def u6i(g:o0h→Option (o0p ⊕ r2k))(x:o0h):Option (o0p ⊕ r2k):=(bif (decide (x.2.2≥0)) then (bif (y4p x.2.2 x.2.1.2.length) then (bif (decide ((rdL p0x x.2.1.2 (x.2.2).toNat).1=x.1)) then (bif (y4p x.2.2 x.2.1.2.length) then (some (.inr ((rdL p0x x.2.1.2 (x.2.2).toNat).2,true))) else none) else (g (x.1,(x.2.1,(IntKind.i64.wrap (x.2.2 - 1)))))) else none) else (some (.inl (x.1,x.2.1))))
def u6m:=lpW _ _ u6i
theorem t7q x:u6m x=u6i u6m x:=zW t6z 417 Tryz.f417 4 41 x (by kernel_rfl)
def t9p (x:q7c):Option r2k:=((u0o (x.2,(0,(IntKind.i64.wrap ((x.1.1.length:Int) - (1:Int)))))).bind fun y1=>(bif (!y1) then (some ((⟨#[]⟩:ByteArray),false)) else ((u6m (x.2,(x.1,(IntKind.i64.wrap ((x.1.2.length:Int) - (1:Int)))))).bind fun r2=>match r2 with | .inl o3=>(bif (y4p o3.1 o3.2.1.length) then (some ((rdL Ty.str o3.2.1 (o3.1).toNat),true)) else none) | .inr z4=>(some z4))))
theorem r21:u4e=t9p:=zC 417 Tryz.f417 rfl Tryz.func417 fun x=>by kernel_rfl
def t37(x:p8d):Option r2k:=zK 344 x
def u6j(g:p92→Option (ByteArray ⊕ r2k))(x:p92):Option (ByteArray ⊕ r2k):=(bif (decide (x.2.2.2.2<x.2.1)) then (((bif (decide (x.1<0)) then (some true) else (some (decide (x.1 >(x.2.2.1.1.length:Int))))):Option Bool).bind fun j2=>(bif j2 then (some (.inr ((⟨#[]⟩:ByteArray),false))) else ((u4e (x.2.2.1,(IntKind.i64.wrap (x.1+x.2.2.2.2)))).bind fun y3=>(bif (!y3.2) then (some (.inr ((⟨#[]⟩:ByteArray),false))) else (bif (decide (x.2.2.2.1.size+y3.1.size≤140737488355328)) then (g (x.1,(x.2.1,(x.2.2.1,((x.2.2.2.1++y3.1),(IntKind.i64.wrap (x.2.2.2.2+1))))))) else none))))) else (some (.inl x.2.2.2.1)))
def u6n:=lpW _ _ u6j
theorem t7r x:u6n x=u6j u6n x:=zW t60 344 Tryz.f344 5 43 x (by kernel_rfl)
def t9r (x:p8d):Option r2k:=((u0o (x.2.2,(0,100))).bind fun y1=>(bif (!y1) then (some ((⟨#[]⟩:ByteArray),false)) else ((u6n (x.2.1,(x.2.2,(x.1,((⟨#[]⟩:ByteArray),0))))).bind fun r4=>match r4 with | .inl o5=>(some (o5,true)) | .inr z6=>(some z6))))
theorem r23:t37=t9r:=zC 344 Tryz.f344 rfl Tryz.func344 fun x=>by kernel_rfl
def u4t(x:Int):Option Int:=zK 345 x
def s2e (x:Int):Option Int:=((u0o (x,(0,1))).bind fun y1=>(bif (!y1) then (some (0:Int)) else (some (IntKind.i64.wrap ((1:Int)+(IntKind.i64.wrap (x*48)))))))
theorem r49:u4t=s2e:=zC 345 Tryz.f345 rfl Tryz.func345 fun x=>by kernel_rfl
def t01(x:q7c):Option Int:=zK 347 x
def s8h (x:q7c):Option Int:=((u4e x).bind fun y1=>(((bif (!y1.2) then (some true) else (some (z7o y1.1 (⟨#[]⟩:ByteArray)))):Option Bool).bind fun j2=>(bif j2 then (some (0:Int)) else (bif (y4p (0:Int) y1.1.size) then (some (IntKind.i64.wrap ((y1.1.data.toList.getD ((0:Int)).toNat 0).toNat:Int))) else none))))
theorem r9x:t01=s8h:=zC 347 Tryz.f347 rfl Tryz.func347 fun x=>by kernel_rfl
def t0y(x:q7c):Option Int:=zK 346 x
def s7t (x:q7c):Option Int:=((u0o (x.2,(0,1))).bind fun y1=>(bif (!y1) then (some (0:Int)) else ((u4t x.2).bind fun y2=>((t01 (x.1,y2)).bind fun y3=>(some y3)))))
theorem r9a:t0y=s7t:=zC 346 Tryz.f346 rfl Tryz.func346 fun x=>by kernel_rfl
def u5z(x:q7c):Option (r8p × p4v):=zK 227 x
def u75(g:Z89→Option ((r8p × Int) ⊕ (r8p × p4v)))(x:Z89):Option ((r8p × Int) ⊕ (r8p × p4v)):=((t0y (x.2.1,x.1)).bind fun y4=>(bif (decide (x.2.2.2.2.2.2<y4)) then ((t16 (x.2.2.2.1,x.2.2.2.2.2.1)).bind fun y5=>(((bif (!y5.2.2) then (some true) else (some (z7o y5.1 (⟨#[]⟩:ByteArray)))):Option Bool).bind fun j6=>(bif j6 then (some (.inr (x.2.2.1,(0,false)))) else (bif (Nat.ble (x.2.2.2.2.1.length+([y5.1] :List ByteArray).length) z7w) then (g (x.1,(x.2.1,(x.2.2.1,(x.2.2.2.1,((x.2.2.2.2.1++([y5.1] :List ByteArray)),(y5.2.1,(IntKind.i64.wrap (x.2.2.2.2.2.2+1))))))))) else none)))) else (some (.inl (x.2.2.2.2.1,x.2.2.2.2.2.1)))))
def u8a:=lpW _ _ u75
theorem t8v x:u8a x=u75 u8a x:=zW t8d 227 Tryz.f227 10 61 x (by kernel_rfl)
def s46 (x:q7c):Option (r8p × p4v):=((u0o (x.2,(0,1))).bind fun y1=>(bif (!y1) then (some (([] :List ByteArray),(0,false))) else ((u4t x.2).bind fun y2=>((t37 (x.1,((IntKind.i64.wrap (y2+1)),47))).bind fun y3=>(bif (!y3.2) then (some (([] :List ByteArray),(0,false))) else ((u8a (x.2,(x.1,(([] :List ByteArray),(y3.1,(([] :List ByteArray),(0,0))))))).bind fun r7=>match r7 with | .inl o8=>(some (o8.1,(o8.2,true))) | .inr z9=>(some z9)))))))
theorem r62:u5z=s46:=zC 227 Tryz.f227 rfl Tryz.func227 fun x=>by kernel_rfl
def u85(x:t7v):Option Int:=zK 228 x
def s4z (x:t7v):Option Int:=((t01 (x,0)).bind fun y1=>(some (Int.tmod y1 (2:Int))))
theorem r6v:u85=s4z:=zC 228 Tryz.f228 rfl Tryz.func228 fun x=>by kernel_rfl
def t7b(x:t7v):Option r8p:=zK 91 x
def s43 (x:t7v):Option r8p:=((u85 x).bind fun y1=>((u5z (x,y1)).bind fun y2=>(some y2.1)))
theorem r6z:t7b=s43:=zC 91 Tryz.f91 rfl Tryz.func91 fun x=>by kernel_rfl
def t4z(x:t7v):Option Z84:=zK 88 x
def t1j(g:Z19→Option (Z26 ⊕ Z84))(x:Z19):Option (Z26 ⊕ Z84):=(bif (decide (x.2.2.2<(x.2.2.1.length:Int))) then (bif (y4p x.2.2.2 x.2.2.1.length) then ((t36 (rdL Ty.str x.2.2.1 (x.2.2.2).toNat)).bind fun y3=>((s13 (x.2.1,y3.1)).bind fun y4=>(((bif (!y3.2) then (some true) else (some (!y4.2))):Option Bool).bind fun j5=>(bif j5 then (some (.inr ((([] :List u0g.den),(([] :List u0a.den),(([] :List u0a.den),(0,0)))),false))) else (g (x.1,(y4.1,(x.2.2.1,(IntKind.i64.wrap (x.2.2.2+1)))))))))) else none) else (some (.inl (x.1,x.2.1))))
def u3t:=lpW _ _ t1j
theorem s30 x:u3t x=t1j u3t x:=zW s25 88 Tryz.f88 4 43 x (by kernel_rfl)
def s7y (x:t7v):Option Z84:=((t87 ()).bind fun y1=>((t7b x).bind fun y2=>((u3t ((([] :List u0g.den),(([] :List u0a.den),(([] :List u0a.den),(0,0)))),(y1,(y2,0)))).bind fun r6=>match r6 with | .inl o7=>(some (o7.2,true)) | .inr z8=>(some z8))))
theorem r9f:t4z=s7y:=zC 88 Tryz.f88 rfl Tryz.func88 fun x=>by kernel_rfl
def t0a(x:t7v):Option Bool:=zK 329 x
def t2u(g:q7c→Option (t7v ⊕ Bool))(x:q7c):Option (t7v ⊕ Bool):=(bif (decide (x.2<(x.1.1.length:Int))) then (bif (y4p x.2 x.1.1.length) then (bif (!decide (((rdL Ty.str x.1.1 (x.2).toNat).size:Int)=(64:Int))) then (some (.inr false)) else (g (x.1,(IntKind.i64.wrap (x.2+1))))) else none) else (some (.inl x.1)))
def t20:=lpW _ _ t2u
theorem s6t x:t20 x=t2u t20 x:=zW s5z 329 Tryz.f329 4 59 x (by kernel_rfl)
def t2v(g:q7c→Option r4v)(x:q7c):Option r4v:=(bif (decide (x.2<(x.1.2.length:Int))) then (((bif (y4p x.2 x.1.2.length) then ((u0o ((rdL p0x x.1.2 (x.2).toNat).1,(0,(IntKind.i64.wrap ((x.1.1.length:Int) - (1:Int)))))).bind fun y5=>(bif (!y5) then (some true) else (bif (y4p x.2 x.1.2.length) then (some (!decide (((rdL p0x x.1.2 (x.2).toNat).2.size:Int)=(64:Int)))) else none))) else none):Option Bool).bind fun j6=>(bif j6 then (some (.inr false)) else (g (x.1,(IntKind.i64.wrap (x.2+1)))))) else (some (.inl ())))
def t21:=lpW _ _ t2v
theorem s6u x:t21 x=t2v t21 x:=zW s50 329 Tryz.f329 9 59 x (by kernel_rfl)
def r0s (x:t7v):Option Bool:=((((u0o ((x.1.length:Int),(1,100))).bind fun y1=>(bif (!y1) then (some true) else (some (decide ((x.2.length:Int) >(60:Int)))))):Option Bool).bind fun j2=>(bif j2 then (some false) else ((t20 (x,0)).bind fun r3=>match r3 with | .inl o4=>((t21 (o4,0)).bind fun r7=>match r7 with | .inl o8=>(some true) | .inr z9=>(some z9)) | .inr z10=>(some z10))))
theorem q20:t0a=r0s:=zC 329 Tryz.f329 rfl Tryz.func329 fun x=>by kernel_rfl
def t8i(x:t7v):Option Bool:=zK 212 x
def r34 (x:t7v):Option Bool:=((((t0a x).bind fun y1=>(bif (!y1) then (some true) else ((u53 ()).bind fun y2=>(bif (!decide ((x.1.length:Int)=y2)) then (some true) else (some (decide ((x.2.length:Int) >(0:Int)))))))):Option Bool).bind fun j3=>(bif j3 then (some false) else ((u5z (x,0)).bind fun y4=>((u5z (x,1)).bind fun y5=>(((bif y4.2.2 then (some y5.2.2) else (some false)):Option Bool).bind fun j6=>(some j6))))))
theorem q48:t8i=r34:=zC 212 Tryz.f212 rfl Tryz.func212 fun x=>by kernel_rfl
def u4u(x:t7v):Option t7v:=zK 413 x
def u73(g:Z83→Option (p6h ⊕ Unit))(x:Z83):Option (p6h ⊕ Unit):=(bif (decide (x.2.2.2<(x.1.2.length:Int))) then (bif (y4p x.2.2.2 x.1.2.length) then (bif (y4p x.2.2.2 x.1.2.length) then (bif (y4p (rdL p0x x.1.2 (x.2.2.2).toNat).1 x.2.2.1.1.length) then (g (x.1,(x.2.1,(((x.2.2.1.1.set ((rdL p0x x.1.2 (x.2.2.2).toNat).1).toNat (rdL p0x x.1.2 (x.2.2.2).toNat).2),x.2.2.1.2),(IntKind.i64.wrap (x.2.2.2+1)))))) else none) else none) else none) else (some (.inl (x.2.1,x.2.2.1))))
def u79:=lpW _ _ u73
theorem t8t x:u79 x=u73 u79 x:=zW t8b 413 Tryz.f413 5 36 x (by kernel_rfl)
def s2g (x:t7v):Option t7v:=((u0x x).bind fun y1=>((t0a x).bind fun y2=>(bif (!y2) then (some y1) else ((u79 (x,((([] :List ByteArray),([] :List p0x.den)),(y1,0)))).bind fun r3=>match r3 with | .inl o4=>(some (o4.2.1,([] :List p0x.den))) | .inr z5=>none))))
theorem r5b:u4u=s2g:=zC 413 Tryz.f413 rfl Tryz.func413 fun x=>by kernel_rfl
def u8g(x:p4z):Option r2q:=zK 414 x
def t72 (x:p4z):Option r2q:=((u0x x.1).bind fun y1=>((((t0a x.1).bind fun y2=>(bif (!y2) then (some true) else ((u0o (x.2.1,(0,(IntKind.i64.wrap ((x.1.1.length:Int) - (1:Int)))))).bind fun y3=>(bif (!y3) then (some true) else (bif (!decide ((x.2.2.size:Int)=(64:Int))) then (some true) else (some (decide ((x.1.2.length:Int)≥(60:Int))))))))):Option Bool).bind fun j4=>(bif j4 then (some (y1,false)) else (bif (Nat.ble (y1.2.length+([x.2] :List p0x.den).length) z7w) then (some ((y1.1,(y1.2++([x.2] :List p0x.den))),true)) else none))))
theorem r1n:u8g=t72:=zC 414 Tryz.f414 rfl Tryz.func414 fun x=>by kernel_rfl
end
end Go.Proofs.YtbkicjpdlchbgaaGreat.Ab
