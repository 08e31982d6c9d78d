import Derived.Test.YtdeadnnhblaflaaGreatDoorAbK2
import Derived.Test.YtdeadnnhblaflaaGreatDoorAbF4
import Derived.Test.YtdeadnnhblaflaaGreatDoorAbS4
import Derived.KernelRfl
import Derived.Test.YtdeadnnhblaflaaGreatDoorProg
namespace Go.Proofs.YtdeadnnhblaflaaGreatDoor.Ab
open Go
set_option linter.unusedVariables false
noncomputable section
abbrev u87:Ty:=(.pair .str .str)
abbrev t9t:Ty:=(.pair .str .bool)
abbrev u5f:Ty:=(.pair .str t9t)
abbrev t9r:Ty:=(.pair .bool .str)
abbrev t3i:Ty:=(.pair (.sl u5f) t9r)
abbrev u9m:Ty:=(.pair (.sl u87) t3i)
abbrev u7y:Ty:=(.pair (.int .i64) u9m)
abbrev u67:Ty:=(.pair (.int .i64) u7y)
abbrev u5z:Ty:=(.pair (.int .i64) u67)
abbrev u0a:Ty:=(.pair (.int .i64) u5z)
abbrev t9q:Ty:=(.pair .bool (.int .i64))
abbrev t7r:Ty:=(.pair .str t9q)
abbrev u0c:Ty:=(.pair .str t7r)
abbrev t4o:Ty:=(.pair (.int .i64) .str)
abbrev t9s:Ty:=(.pair (.int .i64) (.int .i64))
abbrev u2o:Ty:=(.pair (.sl u0a) t9s)
abbrev t4w:Ty:=(.pair (.sl u0a) u2o)
abbrev t2s:Ty:=(.pair (.sl u0c) t4w)
abbrev t2t:Ty:=(.pair t2s (.sl u0a))
abbrev t3y:Ty:=(.pair (.sl .str) (.sl t4o))
abbrev t2r:Ty:=(.pair t2t t3y)
abbrev t7q:Ty:=(.pair (.sl (.int .i64)) (.sl .str))
abbrev t4u:Ty:=(.pair (.sl u0a) t7q)
abbrev t4v:Ty:=(.pair t2r t4u)
abbrev Z55:=((Hu Hs)×(Hu t4o.den))
abbrev Z54:=((Hu u87.den)×(Hs×Int))
abbrev Z53:=((Hu Hs)×(Hu Hs))
abbrev Z52:=((Hs×Hs)×Hs)
abbrev Z51:=((Int×Hs)×(Int×Hs))
abbrev Z50:=((Hu u5f.den)×(Hu u5f.den))
abbrev Z49:=(Hs×(Hs×(Bool×Int)))
abbrev Z48:=((Hs×(Hs×Bool))×Int)
abbrev Z47:=((Hu u0c.den)×(Hs×Int))
abbrev Z46:=((Hu t4o.den)×((Hu t4o.den)×Int))
abbrev Z45:=((Hu u0c.den)×(Hu u0c.den))
abbrev Z44:=((Hu u87.den)×((Hu u87.den)×Int))
abbrev Z43:=((Hu u0a.den)×Int)
abbrev Z42:=(Z55×Int)
abbrev Z41:=(Hs×((Hu u87.den)×(Int×Int)))
abbrev Z40:=((Hu Hs)×((Hu Hs)×Int))
abbrev Z39:=((Hu u5f.den)×((Hu u5f.den)×Int))
abbrev Z38:=((Hu u0c.den)×(Hs×Hs))
abbrev Z37:=(Z49×Int)
abbrev Z36:=((Hs×Hs)×(Hs×Hs))
abbrev Z35:=((Hu u0c.den)×((Hu u0c.den)×Int))
abbrev Z34:=((Hu u0a.den)×(Int×Int))
abbrev Z33:=((Hu u0c.den)×((Hs×Hs)×Int))
abbrev Z32:=((Hu Hs)×((Hu u0c.den)×(Int×Int)))
abbrev Z31:=((Hu u0c.den)×(Hs×(Int×(Int×Int))))
abbrev Z30:=((Hs×(Hs×Bool))×(Hs×(Hs×Bool)))
abbrev Z29:=((Hu u0a.den)×(Hu u0a.den))
abbrev Z28:=((Hu u0c.den)×((Hs×Hs)×(Int×(Hu Hs))))
abbrev Z27:=((Hu u0c.den)×(Int×((Hu u87.den)×((Hu Hs)×Int))))
abbrev Z26:=((Hu u0c.den)×((Hs×Hs)×((Hu Hs)×Int)))
abbrev Z25:=(Z55×Z55)
abbrev Z24:=((Hu u0a.den)×Z43)
abbrev Z23:=(Z49×Z49)
abbrev Z22:=((Hu u0c.den)×(Hs×(Int×(Int×((Hu u0c.den)×(Int×Int))))))
abbrev Z21:=(Int×(Int×(Int×(Int×((Hu u87.den)×((Hu u5f.den)×(Bool×Hs)))))))
abbrev Z20:=(Z21×Int)
abbrev Z19:=((Hu u0c.den)×((Hs×Hs)×((Hu Hs)×(Int×(Hs×(Hu Hs))))))
abbrev Z18:=((Hu u0c.den)×(Int×((Hs×Hs)×((Hu u87.den)×((Hu Hs)×(Int×Int))))))
abbrev Z17:=((Hu u0c.den)×((Hu u0a.den)×Z34))
abbrev Z16:=((Hu u0c.den)×((Hs×Hs)×((Hu Hs)×(Int×(Hs×((Hu Hs)×Int))))))
abbrev Z15:=(Z17×Int)
abbrev Z14:=(Z17×(Hu u0a.den))
abbrev Z13:=(Z14×Int)
abbrev Z12:=(Z21×Z21)
abbrev Z11:=(Z14×Z55)
abbrev Z10:=(Z11×Int)
abbrev Z9:=(Z17×Z17)
abbrev Z8:=(Z11×((Hu u0a.den)×((Hu Int)×(Hu Hs))))
abbrev Z7:=(Z8×Int)
abbrev Z6:=(Z8×Hs)
abbrev Z5:=(Z8×(Hs×Int))
abbrev Z4:=(Z14×Z14)
abbrev Z3:=(Z8×(Hs×((Hu Int)×(Int×Int))))
abbrev Z2:=(Z11×Z11)
abbrev Z1:=(Z8×Z8)
def t9h:Tabs where
 ty:= [(3,(.int .i64)),(4, .bool),(5,(.int .u8)),(9, .str),(22,(.sl u0c)),(23,(.sl u0a)),(28,(.sl .str)),(29,(.sl t4o)),(36,(.sl u0c)),(37,(.sl u0a)),(39,t2s),(41,t2t),(42,(.sl t4o)),(44,t3y),(46,t2r),(50,(.sl (.int .i64))),(56,t4v),(60,(.sl (.int .u8))),(64,(.sl u87)),(67,u87),(88,u87),(107,(.sl u87)),(108,(.sl u5f)),(110,u0a),(111,(.sl u87)),(112,(.sl u5f)),(114,u0a),(122,u0c),(136,t4o),(138,t4o),(175,u5f),(179,u0c),(187,u87),(189,u5f)]
 lay:= [(3,1,false),(4,1,false),(9,1,false),(22,1,false),(23,1,false),(25,5,true),(27,6,true),(28,1,false),(29,1,false),(31,2,true),(33,8,true),(36,1,false),(37,1,false),(39,5,true),(41,6,true),(42,1,false),(44,2,true),(46,8,true),(50,1,false),(52,11,true),(56,11,true),(67,2,true),(88,2,true),(107,1,false),(108,1,false),(110,8,true),(111,1,false),(112,1,false),(114,8,true),(122,4,true),(136,2,true),(138,2,true),(175,3,true),(179,4,true),(187,2,true),(189,3,true)]
 fld:= [(25, [(0,1,false),(1,1,false),(2,1,false),(3,1,false),(4,1,false)]),(27, [(0,5,true),(5,1,false)]),(31, [(0,1,false),(1,1,false)]),(33, [(0,6,true),(6,2,true)]),(39, [(0,1,false),(1,1,false),(2,1,false),(3,1,false),(4,1,false)]),(41, [(0,5,true),(5,1,false)]),(44, [(0,1,false),(1,1,false)]),(46, [(0,6,true),(6,2,true)]),(52, [(0,8,true),(8,1,false),(9,1,false),(10,1,false)]),(56, [(0,8,true),(8,1,false),(9,1,false),(10,1,false)]),(67, [(0,1,false),(1,1,false)]),(88, [(0,1,false),(1,1,false)]),(110, [(0,1,false),(1,1,false),(2,1,false),(3,1,false),(4,1,false),(5,1,false),(6,1,false),(7,1,false)]),(114, [(0,1,false),(1,1,false),(2,1,false),(3,1,false),(4,1,false),(5,1,false),(6,1,false),(7,1,false)]),(122, [(0,1,false),(1,1,false),(2,1,false),(3,1,false)]),(136, [(0,1,false),(1,1,false)]),(138, [(0,1,false),(1,1,false)]),(175, [(0,1,false),(1,1,false),(2,1,false)]),(179, [(0,1,false),(1,1,false),(2,1,false),(3,1,false)]),(187, [(0,1,false),(1,1,false)]),(189, [(0,1,false),(1,1,false),(2,1,false)])]
 eqs:= []
abbrev zL (a:Hu Nat) (s:Sh) (n:Nat) (b:Hu Nat) (t:Sh) (c:Hu Nat) (u:Sh):LoopA:=⟨⟨a,s, []⟩,n,⟨b,t, []⟩,⟨c,u, []⟩⟩
def zS (i o:Sh) (n:Nat:=1) (b:Hu Bool:= []):Sig:=⟨i,b,o,n⟩
abbrev t9j:Ty:=.int .i64
abbrev t9e:Ty:=.int .u8
abbrev t4m:Sh:=.tr false u0a
abbrev u0f:Sh:=.int .i64
abbrev u94:Sh:=.tr false u0c
abbrev t6n:Sh:=.own true u0a
abbrev t2q:Sh:=.own true .str
abbrev t7n:Sh:=.pair .str .str
abbrev t8k:Sh:=.agg (.pair .str (.pair .str (.pair .bool u0f)))
abbrev t4c:Sh:=.pair u0f u0f
abbrev t7m:Sh:=.pair u94 (.pair t4m (.pair t4m t4c))
abbrev t9f:Sh:=.pair (.own true u0c) (.pair t6n (.pair t6n t4c))
abbrev t4n:Sh:=.tr false u87
abbrev t5m:Sh:=.tr false .str
abbrev t5q:Sh:=.tr false t4o
abbrev t9k:Sh:=.pair (.pair t7m t4m) (.pair t5m t5q)
abbrev t5r:Sh:=.own true u87
abbrev t6i:Sh:=.tr false u5f
abbrev t8v:Sh:=.agg (.pair u0f (.pair u0f (.pair u0f (.pair u0f (.pair t4n (.pair t6i (.pair .bool .str)))))))
abbrev t9l:Sh:=.pair u94 (.pair (.box t7n) (.pair (.tr true .str) (.pair u0f (.pair .str (.pair t2q u0f)))))
abbrev t6j:Sh:=.tr false t9j
abbrev t8j:Sh:=.pair t9k (.pair t4m (.pair t6j t5m))
abbrev t8m:Sh:=.agg (.pair u0f .str)
abbrev t8w:Sh:=.pair u94 (.pair .str u0f)
abbrev t4t:Sh:=.agg t7n
abbrev t8x:Sh:=.agg (.pair t7m t4m)
abbrev t8y:Sh:=.agg (.pair t5m t5q)
abbrev t8n:Sh:=.own true t4o
abbrev t7e:Sh:=.agg t8j
abbrev t8o:Sh:=.pair .str .bool
abbrev t8l:Sh:=.agg (.pair .str t8o)
abbrev t8z:Sh:=.own true u5f
abbrev t9m:Sh:=.pair (.pair t9f t6n) (.pair t2q t8n)
abbrev t9n:Sh:=.pair .str (.pair (.own true t9e) u0f)
abbrev t80:Sh:=.own true t9j
abbrev t7o:Sh:=.agg t9k
def t6z:Nat→Sig
 | 124=>zS (.pair t4t u0f) u0f
 | 88=>zS (.pair t4n u0f) u0f
 | 125=>zS (.pair t8l u0f) u0f
 | 89=>zS (.pair t6i u0f) u0f
 | 64=>zS (.pair t8v u0f) u0f
 | 36=>zS (.pair t4m u0f) u0f
 | 118=>zS (.pair t8k u0f) u0f
 | 78=>zS (.pair u94 u0f) u0f
 | 53=>zS (.pair (.agg t7m) u0f) u0f
 | 24=>zS (.pair t8x u0f) u0f
 | 38=>zS (.pair t5m u0f) u0f
 | 79=>zS (.pair t8m u0f) u0f
 | 54=>zS (.pair t5q u0f) u0f
 | 25=>zS (.pair t8y u0f) u0f
 | 6=>zS (.pair t7o u0f) u0f
 | 37=>zS (.pair t6j u0f) u0f
 | 11=>zS (.pair t7e u0f) u0f
 | 69=>zS (.pair t4t .str) .bool
 | 47=>zS (.pair u94 t4t) t2q
 | 70=>zS t8w u0f
 | 48=>zS t8w t8o 2
 | 19=>zS (.pair u94 (.pair t4t u0f)) t5r
 | 55=>zS u0f (.int .u8)
 | 52=>zS .str t8o 2
 | 23=>zS t4n .str
 | 27=>zS u0f .str
 | 26=>zS u0f .str
 | 28=>zS .unit t4t
 | 7=>zS t7o .str
 | 12=>zS t7e .str
 | 126=>zS t4t t4t
 | 90=>zS t4n t5r
 | 127=>zS t8l t8l
 | 91=>zS t6i t8z
 | 65=>zS t8v (.agg (.pair u0f (.pair u0f (.pair u0f (.pair u0f (.pair t5r (.pair t8z (.pair .bool .str))))))))
 | 39=>zS t4m t6n
 | 119=>zS t8k t8k
 | 80=>zS u94 (.own true u0c)
 | 56=>zS (.agg t7m) (.agg t9f)
 | 29=>zS t8x (.agg (.pair t9f t6n))
 | 41=>zS t5m t2q
 | 81=>zS t8m t8m
 | 57=>zS t5q t8n
 | 30=>zS t8y (.agg (.pair t2q t8n))
 | 8=>zS t7o (.agg t9m)
 | 40=>zS t6j t80
 | 13=>zS t7e (.agg (.pair t9m (.pair t6n (.pair t80 t2q))))
 | 46=>zS .str t8o 2
 | 18=>zS t4n .str
 | 58=>zS u0f .str
 | 31=>zS u0f .str
 | 83=>zS t2q t2q 0 [true]
 | 84=>zS t2q t2q
 | 59=>zS u94 t2q
 | 85=>zS t8w u0f
 | 60=>zS t8w t8o 2
 | 61=>zS (.pair t4t .str) .bool
 | 32=>zS (.pair u94 (.pair t4t u0f)) t5r
 | 33=>zS .unit t4t
 | 9=>zS t7o .str
 | 14=>zS t7e .str
 | 128=>zS (.pair t4t t4t) .bool
 | 92=>zS (.pair t4n t4n) .bool
 | 129=>zS (.pair t8l t8l) .bool
 | 93=>zS (.pair t6i t6i) .bool
 | 66=>zS (.pair t8v t8v) .bool
 | 42=>zS (.pair t4m t4m) .bool
 | 123=>zS (.pair t8k t8k) .bool
 | 86=>zS (.pair u94 u94) .bool
 | 62=>zS (.pair (.agg t7m) (.agg t7m)) .bool
 | 34=>zS (.pair t8x t8x) .bool
 | 44=>zS (.pair t5m t5m) .bool
 | 87=>zS (.pair t8m t8m) .bool
 | 63=>zS (.pair t5q t5q) .bool
 | 35=>zS (.pair t8y t8y) .bool
 | 10=>zS (.pair t7o t7o) .bool
 | 43=>zS (.pair t6j t6j) .bool
 | 15=>zS (.pair t7e t7e) .bool
 | 4=>zS t7e .bool
 | _=>zS .unit .unit 0
def t70:Nat→Nat→Ht Join
 | 69,3=>some ⟨[4],.bool,[]⟩
 | 70,11=>some ⟨[47],.bool,[]⟩
 | 48,5=>some ⟨[21],.bool,[]⟩
 | 12,13=>some ⟨[25],.bool,[]⟩
 | 85,11=>some ⟨[40],.bool,[]⟩
 | 60,5=>some ⟨[21],.bool,[]⟩
 | 61,3=>some ⟨[4],.bool,[]⟩
 | 32,13=>some ⟨[31],.bool,[]⟩
 | _,_=>none
abbrev u4l:=zL [0,1,5] (.pair t4n t4c) 0 [1] u0f [4] u0f
abbrev u4m:=zL [0,1,5] (.pair t6i t4c) 0 [1] u0f [4] u0f
abbrev u6t:=zL [0,1,5] (.pair t4m t4c) 0 [1] u0f [4] u0f
abbrev u22:=zL [0,1,5] (.pair u94 t4c) 0 [1] u0f [4] u0f
abbrev u3n:=zL [0,1,5] (.pair t5m t4c) 0 [1] u0f [4] u0f
abbrev u6s:=zL [0,1,5] (.pair t5q t4c) 0 [1] u0f [4] u0f
abbrev u5t:=zL [0,3,5,6] (.pair u94 (.pair (.box t7n) (.pair t2q u0f))) 0 [5] t2q [] .unit
abbrev u5u:=zL [0,3,5,6,7,8,9] t9l 2 [0,3,5,6,7,8] (.pair u94 (.pair (.box t7n) (.pair (.tr true .str) (.pair u0f (.pair .str t2q))))) [] .unit
abbrev u4p:=zL [0,3,5,6,7,8,10] t9l 4 [0,3,6,8] (.pair u94 (.pair (.box t7n) (.pair u0f t2q))) [] .unit
abbrev u7o:=zL [0,1,2,7,8] (.pair u94 (.pair .str (.pair u0f t4c))) 0 [7] u0f [] .unit
abbrev u6x:=zL [0,2,7,8,9] (.pair u94 (.pair u0f (.pair t5r (.pair (.tr true .str) u0f)))) 0 [7] t5r [] .unit
abbrev u9i:=zL [0,4,5] t9n 0 [4] (.tr true t9e) [] .unit
abbrev u3p:=zL [0,3,4] (.pair t4n (.pair .str u0f)) 0 [3] .str [] .unit
abbrev u5s:=zL [0,3,4] (.pair u0f (.pair .bool .str)) 0 [3,4] (.pair .bool .str) [] .unit
abbrev u3q:=zL [1,3,4] (.pair (.box t8j) (.pair .str u0f)) 0 [1,3] (.pair (.box t8j) .str) [] .unit
abbrev u4n:=zL [0,3,4] (.pair t4n (.pair t5r u0f)) 0 [3] t5r [] .unit
abbrev u4o:=zL [0,3,4] (.pair t6i (.pair t8z u0f)) 0 [3] t8z [] .unit
abbrev u6w:=zL [0,3,4] (.pair t4m (.pair t6n u0f)) 0 [3] t6n [] .unit
abbrev u23:=zL [0,3,4] (.pair u94 (.pair (.own true u0c) u0f)) 0 [3] (.own true u0c) [] .unit
abbrev u3o:=zL [0,3,4] (.pair t5m (.pair t2q u0f)) 0 [3] t2q [] .unit
abbrev u6v:=zL [0,3,4] (.pair t5q (.pair t8n u0f)) 0 [3] t8n [] .unit
abbrev u6u:=zL [0,3,4] (.pair t6j (.pair t80 u0f)) 0 [3] t80 [] .unit
abbrev u9h:=zL [0,4,5] t9n 0 [4] (.tr true t9e) [] .unit
abbrev u3k:=zL [3,8,9,10] (.pair .str (.pair t4n t4c)) 0 [3] .str [] .unit
abbrev u6n:=zL [3,6,7,8] (.pair t2q (.pair u94 t4c)) 0 [3] t2q [] .unit
abbrev u6o:=zL [0,1,2,7,10,11,12] (.pair u94 (.pair .str (.pair u0f (.pair u0f (.pair u94 t4c))))) 0 [7] u0f [] .unit
abbrev u6m:=zL [0,2,4,7,13,14,15] (.pair u94 (.pair u0f (.pair (.box t7n) (.pair t5r (.pair (.tr true .str) t4c))))) 0 [7] t5r [] .unit
abbrev u3l:=zL [1,3,8,9,10] (.pair (.box t8j) (.pair .str (.pair t6j t4c))) 0 [1,3] (.pair (.box t8j) .str) [] .unit
abbrev u4j:=zL [0,1,5] (.pair t4n (.pair t4n u0f)) 0 [] .unit [4] .bool
abbrev u4k:=zL [0,1,5] (.pair t6i (.pair t6i u0f)) 0 [] .unit [4] .bool
abbrev u6r:=zL [0,1,5] (.pair t4m (.pair t4m u0f)) 0 [] .unit [4] .bool
abbrev u21:=zL [0,1,5] (.pair u94 (.pair u94 u0f)) 0 [] .unit [4] .bool
abbrev u3m:=zL [0,1,5] (.pair t5m (.pair t5m u0f)) 0 [] .unit [4] .bool
abbrev u6q:=zL [0,1,5] (.pair t5q (.pair t5q u0f)) 0 [] .unit [4] .bool
abbrev u6p:=zL [0,1,5] (.pair t6j (.pair t6j u0f)) 0 [] .unit [4] .bool
def t72:Nat→Nat→Ht LoopA
 | 88,5=>some u4l
 | 89,5=>some u4m
 | 36,5=>some u6t
 | 78,5=>some u22
 | 38,5=>some u3n
 | 54,5=>some u6s
 | 47,3=>some u5t
 | 47,9=>some u5u
 | 47,15=>some u4p
 | 70,3=>some u7o
 | 19,4=>some u6x
 | 52,5=>some u9i
 | 23,3=>some u3p
 | 27,5=>some u5s
 | 12,3=>some u3q
 | 90,3=>some u4n
 | 91,3=>some u4o
 | 39,3=>some u6w
 | 80,3=>some u23
 | 41,3=>some u3o
 | 57,3=>some u6v
 | 40,3=>some u6u
 | 46,5=>some u9h
 | 18,3=>some u3k
 | 59,3=>some u6n
 | 85,3=>some u6o
 | 32,3=>some u6m
 | 14,3=>some u3l
 | 92,4=>some u4j
 | 93,4=>some u4k
 | 42,4=>some u6r
 | 86,4=>some u21
 | 44,4=>some u3m
 | 63,4=>some u6q
 | 43,4=>some u6p
 | _,_=>none
def t9y:Nat→Nat:=fun f=>f
def t78:Nat→Hu Nat→Nat:=fun f _=>f
def t48:(f:Nat)→Ht ((t6z f).ins.den→Ht (t6z f).out.den)
 | 58=>some (y6w)
 | 83=>some (y6x)
 | 84=>some (y0j)
 | _=>none
def t6l:Plan:= {sig:=t6z,join:=t70,loop:=t72,fn:=t9y,pick:=t78,prim:=t48,gd:=z7n Tryz.prog}
def A:Ann:=ann t9h t6l
set_option maxRecDepth 100000
abbrev t2p:Type:=(Hu Hs)
abbrev t1m:Type:=(Hu u87.den)
abbrev t5n:Type:=(Hs×Hs)
abbrev t4r:Type:=(Hu u0c.den)
abbrev t6h:Type:=(Hs×Bool)
abbrev t39:Type:=(Hu Int)
abbrev t7h:Type:=(Hu u0a.den)
abbrev t4a:Type:=(Hu t4o.den)
abbrev t4b:Type:=(Unit⊕Bool)
abbrev t5o:Type:=(Hu u5f.den)
abbrev t4s:Type:=(Int⊕Int)
abbrev t7d:Type:=(t39×Int)
abbrev t5p:Type:=(Int×Int)
abbrev t7i:Type:=(Int×Hs)
abbrev t7j:Type:=(t2p⊕Unit)
abbrev t7k:Type:=(t1m⊕Unit)
abbrev t7l:Type:=(t39⊕Unit)
abbrev t8r:Type:=(Hs⊕Unit)
abbrev t8s:Type:=(Hs×t7d)
abbrev t8t:Type:=(Bool×Hs)
abbrev t8u:Type:=(Hs×t6h)
abbrev zLv:=y5u Tryz.prog A
abbrev zK (f:Nat) (x:(A.sig f).ins.den):=zLv.call f x
theorem zC (f:Nat) {fn:Func} {X:(A.sig f).ins.den→Ht (A.sig f).out.den} (hp:A.prim f=none) (hf:Tryz.prog.funcs[A.fn f]? =some fn) (hb:z7r A zLv lpW f fn=X):zK f=X:=funext (y7n hp hf (congrFun hb))
theorem zW (l:LoopA) (f:Nat) (fn:Func) (r n:Nat) {S:(l.head.sh.den→Ht (l.out.sh.den⊕l.ret.sh.den))→l.head.sh.den→Ht (l.out.sh.den⊕l.ret.sh.den)} (x:l.head.sh.den) (h:S=z7l A zLv lpW f (y7v fn r) l n):lpW _ _ S x=S (lpW _ _ S) x:=y7w h x
def u2h(x:(t5n×Int)):Ht Int:=zK 124 x
def u7f (x:(t5n×Int)):Ht Int:=cond (decide ((IntKind.i64.wrap (x.2 - (x.1.1.size:Int)))<0)) (some (- 1:Int)) (cond (decide ((IntKind.i64.wrap ((IntKind.i64.wrap (x.2 - (x.1.1.size:Int))) - (x.1.2.size:Int)))<0)) (some (- 1:Int)) (some (IntKind.i64.wrap ((IntKind.i64.wrap (x.2 - (x.1.1.size:Int))) - (x.1.2.size:Int)))))
theorem t1a:u2h=u7f:=zC 124 rfl Tryz.func124 (by kernel_rfl)
def u29(x:(t1m×Int)):Ht Int:=zK 88 x
def u4c(g:(t1m×t5p)→Ht t4s)(x:(t1m×t5p)):Ht t4s:=cond (decide (x.2.2<(x.1.length:Int))) (cond (y4l x.2.2 x.1.length) ((u2h (rdL u87 x.1 x.2.2.toNat,x.2.1)).bind fun y1=>cond (decide (y1<0)) (some (.inr (- 1:Int))) (g (x.1,y1,IntKind.i64.wrap (x.2.2+1)))) none) (some (.inl x.2.1))
def u1e:=lpW _ _ u4c
theorem u83 x:u1e x=u4c u1e x:=zW u4l 88 Tryz.f88 5 27 x (by kernel_rfl)
def u6e (x:(t1m×Int)):Ht Int:=cond (decide ((IntKind.i64.wrap (x.2 - (x.1.length:Int)))<0)) (some (- 1:Int)) ((u1e (x.1,IntKind.i64.wrap (x.2 - (x.1.length:Int)),0)).bind fun r2=>match r2 with | .inl o3=>some o3 | .inr z4=>some z4)
theorem t0b:u29=u6e:=zC 88 rfl Tryz.func88 (by kernel_rfl)
def u2i(x:Z48):Ht Int:=zK 125 x
def u7i (x:Z48):Ht Int:=cond (decide ((IntKind.i64.wrap (x.2 - (x.1.1.size:Int)))<0)) (some (- 1:Int)) (cond (decide ((IntKind.i64.wrap ((IntKind.i64.wrap (x.2 - (x.1.1.size:Int))) - (x.1.2.1.size:Int)))<0)) (some (- 1:Int)) (some (IntKind.i64.wrap ((IntKind.i64.wrap (x.2 - (x.1.1.size:Int))) - (x.1.2.1.size:Int)))))
theorem t1d:u2i=u7i:=zC 125 rfl Tryz.func125 (by kernel_rfl)
def u3a(x:(t5o×Int)):Ht Int:=zK 89 x
def u4d(g:(t5o×t5p)→Ht t4s)(x:(t5o×t5p)):Ht t4s:=cond (decide (x.2.2<(x.1.length:Int))) (cond (y4l x.2.2 x.1.length) ((u2i (rdL u5f x.1 x.2.2.toNat,x.2.1)).bind fun y1=>cond (decide (y1<0)) (some (.inr (- 1:Int))) (g (x.1,y1,IntKind.i64.wrap (x.2.2+1)))) none) (some (.inl x.2.1))
def u1f:=lpW _ _ u4d
theorem u84 x:u1f x=u4d u1f x:=zW u4m 89 Tryz.f89 5 27 x (by kernel_rfl)
def u6f (x:(t5o×Int)):Ht Int:=cond (decide ((IntKind.i64.wrap (x.2 - (x.1.length:Int)))<0)) (some (- 1:Int)) ((u1f (x.1,IntKind.i64.wrap (x.2 - (x.1.length:Int)),0)).bind fun r2=>match r2 with | .inl o3=>some o3 | .inr z4=>some z4)
theorem t0c:u3a=u6f:=zC 89 rfl Tryz.func89 (by kernel_rfl)
def u3u(x:Z20):Ht Int:=zK 64 x
def u9b (x:Z20):Ht Int:=(u29 (x.1.2.2.2.2.1,x.2)).bind fun y1=>cond (decide (y1<0)) (some (- 1:Int)) ((u3a (x.1.2.2.2.2.2.1,y1)).bind fun y2=>cond (decide (y2<0)) (some (- 1:Int)) (cond (decide ((IntKind.i64.wrap (y2 - (x.1.2.2.2.2.2.2.2.size:Int)))<0)) (some (- 1:Int)) (some (IntKind.i64.wrap (y2 - (x.1.2.2.2.2.2.2.2.size:Int))))))
theorem t22:u3u=u9b:=zC 64 rfl Tryz.func64 (by kernel_rfl)
def u1h(x:Z43):Ht Int:=zK 36 x
def u56(g:Z34→Ht t4s)(x:Z34):Ht t4s:=cond (decide (x.2.2<(x.1.length:Int))) (cond (y4l x.2.2 x.1.length) ((u3u (rdL u0a x.1 x.2.2.toNat,x.2.1)).bind fun y1=>cond (decide (y1<0)) (some (.inr (- 1:Int))) (g (x.1,y1,IntKind.i64.wrap (x.2.2+1)))) none) (some (.inl x.2.1))
def u15:=lpW _ _ u56
theorem t0p x:u15 x=u56 u15 x:=zW u6t 36 Tryz.f36 5 27 x (by kernel_rfl)
def u8c (x:Z43):Ht Int:=cond (decide ((IntKind.i64.wrap (x.2 - (x.1.length:Int)))<0)) (some (- 1:Int)) ((u15 (x.1,IntKind.i64.wrap (x.2 - (x.1.length:Int)),0)).bind fun r2=>match r2 with | .inl o3=>some o3 | .inr z4=>some z4)
theorem t2b:u1h=u8c:=zC 36 rfl Tryz.func36 (by kernel_rfl)
def u1u(x:Z37):Ht Int:=zK 118 x
def u5m (x:Z37):Ht Int:=cond (decide ((IntKind.i64.wrap (x.2 - (x.1.1.size:Int)))<0)) (some (- 1:Int)) (cond (decide ((IntKind.i64.wrap ((IntKind.i64.wrap (x.2 - (x.1.1.size:Int))) - (x.1.2.1.size:Int)))<0)) (some (- 1:Int)) (some (IntKind.i64.wrap ((IntKind.i64.wrap (x.2 - (x.1.1.size:Int))) - (x.1.2.1.size:Int)))))
theorem u9u:u1u=u5m:=zC 118 rfl Tryz.func118 (by kernel_rfl)
def u2c(x:(t4r×Int)):Ht Int:=zK 78 x
def u2y(g:(t4r×t5p)→Ht t4s)(x:(t4r×t5p)):Ht t4s:=cond (decide (x.2.2<(x.1.length:Int))) (cond (y4l x.2.2 x.1.length) ((u1u (rdL u0c x.1 x.2.2.toNat,x.2.1)).bind fun y1=>cond (decide (y1<0)) (some (.inr (- 1:Int))) (g (x.1,y1,IntKind.i64.wrap (x.2.2+1)))) none) (some (.inl x.2.1))
def u0v:=lpW _ _ u2y
theorem u7v x:u0v x=u2y u0v x:=zW u22 78 Tryz.f78 5 27 x (by kernel_rfl)
def u4h (x:(t4r×Int)):Ht Int:=cond (decide ((IntKind.i64.wrap (x.2 - (x.1.length:Int)))<0)) (some (- 1:Int)) ((u0v (x.1,IntKind.i64.wrap (x.2 - (x.1.length:Int)),0)).bind fun r2=>match r2 with | .inl o3=>some o3 | .inr z4=>some z4)
theorem u8u:u2c=u4h:=zC 78 rfl Tryz.func78 (by kernel_rfl)
def u44(x:Z15):Ht Int:=zK 53 x
def u78 (x:Z15):Ht Int:=(u2c (x.1.1,x.2)).bind fun y1=>cond (decide (y1<0)) (some (- 1:Int)) ((u1h (x.1.2.1,y1)).bind fun y2=>cond (decide (y2<0)) (some (- 1:Int)) ((u1h (x.1.2.2.1,y2)).bind fun y3=>cond (decide (y3<0)) (some (- 1:Int)) (some y3)))
theorem t17:u44=u78:=zC 53 rfl Tryz.func53 (by kernel_rfl)
def u28(x:Z13):Ht Int:=zK 24 x
def u6d (x:Z13):Ht Int:=(u44 (x.1.1,x.2)).bind fun y1=>cond (decide (y1<0)) (some (- 1:Int)) ((u1h (x.1.2,y1)).bind fun y2=>cond (decide (y2<0)) (some (- 1:Int)) (some y2))
theorem t0a:u28=u6d:=zC 24 rfl Tryz.func24 (by kernel_rfl)
def u1t(x:(t2p×Int)):Ht Int:=zK 38 x
def u3h(g:(t2p×t5p)→Ht t4s)(x:(t2p×t5p)):Ht t4s:=cond (decide (x.2.2<(x.1.length:Int))) (cond (y4l x.2.2 x.1.length) (cond (decide ((IntKind.i64.wrap (x.2.1 - ((rdL Ty.str x.1 x.2.2.toNat).size:Int)))<0)) (some (.inr (- 1:Int))) (g (x.1,IntKind.i64.wrap (x.2.1 - ((rdL Ty.str x.1 x.2.2.toNat).size:Int)),IntKind.i64.wrap (x.2.2+1)))) none) (some (.inl x.2.1))
def u03:=lpW _ _ u3h
theorem u8r x:u03 x=u3h u03 x:=zW u3n 38 Tryz.f38 5 28 x (by kernel_rfl)
def u5l (x:(t2p×Int)):Ht Int:=cond (decide ((IntKind.i64.wrap (x.2 - (x.1.length:Int)))<0)) (some (- 1:Int)) ((u03 (x.1,IntKind.i64.wrap (x.2 - (x.1.length:Int)),0)).bind fun r1=>match r1 with | .inl o2=>some o2 | .inr z3=>some z3)
theorem u9t:u1t=u5l:=zC 38 rfl Tryz.func38 (by kernel_rfl)
def u3t(x:(t7i×Int)):Ht Int:=zK 79 x
def u9a (x:(t7i×Int)):Ht Int:=cond (decide ((IntKind.i64.wrap (x.2 - (x.1.2.size:Int)))<0)) (some (- 1:Int)) (some (IntKind.i64.wrap (x.2 - (x.1.2.size:Int))))
theorem t21:u3t=u9a:=zC 79 rfl Tryz.func79 (by kernel_rfl)
def u47(x:(t4a×Int)):Ht Int:=zK 54 x
def u55(g:(t4a×t5p)→Ht t4s)(x:(t4a×t5p)):Ht t4s:=cond (decide (x.2.2<(x.1.length:Int))) (cond (y4l x.2.2 x.1.length) ((u3t (rdL t4o x.1 x.2.2.toNat,x.2.1)).bind fun y1=>cond (decide (y1<0)) (some (.inr (- 1:Int))) (g (x.1,y1,IntKind.i64.wrap (x.2.2+1)))) none) (some (.inl x.2.1))
def u14:=lpW _ _ u55
theorem t0o x:u14 x=u55 u14 x:=zW u6s 54 Tryz.f54 5 27 x (by kernel_rfl)
def u8b (x:(t4a×Int)):Ht Int:=cond (decide ((IntKind.i64.wrap (x.2 - (x.1.length:Int)))<0)) (some (- 1:Int)) ((u14 (x.1,IntKind.i64.wrap (x.2 - (x.1.length:Int)),0)).bind fun r2=>match r2 with | .inl o3=>some o3 | .inr z4=>some z4)
theorem t2a:u47=u8b:=zC 54 rfl Tryz.func54 (by kernel_rfl)
def u45(x:Z42):Ht Int:=zK 25 x
def u79 (x:Z42):Ht Int:=(u1t (x.1.1,x.2)).bind fun y1=>cond (decide (y1<0)) (some (- 1:Int)) ((u47 (x.1.2,y1)).bind fun y2=>cond (decide (y2<0)) (some (- 1:Int)) (some y2))
theorem t18:u45=u79:=zC 25 rfl Tryz.func25 (by kernel_rfl)
def u35(x:Z10):Ht Int:=zK 6 x
def u7g (x:Z10):Ht Int:=(u28 (x.1.1,x.2)).bind fun y1=>cond (decide (y1<0)) (some (- 1:Int)) ((u45 (x.1.2,y1)).bind fun y2=>cond (decide (y2<0)) (some (- 1:Int)) (some y2))
theorem t1b:u35=u7g:=zC 6 rfl Tryz.func6 (by kernel_rfl)
def u46(x:t7d):Ht Int:=zK 37 x
def u8a (x:t7d):Ht Int:=cond (decide ((IntKind.i64.wrap (x.2 - (x.1.length:Int)))<0)) (some (- 1:Int)) (some (IntKind.i64.wrap (x.2 - (x.1.length:Int))))
theorem t19:u46=u8a:=zC 37 rfl Tryz.func37 (by kernel_rfl)
def u36(x:Z7):Ht Int:=zK 11 x
def u7h (x:Z7):Ht Int:=(u35 (x.1.1,x.2)).bind fun y1=>cond (decide (y1<0)) (some (- 1:Int)) ((u1h (x.1.2.1,y1)).bind fun y2=>cond (decide (y2<0)) (some (- 1:Int)) ((u46 (x.1.2.2.1,y2)).bind fun y3=>cond (decide (y3<0)) (some (- 1:Int)) ((u1t (x.1.2.2.2,y3)).bind fun y4=>cond (decide (y4<0)) (some (- 1:Int)) (some y4))))
theorem t1c:u36=u7h:=zC 11 rfl Tryz.func11 (by kernel_rfl)
def u38(x:Z52):Ht Bool:=zK 69 x
def u7m (x:Z52):Ht Bool:=((cond (!y2y x.2 x.1.1) (some (y2y x.2 x.1.2||z7m x.2 x.1.2)) (some false)):Ht Bool).bind fun j1=>some j1
theorem t1j:u38=u7m:=zC 69 rfl Tryz.func69 (by kernel_rfl)
def u39(x:Z38):Ht t2p:=zK 47 x
def u1o(g:Z16→Ht (Z19⊕Unit))(x:Z16):Ht (Z19⊕Unit):=cond (decide (x.2.2.2.2.2.2<(x.2.2.1.length:Int))) (cond (y4l x.2.2.2.2.2.2 x.2.2.1.length) (cond (y2y (rdL Ty.str x.2.2.1 x.2.2.2.2.2.2.toNat) x.2.2.2.2.1) (cond (y4l x.2.2.2.2.2.2 x.2.2.1.length) (cond (Nat.ble (x.2.2.2.2.2.1.length+([(rdL Ty.str x.2.2.1 x.2.2.2.2.2.2.toNat)]:Hu Hs).length) z8y) (g (x.1,x.2.1,x.2.2.1,x.2.2.2.1,x.2.2.2.2.1,x.2.2.2.2.2.1++([(rdL Ty.str x.2.2.1 x.2.2.2.2.2.2.toNat)]:Hu Hs),IntKind.i64.wrap (x.2.2.2.2.2.2+1))) none) none) (g (x.1,x.2.1,x.2.2.1,x.2.2.2.1,x.2.2.2.2.1,x.2.2.2.2.2.1,IntKind.i64.wrap (x.2.2.2.2.2.2+1)))) none) (some (.inl (x.1,x.2.1,x.2.2.1,x.2.2.2.1,x.2.2.2.2.1,x.2.2.2.2.2.1)))
def u0x:=lpW _ _ u1o
theorem u5x x:u0x x=u1o u0x x:=zW u5u 47 Tryz.f47 9 72 x (by kernel_rfl)
def u1d(g:Z16→Ht (Z28⊕Unit))(x:Z16):Ht (Z28⊕Unit):=cond (decide (x.2.2.2.2.2.2<(x.2.2.1.length:Int))) (cond (y4l x.2.2.2.2.2.2 x.2.2.1.length) (cond (!(y2y (rdL Ty.str x.2.2.1 x.2.2.2.2.2.2.toNat) x.2.2.2.2.1||z7m (rdL Ty.str x.2.2.1 x.2.2.2.2.2.2.toNat) x.2.2.2.2.1)) (cond (y4l x.2.2.2.2.2.2 x.2.2.1.length) (cond (Nat.ble (x.2.2.2.2.2.1.length+([(rdL Ty.str x.2.2.1 x.2.2.2.2.2.2.toNat)]:Hu Hs).length) z8y) (g (x.1,x.2.1,x.2.2.1,x.2.2.2.1,x.2.2.2.2.1,x.2.2.2.2.2.1++([(rdL Ty.str x.2.2.1 x.2.2.2.2.2.2.toNat)]:Hu Hs),IntKind.i64.wrap (x.2.2.2.2.2.2+1))) none) none) (g (x.1,x.2.1,x.2.2.1,x.2.2.2.1,x.2.2.2.2.1,x.2.2.2.2.2.1,IntKind.i64.wrap (x.2.2.2.2.2.2+1)))) none) (some (.inl (x.1,x.2.1,x.2.2.2.1,x.2.2.2.2.2.1)))
def u0t:=lpW _ _ u1d
theorem u4u x:u0t x=u1d u0t x:=zW u4p 47 Tryz.f47 15 72 x (by kernel_rfl)
def u1n(g:Z26→Ht t7j)(x:Z26):Ht t7j:=cond (decide (x.2.2.2<(x.1.length:Int))) (cond (y4l x.2.2.2 x.1.length) ((u38 (x.2.1,(rdL u0c x.1 x.2.2.2.toNat).1)).bind fun y1=>cond (!y1) (g (x.1,x.2.1,x.2.2.1,IntKind.i64.wrap (x.2.2.2+1))) ((u0x (x.1,x.2.1,x.2.2.1,x.2.2.2,(rdL u0c x.1 x.2.2.2.toNat).1,([]:Hu Hs),0)).bind fun r2=>match r2 with | .inl o3=>cond (Nat.ble (o3.2.2.2.2.2.length+([o3.2.2.2.2.1]:Hu Hs).length) z8y) ((u0t (o3.1,o3.2.1,o3.2.2.1,o3.2.2.2.1,o3.2.2.2.2.1,o3.2.2.2.2.2++([o3.2.2.2.2.1]:Hu Hs),0)).bind fun r4=>match r4 with | .inl o5=>g (o5.1,o5.2.1,o5.2.2.2,IntKind.i64.wrap (o5.2.2.1+1)) | .inr z6=>some (.inr ())) none | .inr z7=>some (.inr ()))) none) (some (.inl x.2.2.1))
def u1q:=lpW _ _ u1n
theorem u5w x:u1q x=u1n u1q x:=zW u5t 47 Tryz.f47 3 72 x (by kernel_rfl)
def u7n (x:Z38):Ht t2p:=(u1q (x.1,x.2,([]:Hu Hs),0)).bind fun r8=>match r8 with | .inl o9=>some o9 | .inr z10=>none
theorem t1k:u39=u7n:=zC 47 rfl Tryz.func47 (by kernel_rfl)
def u6y(x:Z47):Ht Int:=zK 70 x
def u2e(g:Z31→Ht (Int⊕Unit))(x:Z31):Ht (Int⊕Unit):=cond (decide (x.2.2.2.2<(x.1.length:Int))) (((cond (y4l x.2.2.2.2 x.1.length) (cond (z7m (rdL u0c x.1 x.2.2.2.2.toNat).1 x.2.1) (cond (y4l x.2.2.2.2 x.1.length) (cond (decide ((rdL u0c x.1 x.2.2.2.2.toNat).2.2.2≤x.2.2.1)) (cond (decide (x.2.2.2.1<0)) (some true) (cond (y4l x.2.2.2.2 x.1.length) (cond (y4l x.2.2.2.1 x.1.length) (some (decide ((rdL u0c x.1 x.2.2.2.2.toNat).2.2.2>(rdL u0c x.1 x.2.2.2.1.toNat).2.2.2))) none) none)) (some false)) none) (some false)) none):Ht Bool).bind fun j1=>cond j1 (g (x.1,x.2.1,x.2.2.1,x.2.2.2.2,IntKind.i64.wrap (x.2.2.2.2+1))) (g (x.1,x.2.1,x.2.2.1,x.2.2.2.1,IntKind.i64.wrap (x.2.2.2.2+1)))) (some (.inl x.2.2.2.1))
def u1j:=lpW _ _ u2e
theorem u7q x:u1j x=u2e u1j x:=zW u7o 70 Tryz.f70 3 50 x (by kernel_rfl)
def u9d (x:Z47):Ht Int:=(u1j (x.1,x.2.1,x.2.2,(- 1:Int),0)).bind fun r2=>match r2 with | .inl o3=>some o3 | .inr z4=>none
theorem t25:u6y=u9d:=zC 70 rfl Tryz.func70 (by kernel_rfl)
def u5c(x:Z47):Ht t6h:=zK 48 x
def u8j (x:Z47):Ht t6h:=(u6y x).bind fun y1=>((cond (decide (y1<0)) (some true) (cond (y4l y1 x.1.length) (some (rdL u0c x.1 y1.toNat).2.2.1) none)):Ht Bool).bind fun j2=>cond j2 (some ((⟨#[]⟩:Hs),false)) (cond (y4l y1 x.1.length) (some ((rdL u0c x.1 y1.toNat).2.1,true)) none)
theorem t2i:u5c=u8j:=zC 48 rfl Tryz.func48 (by kernel_rfl)
def u2w(x:Z33):Ht t1m:=zK 19 x
def u11(g:Z27→Ht t7k)(x:Z27):Ht t7k:=cond (decide (x.2.2.2.2<(x.2.2.2.1.length:Int))) (cond (y4l x.2.2.2.2 x.2.2.2.1.length) ((u5c (x.1,rdL Ty.str x.2.2.2.1 x.2.2.2.2.toNat,x.2.1)).bind fun y2=>cond y2.2 (cond (y4l x.2.2.2.2 x.2.2.2.1.length) (cond (Nat.ble (x.2.2.1.length+([(rdL Ty.str x.2.2.2.1 x.2.2.2.2.toNat,y2.1)]:Hu u87.den).length) z8y) (g (x.1,x.2.1,x.2.2.1++([(rdL Ty.str x.2.2.2.1 x.2.2.2.2.toNat,y2.1)]:Hu u87.den),x.2.2.2.1,IntKind.i64.wrap (x.2.2.2.2+1))) none) none) (g (x.1,x.2.1,x.2.2.1,x.2.2.2.1,IntKind.i64.wrap (x.2.2.2.2+1)))) none) (some (.inl x.2.2.1))
def u16:=lpW _ _ u11
theorem u63 x:u16 x=u11 u16 x:=zW u6x 19 Tryz.f19 4 43 x (by kernel_rfl)
def u8i (x:Z33):Ht t1m:=(u39 (x.1,x.2.1)).bind fun y1=>(u16 (x.1,x.2.2,([]:Hu u87.den),y1,0)).bind fun r3=>match r3 with | .inl o4=>some o4 | .inr z5=>none
theorem t2h:u2w=u8i:=zC 19 rfl Tryz.func19 (by kernel_rfl)
def u0k(x:Int):Ht Int:=zK 55 x
def u5r (x:Int):Ht Int:=cond (decide (x<10)) (some (IntKind.u8.wrap (IntKind.i64.wrap ((48:Int)+x)))) (some (IntKind.u8.wrap (IntKind.i64.wrap ((IntKind.i64.wrap ((97:Int)+x)) - 10))))
theorem u90:u0k=u5r:=zC 55 rfl Tryz.func55 (by kernel_rfl)
def u8y(x:Hs):Ht t6h:=zK 52 x
def u3j(g:t8s→Ht t7l)(x:t8s):Ht t7l:=cond (decide (x.2.2<(x.1.size:Int))) (cond (y4l x.2.2 x.1.size) ((u0k (IntKind.i64.wrap (Int.tdiv (IntKind.i64.wrap ((x.1.data.toList.getD x.2.2.toNat 0).toNat:Int)) (16:Int)))).bind fun y1=>cond (y4l x.2.2 x.1.size) ((u0k (Int.tmod (IntKind.i64.wrap ((x.1.data.toList.getD x.2.2.toNat 0).toNat:Int)) (16:Int))).bind fun y2=>cond (Nat.ble (x.2.1.length+([y1,y2]:Hu Int).length) z8y) (g (x.1,x.2.1++([y1,y2]:Hu Int),IntKind.i64.wrap (x.2.2+1))) none) none) none) (some (.inl x.2.1))
def u2m:=lpW _ _ u3j
theorem u9l x:u2m x=u3j u2m x:=zW u9i 52 Tryz.f52 5 33 x (by kernel_rfl)
def t1o (x:Hs):Ht t6h:=cond (decide ((x.size:Int)>(20000:Int))) (some ((⟨#[]⟩:Hs),false)) ((u2m (x,([]:Hu Int),0)).bind fun r3=>match r3 with | .inl o4=>some (y7d o4,true) | .inr z5=>none)
theorem t4e:u8y=t1o:=zC 52 rfl Tryz.func52 (by kernel_rfl)
def u2s(x:t1m):Ht Hs:=zK 23 x
def u00(g:Z54→Ht t8r)(x:Z54):Ht t8r:=cond (decide (x.2.2<(x.1.length:Int))) (cond (y4l x.2.2 x.1.length) ((u8y (rdL u87 x.1 x.2.2.toNat).2).bind fun y1=>cond (y4l x.2.2 x.1.length) (cond (decide (x.2.1.size+(rdL u87 x.1 x.2.2.toNat).1.size≤140737488355328)) (cond (decide ((x.2.1++(rdL u87 x.1 x.2.2.toNat).1).size+(⟨#[61]⟩:Hs).size≤140737488355328)) (cond (decide (((x.2.1++(rdL u87 x.1 x.2.2.toNat).1)++(⟨#[61]⟩:Hs)).size+y1.1.size≤140737488355328)) (cond (decide ((((x.2.1++(rdL u87 x.1 x.2.2.toNat).1)++(⟨#[61]⟩:Hs))++y1.1).size+(⟨#[10]⟩:Hs).size≤140737488355328)) (g (x.1,(((x.2.1++(rdL u87 x.1 x.2.2.toNat).1)++(⟨#[61]⟩:Hs))++y1.1)++(⟨#[10]⟩:Hs),IntKind.i64.wrap (x.2.2+1))) none) none) none) none) none) none) (some (.inl x.2.1))
def u04:=lpW _ _ u00
theorem u3z x:u04 x=u00 u04 x:=zW u3p 23 Tryz.f23 3 34 x (by kernel_rfl)
def u5o (x:t1m):Ht Hs:=(u04 (x,(⟨#[]⟩:Hs),0)).bind fun r2=>match r2 with | .inl o3=>some o3 | .inr z4=>none
theorem u9x:u2s=u5o:=zC 23 rfl Tryz.func23 (by kernel_rfl)
def u1l(x:Int):Ht Hs:=zK 27 x
def u1m(g:(Int×t8t)→Ht (t8t⊕Unit))(x:(Int×t8t)):Ht (t8t⊕Unit):=cond (!decide (x.1=0)) (cond (decide ((Int.tmod x.1 (10:Int))<0)) ((u0k (IntKind.i64.wrap (0 - (Int.tmod x.1 (10:Int))))).bind fun y1=>cond (decide ((y7d ([y1]:Hu Int)).size+x.2.2.size≤140737488355328)) (g (IntKind.i64.wrap (Int.tdiv x.1 (10:Int)),x.2.1,(y7d ([y1]:Hu Int))++x.2.2)) none) ((u0k (Int.tmod x.1 (10:Int))).bind fun y2=>cond (decide ((y7d ([y2]:Hu Int)).size+x.2.2.size≤140737488355328)) (g (IntKind.i64.wrap (Int.tdiv x.1 (10:Int)),x.2.1,(y7d ([y2]:Hu Int))++x.2.2)) none)) (some (.inl x.2))
def u1p:=lpW _ _ u1m
theorem u5v x:u1p x=u1m u1p x:=zW u5s 27 Tryz.f27 5 30 x (by kernel_rfl)
def u7l (x:Int):Ht Hs:=cond (decide (x=0)) (some (⟨#[48]⟩:Hs)) ((u1p (x,decide (x<0),(⟨#[]⟩:Hs))).bind fun r3=>match r3 with | .inl o4=>cond o4.1 (cond (decide ((⟨#[45]⟩:Hs).size+o4.2.size≤140737488355328)) (some ((⟨#[45]⟩:Hs)++o4.2)) none) (some o4.2) | .inr z5=>none)
theorem t1i:u1l=u7l:=zC 27 rfl Tryz.func27 (by kernel_rfl)
def u19(x:Int):Ht Hs:=zK 26 x
def u8k (x:Int):Ht Hs:=cond (decide (x<0)) (some (⟨#[48]⟩:Hs)) ((u1l x).bind fun y1=>some y1)
theorem t2k:u19=u8k:=zC 26 rfl Tryz.func26 (by kernel_rfl)
def u5d(x:Unit):Ht t5n:=zK 28 x
def t1w (x:Unit):Ht t5n:=some ((⟨#[97]⟩:Hs),(⟨#[122,122,122]⟩:Hs))
theorem t2j:u5d=t1w:=zC 28 rfl Tryz.func28 (by kernel_rfl)
def u2t(x:Z11):Ht Hs:=zK 7 x
def u5p (x:Z11):Ht Hs:=(u19 x.1.1.2.2.2.1).bind fun y1=>cond (decide ((⟨#[99,115,32]⟩:Hs).size+y1.size≤140737488355328)) (cond (decide (((⟨#[99,115,32]⟩:Hs)++y1).size+(⟨#[32,111,112,101,110,32]⟩:Hs).size≤140737488355328)) ((u1l (x.1.2.length:Int)).bind fun y2=>cond (decide ((((⟨#[99,115,32]⟩:Hs)++y1)++(⟨#[32,111,112,101,110,32]⟩:Hs)).size+y2.size≤140737488355328)) (cond (decide (((((⟨#[99,115,32]⟩:Hs)++y1)++(⟨#[32,111,112,101,110,32]⟩:Hs))++y2).size+(⟨#[32,114,101,97,100,121,32]⟩:Hs).size≤140737488355328)) ((u1l (x.1.1.2.2.1.length:Int)).bind fun y3=>cond (decide ((((((⟨#[99,115,32]⟩:Hs)++y1)++(⟨#[32,111,112,101,110,32]⟩:Hs))++y2)++(⟨#[32,114,101,97,100,121,32]⟩:Hs)).size+y3.size≤140737488355328)) (cond (decide (((((((⟨#[99,115,32]⟩:Hs)++y1)++(⟨#[32,111,112,101,110,32]⟩:Hs))++y2)++(⟨#[32,114,101,97,100,121,32]⟩:Hs))++y3).size+(⟨#[10]⟩:Hs).size≤140737488355328)) ((u5d ()).bind fun y4=>(u2w (x.1.1.1,y4,x.1.1.2.2.2.1)).bind fun y5=>(u2s y5).bind fun y6=>cond (decide ((((((((⟨#[99,115,32]⟩:Hs)++y1)++(⟨#[32,111,112,101,110,32]⟩:Hs))++y2)++(⟨#[32,114,101,97,100,121,32]⟩:Hs))++y3)++(⟨#[10]⟩:Hs)).size+y6.size≤140737488355328)) (some ((((((((⟨#[99,115,32]⟩:Hs)++y1)++(⟨#[32,111,112,101,110,32]⟩:Hs))++y2)++(⟨#[32,114,101,97,100,121,32]⟩:Hs))++y3)++(⟨#[10]⟩:Hs))++y6)) none) none) none) none) none) none) none
theorem u9y:u2t=u5p:=zC 7 rfl Tryz.func7 (by kernel_rfl)
def u2u(x:Z8):Ht Hs:=zK 12 x
def u01(g:Z5→Ht (Z6⊕Unit))(x:Z5):Ht (Z6⊕Unit):=cond (decide (x.2.2<(x.1.2.2.1.length:Int))) (((cond (decide (x.2.2<(x.1.2.2.2.length:Int))) (cond (y4l x.2.2 x.1.2.2.2.length) (some (!z7m (rdL Ty.str x.1.2.2.2 x.2.2.toNat) (⟨#[]⟩:Hs))) none) (some false)):Ht Bool).bind fun j1=>cond j1 (cond (y4l x.2.2 x.1.2.2.2.length) (cond (y4l x.2.2 x.1.2.2.1.length) ((u19 (rdL (Ty.int .i64) x.1.2.2.1 x.2.2.toNat)).bind fun y2=>cond (decide (x.2.1.size+y2.size≤140737488355328)) (cond (decide ((x.2.1++y2).size+(⟨#[32]⟩:Hs).size≤140737488355328)) (cond (decide (((x.2.1++y2)++(⟨#[32]⟩:Hs)).size+(rdL Ty.str x.1.2.2.2 x.2.2.toNat).size≤140737488355328)) (cond (decide ((((x.2.1++y2)++(⟨#[32]⟩:Hs))++(rdL Ty.str x.1.2.2.2 x.2.2.toNat)).size+(⟨#[10]⟩:Hs).size≤140737488355328)) (g (x.1,(((x.2.1++y2)++(⟨#[32]⟩:Hs))++(rdL Ty.str x.1.2.2.2 x.2.2.toNat))++(⟨#[10]⟩:Hs),IntKind.i64.wrap (x.2.2+1))) none) none) none) none) none) none) (cond (y4l x.2.2 x.1.2.2.1.length) ((u19 (rdL (Ty.int .i64) x.1.2.2.1 x.2.2.toNat)).bind fun y3=>cond (decide (x.2.1.size+y3.size≤140737488355328)) (cond (decide ((x.2.1++y3).size+(⟨#[32]⟩:Hs).size≤140737488355328)) (cond (decide (((x.2.1++y3)++(⟨#[32]⟩:Hs)).size+(⟨#[46]⟩:Hs).size≤140737488355328)) (cond (decide ((((x.2.1++y3)++(⟨#[32]⟩:Hs))++(⟨#[46]⟩:Hs)).size+(⟨#[10]⟩:Hs).size≤140737488355328)) (g (x.1,(((x.2.1++y3)++(⟨#[32]⟩:Hs))++(⟨#[46]⟩:Hs))++(⟨#[10]⟩:Hs),IntKind.i64.wrap (x.2.2+1))) none) none) none) none) none)) (some (.inl (x.1,x.2.1)))
def u0o:=lpW _ _ u01
theorem u30 x:u0o x=u01 u0o x:=zW u3q 12 Tryz.f12 3 48 x (by kernel_rfl)
def u5q (x:Z8):Ht Hs:=(u0o (x,(⟨#[]⟩:Hs),0)).bind fun r4=>match r4 with | .inl o5=>((u2t o5.1.1).bind fun y6=>cond (decide (o5.2.size+y6.size≤140737488355328)) (some (o5.2++y6)) none) | .inr z7=>none
theorem u9z:u2u=u5q:=zC 12 rfl Tryz.func12 (by kernel_rfl)
def u2j(x:t5n):Ht t5n:=zK 126 x
def t00 (x:t5n):Ht t5n:=some x
theorem t1e:u2j=t00:=zC 126 rfl Tryz.func126 (by kernel_rfl)
def u3c(x:t1m):Ht t1m:=zK 90 x
def u4e(g:Z44→Ht t7k)(x:Z44):Ht t7k:=cond (decide (x.2.2<(x.1.length:Int))) (cond (y4l x.2.2 x.1.length) ((u2j (rdL u87 x.1 x.2.2.toNat)).bind fun y1=>cond (y4l x.2.2 x.2.1.length) (g (x.1,x.2.1.set x.2.2.toNat y1,IntKind.i64.wrap (x.2.2+1))) none) none) (some (.inl x.2.1))
def u0r:=lpW _ _ u4e
theorem u85 x:u0r x=u4e u0r x:=zW u4n 90 Tryz.f90 3 23 x (by kernel_rfl)
def u6h (x:t1m):Ht t1m:=cond (decide (0≤(x.length:Int))&&decide ((x.length:Int)≤1099511627776)) ((u0r (x,List.replicate (x.length:Int).toNat u87.zero,0)).bind fun r2=>match r2 with | .inl o3=>some o3 | .inr z4=>none) none
theorem t0e:u3c=u6h:=zC 90 rfl Tryz.func90 (by kernel_rfl)
def u2k(x:t8u):Ht t8u:=zK 127 x
def t01 (x:t8u):Ht t8u:=some x
theorem t1h:u2k=t01:=zC 127 rfl Tryz.func127 (by kernel_rfl)
def u3d(x:t5o):Ht t5o:=zK 91 x
def u4f(g:Z39→Ht (t5o⊕Unit))(x:Z39):Ht (t5o⊕Unit):=cond (decide (x.2.2<(x.1.length:Int))) (cond (y4l x.2.2 x.1.length) ((u2k (rdL u5f x.1 x.2.2.toNat)).bind fun y1=>cond (y4l x.2.2 x.2.1.length) (g (x.1,x.2.1.set x.2.2.toNat y1,IntKind.i64.wrap (x.2.2+1))) none) none) (some (.inl x.2.1))
def u0s:=lpW _ _ u4f
theorem u86 x:u0s x=u4f u0s x:=zW u4o 91 Tryz.f91 3 23 x (by kernel_rfl)
def u6i (x:t5o):Ht t5o:=cond (decide (0≤(x.length:Int))&&decide ((x.length:Int)≤1099511627776)) ((u0s (x,List.replicate (x.length:Int).toNat u5f.zero,0)).bind fun r2=>match r2 with | .inl o3=>some o3 | .inr z4=>none) none
theorem t0f:u3d=u6i:=zC 91 rfl Tryz.func91 (by kernel_rfl)
def u3w(x:Z21):Ht Z21:=zK 65 x
def u9c (x:Z21):Ht Z21:=(u3c x.2.2.2.2.1).bind fun y1=>(u3d x.2.2.2.2.2.1).bind fun y2=>some (x.1,x.2.1,x.2.2.1,x.2.2.2.1,y1,y2,x.2.2.2.2.2.2)
theorem t24:u3w=u9c:=zC 65 rfl Tryz.func65 (by kernel_rfl)
def u1i(x:t7h):Ht t7h:=zK 39 x
def u59(g:Z24→Ht (t7h⊕Unit))(x:Z24):Ht (t7h⊕Unit):=cond (decide (x.2.2<(x.1.length:Int))) (cond (y4l x.2.2 x.1.length) ((u3w (rdL u0a x.1 x.2.2.toNat)).bind fun y1=>cond (y4l x.2.2 x.2.1.length) (g (x.1,x.2.1.set x.2.2.toNat y1,IntKind.i64.wrap (x.2.2+1))) none) none) (some (.inl x.2.1))
def u1b:=lpW _ _ u59
theorem t0s x:u1b x=u59 u1b x:=zW u6w 39 Tryz.f39 3 23 x (by kernel_rfl)
def u8h (x:t7h):Ht t7h:=cond (decide (0≤(x.length:Int))&&decide ((x.length:Int)≤1099511627776)) ((u1b (x,List.replicate (x.length:Int).toNat u0a.zero,0)).bind fun r2=>match r2 with | .inl o3=>some o3 | .inr z4=>none) none
theorem t2g:u1i=u8h:=zC 39 rfl Tryz.func39 (by kernel_rfl)
def u1w(x:Z49):Ht Z49:=zK 119 x
def u9n (x:Z49):Ht Z49:=some x
theorem u9w:u1w=u9n:=zC 119 rfl Tryz.func119 (by kernel_rfl)
def u2d(x:t4r):Ht t4r:=zK 80 x
def u2z(g:Z35→Ht (t4r⊕Unit))(x:Z35):Ht (t4r⊕Unit):=cond (decide (x.2.2<(x.1.length:Int))) (cond (y4l x.2.2 x.1.length) ((u1w (rdL u0c x.1 x.2.2.toNat)).bind fun y1=>cond (y4l x.2.2 x.2.1.length) (g (x.1,x.2.1.set x.2.2.toNat y1,IntKind.i64.wrap (x.2.2+1))) none) none) (some (.inl x.2.1))
def u0h:=lpW _ _ u2z
theorem u7w x:u0h x=u2z u0h x:=zW u23 80 Tryz.f80 3 23 x (by kernel_rfl)
def u4i (x:t4r):Ht t4r:=cond (decide (0≤(x.length:Int))&&decide ((x.length:Int)≤1099511627776)) ((u0h (x,List.replicate (x.length:Int).toNat u0c.zero,0)).bind fun r2=>match r2 with | .inl o3=>some o3 | .inr z4=>none) none
theorem u8v:u2d=u4i:=zC 80 rfl Tryz.func80 (by kernel_rfl)
def u48(x:Z17):Ht Z17:=zK 56 x
def u8d (x:Z17):Ht Z17:=(u2d x.1).bind fun y1=>(u1i x.2.1).bind fun y2=>(u1i x.2.2.1).bind fun y3=>some (y1,y2,y3,x.2.2.2)
theorem t2c:u48=u8d:=zC 56 rfl Tryz.func56 (by kernel_rfl)
def u3b(x:Z14):Ht Z14:=zK 29 x
def u6g (x:Z14):Ht Z14:=(u48 x.1).bind fun y1=>(u1i x.2).bind fun y2=>some (y1,y2)
theorem t0d:u3b=u6g:=zC 29 rfl Tryz.func29 (by kernel_rfl)
def u1v(x:t2p):Ht t2p:=zK 41 x
def u3i(g:Z40→Ht t7j)(x:Z40):Ht t7j:=cond (decide (x.2.2<(x.1.length:Int))) (cond (y4l x.2.2 x.1.length) (cond (y4l x.2.2 x.2.1.length) (g (x.1,x.2.1.set x.2.2.toNat (rdL Ty.str x.1 x.2.2.toNat),IntKind.i64.wrap (x.2.2+1))) none) none) (some (.inl x.2.1))
def u0n:=lpW _ _ u3i
theorem u8s x:u0n x=u3i u0n x:=zW u3o 41 Tryz.f41 3 22 x (by kernel_rfl)
def u5n (x:t2p):Ht t2p:=cond (decide (0≤(x.length:Int))&&decide ((x.length:Int)≤1099511627776)) ((u0n (x,List.replicate (x.length:Int).toNat Ty.str.zero,0)).bind fun r1=>match r1 with | .inl o2=>some o2 | .inr z3=>none) none
theorem u9v:u1v=u5n:=zC 41 rfl Tryz.func41 (by kernel_rfl)
def u3v(x:t7i):Ht t7i:=zK 81 x
def t2x (x:t7i):Ht t7i:=some x
theorem t23:u3v=t2x:=zC 81 rfl Tryz.func81 (by kernel_rfl)
def u5b(x:t4a):Ht t4a:=zK 57 x
def u58(g:Z46→Ht (t4a⊕Unit))(x:Z46):Ht (t4a⊕Unit):=cond (decide (x.2.2<(x.1.length:Int))) (cond (y4l x.2.2 x.1.length) ((u3v (rdL t4o x.1 x.2.2.toNat)).bind fun y1=>cond (y4l x.2.2 x.2.1.length) (g (x.1,x.2.1.set x.2.2.toNat y1,IntKind.i64.wrap (x.2.2+1))) none) none) (some (.inl x.2.1))
def u1a:=lpW _ _ u58
theorem t0r x:u1a x=u58 u1a x:=zW u6v 57 Tryz.f57 3 23 x (by kernel_rfl)
def u8g (x:t4a):Ht t4a:=cond (decide (0≤(x.length:Int))&&decide ((x.length:Int)≤1099511627776)) ((u1a (x,List.replicate (x.length:Int).toNat t4o.zero,0)).bind fun r2=>match r2 with | .inl o3=>some o3 | .inr z4=>none) none
theorem t2f:u5b=u8g:=zC 57 rfl Tryz.func57 (by kernel_rfl)
def u49(x:Z55):Ht Z55:=zK 30 x
def u8e (x:Z55):Ht Z55:=(u1v x.1).bind fun y1=>(u5b x.2).bind fun y2=>some (y1,y2)
theorem t2d:u49=u8e:=zC 30 rfl Tryz.func30 (by kernel_rfl)
def u37(x:Z11):Ht Z11:=zK 8 x
def u7j (x:Z11):Ht Z11:=(u3b x.1).bind fun y1=>(u49 x.2).bind fun y2=>some (y1,y2)
theorem t1f:u37=u7j:=zC 8 rfl Tryz.func8 (by kernel_rfl)
def u5a(x:t39):Ht t39:=zK 40 x
def u57(g:(t39×t7d)→Ht t7l)(x:(t39×t7d)):Ht t7l:=cond (decide (x.2.2<(x.1.length:Int))) (cond (y4l x.2.2 x.1.length) (cond (y4l x.2.2 x.2.1.length) (g (x.1,x.2.1.set x.2.2.toNat (rdL (Ty.int .i64) x.1 x.2.2.toNat),IntKind.i64.wrap (x.2.2+1))) none) none) (some (.inl x.2.1))
def u09:=lpW _ _ u57
theorem t0q x:u09 x=u57 u09 x:=zW u6u 40 Tryz.f40 3 22 x (by kernel_rfl)
def u8f (x:t39):Ht t39:=cond (decide (0≤(x.length:Int))&&decide ((x.length:Int)≤1099511627776)) ((u09 (x,List.replicate (x.length:Int).toNat (Ty.int .i64).zero,0)).bind fun r1=>match r1 with | .inl o2=>some o2 | .inr z3=>none) none
theorem t2e:u5a=u8f:=zC 40 rfl Tryz.func40 (by kernel_rfl)
def u1k(x:Z8):Ht Z8:=zK 13 x
def u7k (x:Z8):Ht Z8:=(u37 x.1).bind fun y1=>(u1i x.2.1).bind fun y2=>(u5a x.2.2.1).bind fun y3=>(u1v x.2.2.2).bind fun y4=>some (y1,y2,y3,y4)
theorem t1g:u1k=u7k:=zC 13 rfl Tryz.func13 (by kernel_rfl)
def u8x(x:Hs):Ht t6h:=zK 46 x
def u3f(g:t8s→Ht t7l)(x:t8s):Ht t7l:=cond (decide (x.2.2<(x.1.size:Int))) (cond (y4l x.2.2 x.1.size) (cond (y4l (IntKind.u8.wrap (Int.tdiv ((x.1.data.toList.getD x.2.2.toNat 0).toNat:Int) (16:Int))) (⟨#[48,49,50,51,52,53,54,55,56,57,97,98,99,100,101,102]⟩:Hs).size) (cond (y4l x.2.2 x.1.size) (cond (y4l (Int.tmod ((x.1.data.toList.getD x.2.2.toNat 0).toNat:Int) (16:Int)) (⟨#[48,49,50,51,52,53,54,55,56,57,97,98,99,100,101,102]⟩:Hs).size) (cond (Nat.ble (x.2.1.length+([(((⟨#[48,49,50,51,52,53,54,55,56,57,97,98,99,100,101,102]⟩:Hs).data.toList.getD (IntKind.u8.wrap (Int.tdiv ((x.1.data.toList.getD x.2.2.toNat 0).toNat:Int) (16:Int))).toNat 0).toNat:Int),(((⟨#[48,49,50,51,52,53,54,55,56,57,97,98,99,100,101,102]⟩:Hs).data.toList.getD (Int.tmod ((x.1.data.toList.getD x.2.2.toNat 0).toNat:Int) (16:Int)).toNat 0).toNat:Int)]:Hu Int).length) z8y) (g (x.1,x.2.1++([(((⟨#[48,49,50,51,52,53,54,55,56,57,97,98,99,100,101,102]⟩:Hs).data.toList.getD (IntKind.u8.wrap (Int.tdiv ((x.1.data.toList.getD x.2.2.toNat 0).toNat:Int) (16:Int))).toNat 0).toNat:Int),(((⟨#[48,49,50,51,52,53,54,55,56,57,97,98,99,100,101,102]⟩:Hs).data.toList.getD (Int.tmod ((x.1.data.toList.getD x.2.2.toNat 0).toNat:Int) (16:Int)).toNat 0).toNat:Int)]:Hu Int),IntKind.i64.wrap (x.2.2+1))) none) none) none) none) none) (some (.inl x.2.1))
def u2l:=lpW _ _ u3f
theorem u9k x:u2l x=u3f u2l x:=zW u9h 46 Tryz.f46 5 30 x (by kernel_rfl)
def t1n (x:Hs):Ht t6h:=cond (decide ((x.size:Int)>(20000:Int))) (some ((⟨#[]⟩:Hs),false)) ((u2l (x,([]:Hu Int),0)).bind fun r1=>match r1 with | .inl o2=>some (y7d o2,true) | .inr z3=>none)
theorem t4d:u8x=t1n:=zC 46 rfl Tryz.func46 (by kernel_rfl)
def u2p(x:t1m):Ht Hs:=zK 18 x
def u0y(g:Z41→Ht t8r)(x:Z41):Ht t8r:=cond (decide (x.2.2.2<x.2.2.1)) (cond (y4l x.2.2.2 x.2.1.length) ((u8x (rdL u87 x.2.1 x.2.2.2.toNat).2).bind fun y1=>cond (decide ((rdL u87 x.2.1 x.2.2.2.toNat).1.size+(⟨#[61]⟩:Hs).size≤140737488355328)) (cond (decide (((rdL u87 x.2.1 x.2.2.2.toNat).1++(⟨#[61]⟩:Hs)).size+y1.1.size≤140737488355328)) (cond (decide ((((rdL u87 x.2.1 x.2.2.2.toNat).1++(⟨#[61]⟩:Hs))++y1.1).size+(⟨#[10]⟩:Hs).size≤140737488355328)) (cond (decide (x.1.size+((((rdL u87 x.2.1 x.2.2.2.toNat).1++(⟨#[61]⟩:Hs))++y1.1)++(⟨#[10]⟩:Hs)).size≤140737488355328)) (g (x.1++((((rdL u87 x.2.1 x.2.2.2.toNat).1++(⟨#[61]⟩:Hs))++y1.1)++(⟨#[10]⟩:Hs)),x.2.1,x.2.2.1,IntKind.i64.wrap (x.2.2.2+1))) none) none) none) none) none) (some (.inl x.1))
def u02:=lpW _ _ u0y
theorem u3x x:u02 x=u0y u02 x:=zW u3k 18 Tryz.f18 3 30 x (by kernel_rfl)
def u5g (x:t1m):Ht Hs:=(u02 ((⟨#[]⟩:Hs),x,(x.length:Int),0)).bind fun r2=>match r2 with | .inl o3=>some o3 | .inr z4=>none
theorem u9o:u2p=u5g:=zC 18 rfl Tryz.func18 (by kernel_rfl)
def u7p(x:Int):Ht Hs:=zK 58 x
theorem t1l:∀(x:Int),u7p x=y6w x:=y6b (P:=Tryz.prog) (A:=A) (f:=58) (F:=y6w) rfl
def u0e(x:Int):Ht Hs:=zK 31 x
def u69 (x:Int):Ht Hs:=(u7p x).bind fun y1=>some y1
theorem t03:u0e=u69:=zC 31 rfl Tryz.func31 (by kernel_rfl)
def u1c(x:t2p):Ht t2p:=zK 83 x
theorem u20:∀(x:t2p),u1c x=y6x x:=y6b (P:=Tryz.prog) (A:=A) (f:=83) (F:=y6x) rfl
def u0u(x:t2p):Ht t2p:=zK 84 x
theorem u2n:∀(x:t2p),u0u x=y0j x:=y6b (P:=Tryz.prog) (A:=A) (f:=84) (F:=y0j) rfl
def u4y(x:t4r):Ht t2p:=zK 59 x
def u1z(g:Z32→Ht t7j)(x:Z32):Ht t7j:=cond (decide (x.2.2.2<x.2.2.1)) (cond (y4l x.2.2.2 x.2.1.length) (cond (Nat.ble (x.1.length+([(rdL u0c x.2.1 x.2.2.2.toNat).1]:Hu Hs).length) z8y) (g (x.1++([(rdL u0c x.2.1 x.2.2.2.toNat).1]:Hu Hs),x.2.1,x.2.2.1,IntKind.i64.wrap (x.2.2.2+1))) none) none) (some (.inl x.1))
def u13:=lpW _ _ u1z
theorem u61 x:u13 x=u1z u13 x:=zW u6n 59 Tryz.f59 3 22 x (by kernel_rfl)
def u71 (x:t4r):Ht t2p:=(u13 (([]:Hu Hs),x,(x.length:Int),0)).bind fun r1=>match r1 with | .inl o2=>((u1c o2).bind fun y3=>(u0u y3).bind fun y4=>some y4) | .inr z5=>none
theorem t10:u4y=u71:=zC 59 rfl Tryz.func59 (by kernel_rfl)
def u4z(x:Z47):Ht Int:=zK 85 x
def u10(g:Z22→Ht (Int⊕Unit))(x:Z22):Ht (Int⊕Unit):=cond (decide (x.2.2.2.2.2.2<x.2.2.2.2.2.1)) (cond (y4l x.2.2.2.2.2.2 x.2.2.2.2.1.length) (((cond (z7m (rdL u0c x.2.2.2.2.1 x.2.2.2.2.2.2.toNat).1 x.2.1) (cond (decide ((rdL u0c x.2.2.2.2.1 x.2.2.2.2.2.2.toNat).2.2.2≤x.2.2.1)) (cond (decide (x.2.2.2.1<0)) (some true) (cond (y4l x.2.2.2.1 x.1.length) (some (decide ((rdL u0c x.2.2.2.2.1 x.2.2.2.2.2.2.toNat).2.2.2>(rdL u0c x.1 x.2.2.2.1.toNat).2.2.2))) none)) (some false)) (some false)):Ht Bool).bind fun j1=>cond j1 (g (x.1,x.2.1,x.2.2.1,x.2.2.2.2.2.2,x.2.2.2.2.1,x.2.2.2.2.2.1,IntKind.i64.wrap (x.2.2.2.2.2.2+1))) (g (x.1,x.2.1,x.2.2.1,x.2.2.2.1,x.2.2.2.2.1,x.2.2.2.2.2.1,IntKind.i64.wrap (x.2.2.2.2.2.2+1)))) none) (some (.inl x.2.2.2.1))
def u05:=lpW _ _ u10
theorem u62 x:u05 x=u10 u05 x:=zW u6o 85 Tryz.f85 3 44 x (by kernel_rfl)
def u72 (x:Z47):Ht Int:=(u05 (x.1,x.2.1,x.2.2,(- 1:Int),x.1,(x.1.length:Int),0)).bind fun r2=>match r2 with | .inl o3=>some o3 | .inr z4=>none
theorem t11:u4z=u72:=zC 85 rfl Tryz.func85 (by kernel_rfl)
def u4x(x:Z47):Ht t6h:=zK 60 x
def u70 (x:Z47):Ht t6h:=(u4z x).bind fun y1=>((cond (decide (y1<0)) (some true) (cond (y4l y1 x.1.length) (some (rdL u0c x.1 y1.toNat).2.2.1) none)):Ht Bool).bind fun j2=>cond j2 (some ((⟨#[]⟩:Hs),false)) (cond (y4l y1 x.1.length) (some ((rdL u0c x.1 y1.toNat).2.1,true)) none)
theorem t1z:u4x=u70:=zC 60 rfl Tryz.func60 (by kernel_rfl)
def u31(x:Z52):Ht Bool:=zK 61 x
def u7a (x:Z52):Ht Bool:=((cond (!y2y x.2 x.1.1) (some (y2y x.2 x.1.2||z7m x.2 x.1.2)) (some false)):Ht Bool).bind fun j1=>some j1
theorem t04:u31=u7a:=zC 61 rfl Tryz.func61 (by kernel_rfl)
def u2v(x:Z33):Ht t1m:=zK 32 x
def u1y(g:Z18→Ht t7k)(x:Z18):Ht t7k:=cond (decide (x.2.2.2.2.2.2<x.2.2.2.2.2.1)) (cond (y4l x.2.2.2.2.2.2 x.2.2.2.2.1.length) ((u4x (x.1,rdL Ty.str x.2.2.2.2.1 x.2.2.2.2.2.2.toNat,x.2.1)).bind fun y2=>((cond y2.2 ((u31 (x.2.2.1,rdL Ty.str x.2.2.2.2.1 x.2.2.2.2.2.2.toNat)).bind fun y3=>some y3) (some false)):Ht Bool).bind fun j4=>cond j4 (cond (Nat.ble (x.2.2.2.1.length+([(rdL Ty.str x.2.2.2.2.1 x.2.2.2.2.2.2.toNat,y2.1)]:Hu u87.den).length) z8y) (g (x.1,x.2.1,x.2.2.1,x.2.2.2.1++([(rdL Ty.str x.2.2.2.2.1 x.2.2.2.2.2.2.toNat,y2.1)]:Hu u87.den),x.2.2.2.2.1,x.2.2.2.2.2.1,IntKind.i64.wrap (x.2.2.2.2.2.2+1))) none) (g (x.1,x.2.1,x.2.2.1,x.2.2.2.1,x.2.2.2.2.1,x.2.2.2.2.2.1,IntKind.i64.wrap (x.2.2.2.2.2.2+1)))) none) (some (.inl x.2.2.2.1))
def u12:=lpW _ _ u1y
theorem u60 x:u12 x=u1y u12 x:=zW u6m 32 Tryz.f32 3 40 x (by kernel_rfl)
def u7z (x:Z33):Ht t1m:=(u4y x.1).bind fun y1=>(u12 (x.1,x.2.2,x.2.1,([]:Hu u87.den),y1,(y1.length:Int),0)).bind fun r5=>match r5 with | .inl o6=>some o6 | .inr z7=>none
theorem t1y:u2v=u7z:=zC 32 rfl Tryz.func32 (by kernel_rfl)
def u32(x:Unit):Ht t5n:=zK 33 x
def t0z (x:Unit):Ht t5n:=some ((⟨#[97]⟩:Hs),(⟨#[122,122,122]⟩:Hs))
theorem t05:u32=t0z:=zC 33 rfl Tryz.func33 (by kernel_rfl)
def u2q(x:Z11):Ht Hs:=zK 9 x
def u5h (x:Z11):Ht Hs:=(u0e (y8g x.1.1.2.2.2.1 (0:Int))).bind fun y1=>cond (decide ((⟨#[99,115,32]⟩:Hs).size+y1.size≤140737488355328)) (cond (decide (((⟨#[99,115,32]⟩:Hs)++y1).size+(⟨#[32,111,112,101,110,32]⟩:Hs).size≤140737488355328)) ((u0e (x.1.2.length:Int)).bind fun y2=>cond (decide ((((⟨#[99,115,32]⟩:Hs)++y1)++(⟨#[32,111,112,101,110,32]⟩:Hs)).size+y2.size≤140737488355328)) (cond (decide (((((⟨#[99,115,32]⟩:Hs)++y1)++(⟨#[32,111,112,101,110,32]⟩:Hs))++y2).size+(⟨#[32,114,101,97,100,121,32]⟩:Hs).size≤140737488355328)) ((u0e (x.1.1.2.2.1.length:Int)).bind fun y3=>cond (decide ((((((⟨#[99,115,32]⟩:Hs)++y1)++(⟨#[32,111,112,101,110,32]⟩:Hs))++y2)++(⟨#[32,114,101,97,100,121,32]⟩:Hs)).size+y3.size≤140737488355328)) (cond (decide (((((((⟨#[99,115,32]⟩:Hs)++y1)++(⟨#[32,111,112,101,110,32]⟩:Hs))++y2)++(⟨#[32,114,101,97,100,121,32]⟩:Hs))++y3).size+(⟨#[10]⟩:Hs).size≤140737488355328)) ((u32 ()).bind fun y4=>(u2v (x.1.1.1,y4,x.1.1.2.2.2.1)).bind fun y5=>(u2p y5).bind fun y6=>cond (decide ((((((((⟨#[99,115,32]⟩:Hs)++y1)++(⟨#[32,111,112,101,110,32]⟩:Hs))++y2)++(⟨#[32,114,101,97,100,121,32]⟩:Hs))++y3)++(⟨#[10]⟩:Hs)).size+y6.size≤140737488355328)) (some ((((((((⟨#[99,115,32]⟩:Hs)++y1)++(⟨#[32,111,112,101,110,32]⟩:Hs))++y2)++(⟨#[32,114,101,97,100,121,32]⟩:Hs))++y3)++(⟨#[10]⟩:Hs))++y6)) none) none) none) none) none) none) none
theorem u9p:u2q=u5h:=zC 9 rfl Tryz.func9 (by kernel_rfl)
def u2r(x:Z8):Ht Hs:=zK 14 x
def u0z(g:Z3→Ht (Z6⊕Unit))(x:Z3):Ht (Z6⊕Unit):=cond (decide (x.2.2.2.2<x.2.2.2.1)) (cond (y4l x.2.2.2.2 x.2.2.1.length) (cond (decide (x.2.2.2.2<(x.1.2.2.2.length:Int))) (cond (y4l x.2.2.2.2 x.1.2.2.2.length) (cond (z7m (rdL Ty.str x.1.2.2.2 x.2.2.2.2.toNat) (⟨#[]⟩:Hs)) ((u0e (y8g (rdL (Ty.int .i64) x.2.2.1 x.2.2.2.2.toNat) (0:Int))).bind fun y1=>cond (decide (y1.size+(⟨#[32]⟩:Hs).size≤140737488355328)) (cond (decide ((y1++(⟨#[32]⟩:Hs)).size+(⟨#[46]⟩:Hs).size≤140737488355328)) (cond (decide (((y1++(⟨#[32]⟩:Hs))++(⟨#[46]⟩:Hs)).size+(⟨#[10]⟩:Hs).size≤140737488355328)) (cond (decide (x.2.1.size+(((y1++(⟨#[32]⟩:Hs))++(⟨#[46]⟩:Hs))++(⟨#[10]⟩:Hs)).size≤140737488355328)) (g (x.1,x.2.1++(((y1++(⟨#[32]⟩:Hs))++(⟨#[46]⟩:Hs))++(⟨#[10]⟩:Hs)),x.2.2.1,x.2.2.2.1,IntKind.i64.wrap (x.2.2.2.2+1))) none) none) none) none) ((u0e (y8g (rdL (Ty.int .i64) x.2.2.1 x.2.2.2.2.toNat) (0:Int))).bind fun y2=>cond (decide (y2.size+(⟨#[32]⟩:Hs).size≤140737488355328)) (cond (decide ((y2++(⟨#[32]⟩:Hs)).size+(rdL Ty.str x.1.2.2.2 x.2.2.2.2.toNat).size≤140737488355328)) (cond (decide (((y2++(⟨#[32]⟩:Hs))++(rdL Ty.str x.1.2.2.2 x.2.2.2.2.toNat)).size+(⟨#[10]⟩:Hs).size≤140737488355328)) (cond (decide (x.2.1.size+(((y2++(⟨#[32]⟩:Hs))++(rdL Ty.str x.1.2.2.2 x.2.2.2.2.toNat))++(⟨#[10]⟩:Hs)).size≤140737488355328)) (g (x.1,x.2.1++(((y2++(⟨#[32]⟩:Hs))++(rdL Ty.str x.1.2.2.2 x.2.2.2.2.toNat))++(⟨#[10]⟩:Hs)),x.2.2.1,x.2.2.2.1,IntKind.i64.wrap (x.2.2.2.2+1))) none) none) none) none)) none) (cond (z7m (⟨#[]⟩:Hs) (⟨#[]⟩:Hs)) ((u0e (y8g (rdL (Ty.int .i64) x.2.2.1 x.2.2.2.2.toNat) (0:Int))).bind fun y3=>cond (decide (y3.size+(⟨#[32]⟩:Hs).size≤140737488355328)) (cond (decide ((y3++(⟨#[32]⟩:Hs)).size+(⟨#[46]⟩:Hs).size≤140737488355328)) (cond (decide (((y3++(⟨#[32]⟩:Hs))++(⟨#[46]⟩:Hs)).size+(⟨#[10]⟩:Hs).size≤140737488355328)) (cond (decide (x.2.1.size+(((y3++(⟨#[32]⟩:Hs))++(⟨#[46]⟩:Hs))++(⟨#[10]⟩:Hs)).size≤140737488355328)) (g (x.1,x.2.1++(((y3++(⟨#[32]⟩:Hs))++(⟨#[46]⟩:Hs))++(⟨#[10]⟩:Hs)),x.2.2.1,x.2.2.2.1,IntKind.i64.wrap (x.2.2.2.2+1))) none) none) none) none) ((u0e (y8g (rdL (Ty.int .i64) x.2.2.1 x.2.2.2.2.toNat) (0:Int))).bind fun y4=>cond (decide (y4.size+(⟨#[32]⟩:Hs).size≤140737488355328)) (cond (decide ((y4++(⟨#[32]⟩:Hs)).size+(⟨#[]⟩:Hs).size≤140737488355328)) (cond (decide (((y4++(⟨#[32]⟩:Hs))++(⟨#[]⟩:Hs)).size+(⟨#[10]⟩:Hs).size≤140737488355328)) (cond (decide (x.2.1.size+(((y4++(⟨#[32]⟩:Hs))++(⟨#[]⟩:Hs))++(⟨#[10]⟩:Hs)).size≤140737488355328)) (g (x.1,x.2.1++(((y4++(⟨#[32]⟩:Hs))++(⟨#[]⟩:Hs))++(⟨#[10]⟩:Hs)),x.2.2.1,x.2.2.2.1,IntKind.i64.wrap (x.2.2.2.2+1))) none) none) none) none))) none) (some (.inl (x.1,x.2.1)))
def u0l:=lpW _ _ u0z
theorem u3y x:u0l x=u0z u0l x:=zW u3l 14 Tryz.f14 3 42 x (by kernel_rfl)
def u5i (x:Z8):Ht Hs:=(u0l (x,(⟨#[]⟩:Hs),x.2.2.1,(x.2.2.1.length:Int),0)).bind fun r5=>match r5 with | .inl o6=>((u2q o6.1.1).bind fun y7=>cond (decide (o6.2.size+y7.size≤140737488355328)) (some (o6.2++y7)) none) | .inr z8=>none
theorem u9q:u2r=u5i:=zC 14 rfl Tryz.func14 (by kernel_rfl)
def u2f(x:Z36):Ht Bool:=zK 128 x
def u7b (x:Z36):Ht Bool:=cond (!z7m x.1.1 x.2.1) (some false) (cond (!z7m x.1.2 x.2.2) (some false) (some true))
theorem t06:u2f=u7b:=zC 128 rfl Tryz.func128 (by kernel_rfl)
def u26(x:(t1m×t1m)):Ht Bool:=zK 92 x
def u4a(g:Z44→Ht t4b)(x:Z44):Ht t4b:=cond (decide (x.2.2<(x.1.length:Int))) (cond (y4l x.2.2 x.1.length) (cond (y4l x.2.2 x.2.1.length) ((u2f (rdL u87 x.1 x.2.2.toNat,rdL u87 x.2.1 x.2.2.toNat)).bind fun y1=>cond (!y1) (some (.inr false)) (g (x.1,x.2.1,IntKind.i64.wrap (x.2.2+1)))) none) none) (some (.inl ()))
def u0p:=lpW _ _ u4a
theorem u81 x:u0p x=u4a u0p x:=zW u4j 92 Tryz.f92 4 27 x (by kernel_rfl)
def u6b (x:(t1m×t1m)):Ht Bool:=cond (!decide ((x.1.length:Int)=(x.2.length:Int))) (some false) ((u0p (x.1,x.2,0)).bind fun r2=>match r2 with | .inl o3=>some true | .inr z4=>some z4)
theorem u98:u26=u6b:=zC 92 rfl Tryz.func92 (by kernel_rfl)
def u2g(x:Z30):Ht Bool:=zK 129 x
def u7e (x:Z30):Ht Bool:=cond (!z7m x.1.1 x.2.1) (some false) (cond (!z7m x.1.2.1 x.2.2.1) (some false) (cond (!(x.1.2.2==x.2.2.2)) (some false) (some true)))
theorem t09:u2g=u7e:=zC 129 rfl Tryz.func129 (by kernel_rfl)
def u27(x:Z50):Ht Bool:=zK 93 x
def u4b(g:Z39→Ht t4b)(x:Z39):Ht t4b:=cond (decide (x.2.2<(x.1.length:Int))) (cond (y4l x.2.2 x.1.length) (cond (y4l x.2.2 x.2.1.length) ((u2g (rdL u5f x.1 x.2.2.toNat,rdL u5f x.2.1 x.2.2.toNat)).bind fun y1=>cond (!y1) (some (.inr false)) (g (x.1,x.2.1,IntKind.i64.wrap (x.2.2+1)))) none) none) (some (.inl ()))
def u0q:=lpW _ _ u4b
theorem u82 x:u0q x=u4b u0q x:=zW u4k 93 Tryz.f93 4 27 x (by kernel_rfl)
def u6c (x:Z50):Ht Bool:=cond (!decide ((x.1.length:Int)=(x.2.length:Int))) (some false) ((u0q (x.1,x.2,0)).bind fun r2=>match r2 with | .inl o3=>some true | .inr z4=>some z4)
theorem u99:u27=u6c:=zC 93 rfl Tryz.func93 (by kernel_rfl)
def u3s(x:Z12):Ht Bool:=zK 66 x
def u89 (x:Z12):Ht Bool:=cond (!decide (x.1.1=x.2.1)) (some false) (cond (!decide (x.1.2.1=x.2.2.1)) (some false) (cond (!decide (x.1.2.2.1=x.2.2.2.1)) (some false) (cond (!decide (x.1.2.2.2.1=x.2.2.2.2.1)) (some false) ((u26 (x.1.2.2.2.2.1,x.2.2.2.2.2.1)).bind fun y1=>cond (!y1) (some false) ((u27 (x.1.2.2.2.2.2.1,x.2.2.2.2.2.2.1)).bind fun y2=>cond (!y2) (some false) (cond (!(x.1.2.2.2.2.2.2.1==x.2.2.2.2.2.2.2.1)) (some false) (cond (!z7m x.1.2.2.2.2.2.2.2 x.2.2.2.2.2.2.2.2) (some false) (some true))))))))
theorem t2z:u3s=u89:=zC 66 rfl Tryz.func66 (by kernel_rfl)
def u1g(x:Z29):Ht Bool:=zK 42 x
def u54(g:Z24→Ht t4b)(x:Z24):Ht t4b:=cond (decide (x.2.2<(x.1.length:Int))) (cond (y4l x.2.2 x.1.length) (cond (y4l x.2.2 x.2.1.length) ((u3s (rdL u0a x.1 x.2.2.toNat,rdL u0a x.2.1 x.2.2.toNat)).bind fun y1=>cond (!y1) (some (.inr false)) (g (x.1,x.2.1,IntKind.i64.wrap (x.2.2+1)))) none) none) (some (.inl ()))
def u08:=lpW _ _ u54
theorem t0n x:u08 x=u54 u08 x:=zW u6r 42 Tryz.f42 4 27 x (by kernel_rfl)
def u77 (x:Z29):Ht Bool:=cond (!decide ((x.1.length:Int)=(x.2.length:Int))) (some false) ((u08 (x.1,x.2,0)).bind fun r2=>match r2 with | .inl o3=>some true | .inr z4=>some z4)
theorem t16:u1g=u77:=zC 42 rfl Tryz.func42 (by kernel_rfl)
def u1s(x:Z23):Ht Bool:=zK 123 x
def u5k (x:Z23):Ht Bool:=cond (!z7m x.1.1 x.2.1) (some false) (cond (!z7m x.1.2.1 x.2.2.1) (some false) (cond (!(x.1.2.2.1==x.2.2.2.1)) (some false) (cond (!decide (x.1.2.2.2=x.2.2.2.2)) (some false) (some true))))
theorem u9s:u1s=u5k:=zC 123 rfl Tryz.func123 (by kernel_rfl)
def u2b(x:Z45):Ht Bool:=zK 86 x
def u2x(g:Z35→Ht t4b)(x:Z35):Ht t4b:=cond (decide (x.2.2<(x.1.length:Int))) (cond (y4l x.2.2 x.1.length) (cond (y4l x.2.2 x.2.1.length) ((u1s (rdL u0c x.1 x.2.2.toNat,rdL u0c x.2.1 x.2.2.toNat)).bind fun y1=>cond (!y1) (some (.inr false)) (g (x.1,x.2.1,IntKind.i64.wrap (x.2.2+1)))) none) none) (some (.inl ()))
def u0g:=lpW _ _ u2x
theorem u7u x:u0g x=u2x u0g x:=zW u21 86 Tryz.f86 4 27 x (by kernel_rfl)
def u4g (x:Z45):Ht Bool:=cond (!decide ((x.1.length:Int)=(x.2.length:Int))) (some false) ((u0g (x.1,x.2,0)).bind fun r2=>match r2 with | .inl o3=>some true | .inr z4=>some z4)
theorem u8t:u2b=u4g:=zC 86 rfl Tryz.func86 (by kernel_rfl)
def u40(x:Z9):Ht Bool:=zK 62 x
def u73 (x:Z9):Ht Bool:=(u2b (x.1.1,x.2.1)).bind fun y1=>cond (!y1) (some false) ((u1g (x.1.2.1,x.2.2.1)).bind fun y2=>cond (!y2) (some false) ((u1g (x.1.2.2.1,x.2.2.2.1)).bind fun y3=>cond (!y3) (some false) (cond (!decide (x.1.2.2.2.1=x.2.2.2.2.1)) (some false) (cond (!decide (x.1.2.2.2.2=x.2.2.2.2.2)) (some false) (some true)))))
theorem t12:u40=u73:=zC 62 rfl Tryz.func62 (by kernel_rfl)
def u25(x:Z4):Ht Bool:=zK 34 x
def u6a (x:Z4):Ht Bool:=(u40 (x.1.1,x.2.1)).bind fun y1=>cond (!y1) (some false) ((u1g (x.1.2,x.2.2)).bind fun y2=>cond (!y2) (some false) (some true))
theorem u97:u25=u6a:=zC 34 rfl Tryz.func34 (by kernel_rfl)
def u1r(x:Z53):Ht Bool:=zK 44 x
def u3g(g:Z40→Ht t4b)(x:Z40):Ht t4b:=cond (decide (x.2.2<(x.1.length:Int))) (cond (y4l x.2.2 x.1.length) (cond (y4l x.2.2 x.2.1.length) (cond (!z7m (rdL Ty.str x.1 x.2.2.toNat) (rdL Ty.str x.2.1 x.2.2.toNat)) (some (.inr false)) (g (x.1,x.2.1,IntKind.i64.wrap (x.2.2+1)))) none) none) (some (.inl ()))
def u0m:=lpW _ _ u3g
theorem u8q x:u0m x=u3g u0m x:=zW u3m 44 Tryz.f44 4 26 x (by kernel_rfl)
def u5j (x:Z53):Ht Bool:=cond (!decide ((x.1.length:Int)=(x.2.length:Int))) (some false) ((u0m (x.1,x.2,0)).bind fun r1=>match r1 with | .inl o2=>some true | .inr z3=>some z3)
theorem u9r:u1r=u5j:=zC 44 rfl Tryz.func44 (by kernel_rfl)
def u3r(x:Z51):Ht Bool:=zK 87 x
def u88 (x:Z51):Ht Bool:=cond (!decide (x.1.1=x.2.1)) (some false) (cond (!z7m x.1.2 x.2.2) (some false) (some true))
theorem t2y:u3r=u88:=zC 87 rfl Tryz.func87 (by kernel_rfl)
def u43(x:(t4a×t4a)):Ht Bool:=zK 63 x
def u53(g:Z46→Ht t4b)(x:Z46):Ht t4b:=cond (decide (x.2.2<(x.1.length:Int))) (cond (y4l x.2.2 x.1.length) (cond (y4l x.2.2 x.2.1.length) ((u3r (rdL t4o x.1 x.2.2.toNat,rdL t4o x.2.1 x.2.2.toNat)).bind fun y1=>cond (!y1) (some (.inr false)) (g (x.1,x.2.1,IntKind.i64.wrap (x.2.2+1)))) none) none) (some (.inl ()))
def u07:=lpW _ _ u53
theorem t0m x:u07 x=u53 u07 x:=zW u6q 63 Tryz.f63 4 27 x (by kernel_rfl)
def u76 (x:(t4a×t4a)):Ht Bool:=cond (!decide ((x.1.length:Int)=(x.2.length:Int))) (some false) ((u07 (x.1,x.2,0)).bind fun r2=>match r2 with | .inl o3=>some true | .inr z4=>some z4)
theorem t15:u43=u76:=zC 63 rfl Tryz.func63 (by kernel_rfl)
def u41(x:Z25):Ht Bool:=zK 35 x
def u74 (x:Z25):Ht Bool:=(u1r (x.1.1,x.2.1)).bind fun y1=>cond (!y1) (some false) ((u43 (x.1.2,x.2.2)).bind fun y2=>cond (!y2) (some false) (some true))
theorem t13:u41=u74:=zC 35 rfl Tryz.func35 (by kernel_rfl)
def u33(x:Z2):Ht Bool:=zK 10 x
def u7c (x:Z2):Ht Bool:=(u25 (x.1.1,x.2.1)).bind fun y1=>cond (!y1) (some false) ((u41 (x.1.2,x.2.2)).bind fun y2=>cond (!y2) (some false) (some true))
theorem t07:u33=u7c:=zC 10 rfl Tryz.func10 (by kernel_rfl)
def u42(x:(t39×t39)):Ht Bool:=zK 43 x
def u52(g:(t39×t7d)→Ht t4b)(x:(t39×t7d)):Ht t4b:=cond (decide (x.2.2<(x.1.length:Int))) (cond (y4l x.2.2 x.1.length) (cond (y4l x.2.2 x.2.1.length) (cond (!decide ((rdL (Ty.int .i64) x.1 x.2.2.toNat)=(rdL (Ty.int .i64) x.2.1 x.2.2.toNat))) (some (.inr false)) (g (x.1,x.2.1,IntKind.i64.wrap (x.2.2+1)))) none) none) (some (.inl ()))
def u06:=lpW _ _ u52
theorem t0l x:u06 x=u52 u06 x:=zW u6p 43 Tryz.f43 4 26 x (by kernel_rfl)
def u75 (x:(t39×t39)):Ht Bool:=cond (!decide ((x.1.length:Int)=(x.2.length:Int))) (some false) ((u06 (x.1,x.2,0)).bind fun r1=>match r1 with | .inl o2=>some true | .inr z3=>some z3)
theorem t14:u42=u75:=zC 43 rfl Tryz.func43 (by kernel_rfl)
def u34(x:Z1):Ht Bool:=zK 15 x
def u7d (x:Z1):Ht Bool:=(u33 (x.1.1,x.2.1)).bind fun y1=>cond (!y1) (some false) ((u1g (x.1.2.1,x.2.2.1)).bind fun y2=>cond (!y2) (some false) ((u42 (x.1.2.2.1,x.2.2.2.1)).bind fun y3=>cond (!y3) (some false) ((u1r (x.1.2.2.2,x.2.2.2.2)).bind fun y4=>cond (!y4) (some false) (some true))))
theorem t08:u34=u7d:=zC 15 rfl Tryz.func15 (by kernel_rfl)
def u18(x:Z8):Ht Bool:=zK 4 x
def u17 (x:Z8):Ht Bool:=(u36 (x,1048576)).bind fun y1=>cond (decide (y1<0)) (some true) ((u1k x).bind fun y2=>(u2u y2).bind fun y3=>(u1k x).bind fun y4=>(u2r y4).bind fun y5=>cond (!z7m y5 y3) (some false) ((u1k x).bind fun y6=>(u34 (y4,y6)).bind fun y7=>cond (!y7) (some false) (some true)))
theorem u4w:u18=u17:=zC 4 rfl Tryz.func4 (by kernel_rfl)
end
end Go.Proofs.YtdeadnnhblaflaaGreatDoor.Ab
