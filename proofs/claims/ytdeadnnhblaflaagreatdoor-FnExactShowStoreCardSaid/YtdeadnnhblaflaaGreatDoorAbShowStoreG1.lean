import Derived.Test.YtdeadnnhblaflaaGreatDoorAbK2
import Derived.Test.YtdeadnnhblaflaaGreatDoorAbF4
import Derived.Test.YtdeadnnhblaflaaGreatDoorAbS4
import Derived.KernelRfl
import Derived.Test.YtdeadnnhblaflaaGreatDoorProg
namespace Go.Proofs.YtdeadnnhblaflaaGreatDoor.Ab
open Go
set_option linter.unusedVariables false
noncomputable section
abbrev u76:Ty:=(.pair .str .str)
abbrev t7r:Ty:=(.pair .str .bool)
abbrev u4t:Ty:=(.pair .str t7r)
abbrev t7p:Ty:=(.pair .bool .str)
abbrev t1x:Ty:=(.pair (.sl u4t) t7p)
abbrev u8l:Ty:=(.pair (.sl u76) t1x)
abbrev u62:Ty:=(.pair (.int .i64) u8l)
abbrev u6f:Ty:=(.pair (.int .i64) u62)
abbrev u5a:Ty:=(.pair (.int .i64) u6f)
abbrev u0a:Ty:=(.pair (.int .i64) u5a)
abbrev t7o:Ty:=(.pair .bool (.int .i64))
abbrev t5q:Ty:=(.pair .str t7o)
abbrev u0c:Ty:=(.pair .str t5q)
abbrev t2y:Ty:=(.pair (.int .i64) .str)
abbrev t7q:Ty:=(.pair (.int .i64) (.int .i64))
abbrev u2d:Ty:=(.pair (.sl u0a) t7q)
abbrev t28:Ty:=(.pair (.sl u0a) u2d)
abbrev t07:Ty:=(.pair (.sl u0c) t28)
abbrev t08:Ty:=(.pair t07 (.sl u0a))
abbrev t2c:Ty:=(.pair (.sl .str) (.sl t2y))
abbrev t27:Ty:=(.pair t08 t2c)
abbrev Z49:=((Hu Hs)×(Hu t2y.den))
abbrev Z48:=((Hu u76.den)×(Hs×Int))
abbrev Z47:=((Hs×Hs)×Hs)
abbrev Z46:=((Hu Hs)×(Hu Hs))
abbrev Z45:=((Int×Hs)×(Int×Hs))
abbrev Z44:=((Hu u4t.den)×(Hu u4t.den))
abbrev Z43:=(Hs×(Hs×(Bool×Int)))
abbrev Z42:=((Hs×(Hs×Bool))×Int)
abbrev Z41:=((Hu u0c.den)×(Hs×Int))
abbrev Z40:=((Hu t2y.den)×((Hu t2y.den)×Int))
abbrev Z39:=((Hu u0a.den)×Int)
abbrev Z38:=((Hu u0c.den)×(Hu u0c.den))
abbrev Z37:=((Hu u76.den)×((Hu u76.den)×Int))
abbrev Z36:=(Z49×Int)
abbrev Z35:=((Hu Hs)×((Hu Hs)×Int))
abbrev Z34:=(Hs×((Hu u76.den)×(Int×Int)))
abbrev Z33:=((Hu u4t.den)×((Hu u4t.den)×Int))
abbrev Z32:=((Hu u0c.den)×(Hs×Hs))
abbrev Z31:=(Z43×Int)
abbrev Z30:=((Hs×Hs)×(Hs×Hs))
abbrev Z29:=((Hu u0c.den)×((Hu u0c.den)×Int))
abbrev Z28:=((Hu u0a.den)×(Int×Int))
abbrev Z27:=((Hu u0c.den)×((Hs×Hs)×Int))
abbrev Z26:=((Hu Hs)×((Hu u0c.den)×(Int×Int)))
abbrev Z25:=((Hu u0c.den)×(Hs×(Int×(Int×Int))))
abbrev Z24:=((Hs×(Hs×Bool))×(Hs×(Hs×Bool)))
abbrev Z23:=((Hu u0a.den)×(Hu u0a.den))
abbrev Z22:=((Hu u0c.den)×((Hs×Hs)×(Int×(Hu Hs))))
abbrev Z21:=((Hu u0c.den)×((Hs×Hs)×((Hu Hs)×Int)))
abbrev Z20:=((Hu u0c.den)×(Int×((Hu u76.den)×((Hu Hs)×Int))))
abbrev Z19:=(Z49×Z49)
abbrev Z18:=((Hu u0a.den)×Z39)
abbrev Z17:=(Z43×Z43)
abbrev Z16:=((Hu u0c.den)×(Hs×(Int×(Int×((Hu u0c.den)×(Int×Int))))))
abbrev Z15:=(Int×(Int×(Int×(Int×((Hu u76.den)×((Hu u4t.den)×(Bool×Hs)))))))
abbrev Z14:=(Z15×Int)
abbrev Z13:=((Hu u0c.den)×((Hs×Hs)×((Hu Hs)×(Int×(Hs×(Hu Hs))))))
abbrev Z12:=((Hu u0c.den)×(Int×((Hs×Hs)×((Hu u76.den)×((Hu Hs)×(Int×Int))))))
abbrev Z11:=((Hu u0c.den)×((Hu u0a.den)×Z28))
abbrev Z10:=((Hu u0c.den)×((Hs×Hs)×((Hu Hs)×(Int×(Hs×((Hu Hs)×Int))))))
abbrev Z9:=(Z11×Int)
abbrev Z8:=(Z11×(Hu u0a.den))
abbrev Z7:=(Z8×Int)
abbrev Z6:=(Z15×Z15)
abbrev Z5:=(Z8×Z49)
abbrev Z4:=(Z5×Int)
abbrev Z3:=(Z11×Z11)
abbrev Z2:=(Z8×Z8)
abbrev Z1:=(Z5×Z5)
def t7i:Tabs where
 ty:= [(3,(.int .i64)),(4, .bool),(5,(.int .u8)),(9, .str),(22,(.sl u0c)),(23,(.sl u0a)),(28,(.sl .str)),(29,(.sl t2y)),(36,(.sl u0c)),(37,(.sl u0a)),(39,t07),(41,t08),(42,(.sl t2y)),(44,t2c),(46,t27),(60,(.sl (.int .u8))),(64,(.sl u76)),(67,u76),(88,u76),(107,(.sl u76)),(108,(.sl u4t)),(110,u0a),(111,(.sl u76)),(112,(.sl u4t)),(114,u0a),(122,u0c),(136,t2y),(138,t2y),(175,u4t),(179,u0c),(187,u76),(189,u4t)]
 lay:= [(3,1,false),(4,1,false),(9,1,false),(22,1,false),(23,1,false),(25,5,true),(27,6,true),(28,1,false),(29,1,false),(31,2,true),(33,8,true),(36,1,false),(37,1,false),(39,5,true),(41,6,true),(42,1,false),(44,2,true),(46,8,true),(67,2,true),(88,2,true),(107,1,false),(108,1,false),(110,8,true),(111,1,false),(112,1,false),(114,8,true),(122,4,true),(136,2,true),(138,2,true),(175,3,true),(179,4,true),(187,2,true),(189,3,true)]
 fld:= [(25, [(0,1,false),(1,1,false),(2,1,false),(3,1,false),(4,1,false)]),(27, [(0,5,true),(5,1,false)]),(31, [(0,1,false),(1,1,false)]),(33, [(0,6,true),(6,2,true)]),(39, [(0,1,false),(1,1,false),(2,1,false),(3,1,false),(4,1,false)]),(41, [(0,5,true),(5,1,false)]),(44, [(0,1,false),(1,1,false)]),(46, [(0,6,true),(6,2,true)]),(67, [(0,1,false),(1,1,false)]),(88, [(0,1,false),(1,1,false)]),(110, [(0,1,false),(1,1,false),(2,1,false),(3,1,false),(4,1,false),(5,1,false),(6,1,false),(7,1,false)]),(114, [(0,1,false),(1,1,false),(2,1,false),(3,1,false),(4,1,false),(5,1,false),(6,1,false),(7,1,false)]),(122, [(0,1,false),(1,1,false),(2,1,false),(3,1,false)]),(136, [(0,1,false),(1,1,false)]),(138, [(0,1,false),(1,1,false)]),(175, [(0,1,false),(1,1,false),(2,1,false)]),(179, [(0,1,false),(1,1,false),(2,1,false),(3,1,false)]),(187, [(0,1,false),(1,1,false)]),(189, [(0,1,false),(1,1,false),(2,1,false)])]
 eqs:= []
abbrev zL (a:Hu Nat) (s:Sh) (n:Nat) (b:Hu Nat) (t:Sh) (c:Hu Nat) (u:Sh):LoopA:=⟨⟨a,s, []⟩,n,⟨b,t, []⟩,⟨c,u, []⟩⟩
def zS (i o:Sh) (n:Nat:=1) (b:Hu Bool:= []):Sig:=⟨i,b,o,n⟩
abbrev t7f:Ty:=.int .u8
abbrev u0i:Sh:=.int .i64
abbrev u81:Sh:=.tr false u0c
abbrev t25:Sh:=.tr false u0a
abbrev t5h:Sh:=.own true u0a
abbrev t5o:Sh:=.pair .str .str
abbrev t06:Sh:=.own true .str
abbrev t6m:Sh:=.agg (.pair .str (.pair .str (.pair .bool u0i)))
abbrev t2w:Sh:=.pair u0i u0i
abbrev t5n:Sh:=.pair u81 (.pair t25 (.pair t25 t2w))
abbrev t2x:Sh:=.tr false u76
abbrev t3z:Sh:=.tr false .str
abbrev t30:Sh:=.tr false t2y
abbrev t5g:Sh:=.agg (.pair (.pair t5n t25) (.pair t3z t30))
abbrev t7g:Sh:=.pair (.own true u0c) (.pair t5h (.pair t5h t2w))
abbrev t32:Sh:=.own true u76
abbrev t4r:Sh:=.tr false u4t
abbrev t6y:Sh:=.agg (.pair u0i (.pair u0i (.pair u0i (.pair u0i (.pair t2x (.pair t4r (.pair .bool .str)))))))
abbrev t7k:Sh:=.pair u81 (.pair (.box t5o) (.pair (.tr true .str) (.pair u0i (.pair .str (.pair t06 u0i)))))
abbrev t6o:Sh:=.agg (.pair u0i .str)
abbrev t6z:Sh:=.pair u81 (.pair .str u0i)
abbrev t26:Sh:=.agg t5o
abbrev t60:Sh:=.agg (.pair t5n t25)
abbrev t61:Sh:=.agg (.pair t3z t30)
abbrev t6p:Sh:=.own true t2y
abbrev t6q:Sh:=.pair .str .bool
abbrev t6n:Sh:=.agg (.pair .str t6q)
abbrev t62:Sh:=.own true u4t
abbrev t7l:Sh:=.pair .str (.pair (.own true t7f) u0i)
def t43:Nat→Sig
 | 124=>zS (.pair t26 u0i) u0i
 | 88=>zS (.pair t2x u0i) u0i
 | 125=>zS (.pair t6n u0i) u0i
 | 89=>zS (.pair t4r u0i) u0i
 | 64=>zS (.pair t6y u0i) u0i
 | 36=>zS (.pair t25 u0i) u0i
 | 118=>zS (.pair t6m u0i) u0i
 | 78=>zS (.pair u81 u0i) u0i
 | 53=>zS (.pair (.agg t5n) u0i) u0i
 | 24=>zS (.pair t60 u0i) u0i
 | 38=>zS (.pair t3z u0i) u0i
 | 79=>zS (.pair t6o u0i) u0i
 | 54=>zS (.pair t30 u0i) u0i
 | 25=>zS (.pair t61 u0i) u0i
 | 6=>zS (.pair t5g u0i) u0i
 | 69=>zS (.pair t26 .str) .bool
 | 47=>zS (.pair u81 t26) t06
 | 70=>zS t6z u0i
 | 48=>zS t6z t6q 2
 | 19=>zS (.pair u81 (.pair t26 u0i)) t32
 | 55=>zS u0i (.int .u8)
 | 52=>zS .str t6q 2
 | 23=>zS t2x .str
 | 27=>zS u0i .str
 | 26=>zS u0i .str
 | 28=>zS .unit t26
 | 7=>zS t5g .str
 | 126=>zS t26 t26
 | 90=>zS t2x t32
 | 127=>zS t6n t6n
 | 91=>zS t4r t62
 | 65=>zS t6y (.agg (.pair u0i (.pair u0i (.pair u0i (.pair u0i (.pair t32 (.pair t62 (.pair .bool .str))))))))
 | 39=>zS t25 t5h
 | 119=>zS t6m t6m
 | 80=>zS u81 (.own true u0c)
 | 56=>zS (.agg t5n) (.agg t7g)
 | 29=>zS t60 (.agg (.pair t7g t5h))
 | 41=>zS t3z t06
 | 81=>zS t6o t6o
 | 57=>zS t30 t6p
 | 30=>zS t61 (.agg (.pair t06 t6p))
 | 8=>zS t5g (.agg (.pair (.pair t7g t5h) (.pair t06 t6p)))
 | 46=>zS .str t6q 2
 | 18=>zS t2x .str
 | 58=>zS u0i .str
 | 31=>zS u0i .str
 | 83=>zS t06 t06 0 [true]
 | 84=>zS t06 t06
 | 59=>zS u81 t06
 | 85=>zS t6z u0i
 | 60=>zS t6z t6q 2
 | 61=>zS (.pair t26 .str) .bool
 | 32=>zS (.pair u81 (.pair t26 u0i)) t32
 | 33=>zS .unit t26
 | 9=>zS t5g .str
 | 128=>zS (.pair t26 t26) .bool
 | 92=>zS (.pair t2x t2x) .bool
 | 129=>zS (.pair t6n t6n) .bool
 | 93=>zS (.pair t4r t4r) .bool
 | 66=>zS (.pair t6y t6y) .bool
 | 42=>zS (.pair t25 t25) .bool
 | 123=>zS (.pair t6m t6m) .bool
 | 86=>zS (.pair u81 u81) .bool
 | 62=>zS (.pair (.agg t5n) (.agg t5n)) .bool
 | 34=>zS (.pair t60 t60) .bool
 | 44=>zS (.pair t3z t3z) .bool
 | 87=>zS (.pair t6o t6o) .bool
 | 63=>zS (.pair t30 t30) .bool
 | 35=>zS (.pair t61 t61) .bool
 | 10=>zS (.pair t5g t5g) .bool
 | 3=>zS t5g .bool
 | _=>zS .unit .unit 0
def t5z:Nat→Nat→Ht Join
 | 69,3=>some ⟨[4],.bool,[]⟩
 | 70,11=>some ⟨[47],.bool,[]⟩
 | 48,5=>some ⟨[21],.bool,[]⟩
 | 85,11=>some ⟨[40],.bool,[]⟩
 | 60,5=>some ⟨[21],.bool,[]⟩
 | 61,3=>some ⟨[4],.bool,[]⟩
 | 32,13=>some ⟨[31],.bool,[]⟩
 | _,_=>none
abbrev u34:=zL [0,1,5] (.pair t2x t2w) 0 [1] u0i [4] u0i
abbrev u35:=zL [0,1,5] (.pair t4r t2w) 0 [1] u0i [4] u0i
abbrev u51:=zL [0,1,5] (.pair t25 t2w) 0 [1] u0i [4] u0i
abbrev u2s:=zL [0,1,5] (.pair u81 t2w) 0 [1] u0i [4] u0i
abbrev u3a:=zL [0,1,5] (.pair t3z t2w) 0 [1] u0i [4] u0i
abbrev u50:=zL [0,1,5] (.pair t30 t2w) 0 [1] u0i [4] u0i
abbrev u45:=zL [0,3,5,6] (.pair u81 (.pair (.box t5o) (.pair t06 u0i))) 0 [5] t06 [] .unit
abbrev u46:=zL [0,3,5,6,7,8,9] t7k 2 [0,3,5,6,7,8] (.pair u81 (.pair (.box t5o) (.pair (.tr true .str) (.pair u0i (.pair .str t06))))) [] .unit
abbrev u38:=zL [0,3,5,6,7,8,10] t7k 4 [0,3,6,8] (.pair u81 (.pair (.box t5o) (.pair u0i t06))) [] .unit
abbrev u6t:=zL [0,1,2,7,8] (.pair u81 (.pair .str (.pair u0i t2w))) 0 [7] u0i [] .unit
abbrev u54:=zL [0,2,7,8,9] (.pair u81 (.pair u0i (.pair t32 (.pair (.tr true .str) u0i)))) 0 [7] t32 [] .unit
abbrev u8h:=zL [0,4,5] t7l 0 [4] (.tr true t7f) [] .unit
abbrev u3c:=zL [0,3,4] (.pair t2x (.pair .str u0i)) 0 [3] .str [] .unit
abbrev u44:=zL [0,3,4] (.pair u0i (.pair .bool .str)) 0 [3,4] (.pair .bool .str) [] .unit
abbrev u36:=zL [0,3,4] (.pair t2x (.pair t32 u0i)) 0 [3] t32 [] .unit
abbrev u37:=zL [0,3,4] (.pair t4r (.pair t62 u0i)) 0 [3] t62 [] .unit
abbrev u53:=zL [0,3,4] (.pair t25 (.pair t5h u0i)) 0 [3] t5h [] .unit
abbrev u2t:=zL [0,3,4] (.pair u81 (.pair (.own true u0c) u0i)) 0 [3] (.own true u0c) [] .unit
abbrev u3b:=zL [0,3,4] (.pair t3z (.pair t06 u0i)) 0 [3] t06 [] .unit
abbrev u52:=zL [0,3,4] (.pair t30 (.pair t6p u0i)) 0 [3] t6p [] .unit
abbrev u8g:=zL [0,4,5] t7l 0 [4] (.tr true t7f) [] .unit
abbrev u28:=zL [3,8,9,10] (.pair .str (.pair t2x t2w)) 0 [3] .str [] .unit
abbrev u5w:=zL [3,6,7,8] (.pair t06 (.pair u81 t2w)) 0 [3] t06 [] .unit
abbrev u5x:=zL [0,1,2,7,10,11,12] (.pair u81 (.pair .str (.pair u0i (.pair u0i (.pair u81 t2w))))) 0 [7] u0i [] .unit
abbrev u5v:=zL [0,2,4,7,13,14,15] (.pair u81 (.pair u0i (.pair (.box t5o) (.pair t32 (.pair (.tr true .str) t2w))))) 0 [7] t32 [] .unit
abbrev u32:=zL [0,1,5] (.pair t2x (.pair t2x u0i)) 0 [] .unit [4] .bool
abbrev u33:=zL [0,1,5] (.pair t4r (.pair t4r u0i)) 0 [] .unit [4] .bool
abbrev u5z:=zL [0,1,5] (.pair t25 (.pair t25 u0i)) 0 [] .unit [4] .bool
abbrev u2r:=zL [0,1,5] (.pair u81 (.pair u81 u0i)) 0 [] .unit [4] .bool
abbrev u29:=zL [0,1,5] (.pair t3z (.pair t3z u0i)) 0 [] .unit [4] .bool
abbrev u5y:=zL [0,1,5] (.pair t30 (.pair t30 u0i)) 0 [] .unit [4] .bool
def t52:Nat→Nat→Ht LoopA
 | 88,5=>some u34
 | 89,5=>some u35
 | 36,5=>some u51
 | 78,5=>some u2s
 | 38,5=>some u3a
 | 54,5=>some u50
 | 47,3=>some u45
 | 47,9=>some u46
 | 47,15=>some u38
 | 70,3=>some u6t
 | 19,4=>some u54
 | 52,5=>some u8h
 | 23,3=>some u3c
 | 27,5=>some u44
 | 90,3=>some u36
 | 91,3=>some u37
 | 39,3=>some u53
 | 80,3=>some u2t
 | 41,3=>some u3b
 | 57,3=>some u52
 | 46,5=>some u8g
 | 18,3=>some u28
 | 59,3=>some u5w
 | 85,3=>some u5x
 | 32,3=>some u5v
 | 92,4=>some u32
 | 93,4=>some u33
 | 42,4=>some u5z
 | 86,4=>some u2r
 | 44,4=>some u29
 | 63,4=>some u5y
 | _,_=>none
def t7w:Nat→Nat:=fun f=>f
def t6a:Nat→Hu Nat→Nat:=fun f _=>f
def t3j:(f:Nat)→Ht ((t43 f).ins.den→Ht (t43 f).out.den)
 | 58=>some (y6w)
 | 83=>some (y6x)
 | 84=>some (y0j)
 | _=>none
def t4t:Plan:= {sig:=t43,join:=t5z,loop:=t52,fn:=t7w,pick:=t6a,prim:=t3j,gd:=z7n Tryz.prog}
def A:Ann:=ann t7i t4t
set_option maxRecDepth 100000
abbrev t05:Type:=(Hu Hs)
abbrev t0c:Type:=(Hu u76.den)
abbrev t3w:Type:=(Hs×Hs)
abbrev t22:Type:=(Hu u0c.den)
abbrev t4q:Type:=(Hs×Bool)
abbrev t5j:Type:=(Hu u0a.den)
abbrev t2l:Type:=(Hu t2y.den)
abbrev t23:Type:=(Unit⊕Bool)
abbrev t3x:Type:=(Hu u4t.den)
abbrev t24:Type:=(Int⊕Int)
abbrev t6t:Type:=(Hs×((Hu Int)×Int))
abbrev t3y:Type:=(Int×Int)
abbrev t5k:Type:=(Int×Hs)
abbrev t5l:Type:=(t05⊕Unit)
abbrev t5m:Type:=(t0c⊕Unit)
abbrev t6u:Type:=((Hu Int)⊕Unit)
abbrev t6v:Type:=(Hs⊕Unit)
abbrev t6w:Type:=(Bool×Hs)
abbrev t6x:Type:=(Hs×t4q)
abbrev zLv:=y5u Tryz.prog A
abbrev zK (f:Nat) (x:(A.sig f).ins.den):=zLv.call f x
theorem zC (f:Nat) {fn:Func} {X:(A.sig f).ins.den→Ht (A.sig f).out.den} (hp:A.prim f=none) (hf:Tryz.prog.funcs[A.fn f]? =some fn) (hb:z7r A zLv lpW f fn=X):zK f=X:=funext (y7n hp hf (congrFun hb))
theorem zW (l:LoopA) (f:Nat) (fn:Func) (r n:Nat) {S:(l.head.sh.den→Ht (l.out.sh.den⊕l.ret.sh.den))→l.head.sh.den→Ht (l.out.sh.den⊕l.ret.sh.den)} (x:l.head.sh.den) (h:S=z7l A zLv lpW f (y7v fn r) l n):lpW _ _ S x=S (lpW _ _ S) x:=y7w h x
def u16(x:(t3w×Int)):Ht Int:=zK 124 x
def u6m (x:(t3w×Int)):Ht Int:=cond (decide ((IntKind.i64.wrap (x.2 - (x.1.1.size:Int)))<0)) (some (- 1:Int)) (cond (decide ((IntKind.i64.wrap ((IntKind.i64.wrap (x.2 - (x.1.1.size:Int))) - (x.1.2.size:Int)))<0)) (some (- 1:Int)) (some (IntKind.i64.wrap ((IntKind.i64.wrap (x.2 - (x.1.1.size:Int))) - (x.1.2.size:Int)))))
theorem u92:u16=u6m:=zC 124 rfl Tryz.func124 (by kernel_rfl)
def u2y(x:(t0c×Int)):Ht Int:=zK 88 x
def u3u(g:(t0c×t3y)→Ht t24)(x:(t0c×t3y)):Ht t24:=cond (decide (x.2.2<(x.1.length:Int))) (cond (y4l x.2.2 x.1.length) ((u16 (rdL u76 x.1 x.2.2.toNat,x.2.1)).bind fun y1=>cond (decide (y1<0)) (some (.inr (- 1:Int))) (g (x.1,y1,IntKind.i64.wrap (x.2.2+1)))) none) (some (.inl x.2.1))
def u07:=lpW _ _ u3u
theorem u72 x:u07 x=u3u u07 x:=zW u34 88 Tryz.f88 5 27 x (by kernel_rfl)
def u5n (x:(t0c×Int)):Ht Int:=cond (decide ((IntKind.i64.wrap (x.2 - (x.1.length:Int)))<0)) (some (- 1:Int)) ((u07 (x.1,IntKind.i64.wrap (x.2 - (x.1.length:Int)),0)).bind fun r2=>match r2 with | .inl o3=>some o3 | .inr z4=>some z4)
theorem u88:u2y=u5n:=zC 88 rfl Tryz.func88 (by kernel_rfl)
def u17(x:Z42):Ht Int:=zK 125 x
def u6o (x:Z42):Ht Int:=cond (decide ((IntKind.i64.wrap (x.2 - (x.1.1.size:Int)))<0)) (some (- 1:Int)) (cond (decide ((IntKind.i64.wrap ((IntKind.i64.wrap (x.2 - (x.1.1.size:Int))) - (x.1.2.1.size:Int)))<0)) (some (- 1:Int)) (some (IntKind.i64.wrap ((IntKind.i64.wrap (x.2 - (x.1.1.size:Int))) - (x.1.2.1.size:Int)))))
theorem u94:u17=u6o:=zC 125 rfl Tryz.func125 (by kernel_rfl)
def u2z(x:(t3x×Int)):Ht Int:=zK 89 x
def u3v(g:(t3x×t3y)→Ht t24)(x:(t3x×t3y)):Ht t24:=cond (decide (x.2.2<(x.1.length:Int))) (cond (y4l x.2.2 x.1.length) ((u17 (rdL u4t x.1 x.2.2.toNat,x.2.1)).bind fun y1=>cond (decide (y1<0)) (some (.inr (- 1:Int))) (g (x.1,y1,IntKind.i64.wrap (x.2.2+1)))) none) (some (.inl x.2.1))
def u08:=lpW _ _ u3v
theorem u73 x:u08 x=u3v u08 x:=zW u35 89 Tryz.f89 5 27 x (by kernel_rfl)
def u5o (x:(t3x×Int)):Ht Int:=cond (decide ((IntKind.i64.wrap (x.2 - (x.1.length:Int)))<0)) (some (- 1:Int)) ((u08 (x.1,IntKind.i64.wrap (x.2 - (x.1.length:Int)),0)).bind fun r2=>match r2 with | .inl o3=>some o3 | .inr z4=>some z4)
theorem u89:u2z=u5o:=zC 89 rfl Tryz.func89 (by kernel_rfl)
def u3g(x:Z14):Ht Int:=zK 64 x
def u8a (x:Z14):Ht Int:=(u2y (x.1.2.2.2.2.1,x.2)).bind fun y1=>cond (decide (y1<0)) (some (- 1:Int)) ((u2z (x.1.2.2.2.2.2.1,y1)).bind fun y2=>cond (decide (y2<0)) (some (- 1:Int)) (cond (decide ((IntKind.i64.wrap (y2 - (x.1.2.2.2.2.2.2.2.size:Int)))<0)) (some (- 1:Int)) (some (IntKind.i64.wrap (y2 - (x.1.2.2.2.2.2.2.2.size:Int))))))
theorem t1g:u3g=u8a:=zC 64 rfl Tryz.func64 (by kernel_rfl)
def u1w(x:Z39):Ht Int:=zK 36 x
def u5g(g:Z28→Ht t24)(x:Z28):Ht t24:=cond (decide (x.2.2<(x.1.length:Int))) (cond (y4l x.2.2 x.1.length) ((u3g (rdL u0a x.1 x.2.2.toNat,x.2.1)).bind fun y1=>cond (decide (y1<0)) (some (.inr (- 1:Int))) (g (x.1,y1,IntKind.i64.wrap (x.2.2+1)))) none) (some (.inl x.2.1))
def u1r:=lpW _ _ u5g
theorem u9l x:u1r x=u5g u1r x:=zW u51 36 Tryz.f36 5 27 x (by kernel_rfl)
def u7f (x:Z39):Ht Int:=cond (decide ((IntKind.i64.wrap (x.2 - (x.1.length:Int)))<0)) (some (- 1:Int)) ((u1r (x.1,IntKind.i64.wrap (x.2 - (x.1.length:Int)),0)).bind fun r2=>match r2 with | .inl o3=>some o3 | .inr z4=>some z4)
theorem t0v:u1w=u7f:=zC 36 rfl Tryz.func36 (by kernel_rfl)
def u1i(x:Z31):Ht Int:=zK 118 x
def u4z (x:Z31):Ht Int:=cond (decide ((IntKind.i64.wrap (x.2 - (x.1.1.size:Int)))<0)) (some (- 1:Int)) (cond (decide ((IntKind.i64.wrap ((IntKind.i64.wrap (x.2 - (x.1.1.size:Int))) - (x.1.2.1.size:Int)))<0)) (some (- 1:Int)) (some (IntKind.i64.wrap ((IntKind.i64.wrap (x.2 - (x.1.1.size:Int))) - (x.1.2.1.size:Int)))))
theorem u8s:u1i=u4z:=zC 118 rfl Tryz.func118 (by kernel_rfl)
def u11(x:(t22×Int)):Ht Int:=zK 78 x
def u2o(g:(t22×t3y)→Ht t24)(x:(t22×t3y)):Ht t24:=cond (decide (x.2.2<(x.1.length:Int))) (cond (y4l x.2.2 x.1.length) ((u1i (rdL u0c x.1 x.2.2.toNat,x.2.1)).bind fun y1=>cond (decide (y1<0)) (some (.inr (- 1:Int))) (g (x.1,y1,IntKind.i64.wrap (x.2.2+1)))) none) (some (.inl x.2.1))
def u0s:=lpW _ _ u2o
theorem u6z x:u0s x=u2o u0s x:=zW u2s 78 Tryz.f78 5 27 x (by kernel_rfl)
def u3z (x:(t22×Int)):Ht Int:=cond (decide ((IntKind.i64.wrap (x.2 - (x.1.length:Int)))<0)) (some (- 1:Int)) ((u0s (x.1,IntKind.i64.wrap (x.2 - (x.1.length:Int)),0)).bind fun r2=>match r2 with | .inl o3=>some o3 | .inr z4=>some z4)
theorem u7u:u11=u3z:=zC 78 rfl Tryz.func78 (by kernel_rfl)
def u4j(x:Z9):Ht Int:=zK 53 x
def u7c (x:Z9):Ht Int:=(u11 (x.1.1,x.2)).bind fun y1=>cond (decide (y1<0)) (some (- 1:Int)) ((u1w (x.1.2.1,y1)).bind fun y2=>cond (decide (y2<0)) (some (- 1:Int)) ((u1w (x.1.2.2.1,y2)).bind fun y3=>cond (decide (y3<0)) (some (- 1:Int)) (some y3)))
theorem t0s:u4j=u7c:=zC 53 rfl Tryz.func53 (by kernel_rfl)
def u2x(x:Z7):Ht Int:=zK 24 x
def u5m (x:Z7):Ht Int:=(u4j (x.1.1,x.2)).bind fun y1=>cond (decide (y1<0)) (some (- 1:Int)) ((u1w (x.1.2,y1)).bind fun y2=>cond (decide (y2<0)) (some (- 1:Int)) (some y2))
theorem u87:u2x=u5m:=zC 24 rfl Tryz.func24 (by kernel_rfl)
def u2h(x:(t05×Int)):Ht Int:=zK 38 x
def u25(g:(t05×t3y)→Ht t24)(x:(t05×t3y)):Ht t24:=cond (decide (x.2.2<(x.1.length:Int))) (cond (y4l x.2.2 x.1.length) (cond (decide ((IntKind.i64.wrap (x.2.1 - ((rdL Ty.str x.1 x.2.2.toNat).size:Int)))<0)) (some (.inr (- 1:Int))) (g (x.1,IntKind.i64.wrap (x.2.1 - ((rdL Ty.str x.1 x.2.2.toNat).size:Int)),IntKind.i64.wrap (x.2.2+1)))) none) (some (.inl x.2.1))
def u0y:=lpW _ _ u25
theorem u7r x:u0y x=u25 u0y x:=zW u3a 38 Tryz.f38 5 28 x (by kernel_rfl)
def u4y (x:(t05×Int)):Ht Int:=cond (decide ((IntKind.i64.wrap (x.2 - (x.1.length:Int)))<0)) (some (- 1:Int)) ((u0y (x.1,IntKind.i64.wrap (x.2 - (x.1.length:Int)),0)).bind fun r1=>match r1 with | .inl o2=>some o2 | .inr z3=>some z3)
theorem u8r:u2h=u4y:=zC 38 rfl Tryz.func38 (by kernel_rfl)
def u3f(x:(t5k×Int)):Ht Int:=zK 79 x
def u79 (x:(t5k×Int)):Ht Int:=cond (decide ((IntKind.i64.wrap (x.2 - (x.1.2.size:Int)))<0)) (some (- 1:Int)) (some (IntKind.i64.wrap (x.2 - (x.1.2.size:Int))))
theorem t1f:u3f=u79:=zC 79 rfl Tryz.func79 (by kernel_rfl)
def u4l(x:(t2l×Int)):Ht Int:=zK 54 x
def u5f(g:(t2l×t3y)→Ht t24)(x:(t2l×t3y)):Ht t24:=cond (decide (x.2.2<(x.1.length:Int))) (cond (y4l x.2.2 x.1.length) ((u3f (rdL t2y x.1 x.2.2.toNat,x.2.1)).bind fun y1=>cond (decide (y1<0)) (some (.inr (- 1:Int))) (g (x.1,y1,IntKind.i64.wrap (x.2.2+1)))) none) (some (.inl x.2.1))
def u1q:=lpW _ _ u5f
theorem u9k x:u1q x=u5f u1q x:=zW u50 54 Tryz.f54 5 27 x (by kernel_rfl)
def u7e (x:(t2l×Int)):Ht Int:=cond (decide ((IntKind.i64.wrap (x.2 - (x.1.length:Int)))<0)) (some (- 1:Int)) ((u1q (x.1,IntKind.i64.wrap (x.2 - (x.1.length:Int)),0)).bind fun r2=>match r2 with | .inl o3=>some o3 | .inr z4=>some z4)
theorem t0u:u4l=u7e:=zC 54 rfl Tryz.func54 (by kernel_rfl)
def u4k(x:Z36):Ht Int:=zK 25 x
def u7d (x:Z36):Ht Int:=(u2h (x.1.1,x.2)).bind fun y1=>cond (decide (y1<0)) (some (- 1:Int)) ((u4l (x.1.2,y1)).bind fun y2=>cond (decide (y2<0)) (some (- 1:Int)) (some y2))
theorem t0t:u4k=u7d:=zC 25 rfl Tryz.func25 (by kernel_rfl)
def u3p(x:Z4):Ht Int:=zK 6 x
def u6n (x:Z4):Ht Int:=(u2x (x.1.1,x.2)).bind fun y1=>cond (decide (y1<0)) (some (- 1:Int)) ((u4k (x.1.2,y1)).bind fun y2=>cond (decide (y2<0)) (some (- 1:Int)) (some y2))
theorem u93:u3p=u6n:=zC 6 rfl Tryz.func6 (by kernel_rfl)
def u3q(x:Z47):Ht Bool:=zK 69 x
def u6r (x:Z47):Ht Bool:=((cond (!y2y x.2 x.1.1) (some (y2y x.2 x.1.2||z7m x.2 x.1.2)) (some false)):Ht Bool).bind fun j1=>some j1
theorem u99:u3q=u6r:=zC 69 rfl Tryz.func69 (by kernel_rfl)
def u3r(x:Z32):Ht t05:=zK 47 x
def u1e(g:Z10→Ht (Z13⊕Unit))(x:Z10):Ht (Z13⊕Unit):=cond (decide (x.2.2.2.2.2.2<(x.2.2.1.length:Int))) (cond (y4l x.2.2.2.2.2.2 x.2.2.1.length) (cond (y2y (rdL Ty.str x.2.2.1 x.2.2.2.2.2.2.toNat) x.2.2.2.2.1) (cond (y4l x.2.2.2.2.2.2 x.2.2.1.length) (cond (Nat.ble (x.2.2.2.2.2.1.length+([(rdL Ty.str x.2.2.1 x.2.2.2.2.2.2.toNat)]:Hu Hs).length) z8y) (g (x.1,x.2.1,x.2.2.1,x.2.2.2.1,x.2.2.2.2.1,x.2.2.2.2.2.1++([(rdL Ty.str x.2.2.1 x.2.2.2.2.2.2.toNat)]:Hu Hs),IntKind.i64.wrap (x.2.2.2.2.2.2+1))) none) none) (g (x.1,x.2.1,x.2.2.1,x.2.2.2.1,x.2.2.2.2.1,x.2.2.2.2.2.1,IntKind.i64.wrap (x.2.2.2.2.2.2+1)))) none) (some (.inl (x.1,x.2.1,x.2.2.1,x.2.2.2.1,x.2.2.2.2.1,x.2.2.2.2.2.1)))
def u0t:=lpW _ _ u1e
theorem u49 x:u0t x=u1e u0t x:=zW u46 47 Tryz.f47 9 72 x (by kernel_rfl)
def u06(g:Z10→Ht (Z22⊕Unit))(x:Z10):Ht (Z22⊕Unit):=cond (decide (x.2.2.2.2.2.2<(x.2.2.1.length:Int))) (cond (y4l x.2.2.2.2.2.2 x.2.2.1.length) (cond (!(y2y (rdL Ty.str x.2.2.1 x.2.2.2.2.2.2.toNat) x.2.2.2.2.1||z7m (rdL Ty.str x.2.2.1 x.2.2.2.2.2.2.toNat) x.2.2.2.2.1)) (cond (y4l x.2.2.2.2.2.2 x.2.2.1.length) (cond (Nat.ble (x.2.2.2.2.2.1.length+([(rdL Ty.str x.2.2.1 x.2.2.2.2.2.2.toNat)]:Hu Hs).length) z8y) (g (x.1,x.2.1,x.2.2.1,x.2.2.2.1,x.2.2.2.2.1,x.2.2.2.2.2.1++([(rdL Ty.str x.2.2.1 x.2.2.2.2.2.2.toNat)]:Hu Hs),IntKind.i64.wrap (x.2.2.2.2.2.2+1))) none) none) (g (x.1,x.2.1,x.2.2.1,x.2.2.2.1,x.2.2.2.2.1,x.2.2.2.2.2.1,IntKind.i64.wrap (x.2.2.2.2.2.2+1)))) none) (some (.inl (x.1,x.2.1,x.2.2.2.1,x.2.2.2.2.2.1)))
def u0q:=lpW _ _ u06
theorem u4a x:u0q x=u06 u0q x:=zW u38 47 Tryz.f47 15 72 x (by kernel_rfl)
def u1d(g:Z21→Ht t5l)(x:Z21):Ht t5l:=cond (decide (x.2.2.2<(x.1.length:Int))) (cond (y4l x.2.2.2 x.1.length) ((u3q (x.2.1,(rdL u0c x.1 x.2.2.2.toNat).1)).bind fun y1=>cond (!y1) (g (x.1,x.2.1,x.2.2.1,IntKind.i64.wrap (x.2.2.2+1))) ((u0t (x.1,x.2.1,x.2.2.1,x.2.2.2,(rdL u0c x.1 x.2.2.2.toNat).1,([]:Hu Hs),0)).bind fun r2=>match r2 with | .inl o3=>cond (Nat.ble (o3.2.2.2.2.2.length+([o3.2.2.2.2.1]:Hu Hs).length) z8y) ((u0q (o3.1,o3.2.1,o3.2.2.1,o3.2.2.2.1,o3.2.2.2.2.1,o3.2.2.2.2.2++([o3.2.2.2.2.1]:Hu Hs),0)).bind fun r4=>match r4 with | .inl o5=>g (o5.1,o5.2.1,o5.2.2.2,IntKind.i64.wrap (o5.2.2.1+1)) | .inr z6=>some (.inr ())) none | .inr z7=>some (.inr ()))) none) (some (.inl x.2.2.1))
def u1g:=lpW _ _ u1d
theorem u48 x:u1g x=u1d u1g x:=zW u45 47 Tryz.f47 3 72 x (by kernel_rfl)
def u6s (x:Z32):Ht t05:=(u1g (x.1,x.2,([]:Hu Hs),0)).bind fun r8=>match r8 with | .inl o9=>some o9 | .inr z10=>none
theorem t0a:u3r=u6s:=zC 47 rfl Tryz.func47 (by kernel_rfl)
def u55(x:Z41):Ht Int:=zK 70 x
def u13(g:Z25→Ht (Int⊕Unit))(x:Z25):Ht (Int⊕Unit):=cond (decide (x.2.2.2.2<(x.1.length:Int))) (((cond (y4l x.2.2.2.2 x.1.length) (cond (z7m (rdL u0c x.1 x.2.2.2.2.toNat).1 x.2.1) (cond (y4l x.2.2.2.2 x.1.length) (cond (decide ((rdL u0c x.1 x.2.2.2.2.toNat).2.2.2≤x.2.2.1)) (cond (decide (x.2.2.2.1<0)) (some true) (cond (y4l x.2.2.2.2 x.1.length) (cond (y4l x.2.2.2.1 x.1.length) (some (decide ((rdL u0c x.1 x.2.2.2.2.toNat).2.2.2>(rdL u0c x.1 x.2.2.2.1.toNat).2.2.2))) none) none)) (some false)) none) (some false)) none):Ht Bool).bind fun j1=>cond j1 (g (x.1,x.2.1,x.2.2.1,x.2.2.2.2,IntKind.i64.wrap (x.2.2.2.2+1))) (g (x.1,x.2.1,x.2.2.1,x.2.2.2.1,IntKind.i64.wrap (x.2.2.2.2+1)))) (some (.inl x.2.2.2.1))
def u09:=lpW _ _ u13
theorem u6v x:u09 x=u13 u09 x:=zW u6t 70 Tryz.f70 3 50 x (by kernel_rfl)
def u8c (x:Z41):Ht Int:=(u09 (x.1,x.2.1,x.2.2,(- 1:Int),0)).bind fun r2=>match r2 with | .inl o3=>some o3 | .inr z4=>none
theorem t1j:u55=u8c:=zC 70 rfl Tryz.func70 (by kernel_rfl)
def u4p(x:Z41):Ht t4q:=zK 48 x
def u7l (x:Z41):Ht t4q:=(u55 x).bind fun y1=>((cond (decide (y1<0)) (some true) (cond (y4l y1 x.1.length) (some (rdL u0c x.1 y1.toNat).2.2.1) none)):Ht Bool).bind fun j2=>cond j2 (some ((⟨#[]⟩:Hs),false)) (cond (y4l y1 x.1.length) (some ((rdL u0c x.1 y1.toNat).2.1,true)) none)
theorem t01:u4p=u7l:=zC 48 rfl Tryz.func48 (by kernel_rfl)
def u2m(x:Z27):Ht t0c:=zK 19 x
def u1n(g:Z20→Ht t5m)(x:Z20):Ht t5m:=cond (decide (x.2.2.2.2<(x.2.2.2.1.length:Int))) (cond (y4l x.2.2.2.2 x.2.2.2.1.length) ((u4p (x.1,rdL Ty.str x.2.2.2.1 x.2.2.2.2.toNat,x.2.1)).bind fun y2=>cond y2.2 (cond (y4l x.2.2.2.2 x.2.2.2.1.length) (cond (Nat.ble (x.2.2.1.length+([(rdL Ty.str x.2.2.2.1 x.2.2.2.2.toNat,y2.1)]:Hu u76.den).length) z8y) (g (x.1,x.2.1,x.2.2.1++([(rdL Ty.str x.2.2.2.1 x.2.2.2.2.toNat,y2.1)]:Hu u76.den),x.2.2.2.1,IntKind.i64.wrap (x.2.2.2.2+1))) none) none) (g (x.1,x.2.1,x.2.2.1,x.2.2.2.1,IntKind.i64.wrap (x.2.2.2.2+1)))) none) (some (.inl x.2.2.1))
def u1s:=lpW _ _ u1n
theorem u6b x:u1s x=u1n u1s x:=zW u54 19 Tryz.f19 4 43 x (by kernel_rfl)
def u7k (x:Z27):Ht t0c:=(u3r (x.1,x.2.1)).bind fun y1=>(u1s (x.1,x.2.2,([]:Hu u76.den),y1,0)).bind fun r3=>match r3 with | .inl o4=>some o4 | .inr z5=>none
theorem t00:u2m=u7k:=zC 19 rfl Tryz.func19 (by kernel_rfl)
def u0j(x:Int):Ht Int:=zK 55 x
def u43 (x:Int):Ht Int:=cond (decide (x<10)) (some (IntKind.u8.wrap (IntKind.i64.wrap ((48:Int)+x)))) (some (IntKind.u8.wrap (IntKind.i64.wrap ((IntKind.i64.wrap ((97:Int)+x)) - 10))))
theorem u8x:u0j=u43:=zC 55 rfl Tryz.func55 (by kernel_rfl)
def u7y(x:Hs):Ht t4q:=zK 52 x
def u27(g:t6t→Ht t6u)(x:t6t):Ht t6u:=cond (decide (x.2.2<(x.1.size:Int))) (cond (y4l x.2.2 x.1.size) ((u0j (IntKind.i64.wrap (Int.tdiv (IntKind.i64.wrap ((x.1.data.toList.getD x.2.2.toNat 0).toNat:Int)) (16:Int)))).bind fun y1=>cond (y4l x.2.2 x.1.size) ((u0j (Int.tmod (IntKind.i64.wrap ((x.1.data.toList.getD x.2.2.toNat 0).toNat:Int)) (16:Int))).bind fun y2=>cond (Nat.ble (x.2.1.length+([y1,y2]:Hu Int).length) z8y) (g (x.1,x.2.1++([y1,y2]:Hu Int),IntKind.i64.wrap (x.2.2+1))) none) none) none) (some (.inl x.2.1))
def u2b:=lpW _ _ u27
theorem u8k x:u2b x=u27 u2b x:=zW u8h 52 Tryz.f52 5 33 x (by kernel_rfl)
def t0e (x:Hs):Ht t4q:=cond (decide ((x.size:Int)>(20000:Int))) (some ((⟨#[]⟩:Hs),false)) ((u2b (x,([]:Hu Int),0)).bind fun r3=>match r3 with | .inl o4=>some (y7d o4,true) | .inr z5=>none)
theorem t2n:u7y=t0e:=zC 52 rfl Tryz.func52 (by kernel_rfl)
def u2j(x:t0c):Ht Hs:=zK 23 x
def u0w(g:Z48→Ht t6v)(x:Z48):Ht t6v:=cond (decide (x.2.2<(x.1.length:Int))) (cond (y4l x.2.2 x.1.length) ((u7y (rdL u76 x.1 x.2.2.toNat).2).bind fun y1=>cond (y4l x.2.2 x.1.length) (cond (decide (x.2.1.size+(rdL u76 x.1 x.2.2.toNat).1.size≤140737488355328)) (cond (decide ((x.2.1++(rdL u76 x.1 x.2.2.toNat).1).size+(⟨#[61]⟩:Hs).size≤140737488355328)) (cond (decide (((x.2.1++(rdL u76 x.1 x.2.2.toNat).1)++(⟨#[61]⟩:Hs)).size+y1.1.size≤140737488355328)) (cond (decide ((((x.2.1++(rdL u76 x.1 x.2.2.toNat).1)++(⟨#[61]⟩:Hs))++y1.1).size+(⟨#[10]⟩:Hs).size≤140737488355328)) (g (x.1,(((x.2.1++(rdL u76 x.1 x.2.2.toNat).1)++(⟨#[61]⟩:Hs))++y1.1)++(⟨#[10]⟩:Hs),IntKind.i64.wrap (x.2.2+1))) none) none) none) none) none) none) (some (.inl x.2.1))
def u0z:=lpW _ _ u0w
theorem u3k x:u0z x=u0w u0z x:=zW u3c 23 Tryz.f23 3 34 x (by kernel_rfl)
def u41 (x:t0c):Ht Hs:=(u0z (x,(⟨#[]⟩:Hs),0)).bind fun r2=>match r2 with | .inl o3=>some o3 | .inr z4=>none
theorem u8v:u2j=u41:=zC 23 rfl Tryz.func23 (by kernel_rfl)
def u1b(x:Int):Ht Hs:=zK 27 x
def u1c(g:(Int×t6w)→Ht (t6w⊕Unit))(x:(Int×t6w)):Ht (t6w⊕Unit):=cond (!decide (x.1=0)) (cond (decide ((Int.tmod x.1 (10:Int))<0)) ((u0j (IntKind.i64.wrap (0 - (Int.tmod x.1 (10:Int))))).bind fun y1=>cond (decide ((y7d ([y1]:Hu Int)).size+x.2.2.size≤140737488355328)) (g (IntKind.i64.wrap (Int.tdiv x.1 (10:Int)),x.2.1,(y7d ([y1]:Hu Int))++x.2.2)) none) ((u0j (Int.tmod x.1 (10:Int))).bind fun y2=>cond (decide ((y7d ([y2]:Hu Int)).size+x.2.2.size≤140737488355328)) (g (IntKind.i64.wrap (Int.tdiv x.1 (10:Int)),x.2.1,(y7d ([y2]:Hu Int))++x.2.2)) none)) (some (.inl x.2))
def u1f:=lpW _ _ u1c
theorem u47 x:u1f x=u1c u1f x:=zW u44 27 Tryz.f27 5 30 x (by kernel_rfl)
def u6q (x:Int):Ht Hs:=cond (decide (x=0)) (some (⟨#[48]⟩:Hs)) ((u1f (x,decide (x<0),(⟨#[]⟩:Hs))).bind fun r3=>match r3 with | .inl o4=>cond o4.1 (cond (decide ((⟨#[45]⟩:Hs).size+o4.2.size≤140737488355328)) (some ((⟨#[45]⟩:Hs)++o4.2)) none) (some o4.2) | .inr z5=>none)
theorem u98:u1b=u6q:=zC 27 rfl Tryz.func27 (by kernel_rfl)
def u4r(x:Int):Ht Hs:=zK 26 x
def u7m (x:Int):Ht Hs:=cond (decide (x<0)) (some (⟨#[48]⟩:Hs)) ((u1b x).bind fun y1=>some y1)
theorem t03:u4r=u7m:=zC 26 rfl Tryz.func26 (by kernel_rfl)
def u4q(x:Unit):Ht t3w:=zK 28 x
def t0i (x:Unit):Ht t3w:=some ((⟨#[97]⟩:Hs),(⟨#[122,122,122]⟩:Hs))
theorem t02:u4q=t0i:=zC 28 rfl Tryz.func28 (by kernel_rfl)
def u2k(x:Z5):Ht Hs:=zK 7 x
def u42 (x:Z5):Ht Hs:=(u4r x.1.1.2.2.2.1).bind fun y1=>cond (decide ((⟨#[99,115,32]⟩:Hs).size+y1.size≤140737488355328)) (cond (decide (((⟨#[99,115,32]⟩:Hs)++y1).size+(⟨#[32,111,112,101,110,32]⟩:Hs).size≤140737488355328)) ((u1b (x.1.2.length:Int)).bind fun y2=>cond (decide ((((⟨#[99,115,32]⟩:Hs)++y1)++(⟨#[32,111,112,101,110,32]⟩:Hs)).size+y2.size≤140737488355328)) (cond (decide (((((⟨#[99,115,32]⟩:Hs)++y1)++(⟨#[32,111,112,101,110,32]⟩:Hs))++y2).size+(⟨#[32,114,101,97,100,121,32]⟩:Hs).size≤140737488355328)) ((u1b (x.1.1.2.2.1.length:Int)).bind fun y3=>cond (decide ((((((⟨#[99,115,32]⟩:Hs)++y1)++(⟨#[32,111,112,101,110,32]⟩:Hs))++y2)++(⟨#[32,114,101,97,100,121,32]⟩:Hs)).size+y3.size≤140737488355328)) (cond (decide (((((((⟨#[99,115,32]⟩:Hs)++y1)++(⟨#[32,111,112,101,110,32]⟩:Hs))++y2)++(⟨#[32,114,101,97,100,121,32]⟩:Hs))++y3).size+(⟨#[10]⟩:Hs).size≤140737488355328)) ((u4q ()).bind fun y4=>(u2m (x.1.1.1,y4,x.1.1.2.2.2.1)).bind fun y5=>(u2j y5).bind fun y6=>cond (decide ((((((((⟨#[99,115,32]⟩:Hs)++y1)++(⟨#[32,111,112,101,110,32]⟩:Hs))++y2)++(⟨#[32,114,101,97,100,121,32]⟩:Hs))++y3)++(⟨#[10]⟩:Hs)).size+y6.size≤140737488355328)) (some ((((((((⟨#[99,115,32]⟩:Hs)++y1)++(⟨#[32,111,112,101,110,32]⟩:Hs))++y2)++(⟨#[32,114,101,97,100,121,32]⟩:Hs))++y3)++(⟨#[10]⟩:Hs))++y6)) none) none) none) none) none) none) none
theorem u8w:u2k=u42:=zC 7 rfl Tryz.func7 (by kernel_rfl)
def u18(x:t3w):Ht t3w:=zK 126 x
def u9t (x:t3w):Ht t3w:=some x
theorem u95:u18=u9t:=zC 126 rfl Tryz.func126 (by kernel_rfl)
def u21(x:t0c):Ht t0c:=zK 90 x
def u3w(g:Z37→Ht t5m)(x:Z37):Ht t5m:=cond (decide (x.2.2<(x.1.length:Int))) (cond (y4l x.2.2 x.1.length) ((u18 (rdL u76 x.1 x.2.2.toNat)).bind fun y1=>cond (y4l x.2.2 x.2.1.length) (g (x.1,x.2.1.set x.2.2.toNat y1,IntKind.i64.wrap (x.2.2+1))) none) none) (some (.inl x.2.1))
def u0o:=lpW _ _ u3w
theorem u74 x:u0o x=u3w u0o x:=zW u36 90 Tryz.f90 3 23 x (by kernel_rfl)
def u5q (x:t0c):Ht t0c:=cond (decide (0≤(x.length:Int))&&decide ((x.length:Int)≤1099511627776)) ((u0o (x,List.replicate (x.length:Int).toNat u76.zero,0)).bind fun r2=>match r2 with | .inl o3=>some o3 | .inr z4=>none) none
theorem u9b:u21=u5q:=zC 90 rfl Tryz.func90 (by kernel_rfl)
def u19(x:t6x):Ht t6x:=zK 127 x
def u9u (x:t6x):Ht t6x:=some x
theorem u97:u19=u9u:=zC 127 rfl Tryz.func127 (by kernel_rfl)
def u22(x:t3x):Ht t3x:=zK 91 x
def u3x(g:Z33→Ht (t3x⊕Unit))(x:Z33):Ht (t3x⊕Unit):=cond (decide (x.2.2<(x.1.length:Int))) (cond (y4l x.2.2 x.1.length) ((u19 (rdL u4t x.1 x.2.2.toNat)).bind fun y1=>cond (y4l x.2.2 x.2.1.length) (g (x.1,x.2.1.set x.2.2.toNat y1,IntKind.i64.wrap (x.2.2+1))) none) none) (some (.inl x.2.1))
def u0p:=lpW _ _ u3x
theorem u75 x:u0p x=u3x u0p x:=zW u37 91 Tryz.f91 3 23 x (by kernel_rfl)
def u5r (x:t3x):Ht t3x:=cond (decide (0≤(x.length:Int))&&decide ((x.length:Int)≤1099511627776)) ((u0p (x,List.replicate (x.length:Int).toNat u4t.zero,0)).bind fun r2=>match r2 with | .inl o3=>some o3 | .inr z4=>none) none
theorem u9c:u22=u5r:=zC 91 rfl Tryz.func91 (by kernel_rfl)
def u3i(x:Z15):Ht Z15:=zK 65 x
def u8b (x:Z15):Ht Z15:=(u21 x.2.2.2.2.1).bind fun y1=>(u22 x.2.2.2.2.2.1).bind fun y2=>some (x.1,x.2.1,x.2.2.1,x.2.2.2.1,y1,y2,x.2.2.2.2.2.2)
theorem t1i:u3i=u8b:=zC 65 rfl Tryz.func65 (by kernel_rfl)
def u1x(x:t5j):Ht t5j:=zK 39 x
def u5i(g:Z18→Ht (t5j⊕Unit))(x:Z18):Ht (t5j⊕Unit):=cond (decide (x.2.2<(x.1.length:Int))) (cond (y4l x.2.2 x.1.length) ((u3i (rdL u0a x.1 x.2.2.toNat)).bind fun y1=>cond (y4l x.2.2 x.2.1.length) (g (x.1,x.2.1.set x.2.2.toNat y1,IntKind.i64.wrap (x.2.2+1))) none) none) (some (.inl x.2.1))
def u04:=lpW _ _ u5i
theorem u9n x:u04 x=u5i u04 x:=zW u53 39 Tryz.f39 3 23 x (by kernel_rfl)
def u7j (x:t5j):Ht t5j:=cond (decide (0≤(x.length:Int))&&decide ((x.length:Int)≤1099511627776)) ((u04 (x,List.replicate (x.length:Int).toNat u0a.zero,0)).bind fun r2=>match r2 with | .inl o3=>some o3 | .inr z4=>none) none
theorem t0z:u1x=u7j:=zC 39 rfl Tryz.func39 (by kernel_rfl)
def u1j(x:Z43):Ht Z43:=zK 119 x
def u8m (x:Z43):Ht Z43:=some x
theorem u8u:u1j=u8m:=zC 119 rfl Tryz.func119 (by kernel_rfl)
def u12(x:t22):Ht t22:=zK 80 x
def u2p(g:Z29→Ht (t22⊕Unit))(x:Z29):Ht (t22⊕Unit):=cond (decide (x.2.2<(x.1.length:Int))) (cond (y4l x.2.2 x.1.length) ((u1j (rdL u0c x.1 x.2.2.toNat)).bind fun y1=>cond (y4l x.2.2 x.2.1.length) (g (x.1,x.2.1.set x.2.2.toNat y1,IntKind.i64.wrap (x.2.2+1))) none) none) (some (.inl x.2.1))
def u0f:=lpW _ _ u2p
theorem u60 x:u0f x=u2p u0f x:=zW u2t 80 Tryz.f80 3 23 x (by kernel_rfl)
def u30 (x:t22):Ht t22:=cond (decide (0≤(x.length:Int))&&decide ((x.length:Int)≤1099511627776)) ((u0f (x,List.replicate (x.length:Int).toNat u0c.zero,0)).bind fun r2=>match r2 with | .inl o3=>some o3 | .inr z4=>none) none
theorem u7v:u12=u30:=zC 80 rfl Tryz.func80 (by kernel_rfl)
def u4m(x:Z11):Ht Z11:=zK 56 x
def u7g (x:Z11):Ht Z11:=(u12 x.1).bind fun y1=>(u1x x.2.1).bind fun y2=>(u1x x.2.2.1).bind fun y3=>some (y1,y2,y3,x.2.2.2)
theorem t0w:u4m=u7g:=zC 56 rfl Tryz.func56 (by kernel_rfl)
def u20(x:Z8):Ht Z8:=zK 29 x
def u5p (x:Z8):Ht Z8:=(u4m x.1).bind fun y1=>(u1x x.2).bind fun y2=>some (y1,y2)
theorem u9a:u20=u5p:=zC 29 rfl Tryz.func29 (by kernel_rfl)
def u2i(x:t05):Ht t05:=zK 41 x
def u26(g:Z35→Ht t5l)(x:Z35):Ht t5l:=cond (decide (x.2.2<(x.1.length:Int))) (cond (y4l x.2.2 x.1.length) (cond (y4l x.2.2 x.2.1.length) (g (x.1,x.2.1.set x.2.2.toNat (rdL Ty.str x.1 x.2.2.toNat),IntKind.i64.wrap (x.2.2+1))) none) none) (some (.inl x.2.1))
def u0l:=lpW _ _ u26
theorem u7s x:u0l x=u26 u0l x:=zW u3b 41 Tryz.f41 3 22 x (by kernel_rfl)
def u40 (x:t05):Ht t05:=cond (decide (0≤(x.length:Int))&&decide ((x.length:Int)≤1099511627776)) ((u0l (x,List.replicate (x.length:Int).toNat Ty.str.zero,0)).bind fun r1=>match r1 with | .inl o2=>some o2 | .inr z3=>none) none
theorem u8t:u2i=u40:=zC 41 rfl Tryz.func41 (by kernel_rfl)
def u3h(x:t5k):Ht t5k:=zK 81 x
def t1c (x:t5k):Ht t5k:=some x
theorem t1h:u3h=t1c:=zC 81 rfl Tryz.func81 (by kernel_rfl)
def u4o(x:t2l):Ht t2l:=zK 57 x
def u5h(g:Z40→Ht (t2l⊕Unit))(x:Z40):Ht (t2l⊕Unit):=cond (decide (x.2.2<(x.1.length:Int))) (cond (y4l x.2.2 x.1.length) ((u3h (rdL t2y x.1 x.2.2.toNat)).bind fun y1=>cond (y4l x.2.2 x.2.1.length) (g (x.1,x.2.1.set x.2.2.toNat y1,IntKind.i64.wrap (x.2.2+1))) none) none) (some (.inl x.2.1))
def u03:=lpW _ _ u5h
theorem u9m x:u03 x=u5h u03 x:=zW u52 57 Tryz.f57 3 23 x (by kernel_rfl)
def u7i (x:t2l):Ht t2l:=cond (decide (0≤(x.length:Int))&&decide ((x.length:Int)≤1099511627776)) ((u03 (x,List.replicate (x.length:Int).toNat t2y.zero,0)).bind fun r2=>match r2 with | .inl o3=>some o3 | .inr z4=>none) none
theorem t0y:u4o=u7i:=zC 57 rfl Tryz.func57 (by kernel_rfl)
def u4n(x:Z49):Ht Z49:=zK 30 x
def u7h (x:Z49):Ht Z49:=(u2i x.1).bind fun y1=>(u4o x.2).bind fun y2=>some (y1,y2)
theorem t0x:u4n=u7h:=zC 30 rfl Tryz.func30 (by kernel_rfl)
def u1a(x:Z5):Ht Z5:=zK 8 x
def u6p (x:Z5):Ht Z5:=(u20 x.1).bind fun y1=>(u4n x.2).bind fun y2=>some (y1,y2)
theorem u96:u1a=u6p:=zC 8 rfl Tryz.func8 (by kernel_rfl)
def u7x(x:Hs):Ht t4q:=zK 46 x
def u23(g:t6t→Ht t6u)(x:t6t):Ht t6u:=cond (decide (x.2.2<(x.1.size:Int))) (cond (y4l x.2.2 x.1.size) (cond (y4l (IntKind.u8.wrap (Int.tdiv ((x.1.data.toList.getD x.2.2.toNat 0).toNat:Int) (16:Int))) (⟨#[48,49,50,51,52,53,54,55,56,57,97,98,99,100,101,102]⟩:Hs).size) (cond (y4l x.2.2 x.1.size) (cond (y4l (Int.tmod ((x.1.data.toList.getD x.2.2.toNat 0).toNat:Int) (16:Int)) (⟨#[48,49,50,51,52,53,54,55,56,57,97,98,99,100,101,102]⟩:Hs).size) (cond (Nat.ble (x.2.1.length+([(((⟨#[48,49,50,51,52,53,54,55,56,57,97,98,99,100,101,102]⟩:Hs).data.toList.getD (IntKind.u8.wrap (Int.tdiv ((x.1.data.toList.getD x.2.2.toNat 0).toNat:Int) (16:Int))).toNat 0).toNat:Int),(((⟨#[48,49,50,51,52,53,54,55,56,57,97,98,99,100,101,102]⟩:Hs).data.toList.getD (Int.tmod ((x.1.data.toList.getD x.2.2.toNat 0).toNat:Int) (16:Int)).toNat 0).toNat:Int)]:Hu Int).length) z8y) (g (x.1,x.2.1++([(((⟨#[48,49,50,51,52,53,54,55,56,57,97,98,99,100,101,102]⟩:Hs).data.toList.getD (IntKind.u8.wrap (Int.tdiv ((x.1.data.toList.getD x.2.2.toNat 0).toNat:Int) (16:Int))).toNat 0).toNat:Int),(((⟨#[48,49,50,51,52,53,54,55,56,57,97,98,99,100,101,102]⟩:Hs).data.toList.getD (Int.tmod ((x.1.data.toList.getD x.2.2.toNat 0).toNat:Int) (16:Int)).toNat 0).toNat:Int)]:Hu Int),IntKind.i64.wrap (x.2.2+1))) none) none) none) none) none) (some (.inl x.2.1))
def u2a:=lpW _ _ u23
theorem u8j x:u2a x=u23 u2a x:=zW u8g 46 Tryz.f46 5 30 x (by kernel_rfl)
def t0d (x:Hs):Ht t4q:=cond (decide ((x.size:Int)>(20000:Int))) (some ((⟨#[]⟩:Hs),false)) ((u2a (x,([]:Hu Int),0)).bind fun r1=>match r1 with | .inl o2=>some (y7d o2,true) | .inr z3=>none)
theorem t2m:u7x=t0d:=zC 46 rfl Tryz.func46 (by kernel_rfl)
def u2e(x:t0c):Ht Hs:=zK 18 x
def u0v(g:Z34→Ht t6v)(x:Z34):Ht t6v:=cond (decide (x.2.2.2<x.2.2.1)) (cond (y4l x.2.2.2 x.2.1.length) ((u7x (rdL u76 x.2.1 x.2.2.2.toNat).2).bind fun y1=>cond (decide ((rdL u76 x.2.1 x.2.2.2.toNat).1.size+(⟨#[61]⟩:Hs).size≤140737488355328)) (cond (decide (((rdL u76 x.2.1 x.2.2.2.toNat).1++(⟨#[61]⟩:Hs)).size+y1.1.size≤140737488355328)) (cond (decide ((((rdL u76 x.2.1 x.2.2.2.toNat).1++(⟨#[61]⟩:Hs))++y1.1).size+(⟨#[10]⟩:Hs).size≤140737488355328)) (cond (decide (x.1.size+((((rdL u76 x.2.1 x.2.2.2.toNat).1++(⟨#[61]⟩:Hs))++y1.1)++(⟨#[10]⟩:Hs)).size≤140737488355328)) (g (x.1++((((rdL u76 x.2.1 x.2.2.2.toNat).1++(⟨#[61]⟩:Hs))++y1.1)++(⟨#[10]⟩:Hs)),x.2.1,x.2.2.1,IntKind.i64.wrap (x.2.2.2+1))) none) none) none) none) none) (some (.inl x.1))
def u0x:=lpW _ _ u0v
theorem u3j x:u0x x=u0v u0x x:=zW u28 18 Tryz.f18 3 30 x (by kernel_rfl)
def u4u (x:t0c):Ht Hs:=(u0x ((⟨#[]⟩:Hs),x,(x.length:Int),0)).bind fun r2=>match r2 with | .inl o3=>some o3 | .inr z4=>none
theorem u8n:u2e=u4u:=zC 18 rfl Tryz.func18 (by kernel_rfl)
def u6u(x:Int):Ht Hs:=zK 58 x
theorem t0b:∀(x:Int),u6u x=y6w x:=y6b (P:=Tryz.prog) (A:=A) (f:=58) (F:=y6w) rfl
def u0u(x:Int):Ht Hs:=zK 31 x
def u6h (x:Int):Ht Hs:=(u6u x).bind fun y1=>some y1
theorem u9w:u0u=u6h:=zC 31 rfl Tryz.func31 (by kernel_rfl)
def u05(x:t05):Ht t05:=zK 83 x
theorem u2q:∀(x:t05),u05 x=y6x x:=y6b (P:=Tryz.prog) (A:=A) (f:=83) (F:=y6x) rfl
def u0r(x:t05):Ht t05:=zK 84 x
theorem u2c:∀(x:t05),u0r x=y0j x:=y6b (P:=Tryz.prog) (A:=A) (f:=84) (F:=y0j) rfl
def u4e(x:t22):Ht t05:=zK 59 x
def u1l(g:Z26→Ht t5l)(x:Z26):Ht t5l:=cond (decide (x.2.2.2<x.2.2.1)) (cond (y4l x.2.2.2 x.2.1.length) (cond (Nat.ble (x.1.length+([(rdL u0c x.2.1 x.2.2.2.toNat).1]:Hu Hs).length) z8y) (g (x.1++([(rdL u0c x.2.1 x.2.2.2.toNat).1]:Hu Hs),x.2.1,x.2.2.1,IntKind.i64.wrap (x.2.2.2+1))) none) none) (some (.inl x.1))
def u1p:=lpW _ _ u1l
theorem u59 x:u1p x=u1l u1p x:=zW u5w 59 Tryz.f59 3 22 x (by kernel_rfl)
def u66 (x:t22):Ht t05:=(u1p (([]:Hu Hs),x,(x.length:Int),0)).bind fun r1=>match r1 with | .inl o2=>((u05 o2).bind fun y3=>(u0r y3).bind fun y4=>some y4) | .inr z5=>none
theorem t0m:u4e=u66:=zC 59 rfl Tryz.func59 (by kernel_rfl)
def u4f(x:Z41):Ht Int:=zK 85 x
def u1m(g:Z16→Ht (Int⊕Unit))(x:Z16):Ht (Int⊕Unit):=cond (decide (x.2.2.2.2.2.2<x.2.2.2.2.2.1)) (cond (y4l x.2.2.2.2.2.2 x.2.2.2.2.1.length) (((cond (z7m (rdL u0c x.2.2.2.2.1 x.2.2.2.2.2.2.toNat).1 x.2.1) (cond (decide ((rdL u0c x.2.2.2.2.1 x.2.2.2.2.2.2.toNat).2.2.2≤x.2.2.1)) (cond (decide (x.2.2.2.1<0)) (some true) (cond (y4l x.2.2.2.1 x.1.length) (some (decide ((rdL u0c x.2.2.2.2.1 x.2.2.2.2.2.2.toNat).2.2.2>(rdL u0c x.1 x.2.2.2.1.toNat).2.2.2))) none)) (some false)) (some false)):Ht Bool).bind fun j1=>cond j1 (g (x.1,x.2.1,x.2.2.1,x.2.2.2.2.2.2,x.2.2.2.2.1,x.2.2.2.2.2.1,IntKind.i64.wrap (x.2.2.2.2.2.2+1))) (g (x.1,x.2.1,x.2.2.1,x.2.2.2.1,x.2.2.2.2.1,x.2.2.2.2.2.1,IntKind.i64.wrap (x.2.2.2.2.2.2+1)))) none) (some (.inl x.2.2.2.1))
def u00:=lpW _ _ u1m
theorem u6a x:u00 x=u1m u00 x:=zW u5x 85 Tryz.f85 3 44 x (by kernel_rfl)
def u67 (x:Z41):Ht Int:=(u00 (x.1,x.2.1,x.2.2,(- 1:Int),x.1,(x.1.length:Int),0)).bind fun r2=>match r2 with | .inl o3=>some o3 | .inr z4=>none
theorem t0n:u4f=u67:=zC 85 rfl Tryz.func85 (by kernel_rfl)
def u4d(x:Z41):Ht t4q:=zK 60 x
def u65 (x:Z41):Ht t4q:=(u4f x).bind fun y1=>((cond (decide (y1<0)) (some true) (cond (y4l y1 x.1.length) (some (rdL u0c x.1 y1.toNat).2.2.1) none)):Ht Bool).bind fun j2=>cond j2 (some ((⟨#[]⟩:Hs),false)) (cond (y4l y1 x.1.length) (some ((rdL u0c x.1 y1.toNat).2.1,true)) none)
theorem t0l:u4d=u65:=zC 60 rfl Tryz.func60 (by kernel_rfl)
def u3m(x:Z47):Ht Bool:=zK 61 x
def u6i (x:Z47):Ht Bool:=((cond (!y2y x.2 x.1.1) (some (y2y x.2 x.1.2||z7m x.2 x.1.2)) (some false)):Ht Bool).bind fun j1=>some j1
theorem u9x:u3m=u6i:=zC 61 rfl Tryz.func61 (by kernel_rfl)
def u2l(x:Z27):Ht t0c:=zK 32 x
def u1k(g:Z12→Ht t5m)(x:Z12):Ht t5m:=cond (decide (x.2.2.2.2.2.2<x.2.2.2.2.2.1)) (cond (y4l x.2.2.2.2.2.2 x.2.2.2.2.1.length) ((u4d (x.1,rdL Ty.str x.2.2.2.2.1 x.2.2.2.2.2.2.toNat,x.2.1)).bind fun y2=>((cond y2.2 ((u3m (x.2.2.1,rdL Ty.str x.2.2.2.2.1 x.2.2.2.2.2.2.toNat)).bind fun y3=>some y3) (some false)):Ht Bool).bind fun j4=>cond j4 (cond (Nat.ble (x.2.2.2.1.length+([(rdL Ty.str x.2.2.2.2.1 x.2.2.2.2.2.2.toNat,y2.1)]:Hu u76.den).length) z8y) (g (x.1,x.2.1,x.2.2.1,x.2.2.2.1++([(rdL Ty.str x.2.2.2.2.1 x.2.2.2.2.2.2.toNat,y2.1)]:Hu u76.den),x.2.2.2.2.1,x.2.2.2.2.2.1,IntKind.i64.wrap (x.2.2.2.2.2.2+1))) none) (g (x.1,x.2.1,x.2.2.1,x.2.2.2.1,x.2.2.2.2.1,x.2.2.2.2.2.1,IntKind.i64.wrap (x.2.2.2.2.2.2+1)))) none) (some (.inl x.2.2.2.1))
def u1o:=lpW _ _ u1k
theorem u58 x:u1o x=u1k u1o x:=zW u5v 32 Tryz.f32 3 40 x (by kernel_rfl)
def u63 (x:Z27):Ht t0c:=(u4e x.1).bind fun y1=>(u1o (x.1,x.2.2,x.2.1,([]:Hu u76.den),y1,(y1.length:Int),0)).bind fun r5=>match r5 with | .inl o6=>some o6 | .inr z7=>none
theorem t0k:u2l=u63:=zC 32 rfl Tryz.func32 (by kernel_rfl)
def u3n(x:Unit):Ht t3w:=zK 33 x
def u9s (x:Unit):Ht t3w:=some ((⟨#[97]⟩:Hs),(⟨#[122,122,122]⟩:Hs))
theorem u9y:u3n=u9s:=zC 33 rfl Tryz.func33 (by kernel_rfl)
def u2f(x:Z5):Ht Hs:=zK 9 x
def u4v (x:Z5):Ht Hs:=(u0u (y8g x.1.1.2.2.2.1 (0:Int))).bind fun y1=>cond (decide ((⟨#[99,115,32]⟩:Hs).size+y1.size≤140737488355328)) (cond (decide (((⟨#[99,115,32]⟩:Hs)++y1).size+(⟨#[32,111,112,101,110,32]⟩:Hs).size≤140737488355328)) ((u0u (x.1.2.length:Int)).bind fun y2=>cond (decide ((((⟨#[99,115,32]⟩:Hs)++y1)++(⟨#[32,111,112,101,110,32]⟩:Hs)).size+y2.size≤140737488355328)) (cond (decide (((((⟨#[99,115,32]⟩:Hs)++y1)++(⟨#[32,111,112,101,110,32]⟩:Hs))++y2).size+(⟨#[32,114,101,97,100,121,32]⟩:Hs).size≤140737488355328)) ((u0u (x.1.1.2.2.1.length:Int)).bind fun y3=>cond (decide ((((((⟨#[99,115,32]⟩:Hs)++y1)++(⟨#[32,111,112,101,110,32]⟩:Hs))++y2)++(⟨#[32,114,101,97,100,121,32]⟩:Hs)).size+y3.size≤140737488355328)) (cond (decide (((((((⟨#[99,115,32]⟩:Hs)++y1)++(⟨#[32,111,112,101,110,32]⟩:Hs))++y2)++(⟨#[32,114,101,97,100,121,32]⟩:Hs))++y3).size+(⟨#[10]⟩:Hs).size≤140737488355328)) ((u3n ()).bind fun y4=>(u2l (x.1.1.1,y4,x.1.1.2.2.2.1)).bind fun y5=>(u2e y5).bind fun y6=>cond (decide ((((((((⟨#[99,115,32]⟩:Hs)++y1)++(⟨#[32,111,112,101,110,32]⟩:Hs))++y2)++(⟨#[32,114,101,97,100,121,32]⟩:Hs))++y3)++(⟨#[10]⟩:Hs)).size+y6.size≤140737488355328)) (some ((((((((⟨#[99,115,32]⟩:Hs)++y1)++(⟨#[32,111,112,101,110,32]⟩:Hs))++y2)++(⟨#[32,114,101,97,100,121,32]⟩:Hs))++y3)++(⟨#[10]⟩:Hs))++y6)) none) none) none) none) none) none) none
theorem u8o:u2f=u4v:=zC 9 rfl Tryz.func9 (by kernel_rfl)
def u14(x:Z30):Ht Bool:=zK 128 x
def u6j (x:Z30):Ht Bool:=cond (!z7m x.1.1 x.2.1) (some false) (cond (!z7m x.1.2 x.2.2) (some false) (some true))
theorem u9z:u14=u6j:=zC 128 rfl Tryz.func128 (by kernel_rfl)
def u2v(x:(t0c×t0c)):Ht Bool:=zK 92 x
def u3s(g:Z37→Ht t23)(x:Z37):Ht t23:=cond (decide (x.2.2<(x.1.length:Int))) (cond (y4l x.2.2 x.1.length) (cond (y4l x.2.2 x.2.1.length) ((u14 (rdL u76 x.1 x.2.2.toNat,rdL u76 x.2.1 x.2.2.toNat)).bind fun y1=>cond (!y1) (some (.inr false)) (g (x.1,x.2.1,IntKind.i64.wrap (x.2.2+1)))) none) none) (some (.inl ()))
def u0m:=lpW _ _ u3s
theorem u70 x:u0m x=u3s u0m x:=zW u32 92 Tryz.f92 4 27 x (by kernel_rfl)
def u5k (x:(t0c×t0c)):Ht Bool:=cond (!decide ((x.1.length:Int)=(x.2.length:Int))) (some false) ((u0m (x.1,x.2,0)).bind fun r2=>match r2 with | .inl o3=>some true | .inr z4=>some z4)
theorem u85:u2v=u5k:=zC 92 rfl Tryz.func92 (by kernel_rfl)
def u15(x:Z24):Ht Bool:=zK 129 x
def u6l (x:Z24):Ht Bool:=cond (!z7m x.1.1 x.2.1) (some false) (cond (!z7m x.1.2.1 x.2.2.1) (some false) (cond (!(x.1.2.2==x.2.2.2)) (some false) (some true)))
theorem u91:u15=u6l:=zC 129 rfl Tryz.func129 (by kernel_rfl)
def u2w(x:Z44):Ht Bool:=zK 93 x
def u3t(g:Z33→Ht t23)(x:Z33):Ht t23:=cond (decide (x.2.2<(x.1.length:Int))) (cond (y4l x.2.2 x.1.length) (cond (y4l x.2.2 x.2.1.length) ((u15 (rdL u4t x.1 x.2.2.toNat,rdL u4t x.2.1 x.2.2.toNat)).bind fun y1=>cond (!y1) (some (.inr false)) (g (x.1,x.2.1,IntKind.i64.wrap (x.2.2+1)))) none) none) (some (.inl ()))
def u0n:=lpW _ _ u3t
theorem u71 x:u0n x=u3t u0n x:=zW u33 93 Tryz.f93 4 27 x (by kernel_rfl)
def u5l (x:Z44):Ht Bool:=cond (!decide ((x.1.length:Int)=(x.2.length:Int))) (some false) ((u0n (x.1,x.2,0)).bind fun r2=>match r2 with | .inl o3=>some true | .inr z4=>some z4)
theorem u86:u2w=u5l:=zC 93 rfl Tryz.func93 (by kernel_rfl)
def u3e(x:Z6):Ht Bool:=zK 66 x
def u78 (x:Z6):Ht Bool:=cond (!decide (x.1.1=x.2.1)) (some false) (cond (!decide (x.1.2.1=x.2.2.1)) (some false) (cond (!decide (x.1.2.2.1=x.2.2.2.1)) (some false) (cond (!decide (x.1.2.2.2.1=x.2.2.2.2.1)) (some false) ((u2v (x.1.2.2.2.2.1,x.2.2.2.2.2.1)).bind fun y1=>cond (!y1) (some false) ((u2w (x.1.2.2.2.2.2.1,x.2.2.2.2.2.2.1)).bind fun y2=>cond (!y2) (some false) (cond (!(x.1.2.2.2.2.2.2.1==x.2.2.2.2.2.2.2.1)) (some false) (cond (!z7m x.1.2.2.2.2.2.2.2 x.2.2.2.2.2.2.2.2) (some false) (some true))))))))
theorem t1e:u3e=u78:=zC 66 rfl Tryz.func66 (by kernel_rfl)
def u1v(x:Z23):Ht Bool:=zK 42 x
def u5e(g:Z18→Ht t23)(x:Z18):Ht t23:=cond (decide (x.2.2<(x.1.length:Int))) (cond (y4l x.2.2 x.1.length) (cond (y4l x.2.2 x.2.1.length) ((u3e (rdL u0a x.1 x.2.2.toNat,rdL u0a x.2.1 x.2.2.toNat)).bind fun y1=>cond (!y1) (some (.inr false)) (g (x.1,x.2.1,IntKind.i64.wrap (x.2.2+1)))) none) none) (some (.inl ()))
def u02:=lpW _ _ u5e
theorem u9j x:u02 x=u5e u02 x:=zW u5z 42 Tryz.f42 4 27 x (by kernel_rfl)
def u7b (x:Z23):Ht Bool:=cond (!decide ((x.1.length:Int)=(x.2.length:Int))) (some false) ((u02 (x.1,x.2,0)).bind fun r2=>match r2 with | .inl o3=>some true | .inr z4=>some z4)
theorem t0r:u1v=u7b:=zC 42 rfl Tryz.func42 (by kernel_rfl)
def u1h(x:Z17):Ht Bool:=zK 123 x
def u4x (x:Z17):Ht Bool:=cond (!z7m x.1.1 x.2.1) (some false) (cond (!z7m x.1.2.1 x.2.2.1) (some false) (cond (!(x.1.2.2.1==x.2.2.2.1)) (some false) (cond (!decide (x.1.2.2.2=x.2.2.2.2)) (some false) (some true))))
theorem u8q:u1h=u4x:=zC 123 rfl Tryz.func123 (by kernel_rfl)
def u10(x:Z38):Ht Bool:=zK 86 x
def u2n(g:Z29→Ht t23)(x:Z29):Ht t23:=cond (decide (x.2.2<(x.1.length:Int))) (cond (y4l x.2.2 x.1.length) (cond (y4l x.2.2 x.2.1.length) ((u1h (rdL u0c x.1 x.2.2.toNat,rdL u0c x.2.1 x.2.2.toNat)).bind fun y1=>cond (!y1) (some (.inr false)) (g (x.1,x.2.1,IntKind.i64.wrap (x.2.2+1)))) none) none) (some (.inl ()))
def u0e:=lpW _ _ u2n
theorem u6y x:u0e x=u2n u0e x:=zW u2r 86 Tryz.f86 4 27 x (by kernel_rfl)
def u3y (x:Z38):Ht Bool:=cond (!decide ((x.1.length:Int)=(x.2.length:Int))) (some false) ((u0e (x.1,x.2,0)).bind fun r2=>match r2 with | .inl o3=>some true | .inr z4=>some z4)
theorem u7t:u10=u3y:=zC 86 rfl Tryz.func86 (by kernel_rfl)
def u4g(x:Z3):Ht Bool:=zK 62 x
def u68 (x:Z3):Ht Bool:=(u10 (x.1.1,x.2.1)).bind fun y1=>cond (!y1) (some false) ((u1v (x.1.2.1,x.2.2.1)).bind fun y2=>cond (!y2) (some false) ((u1v (x.1.2.2.1,x.2.2.2.1)).bind fun y3=>cond (!y3) (some false) (cond (!decide (x.1.2.2.2.1=x.2.2.2.2.1)) (some false) (cond (!decide (x.1.2.2.2.2=x.2.2.2.2.2)) (some false) (some true)))))
theorem t0o:u4g=u68:=zC 62 rfl Tryz.func62 (by kernel_rfl)
def u2u(x:Z2):Ht Bool:=zK 34 x
def u5j (x:Z2):Ht Bool:=(u4g (x.1.1,x.2.1)).bind fun y1=>cond (!y1) (some false) ((u1v (x.1.2,x.2.2)).bind fun y2=>cond (!y2) (some false) (some true))
theorem u84:u2u=u5j:=zC 34 rfl Tryz.func34 (by kernel_rfl)
def u2g(x:Z46):Ht Bool:=zK 44 x
def u24(g:Z35→Ht t23)(x:Z35):Ht t23:=cond (decide (x.2.2<(x.1.length:Int))) (cond (y4l x.2.2 x.1.length) (cond (y4l x.2.2 x.2.1.length) (cond (!z7m (rdL Ty.str x.1 x.2.2.toNat) (rdL Ty.str x.2.1 x.2.2.toNat)) (some (.inr false)) (g (x.1,x.2.1,IntKind.i64.wrap (x.2.2+1)))) none) none) (some (.inl ()))
def u0k:=lpW _ _ u24
theorem u7q x:u0k x=u24 u0k x:=zW u29 44 Tryz.f44 4 26 x (by kernel_rfl)
def u4w (x:Z46):Ht Bool:=cond (!decide ((x.1.length:Int)=(x.2.length:Int))) (some false) ((u0k (x.1,x.2,0)).bind fun r1=>match r1 with | .inl o2=>some true | .inr z3=>some z3)
theorem u8p:u2g=u4w:=zC 44 rfl Tryz.func44 (by kernel_rfl)
def u3d(x:Z45):Ht Bool:=zK 87 x
def u77 (x:Z45):Ht Bool:=cond (!decide (x.1.1=x.2.1)) (some false) (cond (!z7m x.1.2 x.2.2) (some false) (some true))
theorem t1d:u3d=u77:=zC 87 rfl Tryz.func87 (by kernel_rfl)
def u4i(x:(t2l×t2l)):Ht Bool:=zK 63 x
def u5d(g:Z40→Ht t23)(x:Z40):Ht t23:=cond (decide (x.2.2<(x.1.length:Int))) (cond (y4l x.2.2 x.1.length) (cond (y4l x.2.2 x.2.1.length) ((u3d (rdL t2y x.1 x.2.2.toNat,rdL t2y x.2.1 x.2.2.toNat)).bind fun y1=>cond (!y1) (some (.inr false)) (g (x.1,x.2.1,IntKind.i64.wrap (x.2.2+1)))) none) none) (some (.inl ()))
def u01:=lpW _ _ u5d
theorem u9i x:u01 x=u5d u01 x:=zW u5y 63 Tryz.f63 4 27 x (by kernel_rfl)
def u7a (x:(t2l×t2l)):Ht Bool:=cond (!decide ((x.1.length:Int)=(x.2.length:Int))) (some false) ((u01 (x.1,x.2,0)).bind fun r2=>match r2 with | .inl o3=>some true | .inr z4=>some z4)
theorem t0q:u4i=u7a:=zC 63 rfl Tryz.func63 (by kernel_rfl)
def u4h(x:Z19):Ht Bool:=zK 35 x
def u69 (x:Z19):Ht Bool:=(u2g (x.1.1,x.2.1)).bind fun y1=>cond (!y1) (some false) ((u4i (x.1.2,x.2.2)).bind fun y2=>cond (!y2) (some false) (some true))
theorem t0p:u4h=u69:=zC 35 rfl Tryz.func35 (by kernel_rfl)
def u3o(x:Z1):Ht Bool:=zK 10 x
def u6k (x:Z1):Ht Bool:=(u2u (x.1.1,x.2.1)).bind fun y1=>cond (!y1) (some false) ((u4h (x.1.2,x.2.2)).bind fun y2=>cond (!y2) (some false) (some true))
theorem u90:u3o=u6k:=zC 10 rfl Tryz.func10 (by kernel_rfl)
def u1u(x:Z5):Ht Bool:=zK 3 x
def u1t (x:Z5):Ht Bool:=(u3p (x,1048576)).bind fun y1=>cond (decide (y1<0)) (some true) ((u1a x).bind fun y2=>(u2k y2).bind fun y3=>(u1a x).bind fun y4=>(u2f y4).bind fun y5=>cond (!z7m y5 y3) (some false) ((u1a x).bind fun y6=>(u3o (y4,y6)).bind fun y7=>cond (!y7) (some false) (some true)))
theorem u4c:u1u=u1t:=zC 3 rfl Tryz.func3 (by kernel_rfl)
end
end Go.Proofs.YtdeadnnhblaflaaGreatDoor.Ab
