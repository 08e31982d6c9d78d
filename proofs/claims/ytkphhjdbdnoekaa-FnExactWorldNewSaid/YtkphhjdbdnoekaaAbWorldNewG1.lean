import Derived.Test.YtkphhjdbdnoekaaAbK2
import Derived.Test.YtkphhjdbdnoekaaAbF4
import Derived.Test.YtkphhjdbdnoekaaAbS1
import Derived.Test.YtkphhjdbdnoekaaAbS7
import Derived.KernelRfl
import Derived.Test.YtkphhjdbdnoekaaProg
namespace Go.Proofs.Ytkphhjdbdnoekaa.Ab
open Go
set_option linter.unusedVariables false
noncomputable section
abbrev t1j:Ty:=(.pair .bool (.int .i64))
abbrev t0o:Ty:=(.pair .str t1j)
abbrev u0a:Ty:=(.pair .str t0o)
abbrev u83:Ty:=(.pair (.int .i64) .str)
abbrev u9x:Ty:=(.pair .str .str)
abbrev t1m:Ty:=(.pair .str .bool)
abbrev u5x:Ty:=(.pair .str t1m)
abbrev t1k:Ty:=(.pair .bool .str)
abbrev u8o:Ty:=(.pair (.sl u5x) t1k)
abbrev u6q:Ty:=(.pair (.sl u9x) u8o)
abbrev u5w:Ty:=(.pair (.int .i64) u6q)
abbrev u5b:Ty:=(.pair (.int .i64) u5w)
abbrev u4g:Ty:=(.pair (.int .i64) u5b)
abbrev u0b:Ty:=(.pair (.int .i64) u4g)
abbrev t1l:Ty:=(.pair (.int .i64) (.int .i64))
abbrev u14:Ty:=(.pair (.sl u0b) t1l)
abbrev u9d:Ty:=(.pair (.sl u0b) u14)
abbrev u8c:Ty:=(.pair (.sl u0a) u9d)
abbrev u8d:Ty:=(.pair u8c (.sl u0b))
abbrev u8y:Ty:=(.pair (.sl .str) (.sl u83))
abbrev u8b:Ty:=(.pair u8d u8y)
abbrev t0n:Ty:=(.pair (.sl (.int .i64)) (.sl .str))
abbrev u9b:Ty:=(.pair (.sl u0b) t0n)
abbrev u9c:Ty:=(.pair u8b u9b)
abbrev Z43:=((List ByteArray)×(List u83.den))
abbrev Z42:=((List ByteArray)×(List ByteArray))
abbrev Z41:=((Int×ByteArray)×(Int×ByteArray))
abbrev Z40:=((List u5x.den)×(List u5x.den))
abbrev Z39:=((List u83.den)×((List u83.den)×Int))
abbrev Z38:=((List u9x.den)×((List u9x.den)×Int))
abbrev Z37:=((List u0a.den)×(List u0a.den))
abbrev Z36:=((List u0b.den)×Int)
abbrev Z35:=(Z43×Int)
abbrev Z34:=(Int×Z43)
abbrev Z33:=((List ByteArray)×((List ByteArray)×Int))
abbrev Z32:=(Z43×Bool)
abbrev Z31:=((List u5x.den)×((List u5x.den)×Int))
abbrev Z30:=((List u0a.den)×((List u0a.den)×Int))
abbrev Z29:=((ByteArray×ByteArray)×(ByteArray×ByteArray))
abbrev Z28:=((List u0b.den)×(Int×Int))
abbrev Z27:=((List u0a.den)×(Unit×(Unit×(Int×Int))))
abbrev Z26:=(Z27×Int)
abbrev Z25:=(Int×Z27)
abbrev Z24:=(Z27×Unit)
abbrev Z23:=((ByteArray×(ByteArray×Bool))×(ByteArray×(ByteArray×Bool)))
abbrev Z22:=(Z24×Int)
abbrev Z21:=(Int×Z24)
abbrev Z20:=((List u0b.den)×(List u0b.den))
abbrev Z19:=(Z43×Z43)
abbrev Z18:=((List u0b.den)×Z36)
abbrev Z17:=((ByteArray×(ByteArray×(Bool×Int)))×(ByteArray×(ByteArray×(Bool×Int))))
abbrev Z16:=(Int×(Z43×Z35))
abbrev Z15:=(Z24×Z43)
abbrev Z14:=(Int×Z15)
abbrev Z13:=(Z15×Int)
abbrev Z12:=(((List u0a.den)×((List u0b.den)×Z28))×Int)
abbrev Z11:=(Z15×(Unit×((List Int)×(List ByteArray))))
abbrev Z10:=(Z11×Int)
abbrev Z9:=(Int×Z11)
abbrev Z8:=((((List u0a.den)×((List u0b.den)×Z28))×(List u0b.den))×Int)
abbrev Z7:=((Int×(Int×(Int×(Int×((List u9x.den)×((List u5x.den)×(Bool×ByteArray)))))))×(Int×(Int×(Int×(Int×((List u9x.den)×((List u5x.den)×(Bool×ByteArray))))))))
abbrev Z6:=(((((List u0a.den)×((List u0b.den)×Z28))×(List u0b.den))×Z43)×Int)
abbrev Z5:=(((List u0a.den)×((List u0b.den)×Z28))×((List u0a.den)×((List u0b.den)×Z28)))
abbrev Z4:=((((((List u0a.den)×((List u0b.den)×Z28))×(List u0b.den))×Z43)×((List u0b.den)×((List Int)×(List ByteArray))))×Int)
abbrev Z3:=((((List u0a.den)×((List u0b.den)×Z28))×(List u0b.den))×(((List u0a.den)×((List u0b.den)×Z28))×(List u0b.den)))
abbrev Z2:=(((((List u0a.den)×((List u0b.den)×Z28))×(List u0b.den))×Z43)×((((List u0a.den)×((List u0b.den)×Z28))×(List u0b.den))×Z43))
abbrev Z1:=((((((List u0a.den)×((List u0b.den)×Z28))×(List u0b.den))×Z43)×((List u0b.den)×((List Int)×(List ByteArray))))×(((((List u0a.den)×((List u0b.den)×Z28))×(List u0b.den))×Z43)×((List u0b.den)×((List Int)×(List ByteArray)))))
def t1c:Tabs where
 ty:= [(3,(.int .i64)),(4, .bool),(5,(.int .u8)),(9, .str),(24,(.sl (.int .i64))),(27,(.sl u0b)),(34,(.sl u0a)),(36,u8c),(38,u8d),(39,(.sl .str)),(40,(.sl u83)),(42,u8y),(44,u8b),(46,u9c),(58,(.sl u9x)),(59,(.sl u5x)),(61,u0b),(81,u9x),(83,u5x),(84,(.sl (.int .u8))),(114,u83),(131,u0a)]
 lay:= [(3,1,false),(4,1,false),(5,1,false),(9,1,false),(24,1,false),(27,1,false),(34,1,false),(36,5,true),(38,6,true),(39,1,false),(40,1,false),(42,2,true),(44,8,true),(46,11,true),(58,1,false),(59,1,false),(61,8,true),(81,2,true),(83,3,true),(114,2,true),(131,4,true)]
 fld:= [(36, [(0,1,false),(1,1,false),(2,1,false),(3,1,false),(4,1,false)]),(38, [(0,5,true),(5,1,false)]),(42, [(0,1,false),(1,1,false)]),(44, [(0,6,true),(6,2,true)]),(46, [(0,8,true),(8,1,false),(9,1,false),(10,1,false)]),(61, [(0,1,false),(1,1,false),(2,1,false),(3,1,false),(4,1,false),(5,1,false),(6,1,false),(7,1,false)]),(81, [(0,1,false),(1,1,false)]),(83, [(0,1,false),(1,1,false),(2,1,false)]),(114, [(0,1,false),(1,1,false)]),(131, [(0,1,false),(1,1,false),(2,1,false),(3,1,false)])]
 eqs:= []
abbrev zL (a:List Nat) (s:Sh) (n:Nat) (b:List Nat) (t:Sh) (c:List Nat) (u:Sh):LoopA:=⟨⟨a,s, []⟩,n,⟨b,t, []⟩,⟨c,u, []⟩⟩
def zS (i o:Sh) (n:Nat:=1) (b:List Bool:= []):Sig:=⟨i,b,o,n⟩
abbrev t1d:Ty:=.int .i64
abbrev t1e:Ty:=.int .u8
abbrev u0h:Sh:=.int .i64
abbrev u9m:Sh:=.tr false u0b
abbrev u8m:Sh:=.pair u0h u0h
abbrev u9w:Sh:=.tr false .str
abbrev u91:Sh:=.tr false u83
abbrev t0d:Sh:=.tr false u0a
abbrev t0x:Sh:=.pair t0d (.pair u9m (.pair u9m u8m))
abbrev t02:Sh:=.pair (.pair t0x u9m) (.pair u9w u91)
abbrev t0e:Sh:=.tr false u5x
abbrev t0f:Sh:=.tr false t1d
abbrev t08:Sh:=.agg (.pair t02 (.pair u9m (.pair t0f u9w)))
abbrev t0g:Sh:=.tr false u9x
abbrev t1f:Sh:=.agg (.pair u0h (.pair u0h (.pair u0h (.pair u0h (.pair t0g (.pair t0e (.pair .bool .str)))))))
abbrev t0y:Sh:=.own true u0a
abbrev t0c:Sh:=.pair t0y (.pair .nil (.pair .nil u8m))
abbrev t05:Sh:=.agg (.pair t0c .nil)
abbrev t1h:Sh:=.agg (.pair .str (.pair .str (.pair .bool u0h)))
abbrev t09:Sh:=.agg (.pair t0x u9m)
abbrev t1a:Sh:=.agg (.pair u9w u91)
abbrev t0z:Sh:=.own true t1d
abbrev t0l:Sh:=.own true .str
abbrev t00:Sh:=.own true u83
abbrev u9v:Sh:=.pair t0l t00
abbrev t03:Sh:=.agg (.pair (.pair (.pair t0c .nil) u9v) (.pair .nil (.pair t0z t0l)))
abbrev t04:Sh:=.agg (.pair (.pair t0c .nil) u9v)
abbrev t1g:Sh:=.pair u0h (.pair (.box u9v) (.pair (.box u9v) u0h))
abbrev t0m:Sh:=.agg u9v
abbrev t1i:Sh:=.agg (.pair .str (.pair .str .bool))
def u99:Nat→Sig
 | 69=>zS .unit (.agg t0c)
 | 49=>zS .unit t05
 | 80=>zS (.pair u0h u8m) .bool
 | 88=>zS (.pair u0h (.int .u8)) .str
 | 81=>zS .unit .str
 | 70=>zS u0h (.pair t0m .bool) 2
 | 71=>zS .unit u0h
 | 50=>zS .unit t0m
 | 28=>zS .unit t04
 | 14=>zS .unit t03
 | 72=>zS .unit (.agg t0c)
 | 51=>zS .unit t05
 | 82=>zS (.pair u0h u8m) .bool
 | 83=>zS (.pair .str u0h) .str
 | 73=>zS u0h (.pair t0m .bool) 2
 | 52=>zS .unit t0m
 | 29=>zS .unit t04
 | 15=>zS .unit t03
 | 9=>zS (.pair t0f t0f) .bool
 | 67=>zS (.pair (.agg (.pair .str .str)) (.agg (.pair .str .str))) .bool
 | 47=>zS (.pair t0g t0g) .bool
 | 68=>zS (.pair t1i t1i) .bool
 | 48=>zS (.pair t0e t0e) .bool
 | 24=>zS (.pair t1f t1f) .bool
 | 10=>zS (.pair u9m u9m) .bool
 | 95=>zS (.pair t1h t1h) .bool
 | 84=>zS (.pair t0d t0d) .bool
 | 74=>zS (.pair (.agg t0x) (.agg t0x)) .bool
 | 53=>zS (.pair t09 t09) .bool
 | 31=>zS (.pair u9w u9w) .bool
 | 85=>zS (.pair (.agg (.pair u0h .str)) (.agg (.pair u0h .str))) .bool
 | 75=>zS (.pair u91 u91) .bool
 | 54=>zS (.pair t1a t1a) .bool
 | 30=>zS (.pair (.agg t02) (.agg t02)) .bool
 | 16=>zS (.pair t08 t08) .bool
 | 11=>zS (.pair .nil u0h) u0h
 | 12=>zS (.pair t0z u0h) (.pair u0h t0z) 1 [true,false]
 | 27=>zS u0h .str
 | 86=>zS (.pair t0y u0h) (.pair u0h t0y) 1 [true,false]
 | 76=>zS (.pair (.agg t0c) u0h) (.pair u0h (.agg t0c)) 1 [true,false]
 | 55=>zS (.pair t05 u0h) (.pair u0h t05) 1 [true,false]
 | 33=>zS (.pair t0l u0h) (.pair u0h t0l) 1 [true,false]
 | 77=>zS (.pair t00 u0h) (.pair u0h t00) 1 [true,false]
 | 56=>zS (.pair t0m u0h) (.pair u0h t0m) 1 [true,false]
 | 32=>zS (.pair t04 u0h) (.pair u0h t04) 1 [true,false]
 | 17=>zS (.pair t03 u0h) (.pair u0h t03) 1 [true,false]
 | 13=>zS (.pair t0f u0h) u0h
 | 59=>zS (.pair t0g u0h) u0h
 | 60=>zS (.pair t0e u0h) u0h
 | 35=>zS (.pair u9m u0h) u0h
 | 87=>zS (.pair t0d u0h) u0h
 | 78=>zS (.pair (.agg t0x) u0h) u0h
 | 57=>zS (.pair t09 u0h) u0h
 | 36=>zS (.pair u9w u0h) u0h
 | 79=>zS (.pair u91 u0h) u0h
 | 58=>zS (.pair t1a u0h) u0h
 | 34=>zS (.pair (.agg t02) u0h) u0h
 | 18=>zS (.pair t08 u0h) u0h
 | 4=>zS .unit .bool
 | _=>zS .unit .unit 0
def t0s:Nat→Nat→Option Join
 | 80,3=>some ⟨[6],.bool,[]⟩
 | 82,3=>some ⟨[6],.bool,[]⟩
 | _,_=>none
abbrev u4a:=zL [0,1,5,6] (.pair u0h (.pair (.int .u8) (.pair (.own true t1e) u0h))) 0 [5] (.tr true t1e) [] .unit
abbrev u39:=zL [0,2,4,5] t1g 0 [2,4] (.pair (.box u9v) (.box u9v)) [] .unit
abbrev u38:=zL [0,2,4,5] t1g 0 [2,4] (.pair (.box u9v) (.box u9v)) [] .unit
abbrev u43:=zL [0,1,5] (.pair t0f (.pair t0f u0h)) 0 [] .unit [4] .bool
abbrev u3f:=zL [0,1,5] (.pair t0g (.pair t0g u0h)) 0 [] .unit [4] .bool
abbrev u3g:=zL [0,1,5] (.pair t0e (.pair t0e u0h)) 0 [] .unit [4] .bool
abbrev u45:=zL [0,1,5] (.pair u9m (.pair u9m u0h)) 0 [] .unit [4] .bool
abbrev u2i:=zL [0,1,5] (.pair t0d (.pair t0d u0h)) 0 [] .unit [4] .bool
abbrev u21:=zL [0,1,5] (.pair u9w (.pair u9w u0h)) 0 [] .unit [4] .bool
abbrev u44:=zL [0,1,5] (.pair u91 (.pair u91 u0h)) 0 [] .unit [4] .bool
abbrev u3n:=zL [0,1,5] (.pair .nil u8m) 0 [1] u0h [] .unit
abbrev u3k:=zL [0,1,5] (.pair t0z u8m) 0 [0,1] (.pair t0z u0h) [] .unit
abbrev u3m:=zL [0,3] (.pair u0h .str) 0 [3] .str [] .unit
abbrev u10:=zL [0,1,5] (.pair t0y u8m) 0 [0,1] (.pair t0y u0h) [] .unit
abbrev u2b:=zL [0,1,5] (.pair t0l u8m) 0 [0,1] (.pair t0l u0h) [] .unit
abbrev u3l:=zL [0,1,5] (.pair t00 u8m) 0 [0,1] (.pair t00 u0h) [] .unit
abbrev u3h:=zL [0,1,5] (.pair t0f u8m) 0 [1] u0h [4] u0h
abbrev u2j:=zL [0,1,5] (.pair t0g u8m) 0 [1] u0h [4] u0h
abbrev u2k:=zL [0,1,5] (.pair t0e u8m) 0 [1] u0h [4] u0h
abbrev u3j:=zL [0,1,5] (.pair u9m u8m) 0 [1] u0h [4] u0h
abbrev u1z:=zL [0,1,5] (.pair t0d u8m) 0 [1] u0h [4] u0h
abbrev u2a:=zL [0,1,5] (.pair u9w u8m) 0 [1] u0h [4] u0h
abbrev u3i:=zL [0,1,5] (.pair u91 u8m) 0 [1] u0h [4] u0h
def t0t:Nat→Nat→Option LoopA
 | 88,3=>some u4a
 | 70,5=>some u39
 | 73,5=>some u38
 | 9,4=>some u43
 | 47,4=>some u3f
 | 48,4=>some u3g
 | 10,4=>some u45
 | 84,4=>some u2i
 | 31,4=>some u21
 | 75,4=>some u44
 | 11,2=>some u3n
 | 12,2=>some u3k
 | 27,4=>some u3m
 | 86,2=>some u10
 | 33,2=>some u2b
 | 77,2=>some u3l
 | 13,2=>some u3h
 | 59,2=>some u2j
 | 60,2=>some u2k
 | 35,2=>some u3j
 | 87,2=>some u1z
 | 36,2=>some u2a
 | 79,2=>some u3i
 | _,_=>none
def t1n:Nat→Nat:=fun f=>f
def t0u:Nat→List Nat→Nat:=fun f _=>f
def u9k:(f:Nat)→Option ((u99 f).ins.den→Option (u99 f).out.den)
 | 83=>some (y8u)
 | _=>none
def u9z:Plan:= {sig:=u99,join:=t0s,loop:=t0t,fn:=t1n,pick:=t0u,prim:=u9k,gd:=y7y}
def A:Ann:=ann t1c u9z
set_option maxRecDepth 100000
abbrev u58:Type:=(Int×Int)
abbrev u9l:Type:=(List u83.den)
abbrev t0a:Type:=(List u0a.den)
abbrev u81:Type:=(Unit⊕Bool)
abbrev u8x:Type:=(List Int)
abbrev t0b:Type:=(List ByteArray)
abbrev u82:Type:=(Int⊕Int)
abbrev u9n:Type:=(u8x×Int)
abbrev u90:Type:=(List u9x.den)
abbrev t0i:Type:=(t0a×Int)
abbrev t0j:Type:=(t0b×Int)
abbrev t0k:Type:=(u9l×Int)
abbrev t01:Type:=(List u5x.den)
abbrev zLv:=y5t Try.prog A
abbrev zK (f:Nat) (x:(A.sig f).ins.den):=zLv.call f x
theorem zC (f:Nat) {fn:Func} {X:(A.sig f).ins.den→Option (A.sig f).out.den} (hp:A.prim f=none) (hf:Try.prog.funcs[A.fn f]? =some fn) (hb:z7n A zLv lpW f fn=X):zK f=X:=funext (y7m hp hf (congrFun hb))
theorem zW (l:LoopA) (f:Nat) (fn:Func) (r n:Nat) {S:(l.head.sh.den→Option (l.out.sh.den⊕l.ret.sh.den))→l.head.sh.den→Option (l.out.sh.den⊕l.ret.sh.den)} (x:l.head.sh.den) (h:S=y5y A zLv lpW f (y7t fn r) l n):lpW _ _ S x=S (lpW _ _ S) x:=y7u h x
def u5o(x:Unit):Option Z27:=zK 69 x
def u5i (x:Unit):Option Z27:=(some (([] :List u0a.den),((),((),(0,1)))))
theorem u7t:u5o=u5i:=zC 69 rfl Try.func69 (by kernel_rfl)
def u4c(x:Unit):Option Z24:=zK 49 x
def u37 (x:Unit):Option Z24:=((u5o ()).bind fun y1=>(some ((y1.1,((),((),y1.2.2.2))),())))
theorem u6y:u4c=u37:=zC 49 rfl Try.func49 (by kernel_rfl)
def u48(x:(Int×u58)):Option Bool:=zK 80 x
def u8e (x:(Int×u58)):Option Bool:=(((bif (decide (x.1≥x.2.1)) then(some (decide (x.1≤x.2.2))) else(some false)):Option Bool).bind fun j1=>(some j1))
theorem u8h:u48=u8e:=zC 80 rfl Try.func80 (by kernel_rfl)
def u5q(x:u58):Option ByteArray:=zK 88 x
def u13(g:(Int×(Int×u9n))→Option (u8x⊕Unit))(x:(Int×(Int×u9n))):Option (u8x⊕Unit):=(bif (decide (x.2.2.2<x.1)) then(bif (y4k x.2.2.2 x.2.2.1.length) then(g (x.1,(x.2.1,((x.2.2.1.set (x.2.2.2).toNat x.2.1),(IntKind.i64.wrap (x.2.2.2+1)))))) else none) else(some (.inl x.2.2.1)))
def u0w:=lpW _ _ u13
theorem u4f x:u0w x=u13 u0w x:=zW u4a 88 Try.f88 3 20 x (by kernel_rfl)
def u5k (x:u58):Option ByteArray:=(bif (decide (0≤x.1)&&decide (x.1≤1099511627776)) then((u0w (x.1,(x.2,((List.replicate (x.1).toNat ((Ty.int .u8)).zero),0)))).bind fun r1=>match r1 with | .inl o2=>(some (y7c o2)) | .inr z3=>none) else none)
theorem u7v:u5q=u5k:=zC 88 rfl Try.func88 (by kernel_rfl)
def u25(x:Unit):Option ByteArray:=zK 81 x
def u5l (x:Unit):Option ByteArray:=((u5q (64,0)).bind fun y1=>(some y1))
theorem u7w:u25=u5l:=zC 81 rfl Try.func81 (by kernel_rfl)
def u5p(x:Int):Option Z32:=zK 70 x
def u12(g:Z16→Option (Z19⊕Unit))(x:Z16):Option (Z19⊕Unit):=(bif (decide (x.2.2.2<x.1)) then((u25 ()).bind fun y2=>(bif (Nat.ble (x.2.2.1.1.length+([y2] :List ByteArray).length) z8v) then(g (x.1,(x.2.1,(((x.2.2.1.1++([y2] :List ByteArray)),x.2.2.1.2),(IntKind.i64.wrap (x.2.2.2+1)))))) else none)) else(some (.inl (x.2.1,x.2.2.1))))
def u0v:=lpW _ _ u12
theorem u4e x:u0v x=u12 u0v x:=zW u39 70 Try.f70 5 23 x (by kernel_rfl)
def u5j (x:Int):Option Z32:=((u48 (x,(1,100))).bind fun y1=>(bif (!y1) then(some ((([] :List ByteArray),([] :List u83.den)),false)) else((u0v (x,((([] :List ByteArray),([] :List u83.den)),((([] :List ByteArray),([] :List u83.den)),0)))).bind fun r3=>match r3 with | .inl o4=>(some (o4.2,true)) | .inr z5=>none)))
theorem u7u:u5p=u5j:=zC 70 rfl Try.func70 (by kernel_rfl)
def u1u(x:Unit):Option Int:=zK 71 x
def u6c (x:Unit):Option Int:=(some (97:Int))
theorem u6g:u1u=u6c:=zC 71 rfl Try.func71 (by kernel_rfl)
def u3z(x:Unit):Option Z43:=zK 50 x
def u54 (x:Unit):Option Z43:=((u1u ()).bind fun y1=>((u5p y1).bind fun y2=>(some y2.1)))
theorem u78:u3z=u54:=zC 50 rfl Try.func50 (by kernel_rfl)
def u47(x:Unit):Option Z15:=zK 28 x
def u41 (x:Unit):Option Z15:=((u4c ()).bind fun y1=>((u3z ()).bind fun y2=>(some (((y1.1.1,((),((),y1.1.2.2.2))),()),y2))))
theorem u7h:u47=u41:=zC 28 rfl Try.func28 (by kernel_rfl)
def u2x(x:Unit):Option Z11:=zK 14 x
def u42 (x:Unit):Option Z11:=((u47 ()).bind fun y1=>(some ((((y1.1.1.1,((),((),y1.1.1.2.2.2))),()),y1.2),((),(([] :List Int),([] :List ByteArray))))))
theorem u7i:u2x=u42:=zC 14 rfl Try.func14 (by kernel_rfl)
def u5m(x:Unit):Option Z27:=zK 72 x
def u5c (x:Unit):Option Z27:=(some (([] :List u0a.den),((),((),(0,1)))))
theorem u7n:u5m=u5c:=zC 72 rfl Try.func72 (by kernel_rfl)
def u4b(x:Unit):Option Z24:=zK 51 x
def u30 (x:Unit):Option Z24:=((u5m ()).bind fun y1=>(some ((y1.1,((),((),y1.2.2.2))),())))
theorem u6r:u4b=u30:=zC 51 rfl Try.func51 (by kernel_rfl)
def u3u(x:(Int×u58)):Option Bool:=zK 82 x
def u70 (x:(Int×u58)):Option Bool:=(((bif (decide (x.1≥x.2.1)) then(some (decide (x.1≤x.2.2))) else(some false)):Option Bool).bind fun j1=>(some j1))
theorem u72:u3u=u70:=zC 82 rfl Try.func82 (by kernel_rfl)
def u19(x:(ByteArray×Int)):Option ByteArray:=zK 83 x
theorem u6z:∀(x:(ByteArray×Int)),u19 x=y8u x:=y6a (P:=Try.prog) (A:=A) (f:=83) (F:=y8u) rfl
def u5n(x:Int):Option Z32:=zK 73 x
def u11(g:Z16→Option (Z19⊕Unit))(x:Z16):Option (Z19⊕Unit):=(bif (decide (x.2.2.2<x.1)) then((u19 ((⟨#[0]⟩:ByteArray),64)).bind fun y2=>(bif (Nat.ble (x.2.2.1.1.length+([y2] :List ByteArray).length) z8v) then(g (x.1,(x.2.1,(((x.2.2.1.1++([y2] :List ByteArray)),x.2.2.1.2),(IntKind.i64.wrap (x.2.2.2+1)))))) else none)) else(some (.inl (x.2.1,x.2.2.1))))
def u0u:=lpW _ _ u11
theorem u4d x:u0u x=u11 u0u x:=zW u38 73 Try.f73 5 22 x (by kernel_rfl)
def u5d (x:Int):Option Z32:=((u3u (x,(1,100))).bind fun y1=>(bif (!y1) then(some ((([] :List ByteArray),([] :List u83.den)),false)) else((u0u (x,((([] :List ByteArray),([] :List u83.den)),((([] :List ByteArray),([] :List u83.den)),0)))).bind fun r3=>match r3 with | .inl o4=>(some (o4.2,true)) | .inr z5=>none)))
theorem u7o:u5n=u5d:=zC 73 rfl Try.func73 (by kernel_rfl)
def u3t(x:Unit):Option Z43:=zK 52 x
def u5y (x:Unit):Option Z43:=((u5n (97:Int)).bind fun y1=>(some y1.1))
theorem u71:u3t=u5y:=zC 52 rfl Try.func52 (by kernel_rfl)
def u46(x:Unit):Option Z15:=zK 29 x
def u4l (x:Unit):Option Z15:=((u4b ()).bind fun y1=>((u3t ()).bind fun y2=>(some (((y1.1.1,((),((),y1.1.2.2.2))),()),y2))))
theorem u60:u46=u4l:=zC 29 rfl Try.func29 (by kernel_rfl)
def u1i(x:Unit):Option Z11:=zK 15 x
def u4m (x:Unit):Option Z11:=((u46 ()).bind fun y1=>(some ((((y1.1.1.1,((),((),y1.1.1.2.2.2))),()),y1.2),((),(([] :List Int),([] :List ByteArray))))))
theorem u61:u1i=u4m:=zC 15 rfl Try.func15 (by kernel_rfl)
def u3x(x:(u8x×u8x)):Option Bool:=zK 9 x
def u4i(g:(u8x×u9n)→Option u81)(x:(u8x×u9n)):Option u81:=(bif (decide (x.2.2<(x.1.length:Int))) then(bif (y4k x.2.2 x.1.length) then(bif (y4k x.2.2 x.2.1.length) then(bif (!decide ((rdL (Ty.int .i64) x.1 (x.2.2).toNat)=(rdL (Ty.int .i64) x.2.1 (x.2.2).toNat))) then(some (.inr false)) else(g (x.1,(x.2.1,(IntKind.i64.wrap (x.2.2+1)))))) else none) else none) else(some (.inl ())))
def u0z:=lpW _ _ u4i
theorem u7k x:u0z x=u4i u0z x:=zW u43 9 Try.f9 4 26 x (by kernel_rfl)
def u51 (x:(u8x×u8x)):Option Bool:=(bif (!decide ((x.1.length:Int)=(x.2.length:Int))) then(some false) else((u0z (x.1,(x.2,0))).bind fun r1=>match r1 with | .inl o2=>(some true) | .inr z3=>(some z3)))
theorem u75:u3x=u51:=zC 9 rfl Try.func9 (by kernel_rfl)
def u1v(x:Z29):Option Bool:=zK 67 x
def u5e (x:Z29):Option Bool:=(bif (!z7j x.1.1 x.2.1) then(some false) else(bif (!z7j x.1.2 x.2.2) then(some false) else(some true)))
theorem u7p:u1v=u5e:=zC 67 rfl Try.func67 (by kernel_rfl)
def u2n(x:(u90×u90)):Option Bool:=zK 47 x
def u26(g:Z38→Option u81)(x:Z38):Option u81:=(bif (decide (x.2.2<(x.1.length:Int))) then(bif (y4k x.2.2 x.1.length) then(bif (y4k x.2.2 x.2.1.length) then((u1v ((rdL u9x x.1 (x.2.2).toNat),(rdL u9x x.2.1 (x.2.2).toNat))).bind fun y1=>(bif (!y1) then(some (.inr false)) else(g (x.1,(x.2.1,(IntKind.i64.wrap (x.2.2+1))))))) else none) else none) else(some (.inl ())))
def u0n:=lpW _ _ u26
theorem u6h x:u0n x=u26 u0n x:=zW u3f 47 Try.f47 4 27 x (by kernel_rfl)
def u4o (x:(u90×u90)):Option Bool:=(bif (!decide ((x.1.length:Int)=(x.2.length:Int))) then(some false) else((u0n (x.1,(x.2,0))).bind fun r2=>match r2 with | .inl o3=>(some true) | .inr z4=>(some z4)))
theorem u63:u2n=u4o:=zC 47 rfl Try.func47 (by kernel_rfl)
def u1w(x:Z23):Option Bool:=zK 68 x
def u5h (x:Z23):Option Bool:=(bif (!z7j x.1.1 x.2.1) then(some false) else(bif (!z7j x.1.2.1 x.2.2.1) then(some false) else(bif (!(x.1.2.2==x.2.2.2)) then(some false) else(some true))))
theorem u7s:u1w=u5h:=zC 68 rfl Try.func68 (by kernel_rfl)
def u2o(x:Z40):Option Bool:=zK 48 x
def u27(g:Z31→Option u81)(x:Z31):Option u81:=(bif (decide (x.2.2<(x.1.length:Int))) then(bif (y4k x.2.2 x.1.length) then(bif (y4k x.2.2 x.2.1.length) then((u1w ((rdL u5x x.1 (x.2.2).toNat),(rdL u5x x.2.1 (x.2.2).toNat))).bind fun y1=>(bif (!y1) then(some (.inr false)) else(g (x.1,(x.2.1,(IntKind.i64.wrap (x.2.2+1))))))) else none) else none) else(some (.inl ())))
def u0o:=lpW _ _ u27
theorem u6i x:u0o x=u27 u0o x:=zW u3g 48 Try.f48 4 27 x (by kernel_rfl)
def u4p (x:Z40):Option Bool:=(bif (!decide ((x.1.length:Int)=(x.2.length:Int))) then(some false) else((u0o (x.1,(x.2,0))).bind fun r2=>match r2 with | .inl o3=>(some true) | .inr z4=>(some z4)))
theorem u65:u2o=u4p:=zC 48 rfl Try.func48 (by kernel_rfl)
def u23(x:Z7):Option Bool:=zK 24 x
def u6p (x:Z7):Option Bool:=(bif (!decide (x.1.1=x.2.1)) then(some false) else(bif (!decide (x.1.2.1=x.2.2.1)) then(some false) else(bif (!decide (x.1.2.2.1=x.2.2.2.1)) then(some false) else(bif (!decide (x.1.2.2.2.1=x.2.2.2.2.1)) then(some false) else((u2n (x.1.2.2.2.2.1,x.2.2.2.2.2.1)).bind fun y1=>(bif (!y1) then(some false) else((u2o (x.1.2.2.2.2.2.1,x.2.2.2.2.2.2.1)).bind fun y2=>(bif (!y2) then(some false) else(bif (!(x.1.2.2.2.2.2.2.1==x.2.2.2.2.2.2.2.1)) then(some false) else(bif (!z7j x.1.2.2.2.2.2.2.2 x.2.2.2.2.2.2.2.2) then(some false) else(some true)))))))))))
theorem u8g:u23=u6p:=zC 24 rfl Try.func24 (by kernel_rfl)
def u07(x:Z20):Option Bool:=zK 10 x
def u4k(g:Z18→Option u81)(x:Z18):Option u81:=(bif (decide (x.2.2<(x.1.length:Int))) then(bif (y4k x.2.2 x.1.length) then(bif (y4k x.2.2 x.2.1.length) then((u23 ((rdL u0b x.1 (x.2.2).toNat),(rdL u0b x.2.1 (x.2.2).toNat))).bind fun y1=>(bif (!y1) then(some (.inr false)) else(g (x.1,(x.2.1,(IntKind.i64.wrap (x.2.2+1))))))) else none) else none) else(some (.inl ())))
def u01:=lpW _ _ u4k
theorem u7m x:u01 x=u4k u01 x:=zW u45 10 Try.f10 4 27 x (by kernel_rfl)
def u53 (x:Z20):Option Bool:=(bif (!decide ((x.1.length:Int)=(x.2.length:Int))) then(some false) else((u01 (x.1,(x.2,0))).bind fun r2=>match r2 with | .inl o3=>(some true) | .inr z4=>(some z4)))
theorem u77:u07=u53:=zC 10 rfl Try.func10 (by kernel_rfl)
def u1c(x:Z17):Option Bool:=zK 95 x
def u32 (x:Z17):Option Bool:=(bif (!z7j x.1.1 x.2.1) then(some false) else(bif (!z7j x.1.2.1 x.2.2.1) then(some false) else(bif (!(x.1.2.2.1==x.2.2.2.1)) then(some false) else(bif (!decide (x.1.2.2.2=x.2.2.2.2)) then(some false) else(some true)))))
theorem u6t:u1c=u32:=zC 95 rfl Try.func95 (by kernel_rfl)
def u1r(x:Z37):Option Bool:=zK 84 x
def u2d(g:Z30→Option u81)(x:Z30):Option u81:=(bif (decide (x.2.2<(x.1.length:Int))) then(bif (y4k x.2.2 x.1.length) then(bif (y4k x.2.2 x.2.1.length) then((u1c ((rdL u0a x.1 (x.2.2).toNat),(rdL u0a x.2.1 (x.2.2).toNat))).bind fun y1=>(bif (!y1) then(some (.inr false)) else(g (x.1,(x.2.1,(IntKind.i64.wrap (x.2.2+1))))))) else none) else none) else(some (.inl ())))
def u0f:=lpW _ _ u2d
theorem u5v x:u0f x=u2d u0f x:=zW u2i 84 Try.f84 4 27 x (by kernel_rfl)
def u3c (x:Z37):Option Bool:=(bif (!decide ((x.1.length:Int)=(x.2.length:Int))) then(some false) else((u0f (x.1,(x.2,0))).bind fun r2=>match r2 with | .inl o3=>(some true) | .inr z4=>(some z4)))
theorem u6d:u1r=u3c:=zC 84 rfl Try.func84 (by kernel_rfl)
def u3v(x:Z5):Option Bool:=zK 74 x
def u5z (x:Z5):Option Bool:=((u1r (x.1.1,x.2.1)).bind fun y1=>(bif (!y1) then(some false) else((u07 (x.1.2.1,x.2.2.1)).bind fun y2=>(bif (!y2) then(some false) else((u07 (x.1.2.2.1,x.2.2.2.1)).bind fun y3=>(bif (!y3) then(some false) else(bif (!decide (x.1.2.2.2.1=x.2.2.2.2.1)) then(some false) else(bif (!decide (x.1.2.2.2.2=x.2.2.2.2.2)) then(some false) else(some true)))))))))
theorem u73:u3v=u5z:=zC 74 rfl Try.func74 (by kernel_rfl)
def u2m(x:Z3):Option Bool:=zK 53 x
def u4n (x:Z3):Option Bool:=((u3v (x.1.1,x.2.1)).bind fun y1=>(bif (!y1) then(some false) else((u07 (x.1.2,x.2.2)).bind fun y2=>(bif (!y2) then(some false) else(some true)))))
theorem u62:u2m=u4n:=zC 53 rfl Try.func53 (by kernel_rfl)
def u1b(x:Z42):Option Bool:=zK 31 x
def u2y(g:Z33→Option u81)(x:Z33):Option u81:=(bif (decide (x.2.2<(x.1.length:Int))) then(bif (y4k x.2.2 x.1.length) then(bif (y4k x.2.2 x.2.1.length) then(bif (!z7j (rdL Ty.str x.1 (x.2.2).toNat) (rdL Ty.str x.2.1 (x.2.2).toNat)) then(some (.inr false)) else(g (x.1,(x.2.1,(IntKind.i64.wrap (x.2.2+1)))))) else none) else none) else(some (.inl ())))
def u0i:=lpW _ _ u2y
theorem u57 x:u0i x=u2y u0i x:=zW u21 31 Try.f31 4 26 x (by kernel_rfl)
def u31 (x:Z42):Option Bool:=(bif (!decide ((x.1.length:Int)=(x.2.length:Int))) then(some false) else((u0i (x.1,(x.2,0))).bind fun r1=>match r1 with | .inl o2=>(some true) | .inr z3=>(some z3)))
theorem u6s:u1b=u31:=zC 31 rfl Try.func31 (by kernel_rfl)
def u22(x:Z41):Option Bool:=zK 85 x
def u6o (x:Z41):Option Bool:=(bif (!decide (x.1.1=x.2.1)) then(some false) else(bif (!z7j x.1.2 x.2.2) then(some false) else(some true)))
theorem u8f:u22=u6o:=zC 85 rfl Try.func85 (by kernel_rfl)
def u3y(x:(u9l×u9l)):Option Bool:=zK 75 x
def u4j(g:Z39→Option u81)(x:Z39):Option u81:=(bif (decide (x.2.2<(x.1.length:Int))) then(bif (y4k x.2.2 x.1.length) then(bif (y4k x.2.2 x.2.1.length) then((u22 ((rdL u83 x.1 (x.2.2).toNat),(rdL u83 x.2.1 (x.2.2).toNat))).bind fun y1=>(bif (!y1) then(some (.inr false)) else(g (x.1,(x.2.1,(IntKind.i64.wrap (x.2.2+1))))))) else none) else none) else(some (.inl ())))
def u00:=lpW _ _ u4j
theorem u7l x:u00 x=u4j u00 x:=zW u44 75 Try.f75 4 27 x (by kernel_rfl)
def u52 (x:(u9l×u9l)):Option Bool:=(bif (!decide ((x.1.length:Int)=(x.2.length:Int))) then(some false) else((u00 (x.1,(x.2,0))).bind fun r2=>match r2 with | .inl o3=>(some true) | .inr z4=>(some z4)))
theorem u76:u3y=u52:=zC 75 rfl Try.func75 (by kernel_rfl)
def u3w(x:Z19):Option Bool:=zK 54 x
def u50 (x:Z19):Option Bool:=((u1b (x.1.1,x.2.1)).bind fun y1=>(bif (!y1) then(some false) else((u3y (x.1.2,x.2.2)).bind fun y2=>(bif (!y2) then(some false) else(some true)))))
theorem u74:u3w=u50:=zC 54 rfl Try.func54 (by kernel_rfl)
def u24(x:Z2):Option Bool:=zK 30 x
def u5f (x:Z2):Option Bool:=((u2m (x.1.1,x.2.1)).bind fun y1=>(bif (!y1) then(some false) else((u3w (x.1.2,x.2.2)).bind fun y2=>(bif (!y2) then(some false) else(some true)))))
theorem u7q:u24=u5f:=zC 30 rfl Try.func30 (by kernel_rfl)
def u1a(x:Z1):Option Bool:=zK 16 x
def u5g (x:Z1):Option Bool:=((u24 (x.1.1,x.2.1)).bind fun y1=>(bif (!y1) then(some false) else((u07 (x.1.2.1,x.2.2.1)).bind fun y2=>(bif (!y2) then(some false) else((u3x (x.1.2.2.1,x.2.2.2.1)).bind fun y3=>(bif (!y3) then(some false) else((u1b (x.1.2.2.2,x.2.2.2.2)).bind fun y4=>(bif (!y4) then(some false) else(some true)))))))))
theorem u7r:u1a=u5g:=zC 16 rfl Try.func16 (by kernel_rfl)
def u0r(x:(Unit×Int)):Option Int:=zK 11 x
def u3b(g:(Unit×u58)→Option (Int⊕Unit))(x:(Unit×u58)):Option (Int⊕Unit):=(bif (decide (x.2.2<0)) then none else(some (.inl x.2.1)))
def u1p:=lpW _ _ u3b
theorem u6n x:u1p x=u3b u1p x:=zW u3n 11 Try.f11 2 72 x (by kernel_rfl)
def u40 (x:(Unit×Int)):Option Int:=((u1p ((),(x.2,0))).bind fun r1=>match r1 with | .inl o2=>(some o2) | .inr z3=>none)
theorem u7g:u0r=u40:=zC 11 rfl Try.func11 (by kernel_rfl)
def u2v(x:u9n):Option (Int×u8x):=zK 12 x
def u3a(g:(u8x×u58)→Option (u9n⊕Unit))(x:(u8x×u58)):Option (u9n⊕Unit):=(bif (decide (x.2.2<(x.1.length:Int))) then(bif (y4k x.2.2 x.1.length) then(g ((x.1.set (x.2.2).toNat x.2.1),((IntKind.i64.wrap (x.2.1+1)),(IntKind.i64.wrap (x.2.2+1))))) else none) else(some (.inl (x.1,x.2.1))))
def u1o:=lpW _ _ u3a
theorem u6l x:u1o x=u3a u1o x:=zW u3k 12 Try.f12 2 19 x (by kernel_rfl)
def u4x (x:u9n):Option (Int×u8x):=((u1o (x.1,(x.2,0))).bind fun r1=>match r1 with | .inl o2=>(some (o2.2,o2.1)) | .inr z3=>none)
theorem u7d:u2v=u4x:=zC 12 rfl Try.func12 (by kernel_rfl)
def u0c(x:Int):Option ByteArray:=zK 27 x
def u1l(g:(Int×ByteArray)→Option (ByteArray⊕Unit))(x:(Int×ByteArray)):Option (ByteArray⊕Unit):=(bif (decide (x.1 >0)) then(bif (decide ((y7c ([(IntKind.u8.wrap (IntKind.i64.wrap ((48:Int)+(Int.tmod x.1 (10:Int)))))] :List Int)).size+x.2.size≤140737488355328)) then(g ((IntKind.i64.wrap (Int.tdiv x.1 (10:Int))),((y7c ([(IntKind.u8.wrap (IntKind.i64.wrap ((48:Int)+(Int.tmod x.1 (10:Int)))))] :List Int))++x.2))) else none) else(some (.inl x.2)))
def u06:=lpW _ _ u1l
theorem u6m x:u06 x=u1l u06 x:=zW u3m 27 Try.f27 4 20 x (by kernel_rfl)
def u4z (x:Int):Option ByteArray:=(bif (decide (x≤0)) then(some (⟨#[109,48]⟩:ByteArray)) else((u06 (x,(⟨#[]⟩:ByteArray))).bind fun r1=>match r1 with | .inl o2=>(bif (decide ((⟨#[109]⟩:ByteArray).size+o2.size≤140737488355328)) then(some ((⟨#[109]⟩:ByteArray)++o2)) else none) | .inr z3=>none))
theorem u7f:u0c=u4z:=zC 27 rfl Try.func27 (by kernel_rfl)
def u0t(x:t0i):Option (Int×t0a):=zK 86 x
def u1y(g:(t0a×u58)→Option (t0i⊕Unit))(x:(t0a×u58)):Option (t0i⊕Unit):=(bif (decide (x.2.2<(x.1.length:Int))) then((u0c x.2.1).bind fun y1=>(bif (y4k x.2.2 x.1.length) then((u0c (IntKind.i64.wrap (x.2.1+1))).bind fun y2=>(bif (y4k x.2.2 (x.1.set (x.2.2).toNat (y1,(rdL u0a x.1 (x.2.2).toNat).2)).length) then(bif (y4k x.2.2 ((x.1.set (x.2.2).toNat (y1,(rdL u0a x.1 (x.2.2).toNat).2)).set (x.2.2).toNat ((rdL u0a (x.1.set (x.2.2).toNat (y1,(rdL u0a x.1 (x.2.2).toNat).2)) (x.2.2).toNat).1,(y2,(rdL u0a (x.1.set (x.2.2).toNat (y1,(rdL u0a x.1 (x.2.2).toNat).2)) (x.2.2).toNat).2.2))).length) then(bif (y4k x.2.2 (((x.1.set (x.2.2).toNat (y1,(rdL u0a x.1 (x.2.2).toNat).2)).set (x.2.2).toNat ((rdL u0a (x.1.set (x.2.2).toNat (y1,(rdL u0a x.1 (x.2.2).toNat).2)) (x.2.2).toNat).1,(y2,(rdL u0a (x.1.set (x.2.2).toNat (y1,(rdL u0a x.1 (x.2.2).toNat).2)) (x.2.2).toNat).2.2))).set (x.2.2).toNat ((rdL u0a ((x.1.set (x.2.2).toNat (y1,(rdL u0a x.1 (x.2.2).toNat).2)).set (x.2.2).toNat ((rdL u0a (x.1.set (x.2.2).toNat (y1,(rdL u0a x.1 (x.2.2).toNat).2)) (x.2.2).toNat).1,(y2,(rdL u0a (x.1.set (x.2.2).toNat (y1,(rdL u0a x.1 (x.2.2).toNat).2)) (x.2.2).toNat).2.2))) (x.2.2).toNat).1,((rdL u0a ((x.1.set (x.2.2).toNat (y1,(rdL u0a x.1 (x.2.2).toNat).2)).set (x.2.2).toNat ((rdL u0a (x.1.set (x.2.2).toNat (y1,(rdL u0a x.1 (x.2.2).toNat).2)) (x.2.2).toNat).1,(y2,(rdL u0a (x.1.set (x.2.2).toNat (y1,(rdL u0a x.1 (x.2.2).toNat).2)) (x.2.2).toNat).2.2))) (x.2.2).toNat).2.1,((decide ((Int.tmod (IntKind.i64.wrap ((IntKind.i64.wrap (x.2.1+1))+1)) (3:Int))=0)),(rdL u0a ((x.1.set (x.2.2).toNat (y1,(rdL u0a x.1 (x.2.2).toNat).2)).set (x.2.2).toNat ((rdL u0a (x.1.set (x.2.2).toNat (y1,(rdL u0a x.1 (x.2.2).toNat).2)) (x.2.2).toNat).1,(y2,(rdL u0a (x.1.set (x.2.2).toNat (y1,(rdL u0a x.1 (x.2.2).toNat).2)) (x.2.2).toNat).2.2))) (x.2.2).toNat).2.2.2)))).length) then(g (((((x.1.set (x.2.2).toNat (y1,(rdL u0a x.1 (x.2.2).toNat).2)).set (x.2.2).toNat ((rdL u0a (x.1.set (x.2.2).toNat (y1,(rdL u0a x.1 (x.2.2).toNat).2)) (x.2.2).toNat).1,(y2,(rdL u0a (x.1.set (x.2.2).toNat (y1,(rdL u0a x.1 (x.2.2).toNat).2)) (x.2.2).toNat).2.2))).set (x.2.2).toNat ((rdL u0a ((x.1.set (x.2.2).toNat (y1,(rdL u0a x.1 (x.2.2).toNat).2)).set (x.2.2).toNat ((rdL u0a (x.1.set (x.2.2).toNat (y1,(rdL u0a x.1 (x.2.2).toNat).2)) (x.2.2).toNat).1,(y2,(rdL u0a (x.1.set (x.2.2).toNat (y1,(rdL u0a x.1 (x.2.2).toNat).2)) (x.2.2).toNat).2.2))) (x.2.2).toNat).1,((rdL u0a ((x.1.set (x.2.2).toNat (y1,(rdL u0a x.1 (x.2.2).toNat).2)).set (x.2.2).toNat ((rdL u0a (x.1.set (x.2.2).toNat (y1,(rdL u0a x.1 (x.2.2).toNat).2)) (x.2.2).toNat).1,(y2,(rdL u0a (x.1.set (x.2.2).toNat (y1,(rdL u0a x.1 (x.2.2).toNat).2)) (x.2.2).toNat).2.2))) (x.2.2).toNat).2.1,((decide ((Int.tmod (IntKind.i64.wrap ((IntKind.i64.wrap (x.2.1+1))+1)) (3:Int))=0)),(rdL u0a ((x.1.set (x.2.2).toNat (y1,(rdL u0a x.1 (x.2.2).toNat).2)).set (x.2.2).toNat ((rdL u0a (x.1.set (x.2.2).toNat (y1,(rdL u0a x.1 (x.2.2).toNat).2)) (x.2.2).toNat).1,(y2,(rdL u0a (x.1.set (x.2.2).toNat (y1,(rdL u0a x.1 (x.2.2).toNat).2)) (x.2.2).toNat).2.2))) (x.2.2).toNat).2.2.2)))).set (x.2.2).toNat ((rdL u0a (((x.1.set (x.2.2).toNat (y1,(rdL u0a x.1 (x.2.2).toNat).2)).set (x.2.2).toNat ((rdL u0a (x.1.set (x.2.2).toNat (y1,(rdL u0a x.1 (x.2.2).toNat).2)) (x.2.2).toNat).1,(y2,(rdL u0a (x.1.set (x.2.2).toNat (y1,(rdL u0a x.1 (x.2.2).toNat).2)) (x.2.2).toNat).2.2))).set (x.2.2).toNat ((rdL u0a ((x.1.set (x.2.2).toNat (y1,(rdL u0a x.1 (x.2.2).toNat).2)).set (x.2.2).toNat ((rdL u0a (x.1.set (x.2.2).toNat (y1,(rdL u0a x.1 (x.2.2).toNat).2)) (x.2.2).toNat).1,(y2,(rdL u0a (x.1.set (x.2.2).toNat (y1,(rdL u0a x.1 (x.2.2).toNat).2)) (x.2.2).toNat).2.2))) (x.2.2).toNat).1,((rdL u0a ((x.1.set (x.2.2).toNat (y1,(rdL u0a x.1 (x.2.2).toNat).2)).set (x.2.2).toNat ((rdL u0a (x.1.set (x.2.2).toNat (y1,(rdL u0a x.1 (x.2.2).toNat).2)) (x.2.2).toNat).1,(y2,(rdL u0a (x.1.set (x.2.2).toNat (y1,(rdL u0a x.1 (x.2.2).toNat).2)) (x.2.2).toNat).2.2))) (x.2.2).toNat).2.1,((decide ((Int.tmod (IntKind.i64.wrap ((IntKind.i64.wrap (x.2.1+1))+1)) (3:Int))=0)),(rdL u0a ((x.1.set (x.2.2).toNat (y1,(rdL u0a x.1 (x.2.2).toNat).2)).set (x.2.2).toNat ((rdL u0a (x.1.set (x.2.2).toNat (y1,(rdL u0a x.1 (x.2.2).toNat).2)) (x.2.2).toNat).1,(y2,(rdL u0a (x.1.set (x.2.2).toNat (y1,(rdL u0a x.1 (x.2.2).toNat).2)) (x.2.2).toNat).2.2))) (x.2.2).toNat).2.2.2)))) (x.2.2).toNat).1,((rdL u0a (((x.1.set (x.2.2).toNat (y1,(rdL u0a x.1 (x.2.2).toNat).2)).set (x.2.2).toNat ((rdL u0a (x.1.set (x.2.2).toNat (y1,(rdL u0a x.1 (x.2.2).toNat).2)) (x.2.2).toNat).1,(y2,(rdL u0a (x.1.set (x.2.2).toNat (y1,(rdL u0a x.1 (x.2.2).toNat).2)) (x.2.2).toNat).2.2))).set (x.2.2).toNat ((rdL u0a ((x.1.set (x.2.2).toNat (y1,(rdL u0a x.1 (x.2.2).toNat).2)).set (x.2.2).toNat ((rdL u0a (x.1.set (x.2.2).toNat (y1,(rdL u0a x.1 (x.2.2).toNat).2)) (x.2.2).toNat).1,(y2,(rdL u0a (x.1.set (x.2.2).toNat (y1,(rdL u0a x.1 (x.2.2).toNat).2)) (x.2.2).toNat).2.2))) (x.2.2).toNat).1,((rdL u0a ((x.1.set (x.2.2).toNat (y1,(rdL u0a x.1 (x.2.2).toNat).2)).set (x.2.2).toNat ((rdL u0a (x.1.set (x.2.2).toNat (y1,(rdL u0a x.1 (x.2.2).toNat).2)) (x.2.2).toNat).1,(y2,(rdL u0a (x.1.set (x.2.2).toNat (y1,(rdL u0a x.1 (x.2.2).toNat).2)) (x.2.2).toNat).2.2))) (x.2.2).toNat).2.1,((decide ((Int.tmod (IntKind.i64.wrap ((IntKind.i64.wrap (x.2.1+1))+1)) (3:Int))=0)),(rdL u0a ((x.1.set (x.2.2).toNat (y1,(rdL u0a x.1 (x.2.2).toNat).2)).set (x.2.2).toNat ((rdL u0a (x.1.set (x.2.2).toNat (y1,(rdL u0a x.1 (x.2.2).toNat).2)) (x.2.2).toNat).1,(y2,(rdL u0a (x.1.set (x.2.2).toNat (y1,(rdL u0a x.1 (x.2.2).toNat).2)) (x.2.2).toNat).2.2))) (x.2.2).toNat).2.2.2)))) (x.2.2).toNat).2.1,((rdL u0a (((x.1.set (x.2.2).toNat (y1,(rdL u0a x.1 (x.2.2).toNat).2)).set (x.2.2).toNat ((rdL u0a (x.1.set (x.2.2).toNat (y1,(rdL u0a x.1 (x.2.2).toNat).2)) (x.2.2).toNat).1,(y2,(rdL u0a (x.1.set (x.2.2).toNat (y1,(rdL u0a x.1 (x.2.2).toNat).2)) (x.2.2).toNat).2.2))).set (x.2.2).toNat ((rdL u0a ((x.1.set (x.2.2).toNat (y1,(rdL u0a x.1 (x.2.2).toNat).2)).set (x.2.2).toNat ((rdL u0a (x.1.set (x.2.2).toNat (y1,(rdL u0a x.1 (x.2.2).toNat).2)) (x.2.2).toNat).1,(y2,(rdL u0a (x.1.set (x.2.2).toNat (y1,(rdL u0a x.1 (x.2.2).toNat).2)) (x.2.2).toNat).2.2))) (x.2.2).toNat).1,((rdL u0a ((x.1.set (x.2.2).toNat (y1,(rdL u0a x.1 (x.2.2).toNat).2)).set (x.2.2).toNat ((rdL u0a (x.1.set (x.2.2).toNat (y1,(rdL u0a x.1 (x.2.2).toNat).2)) (x.2.2).toNat).1,(y2,(rdL u0a (x.1.set (x.2.2).toNat (y1,(rdL u0a x.1 (x.2.2).toNat).2)) (x.2.2).toNat).2.2))) (x.2.2).toNat).2.1,((decide ((Int.tmod (IntKind.i64.wrap ((IntKind.i64.wrap (x.2.1+1))+1)) (3:Int))=0)),(rdL u0a ((x.1.set (x.2.2).toNat (y1,(rdL u0a x.1 (x.2.2).toNat).2)).set (x.2.2).toNat ((rdL u0a (x.1.set (x.2.2).toNat (y1,(rdL u0a x.1 (x.2.2).toNat).2)) (x.2.2).toNat).1,(y2,(rdL u0a (x.1.set (x.2.2).toNat (y1,(rdL u0a x.1 (x.2.2).toNat).2)) (x.2.2).toNat).2.2))) (x.2.2).toNat).2.2.2)))) (x.2.2).toNat).2.2.1,(IntKind.i64.wrap ((IntKind.i64.wrap ((IntKind.i64.wrap (x.2.1+1))+1))+1)))))),((IntKind.i64.wrap ((IntKind.i64.wrap ((IntKind.i64.wrap ((IntKind.i64.wrap (x.2.1+1))+1))+1))+1)),(IntKind.i64.wrap (x.2.2+1))))) else none) else none) else none)) else none)) else(some (.inl (x.1,x.2.1))))
def u03:=lpW _ _ u1y
theorem u5a x:u03 x=u1y u03 x:=zW u10 86 Try.f86 2 45 x (by kernel_rfl)
def u2h (x:t0i):Option (Int×t0a):=((u03 (x.1,(x.2,0))).bind fun r3=>match r3 with | .inl o4=>(some (o4.2,o4.1)) | .inr z5=>none)
theorem u5s:u0t=u2h:=zC 86 rfl Try.func86 (by kernel_rfl)
def u2t(x:Z26):Option Z25:=zK 76 x
def u4v (x:Z26):Option Z25:=((u0t (x.1.1,x.2)).bind fun y1=>((u0r ((),y1.1)).bind fun y2=>((u0r ((),y2)).bind fun y3=>(some (y3,(y1.2,((),((),x.1.2.2.2))))))))
theorem u7b:u2t=u4v:=zC 76 rfl Try.func76 (by kernel_rfl)
def u1t(x:Z22):Option Z21:=zK 55 x
def u3e (x:Z22):Option Z21:=((u2t ((x.1.1.1,((),((),x.1.1.2.2.2))),x.2)).bind fun y1=>((u0r ((),y1.1)).bind fun y2=>(some (y2,((y1.2.1,((),((),x.1.1.2.2.2))),())))))
theorem u6f:u1t=u3e:=zC 55 rfl Try.func55 (by kernel_rfl)
def u0k(x:t0j):Option (Int×t0b):=zK 33 x
def u0m(g:(t0b×u58)→Option (t0j⊕Unit))(x:(t0b×u58)):Option (t0j⊕Unit):=(bif (decide (x.2.2<(x.1.length:Int))) then((u0c x.2.1).bind fun y1=>(bif (y4k x.2.2 x.1.length) then(g ((x.1.set (x.2.2).toNat y1),((IntKind.i64.wrap (x.2.1+1)),(IntKind.i64.wrap (x.2.2+1))))) else none)) else(some (.inl (x.1,x.2.1))))
def u0e:=lpW _ _ u0m
theorem u09 x:u0e x=u0m u0e x:=zW u2b 33 Try.f33 2 20 x (by kernel_rfl)
def u1h (x:t0j):Option (Int×t0b):=((u0e (x.1,(x.2,0))).bind fun r2=>match r2 with | .inl o3=>(some (o3.2,o3.1)) | .inr z4=>none)
theorem u20:u0k=u1h:=zC 33 rfl Try.func33 (by kernel_rfl)
def u2w(x:t0k):Option (Int×u9l):=zK 77 x
def u05(g:(u9l×u58)→Option (t0k⊕Unit))(x:(u9l×u58)):Option (t0k⊕Unit):=(bif (decide (x.2.2<(x.1.length:Int))) then(bif (y4k x.2.2 x.1.length) then((u0c (IntKind.i64.wrap (x.2.1+1))).bind fun y1=>(bif (y4k x.2.2 (x.1.set (x.2.2).toNat (x.2.1,(rdL u83 x.1 (x.2.2).toNat).2)).length) then(g (((x.1.set (x.2.2).toNat (x.2.1,(rdL u83 x.1 (x.2.2).toNat).2)).set (x.2.2).toNat ((rdL u83 (x.1.set (x.2.2).toNat (x.2.1,(rdL u83 x.1 (x.2.2).toNat).2)) (x.2.2).toNat).1,y1)),((IntKind.i64.wrap ((IntKind.i64.wrap (x.2.1+1))+1)),(IntKind.i64.wrap (x.2.2+1))))) else none)) else none) else(some (.inl (x.1,x.2.1))))
def u0q:=lpW _ _ u05
theorem u3r x:u0q x=u05 u0q x:=zW u3l 77 Try.f77 2 28 x (by kernel_rfl)
def u4y (x:t0k):Option (Int×u9l):=((u0q (x.1,(x.2,0))).bind fun r2=>match r2 with | .inl o3=>(some (o3.2,o3.1)) | .inr z4=>none)
theorem u7e:u2w=u4y:=zC 77 rfl Try.func77 (by kernel_rfl)
def u2u(x:Z35):Option Z34:=zK 56 x
def u4w (x:Z35):Option Z34:=((u0k (x.1.1,x.2)).bind fun y1=>((u2w (x.1.2,y1.1)).bind fun y2=>(some (y2.1,(y1.2,y2.2)))))
theorem u7c:u2u=u4w:=zC 56 rfl Try.func56 (by kernel_rfl)
def u17(x:Z13):Option Z14:=zK 32 x
def u35 (x:Z13):Option Z14:=((u1t (((x.1.1.1.1,((),((),x.1.1.1.2.2.2))),()),x.2)).bind fun y1=>((u2u (x.1.2,y1.1)).bind fun y2=>(some (y2.1,(((y1.2.1.1,((),((),x.1.1.1.2.2.2))),()),y2.2)))))
theorem u6w:u17=u35:=zC 32 rfl Try.func32 (by kernel_rfl)
def u18(x:Z10):Option Z9:=zK 17 x
def u36 (x:Z10):Option Z9:=((u17 ((((x.1.1.1.1.1,((),((),x.1.1.1.1.2.2.2))),()),x.1.1.2),x.2)).bind fun y1=>((u0r ((),y1.1)).bind fun y2=>((u2v (x.1.2.2.1,y2)).bind fun y3=>((u0k (x.1.2.2.2,y3.1)).bind fun y4=>(some (y4.1,((((y1.2.1.1.1,((),((),x.1.1.1.1.2.2.2))),()),y1.2.2),((),(y3.2,y4.2)))))))))
theorem u6x:u18=u36:=zC 17 rfl Try.func17 (by kernel_rfl)
def u2r(x:u9n):Option Int:=zK 13 x
def u28(g:(u8x×u58)→Option u82)(x:(u8x×u58)):Option u82:=(bif (decide (x.2.2<(x.1.length:Int))) then(bif (y4k x.2.2 x.1.length) then(bif (!decide ((rdL (Ty.int .i64) x.1 (x.2.2).toNat)=x.2.1)) then(some (.inr (-1:Int))) else(g (x.1,((IntKind.i64.wrap (x.2.1+1)),(IntKind.i64.wrap (x.2.2+1)))))) else none) else(some (.inl x.2.1)))
def u1m:=lpW _ _ u28
theorem u6j x:u1m x=u28 u1m x:=zW u3h 13 Try.f13 2 21 x (by kernel_rfl)
def u4s (x:u9n):Option Int:=((u1m (x.1,(x.2,0))).bind fun r1=>match r1 with | .inl o2=>(some o2) | .inr z3=>(some z3))
theorem u68:u2r=u4s:=zC 13 rfl Try.func13 (by kernel_rfl)
def u3o(x:(u90×Int)):Option Int:=zK 59 x
def u2e(g:(u90×u58)→Option u82)(x:(u90×u58)):Option u82:=(bif (decide (x.2.2<(x.1.length:Int))) then(bif (y4k x.2.2 x.1.length) then((u0c x.2.1).bind fun y1=>(bif (!z7j (rdL u9x x.1 (x.2.2).toNat).1 y1) then(some (.inr (-1:Int))) else(bif (y4k x.2.2 x.1.length) then((u0c (IntKind.i64.wrap (x.2.1+1))).bind fun y2=>(bif (!z7j (rdL u9x x.1 (x.2.2).toNat).2 y2) then(some (.inr (-1:Int))) else(g (x.1,((IntKind.i64.wrap ((IntKind.i64.wrap (x.2.1+1))+1)),(IntKind.i64.wrap (x.2.2+1))))))) else none))) else none) else(some (.inl x.2.1)))
def u1e:=lpW _ _ u2e
theorem u8v x:u1e x=u2e u1e x:=zW u2j 59 Try.f59 2 33 x (by kernel_rfl)
def u6a (x:(u90×Int)):Option Int:=((u1e (x.1,(x.2,0))).bind fun r3=>match r3 with | .inl o4=>(some o4) | .inr z5=>(some z5))
theorem u87:u3o=u6a:=zC 59 rfl Try.func59 (by kernel_rfl)
def u3p(x:(t01×Int)):Option Int:=zK 60 x
def u2f(g:(t01×u58)→Option u82)(x:(t01×u58)):Option u82:=(bif (decide (x.2.2<(x.1.length:Int))) then(bif (y4k x.2.2 x.1.length) then((u0c x.2.1).bind fun y1=>(bif (!z7j (rdL u5x x.1 (x.2.2).toNat).1 y1) then(some (.inr (-1:Int))) else(bif (y4k x.2.2 x.1.length) then((u0c (IntKind.i64.wrap (x.2.1+1))).bind fun y2=>(bif (!z7j (rdL u5x x.1 (x.2.2).toNat).2.1 y2) then(some (.inr (-1:Int))) else(bif (y4k x.2.2 x.1.length) then(bif (!((rdL u5x x.1 (x.2.2).toNat).2.2==(decide ((Int.tmod (IntKind.i64.wrap ((IntKind.i64.wrap (x.2.1+1))+1)) (3:Int))=0)))) then(some (.inr (-1:Int))) else(g (x.1,((IntKind.i64.wrap ((IntKind.i64.wrap ((IntKind.i64.wrap (x.2.1+1))+1))+1)),(IntKind.i64.wrap (x.2.2+1)))))) else none))) else none))) else none) else(some (.inl x.2.1)))
def u1f:=lpW _ _ u2f
theorem u8w x:u1f x=u2f u1f x:=zW u2k 60 Try.f60 2 44 x (by kernel_rfl)
def u6b (x:(t01×Int)):Option Int:=((u1f (x.1,(x.2,0))).bind fun r3=>match r3 with | .inl o4=>(some o4) | .inr z5=>(some z5))
theorem u88:u3p=u6b:=zC 60 rfl Try.func60 (by kernel_rfl)
def u0g(x:Z36):Option Int:=zK 35 x
def u29(g:Z28→Option u82)(x:Z28):Option u82:=(bif (decide (x.2.2<(x.1.length:Int))) then(bif (y4k x.2.2 x.1.length) then(bif (!decide ((rdL u0b x.1 (x.2.2).toNat).1=x.2.1)) then(some (.inr (-1:Int))) else(bif (y4k x.2.2 x.1.length) then(bif (!decide ((rdL u0b x.1 (x.2.2).toNat).2.1=(IntKind.i64.wrap (x.2.1+1)))) then(some (.inr (-1:Int))) else(bif (y4k x.2.2 x.1.length) then(bif (!decide ((rdL u0b x.1 (x.2.2).toNat).2.2.1=(IntKind.i64.wrap ((IntKind.i64.wrap (x.2.1+1))+1)))) then(some (.inr (-1:Int))) else(bif (y4k x.2.2 x.1.length) then(bif (!decide ((rdL u0b x.1 (x.2.2).toNat).2.2.2.1=(IntKind.i64.wrap ((IntKind.i64.wrap ((IntKind.i64.wrap (x.2.1+1))+1))+1)))) then(some (.inr (-1:Int))) else(bif (y4k x.2.2 x.1.length) then((u3o ((rdL u0b x.1 (x.2.2).toNat).2.2.2.2.1,(IntKind.i64.wrap ((IntKind.i64.wrap ((IntKind.i64.wrap ((IntKind.i64.wrap (x.2.1+1))+1))+1))+1)))).bind fun y1=>(bif (decide (y1<0)) then(some (.inr (-1:Int))) else(bif (y4k x.2.2 x.1.length) then((u3p ((rdL u0b x.1 (x.2.2).toNat).2.2.2.2.2.1,y1)).bind fun y2=>(bif (decide (y2<0)) then(some (.inr (-1:Int))) else(bif (y4k x.2.2 x.1.length) then(bif (!((rdL u0b x.1 (x.2.2).toNat).2.2.2.2.2.2.1==(decide ((Int.tmod y2 (3:Int))=0)))) then(some (.inr (-1:Int))) else(bif (y4k x.2.2 x.1.length) then((u0c (IntKind.i64.wrap (y2+1))).bind fun y3=>(bif (!z7j (rdL u0b x.1 (x.2.2).toNat).2.2.2.2.2.2.2 y3) then(some (.inr (-1:Int))) else(g (x.1,((IntKind.i64.wrap ((IntKind.i64.wrap (y2+1))+1)),(IntKind.i64.wrap (x.2.2+1))))))) else none)) else none))) else none))) else none)) else none)) else none)) else none)) else none) else(some (.inl x.2.1)))
def u1n:=lpW _ _ u29
theorem u6k x:u1n x=u29 u1n x:=zW u3j 35 Try.f35 2 88 x (by kernel_rfl)
def u4u (x:Z36):Option Int:=((u1n (x.1,(x.2,0))).bind fun r4=>match r4 with | .inl o5=>(some o5) | .inr z6=>(some z6))
theorem u7a:u0g=u4u:=zC 35 rfl Try.func35 (by kernel_rfl)
def u0s(x:t0i):Option Int:=zK 87 x
def u1x(g:(t0a×u58)→Option u82)(x:(t0a×u58)):Option u82:=(bif (decide (x.2.2<(x.1.length:Int))) then(bif (y4k x.2.2 x.1.length) then((u0c x.2.1).bind fun y1=>(bif (!z7j (rdL u0a x.1 (x.2.2).toNat).1 y1) then(some (.inr (-1:Int))) else(bif (y4k x.2.2 x.1.length) then((u0c (IntKind.i64.wrap (x.2.1+1))).bind fun y2=>(bif (!z7j (rdL u0a x.1 (x.2.2).toNat).2.1 y2) then(some (.inr (-1:Int))) else(bif (y4k x.2.2 x.1.length) then(bif (!((rdL u0a x.1 (x.2.2).toNat).2.2.1==(decide ((Int.tmod (IntKind.i64.wrap ((IntKind.i64.wrap (x.2.1+1))+1)) (3:Int))=0)))) then(some (.inr (-1:Int))) else(bif (y4k x.2.2 x.1.length) then(bif (!decide ((rdL u0a x.1 (x.2.2).toNat).2.2.2=(IntKind.i64.wrap ((IntKind.i64.wrap ((IntKind.i64.wrap (x.2.1+1))+1))+1)))) then(some (.inr (-1:Int))) else(g (x.1,((IntKind.i64.wrap ((IntKind.i64.wrap ((IntKind.i64.wrap ((IntKind.i64.wrap (x.2.1+1))+1))+1))+1)),(IntKind.i64.wrap (x.2.2+1)))))) else none)) else none))) else none))) else none) else(some (.inl x.2.1)))
def u02:=lpW _ _ u1x
theorem u49 x:u02 x=u1x u02 x:=zW u1z 87 Try.f87 2 53 x (by kernel_rfl)
def u2g (x:t0i):Option Int:=((u02 (x.1,(x.2,0))).bind fun r3=>match r3 with | .inl o4=>(some o4) | .inr z5=>(some z5))
theorem u5r:u0s=u2g:=zC 87 rfl Try.func87 (by kernel_rfl)
def u2p(x:Z12):Option Int:=zK 78 x
def u4q (x:Z12):Option Int:=((u0s (x.1.1,x.2)).bind fun y1=>(bif (decide (y1<0)) then(some (-1:Int)) else((u0g (x.1.2.1,y1)).bind fun y2=>(bif (decide (y2<0)) then(some (-1:Int)) else((u0g (x.1.2.2.1,y2)).bind fun y3=>(bif (decide (y3<0)) then(some (-1:Int)) else(some y3)))))))
theorem u66:u2p=u4q:=zC 78 rfl Try.func78 (by kernel_rfl)
def u1s(x:Z8):Option Int:=zK 57 x
def u3d (x:Z8):Option Int:=((u2p (x.1.1,x.2)).bind fun y1=>(bif (decide (y1<0)) then(some (-1:Int)) else((u0g (x.1.2,y1)).bind fun y2=>(bif (decide (y2<0)) then(some (-1:Int)) else(some y2)))))
theorem u6e:u1s=u3d:=zC 57 rfl Try.func57 (by kernel_rfl)
def u0j(x:t0j):Option Int:=zK 36 x
def u0l(g:(t0b×u58)→Option u82)(x:(t0b×u58)):Option u82:=(bif (decide (x.2.2<(x.1.length:Int))) then(bif (y4k x.2.2 x.1.length) then((u0c x.2.1).bind fun y1=>(bif (!z7j (rdL Ty.str x.1 (x.2.2).toNat) y1) then(some (.inr (-1:Int))) else(g (x.1,((IntKind.i64.wrap (x.2.1+1)),(IntKind.i64.wrap (x.2.2+1))))))) else none) else(some (.inl x.2.1)))
def u0d:=lpW _ _ u0l
theorem u08 x:u0d x=u0l u0d x:=zW u2a 36 Try.f36 2 22 x (by kernel_rfl)
def u1g (x:t0j):Option Int:=((u0d (x.1,(x.2,0))).bind fun r2=>match r2 with | .inl o3=>(some o3) | .inr z4=>(some z4))
theorem u2z:u0j=u1g:=zC 36 rfl Try.func36 (by kernel_rfl)
def u2s(x:t0k):Option Int:=zK 79 x
def u04(g:(u9l×u58)→Option u82)(x:(u9l×u58)):Option u82:=(bif (decide (x.2.2<(x.1.length:Int))) then(bif (y4k x.2.2 x.1.length) then(bif (!decide ((rdL u83 x.1 (x.2.2).toNat).1=x.2.1)) then(some (.inr (-1:Int))) else(bif (y4k x.2.2 x.1.length) then((u0c (IntKind.i64.wrap (x.2.1+1))).bind fun y1=>(bif (!z7j (rdL u83 x.1 (x.2.2).toNat).2 y1) then(some (.inr (-1:Int))) else(g (x.1,((IntKind.i64.wrap ((IntKind.i64.wrap (x.2.1+1))+1)),(IntKind.i64.wrap (x.2.2+1))))))) else none)) else none) else(some (.inl x.2.1)))
def u0p:=lpW _ _ u04
theorem u3q x:u0p x=u04 u0p x:=zW u3i 79 Try.f79 2 32 x (by kernel_rfl)
def u4t (x:t0k):Option Int:=((u0p (x.1,(x.2,0))).bind fun r2=>match r2 with | .inl o3=>(some o3) | .inr z4=>(some z4))
theorem u69:u2s=u4t:=zC 79 rfl Try.func79 (by kernel_rfl)
def u2q(x:Z35):Option Int:=zK 58 x
def u4r (x:Z35):Option Int:=((u0j (x.1.1,x.2)).bind fun y1=>(bif (decide (y1<0)) then(some (-1:Int)) else((u2s (x.1.2,y1)).bind fun y2=>(bif (decide (y2<0)) then(some (-1:Int)) else(some y2)))))
theorem u67:u2q=u4r:=zC 58 rfl Try.func58 (by kernel_rfl)
def u16(x:Z6):Option Int:=zK 34 x
def u33 (x:Z6):Option Int:=((u1s (x.1.1,x.2)).bind fun y1=>(bif (decide (y1<0)) then(some (-1:Int)) else((u2q (x.1.2,y1)).bind fun y2=>(bif (decide (y2<0)) then(some (-1:Int)) else(some y2)))))
theorem u6u:u16=u33:=zC 34 rfl Try.func34 (by kernel_rfl)
def u1d(x:Z4):Option Int:=zK 18 x
def u34 (x:Z4):Option Int:=((u16 (x.1.1,x.2)).bind fun y1=>(bif (decide (y1<0)) then(some (-1:Int)) else((u0g (x.1.2.1,y1)).bind fun y2=>(bif (decide (y2<0)) then(some (-1:Int)) else((u2r (x.1.2.2.1,y2)).bind fun y3=>(bif (decide (y3<0)) then(some (-1:Int)) else((u0j (x.1.2.2.2,y3)).bind fun y4=>(bif (decide (y4<0)) then(some (-1:Int)) else(some y4)))))))))
theorem u6v:u1d=u34:=zC 18 rfl Try.func18 (by kernel_rfl)
def u1k(x:Unit):Option Bool:=zK 4 x
def u1j (x:Unit):Option Bool:=((u2x ()).bind fun y1=>((u1i ()).bind fun y2=>((u1a (((((y2.1.1.1.1,(([] :List u0b.den),(([] :List u0b.den),y2.1.1.1.2.2.2))),([] :List u0b.den)),y2.1.2),(([] :List u0b.den),y2.2.2)),((((y1.1.1.1.1,(([] :List u0b.den),(([] :List u0b.den),y1.1.1.1.2.2.2))),([] :List u0b.den)),y1.1.2),(([] :List u0b.den),y1.2.2)))).bind fun y3=>(bif (!y3) then(some false) else((u18 (((((y2.1.1.1.1,((),((),y2.1.1.1.2.2.2))),()),y2.1.2),((),y2.2.2)),1)).bind fun y4=>((u1d (((((y4.2.1.1.1.1,(([] :List u0b.den),(([] :List u0b.den),y2.1.1.1.2.2.2))),([] :List u0b.den)),y4.2.1.2),(([] :List u0b.den),y4.2.2.2)),1)).bind fun y5=>(bif (decide (y5<0)) then(some false) else(bif (!decide (y5=y4.1)) then(some false) else((u1i ()).bind fun y6=>((u1a (((((y6.1.1.1.1,(([] :List u0b.den),(([] :List u0b.den),y6.1.1.1.2.2.2))),([] :List u0b.den)),y6.1.2),(([] :List u0b.den),y6.2.2)),((((y1.1.1.1.1,(([] :List u0b.den),(([] :List u0b.den),y1.1.1.1.2.2.2))),([] :List u0b.den)),y1.1.2),(([] :List u0b.den),y1.2.2)))).bind fun y7=>(bif (!y7) then(some false) else((u1d (((((y4.2.1.1.1.1,(([] :List u0b.den),(([] :List u0b.den),y2.1.1.1.2.2.2))),([] :List u0b.den)),y4.2.1.2),(([] :List u0b.den),y4.2.2.2)),1)).bind fun y8=>(bif (decide (y8<0)) then(some false) else(bif (!decide (y8=y4.1)) then(some false) else(some true)))))))))))))))
theorem u4h:u1k=u1j:=zC 4 rfl Try.func4 (by kernel_rfl)
end
end Go.Proofs.Ytkphhjdbdnoekaa.Ab
