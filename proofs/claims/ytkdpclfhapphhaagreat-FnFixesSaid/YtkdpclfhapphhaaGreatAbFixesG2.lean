import Derived.Test.YtkdpclfhapphhaaGreatAbFixesG1
namespace Go.Proofs.YtkdpclfhapphhaaGreat.Ab
open Go
set_option linter.unusedVariables false
noncomputable section
set_option maxRecDepth 100000
def t9f(x:u99):Ht q8o:=zK 53 x
def r6l (x:u99):Ht q8o:=(t3d x).bind fun y1=>(u8z (x,y1)).bind fun y2=>some y2.1
theorem p11:t9f=r6l:=zC 53 rfl Tryz.func53 (by kernel_rfl)
def s42(x:Z73):Ht Int:=zK 69 x
def t3x(g:j1u→Ht o5f)(x:j1u):Ht o5f:=cond (decide (x.2.2<(x.1.length:Int))) (cond (y4q x.2.2 x.1.length) (cond (decide ((rdL u0a x.1 x.2.2.toNat).2.2.1<x.2.1)) (cond (y4q x.2.2 x.1.length) (g (x.1,(rdL u0a x.1 x.2.2.toNat).2.2.1,IntKind.i64.wrap (x.2.2+1))) none) (g (x.1,x.2.1,IntKind.i64.wrap (x.2.2+1)))) none) (some (.inl x.2.1))
def t4j:=lpW _ _ t3x
theorem r0k x:t4j x=t3x t4j x:=zW s9m 69 Tryz.f69 3 28 x (by kernel_rfl)
def r6m (x:Z73):Ht Int:=(t4j (x.2,x.1.2.2.2.1,0)).bind fun r1=>match r1 with | .inl o2=>some o2 | .inr z3=>none
theorem p12:s42=r6m:=zC 69 rfl Tryz.func69 (by kernel_rfl)
def s6z(x:j00):Ht Int:=zK 79 x
def s0m(g:j9a→Ht o5f)(x:j9a):Ht o5f:=cond (decide (x.2.2.2.2<(x.1.length:Int))) (((cond (y4q x.2.2.2.2 x.1.length) (cond (z7o (rdL u0d x.1 x.2.2.2.2.toNat).1 x.2.1) (cond (y4q x.2.2.2.2 x.1.length) (cond (decide ((rdL u0d x.1 x.2.2.2.2.toNat).2.2.2≤x.2.2.1)) (cond (decide (x.2.2.2.1<0)) (some true) (cond (y4q x.2.2.2.2 x.1.length) (cond (y4q x.2.2.2.1 x.1.length) (some (decide ((rdL u0d x.1 x.2.2.2.2.toNat).2.2.2>(rdL u0d x.1 x.2.2.2.1.toNat).2.2.2))) none) none)) (some false)) none) (some false)) none):Ht Bool).bind fun j1=>cond j1 (g (x.1,x.2.1,x.2.2.1,x.2.2.2.2,IntKind.i64.wrap (x.2.2.2.2+1))) (g (x.1,x.2.1,x.2.2.1,x.2.2.2.1,IntKind.i64.wrap (x.2.2.2.2+1)))) (some (.inl x.2.2.2.1))
def t5g:=lpW _ _ s0m
theorem q12 x:t5g x=s0m t5g x:=zW q1n 79 Tryz.f79 3 50 x (by kernel_rfl)
def q73 (x:j00):Ht Int:=(t5g (x.1,x.2.1,x.2.2,(- 1:Int),0)).bind fun r2=>match r2 with | .inl o3=>some o3 | .inr z4=>none
theorem o03:s6z=q73:=zC 79 rfl Tryz.func79 (by kernel_rfl)
def s74(x:j3p):Ht r9b:=zK 71 x
def t6r(g:j87→Ht j58)(x:j87):Ht j58:=cond (decide (x.2.2.2<(x.1.length:Int))) (cond (y4q x.2.2.2 x.1.length) ((s6z (x.1,(rdL u0d x.1 x.2.2.2.toNat).1,x.2.1)).bind fun y1=>((cond (y4q x.2.2.2 x.1.length) (cond (decide ((rdL u0d x.1 x.2.2.2.toNat).2.2.2>x.2.1)) (some true) (some (decide (y1=x.2.2.2)))) none):Ht Bool).bind fun j2=>cond j2 (cond (y4q x.2.2.2 x.1.length) (cond (Nat.ble (x.2.2.1.length+([(rdL u0d x.1 x.2.2.2.toNat)]:Hu u0d.den).length) z7w) (g (x.1,x.2.1,x.2.2.1++([(rdL u0d x.1 x.2.2.2.toNat)]:Hu u0d.den),IntKind.i64.wrap (x.2.2.2+1))) none) none) (g (x.1,x.2.1,x.2.2.1,IntKind.i64.wrap (x.2.2.2+1)))) none) (some (.inl (x.2.1,x.2.2.1)))
def t0u:=lpW _ _ t6r
theorem r5a x:t0u x=t6r t0u x:=zW r38 71 Tryz.f71 3 99 x (by kernel_rfl)
def t35(g:j81→Ht (j7a⊕Unit))(x:j81):Ht (j7a⊕Unit):=cond (decide (x.2.2.2.2.2<(x.2.1.length:Int))) (cond (y4q x.2.2.2.2.2 x.2.1.length) (cond (y4q x.2.2.2.1 x.2.1.length) (cond (z7o (rdL u0d x.2.1 x.2.2.2.2.2.toNat).1 (rdL u0d x.2.1 x.2.2.2.1.toNat).1) (g (x.1,x.2.1,x.2.2.1,x.2.2.2.1,IntKind.i64.wrap (x.2.2.2.2.1+1),IntKind.i64.wrap (x.2.2.2.2.2+1))) (g (x.1,x.2.1,x.2.2.1,x.2.2.2.1,x.2.2.2.2.1,IntKind.i64.wrap (x.2.2.2.2.2+1)))) none) none) (some (.inl (x.1,x.2.1,x.2.2.1,x.2.2.2.1,x.2.2.2.2.1)))
def u8m:=lpW _ _ t35
theorem r0r x:u8m x=t35 u8m x:=zW s9t 71 Tryz.f71 14 99 x (by kernel_rfl)
def t34(g:j88→Ht o86)(x:j88):Ht o86:=cond (decide (x.2.2.2<(x.2.1.length:Int))) ((u8m (x.1,x.2.1,x.2.2.1,x.2.2.2,0,0)).bind fun r5=>match r5 with | .inl o6=>(((cond (y4q o6.2.2.2.1 o6.2.1.length) (cond (!(rdL u0d o6.2.1 o6.2.2.2.1.toNat).2.2.1) (some true) (cond (y4q o6.2.2.2.1 o6.2.1.length) (cond (decide ((rdL u0d o6.2.1 o6.2.2.2.1.toNat).2.2.2>o6.1)) (some true) (some (decide (o6.2.2.2.2>1)))) none)) none):Ht Bool).bind fun j7=>cond j7 (cond (y4q o6.2.2.2.1 o6.2.1.length) (cond (Nat.ble (o6.2.2.1.length+([(rdL u0d o6.2.1 o6.2.2.2.1.toNat)]:Hu u0d.den).length) z7w) (g (o6.1,o6.2.1,o6.2.2.1++([(rdL u0d o6.2.1 o6.2.2.2.1.toNat)]:Hu u0d.den),IntKind.i64.wrap (o6.2.2.2.1+1))) none) none) (g (o6.1,o6.2.1,o6.2.2.1,IntKind.i64.wrap (o6.2.2.2.1+1)))) | .inr z8=>some (.inr ())) (some (.inl x.2.2.1))
def t4m:=lpW _ _ t34
theorem r0q x:t4m x=t34 t4m x:=zW s9s 71 Tryz.f71 10 99 x (by kernel_rfl)
def q0l (x:j3p):Ht r9b:=(t0u (x.1,x.2,([]:Hu u0d.den),0)).bind fun r3=>match r3 with | .inl o4=>((t4m (o4.1,o4.2,([]:Hu u0d.den),0)).bind fun r9=>match r9 with | .inl o10=>some o10 | .inr z11=>none) | .inr z12=>none
theorem p40:s74=q0l:=zC 71 rfl Tryz.func71 (by kernel_rfl)
def t4w(x:Z73):Ht u61:=zK 14 x
def t8n(g:Z15→Ht (Z17⊕Unit))(x:Z15):Ht (Z17⊕Unit):=cond (decide (x.2.2.2.2<(x.1.2.1.length:Int))) (cond (y4q x.2.2.2.2 x.1.2.1.length) (cond (decide ((rdL u0a x.1.2.1 x.2.2.2.2.toNat).2.2.2.1>x.2.2.2.1)) (cond (y4q x.2.2.2.2 x.1.2.1.length) ((u0z (rdL u0a x.1.2.1 x.2.2.2.2.toNat)).bind fun y3=>cond (Nat.ble (x.2.2.1.2.1.length+([y3]:Hu u0a.den).length) z7w) (g (x.1,x.2.1,(x.2.2.1.1,x.2.2.1.2.1++([y3]:Hu u0a.den),x.2.2.1.2.2),x.2.2.2.1,IntKind.i64.wrap (x.2.2.2.2+1))) none) none) (g (x.1,x.2.1,x.2.2.1,x.2.2.2.1,IntKind.i64.wrap (x.2.2.2.2+1)))) none) (some (.inl (x.1,x.2.1,x.2.2.1,x.2.2.2.1)))
def t8x:=lpW _ _ t8n
theorem r8n x:t8x x=t8n t8x x:=zW r7o 14 Tryz.f14 5 47 x (by kernel_rfl)
def q3w (x:Z73):Ht u61:=(u2u x.1).bind fun y1=>(s42 x).bind fun y2=>(t8x (x.1,(([]:Hu u0d.den),([]:Hu u0a.den),([]:Hu u0a.den),0,0),(y1.1,([]:Hu u0a.den),y1.2.2),y2,0)).bind fun r4=>match r4 with | .inl o5=>((s74 (o5.1.1,o5.2.2.2)).bind fun y6=>some (y6,o5.2.2.1.2)) | .inr z7=>none
theorem p8i:t4w=q3w:=zC 14 rfl Tryz.func14 (by kernel_rfl)
def u2i(x:o82):Ht Int:=zK 307 x
def t0c(g:Z91→Ht p9u)(x:Z91):Ht p9u:=cond (decide (x.2.2<(x.2.1.2.2.1.length:Int))) (cond (y4q x.2.2 x.2.1.2.2.1.length) (cond (z7o (rdL u0a x.2.1.2.2.1 x.2.2.toNat).2.2.2.2.2.2.2 x.1) (some (.inr x.2.2)) (g (x.1,x.2.1,IntKind.i64.wrap (x.2.2+1)))) none) (some (.inl ()))
def t0s:=lpW _ _ t0c
theorem r46 x:t0s x=t0c t0s x:=zW r33 307 Tryz.f307 2 22 x (by kernel_rfl)
def q0h (x:o82):Ht Int:=(t0s (x.2,x.1,0)).bind fun r1=>match r1 with | .inl o2=>some (- 1:Int) | .inr z3=>some z3
theorem p4w:u2i=q0h:=zC 307 rfl Tryz.func307 (by kernel_rfl)
def u70(x:j5s):Ht r9b:=zK 387 x
def u8a(g:Z93→Ht (Z93⊕Unit))(x:Z93):Ht (Z93⊕Unit):=((cond (decide (x.2.2.2.2.2.2<(x.2.2.1.length:Int))) (cond (y4q x.2.2.2.2.2.2 x.2.2.1.length) (cond (y3c (rdL u0d x.2.2.1 x.2.2.2.2.2.2.toNat).1 x.2.2.2.2.1.1) (some true) (cond (y4q x.2.2.2.2.2.2 x.2.2.1.length) (cond (z7o (rdL u0d x.2.2.1 x.2.2.2.2.2.2.toNat).1 x.2.2.2.2.1.1) (cond (y4q x.2.2.2.2.2.2 x.2.2.1.length) (some (decide ((rdL u0d x.2.2.1 x.2.2.2.2.2.2.toNat).2.2.2≤x.2.2.2.2.1.2.2.2))) none) (some false)) none)) none) (some false)):Ht Bool).bind fun j1=>cond j1 (cond (y4q x.2.2.2.2.2.2 x.2.2.1.length) (cond (Nat.ble (x.2.2.2.2.2.1.length+([(rdL u0d x.2.2.1 x.2.2.2.2.2.2.toNat)]:Hu u0d.den).length) z7w) (g (x.1,x.2.1,x.2.2.1,x.2.2.2.1,x.2.2.2.2.1,x.2.2.2.2.2.1++([(rdL u0d x.2.2.1 x.2.2.2.2.2.2.toNat)]:Hu u0d.den),IntKind.i64.wrap (x.2.2.2.2.2.2+1))) none) none) (some (.inl x))
def u56:=lpW _ _ u8a
theorem s27 x:u56 x=u8a u56 x:=zW s2w 387 Tryz.f387 8 93 x (by kernel_rfl)
def u79(g:j9e→Ht o86)(x:j9e):Ht o86:=cond (decide (x.2.2.2<(x.1.length:Int))) (cond (y4q x.2.2.2 x.1.length) (cond (y4q x.2.2.2 x.1.length) (cond (y4q x.2.2.2 x.1.length) ((u56 (x.1,x.2.1,x.2.2.1,x.2.2.2,((rdL u2f x.1 x.2.2.2.toNat).1,(rdL u2f x.1 x.2.2.2.toNat).2.1,(rdL u2f x.1 x.2.2.2.toNat).2.2,x.2.1),([]:Hu u0d.den),0)).bind fun r2=>match r2 with | .inl o3=>cond (Nat.ble (o3.2.2.2.2.2.1.length+([o3.2.2.2.2.1]:Hu u0d.den).length) z7w) (cond (decide (0≤o3.2.2.2.2.2.2)&&decide (o3.2.2.2.2.2.2≤(o3.2.2.1.length:Int))&&decide ((o3.2.2.1.length:Int)≤(o3.2.2.1.length:Int))) (cond (Nat.ble ((o3.2.2.2.2.2.1++([o3.2.2.2.2.1]:Hu u0d.den)).length+((o3.2.2.1.take (o3.2.2.1.length:Int).toNat).drop o3.2.2.2.2.2.2.toNat).length) z7w) (g (o3.1,o3.2.1,(o3.2.2.2.2.2.1++([o3.2.2.2.2.1]:Hu u0d.den))++((o3.2.2.1.take (o3.2.2.1.length:Int).toNat).drop o3.2.2.2.2.2.2.toNat),IntKind.i64.wrap (o3.2.2.2.1+1))) none) none) none | .inr z4=>some (.inr ())) none) none) none) (some (.inl x.2.2.1))
def u8d:=lpW _ _ u79
theorem s26 x:u8d x=u79 u8d x:=zW s2v 387 Tryz.f387 3 93 x (by kernel_rfl)
def s53 (x:j5s):Ht r9b:=cond (Nat.ble (([]:Hu u0d.den).length+x.1.length) z7w) ((u8d (x.2.1,x.2.2,([]:Hu u0d.den)++x.1,0)).bind fun r5=>match r5 with | .inl o6=>some o6 | .inr z7=>none) none
theorem q4s:u70=s53:=zC 387 rfl Tryz.func387 (by kernel_rfl)
def s05(x:j5x):Ht Bool:=zK 330 x
def q0a (x:j5x):Ht Bool:=((cond (!y3c x.2 x.1.1) (some (y3c x.2 x.1.2||z7o x.2 x.1.2)) (some false)):Ht Bool).bind fun j1=>some j1
theorem p4p:s05=q0a:=zC 330 rfl Tryz.func330 (by kernel_rfl)
def s73(x:j5y):Ht Bool:=zK 427 x
def t6q(g:j9m→Ht (j5t⊕Bool))(x:j9m):Ht (j5t⊕Bool):=cond (decide (x.2.2.2<(x.2.1.length:Int))) (cond (y4q x.2.2.1 x.1.length) (cond (y4q x.2.2.2 x.2.1.length) ((s05 (rdL q7m x.1 x.2.2.1.toNat,(rdL u2f x.2.1 x.2.2.2.toNat).1)).bind fun y1=>cond y1 (some (.inr true)) (g (x.1,x.2.1,x.2.2.1,IntKind.i64.wrap (x.2.2.2+1)))) none) none) (some (.inl (x.1,x.2.1,x.2.2.1)))
def t0t:=lpW _ _ t6q
theorem r49 x:t0t x=t6q t0t x:=zW r37 427 Tryz.f427 5 29 x (by kernel_rfl)
def t6p(g:j5t→Ht s8d)(x:j5t):Ht s8d:=cond (decide (x.2.2<(x.1.length:Int))) ((t0t (x.1,x.2.1,x.2.2,0)).bind fun r2=>match r2 with | .inl o3=>g (o3.1,o3.2.1,IntKind.i64.wrap (o3.2.2+1)) | .inr z4=>some (.inr z4)) (some (.inl ()))
def t68:=lpW _ _ t6p
theorem r48 x:t68 x=t6p t68 x:=zW r36 427 Tryz.f427 2 29 x (by kernel_rfl)
def q0k (x:j5y):Ht Bool:=(t68 (x.1,x.2,0)).bind fun r5=>match r5 with | .inl o6=>some false | .inr z7=>some z7
theorem p4z:s73=q0k:=zC 427 rfl Tryz.func427 (by kernel_rfl)
def r1i(x:Z54):Ht Bool:=zK 429 x
def q3j (x:Z54):Ht Bool:=cond (decide (x.1.1=x.2.1)) (some false) (((cond (decide (x.1.2.1=3)) (cond (decide (x.1.2.2.2.1≤x.2.2.2.1)) (some true) (cond (decide (x.2.2.1=3)) (some (decide (x.2.2.2.2.1≤x.1.2.2.1))) (some false))) (cond (decide (x.2.2.1=3)) (some (decide (x.2.2.2.2.1≤x.1.2.2.1))) (some false))):Ht Bool).bind fun j1=>cond j1 (some false) (some true))
theorem p75:r1i=q3j:=zC 429 rfl Tryz.func429 (by kernel_rfl)
def u28(x:Z54):Ht Bool:=zK 394 x
def q7t (x:Z54):Ht Bool:=(((r1i x).bind fun y1=>cond y1 ((s73 (x.1.2.2.2.2.1,x.2.2.2.2.2.2.1)).bind fun y2=>some y2) (some false)):Ht Bool).bind fun j3=>some j3
theorem o0t:u28=q7t:=zC 394 rfl Tryz.func394 (by kernel_rfl)
def s1s(x:Z96):Ht Bool:=zK 393 x
def s0k(g:Z88→Ht s8d)(x:Z88):Ht s8d:=cond (decide (x.2.2<(x.1.length:Int))) (((cond (y4q x.2.2 x.1.length) (cond (decide ((rdL u0a x.1 x.2.2.toNat).2.1=3)) (cond (y4q x.2.2 x.1.length) ((u28 (x.2.1,rdL u0a x.1 x.2.2.toNat)).bind fun y1=>some y1) none) (some false)) none):Ht Bool).bind fun j2=>cond j2 (some (.inr true)) (g (x.1,x.2.1,IntKind.i64.wrap (x.2.2+1)))) (some (.inl ()))
def s0r:=lpW _ _ s0k
theorem q10 x:s0r x=s0k s0r x:=zW q1l 393 Tryz.f393 2 26 x (by kernel_rfl)
def q70 (x:Z96):Ht Bool:=(s0r (x.2,x.1,0)).bind fun r3=>match r3 with | .inl o4=>some false | .inr z5=>some z5
theorem o00:s1s=q70:=zC 393 rfl Tryz.func393 (by kernel_rfl)
def u6p(x:Z42):Ht u61:=zK 333 x
def t33(g:Z3→Ht (Z20⊕Unit))(x:Z3):Ht (Z20⊕Unit):=cond (decide (x.2.2.2.2.2<(x.1.2.2.1.length:Int))) (cond (y4q x.2.2.2.2.2 x.1.2.2.1.length) ((u0z (rdL u0a x.1.2.2.1 x.2.2.2.2.2.toNat)).bind fun y4=>cond (decide (y4.1=x.2.1.1)) (g (x.1,x.2.1,x.2.2.1,x.2.2.2.1,x.2.2.2.2.1,IntKind.i64.wrap (x.2.2.2.2.2+1))) ((u28 (y4,x.2.2.2.2.1)).bind fun y5=>cond y5 (cond (Nat.ble (x.2.2.2.1.2.2.1.length+([(y4.1,y4.2.1,y4.2.2.1,y4.2.2.2.1,y4.2.2.2.2.1,y4.2.2.2.2.2.1,true,y4.2.2.2.2.2.2.2)]:Hu u0a.den).length) z7w) (g (x.1,x.2.1,x.2.2.1,(x.2.2.2.1.1,x.2.2.2.1.2.1,x.2.2.2.1.2.2.1++([(y4.1,y4.2.1,y4.2.2.1,y4.2.2.2.1,y4.2.2.2.2.1,y4.2.2.2.2.2.1,true,y4.2.2.2.2.2.2.2)]:Hu u0a.den),x.2.2.2.1.2.2.2),x.2.2.2.2.1,IntKind.i64.wrap (x.2.2.2.2.2+1))) none) (cond (Nat.ble (x.2.2.2.1.2.2.1.length+([y4]:Hu u0a.den).length) z7w) (g (x.1,x.2.1,x.2.2.1,(x.2.2.2.1.1,x.2.2.2.1.2.1,x.2.2.2.1.2.2.1++([y4]:Hu u0a.den),x.2.2.2.1.2.2.2),x.2.2.2.2.1,IntKind.i64.wrap (x.2.2.2.2.2+1))) none))) none) (some (.inl (x.2.1,x.2.2.1,x.2.2.2.1)))
def u6v:=lpW _ _ t33
theorem r0p x:u6v x=t33 u6v x:=zW s9r 333 Tryz.f333 12 85 x (by kernel_rfl)
def q0j (x:Z42):Ht u61:=(u2u x.1).bind fun y1=>(u0z x.2).bind fun y2=>cond x.2.2.2.2.2.2.2.1 ((u70 (x.1.1,y2.2.2.2.2.2.1,IntKind.i64.wrap (x.1.2.2.2.1+1))).bind fun y3=>cond (Nat.ble (y1.2.1.length+([(y2.1,3,y2.2.2.1,IntKind.i64.wrap (x.1.2.2.2.1+1),y2.2.2.2.2.1,y2.2.2.2.2.2.1,true,(⟨#[]⟩:Hs))]:Hu u0a.den).length) z7w) ((u6v (x.1,x.2,(([]:Hu u0d.den),([]:Hu u0a.den),([]:Hu u0a.den),0,0),(y3,y1.2.1++([(y2.1,3,y2.2.2.1,IntKind.i64.wrap (x.1.2.2.2.1+1),y2.2.2.2.2.1,y2.2.2.2.2.2.1,true,(⟨#[]⟩:Hs))]:Hu u0a.den),([]:Hu u0a.den),IntKind.i64.wrap (x.1.2.2.2.1+1),y1.2.2.2.2),(y2.1,3,y2.2.2.1,IntKind.i64.wrap (x.1.2.2.2.1+1),y2.2.2.2.2.1,y2.2.2.2.2.2.1,true,(⟨#[]⟩:Hs)),0)).bind fun r6=>match r6 with | .inl o7=>cond (decide (o7.1.1≥o7.2.2.2.2.2.2)) (some (o7.2.2.1,o7.2.2.2.1,o7.2.2.2.2.1,o7.2.2.2.2.2.1,IntKind.i64.wrap (o7.1.1+1))) (some o7.2.2) | .inr z8=>none) none) ((s1s (x.2,x.1.2.1)).bind fun y9=>(u70 (x.1.1,y2.2.2.2.2.2.1,IntKind.i64.wrap (x.1.2.2.2.1+1))).bind fun y10=>cond (Nat.ble (y1.2.1.length+([(y2.1,3,y2.2.2.1,IntKind.i64.wrap (x.1.2.2.2.1+1),y2.2.2.2.2.1,y2.2.2.2.2.2.1,y9,(⟨#[]⟩:Hs))]:Hu u0a.den).length) z7w) ((u6v (x.1,x.2,(([]:Hu u0d.den),([]:Hu u0a.den),([]:Hu u0a.den),0,0),(y10,y1.2.1++([(y2.1,3,y2.2.2.1,IntKind.i64.wrap (x.1.2.2.2.1+1),y2.2.2.2.2.1,y2.2.2.2.2.2.1,y9,(⟨#[]⟩:Hs))]:Hu u0a.den),([]:Hu u0a.den),IntKind.i64.wrap (x.1.2.2.2.1+1),y1.2.2.2.2),(y2.1,3,y2.2.2.1,IntKind.i64.wrap (x.1.2.2.2.1+1),y2.2.2.2.2.1,y2.2.2.2.2.2.1,y9,(⟨#[]⟩:Hs)),0)).bind fun r13=>match r13 with | .inl o14=>cond (decide (o14.1.1≥o14.2.2.2.2.2.2)) (some (o14.2.2.1,o14.2.2.2.1,o14.2.2.2.2.1,o14.2.2.2.2.2.1,IntKind.i64.wrap (o14.1.1+1))) (some o14.2.2) | .inr z15=>none) none)
theorem p4y:u6p=q0j:=zC 333 rfl Tryz.func333 (by kernel_rfl)
def s04(x:o82):Ht u61:=zK 334 x
def t6i(g:Z14→Ht (Z35⊕Unit))(x:Z14):Ht (Z35⊕Unit):=cond (decide (x.2.2.2.2<(x.2.1.2.2.1.length:Int))) (cond (y4q x.2.2.2.2 x.2.1.2.2.1.length) (cond (!z7o (rdL u0a x.2.1.2.2.1 x.2.2.2.2.toNat).2.2.2.2.2.2.2 x.1) (cond (y4q x.2.2.2.2 x.2.1.2.2.1.length) ((u0z (rdL u0a x.2.1.2.2.1 x.2.2.2.2.toNat)).bind fun y2=>cond (Nat.ble (x.2.2.2.1.2.2.1.length+([y2]:Hu u0a.den).length) z7w) (g (x.1,x.2.1,x.2.2.1,(x.2.2.2.1.1,x.2.2.2.1.2.1,x.2.2.2.1.2.2.1++([y2]:Hu u0a.den),x.2.2.2.1.2.2.2),IntKind.i64.wrap (x.2.2.2.2+1))) none) none) (g (x.1,x.2.1,x.2.2.1,x.2.2.2.1,IntKind.i64.wrap (x.2.2.2.2+1)))) none) (some (.inl (x.2.2.1,x.2.2.2.1)))
def t0p:=lpW _ _ t6i
theorem r40 x:t0p x=t6i t0p x:=zW r3x 334 Tryz.f334 4 38 x (by kernel_rfl)
def r99 (x:o82):Ht u61:=(u2u x.1).bind fun y1=>(t0p (x.2,x.1,(([]:Hu u0d.den),([]:Hu u0a.den),([]:Hu u0a.den),0,0),(y1.1,y1.2.1,([]:Hu u0a.den),y1.2.2.2),0)).bind fun r3=>match r3 with | .inl o4=>some o4.2 | .inr z5=>none
theorem p4o:s04=r99:=zC 334 rfl Tryz.func334 (by kernel_rfl)
def u54(x:Z38):Ht u61:=zK 346 x
def t14(g:Z1→Ht (Z2⊕Unit))(x:Z1):Ht (Z2⊕Unit):=cond (decide (x.2.2.2.2.2.2<(x.2.1.2.2.1.length:Int))) (cond (y4q x.2.2.2.2.2.2 x.2.1.2.2.1.length) (cond (y3c (rdL u0a x.2.1.2.2.1 x.2.2.2.2.2.2.toNat).2.2.2.2.2.2.2 x.1) (cond (y4q x.2.2.2.2.2.2 x.2.1.2.2.1.length) ((u0z (rdL u0a x.2.1.2.2.1 x.2.2.2.2.2.2.toNat)).bind fun y3=>cond (Nat.ble (x.2.2.2.2.1.2.2.1.length+([y3]:Hu u0a.den).length) z7w) (g (x.1,x.2.1,x.2.2.1,x.2.2.2.1,(x.2.2.2.2.1.1,x.2.2.2.2.1.2.1,x.2.2.2.2.1.2.2.1++([y3]:Hu u0a.den),x.2.2.2.2.1.2.2.2),x.2.2.2.2.2.1,IntKind.i64.wrap (x.2.2.2.2.2.2+1))) none) none) (g (x.1,x.2.1,x.2.2.1,x.2.2.2.1,x.2.2.2.2.1,x.2.2.2.2.2.1,IntKind.i64.wrap (x.2.2.2.2.2.2+1)))) none) (some (.inl (x.1,x.2.1,x.2.2.1,x.2.2.2.1,x.2.2.2.2.1,x.2.2.2.2.2.1)))
def u5s:=lpW _ _ t14
theorem s7e x:u5s x=t14 u5s x:=zW s6m 346 Tryz.f346 8 97 x (by kernel_rfl)
def u9l(g:Z6→Ht (Z20⊕Unit))(x:Z6):Ht (Z20⊕Unit):=cond (decide (x.2.2.2.2.2<(x.2.1.2.2.1.length:Int))) (cond (y4q x.2.2.2.2.2 x.2.1.2.2.1.length) (cond (!y3c (rdL u0a x.2.1.2.2.1 x.2.2.2.2.2.toNat).2.2.2.2.2.2.2 x.1) (cond (y4q x.2.2.2.2.2 x.2.1.2.2.1.length) ((u0z (rdL u0a x.2.1.2.2.1 x.2.2.2.2.2.toNat)).bind fun y6=>cond (Nat.ble (x.2.2.2.2.1.2.2.1.length+([y6]:Hu u0a.den).length) z7w) (g (x.1,x.2.1,x.2.2.1,x.2.2.2.1,(x.2.2.2.2.1.1,x.2.2.2.2.1.2.1,x.2.2.2.2.1.2.2.1++([y6]:Hu u0a.den),x.2.2.2.2.1.2.2.2),IntKind.i64.wrap (x.2.2.2.2.2+1))) none) none) (g (x.1,x.2.1,x.2.2.1,x.2.2.2.1,x.2.2.2.2.1,IntKind.i64.wrap (x.2.2.2.2.2+1)))) none) (some (.inl (x.2.2.1,x.2.2.2.1,x.2.2.2.2.1)))
def u46:=lpW _ _ u9l
theorem s5h x:u46 x=u9l u46 x:=zW s4g 346 Tryz.f346 14 97 x (by kernel_rfl)
def r21 (x:Z38):Ht u61:=(u2u x.1).bind fun y1=>(u0z x.2.1).bind fun y2=>cond x.2.1.2.2.2.2.2.2.1 ((u5s (x.2.2,x.1,x.2.1,(([]:Hu u0d.den),([]:Hu u0a.den),([]:Hu u0a.den),0,0),(y1.1,y1.2.1,([]:Hu u0a.den),y1.2.2.2),(y2.1,2,y2.2.2.1,y2.2.2.2.1,y2.2.2.2.2.1,y2.2.2.2.2.2.1,true,x.2.2),0)).bind fun r4=>match r4 with | .inl o5=>cond (Nat.ble (o5.2.2.2.2.1.2.2.1.length+([o5.2.2.2.2.2]:Hu u0a.den).length) z7w) ((u46 (o5.1,o5.2.1,o5.2.2.1,o5.2.2.2.1,(o5.2.2.2.2.1.1,o5.2.2.2.2.1.2.1,o5.2.2.2.2.1.2.2.1++([o5.2.2.2.2.2]:Hu u0a.den),o5.2.2.2.2.1.2.2.2),0)).bind fun r7=>match r7 with | .inl o8=>cond (decide (o8.1.1≥o8.2.2.2.2.2.2)) (some (o8.2.2.1,o8.2.2.2.1,o8.2.2.2.2.1,o8.2.2.2.2.2.1,IntKind.i64.wrap (o8.1.1+1))) (some o8.2.2) | .inr z9=>none) none | .inr z10=>none) ((s1s (x.2.1,x.1.2.1)).bind fun y11=>(u5s (x.2.2,x.1,x.2.1,(([]:Hu u0d.den),([]:Hu u0a.den),([]:Hu u0a.den),0,0),(y1.1,y1.2.1,([]:Hu u0a.den),y1.2.2.2),(y2.1,2,y2.2.2.1,y2.2.2.2.1,y2.2.2.2.2.1,y2.2.2.2.2.2.1,y11,x.2.2),0)).bind fun r13=>match r13 with | .inl o14=>cond (Nat.ble (o14.2.2.2.2.1.2.2.1.length+([o14.2.2.2.2.2]:Hu u0a.den).length) z7w) ((u46 (o14.1,o14.2.1,o14.2.2.1,o14.2.2.2.1,(o14.2.2.2.2.1.1,o14.2.2.2.2.1.2.1,o14.2.2.2.2.1.2.2.1++([o14.2.2.2.2.2]:Hu u0a.den),o14.2.2.2.2.1.2.2.2),0)).bind fun r16=>match r16 with | .inl o17=>cond (decide (o17.1.1≥o17.2.2.2.2.2.2)) (some (o17.2.2.1,o17.2.2.2.1,o17.2.2.2.2.1,o17.2.2.2.2.2.1,IntKind.i64.wrap (o17.1.1+1))) (some o17.2.2) | .inr z18=>none) none | .inr z19=>none)
theorem q9o:u54=r21:=zC 346 rfl Tryz.func346 (by kernel_rfl)
def s79(x:Z16):Ht o4k:=zK 258 x
def q02 (x:Z16):Ht o4k:=cond (decide (x.2.1=1)) (cond (!decide (x.2.2.1.2.2.2.1=(IntKind.i64.wrap (x.1.2.2.2.1+1)))) (some (x.1,false)) ((u6p (x.1,x.2.2.1)).bind fun y1=>some (y1,true))) (cond (decide (x.2.1=2)) (((cond (decide ((x.1.2.2.1.length:Int)≥(3:Int))) (some true) ((u2i (x.1,x.2.2.1.2.2.2.2.2.2.2)).bind fun y2=>some (decide (y2≥0)))):Ht Bool).bind fun j3=>cond j3 (some (x.1,false)) ((u54 (x.1,x.2.2.1,x.2.2.1.2.2.2.2.2.2.2)).bind fun y4=>some (y4,true))) (cond (decide (x.2.1=3)) ((u2i (x.1,x.2.2.2.1)).bind fun y5=>cond (decide (y5<0)) (some (x.1,false)) (cond x.2.2.2.2.1 (cond (y4q y5 x.1.2.2.1.length) ((u6p (x.1,rdL u0a x.1.2.2.1 y5.toNat)).bind fun y6=>some (y6,true)) none) ((s04 (x.1,x.2.2.2.1)).bind fun y7=>some (y7,true)))) ((u2u x.2.2.2.2.2).bind fun y8=>some (y8,true))))
theorem p5g:s79=q02:=zC 258 rfl Tryz.func258 (by kernel_rfl)
def r1m(x:Z16):Ht o4k:=zK 153 x
def q3s (x:Z16):Ht o4k:=(((u7z x.1).bind fun y1=>cond (!y1) (some true) ((t9i x.2).bind fun y2=>some (!y2))):Ht Bool).bind fun j3=>cond j3 ((u2u x.1).bind fun y4=>some (y4,false)) ((s79 x).bind fun y5=>cond (!y5.2) ((u2u x.1).bind fun y6=>some (y6,false)) ((t4w (y5.1,([]:Hu u0a.den))).bind fun y7=>(u7z y7).bind fun y8=>cond (!y8) ((u2u x.1).bind fun y9=>some (y9,false)) (some (y7,true))))
theorem p8e:r1m=q3s:=zC 153 rfl Tryz.func153 (by kernel_rfl)
def t1j(x:u99):Ht o4k:=zK 50 x
def t6l(g:Z28→Ht (Z35⊕o4k))(x:Z28):Ht (Z35⊕o4k):=cond (decide (x.2.2.2<(x.2.2.1.length:Int))) (cond (y4q x.2.2.2 x.2.2.1.length) ((t96 (rdL Ty.str x.2.2.1 x.2.2.2.toNat)).bind fun y3=>(r1m (x.2.1,y3.1)).bind fun y4=>((cond (!y3.2) (some true) (some (!y4.2))):Ht Bool).bind fun j5=>cond j5 (some (.inr ((([]:Hu u0d.den),([]:Hu u0a.den),([]:Hu u0a.den),0,0),false))) (g (x.1,y4.1,x.2.2.1,IntKind.i64.wrap (x.2.2.2+1)))) none) (some (.inl (x.1,x.2.1)))
def u5z:=lpW _ _ t6l
theorem r43 x:u5z x=t6l u5z x:=zW r30 50 Tryz.f50 4 43 x (by kernel_rfl)
def q0c (x:u99):Ht o4k:=(s7y ()).bind fun y1=>(t9f x).bind fun y2=>(u5z ((([]:Hu u0d.den),([]:Hu u0a.den),([]:Hu u0a.den),0,0),y1,y2,0)).bind fun r6=>match r6 with | .inl o7=>some (o7.2,true) | .inr z8=>some z8
theorem p4r:t1j=q0c:=zC 50 rfl Tryz.func50 (by kernel_rfl)
def t4t(x:u99):Ht Bool:=zK 375 x
def t8l(g:p3o→Ht j3l)(x:p3o):Ht j3l:=cond (decide (x.2<(x.1.1.length:Int))) (cond (y4q x.2 x.1.1.length) (cond (!decide (((rdL Ty.str x.1.1 x.2.toNat).size:Int)=(64:Int))) (some (.inr false)) (g (x.1,IntKind.i64.wrap (x.2+1)))) none) (some (.inl x.1))
def t8u:=lpW _ _ t8l
theorem r8j x:t8u x=t8l t8u x:=zW r7k 375 Tryz.f375 4 59 x (by kernel_rfl)
def t8m(g:p3o→Ht s8d)(x:p3o):Ht s8d:=cond (decide (x.2<(x.1.2.length:Int))) (((cond (y4q x.2 x.1.2.length) ((u0u ((rdL q98 x.1.2 x.2.toNat).1,0,IntKind.i64.wrap ((x.1.1.length:Int) - (1:Int)))).bind fun y5=>cond (!y5) (some true) (cond (y4q x.2 x.1.2.length) (some (!decide (((rdL q98 x.1.2 x.2.toNat).2.size:Int)=(64:Int)))) none)) none):Ht Bool).bind fun j6=>cond j6 (some (.inr false)) (g (x.1,IntKind.i64.wrap (x.2+1)))) (some (.inl ()))
def t8v:=lpW _ _ t8m
theorem r8k x:t8v x=t8m t8v x:=zW r7l 375 Tryz.f375 9 59 x (by kernel_rfl)
def q3m (x:u99):Ht Bool:=(((u0u ((x.1.length:Int),1,100)).bind fun y1=>cond (!y1) (some true) (some (decide ((x.2.length:Int)>(60:Int))))):Ht Bool).bind fun j2=>cond j2 (some false) ((t8u (x,0)).bind fun r3=>match r3 with | .inl o4=>((t8v (o4,0)).bind fun r7=>match r7 with | .inl o8=>some true | .inr z9=>some z9) | .inr z10=>some z10)
theorem p78:t4t=q3m:=zC 375 rfl Tryz.func375 (by kernel_rfl)
def s6w(x:u99):Ht Bool:=zK 303 x
def q7y (x:u99):Ht Bool:=(((t4t x).bind fun y1=>cond (!y1) (some true) ((u81 ()).bind fun y2=>cond (!decide ((x.1.length:Int)=y2)) (some true) (some (decide ((x.2.length:Int)>(0:Int)))))):Ht Bool).bind fun j3=>cond j3 (some false) ((u8z (x,0)).bind fun y4=>(u8z (x,1)).bind fun y5=>((cond y4.2.2 (some y5.2.2) (some false)):Ht Bool).bind fun j6=>some j6)
theorem o0y:s6w=q7y:=zC 303 rfl Tryz.func303 (by kernel_rfl)
def u4x(x:u99):Ht u99:=zK 351 x
def t13(g:j65→Ht j3j)(x:j65):Ht j3j:=cond (decide (x.2.2.2<(x.1.2.length:Int))) (cond (y4q x.2.2.2 x.1.2.length) (cond (y4q x.2.2.2 x.1.2.length) (cond (y4q (rdL q98 x.1.2 x.2.2.2.toNat).1 x.2.2.1.1.length) (g (x.1,x.2.1,(x.2.2.1.1.set ((rdL q98 x.1.2 x.2.2.2.toNat).1).toNat (rdL q98 x.1.2 x.2.2.2.toNat).2,x.2.2.1.2),IntKind.i64.wrap (x.2.2.2+1))) none) none) none) (some (.inl (x.2.1,x.2.2.1)))
def t2d:=lpW _ _ t13
theorem s7d x:t2d x=t13 t2d x:=zW s6l 351 Tryz.f351 5 36 x (by kernel_rfl)
def r20 (x:u99):Ht u99:=(u04 x).bind fun y1=>(t4t x).bind fun y2=>cond (!y2) (some y1) ((t2d (x,(([]:Hu Hs),([]:Hu q98.den)),y1,0)).bind fun r3=>match r3 with | .inl o4=>some (o4.2.1,([]:Hu q98.den)) | .inr z5=>none)
theorem q9n:u4x=r20:=zC 351 rfl Tryz.func351 (by kernel_rfl)
def u71(x:o4l):Ht r0w:=zK 352 x
def s55 (x:o4l):Ht r0w:=(u04 x.1).bind fun y1=>(((t4t x.1).bind fun y2=>cond (!y2) (some true) ((u0u (x.2.1,0,IntKind.i64.wrap ((x.1.1.length:Int) - (1:Int)))).bind fun y3=>cond (!y3) (some true) (cond (!decide ((x.2.2.size:Int)=(64:Int))) (some true) (some (decide ((x.1.2.length:Int)≥(60:Int))))))):Ht Bool).bind fun j4=>cond j4 (some (y1,false)) (cond (Nat.ble (y1.2.length+([x.2]:Hu q98.den).length) z7w) (some ((y1.1,y1.2++([x.2]:Hu q98.den)),true)) none)
theorem q4u:u71=s55:=zC 352 rfl Tryz.func352 (by kernel_rfl)
def u5a(x:j5j):Ht r0w:=zK 349 x
def t7l(g:Z72→Ht j3m)(x:Z72):Ht j3m:=cond (decide (x.2.2.2.2.2.2<(x.2.2.1.size:Int))) (cond (decide ((IntKind.i64.wrap ((64:Int) - (Int.tmod (IntKind.i64.wrap (x.2.1+x.2.2.2.2.2.2)) (64:Int))))>(IntKind.i64.wrap ((x.2.2.1.size:Int) - x.2.2.2.2.2.2)))) ((u6w (x.2.2.2.2.2.1,IntKind.i64.wrap (x.1+(IntKind.i64.wrap (Int.tdiv (IntKind.i64.wrap (x.2.1+x.2.2.2.2.2.2)) (64:Int)))))).bind fun y6=>((cond (!y6.2) (some true) (some (!decide ((y6.1.size:Int)=(64:Int))))):Ht Bool).bind fun j7=>cond j7 ((u04 x.2.2.2.1).bind fun y8=>some (.inr (y8,false))) (cond (decide (0≤(0:Int))&&decide ((0:Int)≤(Int.tmod (IntKind.i64.wrap (x.2.1+x.2.2.2.2.2.2)) (64:Int)))&&decide ((Int.tmod (IntKind.i64.wrap (x.2.1+x.2.2.2.2.2.2)) (64:Int))≤(y6.1.size:Int))) (cond (decide (0≤x.2.2.2.2.2.2)&&decide (x.2.2.2.2.2.2≤(IntKind.i64.wrap (x.2.2.2.2.2.2+(IntKind.i64.wrap ((x.2.2.1.size:Int) - x.2.2.2.2.2.2)))))&&decide ((IntKind.i64.wrap (x.2.2.2.2.2.2+(IntKind.i64.wrap ((x.2.2.1.size:Int) - x.2.2.2.2.2.2))))≤(x.2.2.1.size:Int))) (cond (decide ((y6.1.extract (0:Int).toNat (Int.tmod (IntKind.i64.wrap (x.2.1+x.2.2.2.2.2.2)) (64:Int)).toNat).size+(x.2.2.1.extract x.2.2.2.2.2.2.toNat (IntKind.i64.wrap (x.2.2.2.2.2.2+(IntKind.i64.wrap ((x.2.2.1.size:Int) - x.2.2.2.2.2.2)))).toNat).size≤140737488355328)) (cond (decide (0≤(IntKind.i64.wrap ((Int.tmod (IntKind.i64.wrap (x.2.1+x.2.2.2.2.2.2)) (64:Int))+(IntKind.i64.wrap ((x.2.2.1.size:Int) - x.2.2.2.2.2.2)))))&&decide ((IntKind.i64.wrap ((Int.tmod (IntKind.i64.wrap (x.2.1+x.2.2.2.2.2.2)) (64:Int))+(IntKind.i64.wrap ((x.2.2.1.size:Int) - x.2.2.2.2.2.2))))≤(y6.1.size:Int))&&decide ((y6.1.size:Int)≤(y6.1.size:Int))) (cond (decide (((y6.1.extract (0:Int).toNat (Int.tmod (IntKind.i64.wrap (x.2.1+x.2.2.2.2.2.2)) (64:Int)).toNat)++(x.2.2.1.extract x.2.2.2.2.2.2.toNat (IntKind.i64.wrap (x.2.2.2.2.2.2+(IntKind.i64.wrap ((x.2.2.1.size:Int) - x.2.2.2.2.2.2)))).toNat)).size+(y6.1.extract (IntKind.i64.wrap ((Int.tmod (IntKind.i64.wrap (x.2.1+x.2.2.2.2.2.2)) (64:Int))+(IntKind.i64.wrap ((x.2.2.1.size:Int) - x.2.2.2.2.2.2)))).toNat (y6.1.size:Int).toNat).size≤140737488355328)) ((u71 (x.2.2.2.2.2.1,IntKind.i64.wrap (x.1+(IntKind.i64.wrap (Int.tdiv (IntKind.i64.wrap (x.2.1+x.2.2.2.2.2.2)) (64:Int)))),((y6.1.extract (0:Int).toNat (Int.tmod (IntKind.i64.wrap (x.2.1+x.2.2.2.2.2.2)) (64:Int)).toNat)++(x.2.2.1.extract x.2.2.2.2.2.2.toNat (IntKind.i64.wrap (x.2.2.2.2.2.2+(IntKind.i64.wrap ((x.2.2.1.size:Int) - x.2.2.2.2.2.2)))).toNat))++(y6.1.extract (IntKind.i64.wrap ((Int.tmod (IntKind.i64.wrap (x.2.1+x.2.2.2.2.2.2)) (64:Int))+(IntKind.i64.wrap ((x.2.2.1.size:Int) - x.2.2.2.2.2.2)))).toNat (y6.1.size:Int).toNat))).bind fun y9=>cond (!y9.2) ((u04 x.2.2.2.1).bind fun y10=>some (.inr (y10,false))) (g (x.1,x.2.1,x.2.2.1,x.2.2.2.1,x.2.2.2.2.1,y9.1,IntKind.i64.wrap (x.2.2.2.2.2.2+(IntKind.i64.wrap ((x.2.2.1.size:Int) - x.2.2.2.2.2.2)))))) none) none) none) none) none)) ((u6w (x.2.2.2.2.2.1,IntKind.i64.wrap (x.1+(IntKind.i64.wrap (Int.tdiv (IntKind.i64.wrap (x.2.1+x.2.2.2.2.2.2)) (64:Int)))))).bind fun y11=>((cond (!y11.2) (some true) (some (!decide ((y11.1.size:Int)=(64:Int))))):Ht Bool).bind fun j12=>cond j12 ((u04 x.2.2.2.1).bind fun y13=>some (.inr (y13,false))) (cond (decide (0≤(0:Int))&&decide ((0:Int)≤(Int.tmod (IntKind.i64.wrap (x.2.1+x.2.2.2.2.2.2)) (64:Int)))&&decide ((Int.tmod (IntKind.i64.wrap (x.2.1+x.2.2.2.2.2.2)) (64:Int))≤(y11.1.size:Int))) (cond (decide (0≤x.2.2.2.2.2.2)&&decide (x.2.2.2.2.2.2≤(IntKind.i64.wrap (x.2.2.2.2.2.2+(IntKind.i64.wrap ((64:Int) - (Int.tmod (IntKind.i64.wrap (x.2.1+x.2.2.2.2.2.2)) (64:Int)))))))&&decide ((IntKind.i64.wrap (x.2.2.2.2.2.2+(IntKind.i64.wrap ((64:Int) - (Int.tmod (IntKind.i64.wrap (x.2.1+x.2.2.2.2.2.2)) (64:Int))))))≤(x.2.2.1.size:Int))) (cond (decide ((y11.1.extract (0:Int).toNat (Int.tmod (IntKind.i64.wrap (x.2.1+x.2.2.2.2.2.2)) (64:Int)).toNat).size+(x.2.2.1.extract x.2.2.2.2.2.2.toNat (IntKind.i64.wrap (x.2.2.2.2.2.2+(IntKind.i64.wrap ((64:Int) - (Int.tmod (IntKind.i64.wrap (x.2.1+x.2.2.2.2.2.2)) (64:Int)))))).toNat).size≤140737488355328)) (cond (decide (0≤(IntKind.i64.wrap ((Int.tmod (IntKind.i64.wrap (x.2.1+x.2.2.2.2.2.2)) (64:Int))+(IntKind.i64.wrap ((64:Int) - (Int.tmod (IntKind.i64.wrap (x.2.1+x.2.2.2.2.2.2)) (64:Int)))))))&&decide ((IntKind.i64.wrap ((Int.tmod (IntKind.i64.wrap (x.2.1+x.2.2.2.2.2.2)) (64:Int))+(IntKind.i64.wrap ((64:Int) - (Int.tmod (IntKind.i64.wrap (x.2.1+x.2.2.2.2.2.2)) (64:Int))))))≤(y11.1.size:Int))&&decide ((y11.1.size:Int)≤(y11.1.size:Int))) (cond (decide (((y11.1.extract (0:Int).toNat (Int.tmod (IntKind.i64.wrap (x.2.1+x.2.2.2.2.2.2)) (64:Int)).toNat)++(x.2.2.1.extract x.2.2.2.2.2.2.toNat (IntKind.i64.wrap (x.2.2.2.2.2.2+(IntKind.i64.wrap ((64:Int) - (Int.tmod (IntKind.i64.wrap (x.2.1+x.2.2.2.2.2.2)) (64:Int)))))).toNat)).size+(y11.1.extract (IntKind.i64.wrap ((Int.tmod (IntKind.i64.wrap (x.2.1+x.2.2.2.2.2.2)) (64:Int))+(IntKind.i64.wrap ((64:Int) - (Int.tmod (IntKind.i64.wrap (x.2.1+x.2.2.2.2.2.2)) (64:Int)))))).toNat (y11.1.size:Int).toNat).size≤140737488355328)) ((u71 (x.2.2.2.2.2.1,IntKind.i64.wrap (x.1+(IntKind.i64.wrap (Int.tdiv (IntKind.i64.wrap (x.2.1+x.2.2.2.2.2.2)) (64:Int)))),((y11.1.extract (0:Int).toNat (Int.tmod (IntKind.i64.wrap (x.2.1+x.2.2.2.2.2.2)) (64:Int)).toNat)++(x.2.2.1.extract x.2.2.2.2.2.2.toNat (IntKind.i64.wrap (x.2.2.2.2.2.2+(IntKind.i64.wrap ((64:Int) - (Int.tmod (IntKind.i64.wrap (x.2.1+x.2.2.2.2.2.2)) (64:Int)))))).toNat))++(y11.1.extract (IntKind.i64.wrap ((Int.tmod (IntKind.i64.wrap (x.2.1+x.2.2.2.2.2.2)) (64:Int))+(IntKind.i64.wrap ((64:Int) - (Int.tmod (IntKind.i64.wrap (x.2.1+x.2.2.2.2.2.2)) (64:Int)))))).toNat (y11.1.size:Int).toNat))).bind fun y14=>cond (!y14.2) ((u04 x.2.2.2.1).bind fun y15=>some (.inr (y15,false))) (g (x.1,x.2.1,x.2.2.1,x.2.2.2.1,x.2.2.2.2.1,y14.1,IntKind.i64.wrap (x.2.2.2.2.2.2+(IntKind.i64.wrap ((64:Int) - (Int.tmod (IntKind.i64.wrap (x.2.1+x.2.2.2.2.2.2)) (64:Int)))))))) none) none) none) none) none))) (some (.inl (x.2.2.2.2.1,x.2.2.2.2.2.1)))
def u47:=lpW _ _ t7l
theorem q2v x:u47 x=t7l u47 x:=zW s4k 349 Tryz.f349 5 111 x (by kernel_rfl)
def s8w (x:j5j):Ht r0w:=(u04 x.1).bind fun y1=>(((u0u (x.2.2.1,0,6400)).bind fun y2=>cond (!y2) (some true) ((u0u (x.2.1,0,IntKind.i64.wrap ((x.1.1.length:Int) - (1:Int)))).bind fun y3=>cond (!y3) (some true) ((t4t x.1).bind fun y4=>some (!y4)))):Ht Bool).bind fun j5=>cond j5 (some (y1,false)) ((u47 (x.2.1,x.2.2.1,x.2.2.2,x.1,(([]:Hu Hs),([]:Hu q98.den)),y1,0)).bind fun r16=>match r16 with | .inl o17=>some (o17.2,true) | .inr z18=>some z18)
theorem q6o:u5a=s8w:=zC 349 rfl Tryz.func349 (by kernel_rfl)
def u95(x:Int):Ht Hs:=zK 350 x
def q31 (x:Int):Ht Hs:=some (y7g ([(IntKind.u8.wrap x)]:Hu Int))
theorem r1b:u95=q31:=zC 350 rfl Tryz.func350 (by kernel_rfl)
def t9l(x:j0y):Ht r0w:=zK 379 x
def r6z (x:j0y):Ht r0w:=(u53 x.2.1).bind fun y1=>(u95 x.2.2).bind fun y2=>(u5a (x.1,y1,0,y2)).bind fun y3=>some y3
theorem p2e:t9l=r6z:=zC 379 rfl Tryz.func379 (by kernel_rfl)
def s47(x:o4l):Ht r0w:=zK 377 x
def r6y (x:o4l):Ht r0w:=(u8z (x.1,x.2.1)).bind fun y1=>((cond (!y1.2.2) (some true) (cond (z7o x.2.2 (⟨#[]⟩:Hs)) (some true) (cond (decide ((x.2.2.size:Int)>(3008:Int))) (some true) ((t5o (x.1,x.2.1)).bind fun y2=>some (decide (y2≥255)))))):Ht Bool).bind fun j3=>cond j3 ((u04 x.1).bind fun y4=>some (y4,false)) ((u10 (x.2.2.size:Int)).bind fun y5=>cond (decide (y5.size+x.2.2.size≤140737488355328)) (cond (decide (((y5++x.2.2).size:Int)>(IntKind.i64.wrap ((3008:Int) - y1.2.1)))) ((u04 x.1).bind fun y6=>some (y6,false)) ((u53 x.2.1).bind fun y7=>(u5a (x.1,IntKind.i64.wrap (y7+1),y1.2.1,y5++x.2.2)).bind fun y8=>some y8)) none)
theorem p2d:s47=r6y:=zC 377 rfl Tryz.func377 (by kernel_rfl)
def s3n(x:o4l):Ht r0w:=zK 405 x
def q32 (x:o4l):Ht r0w:=(s47 x).bind fun y1=>cond (!y1.2) (some (y1.1,false)) ((u4x y1.1).bind fun y2=>(t5o (x.1,x.2.1)).bind fun y3=>(t9l (y2,x.2.1,IntKind.i64.wrap (y3+1))).bind fun y4=>(u4x y4.1).bind fun y5=>some (y5,y4.2))
theorem p8n:s3n=q32:=zC 405 rfl Tryz.func405 (by kernel_rfl)
def s76(x:j0x):Ht r0w:=zK 353 x
def t0e(g:j78→Ht (j8t⊕Unit))(x:j78):Ht (j8t⊕Unit):=((cond (decide (x.2.2.2.2.2<(x.1.length:Int))) (some x.2.2.2.2.1) (some false)):Ht Bool).bind fun j4=>cond j4 (cond (y4q x.2.2.2.2.2 x.1.length) ((s3n (x.2.2.2.1,x.2.2.1,rdL Ty.str x.1 x.2.2.2.2.2.toNat)).bind fun y5=>g (x.1,x.2.1,x.2.2.1,y5.1,y5.2,IntKind.i64.wrap (x.2.2.2.2.2+1))) none) (some (.inl (x.2.1,x.2.2.2.1,x.2.2.2.2.1)))
def t0w:=lpW _ _ t0e
theorem s2o x:t0w x=t0e t0w x:=zW r4c 353 Tryz.f353 5 42 x (by kernel_rfl)
def q0w (x:j0x):Ht r0w:=(t3d x.1).bind fun y1=>(t9l (x.1,IntKind.i64.wrap ((1:Int) - y1),0)).bind fun y2=>(u4x y2.1).bind fun y3=>(t0w (x.2,(([]:Hu Hs),([]:Hu q98.den)),IntKind.i64.wrap ((1:Int) - y1),y3,y2.2,0)).bind fun r6=>match r6 with | .inl o7=>some o7.2 | .inr z8=>none
theorem p5a:s76=q0w:=zC 353 rfl Tryz.func353 (by kernel_rfl)
def s77(x:u99):Ht r0w:=zK 354 x
def q0x (x:u99):Ht r0w:=(t5r (x,0)).bind fun y1=>(u95 (IntKind.i64.wrap (y1+1))).bind fun y2=>(u5a (x,0,0,y2)).bind fun y3=>some y3
theorem p5b:s77=q0x:=zC 354 rfl Tryz.func354 (by kernel_rfl)
def t7h(x:j0x):Ht r0w:=zK 262 x
def r25 (x:j0x):Ht r0w:=(s6w x.1).bind fun y1=>cond (!y1) ((u04 x.1).bind fun y2=>some (y2,false)) ((s76 x).bind fun y3=>cond (!y3.2) ((u04 x.1).bind fun y4=>some (y4,false)) ((s77 y3.1).bind fun y5=>cond (!y5.2) ((u04 x.1).bind fun y6=>some (y6,false)) ((u4x y5.1).bind fun y7=>some (y7,true))))
theorem q9s:t7h=r25:=zC 262 rfl Tryz.func262 (by kernel_rfl)
def t9p(x:u99):Ht r0w:=zK 156 x
def r62 (x:u99):Ht r0w:=(t1j x).bind fun y1=>(u3p (4,(0,0,0,0,([]:Hu q7m.den),([]:Hu u2f.den),false,(⟨#[]⟩:Hs)),(⟨#[]⟩:Hs),false,y1.1)).bind fun y2=>((cond (!y1.2) (some true) (some (!y2.2))):Ht Bool).bind fun j3=>cond j3 ((u04 x).bind fun y4=>some (y4,false)) ((t7h (x,([y2.1]:Hu Hs))).bind fun y5=>some y5)
theorem p2h:t9p=r62:=zC 156 rfl Tryz.func156 (by kernel_rfl)
def u5k(x:Z51):Ht Z45:=zK 52 x
def s34 (x:Z51):Ht Z45:=(t5t x).bind fun y1=>(t9p x.2).bind fun y2=>cond y2.2 (some ((y1.1,y2.1),y2.2)) (some (y1,y2.2))
theorem r66:u5k=s34:=zC 52 rfl Tryz.func52 (by kernel_rfl)
def u2a(x:j9w):Ht j3h:=zK 187 x
def q0q (x:j9w):Ht j3h:=(u0m (x.1,(x.2.length:Int))).bind fun y1=>cond (y4q y1.1 x.2.length) (some (rdL Ty.str x.2 y1.1.toNat,y1.2)) none
theorem p45:u2a=q0q:=zC 187 rfl Tryz.func187 (by kernel_rfl)
def u12(x:j1c):Ht (Bool×s5m):=zK 189 x
def q0p (x:j1c):Ht (Bool×s5m):=(u0m x).bind fun y1=>some (decide (y1.1=0),y1.2)
theorem p44:u12=q0p:=zC 189 rfl Tryz.func189 (by kernel_rfl)
def t7f(x:j79):Ht j3c:=zK 358 x
def t16(g:Z21→Ht (Z23⊕j3c))(x:Z21):Ht (Z23⊕j3c):=cond (decide (x.2.2.2.2<(x.1.2.2.2.2.1.length:Int))) (cond (y4q x.2.2.2.2 x.1.2.2.2.2.1.length) (cond (z7o (rdL q7m x.1.2.2.2.2.1 x.2.2.2.2.toNat).1 x.2.1.1&&(z7o (rdL q7m x.1.2.2.2.2.1 x.2.2.2.2.toNat).2 x.2.1.2&&true)) (some (.inr (x.2.2.2.1,true))) (g (x.1,x.2.1,x.2.2.1,x.2.2.2.1,IntKind.i64.wrap (x.2.2.2.2+1)))) none) (some (.inl (x.1,x.2.1,x.2.2.1,x.2.2.2.1)))
def u7w:=lpW _ _ t16
theorem s7g x:u7w x=t16 u7w x:=zW s6o 358 Tryz.f358 5 51 x (by kernel_rfl)
def r23 (x:j79):Ht j3c:=(u0z x.1).bind fun y1=>(((u6q x.1).bind fun y2=>cond (!y2) (some true) (cond (!decide (x.1.2.1=1)) (some true) ((t5p x.2).bind fun y3=>some (!y3)))):Ht Bool).bind fun j4=>cond j4 (some (y1,false)) ((u7w (x.1,x.2,(0,0,0,0,([]:Hu q7m.den),([]:Hu u2f.den),false,(⟨#[]⟩:Hs)),y1,0)).bind fun r5=>match r5 with | .inl o6=>cond (decide ((o6.1.2.2.2.2.1.length:Int)≥(8:Int))) (some (o6.2.2.2,false)) (cond (Nat.ble (o6.2.2.2.2.2.2.2.1.length+([o6.2.1]:Hu q7m.den).length) z7w) (some ((o6.2.2.2.1,o6.2.2.2.2.1,o6.2.2.2.2.2.1,o6.2.2.2.2.2.2.1,o6.2.2.2.2.2.2.2.1++([o6.2.1]:Hu q7m.den),o6.2.2.2.2.2.2.2.2),true)) none) | .inr z7=>some z7)
theorem q9q:t7f=r23:=zC 358 rfl Tryz.func358 (by kernel_rfl)
def r1n(x:j00):Ht s5n:=zK 20 x
def q3v (x:j00):Ht s5n:=(s6z x).bind fun y1=>((cond (decide (y1<0)) (some true) (cond (y4q y1 x.1.length) (some (rdL u0d x.1 y1.toNat).2.2.1) none)):Ht Bool).bind fun j2=>cond j2 (some ((⟨#[]⟩:Hs),false)) (cond (y4q y1 x.1.length) (some ((rdL u0d x.1 y1.toNat).2.1,true)) none)
theorem p8h:r1n=q3v:=zC 20 rfl Tryz.func20 (by kernel_rfl)
def s3k(x:Z99):Ht s5n:=zK 359 x
def t2q(g:Z89→Ht (j74⊕s5n))(x:Z89):Ht (j74⊕s5n):=cond (decide (x.2.2.2<(x.2.2.1.2.2.2.2.2.1.length:Int))) (cond (y4q x.2.2.2 x.2.2.1.2.2.2.2.2.1.length) (cond (z7o (rdL u2f x.2.2.1.2.2.2.2.2.1 x.2.2.2.toNat).1 x.2.1) (cond (y4q x.2.2.2 x.2.2.1.2.2.2.2.2.1.length) (cond (rdL u2f x.2.2.1.2.2.2.2.2.1 x.2.2.2.toNat).2.2 (some (.inr ((⟨#[]⟩:Hs),false))) (cond (y4q x.2.2.2 x.2.2.1.2.2.2.2.2.1.length) (some (.inr ((rdL u2f x.2.2.1.2.2.2.2.2.1 x.2.2.2.toNat).2.1,true))) none)) none) (g (x.1,x.2.1,x.2.2.1,IntKind.i64.wrap (x.2.2.2+1)))) none) (some (.inl (x.1,x.2.1,x.2.2.1)))
def t2y:=lpW _ _ t2q
theorem r8m x:t2y x=t2q t2y x:=zW r7n 359 Tryz.f359 2 43 x (by kernel_rfl)
def q3r (x:Z99):Ht s5n:=(t2y (x.2.1,x.2.2,x.1,0)).bind fun r1=>match r1 with | .inl o2=>((r1n (o2.1,o2.2.1,o2.2.2.2.2.1)).bind fun y3=>some y3) | .inr z4=>some z4
theorem p8d:s3k=q3r:=zC 359 rfl Tryz.func359 (by kernel_rfl)
def t4u(x:Z60):Ht Z57:=zK 269 x
def q3o (x:Z60):Ht Z57:=(u0n x.1).bind fun y1=>(u6i (x.1,x.2.1)).bind fun y2=>cond (decide (y2<0)) (some (y1,(⟨#[]⟩:Hs),false,1)) ((u6o x.2.2).bind fun y3=>cond (!y3) (some (y1,(⟨#[]⟩:Hs),false,2)) (cond (y4q y2 x.1.2.length) ((t7f (rdL u0a x.1.2 y2.toNat,x.2.2,x.2.2)).bind fun y4=>cond (!y4.2) (some (y1,(⟨#[]⟩:Hs),false,3)) (cond (y4q y2 y1.2.length) ((s3k (y4.1,x.1.1.1,x.2.2)).bind fun y5=>some ((y1.1,y1.2.set y2.toNat y4.1),y5.1,y5.2,0)) none)) none))
theorem p8a:t4u=q3o:=zC 269 rfl Tryz.func269 (by kernel_rfl)
def u4g(x:s5m):Ht j3h:=zK 270 x
def r07 (x:s5m):Ht j3h:=(u2a (x,([(⟨#[97]⟩:Hs),(⟨#[98]⟩:Hs),(⟨#[99]⟩:Hs),(⟨#[100]⟩:Hs),(⟨#[97,98]⟩:Hs)]:Hu Hs))).bind fun y1=>some y1
theorem q4v:u4g=r07:=zC 270 rfl Tryz.func270 (by kernel_rfl)
def s78(x:j7b):Ht q8o:=zK 331 x
def t6v(g:j5b→Ht (j8g⊕Unit))(x:j5b):Ht (j8g⊕Unit):=cond (decide (x.2.2.2.2.2.2<(x.2.2.1.length:Int))) (cond (y4q x.2.2.2.2.2.2 x.2.2.1.length) (cond (y3c (rdL Ty.str x.2.2.1 x.2.2.2.2.2.2.toNat) x.2.2.2.2.1) (cond (y4q x.2.2.2.2.2.2 x.2.2.1.length) (cond (Nat.ble (x.2.2.2.2.2.1.length+([(rdL Ty.str x.2.2.1 x.2.2.2.2.2.2.toNat)]:Hu Hs).length) z7w) (g (x.1,x.2.1,x.2.2.1,x.2.2.2.1,x.2.2.2.2.1,x.2.2.2.2.2.1++([(rdL Ty.str x.2.2.1 x.2.2.2.2.2.2.toNat)]:Hu Hs),IntKind.i64.wrap (x.2.2.2.2.2.2+1))) none) none) (g (x.1,x.2.1,x.2.2.1,x.2.2.2.1,x.2.2.2.2.1,x.2.2.2.2.2.1,IntKind.i64.wrap (x.2.2.2.2.2.2+1)))) none) (some (.inl (x.1,x.2.1,x.2.2.1,x.2.2.2.1,x.2.2.2.2.1,x.2.2.2.2.2.1)))
def t0x:=lpW _ _ t6v
theorem r5e x:t0x x=t6v t0x x:=zW r4e 331 Tryz.f331 9 72 x (by kernel_rfl)
def t38(g:j5b→Ht (j8y⊕Unit))(x:j5b):Ht (j8y⊕Unit):=cond (decide (x.2.2.2.2.2.2<(x.2.2.1.length:Int))) (cond (y4q x.2.2.2.2.2.2 x.2.2.1.length) (cond (!(y3c (rdL Ty.str x.2.2.1 x.2.2.2.2.2.2.toNat) x.2.2.2.2.1||z7o (rdL Ty.str x.2.2.1 x.2.2.2.2.2.2.toNat) x.2.2.2.2.1)) (cond (y4q x.2.2.2.2.2.2 x.2.2.1.length) (cond (Nat.ble (x.2.2.2.2.2.1.length+([(rdL Ty.str x.2.2.1 x.2.2.2.2.2.2.toNat)]:Hu Hs).length) z7w) (g (x.1,x.2.1,x.2.2.1,x.2.2.2.1,x.2.2.2.2.1,x.2.2.2.2.2.1++([(rdL Ty.str x.2.2.1 x.2.2.2.2.2.2.toNat)]:Hu Hs),IntKind.i64.wrap (x.2.2.2.2.2.2+1))) none) none) (g (x.1,x.2.1,x.2.2.1,x.2.2.2.1,x.2.2.2.2.1,x.2.2.2.2.2.1,IntKind.i64.wrap (x.2.2.2.2.2.2+1)))) none) (some (.inl (x.1,x.2.1,x.2.2.2.1,x.2.2.2.2.2.1)))
def u8o:=lpW _ _ t38
theorem r0u x:u8o x=t38 u8o x:=zW s9w 331 Tryz.f331 15 72 x (by kernel_rfl)
def t6u(g:j8z→Ht (q8o⊕Unit))(x:j8z):Ht (q8o⊕Unit):=cond (decide (x.2.2.2<(x.1.length:Int))) (cond (y4q x.2.2.2 x.1.length) ((s05 (x.2.1,(rdL u0d x.1 x.2.2.2.toNat).1)).bind fun y1=>cond (!y1) (g (x.1,x.2.1,x.2.2.1,IntKind.i64.wrap (x.2.2.2+1))) ((t0x (x.1,x.2.1,x.2.2.1,x.2.2.2,(rdL u0d x.1 x.2.2.2.toNat).1,([]:Hu Hs),0)).bind fun r2=>match r2 with | .inl o3=>cond (Nat.ble (o3.2.2.2.2.2.length+([o3.2.2.2.2.1]:Hu Hs).length) z7w) ((u8o (o3.1,o3.2.1,o3.2.2.1,o3.2.2.2.1,o3.2.2.2.2.1,o3.2.2.2.2.2++([o3.2.2.2.2.1]:Hu Hs),0)).bind fun r4=>match r4 with | .inl o5=>g (o5.1,o5.2.1,o5.2.2.2,IntKind.i64.wrap (o5.2.2.1+1)) | .inr z6=>some (.inr ())) none | .inr z7=>some (.inr ()))) none) (some (.inl x.2.2.1))
def t69:=lpW _ _ t6u
theorem r5d x:t69 x=t6u t69 x:=zW r4d 331 Tryz.f331 3 72 x (by kernel_rfl)
def q0y (x:j7b):Ht q8o:=(t69 (x.1,x.2,([]:Hu Hs),0)).bind fun r8=>match r8 with | .inl o9=>some o9 | .inr z10=>none
theorem p5c:s78=q0y:=zC 331 rfl Tryz.func331 (by kernel_rfl)
def s70(x:Z86):Ht o6t:=zK 360 x
def t6j(g:Z61→Ht (Z68⊕Unit))(x:Z61):Ht (Z68⊕Unit):=cond (decide (x.2.2.2.2<(x.2.1.2.2.2.2.2.1.length:Int))) (cond (y4q x.2.2.2.2 x.2.1.2.2.2.2.2.1.length) (cond (Nat.ble (x.2.2.2.1.length+([((rdL u2f x.2.1.2.2.2.2.2.1 x.2.2.2.2.toNat).1,(⟨#[]⟩:Hs),false,0)]:Hu u0d.den).length) z7w) (g (x.1,x.2.1,x.2.2.1,x.2.2.2.1++([((rdL u2f x.2.1.2.2.2.2.2.1 x.2.2.2.2.toNat).1,(⟨#[]⟩:Hs),false,0)]:Hu u0d.den),IntKind.i64.wrap (x.2.2.2.2+1))) none) none) (some (.inl (x.1,x.2.1,x.2.2.1,x.2.2.2.1)))
def t0q:=lpW _ _ t6j
theorem r41 x:t0q x=t6j t0q x:=zW r3y 360 Tryz.f360 3 65 x (by kernel_rfl)
def t6k(g:Z69→Ht (o6t⊕Unit))(x:Z69):Ht (o6t⊕Unit):=cond (decide (x.2.2.2.2<(x.2.2.2.1.length:Int))) (cond (y4q x.2.2.2.2 x.2.2.2.1.length) ((s3k (x.2.1,x.1,rdL Ty.str x.2.2.2.1 x.2.2.2.2.toNat)).bind fun y4=>cond y4.2 (cond (y4q x.2.2.2.2 x.2.2.2.1.length) (cond (Nat.ble (x.2.2.1.length+([(rdL Ty.str x.2.2.2.1 x.2.2.2.2.toNat,y4.1)]:Hu q7m.den).length) z7w) (g (x.1,x.2.1,x.2.2.1++([(rdL Ty.str x.2.2.2.1 x.2.2.2.2.toNat,y4.1)]:Hu q7m.den),x.2.2.2.1,IntKind.i64.wrap (x.2.2.2.2+1))) none) none) (g (x.1,x.2.1,x.2.2.1,x.2.2.2.1,IntKind.i64.wrap (x.2.2.2.2+1)))) none) (some (.inl x.2.2.1))
def t64:=lpW _ _ t6k
theorem r42 x:t64 x=t6k t64 x:=zW r3z 360 Tryz.f360 9 65 x (by kernel_rfl)
def q0b (x:Z86):Ht o6t:=cond (Nat.ble (([]:Hu u0d.den).length+x.2.1.length) z7w) ((t0q (x.2.1,x.1,x.2.2,([]:Hu u0d.den)++x.2.1,0)).bind fun r1=>match r1 with | .inl o2=>((s78 (o2.2.2.2,o2.2.2.1)).bind fun y3=>(t64 (o2.1,o2.2.1,([]:Hu q7m.den),y3,0)).bind fun r5=>match r5 with | .inl o6=>some o6 | .inr z7=>none) | .inr z8=>none) none
theorem p4q:s70=q0b:=zC 360 rfl Tryz.func360 (by kernel_rfl)
def u80(x:Z53):Ht Z58:=zK 271 x
def r6r (x:Z53):Ht Z58:=(u0n x.1).bind fun y1=>(u6i (x.1,x.2.1)).bind fun y2=>cond (decide (y2<0)) (some (y1,([]:Hu q7m.den),1)) ((t5p x.2.2).bind fun y3=>cond (!y3) (some (y1,([]:Hu q7m.den),2)) (cond (y4q y2 x.1.2.length) ((t7f (rdL u0a x.1.2 y2.toNat,x.2.2)).bind fun y4=>cond (!y4.2) (some (y1,([]:Hu q7m.den),3)) (cond (y4q y2 y1.2.length) ((s70 (y4.1,x.1.1.1,x.2.2)).bind fun y5=>some ((y1.1,y1.2.set y2.toNat y4.1),y5,0)) none)) none))
theorem p17:u80=r6r:=zC 271 rfl Tryz.func271 (by kernel_rfl)
def u5l(x:s5m):Ht j9j:=zK 272 x
def s35 (x:s5m):Ht j9j:=(u4g x).bind fun y1=>(u12 (y1.2,2)).bind fun y2=>cond y2.1 (some ((y1.1,y1.1),y2.2)) ((u4g y2.2).bind fun y3=>cond (y3c y3.1 y1.1) (some ((y3.1,y1.1),y3.2)) (some ((y1.1,y3.1),y3.2)))
theorem r67:u5l=s35:=zC 272 rfl Tryz.func272 (by kernel_rfl)
def u4h(x:s5m):Ht j5l:=zK 273 x
def s36 (x:s5m):Ht j5l:=(u4g x).bind fun y1=>(u2a (y1.2,([(⟨#[111,110,101]⟩:Hs),(⟨#[116,119,111]⟩:Hs),(⟨#[]⟩:Hs),(⟨#[120,0]⟩:Hs)]:Hu Hs))).bind fun y2=>(u12 (y2.2,5)).bind fun y3=>cond y3.1 (some ((y1.1,(⟨#[]⟩:Hs),true),y3.2)) (some ((y1.1,y2.1,false),y3.2))
theorem r68:u4h=s36:=zC 273 rfl Tryz.func273 (by kernel_rfl)
def u1e(x:Z70):Ht Z73:=zK 363 x
def t8p(g:Z44→Ht (Z52⊕Unit))(x:Z44):Ht (Z52⊕Unit):=cond (decide (x.2.2.2<(x.1.2.length:Int))) (cond (y4q x.2.2.2 x.1.2.length) (cond (!decide ((rdL u0a x.1.2 x.2.2.2.toNat).1=x.2.1)) (cond (y4q x.2.2.2 x.1.2.length) (cond (Nat.ble (x.2.2.1.length+([(rdL u0a x.1.2 x.2.2.2.toNat)]:Hu u0a.den).length) z7w) (g (x.1,x.2.1,x.2.2.1++([(rdL u0a x.1.2 x.2.2.2.toNat)]:Hu u0a.den),IntKind.i64.wrap (x.2.2.2+1))) none) none) (g (x.1,x.2.1,x.2.2.1,IntKind.i64.wrap (x.2.2.2+1)))) none) (some (.inl (x.1,x.2.2.1)))
def t21:=lpW _ _ t8p
theorem r8o x:t21 x=t8p t21 x:=zW r7s 363 Tryz.f363 2 49 x (by kernel_rfl)
def q4c (x:Z70):Ht Z73:=(t21 (x.1,x.2,([]:Hu u0a.den),0)).bind fun r1=>match r1 with | .inl o2=>((t4w (o2.1.1,o2.2)).bind fun y3=>some (y3,o2.2)) | .inr z4=>none
theorem p8x:u1e=q4c:=zC 363 rfl Tryz.func363 (by kernel_rfl)
def s1d(x:u61):Ht Bool:=zK 332 x
def q05 (x:u61):Ht Bool:=((cond (decide ((x.2.1.length:Int)≥(12:Int))) (some true) (cond (decide ((x.1.length:Int)>(100:Int))) (some true) (some (decide (x.2.2.2.1≥9999))))):Ht Bool).bind fun j1=>some j1
theorem p5j:s1d=q05:=zC 332 rfl Tryz.func332 (by kernel_rfl)
def t4y(x:u61):Ht q69:=zK 409 x
def q4a (x:u61):Ht q69:=cond (Nat.ble (([]:Hu u0a.den).length+x.2.1.length) z7w) (cond (Nat.ble ((([]:Hu u0a.den)++x.2.1).length+x.2.2.1.length) z7w) (some ((([]:Hu u0a.den)++x.2.1)++x.2.2.1)) none) none
theorem p8v:t4y=q4a:=zC 409 rfl Tryz.func409 (by kernel_rfl)
def s6x(x:j5w):Ht Bool:=zK 428 x
def s0j(g:j5o→Ht (j3g⊕Bool))(x:j5o):Ht (j3g⊕Bool):=cond (decide (x.2.2.2<(x.2.1.length:Int))) (cond (y4q x.2.2.1 x.1.length) (cond (y4q x.2.2.2 x.2.1.length) (cond (z7o (rdL u2f x.1 x.2.2.1.toNat).1 (rdL u2f x.2.1 x.2.2.2.toNat).1) (some (.inr true)) (g (x.1,x.2.1,x.2.2.1,IntKind.i64.wrap (x.2.2.2+1)))) none) none) (some (.inl (x.1,x.2.1,x.2.2.1)))
def t5f:=lpW _ _ s0j
theorem q1z x:t5f x=s0j t5f x:=zW q1k 428 Tryz.f428 5 30 x (by kernel_rfl)
def s0i(g:j3g→Ht s8d)(x:j3g):Ht s8d:=cond (decide (x.2.2<(x.1.length:Int))) ((t5f (x.1,x.2.1,x.2.2,0)).bind fun r1=>match r1 with | .inl o2=>g (o2.1,o2.2.1,IntKind.i64.wrap (o2.2.2+1)) | .inr z3=>some (.inr z3)) (some (.inl ()))
def s0q:=lpW _ _ s0i
theorem q1y x:s0q x=s0i s0q x:=zW q1j 428 Tryz.f428 2 30 x (by kernel_rfl)
def q7z (x:j5w):Ht Bool:=(s0q (x.1,x.2,0)).bind fun r4=>match r4 with | .inl o5=>some false | .inr z6=>some z6
theorem o0z:s6x=q7z:=zC 428 rfl Tryz.func428 (by kernel_rfl)
def s7z(x:Z96):Ht Bool:=zK 433 x
def t6h(g:Z88→Ht s8d)(x:Z88):Ht s8d:=cond (decide (x.2.2<(x.1.length:Int))) (cond (y4q x.2.2 x.1.length) (((cond (!decide ((rdL u0a x.1 x.2.2.toNat).1=x.2.1.1)) (cond (decide ((rdL u0a x.1 x.2.2.toNat).2.1=2)) ((s6x ((rdL u0a x.1 x.2.2.toNat).2.2.2.2.2.1,x.2.1.2.2.2.2.2.1)).bind fun y1=>some y1) (cond (decide ((rdL u0a x.1 x.2.2.toNat).2.1=3)) (cond (decide ((rdL u0a x.1 x.2.2.toNat).2.2.2.1>x.2.1.2.2.1)) ((s6x ((rdL u0a x.1 x.2.2.toNat).2.2.2.2.2.1,x.2.1.2.2.2.2.2.1)).bind fun y2=>some y2) (some false)) (some false))) (some false)):Ht Bool).bind fun j3=>cond j3 (some (.inr true)) (g (x.1,x.2.1,IntKind.i64.wrap (x.2.2+1)))) none) (some (.inl ()))
def t0n:=lpW _ _ t6h
theorem r4y x:t0n x=t6h t0n x:=zW r3u 433 Tryz.f433 2 46 x (by kernel_rfl)
def r96 (x:Z96):Ht Bool:=(t0n (x.2,x.1,0)).bind fun r4=>match r4 with | .inl o5=>some false | .inr z6=>some z6
theorem p4l:s7z=r96:=zC 433 rfl Tryz.func433 (by kernel_rfl)
def r1l(x:Z96):Ht Bool:=zK 435 x
def s3a(g:Z88→Ht s8d)(x:Z88):Ht s8d:=cond (decide (x.2.2<(x.1.length:Int))) (((cond (y4q x.2.2 x.1.length) (cond (decide ((rdL u0a x.1 x.2.2.toNat).2.1=2)) (cond (y4q x.2.2 x.1.length) ((u28 (rdL u0a x.1 x.2.2.toNat,x.2.1)).bind fun y1=>some y1) none) (cond (y4q x.2.2 x.1.length) (cond (decide ((rdL u0a x.1 x.2.2.toNat).2.1=3)) (cond (y4q x.2.2 x.1.length) ((u28 (rdL u0a x.1 x.2.2.toNat,x.2.1)).bind fun y2=>some y2) none) (some false)) none)) none):Ht Bool).bind fun j3=>cond j3 (some (.inr true)) (g (x.1,x.2.1,IntKind.i64.wrap (x.2.2+1)))) (some (.inl ()))
def t8w:=lpW _ _ s3a
theorem q5p x:t8w x=s3a t8w x:=zW q42 435 Tryz.f435 2 34 x (by kernel_rfl)
def p0y (x:Z96):Ht Bool:=(t8w (x.2,x.1,0)).bind fun r4=>match r4 with | .inl o5=>some false | .inr z6=>some z6
theorem o3f:r1l=p0y:=zC 435 rfl Tryz.func435 (by kernel_rfl)
def s3j(x:Z96):Ht Bool:=zK 434 x
def t0b(g:Z32→Ht (Z88⊕Bool))(x:Z32):Ht (Z88⊕Bool):=((cond (decide (x.2.2.2.2<(x.1.length:Int))) (cond (decide (x.2.2.2.1.2.1=2)) ((u28 (x.2.2.2.1,x.2.1)).bind fun y10=>some y10) (some false)) (some false)):Ht Bool).bind fun j11=>cond j11 (cond (y4q x.2.2.2.2 x.1.length) (((cond (decide ((rdL u0a x.1 x.2.2.2.2.toNat).2.1=2)) (cond (!decide ((rdL u0a x.1 x.2.2.2.2.toNat).1=x.2.1.1)) ((u28 (rdL u0a x.1 x.2.2.2.2.toNat,x.2.2.2.1)).bind fun y12=>some y12) (some false)) (some false)):Ht Bool).bind fun j13=>cond j13 (some (.inr true)) (g (x.1,x.2.1,x.2.2.1,x.2.2.2.1,IntKind.i64.wrap (x.2.2.2.2+1)))) none) (some (.inl (x.1,x.2.1,x.2.2.1)))
def u7b:=lpW _ _ t0b
theorem s2n x:u7b x=t0b u7b x:=zW r3v 434 Tryz.f434 12 92 x (by kernel_rfl)
def t8k(g:Z88→Ht s8d)(x:Z88):Ht s8d:=cond (decide (x.2.2<(x.1.length:Int))) (cond (y4q x.2.2 x.1.length) (((cond (decide ((rdL u0a x.1 x.2.2.toNat).2.1=2)) (cond (rdL u0a x.1 x.2.2.toNat).2.2.2.2.2.2.1 ((u28 (x.2.1,rdL u0a x.1 x.2.2.toNat)).bind fun y4=>some y4) (some false)) (cond (decide ((rdL u0a x.1 x.2.2.toNat).2.1=3)) (cond (rdL u0a x.1 x.2.2.toNat).2.2.2.2.2.2.1 ((u28 (x.2.1,rdL u0a x.1 x.2.2.toNat)).bind fun y5=>some y5) (some false)) (some false))):Ht Bool).bind fun j6=>cond j6 (some (.inr true)) (((cond (decide ((rdL u0a x.1 x.2.2.toNat).2.1=2)) ((u28 (rdL u0a x.1 x.2.2.toNat,x.2.1)).bind fun y7=>cond y7 ((u28 (x.2.1,rdL u0a x.1 x.2.2.toNat)).bind fun y8=>some y8) (some false)) (some false)):Ht Bool).bind fun j9=>cond j9 (some (.inr true)) ((u7b (x.1,x.2.1,x.2.2,rdL u0a x.1 x.2.2.toNat,0)).bind fun r14=>match r14 with | .inl o15=>g (o15.1,o15.2.1,IntKind.i64.wrap (o15.2.2+1)) | .inr z16=>some (.inr z16)))) none) (some (.inl ()))
def t2w:=lpW _ _ t8k
theorem r8i x:t2w x=t8k t2w x:=zW r7j 434 Tryz.f434 4 92 x (by kernel_rfl)
def q3l (x:Z96):Ht Bool:=(((r1l x).bind fun y1=>cond y1 ((s1s x).bind fun y2=>some y2) (some false)):Ht Bool).bind fun j3=>cond j3 (some true) ((t2w (x.2,x.1,0)).bind fun r17=>match r17 with | .inl o18=>some false | .inr z19=>some z19)
theorem p77:s3j=q3l:=zC 434 rfl Tryz.func434 (by kernel_rfl)
def s6v(x:Z70):Ht Int:=zK 407 x
def q7v (x:Z70):Ht Int:=(u6i x).bind fun y1=>cond (decide (y1<0)) (some (1:Int)) ((t4y x.1.1).bind fun y2=>cond (y4q y1 x.1.2.length) ((s7z (rdL u0a x.1.2 y1.toNat,y2)).bind fun y3=>cond y3 (some (4:Int)) (cond (y4q y1 x.1.2.length) ((s3j (rdL u0a x.1.2 y1.toNat,y2)).bind fun y4=>cond y4 (some (5:Int)) ((s1d x.1.1).bind fun y5=>cond y5 (some (3:Int)) (some (0:Int)))) none)) none)
theorem o0v:s6v=q7v:=zC 407 rfl Tryz.func407 (by kernel_rfl)
def r1j(x:Z70):Ht Z12:=zK 361 x
def q3k (x:Z70):Ht Z12:=(u0n x.1).bind fun y1=>(s6v x).bind fun y2=>cond (decide (y2=1)) (some (y1,(0,(0,0,0,0,([]:Hu q7m.den),([]:Hu u2f.den),false,(⟨#[]⟩:Hs)),(⟨#[]⟩:Hs),false,([]:Hu u0d.den),([]:Hu u0a.den),([]:Hu u0a.den),0,0),y2)) (cond (!decide (y2=0)) ((u1e (y1,x.2)).bind fun y3=>some (y3,(0,(0,0,0,0,([]:Hu q7m.den),([]:Hu u2f.den),false,(⟨#[]⟩:Hs)),(⟨#[]⟩:Hs),false,([]:Hu u0d.den),([]:Hu u0a.den),([]:Hu u0a.den),0,0),y2)) ((u6i x).bind fun y4=>cond (y4q y4 x.1.2.length) ((u6p (x.1.1,rdL u0a x.1.2 y4.toNat)).bind fun y5=>cond (y4q (IntKind.i64.wrap ((y5.2.1.length:Int) - (1:Int))) y5.2.1.length) ((u0z (rdL u0a y5.2.1 (IntKind.i64.wrap ((y5.2.1.length:Int) - (1:Int))).toNat)).bind fun y6=>(u1e ((y5,y1.2),x.2)).bind fun y7=>some (y7,(1,y6,(⟨#[]⟩:Hs),false,([]:Hu u0d.den),([]:Hu u0a.den),([]:Hu u0a.den),0,0),0)) none) none))
theorem p76:r1j=q3k:=zC 361 rfl Tryz.func361 (by kernel_rfl)
def s2h(x:o4l):Ht r0w:=zK 413 x
def r22 (x:o4l):Ht r0w:=(((s6w x.1).bind fun y1=>cond (!y1) (some true) ((u0u (x.2.1,0,1)).bind fun y2=>some (!y2))):Ht Bool).bind fun j3=>cond j3 ((u04 x.1).bind fun y4=>some (y4,false)) ((s3n x).bind fun y5=>cond (!y5.2) ((u04 x.1).bind fun y6=>some (y6,false)) (some (y5.1,true)))
theorem q9p:s2h=r22:=zC 413 rfl Tryz.func413 (by kernel_rfl)
def t09(x:j9s):Ht r0w:=zK 376 x
def r2w (x:j9s):Ht r0w:=(t3d x.1).bind fun y1=>(s2h (x.1,y1,x.2)).bind fun y2=>some y2
theorem q9j:t09=r2w:=zC 376 rfl Tryz.func376 (by kernel_rfl)
def t5u(x:Z9):Ht Z46:=zK 362 x
def q06 (x:Z9):Ht Z46:=(u3p x.2).bind fun y1=>cond (!y1.2) (some (false,x.1)) ((t09 (x.1.2,y1.1)).bind fun y2=>cond (!y2.2) ((t9p x.1.2).bind fun y3=>cond (!y3.2) (some (false,x.1)) ((t09 (y3.1,y1.1)).bind fun y4=>cond y4.2 (some (y4.2,x.1.1,y4.1)) (some (y4.2,x.1)))) (cond y2.2 (some (y2.2,x.1.1,y2.1)) (some (y2.2,x.1))))
theorem p5k:t5u=q06:=zC 362 rfl Tryz.func362 (by kernel_rfl)
def u7l(x:Z47):Ht Z48:=zK 274 x
def r29 (x:Z47):Ht Z48:=(r1j (x.1.1,x.2)).bind fun y1=>cond (decide (y1.2.2=0)) ((t5u (x.1,y1.2.1)).bind fun y2=>cond (!y2.1) ((u0n y2.2.1).bind fun y3=>(u1e (y3,x.2)).bind fun y4=>some (3,y4,y2.2.2)) (some (y1.2.2,y1.1,y2.2.2))) (some (y1.2.2,y1.1,x.1.2))
theorem q9w:u7l=r29:=zC 274 rfl Tryz.func274 (by kernel_rfl)
def t9h(x:Z96):Ht Bool:=zK 408 x
def u7q(g:Z30→Ht (Z77⊕Bool))(x:Z30):Ht (Z77⊕Bool):=cond (decide (x.2.2.2.2.2<(x.1.length:Int))) (((cond (y4q x.2.2.2.2.2 x.1.length) (cond (decide ((rdL u0a x.1 x.2.2.2.2.2.toNat).2.1=2)) (cond (y4q x.2.2.2.2.2 x.1.length) (cond (!decide ((rdL u0a x.1 x.2.2.2.2.2.toNat).1=x.2.1.1)) (cond (y4q x.2.2.2.2.2 x.1.length) ((u28 (x.2.2.2.2.1,rdL u0a x.1 x.2.2.2.2.2.toNat)).bind fun y5=>some y5) none) (some false)) none) (some false)) none):Ht Bool).bind fun j6=>cond j6 (some (.inr true)) (g (x.1,x.2.1,x.2.2.1,x.2.2.2.1,x.2.2.2.2.1,IntKind.i64.wrap (x.2.2.2.2.2+1)))) (some (.inl (x.1,x.2.1,x.2.2.1,x.2.2.2.1)))
def u5d:=lpW _ _ u7q
theorem s1x x:u5d x=u7q u5d x:=zW s1n 408 Tryz.f408 12 65 x (by kernel_rfl)
def u8b(g:Z77→Ht s8d)(x:Z77):Ht s8d:=cond (decide (x.2.2.2<(x.1.length:Int))) (cond (y4q x.2.2.2 x.1.length) (((cond (!decide ((rdL u0a x.1 x.2.2.2.toNat).2.1=2)) (some true) ((u28 (x.2.1,rdL u0a x.1 x.2.2.2.toNat)).bind fun y3=>some (!y3))):Ht Bool).bind fun j4=>cond j4 (g (x.1,x.2.1,x.2.2.1,IntKind.i64.wrap (x.2.2.2+1))) (cond x.2.2.1 (some (.inr true)) ((u5d (x.1,x.2.1,x.2.2.1,x.2.2.2,rdL u0a x.1 x.2.2.2.toNat,0)).bind fun r7=>match r7 with | .inl o8=>g (o8.1,o8.2.1,o8.2.2.1,IntKind.i64.wrap (o8.2.2.2+1)) | .inr z9=>some (.inr z9)))) none) (some (.inl ()))
def u57:=lpW _ _ u8b
theorem s28 x:u57 x=u8b u57 x:=zW s2x 408 Tryz.f408 5 65 x (by kernel_rfl)
def s54 (x:Z96):Ht Bool:=(s3j x).bind fun y1=>cond y1 (some true) ((r1l x).bind fun y2=>(u57 (x.2,x.1,y2,0)).bind fun r10=>match r10 with | .inl o11=>some false | .inr z12=>some z12)
theorem q4t:t9h=s54:=zC 408 rfl Tryz.func408 (by kernel_rfl)
def s71(x:Z60):Ht Z12:=zK 364 x
def q0d (x:Z60):Ht Z12:=(u0n x.1).bind fun y1=>(u6i (x.1,x.2.1)).bind fun y2=>cond (decide (y2<0)) (some (y1,(0,(0,0,0,0,([]:Hu q7m.den),([]:Hu u2f.den),false,(⟨#[]⟩:Hs)),(⟨#[]⟩:Hs),false,([]:Hu u0d.den),([]:Hu u0a.den),([]:Hu u0a.den),0,0),1)) ((u6o x.2.2).bind fun y3=>cond (!y3) (some (y1,(0,(0,0,0,0,([]:Hu q7m.den),([]:Hu u2f.den),false,(⟨#[]⟩:Hs)),(⟨#[]⟩:Hs),false,([]:Hu u0d.den),([]:Hu u0a.den),([]:Hu u0a.den),0,0),2)) ((u2i (x.1.1,x.2.2)).bind fun y4=>cond (decide (y4≥0)) (some (y1,(0,(0,0,0,0,([]:Hu q7m.den),([]:Hu u2f.den),false,(⟨#[]⟩:Hs)),(⟨#[]⟩:Hs),false,([]:Hu u0d.den),([]:Hu u0a.den),([]:Hu u0a.den),0,0),6)) ((s6v (x.1,x.2.1)).bind fun y5=>((cond (decide (y5=0)) (cond (y4q y2 x.1.2.length) ((t4y x.1.1).bind fun y6=>(t9h (rdL u0a x.1.2 y2.toNat,y6)).bind fun y7=>some y7) none) (some false)):Ht Bool).bind fun j8=>cond j8 (((cond (decide ((5:Int)=(0:Int))) (some (decide ((x.1.1.2.2.1.length:Int)≥(3:Int)))) (some false)):Ht Bool).bind fun j9=>cond j9 (cond (!decide ((3:Int)=(0:Int))) ((u1e (y1,x.2.1)).bind fun y10=>some (y10,(0,(0,0,0,0,([]:Hu q7m.den),([]:Hu u2f.den),false,(⟨#[]⟩:Hs)),(⟨#[]⟩:Hs),false,([]:Hu u0d.den),([]:Hu u0a.den),([]:Hu u0a.den),0,0),3)) (cond (y4q y2 x.1.2.length) ((u54 (x.1.1,rdL u0a x.1.2 y2.toNat,x.2.2)).bind fun y11=>(u2i (y11,x.2.2)).bind fun y12=>cond (y4q y12 y11.2.2.1.length) ((u0z (rdL u0a y11.2.2.1 y12.toNat)).bind fun y13=>(u1e ((y11,y1.2),x.2.1)).bind fun y14=>some (y14,(2,y13,(⟨#[]⟩:Hs),false,([]:Hu u0d.den),([]:Hu u0a.den),([]:Hu u0a.den),0,0),0)) none) none)) (cond (!decide ((5:Int)=(0:Int))) ((u1e (y1,x.2.1)).bind fun y15=>some (y15,(0,(0,0,0,0,([]:Hu q7m.den),([]:Hu u2f.den),false,(⟨#[]⟩:Hs)),(⟨#[]⟩:Hs),false,([]:Hu u0d.den),([]:Hu u0a.den),([]:Hu u0a.den),0,0),5)) (cond (y4q y2 x.1.2.length) ((u54 (x.1.1,rdL u0a x.1.2 y2.toNat,x.2.2)).bind fun y16=>(u2i (y16,x.2.2)).bind fun y17=>cond (y4q y17 y16.2.2.1.length) ((u0z (rdL u0a y16.2.2.1 y17.toNat)).bind fun y18=>(u1e ((y16,y1.2),x.2.1)).bind fun y19=>some (y19,(2,y18,(⟨#[]⟩:Hs),false,([]:Hu u0d.den),([]:Hu u0a.den),([]:Hu u0a.den),0,0),0)) none) none))) (((cond (decide (y5=0)) (some (decide ((x.1.1.2.2.1.length:Int)≥(3:Int)))) (some false)):Ht Bool).bind fun j20=>cond j20 (cond (!decide ((3:Int)=(0:Int))) ((u1e (y1,x.2.1)).bind fun y21=>some (y21,(0,(0,0,0,0,([]:Hu q7m.den),([]:Hu u2f.den),false,(⟨#[]⟩:Hs)),(⟨#[]⟩:Hs),false,([]:Hu u0d.den),([]:Hu u0a.den),([]:Hu u0a.den),0,0),3)) (cond (y4q y2 x.1.2.length) ((u54 (x.1.1,rdL u0a x.1.2 y2.toNat,x.2.2)).bind fun y22=>(u2i (y22,x.2.2)).bind fun y23=>cond (y4q y23 y22.2.2.1.length) ((u0z (rdL u0a y22.2.2.1 y23.toNat)).bind fun y24=>(u1e ((y22,y1.2),x.2.1)).bind fun y25=>some (y25,(2,y24,(⟨#[]⟩:Hs),false,([]:Hu u0d.den),([]:Hu u0a.den),([]:Hu u0a.den),0,0),0)) none) none)) (cond (!decide (y5=0)) ((u1e (y1,x.2.1)).bind fun y26=>some (y26,(0,(0,0,0,0,([]:Hu q7m.den),([]:Hu u2f.den),false,(⟨#[]⟩:Hs)),(⟨#[]⟩:Hs),false,([]:Hu u0d.den),([]:Hu u0a.den),([]:Hu u0a.den),0,0),y5)) (cond (y4q y2 x.1.2.length) ((u54 (x.1.1,rdL u0a x.1.2 y2.toNat,x.2.2)).bind fun y27=>(u2i (y27,x.2.2)).bind fun y28=>cond (y4q y28 y27.2.2.1.length) ((u0z (rdL u0a y27.2.2.1 y28.toNat)).bind fun y29=>(u1e ((y27,y1.2),x.2.1)).bind fun y30=>some (y30,(2,y29,(⟨#[]⟩:Hs),false,([]:Hu u0d.den),([]:Hu u0a.den),([]:Hu u0a.den),0,0),0)) none) none))))))
theorem p4s:s71=q0d:=zC 364 rfl Tryz.func364 (by kernel_rfl)
def u6y(x:Z41):Ht Z48:=zK 275 x
def s8y (x:Z41):Ht Z48:=(s71 (x.1.1,x.2)).bind fun y1=>cond (decide (y1.2.2=0)) ((t5u (x.1,y1.2.1)).bind fun y2=>cond (!y2.1) ((u0n y2.2.1).bind fun y3=>(u1e (y3,x.2.1)).bind fun y4=>some (3,y4,y2.2.2)) (some (y1.2.2,y1.1,y2.2.2))) (some (y1.2.2,y1.1,x.1.2))
theorem q6q:u6y=s8y:=zC 275 rfl Tryz.func275 (by kernel_rfl)
def r1k(x:Z59):Ht Z12:=zK 250 x
def q3n (x:Z59):Ht Z12:=(u0n x.1).bind fun y1=>(u2i (x.1.1,x.2.1)).bind fun y2=>cond (decide (y2<0)) (some (y1,(0,(0,0,0,0,([]:Hu q7m.den),([]:Hu u2f.den),false,(⟨#[]⟩:Hs)),(⟨#[]⟩:Hs),false,([]:Hu u0d.den),([]:Hu u0a.den),([]:Hu u0a.den),0,0),1)) (((cond x.2.2 ((s1d x.1.1).bind fun y3=>some y3) (some false)):Ht Bool).bind fun j4=>cond j4 (some (y1,(0,(0,0,0,0,([]:Hu q7m.den),([]:Hu u2f.den),false,(⟨#[]⟩:Hs)),(⟨#[]⟩:Hs),false,([]:Hu u0d.den),([]:Hu u0a.den),([]:Hu u0a.den),0,0),3)) (cond x.2.2 (cond (y4q y2 x.1.1.2.2.1.length) ((u6p (x.1.1,rdL u0a x.1.1.2.2.1 y2.toNat)).bind fun y5=>(t4w (y5,y1.2)).bind fun y6=>some ((y6,y1.2),(3,(0,0,0,0,([]:Hu q7m.den),([]:Hu u2f.den),false,(⟨#[]⟩:Hs)),x.2.1,x.2.2,([]:Hu u0d.den),([]:Hu u0a.den),([]:Hu u0a.den),0,0),0)) none) ((s04 (x.1.1,x.2.1)).bind fun y7=>(t4w (y7,y1.2)).bind fun y8=>some ((y8,y1.2),(3,(0,0,0,0,([]:Hu q7m.den),([]:Hu u2f.den),false,(⟨#[]⟩:Hs)),x.2.1,x.2.2,([]:Hu u0d.den),([]:Hu u0a.den),([]:Hu u0a.den),0,0),0))))
theorem p79:r1k=q3n:=zC 250 rfl Tryz.func250 (by kernel_rfl)
def u7m(x:Z40):Ht Z48:=zK 276 x
def r3a (x:Z40):Ht Z48:=(r1k (x.1.1,x.2)).bind fun y1=>cond (decide (y1.2.2=0)) ((t5u (x.1,y1.2.1)).bind fun y2=>cond (!y2.1) (some (3,y2.2)) (some (y1.2.2,y1.1,y2.2.2))) (some (y1.2.2,y1.1,x.1.2))
theorem q9x:u7m=r3a:=zC 276 rfl Tryz.func276 (by kernel_rfl)
def t76(x:Z70):Ht Z70:=zK 277 x
def q7x (x:Z70):Ht Z70:=(u0n x.1).bind fun y1=>(u6i x).bind fun y2=>cond (decide (y2<0)) (some (y1,1)) ((u1e (y1,x.2)).bind fun y3=>some (y3,0))
theorem o0x:t76=q7x:=zC 277 rfl Tryz.func277 (by kernel_rfl)
def s8a(x:Z37):Ht Z37:=zK 161 x
def q07 (x:Z37):Ht Z37:=cond (decide ((x.2.1.2.length:Int)>(0:Int))) ((u0m (x.1,(x.2.1.2.length:Int))).bind fun y1=>cond (y4q y1.1 x.2.1.2.length) ((u0m (y1.2,16)).bind fun y2=>((cond (decide ((rdL u0a x.2.1.2 y1.1.toNat).1=0)) (some true) (some (decide (y2.1<3)))):Ht Bool).bind fun j3=>cond j3 ((t3e x.2.1).bind fun y4=>some (y2.2,y4.1,x.2.2)) (cond (decide (y2.1<6)) ((u4g y2.2).bind fun y5=>(t4u (x.2.1,(rdL u0a x.2.1.2 y1.1.toNat).1,y5.1)).bind fun y6=>some (y5.2,y6.1,x.2.2)) (cond (decide (y2.1<7)) ((u5l y2.2).bind fun y7=>(u80 (x.2.1,(rdL u0a x.2.1.2 y1.1.toNat).1,y7.1)).bind fun y8=>some (y7.2,y8.1,x.2.2)) (cond (decide (y2.1<10)) ((u4h y2.2).bind fun y9=>(t4v (x.2.1,(rdL u0a x.2.1.2 y1.1.toNat).1,y9.1)).bind fun y10=>some (y9.2,y10.1,x.2.2)) (cond (decide (y2.1<13)) ((u7l (x.2,(rdL u0a x.2.1.2 y1.1.toNat).1)).bind fun y11=>some (y2.2,y11.2)) (cond (decide (y2.1=13)) ((u2a (y2.2,([(⟨#[112]⟩:Hs),(⟨#[113]⟩:Hs),(⟨#[114]⟩:Hs)]:Hu Hs))).bind fun y12=>(u6y (x.2,(rdL u0a x.2.1.2 y1.1.toNat).1,y12.1)).bind fun y13=>some (y12.2,y13.2)) (cond (decide (y2.1=14)) ((u2a (y2.2,([(⟨#[112]⟩:Hs),(⟨#[113]⟩:Hs),(⟨#[114]⟩:Hs)]:Hu Hs))).bind fun y14=>(u12 (y14.2,2)).bind fun y15=>(u7m (x.2,y14.1,y15.1)).bind fun y16=>some (y15.2,y16.2)) ((u12 (y2.2,3)).bind fun y17=>cond y17.1 ((u5k x.2).bind fun y18=>some (y17.2,y18.1)) ((t76 (x.2.1,(rdL u0a x.2.1.2 y1.1.toNat).1)).bind fun y19=>some (y17.2,y19.1,x.2.2)))))))))) none) ((u0m (x.1,16)).bind fun y20=>((cond (decide ((0:Int)=(0:Int))) (some true) (some (decide (y20.1<3)))):Ht Bool).bind fun j21=>cond j21 ((t3e x.2.1).bind fun y22=>some (y20.2,y22.1,x.2.2)) (cond (decide (y20.1<6)) ((u4g y20.2).bind fun y23=>(t4u (x.2.1,0,y23.1)).bind fun y24=>some (y23.2,y24.1,x.2.2)) (cond (decide (y20.1<7)) ((u5l y20.2).bind fun y25=>(u80 (x.2.1,0,y25.1)).bind fun y26=>some (y25.2,y26.1,x.2.2)) (cond (decide (y20.1<10)) ((u4h y20.2).bind fun y27=>(t4v (x.2.1,0,y27.1)).bind fun y28=>some (y27.2,y28.1,x.2.2)) (cond (decide (y20.1<13)) ((u7l (x.2,0)).bind fun y29=>some (y20.2,y29.2)) (cond (decide (y20.1=13)) ((u2a (y20.2,([(⟨#[112]⟩:Hs),(⟨#[113]⟩:Hs),(⟨#[114]⟩:Hs)]:Hu Hs))).bind fun y30=>(u6y (x.2,0,y30.1)).bind fun y31=>some (y30.2,y31.2)) (cond (decide (y20.1=14)) ((u2a (y20.2,([(⟨#[112]⟩:Hs),(⟨#[113]⟩:Hs),(⟨#[114]⟩:Hs)]:Hu Hs))).bind fun y32=>(u12 (y32.2,2)).bind fun y33=>(u7m (x.2,y32.1,y33.1)).bind fun y34=>some (y33.2,y34.2)) ((u12 (y20.2,3)).bind fun y35=>cond y35.1 ((u5k x.2).bind fun y36=>some (y35.2,y36.1)) ((t76 (x.2.1,0)).bind fun y37=>some (y35.2,y37.1,x.2.2))))))))))
theorem p5l:s8a=q07:=zC 161 rfl Tryz.func161 (by kernel_rfl)
def u35(x:j1c):Ht Z36:=zK 56 x
def s1z(g:Z8→Ht (Z11⊕Unit))(x:Z8):Ht (Z11⊕Unit):=(u0m (x.1,x.2.1)).bind fun y2=>cond (decide (x.2.2.2.2<(IntKind.i64.wrap ((2:Int)+y2.1)))) ((s8a (y2.2,x.2.2.2.1)).bind fun y3=>g (y3.1,x.2.1,x.2.2.1,y3.2,IntKind.i64.wrap (x.2.2.2.2+1))) (some (.inl (y2.2,x.2.2.1,x.2.2.2.1)))
def t0z:=lpW _ _ s1z
theorem q95 x:t0z x=s1z t0z x:=zW r4i 56 Tryz.f56 3 19 x (by kernel_rfl)
def q08 (x:j1c):Ht Z36:=(s44 ()).bind fun y1=>(t0z (x.1,x.2,(((([]:Hu u0d.den),([]:Hu u0a.den),([]:Hu u0a.den),0,0),([]:Hu u0a.den)),([]:Hu Hs),([]:Hu q98.den)),y1,0)).bind fun r4=>match r4 with | .inl o5=>some (o5.2.2,o5.1) | .inr z6=>none
theorem p5m:u35=q08:=zC 56 rfl Tryz.func56 (by kernel_rfl)
def s3l(x:r9c):Ht s5m:=zK 57 x
def t2r(g:s5m→Ht ((r9c×Int)⊕Unit))(x:s5m):Ht ((r9c×Int)⊕Unit):=((cond (decide (x.2.2<(x.1.length:Int))) (some (decide (x.2.2<4000))) (some false)):Ht Bool).bind fun j1=>cond j1 (cond (y4q x.2.2 x.1.length) (g (x.1,IntKind.i64.wrap ((BitVec.ofInt IntKind.i64.bits (IntKind.i64.wrap ((IntKind.i64.wrap ((IntKind.i64.wrap (x.2.1*131))+(IntKind.i64.wrap (rdL (Ty.int .u8) x.1 x.2.2.toNat))))+7))&&&BitVec.ofInt IntKind.i64.bits (1073741823:Int)).toNat:Int),IntKind.i64.wrap (x.2.2+1))) none) (some (.inl (x.1,x.2.1)))
def t2z:=lpW _ _ t2r
theorem s5l x:t2z x=t2r t2z x:=zW r7p 57 Tryz.f57 3 32 x (by kernel_rfl)
def q3x (x:r9c):Ht s5m:=(t2z (x,IntKind.i64.wrap ((77601:Int)+(x.length:Int)),0)).bind fun r2=>match r2 with | .inl o3=>some (o3.1,0,o3.2) | .inr z4=>none
theorem p8j:s3l=q3x:=zC 57 rfl Tryz.func57 (by kernel_rfl)
def s2f(x:r9c):Ht Z51:=zK 9 x
def r2y (x:r9c):Ht Z51:=(s3l x).bind fun y1=>(u35 (y1,24)).bind fun y2=>some y2.1
theorem q9l:s2f=r2y:=zC 9 rfl Tryz.func9 (by kernel_rfl)
def u03(x:j3o):Ht Bool:=zK 212 x
def q3h (x:j3o):Ht Bool:=((cond (decide (x.1≥x.2.1)) (some (decide (x.1≤x.2.2))) (some false)):Ht Bool).bind fun j1=>some j1
theorem p73:u03=q3h:=zC 212 rfl Tryz.func212 (by kernel_rfl)
def t1i(x:Int):Ht s5n:=zK 231 x
def r2a(g:j1d→Ht (j1d⊕Unit))(x:j1d):Ht (j1d⊕Unit):=cond (decide (x.1>127)) (cond (Nat.ble (x.2.length+([(IntKind.u8.wrap (IntKind.i64.wrap ((Int.tmod x.1 (128:Int))+128)))]:Hu Int).length) z7w) (g (IntKind.i64.wrap (Int.tdiv x.1 (128:Int)),x.2++([(IntKind.u8.wrap (IntKind.i64.wrap ((Int.tmod x.1 (128:Int))+128)))]:Hu Int))) none) (some (.inl x))
def t63:=lpW _ _ r2a
theorem q92 x:t63 x=r2a t63 x:=zW r3o 231 Tryz.f231 4 25 x (by kernel_rfl)
def r9y (x:Int):Ht s5n:=(u03 (x,0,1000000000)).bind fun y1=>cond (!y1) (some ((⟨#[]⟩:Hs),false)) ((t63 (x,([]:Hu Int))).bind fun r2=>match r2 with | .inl o3=>cond (Nat.ble (o3.2.length+([(IntKind.u8.wrap o3.1)]:Hu Int).length) z7w) (some (y7g (o3.2++([(IntKind.u8.wrap o3.1)]:Hu Int)),true)) none | .inr z4=>none)
theorem p4d:t1i=r9y:=zC 231 rfl Tryz.func231 (by kernel_rfl)
def t06(x:Hs):Ht s5n:=zK 209 x
def r2j (x:Hs):Ht s5n:=cond (decide ((x.size:Int)>(20000:Int))) (some ((⟨#[]⟩:Hs),false)) ((t1i (x.size:Int)).bind fun y1=>cond (decide (y1.1.size+x.size≤140737488355328)) (some (y1.1++x,true)) none)
theorem q85:t06=r2j:=zC 209 rfl Tryz.func209 (by kernel_rfl)
def u52(x:(r9c×q8o)):Ht r9c:=zK 97 x
def t1y(g:j9v→Ht j1a)(x:j9v):Ht j1a:=cond (decide (x.2.2.2<x.2.2.1)) (cond (y4q x.2.2.2 x.2.1.length) ((t06 (rdL Ty.str x.2.1 x.2.2.2.toNat)).bind fun y1=>cond (Nat.ble (x.1.length+(z7t y1.1).length) z7w) (g (x.1++(z7t y1.1),x.2.1,x.2.2.1,IntKind.i64.wrap (x.2.2.2+1))) none) none) (some (.inl x.1))
def t2b:=lpW _ _ t1y
theorem s69 x:t2b x=t1y t2b x:=zW s6h 97 Tryz.f97 1 29 x (by kernel_rfl)
def r2s (x:(r9c×q8o)):Ht r9c:=(t2b (x.1,x.2,(x.2.length:Int),0)).bind fun r2=>match r2 with | .inl o3=>some o3 | .inr z4=>none
theorem q9f:u52=r2s:=zC 97 rfl Tryz.func97 (by kernel_rfl)
def u7k(x:(r9c×Bool)):Ht r9c:=zK 98 x
def r2r (x:(r9c×Bool)):Ht r9c:=cond x.2 (cond (Nat.ble (x.1.length+([(1:Int)]:Hu Int).length) z7w) (some (x.1++([(1:Int)]:Hu Int))) none) (cond (Nat.ble (x.1.length+([(0:Int)]:Hu Int).length) z7w) (some (x.1++([(0:Int)]:Hu Int))) none)
theorem q9e:u7k=r2r:=zC 98 rfl Tryz.func98 (by kernel_rfl)
def u5j(x:(r9c×r9c)):Ht r9c:=zK 116 x
def t3s(g:j91→Ht j1a)(x:j91):Ht j1a:=cond (decide (x.2.2.2<x.2.2.1)) (cond (y4q x.2.2.2 x.2.1.length) ((t1i (rdL (Ty.int .i64) x.2.1 x.2.2.2.toNat)).bind fun y1=>cond (Nat.ble (x.1.length+(z7t y1.1).length) z7w) (g (x.1++(z7t y1.1),x.2.1,x.2.2.1,IntKind.i64.wrap (x.2.2.2+1))) none) none) (some (.inl x.1))
def t4g:=lpW _ _ t3s
theorem r0f x:t4g x=t3s t4g x:=zW s9h 116 Tryz.f116 1 29 x (by kernel_rfl)
def r6c (x:(r9c×r9c)):Ht r9c:=(t4g (x.1,x.2,(x.2.length:Int),0)).bind fun r2=>match r2 with | .inl o3=>some o3 | .inr z4=>none
theorem p1s:u5j=r6c:=zC 116 rfl Tryz.func116 (by kernel_rfl)
def u9c(x:Hs):Ht Bool:=zK 129 x
def s0f(g:o2o→Ht j59)(x:o2o):Ht j59:=cond (decide (x.2<(x.1.size:Int))) (((cond (y4q x.2 x.1.size) (cond (decide (((x.1.data.toList.getD x.2.toNat 0).toNat:Int)<(97:Int))) (some true) (cond (y4q x.2 x.1.size) (some (decide (((x.1.data.toList.getD x.2.toNat 0).toNat:Int)>(122:Int)))) none)) none):Ht Bool).bind fun j1=>cond j1 (some (.inr false)) (g (x.1,IntKind.i64.wrap (x.2+1)))) (some (.inl x.1))
def s0n:=lpW _ _ s0f
theorem q1v x:s0n x=s0f s0n x:=zW q1g 129 Tryz.f129 2 23 x (by kernel_rfl)
def q7o (x:Hs):Ht Bool:=(s0n (x,0)).bind fun r2=>match r2 with | .inl o3=>((u03 ((o3.size:Int),1,3)).bind fun y4=>some y4) | .inr z5=>some z5
theorem o0o:u9c=q7o:=zC 129 rfl Tryz.func129 (by kernel_rfl)
def s7q(x:j09):Ht Bool:=zK 236 x
def r9p (x:j09):Ht Bool:=(((u9c x.1).bind fun y1=>cond y1 ((u9c x.2).bind fun y2=>cond y2 (some (y3c x.1 x.2||z7o x.1 x.2)) (some false)) (some false)):Ht Bool).bind fun j3=>some j3
theorem p34:s7q=r9p:=zC 236 rfl Tryz.func236 (by kernel_rfl)
def s7u(x:j6b):Ht Bool:=zK 321 x
def r9z (x:j6b):Ht Bool:=(((u9c x.1).bind fun y1=>cond y1 (cond (decide ((x.2.1.size:Int)≤(12:Int))) (cond (!x.2.2) (some true) (some (z7o x.2.1 (⟨#[]⟩:Hs)))) (some false)) (some false)):Ht Bool).bind fun j2=>some j2
theorem p4e:s7u=r9z:=zC 321 rfl Tryz.func321 (by kernel_rfl)
def s4u(x:o5e):Ht Bool:=zK 237 x
def t3q(g:j5o→Ht (o5e⊕Bool))(x:j5o):Ht (o5e⊕Bool):=cond (decide (x.2.2.2<x.2.2.1)) (cond (y4q x.2.2.2 x.2.1.length) ((((s7u (rdL u2f x.2.1 x.2.2.2.toNat)).bind fun y1=>cond (!y1) (some true) (cond (decide (x.2.2.2>0)) (cond (y4q (IntKind.i64.wrap (x.2.2.2 - 1)) x.1.length) (some (!y3c (rdL u2f x.1 (IntKind.i64.wrap (x.2.2.2 - 1)).toNat).1 (rdL u2f x.2.1 x.2.2.2.toNat).1)) none) (some false))):Ht Bool).bind fun j2=>cond j2 (some (.inr false)) (g (x.1,x.2.1,x.2.2.1,IntKind.i64.wrap (x.2.2.2+1)))) none) (some (.inl x.1))
def t4e:=lpW _ _ t3q
theorem r0d x:t4e x=t3q t4e x:=zW s9f 237 Tryz.f237 2 34 x (by kernel_rfl)
def r57 (x:o5e):Ht Bool:=(t4e (x,x,(x.length:Int),0)).bind fun r3=>match r3 with | .inl o4=>some (decide ((o4.length:Int)≤(8:Int))) | .inr z5=>some z5
theorem p1n:s4u=r57:=zC 237 rfl Tryz.func237 (by kernel_rfl)
def u7y(x:u9x):Ht Bool:=zK 127 x
def s0g(g:j77→Ht (u9x⊕Bool))(x:j77):Ht (u9x⊕Bool):=cond (decide (x.2.2.2<x.2.2.1)) (cond (y4q x.2.2.2 x.2.1.length) ((s7q (rdL q7m x.2.1 x.2.2.2.toNat)).bind fun y1=>cond (!y1) (some (.inr false)) (g (x.1,x.2.1,x.2.2.1,IntKind.i64.wrap (x.2.2.2+1)))) none) (some (.inl x.1))
def s0o:=lpW _ _ s0g
theorem q1w x:s0o x=s0g s0o x:=zW q1h 127 Tryz.f127 2 93 x (by kernel_rfl)
def q7s (x:u9x):Ht Bool:=(s0o (x,x.2.2.2.2.1,(x.2.2.2.2.1.length:Int),0)).bind fun r2=>match r2 with | .inl o3=>((((u03 (o3.1,1,9999)).bind fun y4=>cond (!y4) (some true) ((u03 (o3.2.1,1,3)).bind fun y5=>cond (!y5) (some true) ((u03 (o3.2.2.1,0,9999)).bind fun y6=>cond (!y6) (some true) (cond (decide ((o3.2.2.2.2.1.length:Int)>(8:Int))) (some true) ((s4u o3.2.2.2.2.2.1).bind fun y7=>cond (!y7) (some true) (cond o3.2.2.2.2.2.2.1 (some (decide (o3.2.1=1))) (some false))))))):Ht Bool).bind fun j8=>cond j8 (some false) (((cond (decide (o3.2.1=3)) ((u03 (o3.2.2.2.1,IntKind.i64.wrap (o3.2.2.1+1),9999)).bind fun y9=>cond (!y9) (some true) (cond (!decide (o3.2.1=3)) (some (!decide (o3.2.2.2.1=0))) (some false))) (cond (!decide (o3.2.1=3)) (some (!decide (o3.2.2.2.1=0))) (some false))):Ht Bool).bind fun j10=>cond j10 (some false) (((cond (decide (o3.2.1=2)) ((u9c o3.2.2.2.2.2.2.2).bind fun y11=>cond y11 (some true) (cond (!decide (o3.2.1=2)) (some (z7o o3.2.2.2.2.2.2.2 (⟨#[]⟩:Hs))) (some false))) (cond (!decide (o3.2.1=2)) (some (z7o o3.2.2.2.2.2.2.2 (⟨#[]⟩:Hs))) (some false))):Ht Bool).bind fun j12=>some j12))) | .inr z13=>some z13
theorem o0s:u7y=q7s:=zC 127 rfl Tryz.func127 (by kernel_rfl)
def t1h(x:u9x):Ht s5n:=zK 99 x
def t6b(g:Z87→Ht (j5d⊕Unit))(x:Z87):Ht (j5d⊕Unit):=cond (decide (x.2.2.2.2<x.2.2.2.1)) (cond (y4q x.2.2.2.2 x.2.2.1.length) ((u52 (x.2.1,([(rdL q7m x.2.2.1 x.2.2.2.2.toNat).1,(rdL q7m x.2.2.1 x.2.2.2.2.toNat).2]:Hu Hs))).bind fun y3=>g (x.1,y3,x.2.2.1,x.2.2.2.1,IntKind.i64.wrap (x.2.2.2.2+1))) none) (some (.inl (x.1,x.2.1)))
def t0j:=lpW _ _ t6b
theorem r4s x:t0j x=t6b t0j x:=zW r3n 99 Tryz.f99 6 82 x (by kernel_rfl)
def t3p(g:Z85→Ht (j5d⊕Unit))(x:Z85):Ht (j5d⊕Unit):=cond (decide (x.2.2.2.2<x.2.2.2.1)) (cond (y4q x.2.2.2.2 x.2.2.1.length) ((u52 (x.2.1,([(rdL u2f x.2.2.1 x.2.2.2.2.toNat).1,(rdL u2f x.2.2.1 x.2.2.2.2.toNat).2.1]:Hu Hs))).bind fun y7=>(u7k (y7,(rdL u2f x.2.2.1 x.2.2.2.2.toNat).2.2)).bind fun y8=>g (x.1,y8,x.2.2.1,x.2.2.2.1,IntKind.i64.wrap (x.2.2.2.2+1))) none) (some (.inl (x.1,x.2.1)))
def u8i:=lpW _ _ t3p
theorem r0c x:u8i x=t3p u8i x:=zW s9e 99 Tryz.f99 12 82 x (by kernel_rfl)
def r9x (x:u9x):Ht s5n:=(u7y x).bind fun y1=>cond (!y1) (some ((⟨#[]⟩:Hs),false)) ((u5j (([]:Hu Int),([x.1,x.2.1,x.2.2.1,x.2.2.2.1,(x.2.2.2.2.1.length:Int)]:Hu Int))).bind fun y2=>(t0j (x,y2,x.2.2.2.2.1,(x.2.2.2.2.1.length:Int),0)).bind fun r4=>match r4 with | .inl o5=>((u5j (o5.2,([(o5.1.2.2.2.2.2.1.length:Int)]:Hu Int))).bind fun y6=>(u8i (o5.1,y6,o5.1.2.2.2.2.2.1,(o5.1.2.2.2.2.2.1.length:Int),0)).bind fun r9=>match r9 with | .inl o10=>((u7k (o10.2,o10.1.2.2.2.2.2.2.1)).bind fun y11=>(u52 (y11,([o10.1.2.2.2.2.2.2.2]:Hu Hs))).bind fun y12=>some (y7g y12,true)) | .inr z13=>none) | .inr z14=>none)
theorem p4c:t1h=r9x:=zC 99 rfl Tryz.func99 (by kernel_rfl)
def t9b(x:u9x):Ht Bool:=zK 91 x
def q3e (x:u9x):Ht Bool:=some (decide (x.2.1=3))
theorem q4o:t9b=q3e:=zC 91 rfl Tryz.func91 (by kernel_rfl)
def s03(x:u9x):Ht Bool:=zK 128 x
def p3v (x:u9x):Ht Bool:=some (decide (x.2.1=2))
theorem p4h:s03=p3v:=zC 128 rfl Tryz.func128 (by kernel_rfl)
def t89(x:Z54):Ht Bool:=zK 290 x
def q3c (x:Z54):Ht Bool:=some (decide (x.1.1=x.2.1))
theorem q4n:t89=q3c:=zC 290 rfl Tryz.func290 (by kernel_rfl)
def u33(x:Z97):Ht Int:=zK 10005 x
def u3i(g:Z81→Ht p9u)(x:Z81):Ht p9u:=cond (decide (x.2.2.2<x.2.2.1)) (cond (y4q x.2.2.2 x.1.length) ((t89 (rdL u0a x.1 x.2.2.2.toNat,x.2.1)).bind fun y1=>cond y1 (some (.inr x.2.2.2)) (g (x.1,x.2.1,x.2.2.1,IntKind.i64.wrap (x.2.2.2+1)))) none) (some (.inl ()))
def u08:=lpW _ _ u3i
theorem u77 x:u08 x=u3i u08 x:=zW u3j 10005 Tryz.f287 2 19 x (by kernel_rfl)
def u3x (x:Z97):Ht Int:=(u08 (x.1,x.2,(x.1.length:Int),0)).bind fun r2=>match r2 with | .inl o3=>some (- 1:Int) | .inr z4=>some z4
theorem u85:u33=u3x:=zC 10005 rfl Tryz.func287 (by kernel_rfl)
def u3g(x:Z97):Ht Bool:=zK 10004 x
def u3b (x:Z97):Ht Bool:=(u33 x).bind fun y1=>some (decide (y1≥0))
theorem u73:u3g=u3b:=zC 10004 rfl Tryz.func204 (by kernel_rfl)
def u6g(x:Z97):Ht Bool:=zK 10003 x
def t2f (x:Z97):Ht Bool:=(u3g x).bind fun y1=>some y1
theorem s3c:u6g=t2f:=zC 10003 rfl Tryz.func93 (by kernel_rfl)
def t08(x:o9j):Ht Bool:=zK 170 x
def t1x(g:j8k→Ht s8d)(x:j8k):Ht s8d:=cond (decide (x.2.2.2.2<x.2.2.2.1)) (cond (y4q x.2.2.2.2 x.2.2.1.length) (cond (decide ((rdL u0a x.2.2.1 x.2.2.2.2.toNat).1≥x.2.1)) (some (.inr false)) (cond (decide (0≤(0:Int))&&decide ((0:Int)≤x.2.2.2.2)&&decide (x.2.2.2.2≤(x.1.length:Int))) ((u6g ((x.1.take x.2.2.2.2.toNat).drop (0:Int).toNat,rdL u0a x.2.2.1 x.2.2.2.2.toNat)).bind fun y1=>cond y1 (some (.inr false)) (g (x.1,x.2.1,x.2.2.1,x.2.2.2.1,IntKind.i64.wrap (x.2.2.2.2+1)))) none)) none) (some (.inl ()))
def t2a:=lpW _ _ t1x
theorem s68 x:t2a x=t1x t2a x:=zW s6g 170 Tryz.f170 2 26 x (by kernel_rfl)
def r2q (x:o9j):Ht Bool:=(t2a (x.1,x.2,x.1,(x.1.length:Int),0)).bind fun r2=>match r2 with | .inl o3=>some true | .inr z4=>some z4
theorem q9d:t08=r2q:=zC 170 rfl Tryz.func170 (by kernel_rfl)
def t1q(x:(Unit×Int)):Ht q69:=zK 291 x
def t9u (x:(Unit×Int)):Ht q69:=cond (decide (x.2<0)) none (cond (decide ((IntKind.i64.wrap (x.2 - (IntKind.i64.wrap ((0:Int) - (0:Int)))))>0)) (cond (decide (0≤(0:Int))&&decide ((0:Int)≤(0:Int))&&decide ((0:Int)≤0)) (cond (decide (1≤(IntKind.i64.wrap (x.2 - (IntKind.i64.wrap ((0:Int) - (0:Int))))))&&decide ((IntKind.i64.wrap (x.2 - (IntKind.i64.wrap ((0:Int) - (0:Int)))))≤1099511627776)) (cond (decide (0≤(0:Int))&&decide ((0:Int)≤(0:Int))&&decide ((0:Int)≤((List.replicate (IntKind.i64.wrap (x.2 - (IntKind.i64.wrap ((0:Int) - (0:Int))))).toNat u0a.zero).length:Int))) (some ((List.replicate (IntKind.i64.wrap (x.2 - (IntKind.i64.wrap ((0:Int) - (0:Int))))).toNat u0a.zero).take ((0:Int).toNat - (0:Int).toNat))) none) none) none) (some ([]:Hu u0a.den)))
theorem r5m:t1q=t9u:=zC 291 rfl Tryz.func291 (by kernel_rfl)
def u3o(x:j0z):Ht q69:=zK 171 x
def u4y(g:j8e→Ht (j9q⊕Unit))(x:j8e):Ht (j9q⊕Unit):=cond (decide (x.2.2.2.2<x.2.2.2.1)) (cond (y4q x.2.2.2.2 x.2.2.1.length) (cond (decide ((IntKind.i64.wrap (x.2.1+((rdL (Ty.sl u0a) x.2.2.1 x.2.2.2.2.toNat).length:Int)))<0)) none (g (x.1,IntKind.i64.wrap (x.2.1+((rdL (Ty.sl u0a) x.2.2.1 x.2.2.2.2.toNat).length:Int)),x.2.2.1,x.2.2.2.1,IntKind.i64.wrap (x.2.2.2.2+1)))) none) (some (.inl (x.1,x.2.1)))
def u21:=lpW _ _ u4y
theorem t44 x:u21 x=u4y u21 x:=zW t41 171 Tryz.f171 3 36 x (by kernel_rfl)
def u36(g:j8l→Ht j3k)(x:j8l):Ht j3k:=cond (decide (x.2.2.2<x.2.2.1)) (cond (y4q x.2.2.2 x.2.1.length) (cond (Nat.ble (x.1.length+(rdL (Ty.sl u0a) x.2.1 x.2.2.2.toNat).length) z7w) (g (x.1++(rdL (Ty.sl u0a) x.2.1 x.2.2.2.toNat),x.2.1,x.2.2.1,IntKind.i64.wrap (x.2.2.2+1))) none) none) (some (.inl x.1))
def u2q:=lpW _ _ u36
theorem t3g x:u2q x=u36 u2q x:=zW t29 171 Tryz.f171 11 36 x (by kernel_rfl)
def t7y (x:j0z):Ht q69:=(u21 (x,0,x,(x.length:Int),0)).bind fun r1=>match r1 with | .inl o2=>((t1q ((),o2.2)).bind fun y3=>(u2q (y3,o2.1,(o2.1.length:Int),0)).bind fun r4=>match r4 with | .inl o5=>some o5 | .inr z6=>none) | .inr z7=>none
theorem s82:u3o=t7y:=zC 171 rfl Tryz.func171 (by kernel_rfl)
def t2j(x:Hs):Ht Bool:=zK 380 x
def s5x (x:Hs):Ht Bool:=some (!z7o x x)
theorem q4k:t2j=s5x:=zC 380 rfl Tryz.func380 (by kernel_rfl)
def t5b(x:j09):Ht Int:=zK 308 x
def s2p (x:j09):Ht Int:=(t2j x.1).bind fun y1=>(t2j x.2).bind fun y2=>cond y1 (cond y2 (some (0:Int)) (some (- 1:Int))) (cond y2 (some (1:Int)) (cond (y3c x.1 x.2) (some (- 1:Int)) (cond (!(y3c x.1 x.2||z7o x.1 x.2)) (some (1:Int)) (some (0:Int)))))
theorem r84:t5b=s2p:=zC 308 rfl Tryz.func308 (by kernel_rfl)
def t82(x:Int):Ht Bool:=zK 381 x
def r5u (x:Int):Ht Bool:=some (!decide (x=x))
theorem p09:t82=r5u:=zC 381 rfl Tryz.func381 (by kernel_rfl)
def t91(x:j2w):Ht Int:=zK 309 x
def s8e (x:j2w):Ht Int:=(t82 x.1).bind fun y1=>(t82 x.2).bind fun y2=>cond y1 (cond y2 (some (0:Int)) (some (- 1:Int))) (cond y2 (some (1:Int)) (cond (decide (x.1<x.2)) (some (- 1:Int)) (cond (decide (x.1>x.2)) (some (1:Int)) (some (0:Int)))))
theorem q56:t91=s8e:=zC 309 rfl Tryz.func309 (by kernel_rfl)
def u5i(x:j5e):Ht Int:=zK 199 x
def t23 (x:j5e):Ht Int:=(t5b (x.1.1,x.2.1)).bind fun y1=>cond (!decide (y1=0)) (some y1) ((t91 (x.1.2.2.2,x.2.2.2.2)).bind fun y2=>some y2)
theorem s1j:u5i=t23:=zC 199 rfl Tryz.func199 (by kernel_rfl)
def t94(x:r9b):Ht Bool:=zK 230 x
def u9j(g:j5n→Ht (r9b⊕Bool))(x:j5n):Ht (r9b⊕Bool):=cond (decide (x.2.2.2<x.2.2.1)) (cond (y4q x.2.2.2 x.2.1.length) ((((u9c (rdL u0d x.2.1 x.2.2.2.toNat).1).bind fun y1=>cond (!y1) (some true) (cond (decide (((rdL u0d x.2.1 x.2.2.2.toNat).2.1.size:Int)>(12:Int))) (some true) (cond (rdL u0d x.2.1 x.2.2.2.toNat).2.2.1 (cond (!z7o (rdL u0d x.2.1 x.2.2.2.toNat).2.1 (⟨#[]⟩:Hs)) (some true) ((u03 ((rdL u0d x.2.1 x.2.2.2.toNat).2.2.2,1,9999)).bind fun y2=>cond (!y2) (some true) (cond (decide (x.2.2.2>0)) (cond (y4q (IntKind.i64.wrap (x.2.2.2 - 1)) x.1.length) ((u5i (rdL u0d x.1 (IntKind.i64.wrap (x.2.2.2 - 1)).toNat,rdL u0d x.2.1 x.2.2.2.toNat)).bind fun y3=>some (decide (y3≥0))) none) (some false)))) ((u03 ((rdL u0d x.2.1 x.2.2.2.toNat).2.2.2,1,9999)).bind fun y4=>cond (!y4) (some true) (cond (decide (x.2.2.2>0)) (cond (y4q (IntKind.i64.wrap (x.2.2.2 - 1)) x.1.length) ((u5i (rdL u0d x.1 (IntKind.i64.wrap (x.2.2.2 - 1)).toNat,rdL u0d x.2.1 x.2.2.2.toNat)).bind fun y5=>some (decide (y5≥0))) none) (some false)))))):Ht Bool).bind fun j6=>cond j6 (some (.inr false)) (g (x.1,x.2.1,x.2.2.1,IntKind.i64.wrap (x.2.2.2+1)))) none) (some (.inl x.1))
def u9r:=lpW _ _ u9j
theorem s5f x:u9r x=u9j u9r x:=zW s4d 230 Tryz.f230 2 55 x (by kernel_rfl)
def s8k (x:r9b):Ht Bool:=(u9r (x,x,(x.length:Int),0)).bind fun r7=>match r7 with | .inl o8=>some (decide ((o8.length:Int)≤(120:Int))) | .inr z9=>some z9
theorem q6c:t94=s8k:=zC 230 rfl Tryz.func230 (by kernel_rfl)
def u2y(x:u61):Ht Bool:=zK 115 x
def t8d(g:Z76→Ht j1b)(x:Z76):Ht j1b:=cond (decide (x.2.2.2<x.2.2.1)) (cond (y4q x.2.2.2 x.2.1.length) (cond (decide ((rdL u0d x.2.1 x.2.2.2.toNat).2.2.2>x.1.2.2.2.1)) (some (.inr false)) (g (x.1,x.2.1,x.2.2.1,IntKind.i64.wrap (x.2.2.2+1)))) none) (some (.inl x.1))
def t2t:=lpW _ _ t8d
theorem r8b x:t2t x=t8d t2t x:=zW r7c 115 Tryz.f115 4 139 x (by kernel_rfl)
def t5z(g:Z66→Ht j1b)(x:Z66):Ht j1b:=cond (decide (x.2.2.2<x.2.2.1)) (cond (y4q x.2.2.2 x.2.1.length) ((((u7y (rdL u0a x.2.1 x.2.2.2.toNat)).bind fun y7=>cond (!y7) (some true) ((t9b (rdL u0a x.2.1 x.2.2.2.toNat)).bind fun y8=>cond (!y8) (some true) (cond (decide ((rdL u0a x.2.1 x.2.2.2.toNat).2.2.2.1>x.1.2.2.2.1)) (some true) (cond (decide (x.2.2.2>0)) (cond (y4q (IntKind.i64.wrap (x.2.2.2 - 1)) x.1.2.1.length) (some (decide ((rdL u0a x.1.2.1 (IntKind.i64.wrap (x.2.2.2 - 1)).toNat).2.2.2.1≥(rdL u0a x.2.1 x.2.2.2.toNat).2.2.2.1))) none) (some false))))):Ht Bool).bind fun j9=>cond j9 (some (.inr false)) (g (x.1,x.2.1,x.2.2.1,IntKind.i64.wrap (x.2.2.2+1)))) none) (some (.inl x.1))
def t0f:=lpW _ _ t5z
theorem r4j x:t0f x=t5z t0f x:=zW r3d 115 Tryz.f115 10 139 x (by kernel_rfl)
def t52(g:Z66→Ht j1b)(x:Z66):Ht j1b:=cond (decide (x.2.2.2<x.2.2.1)) (cond (y4q x.2.2.2 x.2.1.length) ((((u7y (rdL u0a x.2.1 x.2.2.2.toNat)).bind fun y12=>cond (!y12) (some true) ((s03 (rdL u0a x.2.1 x.2.2.2.toNat)).bind fun y13=>cond (!y13) (some true) (cond (decide ((rdL u0a x.2.1 x.2.2.2.toNat).2.2.1>x.1.2.2.2.1)) (some true) (cond (decide (x.2.2.2>0)) (cond (y4q (IntKind.i64.wrap (x.2.2.2 - 1)) x.1.2.2.1.length) (some (!y3c (rdL u0a x.1.2.2.1 (IntKind.i64.wrap (x.2.2.2 - 1)).toNat).2.2.2.2.2.2.2 (rdL u0a x.2.1 x.2.2.2.toNat).2.2.2.2.2.2.2)) none) (some false))))):Ht Bool).bind fun j14=>cond j14 (some (.inr false)) (g (x.1,x.2.1,x.2.2.1,IntKind.i64.wrap (x.2.2.2+1)))) none) (some (.inl x.1))
def t0g:=lpW _ _ t52
theorem r4k x:t0g x=t52 t0g x:=zW r3e 115 Tryz.f115 16 139 x (by kernel_rfl)
def q24 (x:u61):Ht Bool:=(((t94 x.1).bind fun y1=>cond (!y1) (some true) (cond (decide ((x.2.1.length:Int)>(12:Int))) (some true) (cond (decide ((x.2.2.1.length:Int)>(3:Int))) (some true) ((u03 (x.2.2.2.1,0,9999)).bind fun y2=>cond (!y2) (some true) ((u03 (x.2.2.2.2,1,9999)).bind fun y3=>some (!y3)))))):Ht Bool).bind fun j4=>cond j4 (some false) ((t2t (x,x.1,(x.1.length:Int),0)).bind fun r5=>match r5 with | .inl o6=>((t0f (o6,o6.2.1,(o6.2.1.length:Int),0)).bind fun r10=>match r10 with | .inl o11=>((t0g (o11,o11.2.2.1,(o11.2.2.1.length:Int),0)).bind fun r15=>match r15 with | .inl o16=>((u3o ([o16.2.1,o16.2.2.1]:Hu q69)).bind fun y17=>(t08 (y17,o16.2.2.2.2)).bind fun y18=>some y18) | .inr z19=>some z19) | .inr z20=>some z20) | .inr z21=>some z21)
theorem p7s:u2y=q24:=zC 115 rfl Tryz.func115 (by kernel_rfl)
def s4n(x:u61):Ht s5n:=zK 35 x
def t3j(g:Z67→Ht (j3a⊕Unit))(x:Z67):Ht (j3a⊕Unit):=cond (decide (x.2.2.2.2<x.2.2.2.1)) (cond (y4q x.2.2.2.2 x.2.2.1.length) ((u52 (x.2.1,([(rdL u0d x.2.2.1 x.2.2.2.2.toNat).1,(rdL u0d x.2.2.1 x.2.2.2.2.toNat).2.1]:Hu Hs))).bind fun y3=>(u7k (y3,(rdL u0d x.2.2.1 x.2.2.2.2.toNat).2.2.1)).bind fun y4=>(u5j (y4,([(rdL u0d x.2.2.1 x.2.2.2.2.toNat).2.2.2]:Hu Int))).bind fun y5=>g (x.1,y5,x.2.2.1,x.2.2.2.1,IntKind.i64.wrap (x.2.2.2.2+1))) none) (some (.inl (x.1,x.2.1)))
def u8h:=lpW _ _ t3j
theorem s96 x:u8h x=t3j u8h x:=zW s88 35 Tryz.f35 6 94 x (by kernel_rfl)
def t1s(g:j76→Ht (j5h⊕Unit))(x:j76):Ht (j5h⊕Unit):=cond (decide (x.2.2.2.2.2.2<x.2.2.2.2.2.1)) (cond (y4q x.2.2.2.2.2.2 x.2.2.2.2.1.length) ((t1h (rdL u0a x.2.2.2.2.1 x.2.2.2.2.2.2.toNat)).bind fun y9=>cond (Nat.ble (x.1.length+(z7t y9.1).length) z7w) (g (x.1++(z7t y9.1),x.2.1,x.2.2.1,x.2.2.2.1,x.2.2.2.2.1,x.2.2.2.2.2.1,IntKind.i64.wrap (x.2.2.2.2.2.2+1))) none) none) (some (.inl (x.1,x.2.1,x.2.2.1,x.2.2.2.1)))
def u7r:=lpW _ _ t1s
theorem s63 x:u7r x=t1s u7r x:=zW s6b 35 Tryz.f35 17 94 x (by kernel_rfl)
def u7o(g:j5h→Ht j1a)(x:j5h):Ht j1a:=cond (decide (x.2.2.2<x.2.2.1)) (cond (y4q x.2.2.2 x.2.1.length) ((u5j (x.1,([((rdL (Ty.sl u0a) x.2.1 x.2.2.2.toNat).length:Int)]:Hu Int))).bind fun y8=>(u7r (y8,x.2.1,x.2.2.1,x.2.2.2,rdL (Ty.sl u0a) x.2.1 x.2.2.2.toNat,((rdL (Ty.sl u0a) x.2.1 x.2.2.2.toNat).length:Int),0)).bind fun r10=>match r10 with | .inl o11=>g (o11.1,o11.2.1,o11.2.2.1,IntKind.i64.wrap (o11.2.2.2+1)) | .inr z12=>some (.inr ())) none) (some (.inl x.1))
def t18:=lpW _ _ u7o
theorem t9s x:t18 x=u7o t18 x:=zW s6a 35 Tryz.f35 13 94 x (by kernel_rfl)
def r5w (x:u61):Ht s5n:=(u2y x).bind fun y1=>cond (!y1) (some ((⟨#[]⟩:Hs),false)) ((u5j (([]:Hu Int),([x.2.2.2.1,x.2.2.2.2,(x.1.length:Int)]:Hu Int))).bind fun y2=>(u8h (x,y2,x.1,(x.1.length:Int),0)).bind fun r6=>match r6 with | .inl o7=>((t18 (o7.2,([o7.1.2.1,o7.1.2.2.1]:Hu q69),(([o7.1.2.1,o7.1.2.2.1]:Hu q69).length:Int),0)).bind fun r13=>match r13 with | .inl o14=>some (y7g o14,true) | .inr z15=>none) | .inr z16=>none)
theorem p1b:s4n=r5w:=zC 35 rfl Tryz.func35 (by kernel_rfl)
def s4v(x:u9x):Ht Bool:=zK 125 x
def r6b (x:u9x):Ht Bool:=((cond (decide (x.1=0)) (cond (decide (x.2.1=0)) (cond (decide (x.2.2.1=0)) (cond (decide (x.2.2.2.1=0)) (cond (decide ((x.2.2.2.2.1.length:Int)=(0:Int))) (cond (decide ((x.2.2.2.2.2.1.length:Int)=(0:Int))) (cond (!x.2.2.2.2.2.2.1) (some (z7o x.2.2.2.2.2.2.2 (⟨#[]⟩:Hs))) (some false)) (some false)) (some false)) (some false)) (some false)) (some false)) (some false)):Ht Bool).bind fun j1=>some j1
theorem p1r:s4v=r6b:=zC 125 rfl Tryz.func125 (by kernel_rfl)
def s2a(x:u61):Ht Bool:=zK 126 x
def r2n (x:u61):Ht Bool:=((cond (decide ((x.1.length:Int)=(0:Int))) (cond (decide ((x.2.1.length:Int)=(0:Int))) (cond (decide ((x.2.2.1.length:Int)=(0:Int))) (cond (decide (x.2.2.2.1=0)) (some (decide (x.2.2.2.2=0))) (some false)) (some false)) (some false)) (some false)):Ht Bool).bind fun j1=>some j1
theorem q9a:s2a=r2n:=zC 126 rfl Tryz.func126 (by kernel_rfl)
def t87(x:Z33):Ht Bool:=zK 40 x
def r54 (x:Z33):Ht Bool:=(s4v x.2.1).bind fun y1=>(s2a x.2.2.2.2).bind fun y2=>cond (decide (x.1=1)) ((((u7y x.2.1).bind fun y3=>cond y3 ((t9b x.2.1).bind fun y4=>some y4) (some false)):Ht Bool).bind fun j5=>((cond j5 (cond (z7o x.2.2.1 (⟨#[]⟩:Hs)) (cond y2 (cond (!x.2.2.2.1) (some true) (some (decide (x.1=3)))) (some false)) (some false)) (some false)):Ht Bool).bind fun j6=>some j6) (cond (decide (x.1=2)) ((((u7y x.2.1).bind fun y7=>cond y7 ((s03 x.2.1).bind fun y8=>some y8) (some false)):Ht Bool).bind fun j9=>((cond j9 (cond (z7o x.2.2.1 (⟨#[]⟩:Hs)) (cond y2 (cond (!x.2.2.2.1) (some true) (some (decide (x.1=3)))) (some false)) (some false)) (some false)):Ht Bool).bind fun j10=>some j10) (cond (decide (x.1=3)) ((u9c x.2.2.1).bind fun y11=>((cond y1 (cond y11 (cond y2 (cond (!x.2.2.2.1) (some true) (some (decide (x.1=3)))) (some false)) (some false)) (some false)):Ht Bool).bind fun j12=>some j12) (cond (decide (x.1=4)) ((u2y x.2.2.2.2).bind fun y13=>((cond y1 (cond (z7o x.2.2.1 (⟨#[]⟩:Hs)) (cond y13 (cond (!x.2.2.2.1) (some true) (some (decide (x.1=3)))) (some false)) (some false)) (some false)):Ht Bool).bind fun j14=>some j14) (some false))))
theorem p1j:t87=r54:=zC 40 rfl Tryz.func40 (by kernel_rfl)
def s7r(x:j6c):Ht Int:=zK 316 x
def r19(g:j57→Ht (j1f⊕Unit))(x:j57):Ht (j1f⊕Unit):=cond (decide (x.2.2.2<8)) (cond (decide ((Int.tmod x.1 (2:Int))=1)) (g (IntKind.u32.wrap ((BitVec.ofInt IntKind.u32.bits (IntKind.u32.wrap (Int.tdiv x.1 (2:Int)))^^^BitVec.ofInt IntKind.u32.bits (3558460437:Int)).toNat:Int),x.2.1,x.2.2.1,IntKind.i64.wrap (x.2.2.2+1))) (g (IntKind.u32.wrap (Int.tdiv x.1 (2:Int)),x.2.1,x.2.2.1,IntKind.i64.wrap (x.2.2.2+1)))) (some (.inl (x.1,x.2.1,x.2.2.1)))
def t61:=lpW _ _ r19
theorem q91 x:t61 x=r19 t61 x:=zW r3i 316 Tryz.f316 6 33 x (by kernel_rfl)
def t56(g:j1f→Ht o5f)(x:j1f):Ht o5f:=cond (decide (x.2.2<(x.2.1.size:Int))) (cond (y4q x.2.2 x.2.1.size) ((t61 (IntKind.u32.wrap ((BitVec.ofInt IntKind.u32.bits x.1^^^BitVec.ofInt IntKind.u32.bits (IntKind.u32.wrap ((x.2.1.data.toList.getD x.2.2.toNat 0).toNat:Int))).toNat:Int),x.2.1,x.2.2,0)).bind fun r1=>match r1 with | .inl o2=>g (o2.1,o2.2.1,IntKind.i64.wrap (o2.2.2+1)) | .inr z3=>some (.inr ())) none) (some (.inl x.1))
def t60:=lpW _ _ t56
theorem r4n x:t60 x=t56 t60 x:=zW r3h 316 Tryz.f316 2 33 x (by kernel_rfl)
def r9t (x:j6c):Ht Int:=(t60 (x.1,x.2,0)).bind fun r4=>match r4 with | .inl o5=>some o5 | .inr z6=>none
theorem p38:s7r=r9t:=zC 316 rfl Tryz.func316 (by kernel_rfl)
def q8h(x:Hs):Ht Int:=zK 210 x
def q7r (x:Hs):Ht Int:=(s7r (4294967295,x)).bind fun y1=>some y1
theorem o0r:q8h=q7r:=zC 210 rfl Tryz.func210 (by kernel_rfl)
def t4q(x:Hs):Ht s5n:=zK 100 x
def q29 (x:Hs):Ht s5n:=cond (decide ((x.size:Int)>(20000:Int))) (some ((⟨#[]⟩:Hs),false)) ((q8h x).bind fun y1=>cond (decide (x.size+(y7g ([IntKind.u8.wrap (Int.fdiv y1 (2^(min (24:Int).toNat IntKind.u32.bits))),IntKind.u8.wrap (Int.fdiv y1 (2^(min (16:Int).toNat IntKind.u32.bits))),IntKind.u8.wrap (Int.fdiv y1 (2^(min (8:Int).toNat IntKind.u32.bits))),IntKind.u8.wrap y1]:Hu Int)).size≤140737488355328)) (some (x++(y7g ([IntKind.u8.wrap (Int.fdiv y1 (2^(min (24:Int).toNat IntKind.u32.bits))),IntKind.u8.wrap (Int.fdiv y1 (2^(min (16:Int).toNat IntKind.u32.bits))),IntKind.u8.wrap (Int.fdiv y1 (2^(min (8:Int).toNat IntKind.u32.bits))),IntKind.u8.wrap y1]:Hu Int)),true)) none)
theorem p7x:t4q=q29:=zC 100 rfl Tryz.func100 (by kernel_rfl)
def u49(x:Z33):Ht s5n:=zK 30 x
def s8h (x:Z33):Ht s5n:=(t87 x).bind fun y1=>cond (!y1) (some ((⟨#[]⟩:Hs),false)) (cond (decide (x.1=3)) ((u52 (([(IntKind.u8.wrap x.1)]:Hu Int),([x.2.2.1]:Hu Hs))).bind fun y2=>(u7k (y2,x.2.2.2.1)).bind fun y3=>(t4q (y7g y3)).bind fun y4=>some y4) (cond (decide (x.1=4)) ((s4n x.2.2.2.2).bind fun y5=>cond (Nat.ble (([(IntKind.u8.wrap x.1)]:Hu Int).length+(z7t y5.1).length) z7w) ((t4q (y7g (([(IntKind.u8.wrap x.1)]:Hu Int)++(z7t y5.1)))).bind fun y6=>some y6) none) ((t1h x.2.1).bind fun y7=>cond (Nat.ble (([(IntKind.u8.wrap x.1)]:Hu Int).length+(z7t y7.1).length) z7w) ((t4q (y7g (([(IntKind.u8.wrap x.1)]:Hu Int)++(z7t y7.1)))).bind fun y8=>some y8) none)))
theorem q59:u49=s8h:=zC 30 rfl Tryz.func30 (by kernel_rfl)
def s4t(x:Hs):Ht s5n:=zK 101 x
def r56 (x:Hs):Ht s5n:=cond (decide ((x.size:Int)<(4:Int))) (some ((⟨#[]⟩:Hs),false)) (cond (decide (0≤(0:Int))&&decide ((0:Int)≤(IntKind.i64.wrap ((x.size:Int) - (4:Int))))&&decide ((IntKind.i64.wrap ((x.size:Int) - (4:Int)))≤(x.size:Int))) ((t4q (x.extract (0:Int).toNat (IntKind.i64.wrap ((x.size:Int) - (4:Int))).toNat)).bind fun y1=>((cond (!y1.2) (some true) (some (!z7o y1.1 x))):Ht Bool).bind fun j2=>cond j2 (some ((⟨#[]⟩:Hs),false)) (some (x.extract (0:Int).toNat (IntKind.i64.wrap ((x.size:Int) - (4:Int))).toNat,true))) none)
theorem p1m:s4t=r56:=zC 101 rfl Tryz.func101 (by kernel_rfl)
def s00(x:o2o):Ht j1e:=zK 317 x
def t55(g:(Hs×j3o)→Ht (Unit⊕j1e))(x:(Hs×j3o)):Ht (Unit⊕j1e):=((cond (decide (x.2.2.2<5)) (some (decide ((IntKind.i64.wrap (x.2.1+x.2.2.2))<(x.1.size:Int)))) (some false)):Ht Bool).bind fun j2=>cond j2 (cond (y4q (IntKind.i64.wrap (x.2.1+x.2.2.2)) x.1.size) (cond (decide (0≤(IntKind.i64.wrap ((7:Int)*x.2.2.2)))) (cond (decide ((IntKind.i64.wrap ((x.1.data.toList.getD (IntKind.i64.wrap (x.2.1+x.2.2.2)).toNat 0).toNat:Int))<128)) ((t1i (IntKind.i64.wrap (x.2.2.1+(IntKind.i64.wrap ((Int.tmod (IntKind.i64.wrap ((x.1.data.toList.getD (IntKind.i64.wrap (x.2.1+x.2.2.2)).toNat 0).toNat:Int)) (128:Int))*2^(min (IntKind.i64.wrap ((7:Int)*x.2.2.2)).toNat IntKind.i64.bits)))))).bind fun y3=>((cond (!y3.2) (some true) (some (!decide ((y3.1.size:Int)=(IntKind.i64.wrap (x.2.2.2+1)))))):Ht Bool).bind fun j4=>cond j4 (some (.inr (0,0,false))) (some (.inr (IntKind.i64.wrap (x.2.2.1+(IntKind.i64.wrap ((Int.tmod (IntKind.i64.wrap ((x.1.data.toList.getD (IntKind.i64.wrap (x.2.1+x.2.2.2)).toNat 0).toNat:Int)) (128:Int))*2^(min (IntKind.i64.wrap ((7:Int)*x.2.2.2)).toNat IntKind.i64.bits)))),IntKind.i64.wrap ((IntKind.i64.wrap (x.2.1+x.2.2.2))+1),true)))) (g (x.1,x.2.1,IntKind.i64.wrap (x.2.2.1+(IntKind.i64.wrap ((Int.tmod (IntKind.i64.wrap ((x.1.data.toList.getD (IntKind.i64.wrap (x.2.1+x.2.2.2)).toNat 0).toNat:Int)) (128:Int))*2^(min (IntKind.i64.wrap ((7:Int)*x.2.2.2)).toNat IntKind.i64.bits)))),IntKind.i64.wrap (x.2.2.2+1)))) none) none) (some (.inl ()))
def t6z:=lpW _ _ t55
theorem r4m x:t6z x=t55 t6z x:=zW r3g 317 Tryz.f317 5 63 x (by kernel_rfl)
def r9q (x:o2o):Ht j1e:=(u03 (x.2,0,(x.1.size:Int))).bind fun y1=>cond (!y1) (some (0,0,false)) ((t6z (x.1,x.2,0,0)).bind fun r5=>match r5 with | .inl o6=>some (0,0,false) | .inr z7=>some z7)
theorem p35:s00=r9q:=zC 317 rfl Tryz.func317 (by kernel_rfl)
def t7d(x:o2o):Ht q2w:=zK 211 x
def r2h (x:o2o):Ht q2w:=(s00 x).bind fun y1=>((cond (!y1.2.2) (some true) (cond (decide (y1.1>20000)) (some true) (some (decide (y1.1>(IntKind.i64.wrap ((x.1.size:Int) - y1.2.1))))))):Ht Bool).bind fun j2=>cond j2 (some ((⟨#[]⟩:Hs),0,false)) (cond (decide (0≤y1.2.1)&&decide (y1.2.1≤(IntKind.i64.wrap (y1.2.1+y1.1)))&&decide ((IntKind.i64.wrap (y1.2.1+y1.1))≤(x.1.size:Int))) (some (x.1.extract y1.2.1.toNat (IntKind.i64.wrap (y1.2.1+y1.1)).toNat,IntKind.i64.wrap (y1.2.1+y1.1),true)) none)
theorem q83:t7d=r2h:=zC 211 rfl Tryz.func211 (by kernel_rfl)
def u19(x:q2w):Ht j5v:=zK 102 x
def s52 (x:q2w):Ht j5v:=(t7d (x.1,x.2.1)).bind fun y1=>((cond x.2.2 (some true) (some (!y1.2.2))):Ht Bool).bind fun j2=>cond j2 (some ((⟨#[]⟩:Hs),x.1,x.2.1,true)) (some (y1.1,x.1,y1.2.1,x.2.2))
theorem q4r:u19=s52:=zC 102 rfl Tryz.func102 (by kernel_rfl)
def u5v(x:q2w):Ht (Bool×q2w):=zK 103 x
def s51 (x:q2w):Ht (Bool×q2w):=((cond x.2.2 (some true) ((u03 (x.2.1,0,IntKind.i64.wrap ((x.1.size:Int) - (1:Int)))).bind fun y1=>cond (!y1) (some true) (cond (y4q x.2.1 x.1.size) (some (decide (((x.1.data.toList.getD x.2.1.toNat 0).toNat:Int)>(1:Int)))) none))):Ht Bool).bind fun j2=>cond j2 (some (false,x.1,x.2.1,true)) (cond (y4q (IntKind.i64.wrap ((IntKind.i64.wrap (x.2.1+1)) - 1)) x.1.size) (some (decide (((x.1.data.toList.getD (IntKind.i64.wrap ((IntKind.i64.wrap (x.2.1+1)) - 1)).toNat 0).toNat:Int)=(1:Int)),x.1,IntKind.i64.wrap (x.2.1+1),x.2.2)) none)
theorem q4q:u5v=s51:=zC 103 rfl Tryz.func103 (by kernel_rfl)
def u1d(x:q2w):Ht (Int×q2w):=zK 213 x
def s8n (x:q2w):Ht (Int×q2w):=(s00 (x.1,x.2.1)).bind fun y1=>((cond x.2.2 (some true) (some (!y1.2.2))):Ht Bool).bind fun j2=>cond j2 (some (0,x.1,x.2.1,true)) (some (y1.1,x.1,y1.2.1,x.2.2))
theorem q6f:u1d=s8n:=zC 213 rfl Tryz.func213 (by kernel_rfl)
def s20(x:Z84):Ht Z84:=zK 215 x
def s2r (x:Z84):Ht Z84:=(u19 x.1).bind fun y1=>(u19 y1.2).bind fun y2=>(u5v y2.2).bind fun y3=>(u1d y3.2).bind fun y4=>cond (Nat.ble (x.2.1.length+([(y1.1,y2.1,y3.1,y4.1)]:Hu u0d.den).length) z7w) (some (y4.2,x.2.1++([(y1.1,y2.1,y3.1,y4.1)]:Hu u0d.den),x.2.2)) none
theorem r86:s20=s2r:=zC 215 rfl Tryz.func215 (by kernel_rfl)
def u22(x:Z75):Ht Z75:=zK 10015 x
def u1v(g:Z65→Ht (Z75⊕Unit))(x:Z65):Ht (Z75⊕Unit):=((cond (decide (x.2.2.2<x.2.2.1)) (some (!x.1.2.2)) (some false)):Ht Bool).bind fun j2=>cond j2 ((s20 (x.1,x.2.1.2)).bind fun y3=>g (y3.1,((),y3.2),x.2.2.1,IntKind.i64.wrap (x.2.2.2+1))) (some (.inl (x.1,(),x.2.1.2)))
def u05:=lpW _ _ u1v
theorem u5n x:u05 x=u1v u05 x:=zW u5f 10015 Tryz.f214 2 22 x (by kernel_rfl)
def u6a (x:Z75):Ht Z75:=(u1d x.1).bind fun y1=>(u05 (y1.2,((),x.2.2),y1.1,0)).bind fun r4=>match r4 with | .inl o5=>some (o5.1,(),o5.2.2) | .inr z6=>none
theorem t48:u22=u6a:=zC 10015 rfl Tryz.func214 (by kernel_rfl)
def s4w(x:j3b):Ht j3b:=zK 218 x
def s30 (x:j3b):Ht j3b:=(u19 x.2).bind fun y1=>(u19 y1.2).bind fun y2=>cond (Nat.ble (x.1.2.2.2.2.1.length+([(y1.1,y2.1)]:Hu q7m.den).length) z7w) (some ((x.1.1,x.1.2.1,x.1.2.2.1,x.1.2.2.2.1,x.1.2.2.2.2.1++([(y1.1,y2.1)]:Hu q7m.den),x.1.2.2.2.2.2),y2.2)) none
theorem q19:s4w=s30:=zC 218 rfl Tryz.func218 (by kernel_rfl)
def u3e(x:Z98):Ht Z98:=zK 10017 x
def u14(g:Z79→Ht (Z98⊕Unit))(x:Z79):Ht (Z98⊕Unit):=((cond (decide (x.2.2.2<x.2.2.1)) (some (!x.1.2.2)) (some false)):Ht Bool).bind fun j2=>cond j2 ((s4w (x.2.1.1,x.1)).bind fun y3=>g (y3.2,(y3.1,()),x.2.2.1,IntKind.i64.wrap (x.2.2.2+1))) (some (.inl (x.1,x.2.1.1,())))
def u09:=lpW _ _ u14
theorem u5w x:u09 x=u14 u09 x:=zW u5t 10017 Tryz.f214 2 22 x (by kernel_rfl)
def u6l (x:Z98):Ht Z98:=(u1d x.1).bind fun y1=>(u09 (y1.2,(x.2.1,()),y1.1,0)).bind fun r4=>match r4 with | .inl o5=>some (o5.1,o5.2.1,()) | .inr z6=>none
theorem t5h:u3e=u6l:=zC 10017 rfl Tryz.func214 (by kernel_rfl)
def s4x(x:j37):Ht j37:=zK 219 x
def s31 (x:j37):Ht j37:=(u19 x.1).bind fun y1=>(u19 y1.2).bind fun y2=>(u5v y2.2).bind fun y3=>cond (Nat.ble (x.2.2.2.2.2.2.1.length+([(y1.1,y2.1,y3.1)]:Hu u2f.den).length) z7w) (some (y3.2,x.2.1,x.2.2.1,x.2.2.2.1,x.2.2.2.2.1,x.2.2.2.2.2.1,x.2.2.2.2.2.2.1++([(y1.1,y2.1,y3.1)]:Hu u2f.den),x.2.2.2.2.2.2.2)) none
theorem q2a:s4x=s31:=zC 219 rfl Tryz.func219 (by kernel_rfl)
def u3f(x:Z95):Ht Z95:=zK 10018 x
def u15(g:Z78→Ht (Z95⊕Unit))(x:Z78):Ht (Z95⊕Unit):=((cond (decide (x.2.2.2<x.2.2.1)) (some (!x.1.2.2)) (some false)):Ht Bool).bind fun j2=>cond j2 ((s4x (x.1,x.2.1.2)).bind fun y3=>g (y3.1,((),y3.2),x.2.2.1,IntKind.i64.wrap (x.2.2.2+1))) (some (.inl (x.1,(),x.2.1.2)))
def u1a:=lpW _ _ u15
theorem u5x x:u1a x=u15 u1a x:=zW u5u 10018 Tryz.f214 2 22 x (by kernel_rfl)
def u6m (x:Z95):Ht Z95:=(u1d x.1).bind fun y1=>(u1a (y1.2,((),x.2.2),y1.1,0)).bind fun r4=>match r4 with | .inl o5=>some (o5.1,(),o5.2.2) | .inr z6=>none
theorem t5i:u3f=u6m:=zC 10018 rfl Tryz.func214 (by kernel_rfl)
def u8x(x:q2w):Ht j3b:=zK 105 x
def s8o (x:q2w):Ht j3b:=(u1d x).bind fun y1=>(u1d y1.2).bind fun y2=>(u1d y2.2).bind fun y3=>(u1d y3.2).bind fun y4=>(u3e (y4.2,(y1.1,y2.1,y3.1,y4.1,([]:Hu q7m.den),([]:Hu u2f.den),false,(⟨#[]⟩:Hs)),())).bind fun y5=>(u3f (y5.1,(),y5.2.1)).bind fun y6=>(u5v y6.1).bind fun y7=>(u19 y7.2).bind fun y8=>cond y8.2.2.2 (some ((y6.2.2.1,y6.2.2.2.1,y6.2.2.2.2.1,y6.2.2.2.2.2.1,y6.2.2.2.2.2.2.1,y6.2.2.2.2.2.2.2.1,y7.1,y8.1),y8.2.1,y8.2.2.1,true)) ((u7y (y6.2.2.1,y6.2.2.2.1,y6.2.2.2.2.1,y6.2.2.2.2.2.1,y6.2.2.2.2.2.2.1,y6.2.2.2.2.2.2.2.1,y7.1,y8.1)).bind fun y9=>some ((y6.2.2.1,y6.2.2.2.1,y6.2.2.2.2.1,y6.2.2.2.2.2.1,y6.2.2.2.2.2.2.1,y6.2.2.2.2.2.2.2.1,y7.1,y8.1),y8.2.1,y8.2.2.1,!y9))
theorem q6g:u8x=s8o:=zC 105 rfl Tryz.func105 (by kernel_rfl)
def s21(x:Z82):Ht Z82:=zK 216 x
def s2s (x:Z82):Ht Z82:=(u8x x.2).bind fun y1=>cond (Nat.ble (x.1.2.1.length+([y1.1]:Hu u0a.den).length) z7w) (some ((x.1.1,x.1.2.1++([y1.1]:Hu u0a.den),x.1.2.2),y1.2)) none
theorem r87:s21=s2s:=zC 216 rfl Tryz.func216 (by kernel_rfl)
def u23(x:Z74):Ht Z74:=zK 10016 x
def u1w(g:Z62→Ht (Z74⊕Unit))(x:Z62):Ht (Z74⊕Unit):=((cond (decide (x.2.2.2<x.2.2.1)) (some (!x.1.2.2)) (some false)):Ht Bool).bind fun j2=>cond j2 ((s21 (x.2.1.1,x.1)).bind fun y3=>g (y3.2,(y3.1,()),x.2.2.1,IntKind.i64.wrap (x.2.2.2+1))) (some (.inl (x.1,x.2.1.1,())))
def u06:=lpW _ _ u1w
theorem u5o x:u06 x=u1w u06 x:=zW u5g 10016 Tryz.f214 2 22 x (by kernel_rfl)
def u6b (x:Z74):Ht Z74:=(u1d x.1).bind fun y1=>(u06 (y1.2,(x.2.1,()),y1.1,0)).bind fun r4=>match r4 with | .inl o5=>some (o5.1,o5.2.1,()) | .inr z6=>none
theorem t49:u23=u6b:=zC 10016 rfl Tryz.func214 (by kernel_rfl)
def s22(x:Z82):Ht Z82:=zK 217 x
def s2t (x:Z82):Ht Z82:=(u8x x.2).bind fun y1=>cond (Nat.ble (x.1.2.2.1.length+([y1.1]:Hu u0a.den).length) z7w) (some ((x.1.1,x.1.2.1,x.1.2.2.1++([y1.1]:Hu u0a.den),x.1.2.2.2),y1.2)) none
theorem r88:s22=s2t:=zC 217 rfl Tryz.func217 (by kernel_rfl)
def u24(x:Z74):Ht Z74:=zK 10019 x
def u1x(g:Z62→Ht (Z74⊕Unit))(x:Z62):Ht (Z74⊕Unit):=((cond (decide (x.2.2.2<x.2.2.1)) (some (!x.1.2.2)) (some false)):Ht Bool).bind fun j2=>cond j2 ((s22 (x.2.1.1,x.1)).bind fun y3=>g (y3.2,(y3.1,()),x.2.2.1,IntKind.i64.wrap (x.2.2.2+1))) (some (.inl (x.1,x.2.1.1,())))
def u07:=lpW _ _ u1x
theorem u5p x:u07 x=u1x u07 x:=zW u5h 10019 Tryz.f214 2 22 x (by kernel_rfl)
def u6c (x:Z74):Ht Z74:=(u1d x.1).bind fun y1=>(u07 (y1.2,(x.2.1,()),y1.1,0)).bind fun r4=>match r4 with | .inl o5=>some (o5.1,o5.2.1,()) | .inr z6=>none
theorem t5a:u24=u6c:=zC 10019 rfl Tryz.func214 (by kernel_rfl)
def t9d(x:q2w):Ht Z82:=zK 104 x
def s50 (x:q2w):Ht Z82:=(u1d x).bind fun y1=>(u1d y1.2).bind fun y2=>(u22 (y2.2,(),([]:Hu u0d.den),([]:Hu u0a.den),([]:Hu u0a.den),y1.1,y2.1)).bind fun y3=>(u23 (y3.1,y3.2.2,())).bind fun y4=>(u24 (y4.1,y4.2.1,())).bind fun y5=>cond y5.1.2.2 (some (y5.2.1,y5.1.1,y5.1.2.1,true)) ((u2y y5.2.1).bind fun y6=>some (y5.2.1,y5.1.1,y5.1.2.1,!y6))
theorem q4p:t9d=s50:=zC 104 rfl Tryz.func104 (by kernel_rfl)
def t92(x:Hs):Ht Z31:=zK 31 x
def s8f (x:Hs):Ht Z31:=(s4t x).bind fun y1=>((cond (!y1.2) (some true) (some (z7o y1.1 (⟨#[]⟩:Hs)))):Ht Bool).bind fun j2=>cond j2 (some ((0,(0,0,0,0,([]:Hu q7m.den),([]:Hu u2f.den),false,(⟨#[]⟩:Hs)),(⟨#[]⟩:Hs),false,([]:Hu u0d.den),([]:Hu u0a.den),([]:Hu u0a.den),0,0),false)) (cond (y4q (0:Int) y1.1.size) (cond (decide ((IntKind.i64.wrap ((y1.1.data.toList.getD (0:Int).toNat 0).toNat:Int))=3)) ((u19 (y1.1,1,false)).bind fun y3=>(u5v y3.2).bind fun y4=>(u49 (IntKind.i64.wrap ((y1.1.data.toList.getD (0:Int).toNat 0).toNat:Int),(0,0,0,0,([]:Hu q7m.den),([]:Hu u2f.den),false,(⟨#[]⟩:Hs)),y3.1,y4.1,([]:Hu u0d.den),([]:Hu u0a.den),([]:Hu u0a.den),0,0)).bind fun y5=>((cond y4.2.2.2 (some true) (cond (!y5.2) (some true) (some (!z7o y5.1 x)))):Ht Bool).bind fun j6=>cond j6 (some ((0,(0,0,0,0,([]:Hu q7m.den),([]:Hu u2f.den),false,(⟨#[]⟩:Hs)),(⟨#[]⟩:Hs),false,([]:Hu u0d.den),([]:Hu u0a.den),([]:Hu u0a.den),0,0),false)) (some ((IntKind.i64.wrap ((y1.1.data.toList.getD (0:Int).toNat 0).toNat:Int),(0,0,0,0,([]:Hu q7m.den),([]:Hu u2f.den),false,(⟨#[]⟩:Hs)),y3.1,y4.1,([]:Hu u0d.den),([]:Hu u0a.den),([]:Hu u0a.den),0,0),true))) (cond (decide ((IntKind.i64.wrap ((y1.1.data.toList.getD (0:Int).toNat 0).toNat:Int))=4)) ((t9d (y1.1,1,false)).bind fun y7=>(u49 (IntKind.i64.wrap ((y1.1.data.toList.getD (0:Int).toNat 0).toNat:Int),(0,0,0,0,([]:Hu q7m.den),([]:Hu u2f.den),false,(⟨#[]⟩:Hs)),(⟨#[]⟩:Hs),false,y7.1)).bind fun y8=>((cond y7.2.2.2 (some true) (cond (!y8.2) (some true) (some (!z7o y8.1 x)))):Ht Bool).bind fun j9=>cond j9 (some ((0,(0,0,0,0,([]:Hu q7m.den),([]:Hu u2f.den),false,(⟨#[]⟩:Hs)),(⟨#[]⟩:Hs),false,([]:Hu u0d.den),([]:Hu u0a.den),([]:Hu u0a.den),0,0),false)) (some ((IntKind.i64.wrap ((y1.1.data.toList.getD (0:Int).toNat 0).toNat:Int),(0,0,0,0,([]:Hu q7m.den),([]:Hu u2f.den),false,(⟨#[]⟩:Hs)),(⟨#[]⟩:Hs),false,y7.1),true))) ((u8x (y1.1,1,false)).bind fun y10=>(u49 (IntKind.i64.wrap ((y1.1.data.toList.getD (0:Int).toNat 0).toNat:Int),y10.1,(⟨#[]⟩:Hs),false,([]:Hu u0d.den),([]:Hu u0a.den),([]:Hu u0a.den),0,0)).bind fun y11=>((cond y10.2.2.2 (some true) (cond (!y11.2) (some true) (some (!z7o y11.1 x)))):Ht Bool).bind fun j12=>cond j12 (some ((0,(0,0,0,0,([]:Hu q7m.den),([]:Hu u2f.den),false,(⟨#[]⟩:Hs)),(⟨#[]⟩:Hs),false,([]:Hu u0d.den),([]:Hu u0a.den),([]:Hu u0a.den),0,0),false)) (some ((IntKind.i64.wrap ((y1.1.data.toList.getD (0:Int).toNat 0).toNat:Int),y10.1,(⟨#[]⟩:Hs),false,([]:Hu u0d.den),([]:Hu u0a.den),([]:Hu u0a.den),0,0),true))))) none)
theorem q57:t92=s8f:=zC 31 rfl Tryz.func31 (by kernel_rfl)
def q1p(x:Unit):Ht u61:=zK 60 x
def r9j (x:Unit):Ht u61:=some (([]:Hu u0d.den),([]:Hu u0a.den),([]:Hu u0a.den),0,1)
theorem p3y:q1p=r9j:=zC 60 rfl Tryz.func60 (by kernel_rfl)
def u8u(x:p3o):Ht s5n:=zK 365 x
def u9h(g:j9l→Ht j6a)(x:j9l):Ht j6a:=cond (decide (x.2.2.2.2<x.2.2.2.1)) (cond (y4q x.2.2.2.2 x.2.2.1.length) (cond (decide ((rdL q98 x.2.2.1 x.2.2.2.2.toNat).1=x.1)) (g (x.1,(rdL q98 x.2.2.1 x.2.2.2.2.toNat).2,x.2.2.1,x.2.2.2.1,IntKind.i64.wrap (x.2.2.2.2+1))) (g (x.1,x.2.1,x.2.2.1,x.2.2.2.1,IntKind.i64.wrap (x.2.2.2.2+1)))) none) (some (.inl x.2.1))
def u9p:=lpW _ _ u9h
theorem s5d x:u9p x=u9h u9p x:=zW s4b 365 Tryz.f365 5 36 x (by kernel_rfl)
def s8g (x:p3o):Ht s5n:=(u03 (x.2,0,IntKind.i64.wrap ((x.1.1.length:Int) - (1:Int)))).bind fun y1=>cond (!y1) (some ((⟨#[]⟩:Hs),false)) (cond (y4q x.2 x.1.1.length) ((u9p (x.2,rdL Ty.str x.1.1 x.2.toNat,x.1.2,(x.1.2.length:Int),0)).bind fun r2=>match r2 with | .inl o3=>some (o3,true) | .inr z4=>none) none)
theorem q58:u8u=s8g:=zC 365 rfl Tryz.func365 (by kernel_rfl)
def t93(x:j0y):Ht s5n:=zK 278 x
def u9i(g:j80→Ht (r9c⊕s5n))(x:j80):Ht (r9c⊕s5n):=cond (decide (x.2.2.2.2<x.2.1)) ((u8u (x.2.2.1,IntKind.i64.wrap (x.1+x.2.2.2.2))).bind fun y2=>cond (!y2.2) (some (.inr ((⟨#[]⟩:Hs),false))) (cond (Nat.ble (x.2.2.2.1.length+(z7t y2.1).length) z7w) (g (x.1,x.2.1,x.2.2.1,x.2.2.2.1++(z7t y2.1),IntKind.i64.wrap (x.2.2.2.2+1))) none)) (some (.inl x.2.2.2.1))
def u9q:=lpW _ _ u9i
theorem s5e x:u9q x=u9i u9q x:=zW s4c 278 Tryz.f278 5 35 x (by kernel_rfl)
def s8j (x:j0y):Ht s5n:=(u03 (x.2.2,0,100)).bind fun y1=>cond (!y1) (some ((⟨#[]⟩:Hs),false)) ((u9q (x.2.1,x.2.2,x.1,([]:Hu Int),0)).bind fun r3=>match r3 with | .inl o4=>some (y7g o4,true) | .inr z5=>some z5)
theorem q6b:t93=s8j:=zC 278 rfl Tryz.func278 (by kernel_rfl)
def t9a(x:Int):Ht Bool:=zK 280 x
def q3d (x:Int):Ht Bool:=((cond (decide (x=0)) (some true) (some (decide (x=1)))):Ht Bool).bind fun j1=>some j1
theorem p70:t9a=q3d:=zC 280 rfl Tryz.func280 (by kernel_rfl)
def u7g(x:Int):Ht Int:=zK 279 x
def r2d (x:Int):Ht Int:=(t9a x).bind fun y1=>cond (!y1) (some (0:Int)) (some (IntKind.i64.wrap ((1:Int)+(IntKind.i64.wrap (x*48)))))
theorem q8y:u7g=r2d:=zC 279 rfl Tryz.func279 (by kernel_rfl)
def t07(x:p3o):Ht Int:=zK 282 x
def r2p (x:p3o):Ht Int:=(u8u x).bind fun y1=>((cond (!y1.2) (some true) (some (z7o y1.1 (⟨#[]⟩:Hs)))):Ht Bool).bind fun j2=>cond j2 (some (0:Int)) (cond (y4q (0:Int) y1.1.size) (some (IntKind.i64.wrap ((y1.1.data.toList.getD (0:Int).toNat 0).toNat:Int))) none)
theorem q9c:t07=r2p:=zC 282 rfl Tryz.func282 (by kernel_rfl)
def t5k(x:p3o):Ht Int:=zK 281 x
def r9k (x:p3o):Ht Int:=(t9a x.2).bind fun y1=>cond (!y1) (some (0:Int)) ((u7g x.2).bind fun y2=>(t07 (x.1,y2)).bind fun y3=>some y3)
theorem p3z:t5k=r9k:=zC 281 rfl Tryz.func281 (by kernel_rfl)
def u8t(x:p3o):Ht (q8o×j2v):=zK 162 x
def t3m(g:j8m→Ht j56)(x:j8m):Ht j56:=(t5k (x.2.1,x.1)).bind fun y5=>cond (decide (x.2.2.2.2.2<y5)) ((t7d (x.2.2.1,x.2.2.2.2.1)).bind fun y6=>((cond (!y6.2.2) (some true) (some (z7o y6.1 (⟨#[]⟩:Hs)))):Ht Bool).bind fun j7=>cond j7 (some (.inr (([]:Hu Hs),0,false))) (cond (Nat.ble (x.2.2.2.1.length+([y6.1]:Hu Hs).length) z7w) (g (x.1,x.2.1,x.2.2.1,x.2.2.2.1++([y6.1]:Hu Hs),y6.2.1,IntKind.i64.wrap (x.2.2.2.2.2+1))) none)) (some (.inl (x.2.2.2.1,x.2.2.2.2.1)))
def t4b:=lpW _ _ t3m
theorem s99 x:t4b x=t3m t4b x:=zW s9b 162 Tryz.f162 7 57 x (by kernel_rfl)
def r53 (x:p3o):Ht (q8o×j2v):=(u7g x.2).bind fun y1=>(t93 (x.1,IntKind.i64.wrap (y1+1),47)).bind fun y2=>((cond (!y2.2) (some true) ((t9a x.2).bind fun y3=>some (!y3))):Ht Bool).bind fun j4=>cond j4 (some (([]:Hu Hs),0,false)) ((t4b (x.2,x.1,y2.1,([]:Hu Hs),0,0)).bind fun r8=>match r8 with | .inl o9=>some (o9.1,o9.2,true) | .inr z10=>some z10)
theorem p1i:u8t=r53:=zC 162 rfl Tryz.func162 (by kernel_rfl)
def t83(x:u99):Ht Int:=zK 164 x
def r5v (x:u99):Ht Int:=(t07 (x,0)).bind fun y1=>some (Int.tmod y1 (2:Int))
theorem p1a:t83=r5v:=zC 164 rfl Tryz.func164 (by kernel_rfl)
def s4q(x:u99):Ht q8o:=zK 61 x
def r51 (x:u99):Ht q8o:=(t83 x).bind fun y1=>(u8t (x,y1)).bind fun y2=>some y2.1
theorem p1g:s4q=r51:=zC 61 rfl Tryz.func61 (by kernel_rfl)
def t5n(x:u9x):Ht u9x:=zK 185 x
def r91 (x:u9x):Ht u9x:=cond (Nat.ble x.2.2.2.2.1.length z7w) (cond (Nat.ble x.2.2.2.2.2.1.length z7w) (some x) none) none
theorem p4g:t5n=r91:=zC 185 rfl Tryz.func185 (by kernel_rfl)
def t3a(x:q69):Ht q69:=zK 283 x
def t3r(g:j66→Ht j3k)(x:j66):Ht j3k:=cond (decide (x.2.2.2<x.2.2.1)) (cond (y4q x.2.2.2 x.2.1.length) ((t5n (rdL u0a x.2.1 x.2.2.2.toNat)).bind fun y1=>cond (Nat.ble (x.1.length+([y1]:Hu u0a.den).length) z7w) (g (x.1++([y1]:Hu u0a.den),x.2.1,x.2.2.1,IntKind.i64.wrap (x.2.2.2+1))) none) none) (some (.inl x.1))
def t4f:=lpW _ _ t3r
theorem r0e x:t4f x=t3r t4f x:=zW s9g 283 Tryz.f283 3 19 x (by kernel_rfl)
def r6a (x:q69):Ht q69:=(t4f (([]:Hu u0a.den),x,(x.length:Int),0)).bind fun r2=>match r2 with | .inl o3=>some o3 | .inr z4=>none
theorem p1q:t3a=r6a:=zC 283 rfl Tryz.func283 (by kernel_rfl)
def u1r(x:u61):Ht u61:=zK 165 x
def r58 (x:u61):Ht u61:=cond (Nat.ble x.1.length z7w) ((t3a x.2.1).bind fun y1=>(t3a x.2.2.1).bind fun y2=>some (x.1,y1,y2,x.2.2.2)) none
theorem p1o:u1r=r58:=zC 165 rfl Tryz.func165 (by kernel_rfl)
def s4r(x:Z73):Ht Int:=zK 172 x
def t3l(g:j4a→Ht o5f)(x:j4a):Ht o5f:=cond (decide (x.2.2.2<x.2.2.1)) (cond (y4q x.2.2.2 x.2.1.length) (g (y8i x.1 (rdL u0a x.2.1 x.2.2.2.toNat).2.2.1,x.2.1,x.2.2.1,IntKind.i64.wrap (x.2.2.2+1))) none) (some (.inl x.1))
def t4a:=lpW _ _ t3l
theorem s98 x:t4a x=t3l t4a x:=zW s9a 172 Tryz.f172 3 22 x (by kernel_rfl)
def r52 (x:Z73):Ht Int:=(t4a (x.1.2.2.2.1,x.2,(x.2.length:Int),0)).bind fun r1=>match r1 with | .inl o2=>some o2 | .inr z3=>none
theorem p1h:s4r=r52:=zC 172 rfl Tryz.func172 (by kernel_rfl)
def s3i(x:j00):Ht Int:=zK 292 x
def t8i(g:j8s→Ht o5f)(x:j8s):Ht o5f:=cond (decide (x.2.2.2.2.2.2<x.2.2.2.2.2.1)) (cond (y4q x.2.2.2.2.2.2 x.2.2.2.2.1.length) (((cond (z7o (rdL u0d x.2.2.2.2.1 x.2.2.2.2.2.2.toNat).1 x.2.1) (cond (decide ((rdL u0d x.2.2.2.2.1 x.2.2.2.2.2.2.toNat).2.2.2≤x.2.2.1)) (cond (decide (x.2.2.2.1<0)) (some true) (cond (y4q x.2.2.2.1 x.1.length) (some (decide ((rdL u0d x.2.2.2.2.1 x.2.2.2.2.2.2.toNat).2.2.2>(rdL u0d x.1 x.2.2.2.1.toNat).2.2.2))) none)) (some false)) (some false)):Ht Bool).bind fun j1=>cond j1 (g (x.1,x.2.1,x.2.2.1,x.2.2.2.2.2.2,x.2.2.2.2.1,x.2.2.2.2.2.1,IntKind.i64.wrap (x.2.2.2.2.2.2+1))) (g (x.1,x.2.1,x.2.2.1,x.2.2.2.1,x.2.2.2.2.1,x.2.2.2.2.2.1,IntKind.i64.wrap (x.2.2.2.2.2.2+1)))) none) (some (.inl x.2.2.2.1))
def t2u:=lpW _ _ t8i
theorem r8g x:t2u x=t8i t2u x:=zW r7h 292 Tryz.f292 3 44 x (by kernel_rfl)
def q3g (x:j00):Ht Int:=(t2u (x.1,x.2.1,x.2.2,(- 1:Int),x.1,(x.1.length:Int),0)).bind fun r2=>match r2 with | .inl o3=>some o3 | .inr z4=>none
theorem p72:s3i=q3g:=zC 292 rfl Tryz.func292 (by kernel_rfl)
def s18(x:(Hs×r9b)):Ht Int:=zK 293 x
def t1v(g:j9c→Ht o5f)(x:j9c):Ht o5f:=cond (decide (x.2.2.2.2<x.2.2.2.1)) (cond (y4q x.2.2.2.2 x.2.2.1.length) (cond (z7o (rdL u0d x.2.2.1 x.2.2.2.2.toNat).1 x.1) (g (x.1,IntKind.i64.wrap (x.2.1+1),x.2.2.1,x.2.2.2.1,IntKind.i64.wrap (x.2.2.2.2+1))) (g (x.1,x.2.1,x.2.2.1,x.2.2.2.1,IntKind.i64.wrap (x.2.2.2.2+1)))) none) (some (.inl x.2.1))
def u7s:=lpW _ _ t1v
theorem s66 x:u7s x=t1v u7s x:=zW s6e 293 Tryz.f293 3 21 x (by kernel_rfl)
def r2l (x:(Hs×r9b)):Ht Int:=(u7s (x.1,0,x.2,(x.2.length:Int),0)).bind fun r1=>match r1 with | .inl o2=>some o2 | .inr z3=>none
theorem q88:s18=r2l:=zC 293 rfl Tryz.func293 (by kernel_rfl)
def s7t(x:j3p):Ht r9b:=zK 175 x
def t6a(g:j8p→Ht j58)(x:j8p):Ht j58:=cond (decide (x.2.2.2.2.2<x.2.2.2.2.1)) (cond (y4q x.2.2.2.2.2 x.2.2.2.1.length) (((cond (decide ((rdL u0d x.2.2.2.1 x.2.2.2.2.2.toNat).2.2.2>x.2.1)) (some true) ((s3i (x.1,(rdL u0d x.2.2.2.1 x.2.2.2.2.2.toNat).1,x.2.1)).bind fun y1=>some (decide (y1=x.2.2.2.2.2)))):Ht Bool).bind fun j2=>cond j2 (cond (Nat.ble (x.2.2.1.length+([(rdL u0d x.2.2.2.1 x.2.2.2.2.2.toNat)]:Hu u0d.den).length) z7w) (g (x.1,x.2.1,x.2.2.1++([(rdL u0d x.2.2.2.1 x.2.2.2.2.2.toNat)]:Hu u0d.den),x.2.2.2.1,x.2.2.2.2.1,IntKind.i64.wrap (x.2.2.2.2.2+1))) none) (g (x.1,x.2.1,x.2.2.1,x.2.2.2.1,x.2.2.2.2.1,IntKind.i64.wrap (x.2.2.2.2.2+1)))) none) (some (.inl (x.2.1,x.2.2.1)))
def t0i:=lpW _ _ t6a
theorem r4r x:t0i x=t6a t0i x:=zW r3m 175 Tryz.f175 3 66 x (by kernel_rfl)
def t3o(g:j8q→Ht o86)(x:j8q):Ht o86:=cond (decide (x.2.2.2.2.2<x.2.2.2.2.1)) (cond (y4q x.2.2.2.2.2 x.2.2.2.1.length) (cond (decide ((rdL u0d x.2.2.2.1 x.2.2.2.2.2.toNat).2.2.2>x.1)) (cond (Nat.ble (x.2.2.1.length+([(rdL u0d x.2.2.2.1 x.2.2.2.2.2.toNat)]:Hu u0d.den).length) z7w) (g (x.1,x.2.1,x.2.2.1++([(rdL u0d x.2.2.2.1 x.2.2.2.2.2.toNat)]:Hu u0d.den),x.2.2.2.1,x.2.2.2.2.1,IntKind.i64.wrap (x.2.2.2.2.2+1))) none) (cond (!(rdL u0d x.2.2.2.1 x.2.2.2.2.2.toNat).2.2.1) (cond (Nat.ble (x.2.2.1.length+([(rdL u0d x.2.2.2.1 x.2.2.2.2.2.toNat)]:Hu u0d.den).length) z7w) (g (x.1,x.2.1,x.2.2.1++([(rdL u0d x.2.2.2.1 x.2.2.2.2.2.toNat)]:Hu u0d.den),x.2.2.2.1,x.2.2.2.2.1,IntKind.i64.wrap (x.2.2.2.2.2+1))) none) ((s18 ((rdL u0d x.2.2.2.1 x.2.2.2.2.2.toNat).1,x.2.1)).bind fun y5=>cond (decide (y5>1)) (cond (Nat.ble (x.2.2.1.length+([(rdL u0d x.2.2.2.1 x.2.2.2.2.2.toNat)]:Hu u0d.den).length) z7w) (g (x.1,x.2.1,x.2.2.1++([(rdL u0d x.2.2.2.1 x.2.2.2.2.2.toNat)]:Hu u0d.den),x.2.2.2.1,x.2.2.2.2.1,IntKind.i64.wrap (x.2.2.2.2.2+1))) none) (g (x.1,x.2.1,x.2.2.1,x.2.2.2.1,x.2.2.2.2.1,IntKind.i64.wrap (x.2.2.2.2.2+1)))))) none) (some (.inl x.2.2.1))
def t4d:=lpW _ _ t3o
theorem r0b x:t4d x=t3o t4d x:=zW s9d 175 Tryz.f175 11 66 x (by kernel_rfl)
def r9w (x:j3p):Ht r9b:=(t0i (x.1,x.2,([]:Hu u0d.den),x.1,(x.1.length:Int),0)).bind fun r3=>match r3 with | .inl o4=>((t4d (o4.1,o4.2,([]:Hu u0d.den),o4.2,(o4.2.length:Int),0)).bind fun r6=>match r6 with | .inl o7=>some o7 | .inr z8=>none) | .inr z9=>none
theorem p4b:s7t=r9w:=zC 175 rfl Tryz.func175 (by kernel_rfl)
def u8v(x:o7k):Ht Bool:=zK 174 x
def p0w (x:o7k):Ht Bool:=some (decide (x.1.2.2.2.1≤x.2))
theorem p1l:u8v=p0w:=zC 174 rfl Tryz.func174 (by kernel_rfl)
def u45(x:o9j):Ht Int:=zK 10002 x
def u37(g:j5m→Ht p9u)(x:j5m):Ht p9u:=cond (decide (x.2.2.2<x.2.2.1)) (cond (y4q x.2.2.2 x.1.length) ((u8v (rdL u0a x.1 x.2.2.2.toNat,x.2.1)).bind fun y1=>cond y1 (some (.inr x.2.2.2)) (g (x.1,x.2.1,x.2.2.1,IntKind.i64.wrap (x.2.2.2+1)))) none) (some (.inl ()))
def u1l:=lpW _ _ u37
theorem u98 x:u1l x=u37 u1l x:=zW u4e 10002 Tryz.f287 2 19 x (by kernel_rfl)
def u42 (x:o9j):Ht Int:=(u1l (x.1,x.2,(x.1.length:Int),0)).bind fun r2=>match r2 with | .inl o3=>some (- 1:Int) | .inr z4=>some z4
theorem t1n:u45=u42:=zC 10002 rfl Tryz.func287 (by kernel_rfl)
def u2h(x:o9j):Ht q69:=zK 10001 x
def u3t(g:j5m→Ht j3n)(x:j5m):Ht j3n:=cond (decide (x.2.2.2<(x.1.length:Int))) (cond (y4q x.2.2.2 x.1.length) ((u8v (rdL u0a x.1 x.2.2.2.toNat,x.2.1)).bind fun y2=>cond (!y2) (cond (y4q x.2.2.1 x.1.length) (g (x.1.set x.2.2.1.toNat (rdL u0a x.1 x.2.2.2.toNat),x.2.1,IntKind.i64.wrap (x.2.2.1+1),IntKind.i64.wrap (x.2.2.2+1))) none) (g (x.1,x.2.1,x.2.2.1,IntKind.i64.wrap (x.2.2.2+1)))) none) (some (.inl (x.1,x.2.2.1)))
def u1f:=lpW _ _ u3t
theorem u86 x:u1f x=u3t u1f x:=zW u3y 10001 Tryz.f173 5 42 x (by kernel_rfl)
def u4p (x:o9j):Ht q69:=(u45 x).bind fun y1=>cond (decide (y1=(- 1:Int))) (some x.1) ((u1f (x.1,x.2,y1,IntKind.i64.wrap (y1+1))).bind fun r3=>match r3 with | .inl o4=>cond (decide (0≤o4.2)&&decide (o4.2≤(o4.1.length:Int))&&decide ((o4.1.length:Int)≤(o4.1.length:Int))) (cond (decide (0≤(0:Int))&&decide ((0:Int)≤o4.2)&&decide (o4.2≤((o4.1.take o4.2.toNat++List.replicate ((o4.1.length:Int).toNat - o4.2.toNat) u0a.zero++o4.1.drop (o4.2.toNat+((o4.1.length:Int).toNat - o4.2.toNat))).length:Int))) (some ((o4.1.take o4.2.toNat++List.replicate ((o4.1.length:Int).toNat - o4.2.toNat) u0a.zero++o4.1.drop (o4.2.toNat+((o4.1.length:Int).toNat - o4.2.toNat))).take (o4.2.toNat - (0:Int).toNat))) none) none | .inr z5=>none)
theorem t02:u2h=u4p:=zC 10001 rfl Tryz.func173 (by kernel_rfl)
def u6f(x:Z73):Ht u61:=zK 64 x
def q3b (x:Z73):Ht u61:=(u1r x.1).bind fun y1=>(s4r x).bind fun y2=>(u2h (y1.2.1,y2)).bind fun y3=>(s7t (x.1.1,y2)).bind fun y4=>some (y4,y3,y1.2.2)
theorem p7z:u6f=q3b:=zC 64 rfl Tryz.func64 (by kernel_rfl)
def u3r(x:j9p):Ht r9b:=zK 200 x
theorem s3e:∀(x:j9p),u3r x=y2q u0d x:=y6f (P:=Tryz.prog) (A:=A) (f:=200) (F:=y2q u0d) rfl
def t5c(x:j5e):Ht Bool:=zK 198 x
def s2q (x:j5e):Ht Bool:=(u5i x).bind fun y1=>some (decide (y1>0))
theorem r85:t5c=s2q:=zC 198 rfl Tryz.func198 (by kernel_rfl)
def u1u(x:j86):Ht Int:=zK 10006 x
def u0v(g:j8w→Ht p9u)(x:j8w):Ht p9u:=cond (decide (x.2.2.2<x.2.2.1)) (cond (y4q x.2.2.2 x.1.length) ((t5c (rdL u0d x.1 x.2.2.2.toNat,x.2.1)).bind fun y1=>cond y1 (some (.inr x.2.2.2)) (g (x.1,x.2.1,x.2.2.1,IntKind.i64.wrap (x.2.2.2+1)))) none) (some (.inl ()))
def u0w:=lpW _ _ u0v
theorem u2p x:u0w x=u0v u0w x:=zW u2n 10006 Tryz.f197 2 19 x (by kernel_rfl)
def u2w (x:j86):Ht Int:=(u0w (x.1,x.2,(x.1.length:Int),0)).bind fun r2=>match r2 with | .inl o3=>some (- 1:Int) | .inr z4=>some z4
theorem u62:u1u=u2w:=zC 10006 rfl Tryz.func197 (by kernel_rfl)
def t2k(x:j5s):Ht r9b:=zK 86 x
def u78(g:j85→Ht o86)(x:j85):Ht o86:=cond (decide (x.2.2.2.2<x.2.2.2.1)) (cond (y4q x.2.2.2.2 x.2.2.1.length) ((u1u (x.2.1,(rdL u2f x.2.2.1 x.2.2.2.2.toNat).1,(rdL u2f x.2.2.1 x.2.2.2.2.toNat).2.1,(rdL u2f x.2.2.1 x.2.2.2.2.toNat).2.2,x.1)).bind fun y1=>cond (decide (y1<0)) ((u3r (x.2.1,(x.2.1.length:Int),([((rdL u2f x.2.2.1 x.2.2.2.2.toNat).1,(rdL u2f x.2.2.1 x.2.2.2.2.toNat).2.1,(rdL u2f x.2.2.1 x.2.2.2.2.toNat).2.2,x.1)]:Hu u0d.den))).bind fun y2=>g (x.1,y2,x.2.2.1,x.2.2.2.1,IntKind.i64.wrap (x.2.2.2.2+1))) ((u3r (x.2.1,y1,([((rdL u2f x.2.2.1 x.2.2.2.2.toNat).1,(rdL u2f x.2.2.1 x.2.2.2.2.toNat).2.1,(rdL u2f x.2.2.1 x.2.2.2.2.toNat).2.2,x.1)]:Hu u0d.den))).bind fun y3=>g (x.1,y3,x.2.2.1,x.2.2.2.1,IntKind.i64.wrap (x.2.2.2.2+1)))) none) (some (.inl x.2.1))
def u8c:=lpW _ _ u78
theorem s25 x:u8c x=u78 u8c x:=zW s2u 86 Tryz.f86 3 42 x (by kernel_rfl)
def s5y (x:j5s):Ht r9b:=cond (Nat.ble x.1.length z7w) ((u8c (x.2.2,x.1,x.2.1,(x.2.1.length:Int),0)).bind fun r4=>match r4 with | .inl o5=>some o5 | .inr z6=>none) none
theorem q4l:t2k=s5y:=zC 86 rfl Tryz.func86 (by kernel_rfl)
def s0y(x:j5x):Ht Bool:=zK 201 x
def r9m (x:j5x):Ht Bool:=((cond (!y3c x.2 x.1.1) (some (y3c x.2 x.1.2||z7o x.2 x.1.2)) (some false)):Ht Bool).bind fun j1=>some j1
theorem p31:s0y=r9m:=zC 201 rfl Tryz.func201 (by kernel_rfl)
def s7s(x:j5y):Ht Bool:=zK 195 x
def t59(g:j8a→Ht (j5p⊕Bool))(x:j8a):Ht (j5p⊕Bool):=cond (decide (x.2.2.2.2.2.2.2<x.2.2.2.2.2.2.1)) (cond (y4q x.2.2.2.2.2.2.2 x.2.2.2.2.2.1.length) ((s0y (x.2.1,(rdL u2f x.2.2.2.2.2.1 x.2.2.2.2.2.2.2.toNat).1)).bind fun y1=>cond y1 (some (.inr true)) (g (x.1,x.2.1,x.2.2.1,x.2.2.2.1,x.2.2.2.2.1,x.2.2.2.2.2.1,x.2.2.2.2.2.2.1,IntKind.i64.wrap (x.2.2.2.2.2.2.2+1)))) none) (some (.inl (x.1,x.2.2.1,x.2.2.2.1,x.2.2.2.2.1)))
def t0h:=lpW _ _ t59
theorem r4q x:t0h x=t59 t0h x:=zW r3l 195 Tryz.f195 5 27 x (by kernel_rfl)
def t58(g:j5p→Ht s8d)(x:j5p):Ht s8d:=cond (decide (x.2.2.2<x.2.2.1)) (cond (y4q x.2.2.2 x.2.1.length) ((t0h (x.1,rdL q7m x.2.1 x.2.2.2.toNat,x.2.1,x.2.2.1,x.2.2.2,x.1,(x.1.length:Int),0)).bind fun r2=>match r2 with | .inl o3=>g (o3.1,o3.2.1,o3.2.2.1,IntKind.i64.wrap (o3.2.2.2+1)) | .inr z4=>some (.inr z4)) none) (some (.inl ()))
def t62:=lpW _ _ t58
theorem r4p x:t62 x=t58 t62 x:=zW r3k 195 Tryz.f195 2 27 x (by kernel_rfl)
def r9v (x:j5y):Ht Bool:=(t62 (x.2,x.1,(x.1.length:Int),0)).bind fun r5=>match r5 with | .inl o6=>some false | .inr z7=>some z7
theorem p4a:s7s=r9v:=zC 195 rfl Tryz.func195 (by kernel_rfl)
def s4o(x:Z54):Ht Bool:=zK 410 x
def r5x (x:Z54):Ht Bool:=((cond (decide (x.1.2.1=3)) (some (decide (x.1.2.2.2.1≤x.2.2.2.1))) (some false)):Ht Bool).bind fun j1=>some j1
theorem p1c:s4o=r5x:=zC 410 rfl Tryz.func410 (by kernel_rfl)
def r1e(x:Z54):Ht Bool:=zK 367 x
def q25 (x:Z54):Ht Bool:=cond (!decide (x.1.1=x.2.1)) ((s4o x).bind fun y1=>cond (!y1) ((s4o (x.2,x.1)).bind fun y2=>some (!y2)) (some false)) (some false)
theorem p7t:r1e=q25:=zC 367 rfl Tryz.func367 (by kernel_rfl)
def s6t(x:Z54):Ht Bool:=zK 286 x
def q7n (x:Z54):Ht Bool:=(((r1e x).bind fun y1=>cond y1 ((s7s (x.1.2.2.2.2.1,x.2.2.2.2.2.2.1)).bind fun y2=>some y2) (some false)):Ht Bool).bind fun j3=>some j3
theorem o0n:s6t=q7n:=zC 286 rfl Tryz.func286 (by kernel_rfl)
def s0z(x:Z54):Ht Bool:=zK 366 x
def r9n (x:Z54):Ht Bool:=(((t9b x.1).bind fun y1=>cond y1 ((s6t (x.2,x.1)).bind fun y2=>some y2) (some false)):Ht Bool).bind fun j3=>some j3
theorem p32:s0z=r9n:=zC 366 rfl Tryz.func366 (by kernel_rfl)
def u5c(x:Z97):Ht Int:=zK 10009 x
def u4o(g:Z81→Ht p9u)(x:Z81):Ht p9u:=cond (decide (x.2.2.2<x.2.2.1)) (cond (y4q x.2.2.2 x.1.length) ((s0z (rdL u0a x.1 x.2.2.2.toNat,x.2.1)).bind fun y1=>cond y1 (some (.inr x.2.2.2)) (g (x.1,x.2.1,x.2.2.1,IntKind.i64.wrap (x.2.2.2+1)))) none) (some (.inl ()))
def u1o:=lpW _ _ u4o
theorem t1d x:u1o x=u4o u1o x:=zW u4t 10009 Tryz.f287 2 19 x (by kernel_rfl)
def u5b (x:Z97):Ht Int:=(u1o (x.1,x.2,(x.1.length:Int),0)).bind fun r2=>match r2 with | .inl o3=>some (- 1:Int) | .inr z4=>some z4
theorem t2n:u5c=u5b:=zC 10009 rfl Tryz.func287 (by kernel_rfl)
def u4f(x:Z97):Ht Bool:=zK 10008 x
def u39 (x:Z97):Ht Bool:=(u5c x).bind fun y1=>some (decide (y1≥0))
theorem u9y:u4f=u39:=zC 10008 rfl Tryz.func204 (by kernel_rfl)
def t75(x:Z97):Ht Bool:=zK 10007 x
def t7x (x:Z97):Ht Bool:=(u4f x).bind fun y1=>some y1
theorem s81:t75=t7x:=zC 10007 rfl Tryz.func93 (by kernel_rfl)
def s6u(x:Z96):Ht Bool:=zK 284 x
def q7q (x:Z96):Ht Bool:=(t75 (x.2,x.1)).bind fun y1=>some y1
theorem o0q:s6u=q7q:=zC 284 rfl Tryz.func284 (by kernel_rfl)
def u7j(x:Z54):Ht Bool:=zK 285 x
def q8w (x:Z54):Ht Bool:=some (decide (x.1.1=x.2.1))
theorem q87:u7j=q8w:=zC 285 rfl Tryz.func285 (by kernel_rfl)
def u4w(x:Z97):Ht Int:=zK 10011 x
def u3w(g:Z81→Ht p9u)(x:Z81):Ht p9u:=cond (decide (x.2.2.2<x.2.2.1)) (cond (y4q x.2.2.2 x.1.length) ((u7j (rdL u0a x.1 x.2.2.2.toNat,x.2.1)).bind fun y1=>cond y1 (some (.inr x.2.2.2)) (g (x.1,x.2.1,x.2.2.1,IntKind.i64.wrap (x.2.2.2+1)))) none) (some (.inl ()))
def u1i:=lpW _ _ u3w
theorem u89 x:u1i x=u3w u1i x:=zW u31 10011 Tryz.f287 2 19 x (by kernel_rfl)
def u4s (x:Z97):Ht Int:=(u1i (x.1,x.2,(x.1.length:Int),0)).bind fun r2=>match r2 with | .inl o3=>some (- 1:Int) | .inr z4=>some z4
theorem t05:u4w=u4s:=zC 10011 rfl Tryz.func287 (by kernel_rfl)
def u1m(x:Z97):Ht q69:=zK 10010 x
def u3l(g:Z81→Ht j3n)(x:Z81):Ht j3n:=cond (decide (x.2.2.2<(x.1.length:Int))) (cond (y4q x.2.2.2 x.1.length) ((u7j (rdL u0a x.1 x.2.2.2.toNat,x.2.1)).bind fun y2=>cond (!y2) (cond (y4q x.2.2.1 x.1.length) (g (x.1.set x.2.2.1.toNat (rdL u0a x.1 x.2.2.2.toNat),x.2.1,IntKind.i64.wrap (x.2.2.1+1),IntKind.i64.wrap (x.2.2.2+1))) none) (g (x.1,x.2.1,x.2.2.1,IntKind.i64.wrap (x.2.2.2+1)))) none) (some (.inl (x.1,x.2.2.1)))
def u1c:=lpW _ _ u3l
theorem u84 x:u1c x=u3l u1c x:=zW u3n 10010 Tryz.f173 5 42 x (by kernel_rfl)
def u4b (x:Z97):Ht q69:=(u4w x).bind fun y1=>cond (decide (y1=(- 1:Int))) (some x.1) ((u1c (x.1,x.2,y1,IntKind.i64.wrap (y1+1))).bind fun r3=>match r3 with | .inl o4=>cond (decide (0≤o4.2)&&decide (o4.2≤(o4.1.length:Int))&&decide ((o4.1.length:Int)≤(o4.1.length:Int))) (cond (decide (0≤(0:Int))&&decide ((0:Int)≤o4.2)&&decide (o4.2≤((o4.1.take o4.2.toNat++List.replicate ((o4.1.length:Int).toNat - o4.2.toNat) u0a.zero++o4.1.drop (o4.2.toNat+((o4.1.length:Int).toNat - o4.2.toNat))).length:Int))) (some ((o4.1.take o4.2.toNat++List.replicate ((o4.1.length:Int).toNat - o4.2.toNat) u0a.zero++o4.1.drop (o4.2.toNat+((o4.1.length:Int).toNat - o4.2.toNat))).take (o4.2.toNat - (0:Int).toNat))) none) none | .inr z5=>none)
theorem u90:u1m=u4b:=zC 10010 rfl Tryz.func173 (by kernel_rfl)
def t5m(x:Z42):Ht u61:=zK 166 x
def t57(g:Z7→Ht (Z10⊕Unit))(x:Z7):Ht (Z10⊕Unit):=cond (decide (x.2.2.2.2.2.2<x.2.2.2.2.2.1)) (cond (y4q x.2.2.2.2.2.2 x.2.2.1.2.2.1.length) (cond (rdL u0a x.2.2.1.2.2.1 x.2.2.2.2.2.2.toNat).2.2.2.2.2.2.1 (cond (y4q x.2.2.2.2.2.2 x.2.2.1.2.2.1.length) (g (x.1,x.2.1,(x.2.2.1.1,x.2.2.1.2.1,x.2.2.1.2.2.1.set x.2.2.2.2.2.2.toNat ((rdL u0a x.2.2.1.2.2.1 x.2.2.2.2.2.2.toNat).1,(rdL u0a x.2.2.1.2.2.1 x.2.2.2.2.2.2.toNat).2.1,(rdL u0a x.2.2.1.2.2.1 x.2.2.2.2.2.2.toNat).2.2.1,(rdL u0a x.2.2.1.2.2.1 x.2.2.2.2.2.2.toNat).2.2.2.1,(rdL u0a x.2.2.1.2.2.1 x.2.2.2.2.2.2.toNat).2.2.2.2.1,(rdL u0a x.2.2.1.2.2.1 x.2.2.2.2.2.2.toNat).2.2.2.2.2.1,true,(rdL u0a x.2.2.1.2.2.1 x.2.2.2.2.2.2.toNat).2.2.2.2.2.2.2),x.2.2.1.2.2.2),x.2.2.2.1,(),x.2.2.2.2.2.1,IntKind.i64.wrap (x.2.2.2.2.2.2+1))) none) ((s6t (rdL u0a x.2.2.1.2.2.1 x.2.2.2.2.2.2.toNat,x.2.2.2.1)).bind fun y5=>cond (y4q x.2.2.2.2.2.2 x.2.2.1.2.2.1.length) (g (x.1,x.2.1,(x.2.2.1.1,x.2.2.1.2.1,x.2.2.1.2.2.1.set x.2.2.2.2.2.2.toNat ((rdL u0a x.2.2.1.2.2.1 x.2.2.2.2.2.2.toNat).1,(rdL u0a x.2.2.1.2.2.1 x.2.2.2.2.2.2.toNat).2.1,(rdL u0a x.2.2.1.2.2.1 x.2.2.2.2.2.2.toNat).2.2.1,(rdL u0a x.2.2.1.2.2.1 x.2.2.2.2.2.2.toNat).2.2.2.1,(rdL u0a x.2.2.1.2.2.1 x.2.2.2.2.2.2.toNat).2.2.2.2.1,(rdL u0a x.2.2.1.2.2.1 x.2.2.2.2.2.2.toNat).2.2.2.2.2.1,y5,(rdL u0a x.2.2.1.2.2.1 x.2.2.2.2.2.2.toNat).2.2.2.2.2.2.2),x.2.2.1.2.2.2),x.2.2.2.1,(),x.2.2.2.2.2.1,IntKind.i64.wrap (x.2.2.2.2.2.2+1))) none)) none) (some (.inl (x.1,x.2.1,x.2.2.1,x.2.2.2.1)))
def u68:=lpW _ _ t57
theorem r4o x:u68 x=t57 u68 x:=zW r3j 166 Tryz.f166 9 80 x (by kernel_rfl)
def r9u (x:Z42):Ht u61:=(u1r x.1).bind fun y1=>(t5n x.2).bind fun y2=>cond x.2.2.2.2.2.2.2.1 ((t2k (x.1.1,x.2.2.2.2.2.2.1,IntKind.i64.wrap (y1.2.2.2.1+1))).bind fun y3=>(u1m (y1.2.2.1,x.2)).bind fun y4=>(u68 (x.2,(([]:Hu u0d.den),([]:Hu u0a.den),([]:Hu u0a.den),0,0),(y3,y1.2.1,y4,IntKind.i64.wrap (y1.2.2.2.1+1),y1.2.2.2.2),(y2.1,3,y2.2.2.1,IntKind.i64.wrap (x.1.2.2.2.1+1),y2.2.2.2.2.1,y2.2.2.2.2.2.1,true,(⟨#[]⟩:Hs)),(),(y4.length:Int),0)).bind fun r6=>match r6 with | .inl o7=>cond (Nat.ble (o7.2.2.1.2.1.length+([o7.2.2.2]:Hu u0a.den).length) z7w) (some (o7.2.2.1.1,o7.2.2.1.2.1++([o7.2.2.2]:Hu u0a.den),o7.2.2.1.2.2.1,o7.2.2.1.2.2.2.1,y8h o7.2.2.1.2.2.2.2 (IntKind.i64.wrap (o7.1.1+1)))) none | .inr z8=>none) ((s6u (x.2,x.1.2.1)).bind fun y9=>(t2k (x.1.1,x.2.2.2.2.2.2.1,IntKind.i64.wrap (y1.2.2.2.1+1))).bind fun y10=>(u1m (y1.2.2.1,x.2)).bind fun y11=>(u68 (x.2,(([]:Hu u0d.den),([]:Hu u0a.den),([]:Hu u0a.den),0,0),(y10,y1.2.1,y11,IntKind.i64.wrap (y1.2.2.2.1+1),y1.2.2.2.2),(y2.1,3,y2.2.2.1,IntKind.i64.wrap (x.1.2.2.2.1+1),y2.2.2.2.2.1,y2.2.2.2.2.2.1,y9,(⟨#[]⟩:Hs)),(),(y11.length:Int),0)).bind fun r13=>match r13 with | .inl o14=>cond (Nat.ble (o14.2.2.1.2.1.length+([o14.2.2.2]:Hu u0a.den).length) z7w) (some (o14.2.2.1.1,o14.2.2.1.2.1++([o14.2.2.2]:Hu u0a.den),o14.2.2.1.2.2.1,o14.2.2.1.2.2.2.1,y8h o14.2.2.1.2.2.2.2 (IntKind.i64.wrap (o14.1.1+1)))) none | .inr z15=>none)
theorem p39:t5m=r9u:=zC 166 rfl Tryz.func166 (by kernel_rfl)
def t7e(x:o9i):Ht Bool:=zK 288 x
def r2i (x:o9i):Ht Bool:=some (z7o x.1.2.2.2.2.2.2.2 x.2)
theorem q84:t7e=r2i:=zC 288 rfl Tryz.func288 (by kernel_rfl)
def u4v(x:j3f):Ht Int:=zK 10012 x
def u3v(g:j3e→Ht p9u)(x:j3e):Ht p9u:=cond (decide (x.2.2.2<x.2.2.1)) (cond (y4q x.2.2.2 x.1.length) ((t7e (rdL u0a x.1 x.2.2.2.toNat,x.2.1)).bind fun y1=>cond y1 (some (.inr x.2.2.2)) (g (x.1,x.2.1,x.2.2.1,IntKind.i64.wrap (x.2.2.2+1)))) none) (some (.inl ()))
def u1h:=lpW _ _ u3v
theorem u88 x:u1h x=u3v u1h x:=zW u30 10012 Tryz.f287 2 19 x (by kernel_rfl)
def u4r (x:j3f):Ht Int:=(u1h (x.1,x.2,(x.1.length:Int),0)).bind fun r2=>match r2 with | .inl o3=>some (- 1:Int) | .inr z4=>some z4
theorem t04:u4v=u4r:=zC 10012 rfl Tryz.func287 (by kernel_rfl)
def s01(x:o82):Ht Int:=zK 167 x
def r9r (x:o82):Ht Int:=(u4v (x.1.2.2.1,x.2)).bind fun y1=>some y1
theorem p36:s01=r9r:=zC 167 rfl Tryz.func167 (by kernel_rfl)
def s15(x:Z38):Ht u61:=zK 168 x
def t1u(g:Z4→Ht (Z5⊕Unit))(x:Z4):Ht (Z5⊕Unit):=cond (decide (x.2.2.2.2.2.2.2.2.2<x.2.2.2.2.2.2.2.2.1)) (cond (y4q x.2.2.2.2.2.2.2.2.2 x.2.2.2.1.2.2.1.length) (cond (y3c (rdL u0a x.2.2.2.1.2.2.1 x.2.2.2.2.2.2.2.2.2.toNat).2.2.2.2.2.2.2 x.1) (cond (Nat.ble (x.2.2.2.2.2.1.length+([(rdL u0a x.2.2.2.1.2.2.1 x.2.2.2.2.2.2.2.2.2.toNat)]:Hu u0a.den).length) z7w) (g (x.1,x.2.1,x.2.2.1,x.2.2.2.1,x.2.2.2.2.1,x.2.2.2.2.2.1++([(rdL u0a x.2.2.2.1.2.2.1 x.2.2.2.2.2.2.2.2.2.toNat)]:Hu u0a.den),x.2.2.2.2.2.2.1,(),x.2.2.2.2.2.2.2.2.1,IntKind.i64.wrap (x.2.2.2.2.2.2.2.2.2+1))) none) (cond (Nat.ble (x.2.2.2.2.2.2.1.length+([(rdL u0a x.2.2.2.1.2.2.1 x.2.2.2.2.2.2.2.2.2.toNat)]:Hu u0a.den).length) z7w) (g (x.1,x.2.1,x.2.2.1,x.2.2.2.1,x.2.2.2.2.1,x.2.2.2.2.2.1,x.2.2.2.2.2.2.1++([(rdL u0a x.2.2.2.1.2.2.1 x.2.2.2.2.2.2.2.2.2.toNat)]:Hu u0a.den),(),x.2.2.2.2.2.2.2.2.1,IntKind.i64.wrap (x.2.2.2.2.2.2.2.2.2+1))) none)) none) (some (.inl (x.2.1,x.2.2.1,x.2.2.2.1,x.2.2.2.2.1,x.2.2.2.2.2.1,x.2.2.2.2.2.2.1)))
def u5q:=lpW _ _ t1u
theorem s65 x:u5q x=t1u u5q x:=zW s6d 168 Tryz.f168 6 64 x (by kernel_rfl)
def r2f (x:Z38):Ht u61:=(u1r x.1).bind fun y1=>(t5n x.2.1).bind fun y2=>cond x.2.1.2.2.2.2.2.2.1 ((u5q (x.2.2,x.2.1,(([]:Hu u0d.den),([]:Hu u0a.den),([]:Hu u0a.den),0,0),y1,(y2.1,2,y2.2.2.1,y2.2.2.2.1,y2.2.2.2.2.1,y2.2.2.2.2.2.1,true,x.2.2),([]:Hu u0a.den),([]:Hu u0a.den),(),(y1.2.2.1.length:Int),0)).bind fun r3=>match r3 with | .inl o4=>cond (Nat.ble (o4.2.2.2.2.1.length+([o4.2.2.2.1]:Hu u0a.den).length) z7w) (cond (Nat.ble ((o4.2.2.2.2.1++([o4.2.2.2.1]:Hu u0a.den)).length+o4.2.2.2.2.2.length) z7w) (some (o4.2.2.1.1,o4.2.2.1.2.1,(o4.2.2.2.2.1++([o4.2.2.2.1]:Hu u0a.den))++o4.2.2.2.2.2,o4.2.2.1.2.2.2.1,y8h o4.2.2.1.2.2.2.2 (IntKind.i64.wrap (o4.1.1+1)))) none) none | .inr z5=>none) ((s6u (x.2.1,x.1.2.1)).bind fun y6=>(u5q (x.2.2,x.2.1,(([]:Hu u0d.den),([]:Hu u0a.den),([]:Hu u0a.den),0,0),y1,(y2.1,2,y2.2.2.1,y2.2.2.2.1,y2.2.2.2.2.1,y2.2.2.2.2.2.1,y6,x.2.2),([]:Hu u0a.den),([]:Hu u0a.den),(),(y1.2.2.1.length:Int),0)).bind fun r7=>match r7 with | .inl o8=>cond (Nat.ble (o8.2.2.2.2.1.length+([o8.2.2.2.1]:Hu u0a.den).length) z7w) (cond (Nat.ble ((o8.2.2.2.2.1++([o8.2.2.2.1]:Hu u0a.den)).length+o8.2.2.2.2.2.length) z7w) (some (o8.2.2.1.1,o8.2.2.1.2.1,(o8.2.2.2.2.1++([o8.2.2.2.1]:Hu u0a.den))++o8.2.2.2.2.2,o8.2.2.1.2.2.2.1,y8h o8.2.2.1.2.2.2.2 (IntKind.i64.wrap (o8.1.1+1)))) none) none | .inr z9=>none)
theorem q81:s15=r2f:=zC 168 rfl Tryz.func168 (by kernel_rfl)
def u7i(x:o9i):Ht Bool:=zK 289 x
def q8v (x:o9i):Ht Bool:=some (z7o x.1.2.2.2.2.2.2.2 x.2)
theorem q80:u7i=q8v:=zC 289 rfl Tryz.func289 (by kernel_rfl)
def u4u(x:j3f):Ht Int:=zK 10014 x
def u3u(g:j3e→Ht p9u)(x:j3e):Ht p9u:=cond (decide (x.2.2.2<x.2.2.1)) (cond (y4q x.2.2.2 x.1.length) ((u7i (rdL u0a x.1 x.2.2.2.toNat,x.2.1)).bind fun y1=>cond y1 (some (.inr x.2.2.2)) (g (x.1,x.2.1,x.2.2.1,IntKind.i64.wrap (x.2.2.2+1)))) none) (some (.inl ()))
def u1g:=lpW _ _ u3u
theorem u87 x:u1g x=u3u u1g x:=zW u3z 10014 Tryz.f287 2 19 x (by kernel_rfl)
def u4q (x:j3f):Ht Int:=(u1g (x.1,x.2,(x.1.length:Int),0)).bind fun r2=>match r2 with | .inl o3=>some (- 1:Int) | .inr z4=>some z4
theorem t03:u4u=u4q:=zC 10014 rfl Tryz.func287 (by kernel_rfl)
end
end Go.Proofs.YtkdpclfhapphhaaGreat.Ab
