import Derived.Test.YtkdpclfhapphhaaGreatAbStoresG1
namespace Go.Proofs.YtkdpclfhapphhaaGreat.Ab
open Go
set_option linter.unusedVariables false
noncomputable section
set_option maxRecDepth 100000
def s13(x:j2o):Ht s7c:=zK 263 x
def t1d(g:j95→Ht (Hs⊕s7c))(x:j95):Ht (Hs⊕s7c):=cond (decide (x.2.2.2.2<x.2.1)) (((cond (decide (x.1<0)) (some true) (some (decide (x.1>(x.2.2.1.1.length:Int))))):Ht Bool).bind fun j2=>cond j2 (some (.inr ((⟨#[]⟩:Hs),false))) ((u71 (x.2.2.1,IntKind.i64.wrap (x.1+x.2.2.2.2))).bind fun y3=>cond (!y3.2) (some (.inr ((⟨#[]⟩:Hs),false))) (cond (decide (x.2.2.2.1.size+y3.1.size≤140737488355328)) (g (x.1,x.2.1,x.2.2.1,x.2.2.2.1++y3.1,IntKind.i64.wrap (x.2.2.2.2+1))) none))) (some (.inl x.2.2.2.1))
def t1k:=lpW _ _ t1d
theorem s68 x:t1k x=t1d t1k x:=zW s59 263 Tryz.f263 5 43 x (by kernel_rfl)
def r0i (x:j2o):Ht s7c:=(u0t (x.2.2,0,100)).bind fun y1=>cond (!y1) (some ((⟨#[]⟩:Hs),false)) ((t1k (x.2.1,x.2.2,x.1,(⟨#[]⟩:Hs),0)).bind fun r4=>match r4 with | .inl o5=>some (o5,true) | .inr z6=>some z6)
theorem q7o:s13=r0i:=zC 263 rfl Tryz.func263 (by kernel_rfl)
def u8t(x:Int):Ht Int:=zK 264 x
def r36 (x:Int):Ht Int:=(u0t (x,0,1)).bind fun y1=>cond (!y1) (some (0:Int)) (some (IntKind.i64.wrap ((1:Int)+(IntKind.i64.wrap (x*48)))))
theorem p0q:u8t=r36:=zC 264 rfl Tryz.func264 (by kernel_rfl)
def t7o(x:p16):Ht Int:=zK 266 x
def q13 (x:p16):Ht Int:=(u71 x).bind fun y1=>((cond (!y1.2) (some true) (some (z7o y1.1 (⟨#[]⟩:Hs)))):Ht Bool).bind fun j2=>cond j2 (some (0:Int)) (cond (y4q (0:Int) y1.1.size) (some (IntKind.i64.wrap ((y1.1.data.toList.getD (0:Int).toNat 0).toNat:Int))) none)
theorem p6h:t7o=q13:=zC 266 rfl Tryz.func266 (by kernel_rfl)
def t7l(x:p16):Ht Int:=zK 265 x
def q1f (x:p16):Ht Int:=(u0t (x.2,0,1)).bind fun y1=>cond (!y1) (some (0:Int)) ((u8t x.2).bind fun y2=>(t7o (x.1,y2)).bind fun y3=>some y3)
theorem p5u:t7l=q1f:=zC 265 rfl Tryz.func265 (by kernel_rfl)
def t0g(x:p16):Ht (p09×j4b):=zK 157 x
def t3x(g:j9f→Ht j69)(x:j9f):Ht j69:=(t7l (x.2.1,x.1)).bind fun y4=>cond (decide (x.2.2.2.2.2.2<y4)) ((t9d (x.2.2.2.1,x.2.2.2.2.2.1)).bind fun y5=>((cond (!y5.2.2) (some true) (some (z7o y5.1 (⟨#[]⟩:Hs)))):Ht Bool).bind fun j6=>cond j6 (some (.inr (x.2.2.1,0,false))) (cond (Nat.ble (x.2.2.2.2.1.length+([y5.1]:Hu Hs).length) z7w) (g (x.1,x.2.1,x.2.2.1,x.2.2.2.1,x.2.2.2.2.1++([y5.1]:Hu Hs),y5.2.1,IntKind.i64.wrap (x.2.2.2.2.2.2+1))) none)) (some (.inl (x.2.2.2.2.1,x.2.2.2.2.2.1)))
def t36:=lpW _ _ t3x
theorem s85 x:t36 x=t3x t36 x:=zW s8e 157 Tryz.f157 10 61 x (by kernel_rfl)
def r7s (x:p16):Ht (p09×j4b):=(u0t (x.2,0,1)).bind fun y1=>cond (!y1) (some (([]:Hu Hs),0,false)) ((u8t x.2).bind fun y2=>(s13 (x.1,IntKind.i64.wrap (y2+1),47)).bind fun y3=>cond (!y3.2) (some (([]:Hu Hs),0,false)) ((t36 (x.2,x.1,([]:Hu Hs),y3.1,([]:Hu Hs),0,0)).bind fun r7=>match r7 with | .inl o8=>some (o8.1,o8.2,true) | .inr z9=>some z9))
theorem p3b:t0g=r7s:=zC 157 rfl Tryz.func157 (by kernel_rfl)
def t5c(x:t01):Ht Int:=zK 158 x
def r7l (x:t01):Ht Int:=(t7o (x,0)).bind fun y1=>some (Int.tmod y1 (2:Int))
theorem p24:t5c=r7l:=zC 158 rfl Tryz.func158 (by kernel_rfl)
def s6q(x:t01):Ht p09:=zK 53 x
def r7p (x:t01):Ht p09:=(t5c x).bind fun y1=>(t0g (x,y1)).bind fun y2=>some y2.1
theorem p28:s6q=r7p:=zC 53 rfl Tryz.func53 (by kernel_rfl)
def s6r(x:Z73):Ht Int:=zK 69 x
def t5u(g:j2p→Ht o6u)(x:j2p):Ht o6u:=cond (decide (x.2.2<(x.1.length:Int))) (cond (y4q x.2.2 x.1.length) (cond (decide ((rdL u0a x.1 x.2.2.toNat).2.2.1<x.2.1)) (cond (y4q x.2.2 x.1.length) (g (x.1,(rdL u0a x.1 x.2.2.toNat).2.2.1,IntKind.i64.wrap (x.2.2+1))) none) (g (x.1,x.2.1,IntKind.i64.wrap (x.2.2+1)))) none) (some (.inl x.2.1))
def t6g:=lpW _ _ t5u
theorem r19 x:t6g x=t5u t6g x:=zW r06 69 Tryz.f69 3 28 x (by kernel_rfl)
def r7q (x:Z73):Ht Int:=(t6g (x.2,x.1.2.2.2.1,0)).bind fun r1=>match r1 with | .inl o2=>some o2 | .inr z3=>none
theorem p29:s6r=r7q:=zC 69 rfl Tryz.func69 (by kernel_rfl)
def s8p(x:j2r):Ht Int:=zK 79 x
def s2l(g:d0h→Ht o6u)(x:d0h):Ht o6u:=cond (decide (x.2.2.2.2<(x.1.length:Int))) (((cond (y4q x.2.2.2.2 x.1.length) (cond (z7o (rdL u0h x.1 x.2.2.2.2.toNat).1 x.2.1) (cond (y4q x.2.2.2.2 x.1.length) (cond (decide ((rdL u0h x.1 x.2.2.2.2.toNat).2.2.2≤x.2.2.1)) (cond (decide (x.2.2.2.1<0)) (some true) (cond (y4q x.2.2.2.2 x.1.length) (cond (y4q x.2.2.2.1 x.1.length) (some (decide ((rdL u0h x.1 x.2.2.2.2.toNat).2.2.2>(rdL u0h x.1 x.2.2.2.1.toNat).2.2.2))) none) none)) (some false)) none) (some false)) none):Ht Bool).bind fun j1=>cond j1 (g (x.1,x.2.1,x.2.2.1,x.2.2.2.2,IntKind.i64.wrap (x.2.2.2.2+1))) (g (x.1,x.2.1,x.2.2.1,x.2.2.2.1,IntKind.i64.wrap (x.2.2.2.2+1)))) (some (.inl x.2.2.2.1))
def t7d:=lpW _ _ s2l
theorem q3c x:t7d x=s2l t7d x:=zW q2w 79 Tryz.f79 3 50 x (by kernel_rfl)
def q83 (x:j2r):Ht Int:=(t7d (x.1,x.2.1,x.2.2,(- 1:Int),0)).bind fun r2=>match r2 with | .inl o3=>some o3 | .inr z4=>none
theorem o2m:s8p=q83:=zC 79 rfl Tryz.func79 (by kernel_rfl)
def s9s(x:j41):Ht q0i:=zK 71 x
def t8k(g:d0c→Ht j7b)(x:d0c):Ht j7b:=cond (decide (x.2.2.2<(x.1.length:Int))) (cond (y4q x.2.2.2 x.1.length) ((s8p (x.1,(rdL u0h x.1 x.2.2.2.toNat).1,x.2.1)).bind fun y1=>((cond (y4q x.2.2.2 x.1.length) (cond (decide ((rdL u0h x.1 x.2.2.2.toNat).2.2.2>x.2.1)) (some true) (some (decide (y1=x.2.2.2)))) none):Ht Bool).bind fun j2=>cond j2 (cond (y4q x.2.2.2 x.1.length) (cond (Nat.ble (x.2.2.1.length+([(rdL u0h x.1 x.2.2.2.toNat)]:Hu u0h.den).length) z7w) (g (x.1,x.2.1,x.2.2.1++([(rdL u0h x.1 x.2.2.2.toNat)]:Hu u0h.den),IntKind.i64.wrap (x.2.2.2+1))) none) none) (g (x.1,x.2.1,x.2.2.1,IntKind.i64.wrap (x.2.2.2+1)))) none) (some (.inl (x.2.1,x.2.2.1)))
def t2n:=lpW _ _ t8k
theorem r6e x:t2n x=t8k t2n x:=zW r5e 71 Tryz.f71 3 99 x (by kernel_rfl)
def t54(g:j93→Ht (j8e⊕Unit))(x:j93):Ht (j8e⊕Unit):=cond (decide (x.2.2.2.2.2<(x.2.1.length:Int))) (cond (y4q x.2.2.2.2.2 x.2.1.length) (cond (y4q x.2.2.2.1 x.2.1.length) (cond (z7o (rdL u0h x.2.1 x.2.2.2.2.2.toNat).1 (rdL u0h x.2.1 x.2.2.2.1.toNat).1) (g (x.1,x.2.1,x.2.2.1,x.2.2.2.1,IntKind.i64.wrap (x.2.2.2.2.1+1),IntKind.i64.wrap (x.2.2.2.2.2+1))) (g (x.1,x.2.1,x.2.2.1,x.2.2.2.1,x.2.2.2.2.1,IntKind.i64.wrap (x.2.2.2.2.2+1)))) none) none) (some (.inl (x.1,x.2.1,x.2.2.1,x.2.2.2.1,x.2.2.2.2.1)))
def u91:=lpW _ _ t54
theorem r2g x:u91 x=t54 u91 x:=zW r1d 71 Tryz.f71 14 99 x (by kernel_rfl)
def t52(g:d0d→Ht j0m)(x:d0d):Ht j0m:=cond (decide (x.2.2.2<(x.2.1.length:Int))) ((u91 (x.1,x.2.1,x.2.2.1,x.2.2.2,0,0)).bind fun r5=>match r5 with | .inl o6=>(((cond (y4q o6.2.2.2.1 o6.2.1.length) (cond (!(rdL u0h o6.2.1 o6.2.2.2.1.toNat).2.2.1) (some true) (cond (y4q o6.2.2.2.1 o6.2.1.length) (cond (decide ((rdL u0h o6.2.1 o6.2.2.2.1.toNat).2.2.2>o6.1)) (some true) (some (decide (o6.2.2.2.2>1)))) none)) none):Ht Bool).bind fun j7=>cond j7 (cond (y4q o6.2.2.2.1 o6.2.1.length) (cond (Nat.ble (o6.2.2.1.length+([(rdL u0h o6.2.1 o6.2.2.2.1.toNat)]:Hu u0h.den).length) z7w) (g (o6.1,o6.2.1,o6.2.2.1++([(rdL u0h o6.2.1 o6.2.2.2.1.toNat)]:Hu u0h.den),IntKind.i64.wrap (o6.2.2.2.1+1))) none) none) (g (o6.1,o6.2.1,o6.2.2.1,IntKind.i64.wrap (o6.2.2.2.1+1)))) | .inr z8=>some (.inr ())) (some (.inl x.2.2.1))
def t6j:=lpW _ _ t52
theorem r2f x:t6j x=t52 t6j x:=zW r1c 71 Tryz.f71 10 99 x (by kernel_rfl)
def q1t (x:j41):Ht q0i:=(t2n (x.1,x.2,([]:Hu u0h.den),0)).bind fun r3=>match r3 with | .inl o4=>((t6j (o4.1,o4.2,([]:Hu u0h.den),0)).bind fun r9=>match r9 with | .inl o10=>some o10 | .inr z11=>none) | .inr z12=>none
theorem p58:s9s=q1t:=zC 71 rfl Tryz.func71 (by kernel_rfl)
def t1v(x:Z73):Ht u74:=zK 14 x
def s0f(g:Z15→Ht (Z16⊕Unit))(x:Z15):Ht (Z16⊕Unit):=cond (decide (x.2.2.2.2<(x.1.2.1.length:Int))) (cond (y4q x.2.2.2.2 x.1.2.1.length) (cond (decide ((rdL u0a x.1.2.1 x.2.2.2.2.toNat).2.2.2.1>x.2.2.2.1)) (cond (y4q x.2.2.2.2 x.1.2.1.length) ((u1h (rdL u0a x.1.2.1 x.2.2.2.2.toNat)).bind fun y3=>cond (Nat.ble (x.2.2.1.2.1.length+([y3]:Hu u0a.den).length) z7w) (g (x.1,x.2.1,(x.2.2.1.1,x.2.2.1.2.1++([y3]:Hu u0a.den),x.2.2.1.2.2),x.2.2.2.1,IntKind.i64.wrap (x.2.2.2.2+1))) none) none) (g (x.1,x.2.1,x.2.2.1,x.2.2.2.1,IntKind.i64.wrap (x.2.2.2.2+1)))) none) (some (.inl (x.1,x.2.1,x.2.2.1,x.2.2.2.1)))
def s0o:=lpW _ _ s0f
theorem r9t x:s0o x=s0f s0o x:=zW r8s 14 Tryz.f14 5 47 x (by kernel_rfl)
def q5e (x:Z73):Ht u74:=(u3p x.1).bind fun y1=>(s6r x).bind fun y2=>(s0o (x.1,(([]:Hu u0h.den),([]:Hu u0a.den),([]:Hu u0a.den),0,0),(y1.1,([]:Hu u0a.den),y1.2.2),y2,0)).bind fun r4=>match r4 with | .inl o5=>((s9s (o5.1.1,o5.2.2.2)).bind fun y6=>some (y6,o5.2.2.1.2)) | .inr z7=>none
theorem p9z:t1v=q5e:=zC 14 rfl Tryz.func14 (by kernel_rfl)
def u2p(x:j0h):Ht Int:=zK 307 x
def t16(g:Z88→Ht q3f)(x:Z88):Ht q3f:=cond (decide (x.2.2<(x.2.1.2.2.1.length:Int))) (cond (y4q x.2.2 x.2.1.2.2.1.length) (cond (z7o (rdL u0a x.2.1.2.2.1 x.2.2.toNat).2.2.2.2.2.2.2 x.1) (some (.inr x.2.2)) (g (x.1,x.2.1,IntKind.i64.wrap (x.2.2+1)))) none) (some (.inl ()))
def t2l:=lpW _ _ t16
theorem r6a x:t2l x=t16 t2l x:=zW r49 307 Tryz.f307 2 22 x (by kernel_rfl)
def q1p (x:j0h):Ht Int:=(t2l (x.2,x.1,0)).bind fun r1=>match r1 with | .inl o2=>some (- 1:Int) | .inr z3=>some z3
theorem p54:u2p=q1p:=zC 307 rfl Tryz.func307 (by kernel_rfl)
def t4c(x:j6v):Ht q0i:=zK 387 x
def u9o(g:Z90→Ht (Z90⊕Unit))(x:Z90):Ht (Z90⊕Unit):=((cond (decide (x.2.2.2.2.2.2<(x.2.2.1.length:Int))) (cond (y4q x.2.2.2.2.2.2 x.2.2.1.length) (cond (y3c (rdL u0h x.2.2.1 x.2.2.2.2.2.2.toNat).1 x.2.2.2.2.1.1) (some true) (cond (y4q x.2.2.2.2.2.2 x.2.2.1.length) (cond (z7o (rdL u0h x.2.2.1 x.2.2.2.2.2.2.toNat).1 x.2.2.2.2.1.1) (cond (y4q x.2.2.2.2.2.2 x.2.2.1.length) (some (decide ((rdL u0h x.2.2.1 x.2.2.2.2.2.2.toNat).2.2.2≤x.2.2.2.2.1.2.2.2))) none) (some false)) none)) none) (some false)):Ht Bool).bind fun j1=>cond j1 (cond (y4q x.2.2.2.2.2.2 x.2.2.1.length) (cond (Nat.ble (x.2.2.2.2.2.1.length+([(rdL u0h x.2.2.1 x.2.2.2.2.2.2.toNat)]:Hu u0h.den).length) z7w) (g (x.1,x.2.1,x.2.2.1,x.2.2.2.1,x.2.2.2.2.1,x.2.2.2.2.2.1++([(rdL u0h x.2.2.1 x.2.2.2.2.2.2.toNat)]:Hu u0h.den),IntKind.i64.wrap (x.2.2.2.2.2.2+1))) none) none) (some (.inl x))
def u7e:=lpW _ _ u9o
theorem s43 x:u7e x=u9o u7e x:=zW s4t 387 Tryz.f387 8 93 x (by kernel_rfl)
def u9n(g:d0f→Ht j0m)(x:d0f):Ht j0m:=cond (decide (x.2.2.2<(x.1.length:Int))) (cond (y4q x.2.2.2 x.1.length) (cond (y4q x.2.2.2 x.1.length) (cond (y4q x.2.2.2 x.1.length) ((u7e (x.1,x.2.1,x.2.2.1,x.2.2.2,((rdL u2l x.1 x.2.2.2.toNat).1,(rdL u2l x.1 x.2.2.2.toNat).2.1,(rdL u2l x.1 x.2.2.2.toNat).2.2,x.2.1),([]:Hu u0h.den),0)).bind fun r2=>match r2 with | .inl o3=>cond (Nat.ble (o3.2.2.2.2.2.1.length+([o3.2.2.2.2.1]:Hu u0h.den).length) z7w) (cond (decide (0≤o3.2.2.2.2.2.2)&&decide (o3.2.2.2.2.2.2≤(o3.2.2.1.length:Int))&&decide ((o3.2.2.1.length:Int)≤(o3.2.2.1.length:Int))) (cond (Nat.ble ((o3.2.2.2.2.2.1++([o3.2.2.2.2.1]:Hu u0h.den)).length+((o3.2.2.1.take (o3.2.2.1.length:Int).toNat).drop o3.2.2.2.2.2.2.toNat).length) z7w) (g (o3.1,o3.2.1,(o3.2.2.2.2.2.1++([o3.2.2.2.2.1]:Hu u0h.den))++((o3.2.2.1.take (o3.2.2.1.length:Int).toNat).drop o3.2.2.2.2.2.2.toNat),IntKind.i64.wrap (o3.2.2.2.1+1))) none) none) none | .inr z4=>some (.inr ())) none) none) none) (some (.inl x.2.2.1))
def u9r:=lpW _ _ u9n
theorem s42 x:u9r x=u9n u9r x:=zW s4s 387 Tryz.f387 3 93 x (by kernel_rfl)
def s7v (x:j6v):Ht q0i:=cond (Nat.ble (([]:Hu u0h.den).length+x.1.length) z7w) ((u9r (x.2.1,x.2.2,([]:Hu u0h.den)++x.1,0)).bind fun r5=>match r5 with | .inl o6=>some o6 | .inr z7=>none) none
theorem q51:t4c=s7v:=zC 387 rfl Tryz.func387 (by kernel_rfl)
def s25(x:j61):Ht Bool:=zK 330 x
def q1i (x:j61):Ht Bool:=((cond (!y3c x.2 x.1.1) (some (y3c x.2 x.1.2||z7o x.2 x.1.2)) (some false)):Ht Bool).bind fun j1=>some j1
theorem p5x:s25=q1i:=zC 330 rfl Tryz.func330 (by kernel_rfl)
def s9r(x:j62):Ht Bool:=zK 427 x
def t8j(g:d0n→Ht (j6x⊕Bool))(x:d0n):Ht (j6x⊕Bool):=cond (decide (x.2.2.2<(x.2.1.length:Int))) (cond (y4q x.2.2.1 x.1.length) (cond (y4q x.2.2.2 x.2.1.length) ((s25 (rdL p4x x.1 x.2.2.1.toNat,(rdL u2l x.2.1 x.2.2.2.toNat).1)).bind fun y1=>cond y1 (some (.inr true)) (g (x.1,x.2.1,x.2.2.1,IntKind.i64.wrap (x.2.2.2+1)))) none) none) (some (.inl (x.1,x.2.1,x.2.2.1)))
def t2m:=lpW _ _ t8j
theorem r6d x:t2m x=t8j t2m x:=zW r5d 427 Tryz.f427 5 29 x (by kernel_rfl)
def t8i(g:j6x→Ht r97)(x:j6x):Ht r97:=cond (decide (x.2.2<(x.1.length:Int))) ((t2m (x.1,x.2.1,x.2.2,0)).bind fun r2=>match r2 with | .inl o3=>g (o3.1,o3.2.1,IntKind.i64.wrap (o3.2.2+1)) | .inr z4=>some (.inr z4)) (some (.inl ()))
def t8z:=lpW _ _ t8i
theorem r6c x:t8z x=t8i t8z x:=zW r5c 427 Tryz.f427 2 29 x (by kernel_rfl)
def q1s (x:j62):Ht Bool:=(t8z (x.1,x.2,0)).bind fun r5=>match r5 with | .inl o6=>some false | .inr z7=>some z7
theorem p57:s9r=q1s:=zC 427 rfl Tryz.func427 (by kernel_rfl)
def r26(x:Z51):Ht Bool:=zK 429 x
def q41 (x:Z51):Ht Bool:=cond (decide (x.1.1=x.2.1)) (some false) (((cond (decide (x.1.2.1=3)) (cond (decide (x.1.2.2.2.1≤x.2.2.2.1)) (some true) (cond (decide (x.2.2.1=3)) (some (decide (x.2.2.2.2.1≤x.1.2.2.1))) (some false))) (cond (decide (x.2.2.1=3)) (some (decide (x.2.2.2.2.1≤x.1.2.2.1))) (some false))):Ht Bool).bind fun j1=>cond j1 (some false) (some true))
theorem p9m:r26=q41:=zC 429 rfl Tryz.func429 (by kernel_rfl)
def u3h(x:Z51):Ht Bool:=zK 394 x
def q8t (x:Z51):Ht Bool:=(((r26 x).bind fun y1=>cond y1 ((s9r (x.1.2.2.2.2.1,x.2.2.2.2.2.2.1)).bind fun y2=>some y2) (some false)):Ht Bool).bind fun j3=>some j3
theorem o2c:u3h=q8t:=zC 394 rfl Tryz.func394 (by kernel_rfl)
def s3s(x:Z94):Ht Bool:=zK 393 x
def s2j(g:Z85→Ht r97)(x:Z85):Ht r97:=cond (decide (x.2.2<(x.1.length:Int))) (((cond (y4q x.2.2 x.1.length) (cond (decide ((rdL u0a x.1 x.2.2.toNat).2.1=3)) (cond (y4q x.2.2 x.1.length) ((u3h (x.2.1,rdL u0a x.1 x.2.2.toNat)).bind fun y1=>some y1) none) (some false)) none):Ht Bool).bind fun j2=>cond j2 (some (.inr true)) (g (x.1,x.2.1,IntKind.i64.wrap (x.2.2+1)))) (some (.inl ()))
def s2r:=lpW _ _ s2j
theorem q3a x:s2r x=s2j s2r x:=zW q2u 393 Tryz.f393 2 26 x (by kernel_rfl)
def q80 (x:Z94):Ht Bool:=(s2r (x.2,x.1,0)).bind fun r3=>match r3 with | .inl o4=>some false | .inr z5=>some z5
theorem o2j:s3s=q80:=zC 393 rfl Tryz.func393 (by kernel_rfl)
def u7w(x:Z40):Ht u74:=zK 333 x
def t5z(g:Z4→Ht (Z18⊕Unit))(x:Z4):Ht (Z18⊕Unit):=cond (decide (x.2.2.2.2.2<(x.1.2.2.1.length:Int))) (cond (y4q x.2.2.2.2.2 x.1.2.2.1.length) ((u1h (rdL u0a x.1.2.2.1 x.2.2.2.2.2.toNat)).bind fun y4=>cond (decide (y4.1=x.2.1.1)) (g (x.1,x.2.1,x.2.2.1,x.2.2.2.1,x.2.2.2.2.1,IntKind.i64.wrap (x.2.2.2.2.2+1))) ((u3h (y4,x.2.2.2.2.1)).bind fun y5=>cond y5 (cond (Nat.ble (x.2.2.2.1.2.2.1.length+([(y4.1,y4.2.1,y4.2.2.1,y4.2.2.2.1,y4.2.2.2.2.1,y4.2.2.2.2.2.1,true,y4.2.2.2.2.2.2.2)]:Hu u0a.den).length) z7w) (g (x.1,x.2.1,x.2.2.1,(x.2.2.2.1.1,x.2.2.2.1.2.1,x.2.2.2.1.2.2.1++([(y4.1,y4.2.1,y4.2.2.1,y4.2.2.2.1,y4.2.2.2.2.1,y4.2.2.2.2.2.1,true,y4.2.2.2.2.2.2.2)]:Hu u0a.den),x.2.2.2.1.2.2.2),x.2.2.2.2.1,IntKind.i64.wrap (x.2.2.2.2.2+1))) none) (cond (Nat.ble (x.2.2.2.1.2.2.1.length+([y4]:Hu u0a.den).length) z7w) (g (x.1,x.2.1,x.2.2.1,(x.2.2.2.1.1,x.2.2.2.1.2.1,x.2.2.2.1.2.2.1++([y4]:Hu u0a.den),x.2.2.2.1.2.2.2),x.2.2.2.2.1,IntKind.i64.wrap (x.2.2.2.2.2+1))) none))) none) (some (.inl (x.2.1,x.2.2.1,x.2.2.2.1)))
def u7z:=lpW _ _ t5z
theorem r2e x:u7z x=t5z u7z x:=zW r1b 333 Tryz.f333 12 85 x (by kernel_rfl)
def q1r (x:Z40):Ht u74:=(u3p x.1).bind fun y1=>(u1h x.2).bind fun y2=>cond x.2.2.2.2.2.2.2.1 ((t4c (x.1.1,y2.2.2.2.2.2.1,IntKind.i64.wrap (x.1.2.2.2.1+1))).bind fun y3=>cond (Nat.ble (y1.2.1.length+([(y2.1,3,y2.2.2.1,IntKind.i64.wrap (x.1.2.2.2.1+1),y2.2.2.2.2.1,y2.2.2.2.2.2.1,true,(⟨#[]⟩:Hs))]:Hu u0a.den).length) z7w) ((u7z (x.1,x.2,(([]:Hu u0h.den),([]:Hu u0a.den),([]:Hu u0a.den),0,0),(y3,y1.2.1++([(y2.1,3,y2.2.2.1,IntKind.i64.wrap (x.1.2.2.2.1+1),y2.2.2.2.2.1,y2.2.2.2.2.2.1,true,(⟨#[]⟩:Hs))]:Hu u0a.den),([]:Hu u0a.den),IntKind.i64.wrap (x.1.2.2.2.1+1),y1.2.2.2.2),(y2.1,3,y2.2.2.1,IntKind.i64.wrap (x.1.2.2.2.1+1),y2.2.2.2.2.1,y2.2.2.2.2.2.1,true,(⟨#[]⟩:Hs)),0)).bind fun r6=>match r6 with | .inl o7=>cond (decide (o7.1.1≥o7.2.2.2.2.2.2)) (some (o7.2.2.1,o7.2.2.2.1,o7.2.2.2.2.1,o7.2.2.2.2.2.1,IntKind.i64.wrap (o7.1.1+1))) (some o7.2.2) | .inr z8=>none) none) ((s3s (x.2,x.1.2.1)).bind fun y9=>(t4c (x.1.1,y2.2.2.2.2.2.1,IntKind.i64.wrap (x.1.2.2.2.1+1))).bind fun y10=>cond (Nat.ble (y1.2.1.length+([(y2.1,3,y2.2.2.1,IntKind.i64.wrap (x.1.2.2.2.1+1),y2.2.2.2.2.1,y2.2.2.2.2.2.1,y9,(⟨#[]⟩:Hs))]:Hu u0a.den).length) z7w) ((u7z (x.1,x.2,(([]:Hu u0h.den),([]:Hu u0a.den),([]:Hu u0a.den),0,0),(y10,y1.2.1++([(y2.1,3,y2.2.2.1,IntKind.i64.wrap (x.1.2.2.2.1+1),y2.2.2.2.2.1,y2.2.2.2.2.2.1,y9,(⟨#[]⟩:Hs))]:Hu u0a.den),([]:Hu u0a.den),IntKind.i64.wrap (x.1.2.2.2.1+1),y1.2.2.2.2),(y2.1,3,y2.2.2.1,IntKind.i64.wrap (x.1.2.2.2.1+1),y2.2.2.2.2.1,y2.2.2.2.2.2.1,y9,(⟨#[]⟩:Hs)),0)).bind fun r13=>match r13 with | .inl o14=>cond (decide (o14.1.1≥o14.2.2.2.2.2.2)) (some (o14.2.2.1,o14.2.2.2.1,o14.2.2.2.2.1,o14.2.2.2.2.2.1,IntKind.i64.wrap (o14.1.1+1))) (some o14.2.2) | .inr z15=>none) none)
theorem p56:u7w=q1r:=zC 333 rfl Tryz.func333 (by kernel_rfl)
def s24(x:j0h):Ht u74:=zK 334 x
def t8b(g:Z14→Ht (Z32⊕Unit))(x:Z14):Ht (Z32⊕Unit):=cond (decide (x.2.2.2.2<(x.2.1.2.2.1.length:Int))) (cond (y4q x.2.2.2.2 x.2.1.2.2.1.length) (cond (!z7o (rdL u0a x.2.1.2.2.1 x.2.2.2.2.toNat).2.2.2.2.2.2.2 x.1) (cond (y4q x.2.2.2.2 x.2.1.2.2.1.length) ((u1h (rdL u0a x.2.1.2.2.1 x.2.2.2.2.toNat)).bind fun y2=>cond (Nat.ble (x.2.2.2.1.2.2.1.length+([y2]:Hu u0a.den).length) z7w) (g (x.1,x.2.1,x.2.2.1,(x.2.2.2.1.1,x.2.2.2.1.2.1,x.2.2.2.1.2.2.1++([y2]:Hu u0a.den),x.2.2.2.1.2.2.2),IntKind.i64.wrap (x.2.2.2.2+1))) none) none) (g (x.1,x.2.1,x.2.2.1,x.2.2.2.1,IntKind.i64.wrap (x.2.2.2.2+1)))) none) (some (.inl (x.2.2.1,x.2.2.2.1)))
def t2i:=lpW _ _ t8b
theorem r54 x:t2i x=t8b t2i x:=zW r43 334 Tryz.f334 4 38 x (by kernel_rfl)
def q1h (x:j0h):Ht u74:=(u3p x.1).bind fun y1=>(t2i (x.2,x.1,(([]:Hu u0h.den),([]:Hu u0a.den),([]:Hu u0a.den),0,0),(y1.1,y1.2.1,([]:Hu u0a.den),y1.2.2.2),0)).bind fun r3=>match r3 with | .inl o4=>some o4.2 | .inr z5=>none
theorem p5w:s24=q1h:=zC 334 rfl Tryz.func334 (by kernel_rfl)
def u7c(x:Z36):Ht u74:=zK 346 x
def t3w(g:Z2→Ht (Z3⊕Unit))(x:Z2):Ht (Z3⊕Unit):=cond (decide (x.2.2.2.2.2.2<(x.2.1.2.2.1.length:Int))) (cond (y4q x.2.2.2.2.2.2 x.2.1.2.2.1.length) (cond (y3c (rdL u0a x.2.1.2.2.1 x.2.2.2.2.2.2.toNat).2.2.2.2.2.2.2 x.1) (cond (y4q x.2.2.2.2.2.2 x.2.1.2.2.1.length) ((u1h (rdL u0a x.2.1.2.2.1 x.2.2.2.2.2.2.toNat)).bind fun y3=>cond (Nat.ble (x.2.2.2.2.1.2.2.1.length+([y3]:Hu u0a.den).length) z7w) (g (x.1,x.2.1,x.2.2.1,x.2.2.2.1,(x.2.2.2.2.1.1,x.2.2.2.2.1.2.1,x.2.2.2.2.1.2.2.1++([y3]:Hu u0a.den),x.2.2.2.2.1.2.2.2),x.2.2.2.2.2.1,IntKind.i64.wrap (x.2.2.2.2.2.2+1))) none) none) (g (x.1,x.2.1,x.2.2.1,x.2.2.2.1,x.2.2.2.2.1,x.2.2.2.2.2.1,IntKind.i64.wrap (x.2.2.2.2.2.2+1)))) none) (some (.inl (x.1,x.2.1,x.2.2.1,x.2.2.2.1,x.2.2.2.2.1,x.2.2.2.2.2.1)))
def u62:=lpW _ _ t3w
theorem s84 x:u62 x=t3w u62 x:=zW s8d 346 Tryz.f346 8 97 x (by kernel_rfl)
def t1b(g:Z7→Ht (Z18⊕Unit))(x:Z7):Ht (Z18⊕Unit):=cond (decide (x.2.2.2.2.2<(x.2.1.2.2.1.length:Int))) (cond (y4q x.2.2.2.2.2 x.2.1.2.2.1.length) (cond (!y3c (rdL u0a x.2.1.2.2.1 x.2.2.2.2.2.toNat).2.2.2.2.2.2.2 x.1) (cond (y4q x.2.2.2.2.2 x.2.1.2.2.1.length) ((u1h (rdL u0a x.2.1.2.2.1 x.2.2.2.2.2.toNat)).bind fun y6=>cond (Nat.ble (x.2.2.2.2.1.2.2.1.length+([y6]:Hu u0a.den).length) z7w) (g (x.1,x.2.1,x.2.2.1,x.2.2.2.1,(x.2.2.2.2.1.1,x.2.2.2.2.1.2.1,x.2.2.2.2.1.2.2.1++([y6]:Hu u0a.den),x.2.2.2.2.1.2.2.2),IntKind.i64.wrap (x.2.2.2.2.2+1))) none) none) (g (x.1,x.2.1,x.2.2.1,x.2.2.2.1,x.2.2.2.2.1,IntKind.i64.wrap (x.2.2.2.2.2+1)))) none) (some (.inl (x.2.2.1,x.2.2.2.1,x.2.2.2.2.1)))
def u6b:=lpW _ _ t1b
theorem s66 x:u6b x=t1b u6b x:=zW s57 346 Tryz.f346 14 97 x (by kernel_rfl)
def r4a (x:Z36):Ht u74:=(u3p x.1).bind fun y1=>(u1h x.2.1).bind fun y2=>cond x.2.1.2.2.2.2.2.2.1 ((u62 (x.2.2,x.1,x.2.1,(([]:Hu u0h.den),([]:Hu u0a.den),([]:Hu u0a.den),0,0),(y1.1,y1.2.1,([]:Hu u0a.den),y1.2.2.2),(y2.1,2,y2.2.2.1,y2.2.2.2.1,y2.2.2.2.2.1,y2.2.2.2.2.2.1,true,x.2.2),0)).bind fun r4=>match r4 with | .inl o5=>cond (Nat.ble (o5.2.2.2.2.1.2.2.1.length+([o5.2.2.2.2.2]:Hu u0a.den).length) z7w) ((u6b (o5.1,o5.2.1,o5.2.2.1,o5.2.2.2.1,(o5.2.2.2.2.1.1,o5.2.2.2.2.1.2.1,o5.2.2.2.2.1.2.2.1++([o5.2.2.2.2.2]:Hu u0a.den),o5.2.2.2.2.1.2.2.2),0)).bind fun r7=>match r7 with | .inl o8=>cond (decide (o8.1.1≥o8.2.2.2.2.2.2)) (some (o8.2.2.1,o8.2.2.2.1,o8.2.2.2.2.1,o8.2.2.2.2.2.1,IntKind.i64.wrap (o8.1.1+1))) (some o8.2.2) | .inr z9=>none) none | .inr z10=>none) ((s3s (x.2.1,x.1.2.1)).bind fun y11=>(u62 (x.2.2,x.1,x.2.1,(([]:Hu u0h.den),([]:Hu u0a.den),([]:Hu u0a.den),0,0),(y1.1,y1.2.1,([]:Hu u0a.den),y1.2.2.2),(y2.1,2,y2.2.2.1,y2.2.2.2.1,y2.2.2.2.2.1,y2.2.2.2.2.2.1,y11,x.2.2),0)).bind fun r13=>match r13 with | .inl o14=>cond (Nat.ble (o14.2.2.2.2.1.2.2.1.length+([o14.2.2.2.2.2]:Hu u0a.den).length) z7w) ((u6b (o14.1,o14.2.1,o14.2.2.1,o14.2.2.2.1,(o14.2.2.2.2.1.1,o14.2.2.2.2.1.2.1,o14.2.2.2.2.1.2.2.1++([o14.2.2.2.2.2]:Hu u0a.den),o14.2.2.2.2.1.2.2.2),0)).bind fun r16=>match r16 with | .inl o17=>cond (decide (o17.1.1≥o17.2.2.2.2.2.2)) (some (o17.2.2.1,o17.2.2.2.1,o17.2.2.2.2.1,o17.2.2.2.2.2.1,IntKind.i64.wrap (o17.1.1+1))) (some o17.2.2) | .inr z18=>none) none | .inr z19=>none)
theorem p0u:u7c=r4a:=zC 346 rfl Tryz.func346 (by kernel_rfl)
def s9x(x:Z17):Ht o5y:=zK 258 x
def q2a (x:Z17):Ht o5y:=cond (decide (x.2.1=1)) (cond (!decide (x.2.2.1.2.2.2.1=(IntKind.i64.wrap (x.1.2.2.2.1+1)))) (some (x.1,false)) ((u7w (x.1,x.2.2.1)).bind fun y1=>some (y1,true))) (cond (decide (x.2.1=2)) (((cond (decide ((x.1.2.2.1.length:Int)≥(3:Int))) (some true) ((u2p (x.1,x.2.2.1.2.2.2.2.2.2.2)).bind fun y2=>some (decide (y2≥0)))):Ht Bool).bind fun j3=>cond j3 (some (x.1,false)) ((u7c (x.1,x.2.2.1,x.2.2.1.2.2.2.2.2.2.2)).bind fun y4=>some (y4,true))) (cond (decide (x.2.1=3)) ((u2p (x.1,x.2.2.2.1)).bind fun y5=>cond (decide (y5<0)) (some (x.1,false)) (cond x.2.2.2.2.1 (cond (y4q y5 x.1.2.2.1.length) ((u7w (x.1,rdL u0a x.1.2.2.1 y5.toNat)).bind fun y6=>some (y6,true)) none) ((s24 (x.1,x.2.2.2.1)).bind fun y7=>some (y7,true)))) ((u3p x.2.2.2.2.2).bind fun y8=>some (y8,true))))
theorem p6o:s9x=q2a:=zC 258 rfl Tryz.func258 (by kernel_rfl)
def r3b(x:Z17):Ht o5y:=zK 153 x
def q5a (x:Z17):Ht o5y:=(((u87 x.1).bind fun y1=>cond (!y1) (some true) ((s1d x.2).bind fun y2=>some (!y2))):Ht Bool).bind fun j3=>cond j3 ((u3p x.1).bind fun y4=>some (y4,false)) ((s9x x).bind fun y5=>cond (!y5.2) ((u3p x.1).bind fun y6=>some (y6,false)) ((t1v (y5.1,([]:Hu u0a.den))).bind fun y7=>(u87 y7).bind fun y8=>cond (!y8) ((u3p x.1).bind fun y9=>some (y9,false)) (some (y7,true))))
theorem p9v:r3b=q5a:=zC 153 rfl Tryz.func153 (by kernel_rfl)
def s26(x:t01):Ht o5y:=zK 50 x
def t8e(g:Z25→Ht (Z32⊕o5y))(x:Z25):Ht (Z32⊕o5y):=cond (decide (x.2.2.2<(x.2.2.1.length:Int))) (cond (y4q x.2.2.2 x.2.2.1.length) ((s12 (rdL Ty.str x.2.2.1 x.2.2.2.toNat)).bind fun y3=>(r3b (x.2.1,y3.1)).bind fun y4=>((cond (!y3.2) (some true) (some (!y4.2))):Ht Bool).bind fun j5=>cond j5 (some (.inr ((([]:Hu u0h.den),([]:Hu u0a.den),([]:Hu u0a.den),0,0),false))) (g (x.1,y4.1,x.2.2.1,IntKind.i64.wrap (x.2.2.2+1)))) none) (some (.inl (x.1,x.2.1)))
def u7a:=lpW _ _ t8e
theorem r57 x:u7a x=t8e u7a x:=zW r46 50 Tryz.f50 4 43 x (by kernel_rfl)
def q1k (x:t01):Ht o5y:=(s9m ()).bind fun y1=>(s6q x).bind fun y2=>(u7a ((([]:Hu u0h.den),([]:Hu u0a.den),([]:Hu u0a.den),0,0),y1,y2,0)).bind fun r6=>match r6 with | .inl o7=>some (o7.2,true) | .inr z8=>some z8
theorem p5z:s26=q1k:=zC 50 rfl Tryz.func50 (by kernel_rfl)
def t6r(x:t01):Ht Bool:=zK 375 x
def s0d(g:p16→Ht j4w)(x:p16):Ht j4w:=cond (decide (x.2<(x.1.1.length:Int))) (cond (y4q x.2 x.1.1.length) (cond (!decide (((rdL Ty.str x.1.1 x.2.toNat).size:Int)=(64:Int))) (some (.inr false)) (g (x.1,IntKind.i64.wrap (x.2+1)))) none) (some (.inl x.1))
def s0l:=lpW _ _ s0d
theorem r9p x:s0l x=s0d s0l x:=zW r8o 375 Tryz.f375 4 59 x (by kernel_rfl)
def s0e(g:p16→Ht r97)(x:p16):Ht r97:=cond (decide (x.2<(x.1.2.length:Int))) (((cond (y4q x.2 x.1.2.length) ((u0t ((rdL p7e x.1.2 x.2.toNat).1,0,IntKind.i64.wrap ((x.1.1.length:Int) - (1:Int)))).bind fun y5=>cond (!y5) (some true) (cond (y4q x.2 x.1.2.length) (some (!decide (((rdL p7e x.1.2 x.2.toNat).2.size:Int)=(64:Int)))) none)) none):Ht Bool).bind fun j6=>cond j6 (some (.inr false)) (g (x.1,IntKind.i64.wrap (x.2+1)))) (some (.inl ()))
def s0m:=lpW _ _ s0e
theorem r9q x:s0m x=s0e s0m x:=zW r8p 375 Tryz.f375 9 59 x (by kernel_rfl)
def q44 (x:t01):Ht Bool:=(((u0t ((x.1.length:Int),1,100)).bind fun y1=>cond (!y1) (some true) (some (decide ((x.2.length:Int)>(60:Int))))):Ht Bool).bind fun j2=>cond j2 (some false) ((s0l (x,0)).bind fun r3=>match r3 with | .inl o4=>((s0m (o4,0)).bind fun r7=>match r7 with | .inl o8=>some true | .inr z9=>some z9) | .inr z10=>some z10)
theorem p9p:t6r=q44:=zC 375 rfl Tryz.func375 (by kernel_rfl)
def s8m(x:t01):Ht Bool:=zK 303 x
def q8y (x:t01):Ht Bool:=(((t6r x).bind fun y1=>cond (!y1) (some true) ((t0j ()).bind fun y2=>cond (!decide ((x.1.length:Int)=y2)) (some true) (some (decide ((x.2.length:Int)>(0:Int)))))):Ht Bool).bind fun j3=>cond j3 (some false) ((t0g (x,0)).bind fun y4=>(t0g (x,1)).bind fun y5=>((cond y4.2.2 (some y5.2.2) (some false)):Ht Bool).bind fun j6=>some j6)
theorem o2h:s8m=q8y:=zC 303 rfl Tryz.func303 (by kernel_rfl)
def u8u(x:t01):Ht t01:=zK 351 x
def t3v(g:j79→Ht j4u)(x:j79):Ht j4u:=cond (decide (x.2.2.2<(x.1.2.length:Int))) (cond (y4q x.2.2.2 x.1.2.length) (cond (y4q x.2.2.2 x.1.2.length) (cond (y4q (rdL p7e x.1.2 x.2.2.2.toNat).1 x.2.2.1.1.length) (g (x.1,x.2.1,(x.2.2.1.1.set ((rdL p7e x.1.2 x.2.2.2.toNat).1).toNat (rdL p7e x.1.2 x.2.2.2.toNat).2,x.2.2.1.2),IntKind.i64.wrap (x.2.2.2+1))) none) none) none) (some (.inl (x.2.1,x.2.2.1)))
def t35:=lpW _ _ t3v
theorem s83 x:t35 x=t3v t35 x:=zW s8c 351 Tryz.f351 5 36 x (by kernel_rfl)
def r39 (x:t01):Ht t01:=(u1g x).bind fun y1=>(t6r x).bind fun y2=>cond (!y2) (some y1) ((t35 (x,(([]:Hu Hs),([]:Hu p7e.den)),y1,0)).bind fun r3=>match r3 with | .inl o4=>some (o4.2.1,([]:Hu p7e.den)) | .inr z5=>none)
theorem p0t:u8u=r39:=zC 351 rfl Tryz.func351 (by kernel_rfl)
def t4d(x:o5z):Ht s91:=zK 352 x
def s7x (x:o5z):Ht s91:=(u1g x.1).bind fun y1=>(((t6r x.1).bind fun y2=>cond (!y2) (some true) ((u0t (x.2.1,0,IntKind.i64.wrap ((x.1.1.length:Int) - (1:Int)))).bind fun y3=>cond (!y3) (some true) (cond (!decide ((x.2.2.size:Int)=(64:Int))) (some true) (some (decide ((x.1.2.length:Int)≥(60:Int))))))):Ht Bool).bind fun j4=>cond j4 (some (y1,false)) (cond (Nat.ble (y1.2.length+([x.2]:Hu p7e.den).length) z7w) (some ((y1.1,y1.2++([x.2]:Hu p7e.den)),true)) none)
theorem q53:t4d=s7x:=zC 352 rfl Tryz.func352 (by kernel_rfl)
def t0i(x:j6p):Ht s91:=zK 349 x
def t9g(g:Z69→Ht j4x)(x:Z69):Ht j4x:=cond (decide (x.2.2.2.2.2.2<(x.2.2.1.size:Int))) (cond (decide ((IntKind.i64.wrap ((64:Int) - (Int.tmod (IntKind.i64.wrap (x.2.1+x.2.2.2.2.2.2)) (64:Int))))>(IntKind.i64.wrap ((x.2.2.1.size:Int) - x.2.2.2.2.2.2)))) ((u71 (x.2.2.2.2.2.1,IntKind.i64.wrap (x.1+(IntKind.i64.wrap (Int.tdiv (IntKind.i64.wrap (x.2.1+x.2.2.2.2.2.2)) (64:Int)))))).bind fun y6=>((cond (!y6.2) (some true) (some (!decide ((y6.1.size:Int)=(64:Int))))):Ht Bool).bind fun j7=>cond j7 ((u1g x.2.2.2.1).bind fun y8=>some (.inr (y8,false))) (cond (decide (0≤(0:Int))&&decide ((0:Int)≤(Int.tmod (IntKind.i64.wrap (x.2.1+x.2.2.2.2.2.2)) (64:Int)))&&decide ((Int.tmod (IntKind.i64.wrap (x.2.1+x.2.2.2.2.2.2)) (64:Int))≤(y6.1.size:Int))) (cond (decide (0≤x.2.2.2.2.2.2)&&decide (x.2.2.2.2.2.2≤(IntKind.i64.wrap (x.2.2.2.2.2.2+(IntKind.i64.wrap ((x.2.2.1.size:Int) - x.2.2.2.2.2.2)))))&&decide ((IntKind.i64.wrap (x.2.2.2.2.2.2+(IntKind.i64.wrap ((x.2.2.1.size:Int) - x.2.2.2.2.2.2))))≤(x.2.2.1.size:Int))) (cond (decide ((y6.1.extract (0:Int).toNat (Int.tmod (IntKind.i64.wrap (x.2.1+x.2.2.2.2.2.2)) (64:Int)).toNat).size+(x.2.2.1.extract x.2.2.2.2.2.2.toNat (IntKind.i64.wrap (x.2.2.2.2.2.2+(IntKind.i64.wrap ((x.2.2.1.size:Int) - x.2.2.2.2.2.2)))).toNat).size≤140737488355328)) (cond (decide (0≤(IntKind.i64.wrap ((Int.tmod (IntKind.i64.wrap (x.2.1+x.2.2.2.2.2.2)) (64:Int))+(IntKind.i64.wrap ((x.2.2.1.size:Int) - x.2.2.2.2.2.2)))))&&decide ((IntKind.i64.wrap ((Int.tmod (IntKind.i64.wrap (x.2.1+x.2.2.2.2.2.2)) (64:Int))+(IntKind.i64.wrap ((x.2.2.1.size:Int) - x.2.2.2.2.2.2))))≤(y6.1.size:Int))&&decide ((y6.1.size:Int)≤(y6.1.size:Int))) (cond (decide (((y6.1.extract (0:Int).toNat (Int.tmod (IntKind.i64.wrap (x.2.1+x.2.2.2.2.2.2)) (64:Int)).toNat)++(x.2.2.1.extract x.2.2.2.2.2.2.toNat (IntKind.i64.wrap (x.2.2.2.2.2.2+(IntKind.i64.wrap ((x.2.2.1.size:Int) - x.2.2.2.2.2.2)))).toNat)).size+(y6.1.extract (IntKind.i64.wrap ((Int.tmod (IntKind.i64.wrap (x.2.1+x.2.2.2.2.2.2)) (64:Int))+(IntKind.i64.wrap ((x.2.2.1.size:Int) - x.2.2.2.2.2.2)))).toNat (y6.1.size:Int).toNat).size≤140737488355328)) ((t4d (x.2.2.2.2.2.1,IntKind.i64.wrap (x.1+(IntKind.i64.wrap (Int.tdiv (IntKind.i64.wrap (x.2.1+x.2.2.2.2.2.2)) (64:Int)))),((y6.1.extract (0:Int).toNat (Int.tmod (IntKind.i64.wrap (x.2.1+x.2.2.2.2.2.2)) (64:Int)).toNat)++(x.2.2.1.extract x.2.2.2.2.2.2.toNat (IntKind.i64.wrap (x.2.2.2.2.2.2+(IntKind.i64.wrap ((x.2.2.1.size:Int) - x.2.2.2.2.2.2)))).toNat))++(y6.1.extract (IntKind.i64.wrap ((Int.tmod (IntKind.i64.wrap (x.2.1+x.2.2.2.2.2.2)) (64:Int))+(IntKind.i64.wrap ((x.2.2.1.size:Int) - x.2.2.2.2.2.2)))).toNat (y6.1.size:Int).toNat))).bind fun y9=>cond (!y9.2) ((u1g x.2.2.2.1).bind fun y10=>some (.inr (y10,false))) (g (x.1,x.2.1,x.2.2.1,x.2.2.2.1,x.2.2.2.2.1,y9.1,IntKind.i64.wrap (x.2.2.2.2.2.2+(IntKind.i64.wrap ((x.2.2.1.size:Int) - x.2.2.2.2.2.2)))))) none) none) none) none) none)) ((u71 (x.2.2.2.2.2.1,IntKind.i64.wrap (x.1+(IntKind.i64.wrap (Int.tdiv (IntKind.i64.wrap (x.2.1+x.2.2.2.2.2.2)) (64:Int)))))).bind fun y11=>((cond (!y11.2) (some true) (some (!decide ((y11.1.size:Int)=(64:Int))))):Ht Bool).bind fun j12=>cond j12 ((u1g x.2.2.2.1).bind fun y13=>some (.inr (y13,false))) (cond (decide (0≤(0:Int))&&decide ((0:Int)≤(Int.tmod (IntKind.i64.wrap (x.2.1+x.2.2.2.2.2.2)) (64:Int)))&&decide ((Int.tmod (IntKind.i64.wrap (x.2.1+x.2.2.2.2.2.2)) (64:Int))≤(y11.1.size:Int))) (cond (decide (0≤x.2.2.2.2.2.2)&&decide (x.2.2.2.2.2.2≤(IntKind.i64.wrap (x.2.2.2.2.2.2+(IntKind.i64.wrap ((64:Int) - (Int.tmod (IntKind.i64.wrap (x.2.1+x.2.2.2.2.2.2)) (64:Int)))))))&&decide ((IntKind.i64.wrap (x.2.2.2.2.2.2+(IntKind.i64.wrap ((64:Int) - (Int.tmod (IntKind.i64.wrap (x.2.1+x.2.2.2.2.2.2)) (64:Int))))))≤(x.2.2.1.size:Int))) (cond (decide ((y11.1.extract (0:Int).toNat (Int.tmod (IntKind.i64.wrap (x.2.1+x.2.2.2.2.2.2)) (64:Int)).toNat).size+(x.2.2.1.extract x.2.2.2.2.2.2.toNat (IntKind.i64.wrap (x.2.2.2.2.2.2+(IntKind.i64.wrap ((64:Int) - (Int.tmod (IntKind.i64.wrap (x.2.1+x.2.2.2.2.2.2)) (64:Int)))))).toNat).size≤140737488355328)) (cond (decide (0≤(IntKind.i64.wrap ((Int.tmod (IntKind.i64.wrap (x.2.1+x.2.2.2.2.2.2)) (64:Int))+(IntKind.i64.wrap ((64:Int) - (Int.tmod (IntKind.i64.wrap (x.2.1+x.2.2.2.2.2.2)) (64:Int)))))))&&decide ((IntKind.i64.wrap ((Int.tmod (IntKind.i64.wrap (x.2.1+x.2.2.2.2.2.2)) (64:Int))+(IntKind.i64.wrap ((64:Int) - (Int.tmod (IntKind.i64.wrap (x.2.1+x.2.2.2.2.2.2)) (64:Int))))))≤(y11.1.size:Int))&&decide ((y11.1.size:Int)≤(y11.1.size:Int))) (cond (decide (((y11.1.extract (0:Int).toNat (Int.tmod (IntKind.i64.wrap (x.2.1+x.2.2.2.2.2.2)) (64:Int)).toNat)++(x.2.2.1.extract x.2.2.2.2.2.2.toNat (IntKind.i64.wrap (x.2.2.2.2.2.2+(IntKind.i64.wrap ((64:Int) - (Int.tmod (IntKind.i64.wrap (x.2.1+x.2.2.2.2.2.2)) (64:Int)))))).toNat)).size+(y11.1.extract (IntKind.i64.wrap ((Int.tmod (IntKind.i64.wrap (x.2.1+x.2.2.2.2.2.2)) (64:Int))+(IntKind.i64.wrap ((64:Int) - (Int.tmod (IntKind.i64.wrap (x.2.1+x.2.2.2.2.2.2)) (64:Int)))))).toNat (y11.1.size:Int).toNat).size≤140737488355328)) ((t4d (x.2.2.2.2.2.1,IntKind.i64.wrap (x.1+(IntKind.i64.wrap (Int.tdiv (IntKind.i64.wrap (x.2.1+x.2.2.2.2.2.2)) (64:Int)))),((y11.1.extract (0:Int).toNat (Int.tmod (IntKind.i64.wrap (x.2.1+x.2.2.2.2.2.2)) (64:Int)).toNat)++(x.2.2.1.extract x.2.2.2.2.2.2.toNat (IntKind.i64.wrap (x.2.2.2.2.2.2+(IntKind.i64.wrap ((64:Int) - (Int.tmod (IntKind.i64.wrap (x.2.1+x.2.2.2.2.2.2)) (64:Int)))))).toNat))++(y11.1.extract (IntKind.i64.wrap ((Int.tmod (IntKind.i64.wrap (x.2.1+x.2.2.2.2.2.2)) (64:Int))+(IntKind.i64.wrap ((64:Int) - (Int.tmod (IntKind.i64.wrap (x.2.1+x.2.2.2.2.2.2)) (64:Int)))))).toNat (y11.1.size:Int).toNat))).bind fun y14=>cond (!y14.2) ((u1g x.2.2.2.1).bind fun y15=>some (.inr (y15,false))) (g (x.1,x.2.1,x.2.2.1,x.2.2.2.1,x.2.2.2.2.1,y14.1,IntKind.i64.wrap (x.2.2.2.2.2.2+(IntKind.i64.wrap ((64:Int) - (Int.tmod (IntKind.i64.wrap (x.2.1+x.2.2.2.2.2.2)) (64:Int)))))))) none) none) none) none) none))) (some (.inl (x.2.2.2.2.1,x.2.2.2.2.2.1)))
def u6c:=lpW _ _ t9g
theorem q39 x:u6c x=t9g u6c x:=zW s6b 349 Tryz.f349 5 111 x (by kernel_rfl)
def r0k (x:j6p):Ht s91:=(u1g x.1).bind fun y1=>(((u0t (x.2.2.1,0,6400)).bind fun y2=>cond (!y2) (some true) ((u0t (x.2.1,0,IntKind.i64.wrap ((x.1.1.length:Int) - (1:Int)))).bind fun y3=>cond (!y3) (some true) ((t6r x.1).bind fun y4=>some (!y4)))):Ht Bool).bind fun j5=>cond j5 (some (y1,false)) ((u6c (x.2.1,x.2.2.1,x.2.2.2,x.1,(([]:Hu Hs),([]:Hu p7e.den)),y1,0)).bind fun r16=>match r16 with | .inl o17=>some (o17.2,true) | .inr z18=>some z18)
theorem q7q:t0i=r0k:=zC 349 rfl Tryz.func349 (by kernel_rfl)
def s1i(x:Int):Ht Hs:=zK 350 x
def p8x (x:Int):Ht Hs:=some (y7g ([(IntKind.u8.wrap x)]:Hu Int))
theorem q54:s1i=p8x:=zC 350 rfl Tryz.func350 (by kernel_rfl)
def s1h(x:j2o):Ht s91:=zK 379 x
def r73 (x:j2o):Ht s91:=(u8t x.2.1).bind fun y1=>(s1i x.2.2).bind fun y2=>(t0i (x.1,y1,0,y2)).bind fun y3=>some y3
theorem p3l:s1h=r73:=zC 379 rfl Tryz.func379 (by kernel_rfl)
def s6x(x:o5z):Ht s91:=zK 377 x
def r72 (x:o5z):Ht s91:=(t0g (x.1,x.2.1)).bind fun y1=>((cond (!y1.2.2) (some true) (cond (z7o x.2.2 (⟨#[]⟩:Hs)) (some true) (cond (decide ((x.2.2.size:Int)>(3008:Int))) (some true) ((t7l (x.1,x.2.1)).bind fun y2=>some (decide (y2≥255)))))):Ht Bool).bind fun j3=>cond j3 ((u1g x.1).bind fun y4=>some (y4,false)) ((u16 (x.2.2.size:Int)).bind fun y5=>cond (decide (y5.size+x.2.2.size≤140737488355328)) (cond (decide (((y5++x.2.2).size:Int)>(IntKind.i64.wrap ((3008:Int) - y1.2.1)))) ((u1g x.1).bind fun y6=>some (y6,false)) ((u8t x.2.1).bind fun y7=>(t0i (x.1,IntKind.i64.wrap (y7+1),y1.2.1,y5++x.2.2)).bind fun y8=>some y8)) none)
theorem p3k:s6x=r72:=zC 377 rfl Tryz.func377 (by kernel_rfl)
def s5g(x:o5z):Ht s91:=zK 405 x
def q5h (x:o5z):Ht s91:=(s6x x).bind fun y1=>cond (!y1.2) (some (y1.1,false)) ((u8u y1.1).bind fun y2=>(t7l (x.1,x.2.1)).bind fun y3=>(s1h (y2,x.2.1,IntKind.i64.wrap (y3+1))).bind fun y4=>(u8u y4.1).bind fun y5=>some (y5,y4.2))
theorem p92:s5g=q5h:=zC 405 rfl Tryz.func405 (by kernel_rfl)
def s9u(x:j2m):Ht s91:=zK 353 x
def t17(g:j9c→Ht (j9v⊕Unit))(x:j9c):Ht (j9v⊕Unit):=((cond (decide (x.2.2.2.2.2<(x.1.length:Int))) (some x.2.2.2.2.1) (some false)):Ht Bool).bind fun j4=>cond j4 (cond (y4q x.2.2.2.2.2 x.1.length) ((s5g (x.2.2.2.1,x.2.2.1,rdL Ty.str x.1 x.2.2.2.2.2.toNat)).bind fun y5=>g (x.1,x.2.1,x.2.2.1,y5.1,y5.2,IntKind.i64.wrap (x.2.2.2.2.2+1))) none) (some (.inl (x.2.1,x.2.2.2.1,x.2.2.2.2.1)))
def t2q:=lpW _ _ t17
theorem s4j x:t2q x=t17 t2q x:=zW r5h 353 Tryz.f353 5 42 x (by kernel_rfl)
def q14 (x:j2m):Ht s91:=(t5c x.1).bind fun y1=>(s1h (x.1,IntKind.i64.wrap ((1:Int) - y1),0)).bind fun y2=>(u8u y2.1).bind fun y3=>(t2q (x.2,(([]:Hu Hs),([]:Hu p7e.den)),IntKind.i64.wrap ((1:Int) - y1),y3,y2.2,0)).bind fun r6=>match r6 with | .inl o7=>some o7.2 | .inr z8=>none
theorem p6i:s9u=q14:=zC 353 rfl Tryz.func353 (by kernel_rfl)
def s9v(x:t01):Ht s91:=zK 354 x
def q15 (x:t01):Ht s91:=(t7o (x,0)).bind fun y1=>(s1i (IntKind.i64.wrap (y1+1))).bind fun y2=>(t0i (x,0,0,y2)).bind fun y3=>some y3
theorem p6j:s9v=q15:=zC 354 rfl Tryz.func354 (by kernel_rfl)
def s4f(x:j2m):Ht s91:=zK 262 x
def r4e (x:j2m):Ht s91:=(s8m x.1).bind fun y1=>cond (!y1) ((u1g x.1).bind fun y2=>some (y2,false)) ((s9u x).bind fun y3=>cond (!y3.2) ((u1g x.1).bind fun y4=>some (y4,false)) ((s9v y3.1).bind fun y5=>cond (!y5.2) ((u1g x.1).bind fun y6=>some (y6,false)) ((u8u y5.1).bind fun y7=>some (y7,true))))
theorem p0y:s4f=r4e:=zC 262 rfl Tryz.func262 (by kernel_rfl)
def s1k(x:t01):Ht s91:=zK 156 x
def r78 (x:t01):Ht s91:=(s26 x).bind fun y1=>(u37 (4,(0,0,0,0,([]:Hu p4x.den),([]:Hu u2l.den),false,(⟨#[]⟩:Hs)),(⟨#[]⟩:Hs),false,y1.1)).bind fun y2=>((cond (!y1.2) (some true) (some (!y2.2))):Ht Bool).bind fun j3=>cond j3 ((u1g x).bind fun y4=>some (y4,false)) ((s4f (x,([y2.1]:Hu Hs))).bind fun y5=>some y5)
theorem p3q:s1k=r78:=zC 156 rfl Tryz.func156 (by kernel_rfl)
def t0f(x:Z48):Ht Z44:=zK 52 x
def r7o (x:Z48):Ht Z44:=(s9y x).bind fun y1=>(s1k x.2).bind fun y2=>cond y2.2 (some ((y1.1,y2.1),y2.2)) (some (y1,y2.2))
theorem p27:t0f=r7o:=zC 52 rfl Tryz.func52 (by kernel_rfl)
def u2q(x:d0t):Ht j6y:=zK 187 x
def q1z (x:d0t):Ht j6y:=(u5a (x.1,(x.2.length:Int))).bind fun y1=>cond (y4q y1.1 x.2.length) (some (rdL Ty.str x.2 y1.1.toNat,y1.2)) none
theorem p6e:u2q=q1z:=zC 187 rfl Tryz.func187 (by kernel_rfl)
def u23(x:j4z):Ht (Bool×o0u):=zK 189 x
def q1y (x:j4z):Ht (Bool×o0u):=(u5a x).bind fun y1=>some (decide (y1.1=0),y1.2)
theorem p6d:u23=q1y:=zC 189 rfl Tryz.func189 (by kernel_rfl)
def t9c(x:j9d):Ht j4p:=zK 358 x
def t3y(g:Z19→Ht (Z20⊕j4p))(x:Z19):Ht (Z20⊕j4p):=cond (decide (x.2.2.2.2<(x.1.2.2.2.2.1.length:Int))) (cond (y4q x.2.2.2.2 x.1.2.2.2.2.1.length) (cond (z7o (rdL p4x x.1.2.2.2.2.1 x.2.2.2.2.toNat).1 x.2.1.1&&(z7o (rdL p4x x.1.2.2.2.2.1 x.2.2.2.2.toNat).2 x.2.1.2&&true)) (some (.inr (x.2.2.2.1,true))) (g (x.1,x.2.1,x.2.2.1,x.2.2.2.1,IntKind.i64.wrap (x.2.2.2.2+1)))) none) (some (.inl (x.1,x.2.1,x.2.2.1,x.2.2.2.1)))
def u84:=lpW _ _ t3y
theorem s86 x:u84 x=t3y u84 x:=zW s8f 358 Tryz.f358 5 51 x (by kernel_rfl)
def r4c (x:j9d):Ht j4p:=(u1h x.1).bind fun y1=>(((u7x x.1).bind fun y2=>cond (!y2) (some true) (cond (!decide (x.1.2.1=1)) (some true) ((t7m x.2).bind fun y3=>some (!y3)))):Ht Bool).bind fun j4=>cond j4 (some (y1,false)) ((u84 (x.1,x.2,(0,0,0,0,([]:Hu p4x.den),([]:Hu u2l.den),false,(⟨#[]⟩:Hs)),y1,0)).bind fun r5=>match r5 with | .inl o6=>cond (decide ((o6.1.2.2.2.2.1.length:Int)≥(8:Int))) (some (o6.2.2.2,false)) (cond (Nat.ble (o6.2.2.2.2.2.2.2.1.length+([o6.2.1]:Hu p4x.den).length) z7w) (some ((o6.2.2.2.1,o6.2.2.2.2.1,o6.2.2.2.2.2.1,o6.2.2.2.2.2.2.1,o6.2.2.2.2.2.2.2.1++([o6.2.1]:Hu p4x.den),o6.2.2.2.2.2.2.2.2),true)) none) | .inr z7=>some z7)
theorem p0w:t9c=r4c:=zC 358 rfl Tryz.func358 (by kernel_rfl)
def s1f(x:j2r):Ht s7c:=zK 20 x
def q5d (x:j2r):Ht s7c:=(s8p x).bind fun y1=>((cond (decide (y1<0)) (some true) (cond (y4q y1 x.1.length) (some (rdL u0h x.1 y1.toNat).2.2.1) none)):Ht Bool).bind fun j2=>cond j2 (some ((⟨#[]⟩:Hs),false)) (cond (y4q y1 x.1.length) (some ((rdL u0h x.1 y1.toNat).2.1,true)) none)
theorem p9y:s1f=q5d:=zC 20 rfl Tryz.func20 (by kernel_rfl)
def s5f(x:Z99):Ht s7c:=zK 359 x
def t4l(g:Z86→Ht (Z96⊕s7c))(x:Z86):Ht (Z96⊕s7c):=cond (decide (x.2.2.2<(x.2.2.1.2.2.2.2.2.1.length:Int))) (cond (y4q x.2.2.2 x.2.2.1.2.2.2.2.2.1.length) (cond (z7o (rdL u2l x.2.2.1.2.2.2.2.2.1 x.2.2.2.toNat).1 x.2.1) (cond (y4q x.2.2.2 x.2.2.1.2.2.2.2.2.1.length) (cond (rdL u2l x.2.2.1.2.2.2.2.2.1 x.2.2.2.toNat).2.2 (some (.inr ((⟨#[]⟩:Hs),false))) (cond (y4q x.2.2.2 x.2.2.1.2.2.2.2.2.1.length) (some (.inr ((rdL u2l x.2.2.1.2.2.2.2.2.1 x.2.2.2.toNat).2.1,true))) none)) none) (g (x.1,x.2.1,x.2.2.1,IntKind.i64.wrap (x.2.2.2+1)))) none) (some (.inl (x.1,x.2.1,x.2.2.1)))
def t4u:=lpW _ _ t4l
theorem r9s x:t4u x=t4l t4u x:=zW r8r 359 Tryz.f359 2 43 x (by kernel_rfl)
def q49 (x:Z99):Ht s7c:=(t4u (x.2.1,x.2.2,x.1,0)).bind fun r1=>match r1 with | .inl o2=>((s1f (o2.1,o2.2.1,o2.2.2.2.2.1)).bind fun y3=>some y3) | .inr z4=>some z4
theorem p9u:s5f=q49:=zC 359 rfl Tryz.func359 (by kernel_rfl)
def t6s(x:Z56):Ht Z53:=zK 269 x
def q46 (x:Z56):Ht Z53:=(u0o x.1).bind fun y1=>(u7o (x.1,x.2.1)).bind fun y2=>cond (decide (y2<0)) (some (y1,(⟨#[]⟩:Hs),false,1)) ((u7v x.2.2).bind fun y3=>cond (!y3) (some (y1,(⟨#[]⟩:Hs),false,2)) (cond (y4q y2 x.1.2.length) ((t9c (rdL u0a x.1.2 y2.toNat,x.2.2,x.2.2)).bind fun y4=>cond (!y4.2) (some (y1,(⟨#[]⟩:Hs),false,3)) (cond (y4q y2 y1.2.length) ((s5f (y4.1,x.1.1.1,x.2.2)).bind fun y5=>some ((y1.1,y1.2.set y2.toNat y4.1),y5.1,y5.2,0)) none)) none))
theorem p9r:t6s=q46:=zC 269 rfl Tryz.func269 (by kernel_rfl)
def u7p(x:o0u):Ht j6y:=zK 270 x
def q5i (x:o0u):Ht j6y:=(u2q (x,([(⟨#[97]⟩:Hs),(⟨#[98]⟩:Hs),(⟨#[99]⟩:Hs),(⟨#[100]⟩:Hs),(⟨#[97,98]⟩:Hs)]:Hu Hs))).bind fun y1=>some y1
theorem p93:u7p=q5i:=zC 270 rfl Tryz.func270 (by kernel_rfl)
def s9w(x:j8g):Ht p09:=zK 331 x
def t8n(g:j6j→Ht (j9j⊕Unit))(x:j6j):Ht (j9j⊕Unit):=cond (decide (x.2.2.2.2.2.2<(x.2.2.1.length:Int))) (cond (y4q x.2.2.2.2.2.2 x.2.2.1.length) (cond (y3c (rdL Ty.str x.2.2.1 x.2.2.2.2.2.2.toNat) x.2.2.2.2.1) (cond (y4q x.2.2.2.2.2.2 x.2.2.1.length) (cond (Nat.ble (x.2.2.2.2.2.1.length+([(rdL Ty.str x.2.2.1 x.2.2.2.2.2.2.toNat)]:Hu Hs).length) z7w) (g (x.1,x.2.1,x.2.2.1,x.2.2.2.1,x.2.2.2.2.1,x.2.2.2.2.2.1++([(rdL Ty.str x.2.2.1 x.2.2.2.2.2.2.toNat)]:Hu Hs),IntKind.i64.wrap (x.2.2.2.2.2.2+1))) none) none) (g (x.1,x.2.1,x.2.2.1,x.2.2.2.1,x.2.2.2.2.1,x.2.2.2.2.2.1,IntKind.i64.wrap (x.2.2.2.2.2.2+1)))) none) (some (.inl (x.1,x.2.1,x.2.2.1,x.2.2.2.1,x.2.2.2.2.1,x.2.2.2.2.2.1)))
def t2r:=lpW _ _ t8n
theorem r6i x:t2r x=t8n t2r x:=zW r5j 331 Tryz.f331 9 72 x (by kernel_rfl)
def t57(g:j6j→Ht (j91⊕Unit))(x:j6j):Ht (j91⊕Unit):=cond (decide (x.2.2.2.2.2.2<(x.2.2.1.length:Int))) (cond (y4q x.2.2.2.2.2.2 x.2.2.1.length) (cond (!(y3c (rdL Ty.str x.2.2.1 x.2.2.2.2.2.2.toNat) x.2.2.2.2.1||z7o (rdL Ty.str x.2.2.1 x.2.2.2.2.2.2.toNat) x.2.2.2.2.1)) (cond (y4q x.2.2.2.2.2.2 x.2.2.1.length) (cond (Nat.ble (x.2.2.2.2.2.1.length+([(rdL Ty.str x.2.2.1 x.2.2.2.2.2.2.toNat)]:Hu Hs).length) z7w) (g (x.1,x.2.1,x.2.2.1,x.2.2.2.1,x.2.2.2.2.1,x.2.2.2.2.2.1++([(rdL Ty.str x.2.2.1 x.2.2.2.2.2.2.toNat)]:Hu Hs),IntKind.i64.wrap (x.2.2.2.2.2.2+1))) none) none) (g (x.1,x.2.1,x.2.2.1,x.2.2.2.1,x.2.2.2.2.1,x.2.2.2.2.2.1,IntKind.i64.wrap (x.2.2.2.2.2.2+1)))) none) (some (.inl (x.1,x.2.1,x.2.2.2.1,x.2.2.2.2.2.1)))
def u93:=lpW _ _ t57
theorem r2j x:u93 x=t57 u93 x:=zW r1g 331 Tryz.f331 15 72 x (by kernel_rfl)
def t8m(g:j92→Ht j4y)(x:j92):Ht j4y:=cond (decide (x.2.2.2<(x.1.length:Int))) (cond (y4q x.2.2.2 x.1.length) ((s25 (x.2.1,(rdL u0h x.1 x.2.2.2.toNat).1)).bind fun y1=>cond (!y1) (g (x.1,x.2.1,x.2.2.1,IntKind.i64.wrap (x.2.2.2+1))) ((t2r (x.1,x.2.1,x.2.2.1,x.2.2.2,(rdL u0h x.1 x.2.2.2.toNat).1,([]:Hu Hs),0)).bind fun r2=>match r2 with | .inl o3=>cond (Nat.ble (o3.2.2.2.2.2.length+([o3.2.2.2.2.1]:Hu Hs).length) z7w) ((u93 (o3.1,o3.2.1,o3.2.2.1,o3.2.2.2.1,o3.2.2.2.2.1,o3.2.2.2.2.2++([o3.2.2.2.2.1]:Hu Hs),0)).bind fun r4=>match r4 with | .inl o5=>g (o5.1,o5.2.1,o5.2.2.2,IntKind.i64.wrap (o5.2.2.1+1)) | .inr z6=>some (.inr ())) none | .inr z7=>some (.inr ()))) none) (some (.inl x.2.2.1))
def t80:=lpW _ _ t8m
theorem r6h x:t80 x=t8m t80 x:=zW r5i 331 Tryz.f331 3 72 x (by kernel_rfl)
def q16 (x:j8g):Ht p09:=(t80 (x.1,x.2,([]:Hu Hs),0)).bind fun r8=>match r8 with | .inl o9=>some o9 | .inr z10=>none
theorem p6k:s9w=q16:=zC 331 rfl Tryz.func331 (by kernel_rfl)
def s9o(x:Z83):Ht o79:=zK 360 x
def t8c(g:Z57→Ht (Z65⊕Unit))(x:Z57):Ht (Z65⊕Unit):=cond (decide (x.2.2.2.2<(x.2.1.2.2.2.2.2.1.length:Int))) (cond (y4q x.2.2.2.2 x.2.1.2.2.2.2.2.1.length) (cond (Nat.ble (x.2.2.2.1.length+([((rdL u2l x.2.1.2.2.2.2.2.1 x.2.2.2.2.toNat).1,(⟨#[]⟩:Hs),false,0)]:Hu u0h.den).length) z7w) (g (x.1,x.2.1,x.2.2.1,x.2.2.2.1++([((rdL u2l x.2.1.2.2.2.2.2.1 x.2.2.2.2.toNat).1,(⟨#[]⟩:Hs),false,0)]:Hu u0h.den),IntKind.i64.wrap (x.2.2.2.2+1))) none) none) (some (.inl (x.1,x.2.1,x.2.2.1,x.2.2.2.1)))
def t2j:=lpW _ _ t8c
theorem r55 x:t2j x=t8c t2j x:=zW r44 360 Tryz.f360 3 65 x (by kernel_rfl)
def t8d(g:Z66→Ht (o79⊕Unit))(x:Z66):Ht (o79⊕Unit):=cond (decide (x.2.2.2.2<(x.2.2.2.1.length:Int))) (cond (y4q x.2.2.2.2 x.2.2.2.1.length) ((s5f (x.2.1,x.1,rdL Ty.str x.2.2.2.1 x.2.2.2.2.toNat)).bind fun y4=>cond y4.2 (cond (y4q x.2.2.2.2 x.2.2.2.1.length) (cond (Nat.ble (x.2.2.1.length+([(rdL Ty.str x.2.2.2.1 x.2.2.2.2.toNat,y4.1)]:Hu p4x.den).length) z7w) (g (x.1,x.2.1,x.2.2.1++([(rdL Ty.str x.2.2.2.1 x.2.2.2.2.toNat,y4.1)]:Hu p4x.den),x.2.2.2.1,IntKind.i64.wrap (x.2.2.2.2+1))) none) none) (g (x.1,x.2.1,x.2.2.1,x.2.2.2.1,IntKind.i64.wrap (x.2.2.2.2+1)))) none) (some (.inl x.2.2.1))
def t8v:=lpW _ _ t8d
theorem r56 x:t8v x=t8d t8v x:=zW r45 360 Tryz.f360 9 65 x (by kernel_rfl)
def q1j (x:Z83):Ht o79:=cond (Nat.ble (([]:Hu u0h.den).length+x.2.1.length) z7w) ((t2j (x.2.1,x.1,x.2.2,([]:Hu u0h.den)++x.2.1,0)).bind fun r1=>match r1 with | .inl o2=>((s9w (o2.2.2.2,o2.2.2.1)).bind fun y3=>(t8v (o2.1,o2.2.1,([]:Hu p4x.den),y3,0)).bind fun r5=>match r5 with | .inl o6=>some o6 | .inr z7=>none) | .inr z8=>none) none
theorem p5y:s9o=q1j:=zC 360 rfl Tryz.func360 (by kernel_rfl)
def t0h(x:Z50):Ht Z54:=zK 271 x
def r7v (x:Z50):Ht Z54:=(u0o x.1).bind fun y1=>(u7o (x.1,x.2.1)).bind fun y2=>cond (decide (y2<0)) (some (y1,([]:Hu p4x.den),1)) ((t7m x.2.2).bind fun y3=>cond (!y3) (some (y1,([]:Hu p4x.den),2)) (cond (y4q y2 x.1.2.length) ((t9c (rdL u0a x.1.2 y2.toNat,x.2.2)).bind fun y4=>cond (!y4.2) (some (y1,([]:Hu p4x.den),3)) (cond (y4q y2 y1.2.length) ((s9o (y4.1,x.1.1.1,x.2.2)).bind fun y5=>some ((y1.1,y1.2.set y2.toNat y4.1),y5,0)) none)) none))
theorem p3e:t0h=r7v:=zC 271 rfl Tryz.func271 (by kernel_rfl)
def t0k(x:o0u):Ht d0k:=zK 272 x
def r74 (x:o0u):Ht d0k:=(u7p x).bind fun y1=>(u23 (y1.2,2)).bind fun y2=>cond y2.1 (some ((y1.1,y1.1),y2.2)) ((u7p y2.2).bind fun y3=>cond (y3c y3.1 y1.1) (some ((y3.1,y1.1),y3.2)) (some ((y1.1,y3.1),y3.2)))
theorem p3m:t0k=r74:=zC 272 rfl Tryz.func272 (by kernel_rfl)
def t0l(x:o0u):Ht d0b:=zK 273 x
def r75 (x:o0u):Ht d0b:=(u7p x).bind fun y1=>(u2q (y1.2,([(⟨#[111,110,101]⟩:Hs),(⟨#[116,119,111]⟩:Hs),(⟨#[]⟩:Hs),(⟨#[120,0]⟩:Hs)]:Hu Hs))).bind fun y2=>(u23 (y2.2,5)).bind fun y3=>cond y3.1 (some ((y1.1,(⟨#[]⟩:Hs),true),y3.2)) (some ((y1.1,y2.1,false),y3.2))
theorem p3n:t0l=r75:=zC 273 rfl Tryz.func273 (by kernel_rfl)
def u1f(x:Z68):Ht Z73:=zK 363 x
def s0g(g:Z42→Ht (Z49⊕Unit))(x:Z42):Ht (Z49⊕Unit):=cond (decide (x.2.2.2<(x.1.2.length:Int))) (cond (y4q x.2.2.2 x.1.2.length) (cond (!decide ((rdL u0a x.1.2 x.2.2.2.toNat).1=x.2.1)) (cond (y4q x.2.2.2 x.1.2.length) (cond (Nat.ble (x.2.2.1.length+([(rdL u0a x.1.2 x.2.2.2.toNat)]:Hu u0a.den).length) z7w) (g (x.1,x.2.1,x.2.2.1++([(rdL u0a x.1.2 x.2.2.2.toNat)]:Hu u0a.den),IntKind.i64.wrap (x.2.2.2+1))) none) none) (g (x.1,x.2.1,x.2.2.1,IntKind.i64.wrap (x.2.2.2+1)))) none) (some (.inl (x.1,x.2.2.1)))
def t4w:=lpW _ _ s0g
theorem r9u x:t4w x=s0g t4w x:=zW r8v 363 Tryz.f363 2 49 x (by kernel_rfl)
def q5m (x:Z68):Ht Z73:=(t4w (x.1,x.2,([]:Hu u0a.den),0)).bind fun r1=>match r1 with | .inl o2=>((t1v (o2.1.1,o2.2)).bind fun y3=>some (y3,o2.2)) | .inr z4=>none
theorem p97:u1f=q5m:=zC 363 rfl Tryz.func363 (by kernel_rfl)
def s3c(x:u74):Ht Bool:=zK 332 x
def q2d (x:u74):Ht Bool:=((cond (decide ((x.2.1.length:Int)≥(12:Int))) (some true) (cond (decide ((x.1.length:Int)>(100:Int))) (some true) (some (decide (x.2.2.2.1≥9999))))):Ht Bool).bind fun j1=>some j1
theorem p6r:s3c=q2d:=zC 332 rfl Tryz.func332 (by kernel_rfl)
def t6u(x:u74):Ht q3e:=zK 409 x
def q5l (x:u74):Ht q3e:=cond (Nat.ble (([]:Hu u0a.den).length+x.2.1.length) z7w) (cond (Nat.ble ((([]:Hu u0a.den)++x.2.1).length+x.2.2.1.length) z7w) (some ((([]:Hu u0a.den)++x.2.1)++x.2.2.1)) none) none
theorem p96:t6u=q5l:=zC 409 rfl Tryz.func409 (by kernel_rfl)
def s8n(x:j60):Ht Bool:=zK 428 x
def s2i(g:j2n→Ht (j6w⊕Bool))(x:j2n):Ht (j6w⊕Bool):=cond (decide (x.2.2.2<(x.2.1.length:Int))) (cond (y4q x.2.2.1 x.1.length) (cond (y4q x.2.2.2 x.2.1.length) (cond (z7o (rdL u2l x.1 x.2.2.1.toNat).1 (rdL u2l x.2.1 x.2.2.2.toNat).1) (some (.inr true)) (g (x.1,x.2.1,x.2.2.1,IntKind.i64.wrap (x.2.2.2+1)))) none) none) (some (.inl (x.1,x.2.1,x.2.2.1)))
def t7c:=lpW _ _ s2i
theorem q29 x:t7c x=s2i t7c x:=zW q2t 428 Tryz.f428 5 30 x (by kernel_rfl)
def s2h(g:j6w→Ht r97)(x:j6w):Ht r97:=cond (decide (x.2.2<(x.1.length:Int))) ((t7c (x.1,x.2.1,x.2.2,0)).bind fun r1=>match r1 with | .inl o2=>g (o2.1,o2.2.1,IntKind.i64.wrap (o2.2.2+1)) | .inr z3=>some (.inr z3)) (some (.inl ()))
def s2q:=lpW _ _ s2h
theorem q28 x:s2q x=s2h s2q x:=zW q2s 428 Tryz.f428 2 30 x (by kernel_rfl)
def q8z (x:j60):Ht Bool:=(s2q (x.1,x.2,0)).bind fun r4=>match r4 with | .inl o5=>some false | .inr z6=>some z6
theorem o2i:s8n=q8z:=zC 428 rfl Tryz.func428 (by kernel_rfl)
def s9n(x:Z94):Ht Bool:=zK 433 x
def t8a(g:Z85→Ht r97)(x:Z85):Ht r97:=cond (decide (x.2.2<(x.1.length:Int))) (cond (y4q x.2.2 x.1.length) (((cond (!decide ((rdL u0a x.1 x.2.2.toNat).1=x.2.1.1)) (cond (decide ((rdL u0a x.1 x.2.2.toNat).2.1=2)) ((s8n ((rdL u0a x.1 x.2.2.toNat).2.2.2.2.2.1,x.2.1.2.2.2.2.2.1)).bind fun y1=>some y1) (cond (decide ((rdL u0a x.1 x.2.2.toNat).2.1=3)) (cond (decide ((rdL u0a x.1 x.2.2.toNat).2.2.2.1>x.2.1.2.2.1)) ((s8n ((rdL u0a x.1 x.2.2.toNat).2.2.2.2.2.1,x.2.1.2.2.2.2.2.1)).bind fun y2=>some y2) (some false)) (some false))) (some false)):Ht Bool).bind fun j3=>cond j3 (some (.inr true)) (g (x.1,x.2.1,IntKind.i64.wrap (x.2.2+1)))) none) (some (.inl ()))
def t2g:=lpW _ _ t8a
theorem r52 x:t2g x=t8a t2g x:=zW r40 433 Tryz.f433 2 46 x (by kernel_rfl)
def q1e (x:Z94):Ht Bool:=(t2g (x.2,x.1,0)).bind fun r4=>match r4 with | .inl o5=>some false | .inr z6=>some z6
theorem p5t:s9n=q1e:=zC 433 rfl Tryz.func433 (by kernel_rfl)
def r29(x:Z94):Ht Bool:=zK 435 x
def s46(g:Z85→Ht r97)(x:Z85):Ht r97:=cond (decide (x.2.2<(x.1.length:Int))) (((cond (y4q x.2.2 x.1.length) (cond (decide ((rdL u0a x.1 x.2.2.toNat).2.1=2)) (cond (y4q x.2.2 x.1.length) ((u3h (rdL u0a x.1 x.2.2.toNat,x.2.1)).bind fun y1=>some y1) none) (cond (y4q x.2.2 x.1.length) (cond (decide ((rdL u0a x.1 x.2.2.toNat).2.1=3)) (cond (y4q x.2.2 x.1.length) ((u3h (rdL u0a x.1 x.2.2.toNat,x.2.1)).bind fun y2=>some y2) none) (some false)) none)) none):Ht Bool).bind fun j3=>cond j3 (some (.inr true)) (g (x.1,x.2.1,IntKind.i64.wrap (x.2.2+1)))) (some (.inl ()))
def s0n:=lpW _ _ s46
theorem q6u x:s0n x=s46 s0n x:=zW q6a 435 Tryz.f435 2 34 x (by kernel_rfl)
def p15 (x:Z94):Ht Bool:=(s0n (x.2,x.1,0)).bind fun r4=>match r4 with | .inl o5=>some false | .inr z6=>some z6
theorem o4v:r29=p15:=zC 435 rfl Tryz.func435 (by kernel_rfl)
def s5e(x:Z94):Ht Bool:=zK 434 x
def t15(g:Z29→Ht (Z85⊕Bool))(x:Z29):Ht (Z85⊕Bool):=((cond (decide (x.2.2.2.2<(x.1.length:Int))) (cond (decide (x.2.2.2.1.2.1=2)) ((u3h (x.2.2.2.1,x.2.1)).bind fun y10=>some y10) (some false)) (some false)):Ht Bool).bind fun j11=>cond j11 (cond (y4q x.2.2.2.2 x.1.length) (((cond (decide ((rdL u0a x.1 x.2.2.2.2.toNat).2.1=2)) (cond (!decide ((rdL u0a x.1 x.2.2.2.2.toNat).1=x.2.1.1)) ((u3h (rdL u0a x.1 x.2.2.2.2.toNat,x.2.2.2.1)).bind fun y12=>some y12) (some false)) (some false)):Ht Bool).bind fun j13=>cond j13 (some (.inr true)) (g (x.1,x.2.1,x.2.2.1,x.2.2.2.1,IntKind.i64.wrap (x.2.2.2.2+1)))) none) (some (.inl (x.1,x.2.1,x.2.2.1)))
def u8i:=lpW _ _ t15
theorem s4i x:u8i x=t15 u8i x:=zW r41 434 Tryz.f434 12 92 x (by kernel_rfl)
def s0c(g:Z85→Ht r97)(x:Z85):Ht r97:=cond (decide (x.2.2<(x.1.length:Int))) (cond (y4q x.2.2 x.1.length) (((cond (decide ((rdL u0a x.1 x.2.2.toNat).2.1=2)) (cond (rdL u0a x.1 x.2.2.toNat).2.2.2.2.2.2.1 ((u3h (x.2.1,rdL u0a x.1 x.2.2.toNat)).bind fun y4=>some y4) (some false)) (cond (decide ((rdL u0a x.1 x.2.2.toNat).2.1=3)) (cond (rdL u0a x.1 x.2.2.toNat).2.2.2.2.2.2.1 ((u3h (x.2.1,rdL u0a x.1 x.2.2.toNat)).bind fun y5=>some y5) (some false)) (some false))):Ht Bool).bind fun j6=>cond j6 (some (.inr true)) (((cond (decide ((rdL u0a x.1 x.2.2.toNat).2.1=2)) ((u3h (rdL u0a x.1 x.2.2.toNat,x.2.1)).bind fun y7=>cond y7 ((u3h (x.2.1,rdL u0a x.1 x.2.2.toNat)).bind fun y8=>some y8) (some false)) (some false)):Ht Bool).bind fun j9=>cond j9 (some (.inr true)) ((u8i (x.1,x.2.1,x.2.2,rdL u0a x.1 x.2.2.toNat,0)).bind fun r14=>match r14 with | .inl o15=>g (o15.1,o15.2.1,IntKind.i64.wrap (o15.2.2+1)) | .inr z16=>some (.inr z16)))) none) (some (.inl ()))
def t4s:=lpW _ _ s0c
theorem r9o x:t4s x=s0c t4s x:=zW r8n 434 Tryz.f434 4 92 x (by kernel_rfl)
def q43 (x:Z94):Ht Bool:=(((r29 x).bind fun y1=>cond y1 ((s3s x).bind fun y2=>some y2) (some false)):Ht Bool).bind fun j3=>cond j3 (some true) ((t4s (x.2,x.1,0)).bind fun r17=>match r17 with | .inl o18=>some false | .inr z19=>some z19)
theorem p9o:s5e=q43:=zC 434 rfl Tryz.func434 (by kernel_rfl)
def s8l(x:Z68):Ht Int:=zK 407 x
def q8v (x:Z68):Ht Int:=(u7o x).bind fun y1=>cond (decide (y1<0)) (some (1:Int)) ((t6u x.1.1).bind fun y2=>cond (y4q y1 x.1.2.length) ((s9n (rdL u0a x.1.2 y1.toNat,y2)).bind fun y3=>cond y3 (some (4:Int)) (cond (y4q y1 x.1.2.length) ((s5e (rdL u0a x.1.2 y1.toNat,y2)).bind fun y4=>cond y4 (some (5:Int)) ((s3c x.1.1).bind fun y5=>cond y5 (some (3:Int)) (some (0:Int)))) none)) none)
theorem o2e:s8l=q8v:=zC 407 rfl Tryz.func407 (by kernel_rfl)
def r27(x:Z68):Ht Z13:=zK 361 x
def q42 (x:Z68):Ht Z13:=(u0o x.1).bind fun y1=>(s8l x).bind fun y2=>cond (decide (y2=1)) (some (y1,(0,(0,0,0,0,([]:Hu p4x.den),([]:Hu u2l.den),false,(⟨#[]⟩:Hs)),(⟨#[]⟩:Hs),false,([]:Hu u0h.den),([]:Hu u0a.den),([]:Hu u0a.den),0,0),y2)) (cond (!decide (y2=0)) ((u1f (y1,x.2)).bind fun y3=>some (y3,(0,(0,0,0,0,([]:Hu p4x.den),([]:Hu u2l.den),false,(⟨#[]⟩:Hs)),(⟨#[]⟩:Hs),false,([]:Hu u0h.den),([]:Hu u0a.den),([]:Hu u0a.den),0,0),y2)) ((u7o x).bind fun y4=>cond (y4q y4 x.1.2.length) ((u7w (x.1.1,rdL u0a x.1.2 y4.toNat)).bind fun y5=>cond (y4q (IntKind.i64.wrap ((y5.2.1.length:Int) - (1:Int))) y5.2.1.length) ((u1h (rdL u0a y5.2.1 (IntKind.i64.wrap ((y5.2.1.length:Int) - (1:Int))).toNat)).bind fun y6=>(u1f ((y5,y1.2),x.2)).bind fun y7=>some (y7,(1,y6,(⟨#[]⟩:Hs),false,([]:Hu u0h.den),([]:Hu u0a.den),([]:Hu u0a.den),0,0),0)) none) none))
theorem p9n:r27=q42:=zC 361 rfl Tryz.func361 (by kernel_rfl)
def s4e(x:o5z):Ht s91:=zK 413 x
def r4b (x:o5z):Ht s91:=(((s8m x.1).bind fun y1=>cond (!y1) (some true) ((u0t (x.2.1,0,1)).bind fun y2=>some (!y2))):Ht Bool).bind fun j3=>cond j3 ((u1g x.1).bind fun y4=>some (y4,false)) ((s5g x).bind fun y5=>cond (!y5.2) ((u1g x.1).bind fun y6=>some (y6,false)) (some (y5.1,true)))
theorem p0v:s4e=r4b:=zC 413 rfl Tryz.func413 (by kernel_rfl)
def t9b(x:j6u):Ht s91:=zK 376 x
def r35 (x:j6u):Ht s91:=(t5c x.1).bind fun y1=>(s4e (x.1,y1,x.2)).bind fun y2=>some y2
theorem p0p:t9b=r35:=zC 376 rfl Tryz.func376 (by kernel_rfl)
def t7q(x:Z9):Ht Z43:=zK 362 x
def q2f (x:Z9):Ht Z43:=(u37 x.2).bind fun y1=>cond (!y1.2) (some (false,x.1)) ((t9b (x.1.2,y1.1)).bind fun y2=>cond (!y2.2) ((s1k x.1.2).bind fun y3=>cond (!y3.2) (some (false,x.1)) ((t9b (y3.1,y1.1)).bind fun y4=>cond y4.2 (some (y4.2,x.1.1,y4.1)) (some (y4.2,x.1)))) (cond y2.2 (some (y2.2,x.1.1,y2.1)) (some (y2.2,x.1))))
theorem p6t:t7q=q2f:=zC 362 rfl Tryz.func362 (by kernel_rfl)
def u8v(x:Z46):Ht Z45:=zK 274 x
def r4g (x:Z46):Ht Z45:=(r27 (x.1.1,x.2)).bind fun y1=>cond (decide (y1.2.2=0)) ((t7q (x.1,y1.2.1)).bind fun y2=>cond (!y2.1) ((u0o y2.2.1).bind fun y3=>(u1f (y3,x.2)).bind fun y4=>some (3,y4,y2.2.2)) (some (y1.2.2,y1.1,y2.2.2))) (some (y1.2.2,y1.1,x.1.2))
theorem p00:u8v=r4g:=zC 274 rfl Tryz.func274 (by kernel_rfl)
def s1c(x:Z94):Ht Bool:=zK 408 x
def u8z(g:Z27→Ht (Z74⊕Bool))(x:Z27):Ht (Z74⊕Bool):=cond (decide (x.2.2.2.2.2<(x.1.length:Int))) (((cond (y4q x.2.2.2.2.2 x.1.length) (cond (decide ((rdL u0a x.1 x.2.2.2.2.2.toNat).2.1=2)) (cond (y4q x.2.2.2.2.2 x.1.length) (cond (!decide ((rdL u0a x.1 x.2.2.2.2.2.toNat).1=x.2.1.1)) (cond (y4q x.2.2.2.2.2 x.1.length) ((u3h (x.2.2.2.2.1,rdL u0a x.1 x.2.2.2.2.2.toNat)).bind fun y5=>some y5) none) (some false)) none) (some false)) none):Ht Bool).bind fun j6=>cond j6 (some (.inr true)) (g (x.1,x.2.1,x.2.2.1,x.2.2.2.1,x.2.2.2.2.1,IntKind.i64.wrap (x.2.2.2.2.2+1)))) (some (.inl (x.1,x.2.1,x.2.2.1,x.2.2.2.1)))
def u6l:=lpW _ _ u8z
theorem s3x x:u6l x=u8z u6l x:=zW s3n 408 Tryz.f408 12 65 x (by kernel_rfl)
def u9p(g:Z74→Ht r97)(x:Z74):Ht r97:=cond (decide (x.2.2.2<(x.1.length:Int))) (cond (y4q x.2.2.2 x.1.length) (((cond (!decide ((rdL u0a x.1 x.2.2.2.toNat).2.1=2)) (some true) ((u3h (x.2.1,rdL u0a x.1 x.2.2.2.toNat)).bind fun y3=>some (!y3))):Ht Bool).bind fun j4=>cond j4 (g (x.1,x.2.1,x.2.2.1,IntKind.i64.wrap (x.2.2.2+1))) (cond x.2.2.1 (some (.inr true)) ((u6l (x.1,x.2.1,x.2.2.1,x.2.2.2,rdL u0a x.1 x.2.2.2.toNat,0)).bind fun r7=>match r7 with | .inl o8=>g (o8.1,o8.2.1,o8.2.2.1,IntKind.i64.wrap (o8.2.2.2+1)) | .inr z9=>some (.inr z9)))) none) (some (.inl ()))
def u7f:=lpW _ _ u9p
theorem s44 x:u7f x=u9p u7f x:=zW s4u 408 Tryz.f408 5 65 x (by kernel_rfl)
def s7w (x:Z94):Ht Bool:=(s5e x).bind fun y1=>cond y1 (some true) ((r29 x).bind fun y2=>(u7f (x.2,x.1,y2,0)).bind fun r10=>match r10 with | .inl o11=>some false | .inr z12=>some z12)
theorem q52:s1c=s7w:=zC 408 rfl Tryz.func408 (by kernel_rfl)
def s9p(x:Z56):Ht Z13:=zK 364 x
def q1l (x:Z56):Ht Z13:=(u0o x.1).bind fun y1=>(u7o (x.1,x.2.1)).bind fun y2=>cond (decide (y2<0)) (some (y1,(0,(0,0,0,0,([]:Hu p4x.den),([]:Hu u2l.den),false,(⟨#[]⟩:Hs)),(⟨#[]⟩:Hs),false,([]:Hu u0h.den),([]:Hu u0a.den),([]:Hu u0a.den),0,0),1)) ((u7v x.2.2).bind fun y3=>cond (!y3) (some (y1,(0,(0,0,0,0,([]:Hu p4x.den),([]:Hu u2l.den),false,(⟨#[]⟩:Hs)),(⟨#[]⟩:Hs),false,([]:Hu u0h.den),([]:Hu u0a.den),([]:Hu u0a.den),0,0),2)) ((u2p (x.1.1,x.2.2)).bind fun y4=>cond (decide (y4≥0)) (some (y1,(0,(0,0,0,0,([]:Hu p4x.den),([]:Hu u2l.den),false,(⟨#[]⟩:Hs)),(⟨#[]⟩:Hs),false,([]:Hu u0h.den),([]:Hu u0a.den),([]:Hu u0a.den),0,0),6)) ((s8l (x.1,x.2.1)).bind fun y5=>((cond (decide (y5=0)) (cond (y4q y2 x.1.2.length) ((t6u x.1.1).bind fun y6=>(s1c (rdL u0a x.1.2 y2.toNat,y6)).bind fun y7=>some y7) none) (some false)):Ht Bool).bind fun j8=>cond j8 (((cond (decide ((5:Int)=(0:Int))) (some (decide ((x.1.1.2.2.1.length:Int)≥(3:Int)))) (some false)):Ht Bool).bind fun j9=>cond j9 (cond (!decide ((3:Int)=(0:Int))) ((u1f (y1,x.2.1)).bind fun y10=>some (y10,(0,(0,0,0,0,([]:Hu p4x.den),([]:Hu u2l.den),false,(⟨#[]⟩:Hs)),(⟨#[]⟩:Hs),false,([]:Hu u0h.den),([]:Hu u0a.den),([]:Hu u0a.den),0,0),3)) (cond (y4q y2 x.1.2.length) ((u7c (x.1.1,rdL u0a x.1.2 y2.toNat,x.2.2)).bind fun y11=>(u2p (y11,x.2.2)).bind fun y12=>cond (y4q y12 y11.2.2.1.length) ((u1h (rdL u0a y11.2.2.1 y12.toNat)).bind fun y13=>(u1f ((y11,y1.2),x.2.1)).bind fun y14=>some (y14,(2,y13,(⟨#[]⟩:Hs),false,([]:Hu u0h.den),([]:Hu u0a.den),([]:Hu u0a.den),0,0),0)) none) none)) (cond (!decide ((5:Int)=(0:Int))) ((u1f (y1,x.2.1)).bind fun y15=>some (y15,(0,(0,0,0,0,([]:Hu p4x.den),([]:Hu u2l.den),false,(⟨#[]⟩:Hs)),(⟨#[]⟩:Hs),false,([]:Hu u0h.den),([]:Hu u0a.den),([]:Hu u0a.den),0,0),5)) (cond (y4q y2 x.1.2.length) ((u7c (x.1.1,rdL u0a x.1.2 y2.toNat,x.2.2)).bind fun y16=>(u2p (y16,x.2.2)).bind fun y17=>cond (y4q y17 y16.2.2.1.length) ((u1h (rdL u0a y16.2.2.1 y17.toNat)).bind fun y18=>(u1f ((y16,y1.2),x.2.1)).bind fun y19=>some (y19,(2,y18,(⟨#[]⟩:Hs),false,([]:Hu u0h.den),([]:Hu u0a.den),([]:Hu u0a.den),0,0),0)) none) none))) (((cond (decide (y5=0)) (some (decide ((x.1.1.2.2.1.length:Int)≥(3:Int)))) (some false)):Ht Bool).bind fun j20=>cond j20 (cond (!decide ((3:Int)=(0:Int))) ((u1f (y1,x.2.1)).bind fun y21=>some (y21,(0,(0,0,0,0,([]:Hu p4x.den),([]:Hu u2l.den),false,(⟨#[]⟩:Hs)),(⟨#[]⟩:Hs),false,([]:Hu u0h.den),([]:Hu u0a.den),([]:Hu u0a.den),0,0),3)) (cond (y4q y2 x.1.2.length) ((u7c (x.1.1,rdL u0a x.1.2 y2.toNat,x.2.2)).bind fun y22=>(u2p (y22,x.2.2)).bind fun y23=>cond (y4q y23 y22.2.2.1.length) ((u1h (rdL u0a y22.2.2.1 y23.toNat)).bind fun y24=>(u1f ((y22,y1.2),x.2.1)).bind fun y25=>some (y25,(2,y24,(⟨#[]⟩:Hs),false,([]:Hu u0h.den),([]:Hu u0a.den),([]:Hu u0a.den),0,0),0)) none) none)) (cond (!decide (y5=0)) ((u1f (y1,x.2.1)).bind fun y26=>some (y26,(0,(0,0,0,0,([]:Hu p4x.den),([]:Hu u2l.den),false,(⟨#[]⟩:Hs)),(⟨#[]⟩:Hs),false,([]:Hu u0h.den),([]:Hu u0a.den),([]:Hu u0a.den),0,0),y5)) (cond (y4q y2 x.1.2.length) ((u7c (x.1.1,rdL u0a x.1.2 y2.toNat,x.2.2)).bind fun y27=>(u2p (y27,x.2.2)).bind fun y28=>cond (y4q y28 y27.2.2.1.length) ((u1h (rdL u0a y27.2.2.1 y28.toNat)).bind fun y29=>(u1f ((y27,y1.2),x.2.1)).bind fun y30=>some (y30,(2,y29,(⟨#[]⟩:Hs),false,([]:Hu u0h.den),([]:Hu u0a.den),([]:Hu u0a.den),0,0),0)) none) none))))))
theorem p50:s9p=q1l:=zC 364 rfl Tryz.func364 (by kernel_rfl)
def u73(x:Z39):Ht Z45:=zK 275 x
def r0m (x:Z39):Ht Z45:=(s9p (x.1.1,x.2)).bind fun y1=>cond (decide (y1.2.2=0)) ((t7q (x.1,y1.2.1)).bind fun y2=>cond (!y2.1) ((u0o y2.2.1).bind fun y3=>(u1f (y3,x.2.1)).bind fun y4=>some (3,y4,y2.2.2)) (some (y1.2.2,y1.1,y2.2.2))) (some (y1.2.2,y1.1,x.1.2))
theorem q7s:u73=r0m:=zC 275 rfl Tryz.func275 (by kernel_rfl)
def r28(x:Z55):Ht Z13:=zK 250 x
def q45 (x:Z55):Ht Z13:=(u0o x.1).bind fun y1=>(u2p (x.1.1,x.2.1)).bind fun y2=>cond (decide (y2<0)) (some (y1,(0,(0,0,0,0,([]:Hu p4x.den),([]:Hu u2l.den),false,(⟨#[]⟩:Hs)),(⟨#[]⟩:Hs),false,([]:Hu u0h.den),([]:Hu u0a.den),([]:Hu u0a.den),0,0),1)) (((cond x.2.2 ((s3c x.1.1).bind fun y3=>some y3) (some false)):Ht Bool).bind fun j4=>cond j4 (some (y1,(0,(0,0,0,0,([]:Hu p4x.den),([]:Hu u2l.den),false,(⟨#[]⟩:Hs)),(⟨#[]⟩:Hs),false,([]:Hu u0h.den),([]:Hu u0a.den),([]:Hu u0a.den),0,0),3)) (cond x.2.2 (cond (y4q y2 x.1.1.2.2.1.length) ((u7w (x.1.1,rdL u0a x.1.1.2.2.1 y2.toNat)).bind fun y5=>(t1v (y5,y1.2)).bind fun y6=>some ((y6,y1.2),(3,(0,0,0,0,([]:Hu p4x.den),([]:Hu u2l.den),false,(⟨#[]⟩:Hs)),x.2.1,x.2.2,([]:Hu u0h.den),([]:Hu u0a.den),([]:Hu u0a.den),0,0),0)) none) ((s24 (x.1.1,x.2.1)).bind fun y7=>(t1v (y7,y1.2)).bind fun y8=>some ((y8,y1.2),(3,(0,0,0,0,([]:Hu p4x.den),([]:Hu u2l.den),false,(⟨#[]⟩:Hs)),x.2.1,x.2.2,([]:Hu u0h.den),([]:Hu u0a.den),([]:Hu u0a.den),0,0),0))))
theorem p9q:r28=q45:=zC 250 rfl Tryz.func250 (by kernel_rfl)
def u8w(x:Z38):Ht Z45:=zK 276 x
def r4h (x:Z38):Ht Z45:=(r28 (x.1.1,x.2)).bind fun y1=>cond (decide (y1.2.2=0)) ((t7q (x.1,y1.2.1)).bind fun y2=>cond (!y2.1) (some (3,y2.2)) (some (y1.2.2,y1.1,y2.2.2))) (some (y1.2.2,y1.1,x.1.2))
theorem p01:u8w=r4h:=zC 276 rfl Tryz.func276 (by kernel_rfl)
def t90(x:Z68):Ht Z68:=zK 277 x
def q8x (x:Z68):Ht Z68:=(u0o x.1).bind fun y1=>(u7o x).bind fun y2=>cond (decide (y2<0)) (some (y1,1)) ((u1f (y1,x.2)).bind fun y3=>some (y3,0))
theorem o2g:t90=q8x:=zC 277 rfl Tryz.func277 (by kernel_rfl)
def s9z(x:Z34):Ht Z34:=zK 161 x
def q2g (x:Z34):Ht Z34:=cond (decide ((x.2.1.2.length:Int)>(0:Int))) ((u5a (x.1,(x.2.1.2.length:Int))).bind fun y1=>cond (y4q y1.1 x.2.1.2.length) ((u5a (y1.2,16)).bind fun y2=>((cond (decide ((rdL u0a x.2.1.2 y1.1.toNat).1=0)) (some true) (some (decide (y2.1<3)))):Ht Bool).bind fun j3=>cond j3 ((t05 x.2.1).bind fun y4=>some (y2.2,y4.1,x.2.2)) (cond (decide (y2.1<6)) ((u7p y2.2).bind fun y5=>(t6s (x.2.1,(rdL u0a x.2.1.2 y1.1.toNat).1,y5.1)).bind fun y6=>some (y5.2,y6.1,x.2.2)) (cond (decide (y2.1<7)) ((t0k y2.2).bind fun y7=>(t0h (x.2.1,(rdL u0a x.2.1.2 y1.1.toNat).1,y7.1)).bind fun y8=>some (y7.2,y8.1,x.2.2)) (cond (decide (y2.1<10)) ((t0l y2.2).bind fun y9=>(u88 (x.2.1,(rdL u0a x.2.1.2 y1.1.toNat).1,y9.1)).bind fun y10=>some (y9.2,y10.1,x.2.2)) (cond (decide (y2.1<13)) ((u8v (x.2,(rdL u0a x.2.1.2 y1.1.toNat).1)).bind fun y11=>some (y2.2,y11.2)) (cond (decide (y2.1=13)) ((u2q (y2.2,([(⟨#[112]⟩:Hs),(⟨#[113]⟩:Hs),(⟨#[114]⟩:Hs)]:Hu Hs))).bind fun y12=>(u73 (x.2,(rdL u0a x.2.1.2 y1.1.toNat).1,y12.1)).bind fun y13=>some (y12.2,y13.2)) (cond (decide (y2.1=14)) ((u2q (y2.2,([(⟨#[112]⟩:Hs),(⟨#[113]⟩:Hs),(⟨#[114]⟩:Hs)]:Hu Hs))).bind fun y14=>(u23 (y14.2,2)).bind fun y15=>(u8w (x.2,y14.1,y15.1)).bind fun y16=>some (y15.2,y16.2)) ((u23 (y2.2,3)).bind fun y17=>cond y17.1 ((t0f x.2).bind fun y18=>some (y17.2,y18.1)) ((t90 (x.2.1,(rdL u0a x.2.1.2 y1.1.toNat).1)).bind fun y19=>some (y17.2,y19.1,x.2.2)))))))))) none) ((u5a (x.1,16)).bind fun y20=>((cond (decide ((0:Int)=(0:Int))) (some true) (some (decide (y20.1<3)))):Ht Bool).bind fun j21=>cond j21 ((t05 x.2.1).bind fun y22=>some (y20.2,y22.1,x.2.2)) (cond (decide (y20.1<6)) ((u7p y20.2).bind fun y23=>(t6s (x.2.1,0,y23.1)).bind fun y24=>some (y23.2,y24.1,x.2.2)) (cond (decide (y20.1<7)) ((t0k y20.2).bind fun y25=>(t0h (x.2.1,0,y25.1)).bind fun y26=>some (y25.2,y26.1,x.2.2)) (cond (decide (y20.1<10)) ((t0l y20.2).bind fun y27=>(u88 (x.2.1,0,y27.1)).bind fun y28=>some (y27.2,y28.1,x.2.2)) (cond (decide (y20.1<13)) ((u8v (x.2,0)).bind fun y29=>some (y20.2,y29.2)) (cond (decide (y20.1=13)) ((u2q (y20.2,([(⟨#[112]⟩:Hs),(⟨#[113]⟩:Hs),(⟨#[114]⟩:Hs)]:Hu Hs))).bind fun y30=>(u73 (x.2,0,y30.1)).bind fun y31=>some (y30.2,y31.2)) (cond (decide (y20.1=14)) ((u2q (y20.2,([(⟨#[112]⟩:Hs),(⟨#[113]⟩:Hs),(⟨#[114]⟩:Hs)]:Hu Hs))).bind fun y32=>(u23 (y32.2,2)).bind fun y33=>(u8w (x.2,y32.1,y33.1)).bind fun y34=>some (y33.2,y34.2)) ((u23 (y20.2,3)).bind fun y35=>cond y35.1 ((t0f x.2).bind fun y36=>some (y35.2,y36.1)) ((t90 (x.2.1,0)).bind fun y37=>some (y35.2,y37.1,x.2.2))))))))))
theorem p6u:s9z=q2g:=zC 161 rfl Tryz.func161 (by kernel_rfl)
def s3d(x:j4z):Ht Z35:=zK 56 x
def s30(g:Z10→Ht (Z12⊕Unit))(x:Z10):Ht (Z12⊕Unit):=(u5a (x.1,x.2.1)).bind fun y2=>cond (decide (x.2.2.2.2<(IntKind.i64.wrap ((2:Int)+y2.1)))) ((s9z (y2.2,x.2.2.2.1)).bind fun y3=>g (y3.1,x.2.1,x.2.2.1,y3.2,IntKind.i64.wrap (x.2.2.2.2+1))) (some (.inl (y2.2,x.2.2.1,x.2.2.2.1)))
def t2t:=lpW _ _ s30
theorem p08 x:t2t x=s30 t2t x:=zW r5m 56 Tryz.f56 3 19 x (by kernel_rfl)
def q2h (x:j4z):Ht Z35:=(s6u ()).bind fun y1=>(t2t (x.1,x.2,(((([]:Hu u0h.den),([]:Hu u0a.den),([]:Hu u0a.den),0,0),([]:Hu u0a.den)),([]:Hu Hs),([]:Hu p7e.den)),y1,0)).bind fun r4=>match r4 with | .inl o5=>some (o5.2.2,o5.1) | .inr z6=>none
theorem p6v:s3d=q2h:=zC 56 rfl Tryz.func56 (by kernel_rfl)
def r3c(x:q4a):Ht o0u:=zK 57 x
def t4m(g:o0u→Ht ((q4a×Int)⊕Unit))(x:o0u):Ht ((q4a×Int)⊕Unit):=((cond (decide (x.2.2<(x.1.length:Int))) (some (decide (x.2.2<4000))) (some false)):Ht Bool).bind fun j1=>cond j1 (cond (y4q x.2.2 x.1.length) (g (x.1,IntKind.i64.wrap ((BitVec.ofInt IntKind.i64.bits (IntKind.i64.wrap ((IntKind.i64.wrap ((IntKind.i64.wrap (x.2.1*131))+(IntKind.i64.wrap (rdL (Ty.int .u8) x.1 x.2.2.toNat))))+7))&&&BitVec.ofInt IntKind.i64.bits (1073741823:Int)).toNat:Int),IntKind.i64.wrap (x.2.2+1))) none) (some (.inl (x.1,x.2.1)))
def t4v:=lpW _ _ t4m
theorem s7a x:t4v x=t4m t4v x:=zW r8t 57 Tryz.f57 3 32 x (by kernel_rfl)
def q5f (x:q4a):Ht o0u:=(t4v (x,IntKind.i64.wrap ((77601:Int)+(x.length:Int)),0)).bind fun r2=>match r2 with | .inl o3=>some (o3.1,0,o3.2) | .inr z4=>none
theorem p90:r3c=q5f:=zC 57 rfl Tryz.func57 (by kernel_rfl)
def s4c(x:q4a):Ht Z48:=zK 9 x
def r37 (x:q4a):Ht Z48:=(r3c x).bind fun y1=>(s3d (y1,24)).bind fun y2=>some y2.1
theorem p0r:s4c=r37:=zC 9 rfl Tryz.func9 (by kernel_rfl)
def u02(x:j40):Ht Bool:=zK 212 x
def q4z (x:j40):Ht Bool:=((cond (decide (x.1≥x.2.1)) (some (decide (x.1≤x.2.2))) (some false)):Ht Bool).bind fun j1=>some j1
theorem p9k:u02=q4z:=zC 212 rfl Tryz.func212 (by kernel_rfl)
def t29(x:Int):Ht s7c:=zK 231 x
def r3i(g:j27→Ht (j27⊕Unit))(x:j27):Ht (j27⊕Unit):=cond (decide (x.1>127)) (cond (Nat.ble (x.2.length+([(IntKind.u8.wrap (IntKind.i64.wrap ((Int.tmod x.1 (128:Int))+128)))]:Hu Int).length) z7w) (g (IntKind.i64.wrap (Int.tdiv x.1 (128:Int)),x.2++([(IntKind.u8.wrap (IntKind.i64.wrap ((Int.tmod x.1 (128:Int))+128)))]:Hu Int))) none) (some (.inl x))
def t8u:=lpW _ _ r3i
theorem p06 x:t8u x=r3i t8u x:=zW r4v 231 Tryz.f231 4 25 x (by kernel_rfl)
def q07 (x:Int):Ht s7c:=(u02 (x,0,1000000000)).bind fun y1=>cond (!y1) (some ((⟨#[]⟩:Hs),false)) ((t8u (x,([]:Hu Int))).bind fun r2=>match r2 with | .inl o3=>cond (Nat.ble (o3.2.length+([(IntKind.u8.wrap o3.1)]:Hu Int).length) z7w) (some (y7g (o3.2++([(IntKind.u8.wrap o3.1)]:Hu Int)),true)) none | .inr z4=>none)
theorem p5m:t29=q07:=zC 231 rfl Tryz.func231 (by kernel_rfl)
def t22(x:Hs):Ht s7c:=zK 209 x
def r3t (x:Hs):Ht s7c:=cond (decide ((x.size:Int)>(20000:Int))) (some ((⟨#[]⟩:Hs),false)) ((t29 (x.size:Int)).bind fun y1=>cond (decide (y1.1.size+x.size≤140737488355328)) (some (y1.1++x,true)) none)
theorem p0b:t22=r3t:=zC 209 rfl Tryz.func209 (by kernel_rfl)
def u7b(x:(q4a×p09)):Ht q4a:=zK 97 x
def t3r(g:d0s→Ht j24)(x:d0s):Ht j24:=cond (decide (x.2.2.2<x.2.2.1)) (cond (y4q x.2.2.2 x.2.1.length) ((t22 (rdL Ty.str x.2.1 x.2.2.2.toNat)).bind fun y1=>cond (Nat.ble (x.1.length+(z7t y1.1).length) z7w) (g (x.1++(z7t y1.1),x.2.1,x.2.2.1,IntKind.i64.wrap (x.2.2.2+1))) none) none) (some (.inl x.1))
def t33:=lpW _ _ t3r
theorem s8z x:t33 x=t3r t33 x:=zW s78 97 Tryz.f97 1 29 x (by kernel_rfl)
def r32 (x:(q4a×p09)):Ht q4a:=(t33 (x.1,x.2,(x.2.length:Int),0)).bind fun r2=>match r2 with | .inl o3=>some o3 | .inr z4=>none
theorem p0l:u7b=r32:=zC 97 rfl Tryz.func97 (by kernel_rfl)
def u8q(x:(q4a×Bool)):Ht q4a:=zK 98 x
def r31 (x:(q4a×Bool)):Ht q4a:=cond x.2 (cond (Nat.ble (x.1.length+([(1:Int)]:Hu Int).length) z7w) (some (x.1++([(1:Int)]:Hu Int))) none) (cond (Nat.ble (x.1.length+([(0:Int)]:Hu Int).length) z7w) (some (x.1++([(0:Int)]:Hu Int))) none)
theorem p0k:u8q=r31:=zC 98 rfl Tryz.func98 (by kernel_rfl)
def u6u(x:(q4a×q4a)):Ht q4a:=zK 116 x
def t5r(g:d0w→Ht j24)(x:d0w):Ht j24:=cond (decide (x.2.2.2<x.2.2.1)) (cond (y4q x.2.2.2 x.2.1.length) ((t29 (rdL (Ty.int .i64) x.2.1 x.2.2.2.toNat)).bind fun y1=>cond (Nat.ble (x.1.length+(z7t y1.1).length) z7w) (g (x.1++(z7t y1.1),x.2.1,x.2.2.1,IntKind.i64.wrap (x.2.2.2+1))) none) none) (some (.inl x.1))
def t6f:=lpW _ _ t5r
theorem r1y x:t6f x=t5r t6f x:=zW r03 116 Tryz.f116 1 29 x (by kernel_rfl)
def r7h (x:(q4a×q4a)):Ht q4a:=(t6f (x.1,x.2,(x.2.length:Int),0)).bind fun r2=>match r2 with | .inl o3=>some o3 | .inr z4=>none
theorem p20:u6u=r7h:=zC 116 rfl Tryz.func116 (by kernel_rfl)
def t03(x:Hs):Ht Bool:=zK 129 x
def s2c(g:o3z→Ht j7c)(x:o3z):Ht j7c:=cond (decide (x.2<(x.1.size:Int))) (((cond (y4q x.2 x.1.size) (cond (decide (((x.1.data.toList.getD x.2.toNat 0).toNat:Int)<(97:Int))) (some true) (cond (y4q x.2 x.1.size) (some (decide (((x.1.data.toList.getD x.2.toNat 0).toNat:Int)>(122:Int)))) none)) none):Ht Bool).bind fun j1=>cond j1 (some (.inr false)) (g (x.1,IntKind.i64.wrap (x.2+1)))) (some (.inl x.1))
def s2m:=lpW _ _ s2c
theorem q23 x:s2m x=s2c s2m x:=zW q2n 129 Tryz.f129 2 23 x (by kernel_rfl)
def q8l (x:Hs):Ht Bool:=(s2m (x,0)).bind fun r2=>match r2 with | .inl o3=>((u02 ((o3.size:Int),1,3)).bind fun y4=>some y4) | .inr z5=>some z5
theorem o1v:t03=q8l:=zC 129 rfl Tryz.func129 (by kernel_rfl)
def s9f(x:j22):Ht Bool:=zK 236 x
def q0y (x:j22):Ht Bool:=(((t03 x.1).bind fun y1=>cond y1 ((t03 x.2).bind fun y2=>cond y2 (some (y3c x.1 x.2||z7o x.1 x.2)) (some false)) (some false)):Ht Bool).bind fun j3=>some j3
theorem p5d:s9f=q0y:=zC 236 rfl Tryz.func236 (by kernel_rfl)
def s9j(x:j7e):Ht Bool:=zK 321 x
def q08 (x:j7e):Ht Bool:=(((t03 x.1).bind fun y1=>cond y1 (cond (decide ((x.2.1.size:Int)≤(12:Int))) (cond (!x.2.2) (some true) (some (z7o x.2.1 (⟨#[]⟩:Hs)))) (some false)) (some false)):Ht Bool).bind fun j2=>some j2
theorem p5n:s9j=q08:=zC 321 rfl Tryz.func321 (by kernel_rfl)
def s6k(x:o6t):Ht Bool:=zK 237 x
def t5p(g:j2n→Ht (o6t⊕Bool))(x:j2n):Ht (o6t⊕Bool):=cond (decide (x.2.2.2<x.2.2.1)) (cond (y4q x.2.2.2 x.2.1.length) ((((s9j (rdL u2l x.2.1 x.2.2.2.toNat)).bind fun y1=>cond (!y1) (some true) (cond (decide (x.2.2.2>0)) (cond (y4q (IntKind.i64.wrap (x.2.2.2 - 1)) x.1.length) (some (!y3c (rdL u2l x.1 (IntKind.i64.wrap (x.2.2.2 - 1)).toNat).1 (rdL u2l x.2.1 x.2.2.2.toNat).1)) none) (some false))):Ht Bool).bind fun j2=>cond j2 (some (.inr false)) (g (x.1,x.2.1,x.2.2.1,IntKind.i64.wrap (x.2.2.2+1)))) none) (some (.inl x.1))
def t6d:=lpW _ _ t5p
theorem r1w x:t6d x=t5p t6d x:=zW r01 237 Tryz.f237 2 34 x (by kernel_rfl)
def r7c (x:o6t):Ht Bool:=(t6d (x,x,(x.length:Int),0)).bind fun r3=>match r3 with | .inl o4=>some (decide ((o4.length:Int)≤(8:Int))) | .inr z5=>some z5
theorem p2v:s6k=r7c:=zC 237 rfl Tryz.func237 (by kernel_rfl)
def u85(x:t1m):Ht Bool:=zK 127 x
def s2f(g:j9b→Ht (t1m⊕Bool))(x:j9b):Ht (t1m⊕Bool):=cond (decide (x.2.2.2<x.2.2.1)) (cond (y4q x.2.2.2 x.2.1.length) ((s9f (rdL p4x x.2.1 x.2.2.2.toNat)).bind fun y1=>cond (!y1) (some (.inr false)) (g (x.1,x.2.1,x.2.2.1,IntKind.i64.wrap (x.2.2.2+1)))) none) (some (.inl x.1))
def s2o:=lpW _ _ s2f
theorem q26 x:s2o x=s2f s2o x:=zW q2q 127 Tryz.f127 2 93 x (by kernel_rfl)
def q8r (x:t1m):Ht Bool:=(s2o (x,x.2.2.2.2.1,(x.2.2.2.2.1.length:Int),0)).bind fun r2=>match r2 with | .inl o3=>((((u02 (o3.1,1,9999)).bind fun y4=>cond (!y4) (some true) ((u02 (o3.2.1,1,3)).bind fun y5=>cond (!y5) (some true) ((u02 (o3.2.2.1,0,9999)).bind fun y6=>cond (!y6) (some true) (cond (decide ((o3.2.2.2.2.1.length:Int)>(8:Int))) (some true) ((s6k o3.2.2.2.2.2.1).bind fun y7=>cond (!y7) (some true) (cond o3.2.2.2.2.2.2.1 (some (decide (o3.2.1=1))) (some false))))))):Ht Bool).bind fun j8=>cond j8 (some false) (((cond (decide (o3.2.1=3)) ((u02 (o3.2.2.2.1,IntKind.i64.wrap (o3.2.2.1+1),9999)).bind fun y9=>cond (!y9) (some true) (cond (!decide (o3.2.1=3)) (some (!decide (o3.2.2.2.1=0))) (some false))) (cond (!decide (o3.2.1=3)) (some (!decide (o3.2.2.2.1=0))) (some false))):Ht Bool).bind fun j10=>cond j10 (some false) (((cond (decide (o3.2.1=2)) ((t03 o3.2.2.2.2.2.2.2).bind fun y11=>cond y11 (some true) (cond (!decide (o3.2.1=2)) (some (z7o o3.2.2.2.2.2.2.2 (⟨#[]⟩:Hs))) (some false))) (cond (!decide (o3.2.1=2)) (some (z7o o3.2.2.2.2.2.2.2 (⟨#[]⟩:Hs))) (some false))):Ht Bool).bind fun j12=>some j12))) | .inr z13=>some z13
theorem o2a:u85=q8r:=zC 127 rfl Tryz.func127 (by kernel_rfl)
def t28(x:t1m):Ht s7c:=zK 99 x
def t75(g:Z84→Ht (j6l⊕Unit))(x:Z84):Ht (j6l⊕Unit):=cond (decide (x.2.2.2.2<x.2.2.2.1)) (cond (y4q x.2.2.2.2 x.2.2.1.length) ((u7b (x.2.1,([(rdL p4x x.2.2.1 x.2.2.2.2.toNat).1,(rdL p4x x.2.2.1 x.2.2.2.2.toNat).2]:Hu Hs))).bind fun y3=>g (x.1,y3,x.2.2.1,x.2.2.2.1,IntKind.i64.wrap (x.2.2.2.2+1))) none) (some (.inl (x.1,x.2.1)))
def t2d:=lpW _ _ t75
theorem r5x x:t2d x=t75 t2d x:=zW r4u 99 Tryz.f99 6 82 x (by kernel_rfl)
def t5o(g:Z82→Ht (j6l⊕Unit))(x:Z82):Ht (j6l⊕Unit):=cond (decide (x.2.2.2.2<x.2.2.2.1)) (cond (y4q x.2.2.2.2 x.2.2.1.length) ((u7b (x.2.1,([(rdL u2l x.2.2.1 x.2.2.2.2.toNat).1,(rdL u2l x.2.2.1 x.2.2.2.2.toNat).2.1]:Hu Hs))).bind fun y7=>(u8q (y7,(rdL u2l x.2.2.1 x.2.2.2.2.toNat).2.2)).bind fun y8=>g (x.1,y8,x.2.2.1,x.2.2.2.1,IntKind.i64.wrap (x.2.2.2.2+1))) none) (some (.inl (x.1,x.2.1)))
def u9x:=lpW _ _ t5o
theorem r1v x:u9x x=t5o u9x x:=zW r00 99 Tryz.f99 12 82 x (by kernel_rfl)
def q06 (x:t1m):Ht s7c:=(u85 x).bind fun y1=>cond (!y1) (some ((⟨#[]⟩:Hs),false)) ((u6u (([]:Hu Int),([x.1,x.2.1,x.2.2.1,x.2.2.2.1,(x.2.2.2.2.1.length:Int)]:Hu Int))).bind fun y2=>(t2d (x,y2,x.2.2.2.2.1,(x.2.2.2.2.1.length:Int),0)).bind fun r4=>match r4 with | .inl o5=>((u6u (o5.2,([(o5.1.2.2.2.2.2.1.length:Int)]:Hu Int))).bind fun y6=>(u9x (o5.1,y6,o5.1.2.2.2.2.2.1,(o5.1.2.2.2.2.2.1.length:Int),0)).bind fun r9=>match r9 with | .inl o10=>((u8q (o10.2,o10.1.2.2.2.2.2.2.1)).bind fun y11=>(u7b (y11,([o10.1.2.2.2.2.2.2.2]:Hu Hs))).bind fun y12=>some (y7g y12,true)) | .inr z13=>none) | .inr z14=>none)
theorem p5l:t28=q06:=zC 99 rfl Tryz.func99 (by kernel_rfl)
def u86(x:t1m):Ht Bool:=zK 91 x
def s0q (x:t1m):Ht Bool:=some (decide (x.2.1=3))
theorem s0t:u86=s0q:=zC 91 rfl Tryz.func91 (by kernel_rfl)
def u6i(x:t1m):Ht Bool:=zK 128 x
def p43 (x:t1m):Ht Bool:=some (decide (x.2.1=2))
theorem p5q:u6i=p43:=zC 128 rfl Tryz.func128 (by kernel_rfl)
def s07(x:Z51):Ht Bool:=zK 290 x
def q4v (x:Z51):Ht Bool:=some (decide (x.1.1=x.2.1))
theorem q5x:s07=q4v:=zC 290 rfl Tryz.func290 (by kernel_rfl)
def u4r(x:Z91):Ht Int:=zK 10005 x
def u3r(g:Z76→Ht q3f)(x:Z76):Ht q3f:=cond (decide (x.2.2.2<x.2.2.1)) (cond (y4q x.2.2.2 x.1.length) ((s07 (rdL u0a x.1 x.2.2.2.toNat,x.2.1)).bind fun y1=>cond y1 (some (.inr x.2.2.2)) (g (x.1,x.2.1,x.2.2.1,IntKind.i64.wrap (x.2.2.2+1)))) none) (some (.inl ()))
def u07:=lpW _ _ u3r
theorem u9l x:u07 x=u3r u07 x:=zW u3t 10005 Tryz.f287 2 19 x (by kernel_rfl)
def u4i (x:Z91):Ht Int:=(u07 (x.1,x.2,(x.1.length:Int),0)).bind fun r2=>match r2 with | .inl o3=>some (- 1:Int) | .inr z4=>some z4
theorem t0t:u4r=u4i:=zC 10005 rfl Tryz.func287 (by kernel_rfl)
def u3n(x:Z91):Ht Bool:=zK 10004 x
def u3j (x:Z91):Ht Bool:=(u4r x).bind fun y1=>some (decide (y1≥0))
theorem u9b:u3n=u3j:=zC 10004 rfl Tryz.func204 (by kernel_rfl)
def u7m(x:Z91):Ht Bool:=zK 10003 x
def t37 (x:Z91):Ht Bool:=(u3n x).bind fun y1=>some y1
theorem s47:u7m=t37:=zC 10003 rfl Tryz.func93 (by kernel_rfl)
def t24(x:o4i):Ht Bool:=zK 170 x
def t3q(g:j9m→Ht r97)(x:j9m):Ht r97:=cond (decide (x.2.2.2.2<x.2.2.2.1)) (cond (y4q x.2.2.2.2 x.2.2.1.length) (cond (decide ((rdL u0a x.2.2.1 x.2.2.2.2.toNat).1≥x.2.1)) (some (.inr false)) (cond (decide (0≤(0:Int))&&decide ((0:Int)≤x.2.2.2.2)&&decide (x.2.2.2.2≤(x.1.length:Int))) ((u7m ((x.1.take x.2.2.2.2.toNat).drop (0:Int).toNat,rdL u0a x.2.2.1 x.2.2.2.2.toNat)).bind fun y1=>cond y1 (some (.inr false)) (g (x.1,x.2.1,x.2.2.1,x.2.2.2.1,IntKind.i64.wrap (x.2.2.2.2+1)))) none)) none) (some (.inl ()))
def t32:=lpW _ _ t3q
theorem s8y x:t32 x=t3q t32 x:=zW s77 170 Tryz.f170 2 26 x (by kernel_rfl)
def r30 (x:o4i):Ht Bool:=(t32 (x.1,x.2,x.1,(x.1.length:Int),0)).bind fun r2=>match r2 with | .inl o3=>some true | .inr z4=>some z4
theorem p0j:t24=r30:=zC 170 rfl Tryz.func170 (by kernel_rfl)
def t3j(x:(Unit×Int)):Ht q3e:=zK 291 x
def s1q (x:(Unit×Int)):Ht q3e:=cond (decide (x.2<0)) none (cond (decide ((IntKind.i64.wrap (x.2 - (IntKind.i64.wrap ((0:Int) - (0:Int)))))>0)) (cond (decide (0≤(0:Int))&&decide ((0:Int)≤(0:Int))&&decide ((0:Int)≤0)) (cond (decide (1≤(IntKind.i64.wrap (x.2 - (IntKind.i64.wrap ((0:Int) - (0:Int))))))&&decide ((IntKind.i64.wrap (x.2 - (IntKind.i64.wrap ((0:Int) - (0:Int)))))≤1099511627776)) (cond (decide (0≤(0:Int))&&decide ((0:Int)≤(0:Int))&&decide ((0:Int)≤((List.replicate (IntKind.i64.wrap (x.2 - (IntKind.i64.wrap ((0:Int) - (0:Int))))).toNat u0a.zero).length:Int))) (some ((List.replicate (IntKind.i64.wrap (x.2 - (IntKind.i64.wrap ((0:Int) - (0:Int))))).toNat u0a.zero).take ((0:Int).toNat - (0:Int).toNat))) none) none) none) (some ([]:Hu u0a.den)))
theorem r6q:t3j=s1q:=zC 291 rfl Tryz.func291 (by kernel_rfl)
def u2x(x:j2q):Ht q3e:=zK 171 x
def u5t(g:j9g→Ht (d0r⊕Unit))(x:j9g):Ht (d0r⊕Unit):=cond (decide (x.2.2.2.2<x.2.2.2.1)) (cond (y4q x.2.2.2.2 x.2.2.1.length) (cond (decide ((IntKind.i64.wrap (x.2.1+((rdL (Ty.sl u0a) x.2.2.1 x.2.2.2.2.toNat).length:Int)))<0)) none (g (x.1,IntKind.i64.wrap (x.2.1+((rdL (Ty.sl u0a) x.2.2.1 x.2.2.2.2.toNat).length:Int)),x.2.2.1,x.2.2.2.1,IntKind.i64.wrap (x.2.2.2.2+1)))) none) (some (.inl (x.1,x.2.1)))
def u3a:=lpW _ _ u5t
theorem t63 x:u3a x=u5t u3a x:=zW t6z 171 Tryz.f171 3 36 x (by kernel_rfl)
def u4s(g:j9n→Ht j4v)(x:j9n):Ht j4v:=cond (decide (x.2.2.2<x.2.2.1)) (cond (y4q x.2.2.2 x.2.1.length) (cond (Nat.ble (x.1.length+(rdL (Ty.sl u0a) x.2.1 x.2.2.2.toNat).length) z7w) (g (x.1++(rdL (Ty.sl u0a) x.2.1 x.2.2.2.toNat),x.2.1,x.2.2.1,IntKind.i64.wrap (x.2.2.2+1))) none) none) (some (.inl x.1))
def u2z:=lpW _ _ u4s
theorem t5f x:u2z x=u4s u2z x:=zW t47 171 Tryz.f171 11 36 x (by kernel_rfl)
def t9t (x:j2q):Ht q3e:=(u3a (x,0,x,(x.length:Int),0)).bind fun r1=>match r1 with | .inl o2=>((t3j ((),o2.2)).bind fun y3=>(u2z (y3,o2.1,(o2.1.length:Int),0)).bind fun r4=>match r4 with | .inl o5=>some o5 | .inr z6=>none) | .inr z7=>none
theorem r0p:u2x=t9t:=zC 171 rfl Tryz.func171 (by kernel_rfl)
def t4a(x:Hs):Ht Bool:=zK 380 x
def s7o (x:Hs):Ht Bool:=some (!z7o x x)
theorem q5t:t4a=s7o:=zC 380 rfl Tryz.func380 (by kernel_rfl)
def t68(x:j22):Ht Int:=zK 308 x
def s4l (x:j22):Ht Int:=(t4a x.1).bind fun y1=>(t4a x.2).bind fun y2=>cond y1 (cond y2 (some (0:Int)) (some (- 1:Int))) (cond y2 (some (1:Int)) (cond (y3c x.1 x.2) (some (- 1:Int)) (cond (!(y3c x.1 x.2||z7o x.1 x.2)) (some (1:Int)) (some (0:Int)))))
theorem r99:t68=s4l:=zC 308 rfl Tryz.func308 (by kernel_rfl)
def s0x(x:Int):Ht Bool:=zK 381 x
def r6x (x:Int):Ht Bool:=some (!decide (x=x))
theorem p2f:s0x=r6x:=zC 381 rfl Tryz.func381 (by kernel_rfl)
def s1x(x:j4c):Ht Int:=zK 309 x
def s92 (x:j4c):Ht Int:=(s0x x.1).bind fun y1=>(s0x x.2).bind fun y2=>cond y1 (cond y2 (some (0:Int)) (some (- 1:Int))) (cond y2 (some (1:Int)) (cond (decide (x.1<x.2)) (some (- 1:Int)) (cond (decide (x.1>x.2)) (some (1:Int)) (some (0:Int)))))
theorem q68:s1x=s92:=zC 309 rfl Tryz.func309 (by kernel_rfl)
def u6t(x:j6m):Ht Int:=zK 199 x
def t4x (x:j6m):Ht Int:=(t68 (x.1.1,x.2.1)).bind fun y1=>cond (!decide (y1=0)) (some y1) ((s1x (x.1.2.2.2,x.2.2.2.2)).bind fun y2=>some y2)
theorem s3k:u6t=t4x:=zC 199 rfl Tryz.func199 (by kernel_rfl)
def s11(x:q0i):Ht Bool:=zK 230 x
def t1a(g:j6r→Ht (q0i⊕Bool))(x:j6r):Ht (q0i⊕Bool):=cond (decide (x.2.2.2<x.2.2.1)) (cond (y4q x.2.2.2 x.2.1.length) ((((t03 (rdL u0h x.2.1 x.2.2.2.toNat).1).bind fun y1=>cond (!y1) (some true) (cond (decide (((rdL u0h x.2.1 x.2.2.2.toNat).2.1.size:Int)>(12:Int))) (some true) (cond (rdL u0h x.2.1 x.2.2.2.toNat).2.2.1 (cond (!z7o (rdL u0h x.2.1 x.2.2.2.toNat).2.1 (⟨#[]⟩:Hs)) (some true) ((u02 ((rdL u0h x.2.1 x.2.2.2.toNat).2.2.2,1,9999)).bind fun y2=>cond (!y2) (some true) (cond (decide (x.2.2.2>0)) (cond (y4q (IntKind.i64.wrap (x.2.2.2 - 1)) x.1.length) ((u6t (rdL u0h x.1 (IntKind.i64.wrap (x.2.2.2 - 1)).toNat,rdL u0h x.2.1 x.2.2.2.toNat)).bind fun y3=>some (decide (y3≥0))) none) (some false)))) ((u02 ((rdL u0h x.2.1 x.2.2.2.toNat).2.2.2,1,9999)).bind fun y4=>cond (!y4) (some true) (cond (decide (x.2.2.2>0)) (cond (y4q (IntKind.i64.wrap (x.2.2.2 - 1)) x.1.length) ((u6t (rdL u0h x.1 (IntKind.i64.wrap (x.2.2.2 - 1)).toNat,rdL u0h x.2.1 x.2.2.2.toNat)).bind fun y5=>some (decide (y5≥0))) none) (some false)))))):Ht Bool).bind fun j6=>cond j6 (some (.inr false)) (g (x.1,x.2.1,x.2.2.1,IntKind.i64.wrap (x.2.2.2+1)))) none) (some (.inl x.1))
def t1h:=lpW _ _ t1a
theorem s65 x:t1h x=t1a t1h x:=zW s55 230 Tryz.f230 2 55 x (by kernel_rfl)
def r0a (x:q0i):Ht Bool:=(t1h (x,x,(x.length:Int),0)).bind fun r7=>match r7 with | .inl o8=>some (decide ((o8.length:Int)≤(120:Int))) | .inr z9=>some z9
theorem q7g:s11=r0a:=zC 230 rfl Tryz.func230 (by kernel_rfl)
def u27(x:u74):Ht Bool:=zK 115 x
def t95(g:Z71→Ht j25)(x:Z71):Ht j25:=cond (decide (x.2.2.2<x.2.2.1)) (cond (y4q x.2.2.2 x.2.1.length) (cond (decide ((rdL u0h x.2.1 x.2.2.2.toNat).2.2.2>x.1.2.2.2.1)) (some (.inr false)) (g (x.1,x.2.1,x.2.2.1,IntKind.i64.wrap (x.2.2.2+1)))) none) (some (.inl x.1))
def t4p:=lpW _ _ t95
theorem r9h x:t4p x=t95 t4p x:=zW r8g 115 Tryz.f115 4 139 x (by kernel_rfl)
def t7v(g:Z59→Ht j25)(x:Z59):Ht j25:=cond (decide (x.2.2.2<x.2.2.1)) (cond (y4q x.2.2.2 x.2.1.length) ((((u85 (rdL u0a x.2.1 x.2.2.2.toNat)).bind fun y7=>cond (!y7) (some true) ((u86 (rdL u0a x.2.1 x.2.2.2.toNat)).bind fun y8=>cond (!y8) (some true) (cond (decide ((rdL u0a x.2.1 x.2.2.2.toNat).2.2.2.1>x.1.2.2.2.1)) (some true) (cond (decide (x.2.2.2>0)) (cond (y4q (IntKind.i64.wrap (x.2.2.2 - 1)) x.1.2.1.length) (some (decide ((rdL u0a x.1.2.1 (IntKind.i64.wrap (x.2.2.2 - 1)).toNat).2.2.2.1≥(rdL u0a x.2.1 x.2.2.2.toNat).2.2.2.1))) none) (some false))))):Ht Bool).bind fun j9=>cond j9 (some (.inr false)) (g (x.1,x.2.1,x.2.2.1,IntKind.i64.wrap (x.2.2.2+1)))) none) (some (.inl x.1))
def t18:=lpW _ _ t7v
theorem r5n x:t18 x=t7v t18 x:=zW r4j 115 Tryz.f115 10 139 x (by kernel_rfl)
def t7w(g:Z59→Ht j25)(x:Z59):Ht j25:=cond (decide (x.2.2.2<x.2.2.1)) (cond (y4q x.2.2.2 x.2.1.length) ((((u85 (rdL u0a x.2.1 x.2.2.2.toNat)).bind fun y12=>cond (!y12) (some true) ((u6i (rdL u0a x.2.1 x.2.2.2.toNat)).bind fun y13=>cond (!y13) (some true) (cond (decide ((rdL u0a x.2.1 x.2.2.2.toNat).2.2.1>x.1.2.2.2.1)) (some true) (cond (decide (x.2.2.2>0)) (cond (y4q (IntKind.i64.wrap (x.2.2.2 - 1)) x.1.2.2.1.length) (some (!y3c (rdL u0a x.1.2.2.1 (IntKind.i64.wrap (x.2.2.2 - 1)).toNat).2.2.2.2.2.2.2 (rdL u0a x.2.1 x.2.2.2.toNat).2.2.2.2.2.2.2)) none) (some false))))):Ht Bool).bind fun j14=>cond j14 (some (.inr false)) (g (x.1,x.2.1,x.2.2.1,IntKind.i64.wrap (x.2.2.2+1)))) none) (some (.inl x.1))
def t19:=lpW _ _ t7w
theorem r5o x:t19 x=t7w t19 x:=zW r4k 115 Tryz.f115 16 139 x (by kernel_rfl)
def q4j (x:u74):Ht Bool:=(((s11 x.1).bind fun y1=>cond (!y1) (some true) (cond (decide ((x.2.1.length:Int)>(12:Int))) (some true) (cond (decide ((x.2.2.1.length:Int)>(3:Int))) (some true) ((u02 (x.2.2.2.1,0,9999)).bind fun y2=>cond (!y2) (some true) ((u02 (x.2.2.2.2,1,9999)).bind fun y3=>some (!y3)))))):Ht Bool).bind fun j4=>cond j4 (some false) ((t4p (x,x.1,(x.1.length:Int),0)).bind fun r5=>match r5 with | .inl o6=>((t18 (o6,o6.2.1,(o6.2.1.length:Int),0)).bind fun r10=>match r10 with | .inl o11=>((t19 (o11,o11.2.2.1,(o11.2.2.1.length:Int),0)).bind fun r15=>match r15 with | .inl o16=>((u2x ([o16.2.1,o16.2.2.1]:Hu q3e)).bind fun y17=>(t24 (y17,o16.2.2.2.2)).bind fun y18=>some y18) | .inr z19=>some z19) | .inr z20=>some z20) | .inr z21=>some z21)
theorem p85:u27=q4j:=zC 115 rfl Tryz.func115 (by kernel_rfl)
def s6d(x:u74):Ht s7c:=zK 35 x
def t5i(g:Z64→Ht (Z98⊕Unit))(x:Z64):Ht (Z98⊕Unit):=cond (decide (x.2.2.2.2<x.2.2.2.1)) (cond (y4q x.2.2.2.2 x.2.2.1.length) ((u7b (x.2.1,([(rdL u0h x.2.2.1 x.2.2.2.2.toNat).1,(rdL u0h x.2.2.1 x.2.2.2.2.toNat).2.1]:Hu Hs))).bind fun y3=>(u8q (y3,(rdL u0h x.2.2.1 x.2.2.2.2.toNat).2.2.1)).bind fun y4=>(u6u (y4,([(rdL u0h x.2.2.1 x.2.2.2.2.toNat).2.2.2]:Hu Int))).bind fun y5=>g (x.1,y5,x.2.2.1,x.2.2.2.1,IntKind.i64.wrap (x.2.2.2.2+1))) none) (some (.inl (x.1,x.2.1)))
def u9w:=lpW _ _ t5i
theorem r1p x:u9w x=t5i u9w x:=zW r0u 35 Tryz.f35 6 94 x (by kernel_rfl)
def t3l(g:j89→Ht (j6o⊕Unit))(x:j89):Ht (j6o⊕Unit):=cond (decide (x.2.2.2.2.2.2<x.2.2.2.2.2.1)) (cond (y4q x.2.2.2.2.2.2 x.2.2.2.2.1.length) ((t28 (rdL u0a x.2.2.2.2.1 x.2.2.2.2.2.2.toNat)).bind fun y9=>cond (Nat.ble (x.1.length+(z7t y9.1).length) z7w) (g (x.1++(z7t y9.1),x.2.1,x.2.2.1,x.2.2.2.1,x.2.2.2.2.1,x.2.2.2.2.2.1,IntKind.i64.wrap (x.2.2.2.2.2.2+1))) none) none) (some (.inl (x.1,x.2.1,x.2.2.1,x.2.2.2.1)))
def u80:=lpW _ _ t3l
theorem s8t x:u80 x=t3l u80 x:=zW s72 35 Tryz.f35 17 94 x (by kernel_rfl)
def u8y(g:j6o→Ht j24)(x:j6o):Ht j24:=cond (decide (x.2.2.2<x.2.2.1)) (cond (y4q x.2.2.2 x.2.1.length) ((u6u (x.1,([((rdL (Ty.sl u0a) x.2.1 x.2.2.2.toNat).length:Int)]:Hu Int))).bind fun y8=>(u80 (y8,x.2.1,x.2.2.1,x.2.2.2,rdL (Ty.sl u0a) x.2.1 x.2.2.2.toNat,((rdL (Ty.sl u0a) x.2.1 x.2.2.2.toNat).length:Int),0)).bind fun r10=>match r10 with | .inl o11=>g (o11.1,o11.2.1,o11.2.2.1,IntKind.i64.wrap (o11.2.2.2+1)) | .inr z12=>some (.inr ())) none) (some (.inl x.1))
def t3z:=lpW _ _ u8y
theorem s1n x:t3z x=u8y t3z x:=zW s71 35 Tryz.f35 13 94 x (by kernel_rfl)
def r6z (x:u74):Ht s7c:=(u27 x).bind fun y1=>cond (!y1) (some ((⟨#[]⟩:Hs),false)) ((u6u (([]:Hu Int),([x.2.2.2.1,x.2.2.2.2,(x.1.length:Int)]:Hu Int))).bind fun y2=>(u9w (x,y2,x.1,(x.1.length:Int),0)).bind fun r6=>match r6 with | .inl o7=>((t3z (o7.2,([o7.1.2.1,o7.1.2.2.1]:Hu q3e),(([o7.1.2.1,o7.1.2.2.1]:Hu q3e).length:Int),0)).bind fun r13=>match r13 with | .inl o14=>some (y7g o14,true) | .inr z15=>none) | .inr z16=>none)
theorem p2h:s6d=r6z:=zC 35 rfl Tryz.func35 (by kernel_rfl)
def s6l(x:t1m):Ht Bool:=zK 125 x
def r7g (x:t1m):Ht Bool:=((cond (decide (x.1=0)) (cond (decide (x.2.1=0)) (cond (decide (x.2.2.1=0)) (cond (decide (x.2.2.2.1=0)) (cond (decide ((x.2.2.2.2.1.length:Int)=(0:Int))) (cond (decide ((x.2.2.2.2.2.1.length:Int)=(0:Int))) (cond (!x.2.2.2.2.2.2.1) (some (z7o x.2.2.2.2.2.2.2 (⟨#[]⟩:Hs))) (some false)) (some false)) (some false)) (some false)) (some false)) (some false)) (some false)):Ht Bool).bind fun j1=>some j1
theorem p2z:s6l=r7g:=zC 125 rfl Tryz.func125 (by kernel_rfl)
def s38(x:u74):Ht Bool:=zK 126 x
def r3x (x:u74):Ht Bool:=((cond (decide ((x.1.length:Int)=(0:Int))) (cond (decide ((x.2.1.length:Int)=(0:Int))) (cond (decide ((x.2.2.1.length:Int)=(0:Int))) (cond (decide (x.2.2.2.1=0)) (some (decide (x.2.2.2.2=0))) (some false)) (some false)) (some false)) (some false)):Ht Bool).bind fun j1=>some j1
theorem p0g:s38=r3x:=zC 126 rfl Tryz.func126 (by kernel_rfl)
def s04(x:Z30):Ht Bool:=zK 40 x
def r69 (x:Z30):Ht Bool:=(s6l x.2.1).bind fun y1=>(s38 x.2.2.2.2).bind fun y2=>cond (decide (x.1=1)) ((((u85 x.2.1).bind fun y3=>cond y3 ((u86 x.2.1).bind fun y4=>some y4) (some false)):Ht Bool).bind fun j5=>((cond j5 (cond (z7o x.2.2.1 (⟨#[]⟩:Hs)) (cond y2 (cond (!x.2.2.2.1) (some true) (some (decide (x.1=3)))) (some false)) (some false)) (some false)):Ht Bool).bind fun j6=>some j6) (cond (decide (x.1=2)) ((((u85 x.2.1).bind fun y7=>cond y7 ((u6i x.2.1).bind fun y8=>some y8) (some false)):Ht Bool).bind fun j9=>((cond j9 (cond (z7o x.2.2.1 (⟨#[]⟩:Hs)) (cond y2 (cond (!x.2.2.2.1) (some true) (some (decide (x.1=3)))) (some false)) (some false)) (some false)):Ht Bool).bind fun j10=>some j10) (cond (decide (x.1=3)) ((t03 x.2.2.1).bind fun y11=>((cond y1 (cond y11 (cond y2 (cond (!x.2.2.2.1) (some true) (some (decide (x.1=3)))) (some false)) (some false)) (some false)):Ht Bool).bind fun j12=>some j12) (cond (decide (x.1=4)) ((u27 x.2.2.2.2).bind fun y13=>((cond y1 (cond (z7o x.2.2.1 (⟨#[]⟩:Hs)) (cond y13 (cond (!x.2.2.2.1) (some true) (some (decide (x.1=3)))) (some false)) (some false)) (some false)):Ht Bool).bind fun j14=>some j14) (some false))))
theorem p2r:s04=r69:=zC 40 rfl Tryz.func40 (by kernel_rfl)
def s9g(x:j7f):Ht Int:=zK 316 x
def r3h(g:j7a→Ht (j3a⊕Unit))(x:j7a):Ht (j3a⊕Unit):=cond (decide (x.2.2.2<8)) (cond (decide ((Int.tmod x.1 (2:Int))=1)) (g (IntKind.u32.wrap ((BitVec.ofInt IntKind.u32.bits (IntKind.u32.wrap (Int.tdiv x.1 (2:Int)))^^^BitVec.ofInt IntKind.u32.bits (3558460437:Int)).toNat:Int),x.2.1,x.2.2.1,IntKind.i64.wrap (x.2.2.2+1))) (g (IntKind.u32.wrap (Int.tdiv x.1 (2:Int)),x.2.1,x.2.2.1,IntKind.i64.wrap (x.2.2.2+1)))) (some (.inl (x.1,x.2.1,x.2.2.1)))
def t8s:=lpW _ _ r3h
theorem p05 x:t8s x=r3h t8s x:=zW r4p 316 Tryz.f316 6 33 x (by kernel_rfl)
def t70(g:j3a→Ht o6u)(x:j3a):Ht o6u:=cond (decide (x.2.2<(x.2.1.size:Int))) (cond (y4q x.2.2 x.2.1.size) ((t8s (IntKind.u32.wrap ((BitVec.ofInt IntKind.u32.bits x.1^^^BitVec.ofInt IntKind.u32.bits (IntKind.u32.wrap ((x.2.1.data.toList.getD x.2.2.toNat 0).toNat:Int))).toNat:Int),x.2.1,x.2.2,0)).bind fun r1=>match r1 with | .inl o2=>g (o2.1,o2.2.1,IntKind.i64.wrap (o2.2.2+1)) | .inr z3=>some (.inr ())) none) (some (.inl x.1))
def t8r:=lpW _ _ t70
theorem r5s x:t8r x=t70 t8r x:=zW r4o 316 Tryz.f316 2 33 x (by kernel_rfl)
def q02 (x:j7f):Ht Int:=(t8r (x.1,x.2,0)).bind fun r4=>match r4 with | .inl o5=>some o5 | .inr z6=>none
theorem p5h:s9g=q02:=zC 316 rfl Tryz.func316 (by kernel_rfl)
def q9h(x:Hs):Ht Int:=zK 210 x
def q8q (x:Hs):Ht Int:=(s9g (4294967295,x)).bind fun y1=>some y1
theorem o13:q9h=q8q:=zC 210 rfl Tryz.func210 (by kernel_rfl)
def t6q(x:Hs):Ht s7c:=zK 100 x
def q4s (x:Hs):Ht s7c:=cond (decide ((x.size:Int)>(20000:Int))) (some ((⟨#[]⟩:Hs),false)) ((q9h x).bind fun y1=>cond (decide (x.size+(y7g ([IntKind.u8.wrap (Int.fdiv y1 (2^(min (24:Int).toNat IntKind.u32.bits))),IntKind.u8.wrap (Int.fdiv y1 (2^(min (16:Int).toNat IntKind.u32.bits))),IntKind.u8.wrap (Int.fdiv y1 (2^(min (8:Int).toNat IntKind.u32.bits))),IntKind.u8.wrap y1]:Hu Int)).size≤140737488355328)) (some (x++(y7g ([IntKind.u8.wrap (Int.fdiv y1 (2^(min (24:Int).toNat IntKind.u32.bits))),IntKind.u8.wrap (Int.fdiv y1 (2^(min (16:Int).toNat IntKind.u32.bits))),IntKind.u8.wrap (Int.fdiv y1 (2^(min (8:Int).toNat IntKind.u32.bits))),IntKind.u8.wrap y1]:Hu Int)),true)) none)
theorem p9e:t6q=q4s:=zC 100 rfl Tryz.func100 (by kernel_rfl)
def u35(x:Z30):Ht s7c:=zK 30 x
def s97 (x:Z30):Ht s7c:=(s04 x).bind fun y1=>cond (!y1) (some ((⟨#[]⟩:Hs),false)) (cond (decide (x.1=3)) ((u7b (([(IntKind.u8.wrap x.1)]:Hu Int),([x.2.2.1]:Hu Hs))).bind fun y2=>(u8q (y2,x.2.2.2.1)).bind fun y3=>(t6q (y7g y3)).bind fun y4=>some y4) (cond (decide (x.1=4)) ((s6d x.2.2.2.2).bind fun y5=>cond (Nat.ble (([(IntKind.u8.wrap x.1)]:Hu Int).length+(z7t y5.1).length) z7w) ((t6q (y7g (([(IntKind.u8.wrap x.1)]:Hu Int)++(z7t y5.1)))).bind fun y6=>some y6) none) ((t28 x.2.1).bind fun y7=>cond (Nat.ble (([(IntKind.u8.wrap x.1)]:Hu Int).length+(z7t y7.1).length) z7w) ((t6q (y7g (([(IntKind.u8.wrap x.1)]:Hu Int)++(z7t y7.1)))).bind fun y8=>some y8) none)))
theorem q7d:u35=s97:=zC 30 rfl Tryz.func30 (by kernel_rfl)
def s6j(x:Hs):Ht s7c:=zK 101 x
def r7b (x:Hs):Ht s7c:=cond (decide ((x.size:Int)<(4:Int))) (some ((⟨#[]⟩:Hs),false)) (cond (decide (0≤(0:Int))&&decide ((0:Int)≤(IntKind.i64.wrap ((x.size:Int) - (4:Int))))&&decide ((IntKind.i64.wrap ((x.size:Int) - (4:Int)))≤(x.size:Int))) ((t6q (x.extract (0:Int).toNat (IntKind.i64.wrap ((x.size:Int) - (4:Int))).toNat)).bind fun y1=>((cond (!y1.2) (some true) (some (!z7o y1.1 x))):Ht Bool).bind fun j2=>cond j2 (some ((⟨#[]⟩:Hs),false)) (some (x.extract (0:Int).toNat (IntKind.i64.wrap ((x.size:Int) - (4:Int))).toNat,true))) none)
theorem p2u:s6j=r7b:=zC 101 rfl Tryz.func101 (by kernel_rfl)
def s20(x:o3z):Ht j29:=zK 317 x
def t7z(g:(Hs×j40)→Ht (Unit⊕j29))(x:(Hs×j40)):Ht (Unit⊕j29):=((cond (decide (x.2.2.2<5)) (some (decide ((IntKind.i64.wrap (x.2.1+x.2.2.2))<(x.1.size:Int)))) (some false)):Ht Bool).bind fun j2=>cond j2 (cond (y4q (IntKind.i64.wrap (x.2.1+x.2.2.2)) x.1.size) (cond (decide (0≤(IntKind.i64.wrap ((7:Int)*x.2.2.2)))) (cond (decide ((IntKind.i64.wrap ((x.1.data.toList.getD (IntKind.i64.wrap (x.2.1+x.2.2.2)).toNat 0).toNat:Int))<128)) ((t29 (IntKind.i64.wrap (x.2.2.1+(IntKind.i64.wrap ((Int.tmod (IntKind.i64.wrap ((x.1.data.toList.getD (IntKind.i64.wrap (x.2.1+x.2.2.2)).toNat 0).toNat:Int)) (128:Int))*2^(min (IntKind.i64.wrap ((7:Int)*x.2.2.2)).toNat IntKind.i64.bits)))))).bind fun y3=>((cond (!y3.2) (some true) (some (!decide ((y3.1.size:Int)=(IntKind.i64.wrap (x.2.2.2+1)))))):Ht Bool).bind fun j4=>cond j4 (some (.inr (0,0,false))) (some (.inr (IntKind.i64.wrap (x.2.2.1+(IntKind.i64.wrap ((Int.tmod (IntKind.i64.wrap ((x.1.data.toList.getD (IntKind.i64.wrap (x.2.1+x.2.2.2)).toNat 0).toNat:Int)) (128:Int))*2^(min (IntKind.i64.wrap ((7:Int)*x.2.2.2)).toNat IntKind.i64.bits)))),IntKind.i64.wrap ((IntKind.i64.wrap (x.2.1+x.2.2.2))+1),true)))) (g (x.1,x.2.1,IntKind.i64.wrap (x.2.2.1+(IntKind.i64.wrap ((Int.tmod (IntKind.i64.wrap ((x.1.data.toList.getD (IntKind.i64.wrap (x.2.1+x.2.2.2)).toNat 0).toNat:Int)) (128:Int))*2^(min (IntKind.i64.wrap ((7:Int)*x.2.2.2)).toNat IntKind.i64.bits)))),IntKind.i64.wrap (x.2.2.2+1)))) none) none) (some (.inl ()))
def t8q:=lpW _ _ t7z
theorem r5r x:t8q x=t7z t8q x:=zW r4n 317 Tryz.f317 5 63 x (by kernel_rfl)
def q0z (x:o3z):Ht j29:=(u02 (x.2,0,(x.1.size:Int))).bind fun y1=>cond (!y1) (some (0,0,false)) ((t8q (x.1,x.2,0,0)).bind fun r5=>match r5 with | .inl o6=>some (0,0,false) | .inr z7=>some z7)
theorem p5e:s20=q0z:=zC 317 rfl Tryz.func317 (by kernel_rfl)
def t87(x:o3z):Ht q4b:=zK 211 x
def r3q (x:o3z):Ht q4b:=(s20 x).bind fun y1=>((cond (!y1.2.2) (some true) (cond (decide (y1.1>20000)) (some true) (some (decide (y1.1>(IntKind.i64.wrap ((x.1.size:Int) - y1.2.1))))))):Ht Bool).bind fun j2=>cond j2 (some ((⟨#[]⟩:Hs),0,false)) (cond (decide (0≤y1.2.1)&&decide (y1.2.1≤(IntKind.i64.wrap (y1.2.1+y1.1)))&&decide ((IntKind.i64.wrap (y1.2.1+y1.1))≤(x.1.size:Int))) (some (x.1.extract y1.2.1.toNat (IntKind.i64.wrap (y1.2.1+y1.1)).toNat,IntKind.i64.wrap (y1.2.1+y1.1),true)) none)
theorem q98:t87=r3q:=zC 211 rfl Tryz.func211 (by kernel_rfl)
def u2h(x:q4b):Ht j6z:=zK 102 x
def s7u (x:q4b):Ht j6z:=(t87 (x.1,x.2.1)).bind fun y1=>((cond x.2.2 (some true) (some (!y1.2.2))):Ht Bool).bind fun j2=>cond j2 (some ((⟨#[]⟩:Hs),x.1,x.2.1,true)) (some (y1.1,x.1,y1.2.1,x.2.2))
theorem q50:u2h=s7u:=zC 102 rfl Tryz.func102 (by kernel_rfl)
def u65(x:q4b):Ht (Bool×q4b):=zK 103 x
def s7t (x:q4b):Ht (Bool×q4b):=((cond x.2.2 (some true) ((u02 (x.2.1,0,IntKind.i64.wrap ((x.1.size:Int) - (1:Int)))).bind fun y1=>cond (!y1) (some true) (cond (y4q x.2.1 x.1.size) (some (decide (((x.1.data.toList.getD x.2.1.toNat 0).toNat:Int)>(1:Int)))) none))):Ht Bool).bind fun j2=>cond j2 (some (false,x.1,x.2.1,true)) (cond (y4q (IntKind.i64.wrap ((IntKind.i64.wrap (x.2.1+1)) - 1)) x.1.size) (some (decide (((x.1.data.toList.getD (IntKind.i64.wrap ((IntKind.i64.wrap (x.2.1+1)) - 1)).toNat 0).toNat:Int)=(1:Int)),x.1,IntKind.i64.wrap (x.2.1+1),x.2.2)) none)
theorem q5z:u65=s7t:=zC 103 rfl Tryz.func103 (by kernel_rfl)
def u1e(x:q4b):Ht (Int×q4b):=zK 213 x
def r0d (x:q4b):Ht (Int×q4b):=(s20 (x.1,x.2.1)).bind fun y1=>((cond x.2.2 (some true) (some (!y1.2.2))):Ht Bool).bind fun j2=>cond j2 (some (0,x.1,x.2.1,true)) (some (y1.1,x.1,y1.2.1,x.2.2))
theorem q7j:u1e=r0d:=zC 213 rfl Tryz.func213 (by kernel_rfl)
def s4w(x:Z80):Ht Z80:=zK 215 x
def s4n (x:Z80):Ht Z80:=(u2h x.1).bind fun y1=>(u2h y1.2).bind fun y2=>(u65 y2.2).bind fun y3=>(u1e y3.2).bind fun y4=>cond (Nat.ble (x.2.1.length+([(y1.1,y2.1,y3.1,y4.1)]:Hu u0h.den).length) z7w) (some (y4.2,x.2.1++([(y1.1,y2.1,y3.1,y4.1)]:Hu u0h.den),x.2.2)) none
theorem q0b:s4w=s4n:=zC 215 rfl Tryz.func215 (by kernel_rfl)
def u3c(x:Z72):Ht Z72:=zK 10015 x
def u12(g:Z62→Ht (Z72⊕Unit))(x:Z62):Ht (Z72⊕Unit):=((cond (decide (x.2.2.2<x.2.2.1)) (some (!x.1.2.2)) (some false)):Ht Bool).bind fun j2=>cond j2 ((s4w (x.1,x.2.1.2)).bind fun y3=>g (y3.1,((),y3.2),x.2.2.1,IntKind.i64.wrap (x.2.2.2+1))) (some (.inl (x.1,(),x.2.1.2)))
def u04:=lpW _ _ u12
theorem u6x x:u04 x=u12 u04 x:=zW u6p 10015 Tryz.f214 2 22 x (by kernel_rfl)
def u7h (x:Z72):Ht Z72:=(u1e x.1).bind fun y1=>(u04 (y1.2,((),x.2.2),y1.1,0)).bind fun r4=>match r4 with | .inl o5=>some (o5.1,(),o5.2.2) | .inr z6=>none
theorem t65:u3c=u7h:=zC 10015 rfl Tryz.func214 (by kernel_rfl)
def s6m(x:j4o):Ht j4o:=zK 218 x
def s5u (x:j4o):Ht j4o:=(u2h x.2).bind fun y1=>(u2h y1.2).bind fun y2=>cond (Nat.ble (x.1.2.2.2.2.1.length+([(y1.1,y2.1)]:Hu p4x.den).length) z7w) (some ((x.1.1,x.1.2.1,x.1.2.2.1,x.1.2.2.2.1,x.1.2.2.2.2.1++([(y1.1,y2.1)]:Hu p4x.den),x.1.2.2.2.2.2),y2.2)) none
theorem q3n:s6m=s5u:=zC 218 rfl Tryz.func218 (by kernel_rfl)
def u3l(x:Z93):Ht Z93:=zK 10017 x
def u2a(g:Z78→Ht (Z93⊕Unit))(x:Z78):Ht (Z93⊕Unit):=((cond (decide (x.2.2.2<x.2.2.1)) (some (!x.1.2.2)) (some false)):Ht Bool).bind fun j2=>cond j2 ((s6m (x.2.1.1,x.1)).bind fun y3=>g (y3.2,(y3.1,()),x.2.2.1,IntKind.i64.wrap (x.2.2.2+1))) (some (.inl (x.1,x.2.1.1,())))
def u08:=lpW _ _ u2a
theorem u66 x:u08 x=u2a u08 x:=zW u63 10017 Tryz.f214 2 22 x (by kernel_rfl)
def u7s (x:Z93):Ht Z93:=(u1e x.1).bind fun y1=>(u08 (y1.2,(x.2.1,()),y1.1,0)).bind fun r4=>match r4 with | .inl o5=>some (o5.1,o5.2.1,()) | .inr z6=>none
theorem t7h:u3l=u7s:=zC 10017 rfl Tryz.func214 (by kernel_rfl)
def s6n(x:j5h):Ht j5h:=zK 219 x
def s5v (x:j5h):Ht j5h:=(u2h x.1).bind fun y1=>(u2h y1.2).bind fun y2=>(u65 y2.2).bind fun y3=>cond (Nat.ble (x.2.2.2.2.2.2.1.length+([(y1.1,y2.1,y3.1)]:Hu u2l.den).length) z7w) (some (y3.2,x.2.1,x.2.2.1,x.2.2.2.1,x.2.2.2.2.1,x.2.2.2.2.2.1,x.2.2.2.2.2.2.1++([(y1.1,y2.1,y3.1)]:Hu u2l.den),x.2.2.2.2.2.2.2)) none
theorem q3o:s6n=s5v:=zC 219 rfl Tryz.func219 (by kernel_rfl)
def u3m(x:Z92):Ht Z92:=zK 10018 x
def u2b(g:Z77→Ht (Z92⊕Unit))(x:Z77):Ht (Z92⊕Unit):=((cond (decide (x.2.2.2<x.2.2.1)) (some (!x.1.2.2)) (some false)):Ht Bool).bind fun j2=>cond j2 ((s6n (x.1,x.2.1.2)).bind fun y3=>g (y3.1,((),y3.2),x.2.2.1,IntKind.i64.wrap (x.2.2.2+1))) (some (.inl (x.1,(),x.2.1.2)))
def u09:=lpW _ _ u2b
theorem u67 x:u09 x=u2b u09 x:=zW u64 10018 Tryz.f214 2 22 x (by kernel_rfl)
def u7t (x:Z92):Ht Z92:=(u1e x.1).bind fun y1=>(u09 (y1.2,((),x.2.2),y1.1,0)).bind fun r4=>match r4 with | .inl o5=>some (o5.1,(),o5.2.2) | .inr z6=>none
theorem t7i:u3m=u7t:=zC 10018 rfl Tryz.func214 (by kernel_rfl)
def t0d(x:q4b):Ht j4o:=zK 105 x
def r0e (x:q4b):Ht j4o:=(u1e x).bind fun y1=>(u1e y1.2).bind fun y2=>(u1e y2.2).bind fun y3=>(u1e y3.2).bind fun y4=>(u3l (y4.2,(y1.1,y2.1,y3.1,y4.1,([]:Hu p4x.den),([]:Hu u2l.den),false,(⟨#[]⟩:Hs)),())).bind fun y5=>(u3m (y5.1,(),y5.2.1)).bind fun y6=>(u65 y6.1).bind fun y7=>(u2h y7.2).bind fun y8=>cond y8.2.2.2 (some ((y6.2.2.1,y6.2.2.2.1,y6.2.2.2.2.1,y6.2.2.2.2.2.1,y6.2.2.2.2.2.2.1,y6.2.2.2.2.2.2.2.1,y7.1,y8.1),y8.2.1,y8.2.2.1,true)) ((u85 (y6.2.2.1,y6.2.2.2.1,y6.2.2.2.2.1,y6.2.2.2.2.2.1,y6.2.2.2.2.2.2.1,y6.2.2.2.2.2.2.2.1,y7.1,y8.1)).bind fun y9=>some ((y6.2.2.1,y6.2.2.2.1,y6.2.2.2.2.1,y6.2.2.2.2.2.1,y6.2.2.2.2.2.2.1,y6.2.2.2.2.2.2.2.1,y7.1,y8.1),y8.2.1,y8.2.2.1,!y9))
theorem q7k:t0d=r0e:=zC 105 rfl Tryz.func105 (by kernel_rfl)
def s4x(x:Z81):Ht Z81:=zK 216 x
def s4o (x:Z81):Ht Z81:=(t0d x.2).bind fun y1=>cond (Nat.ble (x.1.2.1.length+([y1.1]:Hu u0a.den).length) z7w) (some ((x.1.1,x.1.2.1++([y1.1]:Hu u0a.den),x.1.2.2),y1.2)) none
theorem q0c:s4x=s4o:=zC 216 rfl Tryz.func216 (by kernel_rfl)
def u3d(x:Z70):Ht Z70:=zK 10016 x
def u13(g:Z61→Ht (Z70⊕Unit))(x:Z61):Ht (Z70⊕Unit):=((cond (decide (x.2.2.2<x.2.2.1)) (some (!x.1.2.2)) (some false)):Ht Bool).bind fun j2=>cond j2 ((s4x (x.2.1.1,x.1)).bind fun y3=>g (y3.2,(y3.1,()),x.2.2.1,IntKind.i64.wrap (x.2.2.2+1))) (some (.inl (x.1,x.2.1.1,())))
def u05:=lpW _ _ u13
theorem u6y x:u05 x=u13 u05 x:=zW u6q 10016 Tryz.f214 2 22 x (by kernel_rfl)
def u7i (x:Z70):Ht Z70:=(u1e x.1).bind fun y1=>(u05 (y1.2,(x.2.1,()),y1.1,0)).bind fun r4=>match r4 with | .inl o5=>some (o5.1,o5.2.1,()) | .inr z6=>none
theorem t66:u3d=u7i:=zC 10016 rfl Tryz.func214 (by kernel_rfl)
def s4y(x:Z81):Ht Z81:=zK 217 x
def s4p (x:Z81):Ht Z81:=(t0d x.2).bind fun y1=>cond (Nat.ble (x.1.2.2.1.length+([y1.1]:Hu u0a.den).length) z7w) (some ((x.1.1,x.1.2.1,x.1.2.2.1++([y1.1]:Hu u0a.den),x.1.2.2.2),y1.2)) none
theorem q0d:s4y=s4p:=zC 217 rfl Tryz.func217 (by kernel_rfl)
def u3e(x:Z70):Ht Z70:=zK 10019 x
def u14(g:Z61→Ht (Z70⊕Unit))(x:Z61):Ht (Z70⊕Unit):=((cond (decide (x.2.2.2<x.2.2.1)) (some (!x.1.2.2)) (some false)):Ht Bool).bind fun j2=>cond j2 ((s4y (x.2.1.1,x.1)).bind fun y3=>g (y3.2,(y3.1,()),x.2.2.1,IntKind.i64.wrap (x.2.2.2+1))) (some (.inl (x.1,x.2.1.1,())))
def u06:=lpW _ _ u14
theorem u6z x:u06 x=u14 u06 x:=zW u6r 10019 Tryz.f214 2 22 x (by kernel_rfl)
def u7j (x:Z70):Ht Z70:=(u1e x.1).bind fun y1=>(u06 (y1.2,(x.2.1,()),y1.1,0)).bind fun r4=>match r4 with | .inl o5=>some (o5.1,o5.2.1,()) | .inr z6=>none
theorem t67:u3e=u7j:=zC 10019 rfl Tryz.func214 (by kernel_rfl)
def s1a(x:q4b):Ht Z81:=zK 104 x
def s7s (x:q4b):Ht Z81:=(u1e x).bind fun y1=>(u1e y1.2).bind fun y2=>(u3c (y2.2,(),([]:Hu u0h.den),([]:Hu u0a.den),([]:Hu u0a.den),y1.1,y2.1)).bind fun y3=>(u3d (y3.1,y3.2.2,())).bind fun y4=>(u3e (y4.1,y4.2.1,())).bind fun y5=>cond y5.1.2.2 (some (y5.2.1,y5.1.1,y5.1.2.1,true)) ((u27 y5.2.1).bind fun y6=>some (y5.2.1,y5.1.1,y5.1.2.1,!y6))
theorem q5y:s1a=s7s:=zC 104 rfl Tryz.func104 (by kernel_rfl)
def s1z(x:Hs):Ht Z28:=zK 31 x
def s95 (x:Hs):Ht Z28:=(s6j x).bind fun y1=>((cond (!y1.2) (some true) (some (z7o y1.1 (⟨#[]⟩:Hs)))):Ht Bool).bind fun j2=>cond j2 (some ((0,(0,0,0,0,([]:Hu p4x.den),([]:Hu u2l.den),false,(⟨#[]⟩:Hs)),(⟨#[]⟩:Hs),false,([]:Hu u0h.den),([]:Hu u0a.den),([]:Hu u0a.den),0,0),false)) (cond (y4q (0:Int) y1.1.size) (cond (decide ((IntKind.i64.wrap ((y1.1.data.toList.getD (0:Int).toNat 0).toNat:Int))=3)) ((u2h (y1.1,1,false)).bind fun y3=>(u65 y3.2).bind fun y4=>(u35 (IntKind.i64.wrap ((y1.1.data.toList.getD (0:Int).toNat 0).toNat:Int),(0,0,0,0,([]:Hu p4x.den),([]:Hu u2l.den),false,(⟨#[]⟩:Hs)),y3.1,y4.1,([]:Hu u0h.den),([]:Hu u0a.den),([]:Hu u0a.den),0,0)).bind fun y5=>((cond y4.2.2.2 (some true) (cond (!y5.2) (some true) (some (!z7o y5.1 x)))):Ht Bool).bind fun j6=>cond j6 (some ((0,(0,0,0,0,([]:Hu p4x.den),([]:Hu u2l.den),false,(⟨#[]⟩:Hs)),(⟨#[]⟩:Hs),false,([]:Hu u0h.den),([]:Hu u0a.den),([]:Hu u0a.den),0,0),false)) (some ((IntKind.i64.wrap ((y1.1.data.toList.getD (0:Int).toNat 0).toNat:Int),(0,0,0,0,([]:Hu p4x.den),([]:Hu u2l.den),false,(⟨#[]⟩:Hs)),y3.1,y4.1,([]:Hu u0h.den),([]:Hu u0a.den),([]:Hu u0a.den),0,0),true))) (cond (decide ((IntKind.i64.wrap ((y1.1.data.toList.getD (0:Int).toNat 0).toNat:Int))=4)) ((s1a (y1.1,1,false)).bind fun y7=>(u35 (IntKind.i64.wrap ((y1.1.data.toList.getD (0:Int).toNat 0).toNat:Int),(0,0,0,0,([]:Hu p4x.den),([]:Hu u2l.den),false,(⟨#[]⟩:Hs)),(⟨#[]⟩:Hs),false,y7.1)).bind fun y8=>((cond y7.2.2.2 (some true) (cond (!y8.2) (some true) (some (!z7o y8.1 x)))):Ht Bool).bind fun j9=>cond j9 (some ((0,(0,0,0,0,([]:Hu p4x.den),([]:Hu u2l.den),false,(⟨#[]⟩:Hs)),(⟨#[]⟩:Hs),false,([]:Hu u0h.den),([]:Hu u0a.den),([]:Hu u0a.den),0,0),false)) (some ((IntKind.i64.wrap ((y1.1.data.toList.getD (0:Int).toNat 0).toNat:Int),(0,0,0,0,([]:Hu p4x.den),([]:Hu u2l.den),false,(⟨#[]⟩:Hs)),(⟨#[]⟩:Hs),false,y7.1),true))) ((t0d (y1.1,1,false)).bind fun y10=>(u35 (IntKind.i64.wrap ((y1.1.data.toList.getD (0:Int).toNat 0).toNat:Int),y10.1,(⟨#[]⟩:Hs),false,([]:Hu u0h.den),([]:Hu u0a.den),([]:Hu u0a.den),0,0)).bind fun y11=>((cond y10.2.2.2 (some true) (cond (!y11.2) (some true) (some (!z7o y11.1 x)))):Ht Bool).bind fun j12=>cond j12 (some ((0,(0,0,0,0,([]:Hu p4x.den),([]:Hu u2l.den),false,(⟨#[]⟩:Hs)),(⟨#[]⟩:Hs),false,([]:Hu u0h.den),([]:Hu u0a.den),([]:Hu u0a.den),0,0),false)) (some ((IntKind.i64.wrap ((y1.1.data.toList.getD (0:Int).toNat 0).toNat:Int),y10.1,(⟨#[]⟩:Hs),false,([]:Hu u0h.den),([]:Hu u0a.den),([]:Hu u0a.den),0,0),true))))) none)
theorem q7b:s1z=s95:=zC 31 rfl Tryz.func31 (by kernel_rfl)
def q2y(x:Unit):Ht u74:=zK 60 x
def q0q (x:Unit):Ht u74:=some (([]:Hu u0h.den),([]:Hu u0a.den),([]:Hu u0a.den),0,1)
theorem p45:q2y=q0q:=zC 60 rfl Tryz.func60 (by kernel_rfl)
def t0a(x:p16):Ht s7c:=zK 365 x
def t08(g:d0m→Ht j7d)(x:d0m):Ht j7d:=cond (decide (x.2.2.2.2<x.2.2.2.1)) (cond (y4q x.2.2.2.2 x.2.2.1.length) (cond (decide ((rdL p7e x.2.2.1 x.2.2.2.2.toNat).1=x.1)) (g (x.1,(rdL p7e x.2.2.1 x.2.2.2.2.toNat).2,x.2.2.1,x.2.2.2.1,IntKind.i64.wrap (x.2.2.2.2+1))) (g (x.1,x.2.1,x.2.2.1,x.2.2.2.1,IntKind.i64.wrap (x.2.2.2.2+1)))) none) (some (.inl x.2.1))
def t1f:=lpW _ _ t08
theorem s63 x:t1f x=t08 t1f x:=zW s53 365 Tryz.f365 5 36 x (by kernel_rfl)
def s96 (x:p16):Ht s7c:=(u02 (x.2,0,IntKind.i64.wrap ((x.1.1.length:Int) - (1:Int)))).bind fun y1=>cond (!y1) (some ((⟨#[]⟩:Hs),false)) (cond (y4q x.2 x.1.1.length) ((t1f (x.2,rdL Ty.str x.1.1 x.2.toNat,x.1.2,(x.1.2.length:Int),0)).bind fun r2=>match r2 with | .inl o3=>some (o3,true) | .inr z4=>none) none)
theorem q7c:t0a=s96:=zC 365 rfl Tryz.func365 (by kernel_rfl)
def s10(x:j2o):Ht s7c:=zK 278 x
def t09(g:j94→Ht (q4a⊕s7c))(x:j94):Ht (q4a⊕s7c):=cond (decide (x.2.2.2.2<x.2.1)) ((t0a (x.2.2.1,IntKind.i64.wrap (x.1+x.2.2.2.2))).bind fun y2=>cond (!y2.2) (some (.inr ((⟨#[]⟩:Hs),false))) (cond (Nat.ble (x.2.2.2.1.length+(z7t y2.1).length) z7w) (g (x.1,x.2.1,x.2.2.1,x.2.2.2.1++(z7t y2.1),IntKind.i64.wrap (x.2.2.2.2+1))) none)) (some (.inl x.2.2.2.1))
def t1g:=lpW _ _ t09
theorem s64 x:t1g x=t09 t1g x:=zW s54 278 Tryz.f278 5 35 x (by kernel_rfl)
def s99 (x:j2o):Ht s7c:=(u02 (x.2.2,0,100)).bind fun y1=>cond (!y1) (some ((⟨#[]⟩:Hs),false)) ((t1g (x.2.1,x.2.2,x.1,([]:Hu Int),0)).bind fun r3=>match r3 with | .inl o4=>some (y7g o4,true) | .inr z5=>some z5)
theorem q7f:s10=s99:=zC 278 rfl Tryz.func278 (by kernel_rfl)
def s08(x:Int):Ht Bool:=zK 280 x
def q4w (x:Int):Ht Bool:=((cond (decide (x=0)) (some true) (some (decide (x=1)))):Ht Bool).bind fun j1=>some j1
theorem p9h:s08=q4w:=zC 280 rfl Tryz.func280 (by kernel_rfl)
def u8m(x:Int):Ht Int:=zK 279 x
def r3l (x:Int):Ht Int:=(s08 x).bind fun y1=>cond (!y1) (some (0:Int)) (some (IntKind.i64.wrap ((1:Int)+(IntKind.i64.wrap (x*48)))))
theorem q92:u8m=r3l:=zC 279 rfl Tryz.func279 (by kernel_rfl)
def t23(x:p16):Ht Int:=zK 282 x
def r3z (x:p16):Ht Int:=(t0a x).bind fun y1=>((cond (!y1.2) (some true) (some (z7o y1.1 (⟨#[]⟩:Hs)))):Ht Bool).bind fun j2=>cond j2 (some (0:Int)) (cond (y4q (0:Int) y1.1.size) (some (IntKind.i64.wrap ((y1.1.data.toList.getD (0:Int).toNat 0).toNat:Int))) none)
theorem p0i:t23=r3z:=zC 282 rfl Tryz.func282 (by kernel_rfl)
def t7j(x:p16):Ht Int:=zK 281 x
def q0s (x:p16):Ht Int:=(s08 x.2).bind fun y1=>cond (!y1) (some (0:Int)) ((u8m x.2).bind fun y2=>(t23 (x.1,y2)).bind fun y3=>some y3)
theorem p47:t7j=q0s:=zC 281 rfl Tryz.func281 (by kernel_rfl)
def u99(x:p16):Ht (p09×j4b):=zK 162 x
def t5l(g:j9o→Ht j69)(x:j9o):Ht j69:=(t7j (x.2.1,x.1)).bind fun y5=>cond (decide (x.2.2.2.2.2<y5)) ((t87 (x.2.2.1,x.2.2.2.2.1)).bind fun y6=>((cond (!y6.2.2) (some true) (some (z7o y6.1 (⟨#[]⟩:Hs)))):Ht Bool).bind fun j7=>cond j7 (some (.inr (([]:Hu Hs),0,false))) (cond (Nat.ble (x.2.2.2.1.length+([y6.1]:Hu Hs).length) z7w) (g (x.1,x.2.1,x.2.2.1,x.2.2.2.1++([y6.1]:Hu Hs),y6.2.1,IntKind.i64.wrap (x.2.2.2.2.2+1))) none)) (some (.inl (x.2.2.2.1,x.2.2.2.2.1)))
def t6a:=lpW _ _ t5l
theorem r1s x:t6a x=t5l t6a x:=zW r0x 162 Tryz.f162 7 57 x (by kernel_rfl)
def r68 (x:p16):Ht (p09×j4b):=(u8m x.2).bind fun y1=>(s10 (x.1,IntKind.i64.wrap (y1+1),47)).bind fun y2=>((cond (!y2.2) (some true) ((s08 x.2).bind fun y3=>some (!y3))):Ht Bool).bind fun j4=>cond j4 (some (([]:Hu Hs),0,false)) ((t6a (x.2,x.1,y2.1,([]:Hu Hs),0,0)).bind fun r8=>match r8 with | .inl o9=>some (o9.1,o9.2,true) | .inr z10=>some z10)
theorem p2q:u99=r68:=zC 162 rfl Tryz.func162 (by kernel_rfl)
def t49(x:t01):Ht Int:=zK 164 x
def r6y (x:t01):Ht Int:=(t23 (x,0)).bind fun y1=>some (Int.tmod y1 (2:Int))
theorem p2g:t49=r6y:=zC 164 rfl Tryz.func164 (by kernel_rfl)
def s6g(x:t01):Ht p09:=zK 61 x
def r65 (x:t01):Ht p09:=(t49 x).bind fun y1=>(u99 (x,y1)).bind fun y2=>some y2.1
theorem p2n:s6g=r65:=zC 61 rfl Tryz.func61 (by kernel_rfl)
def t3a(x:t1m):Ht t1m:=zK 185 x
def q1a (x:t1m):Ht t1m:=cond (Nat.ble x.2.2.2.2.1.length z7w) (cond (Nat.ble x.2.2.2.2.2.1.length z7w) (some x) none) none
theorem p5p:t3a=q1a:=zC 185 rfl Tryz.func185 (by kernel_rfl)
def t5a(x:q3e):Ht q3e:=zK 283 x
def t5q(g:j8a→Ht j4v)(x:j8a):Ht j4v:=cond (decide (x.2.2.2<x.2.2.1)) (cond (y4q x.2.2.2 x.2.1.length) ((t3a (rdL u0a x.2.1 x.2.2.2.toNat)).bind fun y1=>cond (Nat.ble (x.1.length+([y1]:Hu u0a.den).length) z7w) (g (x.1++([y1]:Hu u0a.den),x.2.1,x.2.2.1,IntKind.i64.wrap (x.2.2.2+1))) none) none) (some (.inl x.1))
def t6e:=lpW _ _ t5q
theorem r1x x:t6e x=t5q t6e x:=zW r02 283 Tryz.f283 3 19 x (by kernel_rfl)
def r7f (x:q3e):Ht q3e:=(t6e (([]:Hu u0a.den),x,(x.length:Int),0)).bind fun r2=>match r2 with | .inl o3=>some o3 | .inr z4=>none
theorem p2y:t5a=r7f:=zC 283 rfl Tryz.func283 (by kernel_rfl)
def u1y(x:u74):Ht u74:=zK 165 x
def r7d (x:u74):Ht u74:=cond (Nat.ble x.1.length z7w) ((t5a x.2.1).bind fun y1=>(t5a x.2.2.1).bind fun y2=>some (x.1,y1,y2,x.2.2.2)) none
theorem p2w:u1y=r7d:=zC 165 rfl Tryz.func165 (by kernel_rfl)
def s6h(x:Z73):Ht Int:=zK 172 x
def t5k(g:j5i→Ht o6u)(x:j5i):Ht o6u:=cond (decide (x.2.2.2<x.2.2.1)) (cond (y4q x.2.2.2 x.2.1.length) (g (y8i x.1 (rdL u0a x.2.1 x.2.2.2.toNat).2.2.1,x.2.1,x.2.2.1,IntKind.i64.wrap (x.2.2.2+1))) none) (some (.inl x.1))
def t59:=lpW _ _ t5k
theorem r1r x:t59 x=t5k t59 x:=zW r0w 172 Tryz.f172 3 22 x (by kernel_rfl)
def r66 (x:Z73):Ht Int:=(t59 (x.1.2.2.2.1,x.2,(x.2.length:Int),0)).bind fun r1=>match r1 with | .inl o2=>some o2 | .inr z3=>none
theorem p2o:s6h=r66:=zC 172 rfl Tryz.func172 (by kernel_rfl)
def s5d(x:j2r):Ht Int:=zK 292 x
def s0a(g:j9u→Ht o6u)(x:j9u):Ht o6u:=cond (decide (x.2.2.2.2.2.2<x.2.2.2.2.2.1)) (cond (y4q x.2.2.2.2.2.2 x.2.2.2.2.1.length) (((cond (z7o (rdL u0h x.2.2.2.2.1 x.2.2.2.2.2.2.toNat).1 x.2.1) (cond (decide ((rdL u0h x.2.2.2.2.1 x.2.2.2.2.2.2.toNat).2.2.2≤x.2.2.1)) (cond (decide (x.2.2.2.1<0)) (some true) (cond (y4q x.2.2.2.1 x.1.length) (some (decide ((rdL u0h x.2.2.2.2.1 x.2.2.2.2.2.2.toNat).2.2.2>(rdL u0h x.1 x.2.2.2.1.toNat).2.2.2))) none)) (some false)) (some false)):Ht Bool).bind fun j1=>cond j1 (g (x.1,x.2.1,x.2.2.1,x.2.2.2.2.2.2,x.2.2.2.2.1,x.2.2.2.2.2.1,IntKind.i64.wrap (x.2.2.2.2.2.2+1))) (g (x.1,x.2.1,x.2.2.1,x.2.2.2.1,x.2.2.2.2.1,x.2.2.2.2.2.1,IntKind.i64.wrap (x.2.2.2.2.2.2+1)))) none) (some (.inl x.2.2.2.1))
def t4q:=lpW _ _ s0a
theorem r9m x:t4q x=s0a t4q x:=zW r8l 292 Tryz.f292 3 44 x (by kernel_rfl)
def q4y (x:j2r):Ht Int:=(t4q (x.1,x.2.1,x.2.2,(- 1:Int),x.1,(x.1.length:Int),0)).bind fun r2=>match r2 with | .inl o3=>some o3 | .inr z4=>none
theorem p9j:s5d=q4y:=zC 292 rfl Tryz.func292 (by kernel_rfl)
def s37(x:(Hs×q0i)):Ht Int:=zK 293 x
def t3o(g:d0g→Ht o6u)(x:d0g):Ht o6u:=cond (decide (x.2.2.2.2<x.2.2.2.1)) (cond (y4q x.2.2.2.2 x.2.2.1.length) (cond (z7o (rdL u0h x.2.2.1 x.2.2.2.2.toNat).1 x.1) (g (x.1,IntKind.i64.wrap (x.2.1+1),x.2.2.1,x.2.2.2.1,IntKind.i64.wrap (x.2.2.2.2+1))) (g (x.1,x.2.1,x.2.2.1,x.2.2.2.1,IntKind.i64.wrap (x.2.2.2.2+1)))) none) (some (.inl x.2.1))
def u81:=lpW _ _ t3o
theorem s8w x:u81 x=t3o u81 x:=zW s75 293 Tryz.f293 3 21 x (by kernel_rfl)
def r3v (x:(Hs×q0i)):Ht Int:=(u81 (x.1,0,x.2,(x.2.length:Int),0)).bind fun r1=>match r1 with | .inl o2=>some o2 | .inr z3=>none
theorem p0e:s37=r3v:=zC 293 rfl Tryz.func293 (by kernel_rfl)
def s9i(x:j41):Ht q0i:=zK 175 x
def t74(g:j9s→Ht j7b)(x:j9s):Ht j7b:=cond (decide (x.2.2.2.2.2<x.2.2.2.2.1)) (cond (y4q x.2.2.2.2.2 x.2.2.2.1.length) (((cond (decide ((rdL u0h x.2.2.2.1 x.2.2.2.2.2.toNat).2.2.2>x.2.1)) (some true) ((s5d (x.1,(rdL u0h x.2.2.2.1 x.2.2.2.2.2.toNat).1,x.2.1)).bind fun y1=>some (decide (y1=x.2.2.2.2.2)))):Ht Bool).bind fun j2=>cond j2 (cond (Nat.ble (x.2.2.1.length+([(rdL u0h x.2.2.2.1 x.2.2.2.2.2.toNat)]:Hu u0h.den).length) z7w) (g (x.1,x.2.1,x.2.2.1++([(rdL u0h x.2.2.2.1 x.2.2.2.2.2.toNat)]:Hu u0h.den),x.2.2.2.1,x.2.2.2.2.1,IntKind.i64.wrap (x.2.2.2.2.2+1))) none) (g (x.1,x.2.1,x.2.2.1,x.2.2.2.1,x.2.2.2.2.1,IntKind.i64.wrap (x.2.2.2.2.2+1)))) none) (some (.inl (x.2.1,x.2.2.1)))
def t2c:=lpW _ _ t74
theorem r5w x:t2c x=t74 t2c x:=zW r4t 175 Tryz.f175 3 66 x (by kernel_rfl)
def t5n(g:j9r→Ht j0m)(x:j9r):Ht j0m:=cond (decide (x.2.2.2.2.2<x.2.2.2.2.1)) (cond (y4q x.2.2.2.2.2 x.2.2.2.1.length) (cond (decide ((rdL u0h x.2.2.2.1 x.2.2.2.2.2.toNat).2.2.2>x.1)) (cond (Nat.ble (x.2.2.1.length+([(rdL u0h x.2.2.2.1 x.2.2.2.2.2.toNat)]:Hu u0h.den).length) z7w) (g (x.1,x.2.1,x.2.2.1++([(rdL u0h x.2.2.2.1 x.2.2.2.2.2.toNat)]:Hu u0h.den),x.2.2.2.1,x.2.2.2.2.1,IntKind.i64.wrap (x.2.2.2.2.2+1))) none) (cond (!(rdL u0h x.2.2.2.1 x.2.2.2.2.2.toNat).2.2.1) (cond (Nat.ble (x.2.2.1.length+([(rdL u0h x.2.2.2.1 x.2.2.2.2.2.toNat)]:Hu u0h.den).length) z7w) (g (x.1,x.2.1,x.2.2.1++([(rdL u0h x.2.2.2.1 x.2.2.2.2.2.toNat)]:Hu u0h.den),x.2.2.2.1,x.2.2.2.2.1,IntKind.i64.wrap (x.2.2.2.2.2+1))) none) ((s37 ((rdL u0h x.2.2.2.1 x.2.2.2.2.2.toNat).1,x.2.1)).bind fun y5=>cond (decide (y5>1)) (cond (Nat.ble (x.2.2.1.length+([(rdL u0h x.2.2.2.1 x.2.2.2.2.2.toNat)]:Hu u0h.den).length) z7w) (g (x.1,x.2.1,x.2.2.1++([(rdL u0h x.2.2.2.1 x.2.2.2.2.2.toNat)]:Hu u0h.den),x.2.2.2.1,x.2.2.2.2.1,IntKind.i64.wrap (x.2.2.2.2.2+1))) none) (g (x.1,x.2.1,x.2.2.1,x.2.2.2.1,x.2.2.2.2.1,IntKind.i64.wrap (x.2.2.2.2.2+1)))))) none) (some (.inl x.2.2.1))
def t6c:=lpW _ _ t5n
theorem r1u x:t6c x=t5n t6c x:=zW r0z 175 Tryz.f175 11 66 x (by kernel_rfl)
def q05 (x:j41):Ht q0i:=(t2c (x.1,x.2,([]:Hu u0h.den),x.1,(x.1.length:Int),0)).bind fun r3=>match r3 with | .inl o4=>((t6c (o4.1,o4.2,([]:Hu u0h.den),o4.2,(o4.2.length:Int),0)).bind fun r6=>match r6 with | .inl o7=>some o7 | .inr z8=>none) | .inr z9=>none
theorem p5k:s9i=q05:=zC 175 rfl Tryz.func175 (by kernel_rfl)
def t0b(x:o4h):Ht Bool:=zK 174 x
def p11 (x:o4h):Ht Bool:=some (decide (x.1.2.2.2.1≤x.2))
theorem p2t:t0b=p11:=zC 174 rfl Tryz.func174 (by kernel_rfl)
def u59(x:o4i):Ht Int:=zK 10002 x
def u4w(g:j0i→Ht q3f)(x:j0i):Ht q3f:=cond (decide (x.2.2.2<x.2.2.1)) (cond (y4q x.2.2.2 x.1.length) ((t0b (rdL u0a x.1 x.2.2.2.toNat,x.2.1)).bind fun y1=>cond y1 (some (.inr x.2.2.2)) (g (x.1,x.2.1,x.2.2.1,IntKind.i64.wrap (x.2.2.2+1)))) none) (some (.inl ()))
def u1u:=lpW _ _ u4w
theorem t13 x:u1u x=u4w u1u x:=zW u46 10002 Tryz.f287 2 19 x (by kernel_rfl)
def u52 (x:o4i):Ht Int:=(u1u (x.1,x.2,(x.1.length:Int),0)).bind fun r2=>match r2 with | .inl o3=>some (- 1:Int) | .inr z4=>some z4
theorem t3h:u59=u52:=zC 10002 rfl Tryz.func287 (by kernel_rfl)
def u2o(x:o4i):Ht q3e:=zK 10001 x
def u4a(g:j0i→Ht j26)(x:j0i):Ht j26:=cond (decide (x.2.2.2<(x.1.length:Int))) (cond (y4q x.2.2.2 x.1.length) ((t0b (rdL u0a x.1 x.2.2.2.toNat,x.2.1)).bind fun y2=>cond (!y2) (cond (y4q x.2.2.1 x.1.length) (g (x.1.set x.2.2.1.toNat (rdL u0a x.1 x.2.2.2.toNat),x.2.1,IntKind.i64.wrap (x.2.2.1+1),IntKind.i64.wrap (x.2.2.2+1))) none) (g (x.1,x.2.1,x.2.2.1,IntKind.i64.wrap (x.2.2.2+1)))) none) (some (.inl (x.1,x.2.2.1)))
def u1i:=lpW _ _ u4a
theorem t0u x:u1i x=u4a u1i x:=zW u4j 10001 Tryz.f173 5 42 x (by kernel_rfl)
def u5g (x:o4i):Ht q3e:=(u59 x).bind fun y1=>cond (decide (y1=(- 1:Int))) (some x.1) ((u1i (x.1,x.2,y1,IntKind.i64.wrap (y1+1))).bind fun r3=>match r3 with | .inl o4=>cond (decide (0≤o4.2)&&decide (o4.2≤(o4.1.length:Int))&&decide ((o4.1.length:Int)≤(o4.1.length:Int))) (cond (decide (0≤(0:Int))&&decide ((0:Int)≤o4.2)&&decide (o4.2≤((o4.1.take o4.2.toNat++List.replicate ((o4.1.length:Int).toNat - o4.2.toNat) u0a.zero++o4.1.drop (o4.2.toNat+((o4.1.length:Int).toNat - o4.2.toNat))).length:Int))) (some ((o4.1.take o4.2.toNat++List.replicate ((o4.1.length:Int).toNat - o4.2.toNat) u0a.zero++o4.1.drop (o4.2.toNat+((o4.1.length:Int).toNat - o4.2.toNat))).take (o4.2.toNat - (0:Int).toNat))) none) none | .inr z5=>none)
theorem t2v:u2o=u5g:=zC 10001 rfl Tryz.func173 (by kernel_rfl)
def u47(x:Z73):Ht u74:=zK 64 x
def q4u (x:Z73):Ht u74:=(u1y x.1).bind fun y1=>(s6h x).bind fun y2=>(u2o (y1.2.1,y2)).bind fun y3=>(s9i (x.1.1,y2)).bind fun y4=>some (y4,y3,y1.2.2)
theorem p9g:u47=q4u:=zC 64 rfl Tryz.func64 (by kernel_rfl)
def u38(x:d0p):Ht q0i:=zK 200 x
theorem s49:∀(x:d0p),u38 x=y2q u0h x:=y6f (P:=Tryz.prog) (A:=A) (f:=200) (F:=y2q u0h) rfl
def t69(x:j6m):Ht Bool:=zK 198 x
def s4m (x:j6m):Ht Bool:=(u6t x).bind fun y1=>some (decide (y1>0))
theorem q0a:t69=s4m:=zC 198 rfl Tryz.func198 (by kernel_rfl)
def u11(x:d0a):Ht Int:=zK 10006 x
def u0u(g:j9z→Ht q3f)(x:j9z):Ht q3f:=cond (decide (x.2.2.2<x.2.2.1)) (cond (y4q x.2.2.2 x.1.length) ((t69 (rdL u0h x.1 x.2.2.2.toNat,x.2.1)).bind fun y1=>cond y1 (some (.inr x.2.2.2)) (g (x.1,x.2.1,x.2.2.1,IntKind.i64.wrap (x.2.2.2+1)))) none) (some (.inl ()))
def u0v:=lpW _ _ u0u
theorem u2y x:u0v x=u0u u0v x:=zW u2w 10006 Tryz.f197 2 19 x (by kernel_rfl)
def u25 (x:d0a):Ht Int:=(u0v (x.1,x.2,(x.1.length:Int),0)).bind fun r2=>match r2 with | .inl o3=>some (- 1:Int) | .inr z4=>some z4
theorem u78:u11=u25:=zC 10006 rfl Tryz.func197 (by kernel_rfl)
def t4b(x:j6v):Ht q0i:=zK 86 x
def u9m(g:j99→Ht j0m)(x:j99):Ht j0m:=cond (decide (x.2.2.2.2<x.2.2.2.1)) (cond (y4q x.2.2.2.2 x.2.2.1.length) ((u11 (x.2.1,(rdL u2l x.2.2.1 x.2.2.2.2.toNat).1,(rdL u2l x.2.2.1 x.2.2.2.2.toNat).2.1,(rdL u2l x.2.2.1 x.2.2.2.2.toNat).2.2,x.1)).bind fun y1=>cond (decide (y1<0)) ((u38 (x.2.1,(x.2.1.length:Int),([((rdL u2l x.2.2.1 x.2.2.2.2.toNat).1,(rdL u2l x.2.2.1 x.2.2.2.2.toNat).2.1,(rdL u2l x.2.2.1 x.2.2.2.2.toNat).2.2,x.1)]:Hu u0h.den))).bind fun y2=>g (x.1,y2,x.2.2.1,x.2.2.2.1,IntKind.i64.wrap (x.2.2.2.2+1))) ((u38 (x.2.1,y1,([((rdL u2l x.2.2.1 x.2.2.2.2.toNat).1,(rdL u2l x.2.2.1 x.2.2.2.2.toNat).2.1,(rdL u2l x.2.2.1 x.2.2.2.2.toNat).2.2,x.1)]:Hu u0h.den))).bind fun y3=>g (x.1,y3,x.2.2.1,x.2.2.2.1,IntKind.i64.wrap (x.2.2.2.2+1)))) none) (some (.inl x.2.1))
def u9q:=lpW _ _ u9m
theorem s41 x:u9q x=u9m u9q x:=zW s4r 86 Tryz.f86 3 42 x (by kernel_rfl)
def s7p (x:j6v):Ht q0i:=cond (Nat.ble x.1.length z7w) ((u9q (x.2.2,x.1,x.2.1,(x.2.1.length:Int),0)).bind fun r4=>match r4 with | .inl o5=>some o5 | .inr z6=>none) none
theorem q5u:t4b=s7p:=zC 86 rfl Tryz.func86 (by kernel_rfl)
def s2y(x:j61):Ht Bool:=zK 201 x
def q0v (x:j61):Ht Bool:=((cond (!y3c x.2 x.1.1) (some (y3c x.2 x.1.2||z7o x.2 x.1.2)) (some false)):Ht Bool).bind fun j1=>some j1
theorem p5a:s2y=q0v:=zC 201 rfl Tryz.func201 (by kernel_rfl)
def s9h(x:j62):Ht Bool:=zK 195 x
def t73(g:j9e→Ht (j6s⊕Bool))(x:j9e):Ht (j6s⊕Bool):=cond (decide (x.2.2.2.2.2.2.2<x.2.2.2.2.2.2.1)) (cond (y4q x.2.2.2.2.2.2.2 x.2.2.2.2.2.1.length) ((s2y (x.2.1,(rdL u2l x.2.2.2.2.2.1 x.2.2.2.2.2.2.2.toNat).1)).bind fun y1=>cond y1 (some (.inr true)) (g (x.1,x.2.1,x.2.2.1,x.2.2.2.1,x.2.2.2.2.1,x.2.2.2.2.2.1,x.2.2.2.2.2.2.1,IntKind.i64.wrap (x.2.2.2.2.2.2.2+1)))) none) (some (.inl (x.1,x.2.2.1,x.2.2.2.1,x.2.2.2.2.1)))
def t2b:=lpW _ _ t73
theorem r5v x:t2b x=t73 t2b x:=zW r4s 195 Tryz.f195 5 27 x (by kernel_rfl)
def t72(g:j6s→Ht r97)(x:j6s):Ht r97:=cond (decide (x.2.2.2<x.2.2.1)) (cond (y4q x.2.2.2 x.2.1.length) ((t2b (x.1,rdL p4x x.2.1 x.2.2.2.toNat,x.2.1,x.2.2.1,x.2.2.2,x.1,(x.1.length:Int),0)).bind fun r2=>match r2 with | .inl o3=>g (o3.1,o3.2.1,o3.2.2.1,IntKind.i64.wrap (o3.2.2.2+1)) | .inr z4=>some (.inr z4)) none) (some (.inl ()))
def t8t:=lpW _ _ t72
theorem r5u x:t8t x=t72 t8t x:=zW r4r 195 Tryz.f195 2 27 x (by kernel_rfl)
def q04 (x:j62):Ht Bool:=(t8t (x.2,x.1,(x.1.length:Int),0)).bind fun r5=>match r5 with | .inl o6=>some false | .inr z7=>some z7
theorem p5j:s9h=q04:=zC 195 rfl Tryz.func195 (by kernel_rfl)
def s6e(x:Z51):Ht Bool:=zK 410 x
def r60 (x:Z51):Ht Bool:=((cond (decide (x.1.2.1=3)) (some (decide (x.1.2.2.2.1≤x.2.2.2.1))) (some false)):Ht Bool).bind fun j1=>some j1
theorem p2i:s6e=r60:=zC 410 rfl Tryz.func410 (by kernel_rfl)
def r20(x:Z51):Ht Bool:=zK 367 x
def q4k (x:Z51):Ht Bool:=cond (!decide (x.1.1=x.2.1)) ((s6e x).bind fun y1=>cond (!y1) ((s6e (x.2,x.1)).bind fun y2=>some (!y2)) (some false)) (some false)
theorem p86:r20=q4k:=zC 367 rfl Tryz.func367 (by kernel_rfl)
def u6s(x:Z51):Ht Bool:=zK 286 x
def q8j (x:Z51):Ht Bool:=(((r20 x).bind fun y1=>cond y1 ((s9h (x.1.2.2.2.2.1,x.2.2.2.2.2.2.1)).bind fun y2=>some y2) (some false)):Ht Bool).bind fun j3=>some j3
theorem o1t:u6s=q8j:=zC 286 rfl Tryz.func286 (by kernel_rfl)
def s2z(x:Z51):Ht Bool:=zK 366 x
def q0w (x:Z51):Ht Bool:=(((u86 x.1).bind fun y1=>cond y1 ((u6s (x.2,x.1)).bind fun y2=>some y2) (some false)):Ht Bool).bind fun j3=>some j3
theorem p5b:s2z=q0w:=zC 366 rfl Tryz.func366 (by kernel_rfl)
def u6h(x:Z91):Ht Int:=zK 10009 x
def u5e(g:Z76→Ht q3f)(x:Z76):Ht q3f:=cond (decide (x.2.2.2<x.2.2.1)) (cond (y4q x.2.2.2 x.1.length) ((s2z (rdL u0a x.1 x.2.2.2.toNat,x.2.1)).bind fun y1=>cond y1 (some (.inr x.2.2.2)) (g (x.1,x.2.1,x.2.2.1,IntKind.i64.wrap (x.2.2.2+1)))) none) (some (.inl ()))
def u1x:=lpW _ _ u5e
theorem t27 x:u1x x=u5e u1x x:=zW u5m 10009 Tryz.f287 2 19 x (by kernel_rfl)
def u6g (x:Z91):Ht Int:=(u1x (x.1,x.2,(x.1.length:Int),0)).bind fun r2=>match r2 with | .inl o3=>some (- 1:Int) | .inr z4=>some z4
theorem t4g:u6h=u6g:=zC 10009 rfl Tryz.func287 (by kernel_rfl)
def u48(x:Z91):Ht Bool:=zK 10008 x
def u4x (x:Z91):Ht Bool:=(u6h x).bind fun y1=>some (decide (y1≥0))
theorem t1n:u48=u4x:=zC 10008 rfl Tryz.func204 (by kernel_rfl)
def t9z(x:Z91):Ht Bool:=zK 10007 x
def t9s (x:Z91):Ht Bool:=(u48 x).bind fun y1=>some y1
theorem r0o:t9z=t9s:=zC 10007 rfl Tryz.func93 (by kernel_rfl)
def s3r(x:Z94):Ht Bool:=zK 284 x
def q8p (x:Z94):Ht Bool:=(t9z (x.2,x.1)).bind fun y1=>some y1
theorem o1z:s3r=q8p:=zC 284 rfl Tryz.func284 (by kernel_rfl)
def u8p(x:Z51):Ht Bool:=zK 285 x
def q9y (x:Z51):Ht Bool:=some (decide (x.1.1=x.2.1))
theorem p0d:u8p=q9y:=zC 285 rfl Tryz.func285 (by kernel_rfl)
def u5r(x:Z91):Ht Int:=zK 10011 x
def u4e(g:Z76→Ht q3f)(x:Z76):Ht q3f:=cond (decide (x.2.2.2<x.2.2.1)) (cond (y4q x.2.2.2 x.1.length) ((u8p (rdL u0a x.1 x.2.2.2.toNat,x.2.1)).bind fun y1=>cond y1 (some (.inr x.2.2.2)) (g (x.1,x.2.1,x.2.2.1,IntKind.i64.wrap (x.2.2.2+1)))) none) (some (.inl ()))
def u1m:=lpW _ _ u4e
theorem t0y x:u1m x=u4e u1m x:=zW u4n 10011 Tryz.f287 2 19 x (by kernel_rfl)
def u5k (x:Z91):Ht Int:=(u1m (x.1,x.2,(x.1.length:Int),0)).bind fun r2=>match r2 with | .inl o3=>some (- 1:Int) | .inr z4=>some z4
theorem t2z:u5r=u5k:=zC 10011 rfl Tryz.func287 (by kernel_rfl)
def u1v(x:Z91):Ht q3e:=zK 10010 x
def u3w(g:Z76→Ht j26)(x:Z76):Ht j26:=cond (decide (x.2.2.2<(x.1.length:Int))) (cond (y4q x.2.2.2 x.1.length) ((u8p (rdL u0a x.1 x.2.2.2.toNat,x.2.1)).bind fun y2=>cond (!y2) (cond (y4q x.2.2.1 x.1.length) (g (x.1.set x.2.2.1.toNat (rdL u0a x.1 x.2.2.2.toNat),x.2.1,IntKind.i64.wrap (x.2.2.1+1),IntKind.i64.wrap (x.2.2.2+1))) none) (g (x.1,x.2.1,x.2.2.1,IntKind.i64.wrap (x.2.2.2+1)))) none) (some (.inl (x.1,x.2.2.1)))
def u1b:=lpW _ _ u3w
theorem t0o x:u1b x=u3w u1b x:=zW u31 10010 Tryz.f173 5 42 x (by kernel_rfl)
def u4z (x:Z91):Ht q3e:=(u5r x).bind fun y1=>cond (decide (y1=(- 1:Int))) (some x.1) ((u1b (x.1,x.2,y1,IntKind.i64.wrap (y1+1))).bind fun r3=>match r3 with | .inl o4=>cond (decide (0≤o4.2)&&decide (o4.2≤(o4.1.length:Int))&&decide ((o4.1.length:Int)≤(o4.1.length:Int))) (cond (decide (0≤(0:Int))&&decide ((0:Int)≤o4.2)&&decide (o4.2≤((o4.1.take o4.2.toNat++List.replicate ((o4.1.length:Int).toNat - o4.2.toNat) u0a.zero++o4.1.drop (o4.2.toNat+((o4.1.length:Int).toNat - o4.2.toNat))).length:Int))) (some ((o4.1.take o4.2.toNat++List.replicate ((o4.1.length:Int).toNat - o4.2.toNat) u0a.zero++o4.1.drop (o4.2.toNat+((o4.1.length:Int).toNat - o4.2.toNat))).take (o4.2.toNat - (0:Int).toNat))) none) none | .inr z5=>none)
theorem t1p:u1v=u4z:=zC 10010 rfl Tryz.func173 (by kernel_rfl)
def u9e(x:Z40):Ht u74:=zK 166 x
def t71(g:Z8→Ht (Z11⊕Unit))(x:Z8):Ht (Z11⊕Unit):=cond (decide (x.2.2.2.2.2.2<x.2.2.2.2.2.1)) (cond (y4q x.2.2.2.2.2.2 x.2.2.1.2.2.1.length) (cond (rdL u0a x.2.2.1.2.2.1 x.2.2.2.2.2.2.toNat).2.2.2.2.2.2.1 (cond (y4q x.2.2.2.2.2.2 x.2.2.1.2.2.1.length) (g (x.1,x.2.1,(x.2.2.1.1,x.2.2.1.2.1,x.2.2.1.2.2.1.set x.2.2.2.2.2.2.toNat ((rdL u0a x.2.2.1.2.2.1 x.2.2.2.2.2.2.toNat).1,(rdL u0a x.2.2.1.2.2.1 x.2.2.2.2.2.2.toNat).2.1,(rdL u0a x.2.2.1.2.2.1 x.2.2.2.2.2.2.toNat).2.2.1,(rdL u0a x.2.2.1.2.2.1 x.2.2.2.2.2.2.toNat).2.2.2.1,(rdL u0a x.2.2.1.2.2.1 x.2.2.2.2.2.2.toNat).2.2.2.2.1,(rdL u0a x.2.2.1.2.2.1 x.2.2.2.2.2.2.toNat).2.2.2.2.2.1,true,(rdL u0a x.2.2.1.2.2.1 x.2.2.2.2.2.2.toNat).2.2.2.2.2.2.2),x.2.2.1.2.2.2),x.2.2.2.1,(),x.2.2.2.2.2.1,IntKind.i64.wrap (x.2.2.2.2.2.2+1))) none) ((u6s (rdL u0a x.2.2.1.2.2.1 x.2.2.2.2.2.2.toNat,x.2.2.2.1)).bind fun y5=>cond (y4q x.2.2.2.2.2.2 x.2.2.1.2.2.1.length) (g (x.1,x.2.1,(x.2.2.1.1,x.2.2.1.2.1,x.2.2.1.2.2.1.set x.2.2.2.2.2.2.toNat ((rdL u0a x.2.2.1.2.2.1 x.2.2.2.2.2.2.toNat).1,(rdL u0a x.2.2.1.2.2.1 x.2.2.2.2.2.2.toNat).2.1,(rdL u0a x.2.2.1.2.2.1 x.2.2.2.2.2.2.toNat).2.2.1,(rdL u0a x.2.2.1.2.2.1 x.2.2.2.2.2.2.toNat).2.2.2.1,(rdL u0a x.2.2.1.2.2.1 x.2.2.2.2.2.2.toNat).2.2.2.2.1,(rdL u0a x.2.2.1.2.2.1 x.2.2.2.2.2.2.toNat).2.2.2.2.2.1,y5,(rdL u0a x.2.2.1.2.2.1 x.2.2.2.2.2.2.toNat).2.2.2.2.2.2.2),x.2.2.1.2.2.2),x.2.2.2.1,(),x.2.2.2.2.2.1,IntKind.i64.wrap (x.2.2.2.2.2.2+1))) none)) none) (some (.inl (x.1,x.2.1,x.2.2.1,x.2.2.2.1)))
def u8f:=lpW _ _ t71
theorem r5t x:u8f x=t71 u8f x:=zW r4q 166 Tryz.f166 9 80 x (by kernel_rfl)
def q03 (x:Z40):Ht u74:=(u1y x.1).bind fun y1=>(t3a x.2).bind fun y2=>cond x.2.2.2.2.2.2.2.1 ((t4b (x.1.1,x.2.2.2.2.2.2.1,IntKind.i64.wrap (y1.2.2.2.1+1))).bind fun y3=>(u1v (y1.2.2.1,x.2)).bind fun y4=>(u8f (x.2,(([]:Hu u0h.den),([]:Hu u0a.den),([]:Hu u0a.den),0,0),(y3,y1.2.1,y4,IntKind.i64.wrap (y1.2.2.2.1+1),y1.2.2.2.2),(y2.1,3,y2.2.2.1,IntKind.i64.wrap (x.1.2.2.2.1+1),y2.2.2.2.2.1,y2.2.2.2.2.2.1,true,(⟨#[]⟩:Hs)),(),(y4.length:Int),0)).bind fun r6=>match r6 with | .inl o7=>cond (Nat.ble (o7.2.2.1.2.1.length+([o7.2.2.2]:Hu u0a.den).length) z7w) (some (o7.2.2.1.1,o7.2.2.1.2.1++([o7.2.2.2]:Hu u0a.den),o7.2.2.1.2.2.1,o7.2.2.1.2.2.2.1,y8h o7.2.2.1.2.2.2.2 (IntKind.i64.wrap (o7.1.1+1)))) none | .inr z8=>none) ((s3r (x.2,x.1.2.1)).bind fun y9=>(t4b (x.1.1,x.2.2.2.2.2.2.1,IntKind.i64.wrap (y1.2.2.2.1+1))).bind fun y10=>(u1v (y1.2.2.1,x.2)).bind fun y11=>(u8f (x.2,(([]:Hu u0h.den),([]:Hu u0a.den),([]:Hu u0a.den),0,0),(y10,y1.2.1,y11,IntKind.i64.wrap (y1.2.2.2.1+1),y1.2.2.2.2),(y2.1,3,y2.2.2.1,IntKind.i64.wrap (x.1.2.2.2.1+1),y2.2.2.2.2.1,y2.2.2.2.2.2.1,y9,(⟨#[]⟩:Hs)),(),(y11.length:Int),0)).bind fun r13=>match r13 with | .inl o14=>cond (Nat.ble (o14.2.2.1.2.1.length+([o14.2.2.2]:Hu u0a.den).length) z7w) (some (o14.2.2.1.1,o14.2.2.1.2.1++([o14.2.2.2]:Hu u0a.den),o14.2.2.1.2.2.1,o14.2.2.1.2.2.2.1,y8h o14.2.2.1.2.2.2.2 (IntKind.i64.wrap (o14.1.1+1)))) none | .inr z15=>none)
theorem p5i:u9e=q03:=zC 166 rfl Tryz.func166 (by kernel_rfl)
def t88(x:j0x):Ht Bool:=zK 288 x
def r3r (x:j0x):Ht Bool:=some (z7o x.1.2.2.2.2.2.2.2 x.2)
theorem q99:t88=r3r:=zC 288 rfl Tryz.func288 (by kernel_rfl)
def u5q(x:j4r):Ht Int:=zK 10012 x
def u4d(g:j4q→Ht q3f)(x:j4q):Ht q3f:=cond (decide (x.2.2.2<x.2.2.1)) (cond (y4q x.2.2.2 x.1.length) ((t88 (rdL u0a x.1 x.2.2.2.toNat,x.2.1)).bind fun y1=>cond y1 (some (.inr x.2.2.2)) (g (x.1,x.2.1,x.2.2.1,IntKind.i64.wrap (x.2.2.2+1)))) none) (some (.inl ()))
def u1l:=lpW _ _ u4d
theorem t0x x:u1l x=u4d u1l x:=zW u4m 10012 Tryz.f287 2 19 x (by kernel_rfl)
def u5j (x:j4r):Ht Int:=(u1l (x.1,x.2,(x.1.length:Int),0)).bind fun r2=>match r2 with | .inl o3=>some (- 1:Int) | .inr z4=>some z4
theorem t2y:u5q=u5j:=zC 10012 rfl Tryz.func287 (by kernel_rfl)
def s21(x:j0h):Ht Int:=zK 167 x
def q00 (x:j0h):Ht Int:=(u5q (x.1.2.2.1,x.2)).bind fun y1=>some y1
theorem p5f:s21=q00:=zC 167 rfl Tryz.func167 (by kernel_rfl)
end
end Go.Proofs.YtkdpclfhapphhaaGreat.Ab
