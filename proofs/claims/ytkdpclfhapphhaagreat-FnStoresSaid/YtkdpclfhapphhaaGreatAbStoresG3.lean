import Derived.Test.YtkdpclfhapphhaaGreatAbStoresG2
namespace Go.Proofs.YtkdpclfhapphhaaGreat.Ab
open Go
set_option linter.unusedVariables false
noncomputable section
set_option maxRecDepth 100000
def s35(x:Z36):Ht u74:=zK 168 x
def t3n(g:Z5→Ht (Z6⊕Unit))(x:Z5):Ht (Z6⊕Unit):=cond (decide (x.2.2.2.2.2.2.2.2.2<x.2.2.2.2.2.2.2.2.1)) (cond (y4q x.2.2.2.2.2.2.2.2.2 x.2.2.2.1.2.2.1.length) (cond (y3c (rdL u0a x.2.2.2.1.2.2.1 x.2.2.2.2.2.2.2.2.2.toNat).2.2.2.2.2.2.2 x.1) (cond (Nat.ble (x.2.2.2.2.2.1.length+([(rdL u0a x.2.2.2.1.2.2.1 x.2.2.2.2.2.2.2.2.2.toNat)]:Hu u0a.den).length) z7w) (g (x.1,x.2.1,x.2.2.1,x.2.2.2.1,x.2.2.2.2.1,x.2.2.2.2.2.1++([(rdL u0a x.2.2.2.1.2.2.1 x.2.2.2.2.2.2.2.2.2.toNat)]:Hu u0a.den),x.2.2.2.2.2.2.1,(),x.2.2.2.2.2.2.2.2.1,IntKind.i64.wrap (x.2.2.2.2.2.2.2.2.2+1))) none) (cond (Nat.ble (x.2.2.2.2.2.2.1.length+([(rdL u0a x.2.2.2.1.2.2.1 x.2.2.2.2.2.2.2.2.2.toNat)]:Hu u0a.den).length) z7w) (g (x.1,x.2.1,x.2.2.1,x.2.2.2.1,x.2.2.2.2.1,x.2.2.2.2.2.1,x.2.2.2.2.2.2.1++([(rdL u0a x.2.2.2.1.2.2.1 x.2.2.2.2.2.2.2.2.2.toNat)]:Hu u0a.den),(),x.2.2.2.2.2.2.2.2.1,IntKind.i64.wrap (x.2.2.2.2.2.2.2.2.2+1))) none)) none) (some (.inl (x.2.1,x.2.2.1,x.2.2.2.1,x.2.2.2.2.1,x.2.2.2.2.2.1,x.2.2.2.2.2.2.1)))
def u60:=lpW _ _ t3n
theorem s8v x:u60 x=t3n u60 x:=zW s74 168 Tryz.f168 6 64 x (by kernel_rfl)
def r3o (x:Z36):Ht u74:=(u1y x.1).bind fun y1=>(t3a x.2.1).bind fun y2=>cond x.2.1.2.2.2.2.2.2.1 ((u60 (x.2.2,x.2.1,(([]:Hu u0h.den),([]:Hu u0a.den),([]:Hu u0a.den),0,0),y1,(y2.1,2,y2.2.2.1,y2.2.2.2.1,y2.2.2.2.2.1,y2.2.2.2.2.2.1,true,x.2.2),([]:Hu u0a.den),([]:Hu u0a.den),(),(y1.2.2.1.length:Int),0)).bind fun r3=>match r3 with | .inl o4=>cond (Nat.ble (o4.2.2.2.2.1.length+([o4.2.2.2.1]:Hu u0a.den).length) z7w) (cond (Nat.ble ((o4.2.2.2.2.1++([o4.2.2.2.1]:Hu u0a.den)).length+o4.2.2.2.2.2.length) z7w) (some (o4.2.2.1.1,o4.2.2.1.2.1,(o4.2.2.2.2.1++([o4.2.2.2.1]:Hu u0a.den))++o4.2.2.2.2.2,o4.2.2.1.2.2.2.1,y8h o4.2.2.1.2.2.2.2 (IntKind.i64.wrap (o4.1.1+1)))) none) none | .inr z5=>none) ((s3r (x.2.1,x.1.2.1)).bind fun y6=>(u60 (x.2.2,x.2.1,(([]:Hu u0h.den),([]:Hu u0a.den),([]:Hu u0a.den),0,0),y1,(y2.1,2,y2.2.2.1,y2.2.2.2.1,y2.2.2.2.2.1,y2.2.2.2.2.2.1,y6,x.2.2),([]:Hu u0a.den),([]:Hu u0a.den),(),(y1.2.2.1.length:Int),0)).bind fun r7=>match r7 with | .inl o8=>cond (Nat.ble (o8.2.2.2.2.1.length+([o8.2.2.2.1]:Hu u0a.den).length) z7w) (cond (Nat.ble ((o8.2.2.2.2.1++([o8.2.2.2.1]:Hu u0a.den)).length+o8.2.2.2.2.2.length) z7w) (some (o8.2.2.1.1,o8.2.2.1.2.1,(o8.2.2.2.2.1++([o8.2.2.2.1]:Hu u0a.den))++o8.2.2.2.2.2,o8.2.2.1.2.2.2.1,y8h o8.2.2.1.2.2.2.2 (IntKind.i64.wrap (o8.1.1+1)))) none) none | .inr z9=>none)
theorem q96:s35=r3o:=zC 168 rfl Tryz.func168 (by kernel_rfl)
def u8o(x:j0x):Ht Bool:=zK 289 x
def q9x (x:j0x):Ht Bool:=some (z7o x.1.2.2.2.2.2.2.2 x.2)
theorem q95:u8o=q9x:=zC 289 rfl Tryz.func289 (by kernel_rfl)
def u5p(x:j4r):Ht Int:=zK 10014 x
def u4c(g:j4q→Ht q3f)(x:j4q):Ht q3f:=cond (decide (x.2.2.2<x.2.2.1)) (cond (y4q x.2.2.2 x.1.length) ((u8o (rdL u0a x.1 x.2.2.2.toNat,x.2.1)).bind fun y1=>cond y1 (some (.inr x.2.2.2)) (g (x.1,x.2.1,x.2.2.1,IntKind.i64.wrap (x.2.2.2+1)))) none) (some (.inl ()))
def u1k:=lpW _ _ u4c
theorem t0w x:u1k x=u4c u1k x:=zW u4l 10014 Tryz.f287 2 19 x (by kernel_rfl)
def u5i (x:j4r):Ht Int:=(u1k (x.1,x.2,(x.1.length:Int),0)).bind fun r2=>match r2 with | .inl o3=>some (- 1:Int) | .inr z4=>some z4
theorem t2x:u5p=u5i:=zC 10014 rfl Tryz.func287 (by kernel_rfl)
def u2j(x:j4r):Ht q3e:=zK 10013 x
def u3v(g:j4q→Ht j26)(x:j4q):Ht j26:=cond (decide (x.2.2.2<(x.1.length:Int))) (cond (y4q x.2.2.2 x.1.length) ((u8o (rdL u0a x.1 x.2.2.2.toNat,x.2.1)).bind fun y2=>cond (!y2) (cond (y4q x.2.2.1 x.1.length) (g (x.1.set x.2.2.1.toNat (rdL u0a x.1 x.2.2.2.toNat),x.2.1,IntKind.i64.wrap (x.2.2.1+1),IntKind.i64.wrap (x.2.2.2+1))) none) (g (x.1,x.2.1,x.2.2.1,IntKind.i64.wrap (x.2.2.2+1)))) none) (some (.inl (x.1,x.2.2.1)))
def u1a:=lpW _ _ u3v
theorem t0n x:u1a x=u3v u1a x:=zW u30 10013 Tryz.f173 5 42 x (by kernel_rfl)
def u4y (x:j4r):Ht q3e:=(u5p x).bind fun y1=>cond (decide (y1=(- 1:Int))) (some x.1) ((u1a (x.1,x.2,y1,IntKind.i64.wrap (y1+1))).bind fun r3=>match r3 with | .inl o4=>cond (decide (0≤o4.2)&&decide (o4.2≤(o4.1.length:Int))&&decide ((o4.1.length:Int)≤(o4.1.length:Int))) (cond (decide (0≤(0:Int))&&decide ((0:Int)≤o4.2)&&decide (o4.2≤((o4.1.take o4.2.toNat++List.replicate ((o4.1.length:Int).toNat - o4.2.toNat) u0a.zero++o4.1.drop (o4.2.toNat+((o4.1.length:Int).toNat - o4.2.toNat))).length:Int))) (some ((o4.1.take o4.2.toNat++List.replicate ((o4.1.length:Int).toNat - o4.2.toNat) u0a.zero++o4.1.drop (o4.2.toNat+((o4.1.length:Int).toNat - o4.2.toNat))).take (o4.2.toNat - (0:Int).toNat))) none) none | .inr z5=>none)
theorem t1o:u2j=u4y:=zC 10013 rfl Tryz.func173 (by kernel_rfl)
def s2x(x:j0h):Ht u74:=zK 169 x
def q0t (x:j0h):Ht u74:=(u1y x.1).bind fun y1=>(u2j (y1.2.2.1,x.2)).bind fun y2=>some (y1.1,y1.2.1,y2,y1.2.2.2)
theorem p48:s2x=q0t:=zC 169 rfl Tryz.func169 (by kernel_rfl)
def r23(x:Z17):Ht o5y:=zK 62 x
def q4q (x:Z17):Ht o5y:=(((u27 x.1).bind fun y1=>cond (!y1) (some true) ((s04 x.2).bind fun y2=>some (!y2))):Ht Bool).bind fun j3=>cond j3 ((u1y x.1).bind fun y4=>some (y4,false)) ((u1y x.1).bind fun y5=>cond (decide (x.2.1=1)) ((u9e (x.1,x.2.2.1)).bind fun y6=>(u47 (y6,([]:Hu u0a.den))).bind fun y7=>((cond (!(decide (x.2.2.1.2.2.2.1=(IntKind.i64.wrap (x.1.2.2.2.1+1))))) (some true) ((u27 y7).bind fun y8=>some (!y8))):Ht Bool).bind fun j9=>cond j9 ((u1y x.1).bind fun y10=>some (y10,false)) (some (y7,true))) (cond (decide (x.2.1=2)) (((cond (decide ((x.1.2.2.1.length:Int)<(3:Int))) ((s21 (x.1,x.2.2.1.2.2.2.2.2.2.2)).bind fun y11=>some (decide (y11<0))) (some false)):Ht Bool).bind fun j12=>(s35 (x.1,x.2.2.1,x.2.2.1.2.2.2.2.2.2.2)).bind fun y13=>(u47 (y13,([]:Hu u0a.den))).bind fun y14=>((cond (!j12) (some true) ((u27 y14).bind fun y15=>some (!y15))):Ht Bool).bind fun j16=>cond j16 ((u1y x.1).bind fun y17=>some (y17,false)) (some (y14,true))) (cond (decide (x.2.1=3)) ((s21 (x.1,x.2.2.2.1)).bind fun y18=>((cond (decide (y18≥0)) (some x.2.2.2.2.1) (some false)):Ht Bool).bind fun j19=>cond j19 (cond (y4q y18 x.1.2.2.1.length) ((u9e (x.1,rdL u0a x.1.2.2.1 y18.toNat)).bind fun y20=>(u47 (y20,([]:Hu u0a.den))).bind fun y21=>((cond (!(decide (y18≥0))) (some true) ((u27 y21).bind fun y22=>some (!y22))):Ht Bool).bind fun j23=>cond j23 ((u1y x.1).bind fun y24=>some (y24,false)) (some (y21,true))) none) ((s2x (x.1,x.2.2.2.1)).bind fun y25=>(u47 (y25,([]:Hu u0a.den))).bind fun y26=>((cond (!(decide (y18≥0))) (some true) ((u27 y26).bind fun y27=>some (!y27))):Ht Bool).bind fun j28=>cond j28 ((u1y x.1).bind fun y29=>some (y29,false)) (some (y26,true)))) ((u1y x.2.2.2.2.2).bind fun y30=>(u47 (y30,([]:Hu u0a.den))).bind fun y31=>(((u27 y31).bind fun y32=>some (!y32)):Ht Bool).bind fun j33=>cond j33 ((u1y x.1).bind fun y34=>some (y34,false)) (some (y31,true))))))
theorem p9c:r23=q4q:=zC 62 rfl Tryz.func62 (by kernel_rfl)
def u9d(x:t01):Ht o5y:=zK 11 x
def t7y(g:Z22→Ht (Z32⊕o5y))(x:Z22):Ht (Z32⊕o5y):=cond (decide (x.2.2.2.2<x.2.2.2.1)) (cond (y4q x.2.2.2.2 x.2.2.1.length) ((s1z (rdL Ty.str x.2.2.1 x.2.2.2.2.toNat)).bind fun y3=>(r23 (x.2.1,y3.1)).bind fun y4=>((cond (!y3.2) (some true) (some (!y4.2))):Ht Bool).bind fun j5=>cond j5 (some (.inr ((([]:Hu u0h.den),([]:Hu u0a.den),([]:Hu u0a.den),0,0),false))) (g (x.1,y4.1,x.2.2.1,x.2.2.2.1,IntKind.i64.wrap (x.2.2.2.2+1)))) none) (some (.inl (x.1,x.2.1)))
def u69:=lpW _ _ t7y
theorem r5q x:u69 x=t7y u69 x:=zW r4m 11 Tryz.f11 3 40 x (by kernel_rfl)
def q0x (x:t01):Ht o5y:=(q2y ()).bind fun y1=>(s6g x).bind fun y2=>(u69 ((([]:Hu u0h.den),([]:Hu u0a.den),([]:Hu u0a.den),0,0),y1,y2,(y2.length:Int),0)).bind fun r6=>match r6 with | .inl o7=>some (o7.2,true) | .inr z8=>some z8
theorem p5c:u9d=q0x:=zC 11 rfl Tryz.func11 (by kernel_rfl)
def s00(x:t01):Ht Bool:=zK 163 x
def t96(g:j8c→Ht j4w)(x:j8c):Ht j4w:=cond (decide (x.2.2.2<x.2.2.1)) (cond (y4q x.2.2.2 x.2.1.length) (cond (!decide (((rdL Ty.str x.2.1 x.2.2.2.toNat).size:Int)=(64:Int))) (some (.inr false)) (g (x.1,x.2.1,x.2.2.1,IntKind.i64.wrap (x.2.2.2+1)))) none) (some (.inl x.1))
def s0h:=lpW _ _ t96
theorem r9i x:s0h x=t96 s0h x:=zW r8h 163 Tryz.f163 2 50 x (by kernel_rfl)
def t97(g:j8d→Ht j4w)(x:j8d):Ht j4w:=cond (decide (x.2.2.2<x.2.2.1)) (cond (y4q x.2.2.2 x.2.1.length) ((((u02 ((rdL p7e x.2.1 x.2.2.2.toNat).1,0,IntKind.i64.wrap ((x.1.1.length:Int) - (1:Int)))).bind fun y3=>cond (!y3) (some true) (some (!decide (((rdL p7e x.2.1 x.2.2.2.toNat).2.size:Int)=(64:Int))))):Ht Bool).bind fun j4=>cond j4 (some (.inr false)) (g (x.1,x.2.1,x.2.2.1,IntKind.i64.wrap (x.2.2.2+1)))) none) (some (.inl x.1))
def s0i:=lpW _ _ t97
theorem r9j x:s0i x=t97 s0i x:=zW r8i 163 Tryz.f163 8 50 x (by kernel_rfl)
def q4n (x:t01):Ht Bool:=(s0h (x,x.1,(x.1.length:Int),0)).bind fun r1=>match r1 with | .inl o2=>((s0i (o2,o2.2,(o2.2.length:Int),0)).bind fun r5=>match r5 with | .inl o6=>((((u02 ((o6.1.length:Int),1,100)).bind fun y7=>cond y7 (some (decide ((o6.2.length:Int)≤(60:Int)))) (some false)):Ht Bool).bind fun j8=>some j8) | .inr z9=>some z9) | .inr z10=>some z10
theorem p89:s00=q4n:=zC 163 rfl Tryz.func163 (by kernel_rfl)
def t9y(x:t01):Ht Bool:=zK 58 x
def q8n (x:t01):Ht Bool:=(u99 (x,0)).bind fun y1=>(u99 (x,1)).bind fun y2=>(((s00 x).bind fun y3=>cond y3 (cond (decide ((x.1.length:Int)=(97:Int))) (cond (decide ((x.2.length:Int)=(0:Int))) (cond y1.2.2 (some y2.2.2) (some false)) (some false)) (some false)) (some false)):Ht Bool).bind fun j4=>some j4
theorem o1x:t9y=q8n:=zC 58 rfl Tryz.func58 (by kernel_rfl)
def u1o(x:t01):Ht t01:=zK 59 x
def r7e (x:t01):Ht t01:=cond (Nat.ble x.1.length z7w) (cond (Nat.ble x.2.length z7w) (some x) none) none
theorem p2x:u1o=r7e:=zC 59 rfl Tryz.func59 (by kernel_rfl)
def t89(x:t01):Ht Z44:=zK 10 x
def r3s (x:t01):Ht Z44:=(u9d x).bind fun y1=>((cond (!y1.2) (some true) ((t9y x).bind fun y2=>some (!y2))):Ht Bool).bind fun j3=>cond j3 (some ((((([]:Hu u0h.den),([]:Hu u0a.den),([]:Hu u0a.den),0,0),([]:Hu u0a.den)),([]:Hu Hs),([]:Hu p7e.den)),false)) ((u1o x).bind fun y4=>some (((y1.1,([]:Hu u0a.den)),y4),true))
theorem p0a:t89=r3s:=zC 10 rfl Tryz.func10 (by kernel_rfl)
def t0e(x:(o79×o79)):Ht Bool:=zK 87 x
def u5u(g:d0q→Ht r97)(x:d0q):Ht r97:=cond (decide (x.2.2.2<x.2.2.1)) (cond (y4q x.2.2.2 x.1.length) (cond (y4q x.2.2.2 x.2.1.length) (cond (!(z7o (rdL p4x x.1 x.2.2.2.toNat).1 (rdL p4x x.2.1 x.2.2.2.toNat).1&&(z7o (rdL p4x x.1 x.2.2.2.toNat).2 (rdL p4x x.2.1 x.2.2.2.toNat).2&&true))) (some (.inr false)) (g (x.1,x.2.1,x.2.2.1,IntKind.i64.wrap (x.2.2.2+1)))) none) none) (some (.inl ()))
def u5v:=lpW _ _ u5u
theorem t64 x:u5v x=u5u u5v x:=zW t60 87 Tryz.f87 4 26 x (by kernel_rfl)
def t9u (x:(o79×o79)):Ht Bool:=cond (!decide ((x.1.length:Int)=(x.2.length:Int))) (some false) ((u5v (x.1,x.2,(x.1.length:Int),0)).bind fun r1=>match r1 with | .inl o2=>some true | .inr z3=>some z3)
theorem r0q:t0e=t9u:=zC 87 rfl Tryz.func87 (by kernel_rfl)
def t5b(x:p09):Ht p09:=zK 312 x
theorem s51:∀(x:p09),t5b x=y7a x:=y6f (P:=Tryz.prog) (A:=A) (f:=312) (F:=y7a) rfl
def t04(x:p09):Ht p09:=zK 313 x
theorem s3l:∀(x:p09),t04 x=y0m x:=y6f (P:=Tryz.prog) (A:=A) (f:=313) (F:=y0m) rfl
def r25(x:q0i):Ht p09:=zK 202 x
def t99(g:d0i→Ht j4y)(x:d0i):Ht j4y:=cond (decide (x.2.2.2<x.2.2.1)) (cond (y4q x.2.2.2 x.2.1.length) (cond (Nat.ble (x.1.length+([(rdL u0h x.2.1 x.2.2.2.toNat).1]:Hu Hs).length) z7w) (g (x.1++([(rdL u0h x.2.1 x.2.2.2.toNat).1]:Hu Hs),x.2.1,x.2.2.1,IntKind.i64.wrap (x.2.2.2+1))) none) none) (some (.inl x.1))
def s0k:=lpW _ _ t99
theorem r9l x:s0k x=t99 s0k x:=zW r8k 202 Tryz.f202 3 22 x (by kernel_rfl)
def q4x (x:q0i):Ht p09:=(s0k (([]:Hu Hs),x,(x.length:Int),0)).bind fun r1=>match r1 with | .inl o2=>((t5b o2).bind fun y3=>(t04 y3).bind fun y4=>some y4) | .inr z5=>none
theorem p9i:r25=q4x:=zC 202 rfl Tryz.func202 (by kernel_rfl)
def r24(x:j2r):Ht s7c:=zK 203 x
def q4t (x:j2r):Ht s7c:=(s5d x).bind fun y1=>((cond (decide (y1<0)) (some true) (cond (y4q y1 x.1.length) (some (rdL u0h x.1 y1.toNat).2.2.1) none)):Ht Bool).bind fun j2=>cond j2 (some ((⟨#[]⟩:Hs),false)) (cond (y4q y1 x.1.length) (some ((rdL u0h x.1 y1.toNat).2.1,true)) none)
theorem p9f:r24=q4t:=zC 203 rfl Tryz.func203 (by kernel_rfl)
def s5c(x:d0j):Ht o79:=zK 89 x
def t98(g:j9i→Ht (o79⊕Unit))(x:j9i):Ht (o79⊕Unit):=cond (decide (x.2.2.2.2.2.2<x.2.2.2.2.2.1)) (cond (y4q x.2.2.2.2.2.2 x.2.2.2.2.1.length) ((r24 (x.1,rdL Ty.str x.2.2.2.2.1 x.2.2.2.2.2.2.toNat,x.2.1)).bind fun y2=>((cond y2.2 ((s2y (x.2.2.1,rdL Ty.str x.2.2.2.2.1 x.2.2.2.2.2.2.toNat)).bind fun y3=>some y3) (some false)):Ht Bool).bind fun j4=>cond j4 (cond (Nat.ble (x.2.2.2.1.length+([(rdL Ty.str x.2.2.2.2.1 x.2.2.2.2.2.2.toNat,y2.1)]:Hu p4x.den).length) z7w) (g (x.1,x.2.1,x.2.2.1,x.2.2.2.1++([(rdL Ty.str x.2.2.2.2.1 x.2.2.2.2.2.2.toNat,y2.1)]:Hu p4x.den),x.2.2.2.2.1,x.2.2.2.2.2.1,IntKind.i64.wrap (x.2.2.2.2.2.2+1))) none) (g (x.1,x.2.1,x.2.2.1,x.2.2.2.1,x.2.2.2.2.1,x.2.2.2.2.2.1,IntKind.i64.wrap (x.2.2.2.2.2.2+1)))) none) (some (.inl x.2.2.2.1))
def s0j:=lpW _ _ t98
theorem r9k x:s0j x=t98 s0j x:=zW r8j 89 Tryz.f89 3 40 x (by kernel_rfl)
def q4r (x:d0j):Ht o79:=(r25 x.1).bind fun y1=>(s0j (x.1,x.2.2,x.2.1,([]:Hu p4x.den),y1,(y1.length:Int),0)).bind fun r5=>match r5 with | .inl o6=>some o6 | .inr z7=>none
theorem p9d:s5c=q4r:=zC 89 rfl Tryz.func89 (by kernel_rfl)
def s9k(x:Unit):Ht j22:=zK 92 x
def q09 (x:Unit):Ht j22:=some ((⟨#[97]⟩:Hs),(⟨#[122,122,122]⟩:Hs))
theorem p5o:s9k=q09:=zC 92 rfl Tryz.func92 (by kernel_rfl)
def t6p(x:j6t):Ht Bool:=zK 176 x
def s98 (x:j6t):Ht Bool:=(s9k ()).bind fun y1=>(s5c (x.2.1,y1,x.1)).bind fun y2=>(s9k ()).bind fun y3=>(s5c (x.2.2,y3,x.1)).bind fun y4=>(t0e (y2,y4)).bind fun y5=>some y5
theorem q7e:t6p=s98:=zC 176 rfl Tryz.func176 (by kernel_rfl)
def u8e(x:(Unit×Int)):Ht q0i:=zK 294 x
def t6x (x:(Unit×Int)):Ht q0i:=cond (decide (x.2<0)) none (cond (decide ((IntKind.i64.wrap (x.2 - (IntKind.i64.wrap ((0:Int) - (0:Int)))))>0)) (cond (decide (0≤(0:Int))&&decide ((0:Int)≤(0:Int))&&decide ((0:Int)≤0)) (cond (decide (1≤(IntKind.i64.wrap (x.2 - (IntKind.i64.wrap ((0:Int) - (0:Int))))))&&decide ((IntKind.i64.wrap (x.2 - (IntKind.i64.wrap ((0:Int) - (0:Int)))))≤1099511627776)) (cond (decide (0≤(0:Int))&&decide ((0:Int)≤(0:Int))&&decide ((0:Int)≤((List.replicate (IntKind.i64.wrap (x.2 - (IntKind.i64.wrap ((0:Int) - (0:Int))))).toNat u0h.zero).length:Int))) (some ((List.replicate (IntKind.i64.wrap (x.2 - (IntKind.i64.wrap ((0:Int) - (0:Int))))).toNat u0h.zero).take ((0:Int).toNat - (0:Int).toNat))) none) none) none) (some ([]:Hu u0h.den)))
theorem s7j:u8e=t6x:=zC 294 rfl Tryz.func294 (by kernel_rfl)
def u7n(x:(Hu q0i)):Ht q0i:=zK 177 x
def u3g(g:j9y→Ht (((Hu q0i)×Int)⊕Unit))(x:j9y):Ht (((Hu q0i)×Int)⊕Unit):=cond (decide (x.2.2.2.2<x.2.2.2.1)) (cond (y4q x.2.2.2.2 x.2.2.1.length) (cond (decide ((IntKind.i64.wrap (x.2.1+((rdL (Ty.sl u0h) x.2.2.1 x.2.2.2.2.toNat).length:Int)))<0)) none (g (x.1,IntKind.i64.wrap (x.2.1+((rdL (Ty.sl u0h) x.2.2.1 x.2.2.2.2.toNat).length:Int)),x.2.2.1,x.2.2.2.1,IntKind.i64.wrap (x.2.2.2.2+1)))) none) (some (.inl (x.1,x.2.1)))
def u2i:=lpW _ _ u3g
theorem t06 x:u2i x=u3g u2i x:=zW t02 177 Tryz.f177 3 36 x (by kernel_rfl)
def u26(g:j98→Ht j0m)(x:j98):Ht j0m:=cond (decide (x.2.2.2<x.2.2.1)) (cond (y4q x.2.2.2 x.2.1.length) (cond (Nat.ble (x.1.length+(rdL (Ty.sl u0h) x.2.1 x.2.2.2.toNat).length) z7w) (g (x.1++(rdL (Ty.sl u0h) x.2.1 x.2.2.2.toNat),x.2.1,x.2.2.1,IntKind.i64.wrap (x.2.2.2+1))) none) none) (some (.inl x.1))
def u2e:=lpW _ _ u26
theorem t0m x:u2e x=u26 u2e x:=zW u98 177 Tryz.f177 11 36 x (by kernel_rfl)
def t38 (x:(Hu q0i)):Ht q0i:=(u2i (x,0,x,(x.length:Int),0)).bind fun r1=>match r1 with | .inl o2=>((u8e ((),o2.2)).bind fun y3=>(u2e (y3,o2.1,(o2.1.length:Int),0)).bind fun r4=>match r4 with | .inl o5=>some o5 | .inr z6=>none) | .inr z7=>none
theorem s48:u7n=t38:=zC 177 rfl Tryz.func177 (by kernel_rfl)
def s6i(x:j8f):Ht Bool:=zK 67 x
def t5m(g:j9q→Ht (j6t⊕Bool))(x:j9q):Ht (j6t⊕Bool):=cond (decide (x.2.2.2.2<x.2.2.2.1)) (cond (y4q x.2.2.2.2 x.2.2.1.length) (cond (decide ((rdL u0h x.2.2.1 x.2.2.2.2.toNat).2.2.2>x.1)) ((t6p ((rdL u0h x.2.2.1 x.2.2.2.2.toNat).2.2.2,x.2.1)).bind fun y2=>cond (!y2) (some (.inr false)) (g (x.1,x.2.1,x.2.2.1,x.2.2.2.1,IntKind.i64.wrap (x.2.2.2.2+1)))) (g (x.1,x.2.1,x.2.2.1,x.2.2.2.1,IntKind.i64.wrap (x.2.2.2.2+1)))) none) (some (.inl (x.1,x.2.1)))
def t6b:=lpW _ _ t5m
theorem r1t x:t6b x=t5m t6b x:=zW r0y 67 Tryz.f67 3 35 x (by kernel_rfl)
def r7a (x:j8f):Ht Bool:=(u7n ([x.1,x.2.1]:Hu q0i)).bind fun y1=>(t6b (x.2.2,(x.1,x.2.1),y1,(y1.length:Int),0)).bind fun r3=>match r3 with | .inl o4=>((t6p o4).bind fun y5=>some y5) | .inr z6=>some z6
theorem p2s:s6i=r7a:=zC 67 rfl Tryz.func67 (by kernel_rfl)
def r81(x:Z51):Ht Bool:=zK 66 x
def r7j (x:Z51):Ht Bool:=(t28 x.1).bind fun y1=>(t28 x.2).bind fun y2=>((cond (y1.2==y2.2) (some (z7o y1.1 y2.1)) (some false)):Ht Bool).bind fun j3=>some j3
theorem p22:r81=r7j:=zC 66 rfl Tryz.func66 (by kernel_rfl)
def u10(x:j9w):Ht Bool:=zK 10000 x
def u1p(g:j9l→Ht r97)(x:j9l):Ht r97:=cond (decide (x.2.2.2.2<x.2.2.2.1)) (cond (y4q x.2.2.2.2 x.2.2.1.length) (cond (y4q x.2.2.2.2 x.1.length) ((r81 (rdL u0a x.2.2.1 x.2.2.2.2.toNat,rdL u0a x.1 x.2.2.2.2.toNat)).bind fun y1=>cond (!y1) (some (.inr false)) (g (x.1,(),x.2.2.1,x.2.2.2.1,IntKind.i64.wrap (x.2.2.2.2+1)))) none) none) (some (.inl ()))
def u1q:=lpW _ _ u1p
theorem u5b x:u1q x=u1p u1q x:=zW u42 10000 Tryz.f65 4 32 x (by kernel_rfl)
def u5x (x:j9w):Ht Bool:=cond (!decide ((x.1.length:Int)=(x.2.1.length:Int))) (some false) ((u1q (x.2.1,(),x.1,(x.1.length:Int),0)).bind fun r2=>match r2 with | .inl o3=>some true | .inr z4=>some z4)
theorem t3d:u10=u5x:=zC 10000 rfl Tryz.func65 (by kernel_rfl)
def s01(x:Z32):Ht Bool:=zK 13 x
def r64 (x:Z32):Ht Bool:=cond (decide (x.1.2.2.2.1=x.2.2.2.2.1)) ((u10 (x.1.2.1,x.2.2.1,())).bind fun y1=>cond y1 ((u10 (x.1.2.2.1,x.2.2.2.1,())).bind fun y2=>cond y2 ((s6i (x.1.1,x.2.1,x.1.2.2.2.1)).bind fun y3=>some y3) (some false)) (some false)) (some false)
theorem p2m:s01=r64:=zC 13 rfl Tryz.func13 (by kernel_rfl)
def s6f(x:Z73):Ht Bool:=zK 63 x
def t5j(g:Z41→Ht r97)(x:Z41):Ht r97:=cond (decide (x.2.2.2<x.2.2.1)) (cond (y4q x.2.2.2 x.2.1.length) ((((u85 (rdL u0a x.2.1 x.2.2.2.toNat)).bind fun y4=>cond (!y4) (some true) (cond (!decide ((rdL u0a x.2.1 x.2.2.2.toNat).2.1=1)) (some true) (cond (decide ((rdL u0a x.2.1 x.2.2.2.toNat).2.2.1>x.1.1.2.2.2.1)) (some true) (cond (decide (x.2.2.2>0)) (cond (y4q (IntKind.i64.wrap (x.2.2.2 - 1)) x.1.2.length) (some (decide ((rdL u0a x.1.2 (IntKind.i64.wrap (x.2.2.2 - 1)).toNat).1≥(rdL u0a x.2.1 x.2.2.2.toNat).1))) none) (some false))))):Ht Bool).bind fun j5=>cond j5 (some (.inr false)) (g (x.1,x.2.1,x.2.2.1,IntKind.i64.wrap (x.2.2.2+1)))) none) (some (.inl ()))
def t58:=lpW _ _ t5j
theorem r1q x:t58 x=t5j t58 x:=zW r0v 63 Tryz.f63 4 73 x (by kernel_rfl)
def r63 (x:Z73):Ht Bool:=(u27 x.1).bind fun y1=>cond (!y1) (some false) (cond (decide ((x.2.length:Int)>(4:Int))) (some false) ((u2x ([x.1.2.1,x.1.2.2.1,x.2]:Hu q3e)).bind fun y2=>(t24 (y2,x.1.2.2.2.2)).bind fun y3=>cond (!y3) (some false) ((t58 (x,x.2,(x.2.length:Int),0)).bind fun r6=>match r6 with | .inl o7=>some true | .inr z8=>some z8)))
theorem p2l:s6f=r63:=zC 63 rfl Tryz.func63 (by kernel_rfl)
def s22(x:Z48):Ht Bool:=zK 12 x
def q01 (x:Z48):Ht Bool:=(u9d x.2).bind fun y1=>(((s6f x.1).bind fun y2=>cond y2 ((t9y x.2).bind fun y3=>cond y3 (cond y1.2 ((u47 (x.1.1,([]:Hu u0a.den))).bind fun y4=>(s01 (y1.1,y4)).bind fun y5=>some y5) (some false)) (some false)) (some false)):Ht Bool).bind fun j6=>some j6
theorem p5g:s22=q01:=zC 12 rfl Tryz.func12 (by kernel_rfl)
def s4b(x:d0y):Ht Bool:=zK 15 x
def t3s(g:d0u→Ht r97)(x:d0u):Ht r97:=cond (decide (x.2.2<(x.1.length:Int))) (cond (y4q x.2.2 x.1.length) (cond (y4q x.2.2 x.2.1.length) (cond (!z7o (rdL Ty.str x.1 x.2.2.toNat) (rdL Ty.str x.2.1 x.2.2.toNat)) (some (.inr false)) (g (x.1,x.2.1,IntKind.i64.wrap (x.2.2+1)))) none) none) (some (.inl ()))
def t34:=lpW _ _ t3s
theorem s80 x:t34 x=t3s t34 x:=zW s79 15 Tryz.f15 4 26 x (by kernel_rfl)
def r34 (x:d0y):Ht Bool:=cond (!decide ((x.1.length:Int)=(x.2.length:Int))) (some false) ((t34 (x.1,x.2,0)).bind fun r1=>match r1 with | .inl o2=>some true | .inr z3=>some z3)
theorem p0o:s4b=r34:=zC 15 rfl Tryz.func15 (by kernel_rfl)
def t7k(x:Z48):Ht p09:=zK 16 x
def t7x(g:j96→Ht j4y)(x:j96):Ht j4y:=cond (decide (x.2.2.2<x.2.2.1)) (cond (y4q x.2.2.2 x.2.1.length) (cond (Nat.ble (x.1.length+([(rdL u0a x.2.1 x.2.2.2.toNat).2.2.2.2.2.2.2]:Hu Hs).length) z7w) (g (x.1++([(rdL u0a x.2.1 x.2.2.2.toNat).2.2.2.2.2.2.2]:Hu Hs),x.2.1,x.2.2.1,IntKind.i64.wrap (x.2.2.2+1))) none) none) (some (.inl x.1))
def t2a:=lpW _ _ t7x
theorem r5p x:t2a x=t7x t2a x:=zW r4l 16 Tryz.f16 3 22 x (by kernel_rfl)
def q0u (x:Z48):Ht p09:=(t2a (([]:Hu Hs),x.1.1.2.2.1,(x.1.1.2.2.1.length:Int),0)).bind fun r1=>match r1 with | .inl o2=>some o2 | .inr z3=>none
theorem p49:t7k=q0u:=zC 16 rfl Tryz.func16 (by kernel_rfl)
def s03(x:o4h):Ht Bool:=zK 298 x
def r67 (x:o4h):Ht Bool:=some (decide (x.1.1=x.2))
theorem p2p:s03=r67:=zC 298 rfl Tryz.func298 (by kernel_rfl)
def u58(x:o4i):Ht Int:=zK 10020 x
def u4v(g:j0i→Ht q3f)(x:j0i):Ht q3f:=cond (decide (x.2.2.2<x.2.2.1)) (cond (y4q x.2.2.2 x.1.length) ((s03 (rdL u0a x.1 x.2.2.2.toNat,x.2.1)).bind fun y1=>cond y1 (some (.inr x.2.2.2)) (g (x.1,x.2.1,x.2.2.1,IntKind.i64.wrap (x.2.2.2+1)))) none) (some (.inl ()))
def u1t:=lpW _ _ u4v
theorem t12 x:u1t x=u4v u1t x:=zW u45 10020 Tryz.f287 2 19 x (by kernel_rfl)
def u51 (x:o4i):Ht Int:=(u1t (x.1,x.2,(x.1.length:Int),0)).bind fun r2=>match r2 with | .inl o3=>some (- 1:Int) | .inr z4=>some z4
theorem t3g:u58=u51:=zC 10020 rfl Tryz.func287 (by kernel_rfl)
def s02(x:Z68):Ht Int:=zK 183 x
def q4p (x:Z68):Ht Int:=(u58 (x.1.2,x.2)).bind fun y1=>some y1
theorem p9b:s02=q4p:=zC 183 rfl Tryz.func183 (by kernel_rfl)
def q31(x:u74):Ht Bool:=zK 206 x
def p13 (x:u74):Ht Bool:=((cond (decide ((x.2.1.length:Int)≥(12:Int))) (some true) (cond (decide ((x.1.length:Int)>(100:Int))) (some true) (some (decide (x.2.2.2.1≥9999))))):Ht Bool).bind fun j1=>some j1
theorem o4t:q31=p13:=zC 206 rfl Tryz.func206 (by kernel_rfl)
def s8j(x:j60):Ht Bool:=zK 196 x
def s2e(g:Z97→Ht (j2n⊕Bool))(x:Z97):Ht (j2n⊕Bool):=cond (decide (x.2.2.2.2.2.2.2<x.2.2.2.2.2.2.1)) (cond (y4q x.2.2.2.2.2.2.2 x.2.2.2.2.2.1.length) (cond (z7o x.2.1.1 (rdL u2l x.2.2.2.2.2.1 x.2.2.2.2.2.2.2.toNat).1) (some (.inr true)) (g (x.1,x.2.1,x.2.2.1,x.2.2.2.1,x.2.2.2.2.1,x.2.2.2.2.2.1,x.2.2.2.2.2.2.1,IntKind.i64.wrap (x.2.2.2.2.2.2.2+1)))) none) (some (.inl (x.1,x.2.2.1,x.2.2.2.1,x.2.2.2.2.1)))
def t7b:=lpW _ _ s2e
theorem q25 x:t7b x=s2e t7b x:=zW q2p 196 Tryz.f196 5 28 x (by kernel_rfl)
def s2d(g:j2n→Ht r97)(x:j2n):Ht r97:=cond (decide (x.2.2.2<x.2.2.1)) (cond (y4q x.2.2.2 x.2.1.length) ((t7b (x.1,rdL u2l x.2.1 x.2.2.2.toNat,x.2.1,x.2.2.1,x.2.2.2,x.1,(x.1.length:Int),0)).bind fun r1=>match r1 with | .inl o2=>g (o2.1,o2.2.1,o2.2.2.1,IntKind.i64.wrap (o2.2.2.2+1)) | .inr z3=>some (.inr z3)) none) (some (.inl ()))
def s2n:=lpW _ _ s2d
theorem q24 x:s2n x=s2d s2n x:=zW q2o 196 Tryz.f196 2 28 x (by kernel_rfl)
def q8o (x:j60):Ht Bool:=(s2n (x.2,x.1,(x.1.length:Int),0)).bind fun r4=>match r4 with | .inl o5=>some false | .inr z6=>some z6
theorem o1y:s8j=q8o:=zC 196 rfl Tryz.func196 (by kernel_rfl)
def t85(x:Z51):Ht Bool:=zK 368 x
def r3m (x:Z51):Ht Bool:=((cond (!decide (x.1.1=x.2.1)) ((u6i x.1).bind fun y1=>cond y1 ((s8j (x.1.2.2.2.2.2.1,x.2.2.2.2.2.2.1)).bind fun y2=>some y2) ((u86 x.1).bind fun y3=>cond y3 (cond (decide (x.1.2.2.2.1>x.2.2.2.1)) ((s8j (x.1.2.2.2.2.2.1,x.2.2.2.2.2.2.1)).bind fun y4=>some y4) (some false)) (some false))) (some false)):Ht Bool).bind fun j5=>some j5
theorem q93:t85=r3m:=zC 368 rfl Tryz.func368 (by kernel_rfl)
def u5o(x:Z91):Ht Int:=zK 10037 x
def u4b(g:Z76→Ht q3f)(x:Z76):Ht q3f:=cond (decide (x.2.2.2<x.2.2.1)) (cond (y4q x.2.2.2 x.1.length) ((t85 (rdL u0a x.1 x.2.2.2.toNat,x.2.1)).bind fun y1=>cond y1 (some (.inr x.2.2.2)) (g (x.1,x.2.1,x.2.2.1,IntKind.i64.wrap (x.2.2.2+1)))) none) (some (.inl ()))
def u1j:=lpW _ _ u4b
theorem t0v x:u1j x=u4b u1j x:=zW u4k 10037 Tryz.f287 2 19 x (by kernel_rfl)
def u5h (x:Z91):Ht Int:=(u1j (x.1,x.2,(x.1.length:Int),0)).bind fun r2=>match r2 with | .inl o3=>some (- 1:Int) | .inr z4=>some z4
theorem t2w:u5o=u5h:=zC 10037 rfl Tryz.func287 (by kernel_rfl)
def u36(x:Z91):Ht Bool:=zK 10036 x
def u3z (x:Z91):Ht Bool:=(u5o x).bind fun y1=>some (decide (y1≥0))
theorem u95:u36=u3z:=zC 10036 rfl Tryz.func204 (by kernel_rfl)
def t62(x:Z91):Ht Bool:=zK 10035 x
def t6w (x:Z91):Ht Bool:=(u36 x).bind fun y1=>some y1
theorem s7i:t62=t6w:=zC 10035 rfl Tryz.func93 (by kernel_rfl)
def s9e(x:Z94):Ht Bool:=zK 295 x
def q0r (x:Z94):Ht Bool:=(t62 (x.2,x.1)).bind fun y1=>some y1
theorem p46:s9e=q0r:=zC 295 rfl Tryz.func295 (by kernel_rfl)
def s8k(x:Z73):Ht q3e:=zK 296 x
def q8s (x:Z73):Ht q3e:=(u2x ([x.1.2.1,x.1.2.2.1]:Hu q3e)).bind fun y1=>some y1
theorem o2b:s8k=q8s:=zC 296 rfl Tryz.func296 (by kernel_rfl)
def s5b(x:Z51):Ht Bool:=zK 411 x
def q4o (x:Z51):Ht Bool:=(((u6i x.1).bind fun y1=>cond y1 ((u6s x).bind fun y2=>some y2) ((u86 x.1).bind fun y3=>cond y3 ((u6s x).bind fun y4=>some y4) (some false))):Ht Bool).bind fun j5=>some j5
theorem p9a:s5b=q4o:=zC 411 rfl Tryz.func411 (by kernel_rfl)
def u6v(x:Z91):Ht Int:=zK 10025 x
def u5w(g:Z76→Ht q3f)(x:Z76):Ht q3f:=cond (decide (x.2.2.2<x.2.2.1)) (cond (y4q x.2.2.2 x.1.length) ((s5b (rdL u0a x.1 x.2.2.2.toNat,x.2.1)).bind fun y1=>cond y1 (some (.inr x.2.2.2)) (g (x.1,x.2.1,x.2.2.1,IntKind.i64.wrap (x.2.2.2+1)))) none) (some (.inl ()))
def u1z:=lpW _ _ u5w
theorem t3k x:u1z x=u5w u1z x:=zW u54 10025 Tryz.f287 2 19 x (by kernel_rfl)
def u6m (x:Z91):Ht Int:=(u1z (x.1,x.2,(x.1.length:Int),0)).bind fun r2=>match r2 with | .inl o3=>some (- 1:Int) | .inr z4=>some z4
theorem t43:u6v=u6m:=zC 10025 rfl Tryz.func287 (by kernel_rfl)
def u5n(x:Z91):Ht Bool:=zK 10024 x
def u5f (x:Z91):Ht Bool:=(u6v x).bind fun y1=>some (decide (y1≥0))
theorem t2u:u5n=u5f:=zC 10024 rfl Tryz.func204 (by kernel_rfl)
def s1b(x:Z91):Ht Bool:=zK 10023 x
def s0r (x:Z91):Ht Bool:=(u5n x).bind fun y1=>some y1
theorem r2w:s1b=s0r:=zC 10023 rfl Tryz.func93 (by kernel_rfl)
def q3z(x:Z94):Ht Bool:=zK 369 x
def p10 (x:Z94):Ht Bool:=(s1b (x.2,x.1)).bind fun y1=>some y1
theorem o4r:q3z=p10:=zC 369 rfl Tryz.func369 (by kernel_rfl)
def s0y(x:Z51):Ht Bool:=zK 370 x
def r61 (x:Z51):Ht Bool:=(((u6i x.1).bind fun y1=>cond y1 (cond x.1.2.2.2.2.2.2.1 ((u6s (x.2,x.1)).bind fun y2=>some y2) (some false)) ((u86 x.1).bind fun y3=>cond y3 (cond x.1.2.2.2.2.2.2.1 ((u6s (x.2,x.1)).bind fun y4=>some y4) (some false)) (some false))):Ht Bool).bind fun j5=>some j5
theorem p2j:s0y=r61:=zC 370 rfl Tryz.func370 (by kernel_rfl)
def u56(x:Z91):Ht Int:=zK 10028 x
def u4t(g:Z76→Ht q3f)(x:Z76):Ht q3f:=cond (decide (x.2.2.2<x.2.2.1)) (cond (y4q x.2.2.2 x.1.length) ((s0y (rdL u0a x.1 x.2.2.2.toNat,x.2.1)).bind fun y1=>cond y1 (some (.inr x.2.2.2)) (g (x.1,x.2.1,x.2.2.1,IntKind.i64.wrap (x.2.2.2+1)))) none) (some (.inl ()))
def u1r:=lpW _ _ u4t
theorem t1z x:u1r x=u4t u1r x:=zW u43 10028 Tryz.f287 2 19 x (by kernel_rfl)
def u5y (x:Z91):Ht Int:=(u1r (x.1,x.2,(x.1.length:Int),0)).bind fun r2=>match r2 with | .inl o3=>some (- 1:Int) | .inr z4=>some z4
theorem t3e:u56=u5y:=zC 10028 rfl Tryz.func287 (by kernel_rfl)
def u4p(x:Z91):Ht Bool:=zK 10027 x
def u4g (x:Z91):Ht Bool:=(u56 x).bind fun y1=>some (decide (y1≥0))
theorem t0r:u4p=u4g:=zC 10027 rfl Tryz.func204 (by kernel_rfl)
def u9f(x:Z91):Ht Bool:=zK 10026 x
def t7e (x:Z91):Ht Bool:=(u4p x).bind fun y1=>some y1
theorem s89:u9f=t7e:=zC 10026 rfl Tryz.func93 (by kernel_rfl)
def t6o(x:Z51):Ht Bool:=zK 372 x
def s93 (x:Z51):Ht Bool:=(((u6i x.1).bind fun y1=>cond y1 ((u6s x).bind fun y2=>some y2) (some false)):Ht Bool).bind fun j3=>some j3
theorem q69:t6o=s93:=zC 372 rfl Tryz.func372 (by kernel_rfl)
def u49(x:Z91):Ht Int:=zK 10034 x
def u3y(g:Z76→Ht q3f)(x:Z76):Ht q3f:=cond (decide (x.2.2.2<x.2.2.1)) (cond (y4q x.2.2.2 x.1.length) ((t6o (rdL u0a x.1 x.2.2.2.toNat,x.2.1)).bind fun y1=>cond y1 (some (.inr x.2.2.2)) (g (x.1,x.2.1,x.2.2.1,IntKind.i64.wrap (x.2.2.2+1)))) none) (some (.inl ()))
def u1d:=lpW _ _ u3y
theorem t0q x:u1d x=u3y u1d x:=zW u34 10034 Tryz.f287 2 19 x (by kernel_rfl)
def u41 (x:Z91):Ht Int:=(u1d (x.1,x.2,(x.1.length:Int),0)).bind fun r2=>match r2 with | .inl o3=>some (- 1:Int) | .inr z4=>some z4
theorem t1r:u49=u41:=zC 10034 rfl Tryz.func287 (by kernel_rfl)
def u3u(x:Z91):Ht Bool:=zK 10033 x
def u3s (x:Z91):Ht Bool:=(u49 x).bind fun y1=>some (decide (y1≥0))
theorem u9k:u3u=u3s:=zC 10033 rfl Tryz.func204 (by kernel_rfl)
def u75(x:Z91):Ht Bool:=zK 10032 x
def t4y (x:Z91):Ht Bool:=(u3u x).bind fun y1=>some y1
theorem s50:u75=t4y:=zC 10032 rfl Tryz.func93 (by kernel_rfl)
def s0z(x:Z33):Ht Bool:=zK 371 x
def r62 (x:Z33):Ht Bool:=(((u6i x.1).bind fun y1=>cond (!y1) (some true) ((u6s (x.1,x.2.1)).bind fun y2=>some (!y2))):Ht Bool).bind fun j3=>cond j3 (some false) ((u6s (x.2.1,x.1)).bind fun y4=>cond y4 (some true) ((u75 (x.2.2,x.1)).bind fun y5=>some y5))
theorem p2k:s0z=r62:=zC 371 rfl Tryz.func371 (by kernel_rfl)
def u57(x:Z58):Ht Int:=zK 10031 x
def u4u(g:Z52→Ht q3f)(x:Z52):Ht q3f:=cond (decide (x.2.2.2<x.2.2.1)) (cond (y4q x.2.2.2 x.1.length) ((s0z (rdL u0a x.1 x.2.2.2.toNat,x.2.1)).bind fun y1=>cond y1 (some (.inr x.2.2.2)) (g (x.1,x.2.1,x.2.2.1,IntKind.i64.wrap (x.2.2.2+1)))) none) (some (.inl ()))
def u1s:=lpW _ _ u4u
theorem t11 x:u1s x=u4u u1s x:=zW u44 10031 Tryz.f287 2 19 x (by kernel_rfl)
def u5z (x:Z58):Ht Int:=(u1s (x.1,x.2,(x.1.length:Int),0)).bind fun r2=>match r2 with | .inl o3=>some (- 1:Int) | .inr z4=>some z4
theorem t3f:u57=u5z:=zC 10031 rfl Tryz.func287 (by kernel_rfl)
def u4q(x:Z58):Ht Bool:=zK 10030 x
def u4h (x:Z58):Ht Bool:=(u57 x).bind fun y1=>some (decide (y1≥0))
theorem t0s:u4q=u4h:=zC 10030 rfl Tryz.func204 (by kernel_rfl)
def u9g(x:Z58):Ht Bool:=zK 10029 x
def t7f (x:Z58):Ht Bool:=(u4q x).bind fun y1=>some y1
theorem s9a:u9g=t7f:=zC 10029 rfl Tryz.func93 (by kernel_rfl)
def r22(x:Z94):Ht Bool:=zK 297 x
def q4m (x:Z94):Ht Bool:=(((q3z x).bind fun y1=>cond y1 ((s3r x).bind fun y2=>some y2) (some false)):Ht Bool).bind fun j3=>cond j3 (some true) ((u9f (x.2,x.1)).bind fun y4=>cond y4 (some true) ((u9g (x.2,x)).bind fun y5=>some y5))
theorem p88:r22=q4m:=zC 297 rfl Tryz.func297 (by kernel_rfl)
def r80(x:Z68):Ht Int:=zK 181 x
def q8k (x:Z68):Ht Int:=(s02 x).bind fun y1=>cond (decide (y1<0)) (some (1:Int)) (cond (y4q y1 x.1.2.length) ((s8k x.1).bind fun y2=>(s9e (rdL u0a x.1.2 y1.toNat,y2)).bind fun y3=>cond y3 (some (4:Int)) (cond (y4q y1 x.1.2.length) ((s8k x.1).bind fun y4=>(r22 (rdL u0a x.1.2 y1.toNat,y4)).bind fun y5=>cond y5 (some (5:Int)) ((q31 x.1.1).bind fun y6=>cond y6 (some (3:Int)) (some (0:Int)))) none)) none)
theorem o1u:r80=q8k:=zC 181 rfl Tryz.func181 (by kernel_rfl)
def u70(x:Z73):Ht Z73:=zK 205 x
def r0c (x:Z73):Ht Z73:=(u1y x.1).bind fun y1=>(t5a x.2).bind fun y2=>some (y1,y2)
theorem q7i:u70=r0c:=zC 205 rfl Tryz.func205 (by kernel_rfl)
def u8r(x:o4h):Ht Bool:=zK 299 x
def q9z (x:o4h):Ht Bool:=some (decide (x.1.1=x.2))
theorem p0n:u8r=q9z:=zC 299 rfl Tryz.func299 (by kernel_rfl)
def u5s(x:o4i):Ht Int:=zK 10022 x
def u4f(g:j0i→Ht q3f)(x:j0i):Ht q3f:=cond (decide (x.2.2.2<x.2.2.1)) (cond (y4q x.2.2.2 x.1.length) ((u8r (rdL u0a x.1 x.2.2.2.toNat,x.2.1)).bind fun y1=>cond y1 (some (.inr x.2.2.2)) (g (x.1,x.2.1,x.2.2.1,IntKind.i64.wrap (x.2.2.2+1)))) none) (some (.inl ()))
def u1n:=lpW _ _ u4f
theorem t0z x:u1n x=u4f u1n x:=zW u4o 10022 Tryz.f287 2 19 x (by kernel_rfl)
def u5l (x:o4i):Ht Int:=(u1n (x.1,x.2,(x.1.length:Int),0)).bind fun r2=>match r2 with | .inl o3=>some (- 1:Int) | .inr z4=>some z4
theorem t20:u5s=u5l:=zC 10022 rfl Tryz.func287 (by kernel_rfl)
def u2k(x:o4i):Ht q3e:=zK 10021 x
def u3x(g:j0i→Ht j26)(x:j0i):Ht j26:=cond (decide (x.2.2.2<(x.1.length:Int))) (cond (y4q x.2.2.2 x.1.length) ((u8r (rdL u0a x.1 x.2.2.2.toNat,x.2.1)).bind fun y2=>cond (!y2) (cond (y4q x.2.2.1 x.1.length) (g (x.1.set x.2.2.1.toNat (rdL u0a x.1 x.2.2.2.toNat),x.2.1,IntKind.i64.wrap (x.2.2.1+1),IntKind.i64.wrap (x.2.2.2+1))) none) (g (x.1,x.2.1,x.2.2.1,IntKind.i64.wrap (x.2.2.2+1)))) none) (some (.inl (x.1,x.2.2.1)))
def u1c:=lpW _ _ u3x
theorem t0p x:u1c x=u3x u1c x:=zW u33 10021 Tryz.f173 5 42 x (by kernel_rfl)
def u40 (x:o4i):Ht q3e:=(u5s x).bind fun y1=>cond (decide (y1=(- 1:Int))) (some x.1) ((u1c (x.1,x.2,y1,IntKind.i64.wrap (y1+1))).bind fun r3=>match r3 with | .inl o4=>cond (decide (0≤o4.2)&&decide (o4.2≤(o4.1.length:Int))&&decide ((o4.1.length:Int)≤(o4.1.length:Int))) (cond (decide (0≤(0:Int))&&decide ((0:Int)≤o4.2)&&decide (o4.2≤((o4.1.take o4.2.toNat++List.replicate ((o4.1.length:Int).toNat - o4.2.toNat) u0a.zero++o4.1.drop (o4.2.toNat+((o4.1.length:Int).toNat - o4.2.toNat))).length:Int))) (some ((o4.1.take o4.2.toNat++List.replicate ((o4.1.length:Int).toNat - o4.2.toNat) u0a.zero++o4.1.drop (o4.2.toNat+((o4.1.length:Int).toNat - o4.2.toNat))).take (o4.2.toNat - (0:Int).toNat))) none) none | .inr z5=>none)
theorem t1q:u2k=u40:=zC 10021 rfl Tryz.func173 (by kernel_rfl)
def s23(x:Z68):Ht Z73:=zK 184 x
def q1c (x:Z68):Ht Z73:=(u70 x.1).bind fun y1=>(u2k (y1.2,x.2)).bind fun y2=>some (y1.1,y2)
theorem p5s:s23=q1c:=zC 184 rfl Tryz.func184 (by kernel_rfl)
def s8i(x:Z68):Ht Z68:=zK 182 x
def q8m (x:Z68):Ht Z68:=(s23 x).bind fun y1=>(s02 x).bind fun y2=>cond (decide (y2<0)) (some (y1,1)) ((u47 y1).bind fun y3=>some ((y3,y1.2),0))
theorem o1w:s8i=q8m:=zC 182 rfl Tryz.func182 (by kernel_rfl)
def r21(x:Z68):Ht Z13:=zK 77 x
def q4l (x:Z68):Ht Z13:=(r80 x).bind fun y1=>cond (!decide (y1=0)) ((s8i x).bind fun y2=>some (y2.1,(0,(0,0,0,0,([]:Hu p4x.den),([]:Hu u2l.den),false,(⟨#[]⟩:Hs)),(⟨#[]⟩:Hs),false,([]:Hu u0h.den),([]:Hu u0a.den),([]:Hu u0a.den),0,0),y1)) ((s02 x).bind fun y3=>cond (y4q y3 x.1.2.length) ((s23 x).bind fun y4=>(u9e (y4.1,rdL u0a x.1.2 y3.toNat)).bind fun y5=>cond (y4q (IntKind.i64.wrap ((y5.2.1.length:Int) - (1:Int))) y5.2.1.length) ((t3a (rdL u0a y5.2.1 (IntKind.i64.wrap ((y5.2.1.length:Int) - (1:Int))).toNat)).bind fun y6=>(u47 (y5,y4.2)).bind fun y7=>some ((y7,y4.2),(1,y6,(⟨#[]⟩:Hs),false,([]:Hu u0h.den),([]:Hu u0a.den),([]:Hu u0a.den),0,0),0)) none) none)
theorem p87:r21=q4l:=zC 77 rfl Tryz.func77 (by kernel_rfl)
def t9a(x:Z48):Ht Z48:=zK 150 x
def r3w (x:Z48):Ht Z48:=(u70 x.1).bind fun y1=>(u1o x.2).bind fun y2=>some (y1,y2)
theorem p0f:t9a=r3w:=zC 150 rfl Tryz.func150 (by kernel_rfl)
def u8n(x:t01):Ht t01:=zK 344 x
def t3m(g:j9h→Ht j4u)(x:j9h):Ht j4u:=cond (decide (x.2.2.2.2<x.2.2.2.1)) (cond (y4q x.2.2.2.2 x.2.2.1.length) (cond (y4q (rdL p7e x.2.2.1 x.2.2.2.2.toNat).1 x.2.1.1.length) (g (x.1,(x.2.1.1.set ((rdL p7e x.2.2.1 x.2.2.2.2.toNat).1).toNat (rdL p7e x.2.2.1 x.2.2.2.2.toNat).2,x.2.1.2),x.2.2.1,x.2.2.2.1,IntKind.i64.wrap (x.2.2.2.2+1))) none) none) (some (.inl (x.1,x.2.1)))
def t30:=lpW _ _ t3m
theorem s8u x:t30 x=t3m t30 x:=zW s73 344 Tryz.f344 4 27 x (by kernel_rfl)
def r3n (x:t01):Ht t01:=(u1o x).bind fun y1=>(s00 x).bind fun y2=>cond y2 ((t30 ((([]:Hu Hs),([]:Hu p7e.den)),y1,x.2,(x.2.length:Int),0)).bind fun r3=>match r3 with | .inl o4=>some (o4.2.1,([]:Hu p7e.den)) | .inr z5=>none) (some y1)
theorem q94:u8n=r3n:=zC 344 rfl Tryz.func344 (by kernel_rfl)
def s06(x:o5z):Ht s91:=zK 432 x
def s7r (x:o5z):Ht s91:=(u1o x.1).bind fun y1=>cond (Nat.ble (y1.2.length+([x.2]:Hu p7e.den).length) z7w) ((s00 (y1.1,y1.2++([x.2]:Hu p7e.den))).bind fun y2=>cond (!y2) ((u1o x.1).bind fun y3=>some (y3,false)) (some ((y1.1,y1.2++([x.2]:Hu p7e.den)),true))) none
theorem q5w:s06=s7r:=zC 432 rfl Tryz.func432 (by kernel_rfl)
def t0c(x:j6p):Ht s91:=zK 404 x
def t9f(g:Z75→Ht j4x)(x:Z75):Ht j4x:=cond (!z7o x.2.2.1 (⟨#[]⟩:Hs)) ((t0a (x.2.2.2.2.2,x.1)).bind fun y6=>((cond (!y6.2) (some true) (some (!decide ((y6.1.size:Int)=(64:Int))))):Ht Bool).bind fun j7=>cond j7 ((u1o x.2.2.2.1).bind fun y8=>some (.inr (y8,false))) (cond (decide (0≤(0:Int))&&decide ((0:Int)≤x.2.1)&&decide (x.2.1≤(y6.1.size:Int))) (cond (decide (0≤(0:Int))&&decide ((0:Int)≤(y8i (x.2.2.1.size:Int) (IntKind.i64.wrap ((64:Int) - x.2.1))))&&decide ((y8i (x.2.2.1.size:Int) (IntKind.i64.wrap ((64:Int) - x.2.1)))≤(x.2.2.1.size:Int))) (cond (decide ((y6.1.extract (0:Int).toNat x.2.1.toNat).size+(x.2.2.1.extract (0:Int).toNat (y8i (x.2.2.1.size:Int) (IntKind.i64.wrap ((64:Int) - x.2.1))).toNat).size≤140737488355328)) (cond (decide (0≤(IntKind.i64.wrap (x.2.1+(y8i (x.2.2.1.size:Int) (IntKind.i64.wrap ((64:Int) - x.2.1))))))&&decide ((IntKind.i64.wrap (x.2.1+(y8i (x.2.2.1.size:Int) (IntKind.i64.wrap ((64:Int) - x.2.1)))))≤(y6.1.size:Int))&&decide ((y6.1.size:Int)≤(y6.1.size:Int))) (cond (decide (((y6.1.extract (0:Int).toNat x.2.1.toNat)++(x.2.2.1.extract (0:Int).toNat (y8i (x.2.2.1.size:Int) (IntKind.i64.wrap ((64:Int) - x.2.1))).toNat)).size+(y6.1.extract (IntKind.i64.wrap (x.2.1+(y8i (x.2.2.1.size:Int) (IntKind.i64.wrap ((64:Int) - x.2.1))))).toNat (y6.1.size:Int).toNat).size≤140737488355328)) ((s06 (x.2.2.2.2.2,x.1,((y6.1.extract (0:Int).toNat x.2.1.toNat)++(x.2.2.1.extract (0:Int).toNat (y8i (x.2.2.1.size:Int) (IntKind.i64.wrap ((64:Int) - x.2.1))).toNat))++(y6.1.extract (IntKind.i64.wrap (x.2.1+(y8i (x.2.2.1.size:Int) (IntKind.i64.wrap ((64:Int) - x.2.1))))).toNat (y6.1.size:Int).toNat))).bind fun y9=>cond (!y9.2) ((u1o x.2.2.2.1).bind fun y10=>some (.inr (y10,false))) (cond (decide (0≤(y8i (x.2.2.1.size:Int) (IntKind.i64.wrap ((64:Int) - x.2.1))))&&decide ((y8i (x.2.2.1.size:Int) (IntKind.i64.wrap ((64:Int) - x.2.1)))≤(x.2.2.1.size:Int))&&decide ((x.2.2.1.size:Int)≤(x.2.2.1.size:Int))) (g (IntKind.i64.wrap (x.1+1),0,x.2.2.1.extract (y8i (x.2.2.1.size:Int) (IntKind.i64.wrap ((64:Int) - x.2.1))).toNat (x.2.2.1.size:Int).toNat,x.2.2.2.1,x.2.2.2.2.1,y9.1)) none)) none) none) none) none) none)) (some (.inl x.2.2.2.2))
def t1i:=lpW _ _ t9f
theorem q38 x:t1i x=t9f t1i x:=zW s56 404 Tryz.f404 5 87 x (by kernel_rfl)
def r0b (x:j6p):Ht s91:=(((u02 (x.2.2.1,0,6400)).bind fun y1=>cond (!y1) (some true) ((u02 (x.2.1,0,IntKind.i64.wrap ((x.1.1.length:Int) - (1:Int)))).bind fun y2=>some (!y2))):Ht Bool).bind fun j3=>cond j3 ((u1o x.1).bind fun y4=>some (y4,false)) ((u1o x.1).bind fun y5=>(t1i (IntKind.i64.wrap (x.2.1+(IntKind.i64.wrap (Int.tdiv x.2.2.1 (64:Int)))),Int.tmod x.2.2.1 (64:Int),x.2.2.2,x.1,(([]:Hu Hs),([]:Hu p7e.den)),y5)).bind fun r11=>match r11 with | .inl o12=>some (o12.2,true) | .inr z13=>some z13)
theorem q7h:t0c=r0b:=zC 404 rfl Tryz.func404 (by kernel_rfl)
def s09(x:j2o):Ht t01:=zK 403 x
def r7i (x:j2o):Ht t01:=(u8m x.2.1).bind fun y1=>(t0c (x.1,y1,0,y7g ([(IntKind.u8.wrap x.2.2)]:Hu Int))).bind fun y2=>some y2.1
theorem p21:s09=r7i:=zC 403 rfl Tryz.func403 (by kernel_rfl)
def s9l(x:o5z):Ht s91:=zK 412 x
def q1b (x:o5z):Ht s91:=(u99 (x.1,x.2.1)).bind fun y1=>(t22 x.2.2).bind fun y2=>(((t9y x.1).bind fun y3=>cond (!y3) (some true) (cond (!y1.2.2) (some true) (cond (!y2.2) (some true) (cond (z7o x.2.2 (⟨#[]⟩:Hs)) (some true) (cond (decide ((IntKind.i64.wrap (y1.2.1+(y2.1.size:Int)))>3008)) (some true) ((t7j (x.1,x.2.1)).bind fun y4=>some (decide (y4=255)))))))):Ht Bool).bind fun j5=>cond j5 ((u1o x.1).bind fun y6=>some (y6,false)) ((u8m x.2.1).bind fun y7=>(t0c (x.1,IntKind.i64.wrap (y7+1),y1.2.1,y2.1)).bind fun y8=>some y8)
theorem p5r:s9l=q1b:=zC 412 rfl Tryz.func412 (by kernel_rfl)
def t86(x:o5z):Ht s91:=zK 373 x
def r3p (x:o5z):Ht s91:=(s9l x).bind fun y1=>cond (!y1.2) ((u1o x.1).bind fun y2=>some (y2,false)) ((u8n y1.1).bind fun y3=>(t7j (x.1,x.2.1)).bind fun y4=>(s09 (y3,x.2.1,IntKind.i64.wrap (y4+1))).bind fun y5=>(u8n y5).bind fun y6=>some (y6,true))
theorem q97:t86=r3p:=zC 373 rfl Tryz.func373 (by kernel_rfl)
def s39(x:j2m):Ht s91:=zK 343 x
def t3p(g:Z67→Ht j4x)(x:Z67):Ht j4x:=cond (decide (x.2.2.2.2.2.2<x.2.2.2.2.2.1)) (cond (y4q x.2.2.2.2.2.2 x.2.2.2.2.1.length) ((t86 (x.2.2.2.1,x.2.2.1,rdL Ty.str x.2.2.2.2.1 x.2.2.2.2.2.2.toNat)).bind fun y6=>cond (!y6.2) ((u1o x.1).bind fun y7=>some (.inr (y7,false))) (g (x.1,x.2.1,x.2.2.1,y6.1,x.2.2.2.2.1,x.2.2.2.2.2.1,IntKind.i64.wrap (x.2.2.2.2.2.2+1)))) none) (some (.inl (x.2.1,x.2.2.2.1)))
def u82:=lpW _ _ t3p
theorem s8x x:u82 x=t3p u82 x:=zW s76 343 Tryz.f343 6 44 x (by kernel_rfl)
def r3y (x:j2m):Ht s91:=(t9y x.1).bind fun y1=>cond (!y1) ((u1o x.1).bind fun y2=>some (y2,false)) ((t49 x.1).bind fun y3=>(s09 (x.1,IntKind.i64.wrap ((1:Int) - y3),0)).bind fun y4=>(u8n y4).bind fun y5=>(u82 (x.1,(([]:Hu Hs),([]:Hu p7e.den)),IntKind.i64.wrap ((1:Int) - y3),y5,x.2,(x.2.length:Int),0)).bind fun r8=>match r8 with | .inl o9=>some (o9.2,true) | .inr z10=>some z10)
theorem p0h:s39=r3y:=zC 343 rfl Tryz.func343 (by kernel_rfl)
def s4a(x:t01):Ht t01:=zK 345 x
def r33 (x:t01):Ht t01:=(t23 (x,0)).bind fun y1=>(t0c (x,0,0,y7g ([(IntKind.u8.wrap (IntKind.i64.wrap (y1+1)))]:Hu Int))).bind fun y2=>some y2.1
theorem p0m:s4a=r33:=zC 345 rfl Tryz.func345 (by kernel_rfl)
def s36(x:j2m):Ht s91:=zK 257 x
def r3u (x:j2m):Ht s91:=(s39 x).bind fun y1=>cond (!y1.2) (some (y1.1,false)) ((s4a y1.1).bind fun y2=>(u8n y2).bind fun y3=>some (y3,true))
theorem p0c:s36=r3u:=zC 257 rfl Tryz.func257 (by kernel_rfl)
def q30(x:t01):Ht s91:=zK 151 x
def p12 (x:t01):Ht s91:=(u9d x).bind fun y1=>(u35 (4,(0,0,0,0,([]:Hu p4x.den),([]:Hu u2l.den),false,(⟨#[]⟩:Hs)),(⟨#[]⟩:Hs),false,y1.1)).bind fun y2=>((cond (!y1.2) (some true) (some (!y2.2))):Ht Bool).bind fun j3=>cond j3 ((u1o x).bind fun y4=>some (y4,false)) ((s36 (x,([y2.1]:Hu Hs))).bind fun y5=>some y5)
theorem o4s:q30=p12:=zC 151 rfl Tryz.func151 (by kernel_rfl)
def t84(x:j6u):Ht s91:=zK 300 x
def r3k (x:j6u):Ht s91:=(t49 x.1).bind fun y1=>(t86 (x.1,y1,x.2)).bind fun y2=>some y2
theorem q91:t84=r3k:=zC 300 rfl Tryz.func300 (by kernel_rfl)
def s1y(x:Z9):Ht Z44:=zK 186 x
def s94 (x:Z9):Ht Z44:=(t9a x.1).bind fun y1=>(u35 x.2).bind fun y2=>cond (!y2.2) (some (y1,false)) ((t84 (x.1.2,y2.1)).bind fun y3=>cond y3.2 (some ((y1.1,y3.1),true)) ((q30 x.1.2).bind fun y4=>cond y4.2 ((t84 (y4.1,y2.1)).bind fun y5=>cond y5.2 (some ((y1.1,y5.1),true)) (some (y1,false))) (some (y1,false))))
theorem q7a:s1y=s94:=zC 186 rfl Tryz.func186 (by kernel_rfl)
def p4a(x:Z1):Ht Z46:=zK 78 x
def p14 (x:Z1):Ht Z46:=(t9a x.1).bind fun y1=>cond (!decide (x.2.2.2.2=0)) (some ((x.2.2.1,y1.2),x.2.2.2.2)) ((s1y ((x.2.2.1,y1.2),x.2.2.2.1)).bind fun y2=>cond y2.2 (some (y2.1,0)) ((s8i (x.1.1,x.2.1)).bind fun y3=>some ((y3.1,y1.2),3)))
theorem o4u:p4a=p14:=zC 78 rfl Tryz.func78 (by kernel_rfl)
def s05(x:Z46):Ht Z46:=zK 19 x
def s7q (x:Z46):Ht Z46:=(r21 (x.1.1,x.2)).bind fun y1=>(p4a (x.1,x.2,y1)).bind fun y2=>some y2
theorem q5v:s05=s7q:=zC 19 rfl Tryz.func19 (by kernel_rfl)
def r82(x:q4a):Ht Bool:=zK 3 x
def r7k (x:q4a):Ht Bool:=(p7u x).bind fun y1=>cond y1 (some true) ((s4c x).bind fun y2=>(t89 y2.2).bind fun y3=>(u9d y2.2).bind fun y4=>cond (!y3.2) (some false) (cond (!y4.2) (some false) ((s22 y2).bind fun y5=>cond (!y5) (some false) ((t1v (y2.1.1,([]:Hu u0a.den))).bind fun y6=>(s01 (y3.1.1.1,y6)).bind fun y7=>cond (!y7) (some false) ((t7k y3.1).bind fun y8=>(t7k y2).bind fun y9=>(s4b (y8,y9)).bind fun y10=>cond (!y10) (some false) (cond (!decide ((y3.1.1.2.length:Int)=(0:Int))) (some false) ((t05 y3.1.1).bind fun y11=>(u88 (y11.1,y11.2.1,(⟨#[122,122,122]⟩:Hs),(⟨#[107,101,112,116]⟩:Hs),false)).bind fun y12=>(s05 ((y12.1,y3.1.2),y11.2.1)).bind fun y13=>(t89 y13.1.2).bind fun y14=>(s1f (y14.1.1.1.1,(⟨#[122,122,122]⟩:Hs),y14.1.1.1.2.2.2.1)).bind fun y15=>cond (!decide (y13.2=0)) (((cond y14.2 (some (decide (y14.1.1.1.2.2.2.1=y12.1.1.2.2.2.1))) (some false)):Ht Bool).bind fun j16=>some j16) (((cond y14.2 (cond y15.2 (cond (z7o y15.1 (⟨#[107,101,112,116]⟩:Hs)) ((s22 y13.1).bind fun y17=>cond y17 (some (decide (y4.1.2.2.2.1=y2.1.1.2.2.2.1))) (some false)) (some false)) (some false)) (some false)):Ht Bool).bind fun j18=>some j18))))))))
theorem p23:r82=r7k:=zC 3 rfl Tryz.func3 (by kernel_rfl)
end
end Go.Proofs.YtkdpclfhapphhaaGreat.Ab
