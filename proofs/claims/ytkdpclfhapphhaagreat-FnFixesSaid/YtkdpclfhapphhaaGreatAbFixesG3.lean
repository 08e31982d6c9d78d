import Derived.Test.YtkdpclfhapphhaaGreatAbFixesG2
namespace Go.Proofs.YtkdpclfhapphhaaGreat.Ab
open Go
set_option linter.unusedVariables false
noncomputable section
set_option maxRecDepth 100000
def u2e(x:j3f):Ht q69:=zK 10013 x
def u3k(g:j3e→Ht j3n)(x:j3e):Ht j3n:=cond (decide (x.2.2.2<(x.1.length:Int))) (cond (y4q x.2.2.2 x.1.length) ((u7i (rdL u0a x.1 x.2.2.2.toNat,x.2.1)).bind fun y2=>cond (!y2) (cond (y4q x.2.2.1 x.1.length) (g (x.1.set x.2.2.1.toNat (rdL u0a x.1 x.2.2.2.toNat),x.2.1,IntKind.i64.wrap (x.2.2.1+1),IntKind.i64.wrap (x.2.2.2+1))) none) (g (x.1,x.2.1,x.2.2.1,IntKind.i64.wrap (x.2.2.2+1)))) none) (some (.inl (x.1,x.2.2.1)))
def u1b:=lpW _ _ u3k
theorem u83 x:u1b x=u3k u1b x:=zW u3m 10013 Tryz.f173 5 42 x (by kernel_rfl)
def u4a (x:j3f):Ht q69:=(u4u x).bind fun y1=>cond (decide (y1=(- 1:Int))) (some x.1) ((u1b (x.1,x.2,y1,IntKind.i64.wrap (y1+1))).bind fun r3=>match r3 with | .inl o4=>cond (decide (0≤o4.2)&&decide (o4.2≤(o4.1.length:Int))&&decide ((o4.1.length:Int)≤(o4.1.length:Int))) (cond (decide (0≤(0:Int))&&decide ((0:Int)≤o4.2)&&decide (o4.2≤((o4.1.take o4.2.toNat++List.replicate ((o4.1.length:Int).toNat - o4.2.toNat) u0a.zero++o4.1.drop (o4.2.toNat+((o4.1.length:Int).toNat - o4.2.toNat))).length:Int))) (some ((o4.1.take o4.2.toNat++List.replicate ((o4.1.length:Int).toNat - o4.2.toNat) u0a.zero++o4.1.drop (o4.2.toNat+((o4.1.length:Int).toNat - o4.2.toNat))).take (o4.2.toNat - (0:Int).toNat))) none) none | .inr z5=>none)
theorem u9z:u2e=u4a:=zC 10013 rfl Tryz.func173 (by kernel_rfl)
def s0x(x:o82):Ht u61:=zK 169 x
def r9l (x:o82):Ht u61:=(u1r x.1).bind fun y1=>(u2e (y1.2.2.1,x.2)).bind fun y2=>some (y1.1,y1.2.1,y2,y1.2.2.2)
theorem p30:s0x=r9l:=zC 169 rfl Tryz.func169 (by kernel_rfl)
def r1f(x:Z16):Ht o4k:=zK 62 x
def q27 (x:Z16):Ht o4k:=(((u2y x.1).bind fun y1=>cond (!y1) (some true) ((t87 x.2).bind fun y2=>some (!y2))):Ht Bool).bind fun j3=>cond j3 ((u1r x.1).bind fun y4=>some (y4,false)) ((u1r x.1).bind fun y5=>cond (decide (x.2.1=1)) ((t5m (x.1,x.2.2.1)).bind fun y6=>(u6f (y6,([]:Hu u0a.den))).bind fun y7=>((cond (!(decide (x.2.2.1.2.2.2.1=(IntKind.i64.wrap (x.1.2.2.2.1+1))))) (some true) ((u2y y7).bind fun y8=>some (!y8))):Ht Bool).bind fun j9=>cond j9 ((u1r x.1).bind fun y10=>some (y10,false)) (some (y7,true))) (cond (decide (x.2.1=2)) (((cond (decide ((x.1.2.2.1.length:Int)<(3:Int))) ((s01 (x.1,x.2.2.1.2.2.2.2.2.2.2)).bind fun y11=>some (decide (y11<0))) (some false)):Ht Bool).bind fun j12=>(s15 (x.1,x.2.2.1,x.2.2.1.2.2.2.2.2.2.2)).bind fun y13=>(u6f (y13,([]:Hu u0a.den))).bind fun y14=>((cond (!j12) (some true) ((u2y y14).bind fun y15=>some (!y15))):Ht Bool).bind fun j16=>cond j16 ((u1r x.1).bind fun y17=>some (y17,false)) (some (y14,true))) (cond (decide (x.2.1=3)) ((s01 (x.1,x.2.2.2.1)).bind fun y18=>((cond (decide (y18≥0)) (some x.2.2.2.2.1) (some false)):Ht Bool).bind fun j19=>cond j19 (cond (y4q y18 x.1.2.2.1.length) ((t5m (x.1,rdL u0a x.1.2.2.1 y18.toNat)).bind fun y20=>(u6f (y20,([]:Hu u0a.den))).bind fun y21=>((cond (!(decide (y18≥0))) (some true) ((u2y y21).bind fun y22=>some (!y22))):Ht Bool).bind fun j23=>cond j23 ((u1r x.1).bind fun y24=>some (y24,false)) (some (y21,true))) none) ((s0x (x.1,x.2.2.2.1)).bind fun y25=>(u6f (y25,([]:Hu u0a.den))).bind fun y26=>((cond (!(decide (y18≥0))) (some true) ((u2y y26).bind fun y27=>some (!y27))):Ht Bool).bind fun j28=>cond j28 ((u1r x.1).bind fun y29=>some (y29,false)) (some (y26,true)))) ((u1r x.2.2.2.2.2).bind fun y30=>(u6f (y30,([]:Hu u0a.den))).bind fun y31=>(((u2y y31).bind fun y32=>some (!y32)):Ht Bool).bind fun j33=>cond j33 ((u1r x.1).bind fun y34=>some (y34,false)) (some (y31,true))))))
theorem p7v:r1f=q27:=zC 62 rfl Tryz.func62 (by kernel_rfl)
def t5l(x:u99):Ht o4k:=zK 11 x
def t54(g:Z25→Ht (Z35⊕o4k))(x:Z25):Ht (Z35⊕o4k):=cond (decide (x.2.2.2.2<x.2.2.2.1)) (cond (y4q x.2.2.2.2 x.2.2.1.length) ((t92 (rdL Ty.str x.2.2.1 x.2.2.2.2.toNat)).bind fun y3=>(r1f (x.2.1,y3.1)).bind fun y4=>((cond (!y3.2) (some true) (some (!y4.2))):Ht Bool).bind fun j5=>cond j5 (some (.inr ((([]:Hu u0d.den),([]:Hu u0a.den),([]:Hu u0a.den),0,0),false))) (g (x.1,y4.1,x.2.2.1,x.2.2.2.1,IntKind.i64.wrap (x.2.2.2.2+1)))) none) (some (.inl (x.1,x.2.1)))
def u5y:=lpW _ _ t54
theorem r4l x:u5y x=t54 u5y x:=zW r3f 11 Tryz.f11 3 40 x (by kernel_rfl)
def r9o (x:u99):Ht o4k:=(q1p ()).bind fun y1=>(s4q x).bind fun y2=>(u5y ((([]:Hu u0d.den),([]:Hu u0a.den),([]:Hu u0a.den),0,0),y1,y2,(y2.length:Int),0)).bind fun r6=>match r6 with | .inl o7=>some (o7.2,true) | .inr z8=>some z8
theorem p33:t5l=r9o:=zC 11 rfl Tryz.func11 (by kernel_rfl)
def u8y(x:(o6t×o6t)):Ht Bool:=zK 87 x
def u4z(g:j9o→Ht s8d)(x:j9o):Ht s8d:=cond (decide (x.2.2.2<x.2.2.1)) (cond (y4q x.2.2.2 x.1.length) (cond (y4q x.2.2.2 x.2.1.length) (cond (!(z7o (rdL q7m x.1 x.2.2.2.toNat).1 (rdL q7m x.2.1 x.2.2.2.toNat).1&&(z7o (rdL q7m x.1 x.2.2.2.toNat).2 (rdL q7m x.2.1 x.2.2.2.toNat).2&&true))) (some (.inr false)) (g (x.1,x.2.1,x.2.2.1,IntKind.i64.wrap (x.2.2.2+1)))) none) none) (some (.inl ()))
def u40:=lpW _ _ u4z
theorem t45 x:u40 x=u4z u40 x:=zW t42 87 Tryz.f87 4 26 x (by kernel_rfl)
def t7z (x:(o6t×o6t)):Ht Bool:=cond (!decide ((x.1.length:Int)=(x.2.length:Int))) (some false) ((u40 (x.1,x.2,(x.1.length:Int),0)).bind fun r1=>match r1 with | .inl o2=>some true | .inr z3=>some z3)
theorem s83:u8y=t7z:=zC 87 rfl Tryz.func87 (by kernel_rfl)
def t3c(x:q8o):Ht q8o:=zK 312 x
theorem s4a:∀(x:q8o),t3c x=y7a x:=y6f (P:=Tryz.prog) (A:=A) (f:=312) (F:=y7a) rfl
def u9d(x:q8o):Ht q8o:=zK 313 x
theorem s1k:∀(x:q8o),u9d x=y0m x:=y6f (P:=Tryz.prog) (A:=A) (f:=313) (F:=y0m) rfl
def r1h(x:r9b):Ht q8o:=zK 202 x
def t8h(g:j9g→Ht (q8o⊕Unit))(x:j9g):Ht (q8o⊕Unit):=cond (decide (x.2.2.2<x.2.2.1)) (cond (y4q x.2.2.2 x.2.1.length) (cond (Nat.ble (x.1.length+([(rdL u0d x.2.1 x.2.2.2.toNat).1]:Hu Hs).length) z7w) (g (x.1++([(rdL u0d x.2.1 x.2.2.2.toNat).1]:Hu Hs),x.2.1,x.2.2.1,IntKind.i64.wrap (x.2.2.2+1))) none) none) (some (.inl x.1))
def t8t:=lpW _ _ t8h
theorem r8f x:t8t x=t8h t8t x:=zW r7g 202 Tryz.f202 3 22 x (by kernel_rfl)
def q3f (x:r9b):Ht q8o:=(t8t (([]:Hu Hs),x,(x.length:Int),0)).bind fun r1=>match r1 with | .inl o2=>((t3c o2).bind fun y3=>(u9d y3).bind fun y4=>some y4) | .inr z5=>none
theorem p71:r1h=q3f:=zC 202 rfl Tryz.func202 (by kernel_rfl)
def r1g(x:j00):Ht s5n:=zK 203 x
def q3a (x:j00):Ht s5n:=(s3i x).bind fun y1=>((cond (decide (y1<0)) (some true) (cond (y4q y1 x.1.length) (some (rdL u0d x.1 y1.toNat).2.2.1) none)):Ht Bool).bind fun j2=>cond j2 (some ((⟨#[]⟩:Hs),false)) (cond (y4q y1 x.1.length) (some ((rdL u0d x.1 y1.toNat).2.1,true)) none)
theorem p7y:r1g=q3a:=zC 203 rfl Tryz.func203 (by kernel_rfl)
def s3h(x:j9h):Ht o6t:=zK 89 x
def t8g(g:j8f→Ht (o6t⊕Unit))(x:j8f):Ht (o6t⊕Unit):=cond (decide (x.2.2.2.2.2.2<x.2.2.2.2.2.1)) (cond (y4q x.2.2.2.2.2.2 x.2.2.2.2.1.length) ((r1g (x.1,rdL Ty.str x.2.2.2.2.1 x.2.2.2.2.2.2.toNat,x.2.1)).bind fun y2=>((cond y2.2 ((s0y (x.2.2.1,rdL Ty.str x.2.2.2.2.1 x.2.2.2.2.2.2.toNat)).bind fun y3=>some y3) (some false)):Ht Bool).bind fun j4=>cond j4 (cond (Nat.ble (x.2.2.2.1.length+([(rdL Ty.str x.2.2.2.2.1 x.2.2.2.2.2.2.toNat,y2.1)]:Hu q7m.den).length) z7w) (g (x.1,x.2.1,x.2.2.1,x.2.2.2.1++([(rdL Ty.str x.2.2.2.2.1 x.2.2.2.2.2.2.toNat,y2.1)]:Hu q7m.den),x.2.2.2.2.1,x.2.2.2.2.2.1,IntKind.i64.wrap (x.2.2.2.2.2.2+1))) none) (g (x.1,x.2.1,x.2.2.1,x.2.2.2.1,x.2.2.2.2.1,x.2.2.2.2.2.1,IntKind.i64.wrap (x.2.2.2.2.2.2+1)))) none) (some (.inl x.2.2.2.1))
def t8s:=lpW _ _ t8g
theorem r8e x:t8s x=t8g t8s x:=zW r7f 89 Tryz.f89 3 40 x (by kernel_rfl)
def q28 (x:j9h):Ht o6t:=(r1h x.1).bind fun y1=>(t8s (x.1,x.2.2,x.2.1,([]:Hu q7m.den),y1,(y1.length:Int),0)).bind fun r5=>match r5 with | .inl o6=>some o6 | .inr z7=>none
theorem p7w:s3h=q28:=zC 89 rfl Tryz.func89 (by kernel_rfl)
def s7v(x:Unit):Ht j09:=zK 92 x
def r90 (x:Unit):Ht j09:=some ((⟨#[97]⟩:Hs),(⟨#[122,122,122]⟩:Hs))
theorem p4f:s7v=r90:=zC 92 rfl Tryz.func92 (by kernel_rfl)
def t4p(x:j5q):Ht Bool:=zK 176 x
def s8i (x:j5q):Ht Bool:=(s7v ()).bind fun y1=>(s3h (x.2.1,y1,x.1)).bind fun y2=>(s7v ()).bind fun y3=>(s3h (x.2.2,y3,x.1)).bind fun y4=>(u8y (y2,y4)).bind fun y5=>some y5
theorem q6a:t4p=s8i:=zC 176 rfl Tryz.func176 (by kernel_rfl)
def u67(x:(Unit×Int)):Ht r9b:=zK 294 x
def t40 (x:(Unit×Int)):Ht r9b:=cond (decide (x.2<0)) none (cond (decide ((IntKind.i64.wrap (x.2 - (IntKind.i64.wrap ((0:Int) - (0:Int)))))>0)) (cond (decide (0≤(0:Int))&&decide ((0:Int)≤(0:Int))&&decide ((0:Int)≤0)) (cond (decide (1≤(IntKind.i64.wrap (x.2 - (IntKind.i64.wrap ((0:Int) - (0:Int))))))&&decide ((IntKind.i64.wrap (x.2 - (IntKind.i64.wrap ((0:Int) - (0:Int)))))≤1099511627776)) (cond (decide (0≤(0:Int))&&decide ((0:Int)≤(0:Int))&&decide ((0:Int)≤((List.replicate (IntKind.i64.wrap (x.2 - (IntKind.i64.wrap ((0:Int) - (0:Int))))).toNat u0d.zero).length:Int))) (some ((List.replicate (IntKind.i64.wrap (x.2 - (IntKind.i64.wrap ((0:Int) - (0:Int))))).toNat u0d.zero).take ((0:Int).toNat - (0:Int).toNat))) none) none) none) (some ([]:Hu u0d.den)))
theorem s5r:u67=t40:=zC 294 rfl Tryz.func294 (by kernel_rfl)
def u6h(x:(Hu r9b)):Ht r9b:=zK 177 x
def u27(g:j8v→Ht (((Hu r9b)×Int)⊕Unit))(x:j8v):Ht (((Hu r9b)×Int)⊕Unit):=cond (decide (x.2.2.2.2<x.2.2.2.1)) (cond (y4q x.2.2.2.2 x.2.2.1.length) (cond (decide ((IntKind.i64.wrap (x.2.1+((rdL (Ty.sl u0d) x.2.2.1 x.2.2.2.2.toNat).length:Int)))<0)) none (g (x.1,IntKind.i64.wrap (x.2.1+((rdL (Ty.sl u0d) x.2.2.1 x.2.2.2.2.toNat).length:Int)),x.2.2.1,x.2.2.2.1,IntKind.i64.wrap (x.2.2.2.2+1)))) none) (some (.inl (x.1,x.2.1)))
def u2c:=lpW _ _ u27
theorem u9f x:u2c x=u27 u2c x:=zW u9b 177 Tryz.f177 3 36 x (by kernel_rfl)
def u2x(g:j84→Ht o86)(x:j84):Ht o86:=cond (decide (x.2.2.2<x.2.2.1)) (cond (y4q x.2.2.2 x.2.1.length) (cond (Nat.ble (x.1.length+(rdL (Ty.sl u0d) x.2.1 x.2.2.2.toNat).length) z7w) (g (x.1++(rdL (Ty.sl u0d) x.2.1 x.2.2.2.toNat),x.2.1,x.2.2.1,IntKind.i64.wrap (x.2.2.2+1))) none) none) (some (.inl x.1))
def u17:=lpW _ _ u2x
theorem u82 x:u17 x=u2x u17 x:=zW u8r 177 Tryz.f177 11 36 x (by kernel_rfl)
def t2g (x:(Hu r9b)):Ht r9b:=(u2c (x,0,x,(x.length:Int),0)).bind fun r1=>match r1 with | .inl o2=>((u67 ((),o2.2)).bind fun y3=>(u17 (y3,o2.1,(o2.1.length:Int),0)).bind fun r4=>match r4 with | .inl o5=>some o5 | .inr z6=>none) | .inr z7=>none
theorem s3d:u6h=t2g:=zC 177 rfl Tryz.func177 (by kernel_rfl)
def s4s(x:j4b):Ht Bool:=zK 67 x
def t3n(g:j8o→Ht (j5q⊕Bool))(x:j8o):Ht (j5q⊕Bool):=cond (decide (x.2.2.2.2<x.2.2.2.1)) (cond (y4q x.2.2.2.2 x.2.2.1.length) (cond (decide ((rdL u0d x.2.2.1 x.2.2.2.2.toNat).2.2.2>x.1)) ((t4p ((rdL u0d x.2.2.1 x.2.2.2.2.toNat).2.2.2,x.2.1)).bind fun y2=>cond (!y2) (some (.inr false)) (g (x.1,x.2.1,x.2.2.1,x.2.2.2.1,IntKind.i64.wrap (x.2.2.2.2+1)))) (g (x.1,x.2.1,x.2.2.1,x.2.2.2.1,IntKind.i64.wrap (x.2.2.2.2+1)))) none) (some (.inl (x.1,x.2.1)))
def t4c:=lpW _ _ t3n
theorem r0a x:t4c x=t3n t4c x:=zW s9c 67 Tryz.f67 3 35 x (by kernel_rfl)
def r55 (x:j4b):Ht Bool:=(u6h ([x.1,x.2.1]:Hu r9b)).bind fun y1=>(t4c (x.2.2,(x.1,x.2.1),y1,(y1.length:Int),0)).bind fun r3=>match r3 with | .inl o4=>((t4p o4).bind fun y5=>some y5) | .inr z6=>some z6
theorem p1k:s4s=r55:=zC 67 rfl Tryz.func67 (by kernel_rfl)
def r7w(x:Z54):Ht Bool:=zK 66 x
def r6e (x:Z54):Ht Bool:=(t1h x.1).bind fun y1=>(t1h x.2).bind fun y2=>((cond (y1.2==y2.2) (some (z7o y1.1 y2.1)) (some false)):Ht Bool).bind fun j3=>some j3
theorem p1u:r7w=r6e:=zC 66 rfl Tryz.func66 (by kernel_rfl)
def u1t(x:j8u):Ht Bool:=zK 10000 x
def u1j(g:j8j→Ht s8d)(x:j8j):Ht s8d:=cond (decide (x.2.2.2.2<x.2.2.2.1)) (cond (y4q x.2.2.2.2 x.2.2.1.length) (cond (y4q x.2.2.2.2 x.1.length) ((r7w (rdL u0a x.2.2.1 x.2.2.2.2.toNat,rdL u0a x.1 x.2.2.2.2.toNat)).bind fun y1=>cond (!y1) (some (.inr false)) (g (x.1,(),x.2.2.1,x.2.2.2.1,IntKind.i64.wrap (x.2.2.2.2+1)))) none) none) (some (.inl ()))
def u1k:=lpW _ _ u1j
theorem u4i x:u1k x=u1j u1k x:=zW u4d 10000 Tryz.f65 4 32 x (by kernel_rfl)
def u41 (x:j8u):Ht Bool:=cond (!decide ((x.1.length:Int)=(x.2.1.length:Int))) (some false) ((u1k (x.2.1,(),x.1,(x.1.length:Int),0)).bind fun r2=>match r2 with | .inl o3=>some true | .inr z4=>some z4)
theorem t1m:u1t=u41:=zC 10000 rfl Tryz.func65 (by kernel_rfl)
def t86(x:Z35):Ht Bool:=zK 13 x
def r50 (x:Z35):Ht Bool:=cond (decide (x.1.2.2.2.1=x.2.2.2.2.1)) ((u1t (x.1.2.1,x.2.2.1,())).bind fun y1=>cond y1 ((u1t (x.1.2.2.1,x.2.2.2.1,())).bind fun y2=>cond y2 ((s4s (x.1.1,x.2.1,x.1.2.2.2.1)).bind fun y3=>some y3) (some false)) (some false)) (some false)
theorem p1f:t86=r50:=zC 13 rfl Tryz.func13 (by kernel_rfl)
def t84(x:u99):Ht Bool:=zK 163 x
def t8e(g:j68→Ht j3l)(x:j68):Ht j3l:=cond (decide (x.2.2.2<x.2.2.1)) (cond (y4q x.2.2.2 x.2.1.length) (cond (!decide (((rdL Ty.str x.2.1 x.2.2.2.toNat).size:Int)=(64:Int))) (some (.inr false)) (g (x.1,x.2.1,x.2.2.1,IntKind.i64.wrap (x.2.2.2+1)))) none) (some (.inl x.1))
def t8q:=lpW _ _ t8e
theorem r8c x:t8q x=t8e t8q x:=zW r7d 163 Tryz.f163 2 50 x (by kernel_rfl)
def t8f(g:j69→Ht j3l)(x:j69):Ht j3l:=cond (decide (x.2.2.2<x.2.2.1)) (cond (y4q x.2.2.2 x.2.1.length) ((((u03 ((rdL q98 x.2.1 x.2.2.2.toNat).1,0,IntKind.i64.wrap ((x.1.1.length:Int) - (1:Int)))).bind fun y3=>cond (!y3) (some true) (some (!decide (((rdL q98 x.2.1 x.2.2.2.toNat).2.size:Int)=(64:Int))))):Ht Bool).bind fun j4=>cond j4 (some (.inr false)) (g (x.1,x.2.1,x.2.2.1,IntKind.i64.wrap (x.2.2.2+1)))) none) (some (.inl x.1))
def t8r:=lpW _ _ t8f
theorem r8d x:t8r x=t8f t8r x:=zW r7e 163 Tryz.f163 8 50 x (by kernel_rfl)
def q26 (x:u99):Ht Bool:=(t8q (x,x.1,(x.1.length:Int),0)).bind fun r1=>match r1 with | .inl o2=>((t8r (o2,o2.2,(o2.2.length:Int),0)).bind fun r5=>match r5 with | .inl o6=>((((u03 ((o6.1.length:Int),1,100)).bind fun y7=>cond y7 (some (decide ((o6.2.length:Int)≤(60:Int)))) (some false)):Ht Bool).bind fun j8=>some j8) | .inr z9=>some z9) | .inr z10=>some z10
theorem p7u:t84=q26:=zC 163 rfl Tryz.func163 (by kernel_rfl)
def s1r(x:u99):Ht Bool:=zK 58 x
def q7p (x:u99):Ht Bool:=(u8t (x,0)).bind fun y1=>(u8t (x,1)).bind fun y2=>(((t84 x).bind fun y3=>cond y3 (cond (decide ((x.1.length:Int)=(97:Int))) (cond (decide ((x.2.length:Int)=(0:Int))) (cond y1.2.2 (some y2.2.2) (some false)) (some false)) (some false)) (some false)):Ht Bool).bind fun j4=>some j4
theorem o0p:s1r=q7p:=zC 58 rfl Tryz.func58 (by kernel_rfl)
def s4p(x:Z73):Ht Bool:=zK 63 x
def t3k(g:Z43→Ht s8d)(x:Z43):Ht s8d:=cond (decide (x.2.2.2<x.2.2.1)) (cond (y4q x.2.2.2 x.2.1.length) ((((u7y (rdL u0a x.2.1 x.2.2.2.toNat)).bind fun y4=>cond (!y4) (some true) (cond (!decide ((rdL u0a x.2.1 x.2.2.2.toNat).2.1=1)) (some true) (cond (decide ((rdL u0a x.2.1 x.2.2.2.toNat).2.2.1>x.1.1.2.2.2.1)) (some true) (cond (decide (x.2.2.2>0)) (cond (y4q (IntKind.i64.wrap (x.2.2.2 - 1)) x.1.2.length) (some (decide ((rdL u0a x.1.2 (IntKind.i64.wrap (x.2.2.2 - 1)).toNat).1≥(rdL u0a x.2.1 x.2.2.2.toNat).1))) none) (some false))))):Ht Bool).bind fun j5=>cond j5 (some (.inr false)) (g (x.1,x.2.1,x.2.2.1,IntKind.i64.wrap (x.2.2.2+1)))) none) (some (.inl ()))
def t39:=lpW _ _ t3k
theorem s97 x:t39 x=t3k t39 x:=zW s89 63 Tryz.f63 4 73 x (by kernel_rfl)
def r5y (x:Z73):Ht Bool:=(u2y x.1).bind fun y1=>cond (!y1) (some false) (cond (decide ((x.2.length:Int)>(4:Int))) (some false) ((u3o ([x.1.2.1,x.1.2.2.1,x.2]:Hu q69)).bind fun y2=>(t08 (y2,x.1.2.2.2.2)).bind fun y3=>cond (!y3) (some false) ((t39 (x,x.2,(x.2.length:Int),0)).bind fun r6=>match r6 with | .inl o7=>some true | .inr z8=>some z8)))
theorem p1d:s4p=r5y:=zC 63 rfl Tryz.func63 (by kernel_rfl)
def s02(x:Z51):Ht Bool:=zK 12 x
def r9s (x:Z51):Ht Bool:=(t5l x.2).bind fun y1=>(((s4p x.1).bind fun y2=>cond y2 ((s1r x.2).bind fun y3=>cond y3 (cond y1.2 ((u6f (x.1.1,([]:Hu u0a.den))).bind fun y4=>(t86 (y1.1,y4)).bind fun y5=>some y5) (some false)) (some false)) (some false)):Ht Bool).bind fun j6=>some j6
theorem p37:s02=r9s:=zC 12 rfl Tryz.func12 (by kernel_rfl)
def u1s(x:u99):Ht u99:=zK 59 x
def r59 (x:u99):Ht u99:=cond (Nat.ble x.1.length z7w) (cond (Nat.ble x.2.length z7w) (some x) none) none
theorem p1p:u1s=r59:=zC 59 rfl Tryz.func59 (by kernel_rfl)
def t4r(x:Z73):Ht Z73:=zK 205 x
def s8m (x:Z73):Ht Z73:=(u1r x.1).bind fun y1=>(t3a x.2).bind fun y2=>some (y1,y2)
theorem q6e:t4r=s8m:=zC 205 rfl Tryz.func205 (by kernel_rfl)
def s19(x:Z51):Ht Z51:=zK 150 x
def r2m (x:Z51):Ht Z51:=(t4r x.1).bind fun y1=>(u1s x.2).bind fun y2=>some (y1,y2)
theorem q89:s19=r2m:=zC 150 rfl Tryz.func150 (by kernel_rfl)
def u7h(x:u99):Ht u99:=zK 344 x
def t1t(g:j8d→Ht j3j)(x:j8d):Ht j3j:=cond (decide (x.2.2.2.2<x.2.2.2.1)) (cond (y4q x.2.2.2.2 x.2.2.1.length) (cond (y4q (rdL q98 x.2.2.1 x.2.2.2.2.toNat).1 x.2.1.1.length) (g (x.1,(x.2.1.1.set ((rdL q98 x.2.2.1 x.2.2.2.2.toNat).1).toNat (rdL q98 x.2.2.1 x.2.2.2.2.toNat).2,x.2.1.2),x.2.2.1,x.2.2.2.1,IntKind.i64.wrap (x.2.2.2.2+1))) none) none) (some (.inl (x.1,x.2.1)))
def t19:=lpW _ _ t1t
theorem s64 x:t19 x=t1t t19 x:=zW s6c 344 Tryz.f344 4 27 x (by kernel_rfl)
def r2e (x:u99):Ht u99:=(u1s x).bind fun y1=>(t84 x).bind fun y2=>cond y2 ((t19 ((([]:Hu Hs),([]:Hu q98.den)),y1,x.2,(x.2.length:Int),0)).bind fun r3=>match r3 with | .inl o4=>some (o4.2.1,([]:Hu q98.den)) | .inr z5=>none) (some y1)
theorem q8z:u7h=r2e:=zC 344 rfl Tryz.func344 (by kernel_rfl)
def t88(x:o4l):Ht r0w:=zK 432 x
def s5z (x:o4l):Ht r0w:=(u1s x.1).bind fun y1=>cond (Nat.ble (y1.2.length+([x.2]:Hu q98.den).length) z7w) ((t84 (y1.1,y1.2++([x.2]:Hu q98.den))).bind fun y2=>cond (!y2) ((u1s x.1).bind fun y3=>some (y3,false)) (some ((y1.1,y1.2++([x.2]:Hu q98.den)),true))) none
theorem q4m:t88=s5z:=zC 432 rfl Tryz.func432 (by kernel_rfl)
def u8w(x:j5j):Ht r0w:=zK 404 x
def t7k(g:Z80→Ht j3m)(x:Z80):Ht j3m:=cond (!z7o x.2.2.1 (⟨#[]⟩:Hs)) ((u8u (x.2.2.2.2.2,x.1)).bind fun y6=>((cond (!y6.2) (some true) (some (!decide ((y6.1.size:Int)=(64:Int))))):Ht Bool).bind fun j7=>cond j7 ((u1s x.2.2.2.1).bind fun y8=>some (.inr (y8,false))) (cond (decide (0≤(0:Int))&&decide ((0:Int)≤x.2.1)&&decide (x.2.1≤(y6.1.size:Int))) (cond (decide (0≤(0:Int))&&decide ((0:Int)≤(y8i (x.2.2.1.size:Int) (IntKind.i64.wrap ((64:Int) - x.2.1))))&&decide ((y8i (x.2.2.1.size:Int) (IntKind.i64.wrap ((64:Int) - x.2.1)))≤(x.2.2.1.size:Int))) (cond (decide ((y6.1.extract (0:Int).toNat x.2.1.toNat).size+(x.2.2.1.extract (0:Int).toNat (y8i (x.2.2.1.size:Int) (IntKind.i64.wrap ((64:Int) - x.2.1))).toNat).size≤140737488355328)) (cond (decide (0≤(IntKind.i64.wrap (x.2.1+(y8i (x.2.2.1.size:Int) (IntKind.i64.wrap ((64:Int) - x.2.1))))))&&decide ((IntKind.i64.wrap (x.2.1+(y8i (x.2.2.1.size:Int) (IntKind.i64.wrap ((64:Int) - x.2.1)))))≤(y6.1.size:Int))&&decide ((y6.1.size:Int)≤(y6.1.size:Int))) (cond (decide (((y6.1.extract (0:Int).toNat x.2.1.toNat)++(x.2.2.1.extract (0:Int).toNat (y8i (x.2.2.1.size:Int) (IntKind.i64.wrap ((64:Int) - x.2.1))).toNat)).size+(y6.1.extract (IntKind.i64.wrap (x.2.1+(y8i (x.2.2.1.size:Int) (IntKind.i64.wrap ((64:Int) - x.2.1))))).toNat (y6.1.size:Int).toNat).size≤140737488355328)) ((t88 (x.2.2.2.2.2,x.1,((y6.1.extract (0:Int).toNat x.2.1.toNat)++(x.2.2.1.extract (0:Int).toNat (y8i (x.2.2.1.size:Int) (IntKind.i64.wrap ((64:Int) - x.2.1))).toNat))++(y6.1.extract (IntKind.i64.wrap (x.2.1+(y8i (x.2.2.1.size:Int) (IntKind.i64.wrap ((64:Int) - x.2.1))))).toNat (y6.1.size:Int).toNat))).bind fun y9=>cond (!y9.2) ((u1s x.2.2.2.1).bind fun y10=>some (.inr (y10,false))) (cond (decide (0≤(y8i (x.2.2.1.size:Int) (IntKind.i64.wrap ((64:Int) - x.2.1))))&&decide ((y8i (x.2.2.1.size:Int) (IntKind.i64.wrap ((64:Int) - x.2.1)))≤(x.2.2.1.size:Int))&&decide ((x.2.2.1.size:Int)≤(x.2.2.1.size:Int))) (g (IntKind.i64.wrap (x.1+1),0,x.2.2.1.extract (y8i (x.2.2.1.size:Int) (IntKind.i64.wrap ((64:Int) - x.2.1))).toNat (x.2.2.1.size:Int).toNat,x.2.2.2.1,x.2.2.2.2.1,y9.1)) none)) none) none) none) none) none)) (some (.inl x.2.2.2.2))
def u9s:=lpW _ _ t7k
theorem q2u x:u9s x=t7k u9s x:=zW s4e 404 Tryz.f404 5 87 x (by kernel_rfl)
def s8l (x:j5j):Ht r0w:=(((u03 (x.2.2.1,0,6400)).bind fun y1=>cond (!y1) (some true) ((u03 (x.2.1,0,IntKind.i64.wrap ((x.1.1.length:Int) - (1:Int)))).bind fun y2=>some (!y2))):Ht Bool).bind fun j3=>cond j3 ((u1s x.1).bind fun y4=>some (y4,false)) ((u1s x.1).bind fun y5=>(u9s (IntKind.i64.wrap (x.2.1+(IntKind.i64.wrap (Int.tdiv x.2.2.1 (64:Int)))),Int.tmod x.2.2.1 (64:Int),x.2.2.2,x.1,(([]:Hu Hs),([]:Hu q98.den)),y5)).bind fun r11=>match r11 with | .inl o12=>some (o12.2,true) | .inr z13=>some z13)
theorem q6d:u8w=s8l:=zC 404 rfl Tryz.func404 (by kernel_rfl)
def t9c(x:j0y):Ht u99:=zK 403 x
def r6d (x:j0y):Ht u99:=(u7g x.2.1).bind fun y1=>(u8w (x.1,y1,0,y7g ([(IntKind.u8.wrap x.2.2)]:Hu Int))).bind fun y2=>some y2.1
theorem p1t:t9c=r6d:=zC 403 rfl Tryz.func403 (by kernel_rfl)
def s7w(x:o4l):Ht r0w:=zK 412 x
def r92 (x:o4l):Ht r0w:=(u8t (x.1,x.2.1)).bind fun y1=>(t06 x.2.2).bind fun y2=>(((s1r x.1).bind fun y3=>cond (!y3) (some true) (cond (!y1.2.2) (some true) (cond (!y2.2) (some true) (cond (z7o x.2.2 (⟨#[]⟩:Hs)) (some true) (cond (decide ((IntKind.i64.wrap (y1.2.1+(y2.1.size:Int)))>3008)) (some true) ((t5k (x.1,x.2.1)).bind fun y4=>some (decide (y4=255)))))))):Ht Bool).bind fun j5=>cond j5 ((u1s x.1).bind fun y6=>some (y6,false)) ((u7g x.2.1).bind fun y7=>(u8w (x.1,IntKind.i64.wrap (y7+1),y1.2.1,y2.1)).bind fun y8=>some y8)
theorem p4i:s7w=r92:=zC 412 rfl Tryz.func412 (by kernel_rfl)
def s16(x:o4l):Ht r0w:=zK 373 x
def r2g (x:o4l):Ht r0w:=(s7w x).bind fun y1=>cond (!y1.2) ((u1s x.1).bind fun y2=>some (y2,false)) ((u7h y1.1).bind fun y3=>(t5k (x.1,x.2.1)).bind fun y4=>(t9c (y3,x.2.1,IntKind.i64.wrap (y4+1))).bind fun y5=>(u7h y5).bind fun y6=>some (y6,true))
theorem q82:s16=r2g:=zC 373 rfl Tryz.func373 (by kernel_rfl)
def s2b(x:j0x):Ht r0w:=zK 343 x
def t1w(g:Z71→Ht j3m)(x:Z71):Ht j3m:=cond (decide (x.2.2.2.2.2.2<x.2.2.2.2.2.1)) (cond (y4q x.2.2.2.2.2.2 x.2.2.2.2.1.length) ((s16 (x.2.2.2.1,x.2.2.1,rdL Ty.str x.2.2.2.2.1 x.2.2.2.2.2.2.toNat)).bind fun y6=>cond (!y6.2) ((u1s x.1).bind fun y7=>some (.inr (y7,false))) (g (x.1,x.2.1,x.2.2.1,y6.1,x.2.2.2.2.1,x.2.2.2.2.2.1,IntKind.i64.wrap (x.2.2.2.2.2.2+1)))) none) (some (.inl (x.2.1,x.2.2.2.1)))
def u7t:=lpW _ _ t1w
theorem s67 x:u7t x=t1w u7t x:=zW s6f 343 Tryz.f343 6 44 x (by kernel_rfl)
def r2o (x:j0x):Ht r0w:=(s1r x.1).bind fun y1=>cond (!y1) ((u1s x.1).bind fun y2=>some (y2,false)) ((t83 x.1).bind fun y3=>(t9c (x.1,IntKind.i64.wrap ((1:Int) - y3),0)).bind fun y4=>(u7h y4).bind fun y5=>(u7t (x.1,(([]:Hu Hs),([]:Hu q98.den)),IntKind.i64.wrap ((1:Int) - y3),y5,x.2,(x.2.length:Int),0)).bind fun r8=>match r8 with | .inl o9=>some (o9.2,true) | .inr z10=>some z10)
theorem q9b:s2b=r2o:=zC 343 rfl Tryz.func343 (by kernel_rfl)
def s2c(x:u99):Ht u99:=zK 345 x
def r2t (x:u99):Ht u99:=(t07 (x,0)).bind fun y1=>(u8w (x,0,0,y7g ([(IntKind.u8.wrap (IntKind.i64.wrap (y1+1)))]:Hu Int))).bind fun y2=>some y2.1
theorem q9g:s2c=r2t:=zC 345 rfl Tryz.func345 (by kernel_rfl)
def s17(x:j0x):Ht r0w:=zK 257 x
def r2k (x:j0x):Ht r0w:=(s2b x).bind fun y1=>cond (!y1.2) (some (y1.1,false)) ((s2c y1.1).bind fun y2=>(u7h y2).bind fun y3=>some (y3,true))
theorem q86:s17=r2k:=zC 257 rfl Tryz.func257 (by kernel_rfl)
def q2o(x:u99):Ht r0w:=zK 151 x
def p0x (x:u99):Ht r0w:=(t5l x).bind fun y1=>(u49 (4,(0,0,0,0,([]:Hu q7m.den),([]:Hu u2f.den),false,(⟨#[]⟩:Hs)),(⟨#[]⟩:Hs),false,y1.1)).bind fun y2=>((cond (!y1.2) (some true) (some (!y2.2))):Ht Bool).bind fun j3=>cond j3 ((u1s x).bind fun y4=>some (y4,false)) ((s17 (x,([y2.1]:Hu Hs))).bind fun y5=>some y5)
theorem o3e:q2o=p0x:=zC 151 rfl Tryz.func151 (by kernel_rfl)
def t85(x:Z51):Ht Z45:=zK 49 x
def r5z (x:Z51):Ht Z45:=(s19 x).bind fun y1=>(q2o x.2).bind fun y2=>cond y2.2 (some ((y1.1,y2.1),y2.2)) (some (y1,y2.2))
theorem p1e:t85=r5z:=zC 49 rfl Tryz.func49 (by kernel_rfl)
def s2i(x:s5m):Ht j9y:=zK 385 x
def t8o(g:j9i→Ht (j9x⊕Unit))(x:j9i):Ht (j9x⊕Unit):=(u0m (x.1,4)).bind fun y1=>cond (decide (x.2.2<y1.1)) ((u5l y1.2).bind fun y2=>cond (Nat.ble (x.2.1.length+([y2.1]:Hu q7m.den).length) z7w) (g (y2.2,x.2.1++([y2.1]:Hu q7m.den),IntKind.i64.wrap (x.2.2+1))) none) (some (.inl (y1.2,x.2.1)))
def u7x:=lpW _ _ t8o
theorem q5q x:u7x x=t8o u7x x:=zW s6p 385 Tryz.f385 3 18 x (by kernel_rfl)
def r26 (x:s5m):Ht j9y:=(u7x (x,([]:Hu q7m.den),0)).bind fun r3=>match r3 with | .inl o4=>some (o4.2,o4.1) | .inr z5=>none
theorem q9t:s2i=r26:=zC 385 rfl Tryz.func385 (by kernel_rfl)
def t1a(x:s5m):Ht j9t:=zK 386 x
def t17(g:j9f→Ht (j9u⊕Unit))(x:j9f):Ht (j9u⊕Unit):=(u0m (x.1,4)).bind fun y1=>cond (decide (x.2.2<y1.1)) ((u4h y1.2).bind fun y2=>(t9g (x.2.1,y2.1)).bind fun y3=>g (y2.2,y3,IntKind.i64.wrap (x.2.2+1))) (some (.inl (y1.2,x.2.1)))
def u38:=lpW _ _ t17
theorem s7h x:u38 x=t17 u38 x:=zW s6q 386 Tryz.f386 3 17 x (by kernel_rfl)
def s12 (x:s5m):Ht j9t:=(u38 (x,([]:Hu u2f.den),0)).bind fun r4=>match r4 with | .inl o5=>some (o5.2,o5.1) | .inr z6=>none
theorem r3c:t1a=s12:=zC 386 rfl Tryz.func386 (by kernel_rfl)
def r1r(x:s5m):Ht j5a:=zK 314 x
def q37 (x:s5m):Ht j5a:=(u0m (x,6)).bind fun y1=>(u0m (y1.2,3)).bind fun y2=>(u0m (y2.2,6)).bind fun y3=>(s2i y3.2).bind fun y4=>(t1a y4.2).bind fun y5=>cond (decide ((IntKind.i64.wrap ((1:Int)+y2.1))=2)) ((u4g y5.2).bind fun y6=>(u12 (y6.2,2)).bind fun y7=>some ((IntKind.i64.wrap ((1:Int)+y1.1),IntKind.i64.wrap ((1:Int)+y2.1),y3.1,0,y4.1,y5.1,y7.1,y6.1),y7.2)) (cond (decide ((IntKind.i64.wrap ((1:Int)+y2.1))=3)) ((u0m (y5.2,4)).bind fun y8=>(u12 (y8.2,2)).bind fun y9=>some ((IntKind.i64.wrap ((1:Int)+y1.1),IntKind.i64.wrap ((1:Int)+y2.1),y3.1,IntKind.i64.wrap ((IntKind.i64.wrap (y3.1+1))+y8.1),y4.1,y5.1,y9.1,(⟨#[]⟩:Hs)),y9.2)) (some ((IntKind.i64.wrap ((1:Int)+y1.1),IntKind.i64.wrap ((1:Int)+y2.1),y3.1,0,y4.1,y5.1,false,(⟨#[]⟩:Hs)),y5.2)))
theorem p8s:r1r=q37:=zC 314 rfl Tryz.func314 (by kernel_rfl)
def r1p(x:s5m):Ht j5l:=zK 315 x
def q33 (x:s5m):Ht j5l:=(u4h x).bind fun y1=>(u0m (y1.2,8)).bind fun y2=>cond (decide (y2.1=0)) ((u2a (y2.2,([(⟨#[]⟩:Hs),(⟨#[65]⟩:Hs),(⟨#[97,98,99,100]⟩:Hs),(⟨#[97,98,99]⟩:Hs)]:Hu Hs))).bind fun y3=>some ((y3.1,y1.1.2),y3.2)) (cond (decide (y2.1=1)) ((u0m (y2.2,2)).bind fun y4=>(u6s (IntKind.i64.wrap ((12:Int)+y4.1),97)).bind fun y5=>some ((y1.1.1,y5,y1.1.2.2),y4.2)) (cond (decide (y2.1=2)) (some ((y1.1.1,y1.1.2.1,true),y2.2)) (some (y1.1,y2.2))))
theorem p8o:r1p=q33:=zC 315 rfl Tryz.func315 (by kernel_rfl)
def t9n(x:s5m):Ht j5a:=zK 208 x
def q35 (x:s5m):Ht j5a:=(u0m (x,12)).bind fun y1=>(u0m (y1.2,60)).bind fun y2=>(r1r y2.2).bind fun y3=>(u0z y3.1).bind fun y4=>cond (decide (y1.1=0)) (cond (y4q (Int.tmod y2.1 (3:Int)) ([(0:Int),9999,(10000:Int)]:Hu Int).length) (some ((rdL (Ty.int .i64) ([(0:Int),9999,(10000:Int)]:Hu Int) (Int.tmod y2.1 (3:Int)).toNat,y4.2),y3.2)) none) (cond (decide (y1.1=1)) (some ((y4.1,Int.tmod y2.1 (5:Int),y4.2.2),y3.2)) (cond (decide (y1.1=2)) (some ((y4.1,y4.2.1,y4.2.2.1,Int.tmod y2.1 (4:Int),y4.2.2.2.2),y3.2)) (cond (decide (y1.1=3)) (cond (y4q (Int.tmod y2.1 (3:Int)) ([(⟨#[]⟩:Hs),(⟨#[65]⟩:Hs),(⟨#[97,98]⟩:Hs)]:Hu Hs).length) (some ((y4.1,y4.2.1,y4.2.2.1,y4.2.2.2.1,y4.2.2.2.2.1,y4.2.2.2.2.2.1,y4.2.2.2.2.2.2.1,rdL Ty.str ([(⟨#[]⟩:Hs),(⟨#[65]⟩:Hs),(⟨#[97,98]⟩:Hs)]:Hu Hs) (Int.tmod y2.1 (3:Int)).toNat),y3.2)) none) (cond (decide (y1.1=4)) (cond (Nat.ble (y4.2.2.2.2.1.length+([((⟨#[98]⟩:Hs),(⟨#[97]⟩:Hs))]:Hu q7m.den).length) z7w) (some ((y4.1,y4.2.1,y4.2.2.1,y4.2.2.2.1,y4.2.2.2.2.1++([((⟨#[98]⟩:Hs),(⟨#[97]⟩:Hs))]:Hu q7m.den),y4.2.2.2.2.2),y3.2)) none) (cond (decide (y1.1=5)) ((r1p y3.2).bind fun y5=>cond (Nat.ble (y4.2.2.2.2.2.1.length+([y5.1]:Hu u2f.den).length) z7w) (some ((y4.1,y4.2.1,y4.2.2.1,y4.2.2.2.1,y4.2.2.2.2.1,y4.2.2.2.2.2.1++([y5.1]:Hu u2f.den),y4.2.2.2.2.2.2),y5.2)) none) (cond (decide (y1.1=6)) (some ((y4.1,y4.2.1,y4.2.2.1,y4.2.2.2.1,y4.2.2.2.2.1,y4.2.2.2.2.2.1,true,y4.2.2.2.2.2.2.2),y3.2)) (some (y4,y3.2))))))))
theorem p8q:t9n=q35:=zC 208 rfl Tryz.func208 (by kernel_rfl)
def s1b(x:s5m):Ht Z83:=zK 228 x
def q0z (x:s5m):Ht Z83:=(u35 (x,24)).bind fun y1=>some (y1.1.1.1,y1.2)
theorem p5d:s1b=q0z:=zC 228 rfl Tryz.func228 (by kernel_rfl)
def t9m(x:s5m):Ht j5r:=zK 319 x
def t47(g:j89→Ht (j9r⊕Unit))(x:j89):Ht (j9r⊕Unit):=(u0m (x.1,8)).bind fun y1=>cond (decide (x.2.2<y1.1)) ((t1a y1.2).bind fun y2=>(u70 (x.2.1,y2.1,IntKind.i64.wrap (x.2.2+1))).bind fun y3=>g (y2.2,y3,IntKind.i64.wrap (x.2.2+1))) (some (.inl (y1.2,x.2.1)))
def u58:=lpW _ _ t47
theorem r9a x:u58 x=t47 u58 x:=zW s2y 319 Tryz.f319 3 19 x (by kernel_rfl)
def s56 (x:s5m):Ht j5r:=(u58 (x,([]:Hu u0d.den),0)).bind fun r4=>match r4 with | .inl o5=>some (o5.2,o5.1) | .inr z6=>none
theorem q4w:t9m=s56:=zC 319 rfl Tryz.func319 (by kernel_rfl)
def r1q(x:s5m):Ht j5r:=zK 229 x
def q34 (x:s5m):Ht j5r:=(u0m (x,10)).bind fun y1=>(u0m (y1.2,60)).bind fun y2=>(t9m y2.2).bind fun y3=>cond (Nat.ble (([]:Hu u0d.den).length+y3.1.length) z7w) (cond (decide (((([]:Hu u0d.den)++y3.1).length:Int)>(0:Int))) (cond (!decide (((([]:Hu u0d.den)++y3.1).length:Int)=0)) (cond (decide (y1.1=0)) (cond (y4q (Int.tmod y2.1 (4:Int)) ([(0:Int),9999,10000,(3:Int)]:Hu Int).length) (cond (y4q (Int.tmod y2.1 ((([]:Hu u0d.den)++y3.1).length:Int)) (([]:Hu u0d.den)++y3.1).length) (some ((([]:Hu u0d.den)++y3.1).set (Int.tmod y2.1 ((([]:Hu u0d.den)++y3.1).length:Int)).toNat ((rdL u0d (([]:Hu u0d.den)++y3.1) (Int.tmod y2.1 ((([]:Hu u0d.den)++y3.1).length:Int)).toNat).1,(rdL u0d (([]:Hu u0d.den)++y3.1) (Int.tmod y2.1 ((([]:Hu u0d.den)++y3.1).length:Int)).toNat).2.1,(rdL u0d (([]:Hu u0d.den)++y3.1) (Int.tmod y2.1 ((([]:Hu u0d.den)++y3.1).length:Int)).toNat).2.2.1,rdL (Ty.int .i64) ([(0:Int),9999,10000,(3:Int)]:Hu Int) (Int.tmod y2.1 (4:Int)).toNat),y3.2)) none) none) (cond (decide (y1.1=1)) (cond (y4q (Int.tmod y2.1 (3:Int)) ([(⟨#[]⟩:Hs),(⟨#[65]⟩:Hs),(⟨#[122]⟩:Hs)]:Hu Hs).length) (cond (y4q (Int.tmod y2.1 ((([]:Hu u0d.den)++y3.1).length:Int)) (([]:Hu u0d.den)++y3.1).length) (some ((([]:Hu u0d.den)++y3.1).set (Int.tmod y2.1 ((([]:Hu u0d.den)++y3.1).length:Int)).toNat (rdL Ty.str ([(⟨#[]⟩:Hs),(⟨#[65]⟩:Hs),(⟨#[122]⟩:Hs)]:Hu Hs) (Int.tmod y2.1 (3:Int)).toNat,(rdL u0d (([]:Hu u0d.den)++y3.1) (Int.tmod y2.1 ((([]:Hu u0d.den)++y3.1).length:Int)).toNat).2),y3.2)) none) none) (cond (decide (y1.1=2)) (cond (y4q (Int.tmod y2.1 ((([]:Hu u0d.den)++y3.1).length:Int)) (([]:Hu u0d.den)++y3.1).length) (some ((([]:Hu u0d.den)++y3.1).set (Int.tmod y2.1 ((([]:Hu u0d.den)++y3.1).length:Int)).toNat ((rdL u0d (([]:Hu u0d.den)++y3.1) (Int.tmod y2.1 ((([]:Hu u0d.den)++y3.1).length:Int)).toNat).1,(rdL u0d (([]:Hu u0d.den)++y3.1) (Int.tmod y2.1 ((([]:Hu u0d.den)++y3.1).length:Int)).toNat).2.1,true,(rdL u0d (([]:Hu u0d.den)++y3.1) (Int.tmod y2.1 ((([]:Hu u0d.den)++y3.1).length:Int)).toNat).2.2.2),y3.2)) none) (cond (decide (y1.1=3)) ((u6s (13,97)).bind fun y4=>cond (y4q (Int.tmod y2.1 ((([]:Hu u0d.den)++y3.1).length:Int)) (([]:Hu u0d.den)++y3.1).length) (some ((([]:Hu u0d.den)++y3.1).set (Int.tmod y2.1 ((([]:Hu u0d.den)++y3.1).length:Int)).toNat ((rdL u0d (([]:Hu u0d.den)++y3.1) (Int.tmod y2.1 ((([]:Hu u0d.den)++y3.1).length:Int)).toNat).1,y4,(rdL u0d (([]:Hu u0d.den)++y3.1) (Int.tmod y2.1 ((([]:Hu u0d.den)++y3.1).length:Int)).toNat).2.2),y3.2)) none) (some (([]:Hu u0d.den)++y3.1,y3.2)))))) none) (some (([]:Hu u0d.den)++y3.1,y3.2))) none
theorem p8p:r1q=q34:=zC 229 rfl Tryz.func229 (by kernel_rfl)
def r1s(x:s5m):Ht Z83:=zK 114 x
def q39 (x:s5m):Ht Z83:=(u0m (x,14)).bind fun y1=>(u0m (y1.2,60)).bind fun y2=>(s1b y2.2).bind fun y3=>(u2u y3.1).bind fun y4=>cond (decide (y1.1=0)) (cond (y4q (Int.tmod y2.1 (4:Int)) ([(0:Int),1,9999,(10000:Int)]:Hu Int).length) (some ((y4.1,y4.2.1,y4.2.2.1,rdL (Ty.int .i64) ([(0:Int),1,9999,(10000:Int)]:Hu Int) (Int.tmod y2.1 (4:Int)).toNat,y4.2.2.2.2),y3.2)) none) (cond (decide (y1.1=1)) (some ((y4.1,y4.2.1,y4.2.2.1,y4.2.2.2.1,Int.tmod y2.1 (4:Int)),y3.2)) (cond (decide (y1.1=2)) ((t9n y3.2).bind fun y5=>cond (Nat.ble (y4.2.1.length+([y5.1]:Hu u0a.den).length) z7w) (some ((y4.1,y4.2.1++([y5.1]:Hu u0a.den),y4.2.2),y5.2)) none) (cond (decide (y1.1=3)) ((t9n y3.2).bind fun y6=>cond (Nat.ble (y4.2.2.1.length+([y6.1]:Hu u0a.den).length) z7w) (some ((y4.1,y4.2.1,y4.2.2.1++([y6.1]:Hu u0a.den),y4.2.2.2),y6.2)) none) (cond (decide (y1.1=4)) ((r1q y3.2).bind fun y7=>some ((y7.1,y4.2),y7.2)) (some (y4,y3.2))))))
theorem p8u:r1s=q39:=zC 114 rfl Tryz.func114 (by kernel_rfl)
def s2k(x:s5m):Ht Z56:=zK 347 x
def r28 (x:s5m):Ht Z56:=(u35 (x,22)).bind fun y1=>some (y1.1.1,y1.2)
theorem q9v:s2k=r28:=zC 347 rfl Tryz.func347 (by kernel_rfl)
def r1t(x:s5m):Ht Z56:=zK 259 x
def t6y(g:Z18→Ht (Z19⊕Z55))(x:Z18):Ht (Z19⊕Z55):=cond (decide ((x.2.2.2.2.length:Int)<(4:Int))) ((t3e x.2.2.2).bind fun y7=>cond (decide ((IntKind.i64.wrap (x.2.2.1+1))>70)) (some (.inr (x.1,y7.1))) (g (x.1,x.2.1,IntKind.i64.wrap (x.2.2.1+1),y7.1))) (some (.inl (x.1,x.2.1,x.2.2.2)))
def u7d:=lpW _ _ t6y
theorem q94 x:u7d x=t6y u7d x:=zW r4h 259 Tryz.f259 13 58 x (by kernel_rfl)
def q4b (x:s5m):Ht Z56:=(u0m (x,12)).bind fun y1=>(u0m (y1.2,60)).bind fun y2=>(s2k y2.2).bind fun y3=>(u0n y3.1).bind fun y4=>cond (decide (y1.1=0)) ((r1s y3.2).bind fun y5=>some ((y5.1,y4.2),y5.2)) (cond (decide (y1.1=1)) ((t9n y3.2).bind fun y6=>cond (Nat.ble (y4.2.length+([y6.1]:Hu u0a.den).length) z7w) (some ((y4.1,y4.2++([y6.1]:Hu u0a.den)),y6.2)) none) (cond (decide (y1.1=2)) (cond (decide ((y4.2.length:Int)>(0:Int))) (cond (y4q (0:Int) y4.2.length) (some ((y4.1,y4.2.set (0:Int).toNat ((rdL u0a y4.2 (0:Int).toNat).1,(rdL u0a y4.2 (0:Int).toNat).2.1,Int.tmod y2.1 (9:Int),(rdL u0a y4.2 (0:Int).toNat).2.2.2)),y3.2)) none) (some (y4,y3.2))) (cond (decide (y1.1=3)) ((u7d (y3.2,((([]:Hu u0d.den),([]:Hu u0a.den),([]:Hu u0a.den),0,0),([]:Hu u0a.den)),y2.1,y4)).bind fun r8=>match r8 with | .inl o9=>some (o9.2.2,o9.1) | .inr z10=>some (z10.2,z10.1)) (some (y4,y3.2)))))
theorem p8w:r1t=q4b:=zC 259 rfl Tryz.func259 (by kernel_rfl)
def s09(x:j1c):Ht j3h:=zK 226 x
def t6t(g:j9d→Ht (j93⊕Unit))(x:j9d):Ht (j93⊕Unit):=cond (decide (x.2.2.2<x.2.1)) ((u6r x.1).bind fun y1=>cond (Nat.ble (x.2.2.1.length+([(IntKind.u8.wrap y1.1)]:Hu Int).length) z7w) (g (y1.2,x.2.1,x.2.2.1++([(IntKind.u8.wrap y1.1)]:Hu Int),IntKind.i64.wrap (x.2.2.2+1))) none) (some (.inl (x.1,x.2.2.1)))
def u7c:=lpW _ _ t6t
theorem r5c x:u7c x=t6t u7c x:=zW r4b 226 Tryz.f226 5 23 x (by kernel_rfl)
def q0r (x:j1c):Ht j3h:=cond (decide (x.2>5000)) ((u7c (x.1,5000,([]:Hu Int),0)).bind fun r2=>match r2 with | .inl o3=>some (y7g o3.2,o3.1) | .inr z4=>none) ((u7c (x.1,x.2,([]:Hu Int),0)).bind fun r6=>match r6 with | .inl o7=>some (y7g o7.2,o7.1) | .inr z8=>none)
theorem p46:s09=q0r:=zC 226 rfl Tryz.func226 (by kernel_rfl)
def s3m(x:s5m):Ht j5i:=zK 348 x
def s3w(g:j8b→Ht (j8i⊕Unit))(x:j8b):Ht (j8i⊕Unit):=(u0m (x.1,6)).bind fun y2=>cond (decide (x.2.2.2<y2.1)) ((u12 (y2.2,5)).bind fun y3=>cond y3.1 ((u0m (y3.2,9)).bind fun y4=>(s09 (y4.2,IntKind.i64.wrap ((1:Int)+y4.1))).bind fun y5=>(t7h (x.2.2.1,([y5.1]:Hu Hs))).bind fun y6=>g (y5.2,x.2.1,y6.1,IntKind.i64.wrap (x.2.2.2+1))) ((u0m (y3.2,90)).bind fun y7=>(s09 (y7.2,IntKind.i64.wrap ((1:Int)+y7.1))).bind fun y8=>(t09 (x.2.2.1,y8.1)).bind fun y9=>g (y8.2,x.2.1,y9.1,IntKind.i64.wrap (x.2.2.2+1)))) (some (.inl (y2.2,x.2.1,x.2.2.1)))
def t20:=lpW _ _ s3w
theorem p3m x:t20 x=s3w t20 x:=zW r7r 348 Tryz.f348 3 36 x (by kernel_rfl)
def q30 (x:s5m):Ht j5i:=(t9e ()).bind fun y1=>(t20 (x,(([]:Hu Hs),([]:Hu q98.den)),y1,0)).bind fun r10=>match r10 with | .inl o11=>some (o11.2.2,o11.1) | .inr z12=>none
theorem p8m:s3m=q30:=zC 348 rfl Tryz.func348 (by kernel_rfl)
def r1o(x:s5m):Ht j5i:=zK 260 x
def q3z (x:s5m):Ht j5i:=(u0m (x,10)).bind fun y1=>(u0m (y1.2,60)).bind fun y2=>(s3m y2.2).bind fun y3=>(u04 y3.1).bind fun y4=>cond (decide (y1.1=0)) (cond (decide (0≤(0:Int))&&decide ((0:Int)≤y2.1)&&decide (y2.1≤(y4.1.length:Int))) (some ((y4.1.take (y2.1.toNat - (0:Int).toNat),y4.2),y3.2)) none) (cond (decide (y1.1=1)) ((u53 (Int.tmod y2.1 (2:Int))).bind fun y5=>(u95 y2.1).bind fun y6=>(u5a (y4,y5,0,y6)).bind fun y7=>(u4x y7.1).bind fun y8=>some (y8,y3.2)) (cond (decide (y1.1=2)) ((u6s (64,IntKind.u8.wrap y2.1)).bind fun y9=>(u71 (y4,y2.1,y9)).bind fun y10=>some (y10.1,y3.2)) (cond (decide (y1.1=3)) ((u5a (y4,2,0,(⟨#[255,255]⟩:Hs))).bind fun y11=>(u4x y11.1).bind fun y12=>some (y12,y3.2)) (some (y4,y3.2)))))
theorem p8l:r1o=q3z:=zC 260 rfl Tryz.func260 (by kernel_rfl)
def r1u(x:s5m):Ht Z36:=zK 154 x
def q4d (x:s5m):Ht Z36:=(u0m (x,12)).bind fun y1=>(u35 (y1.2,22)).bind fun y2=>(t5t y2.1).bind fun y3=>cond (decide (y1.1=0)) ((r1t y2.2).bind fun y4=>some ((y4.1,y3.2),y4.2)) (cond (decide (y1.1=1)) ((r1o y2.2).bind fun y5=>some ((y3.1,y5.1),y5.2)) (some (y3,y2.2)))
theorem p8y:r1u=q4d:=zC 154 rfl Tryz.func154 (by kernel_rfl)
def t7q(x:r9c):Ht Z51:=zK 51 x
def s33 (x:r9c):Ht Z51:=(s3l x).bind fun y1=>(r1u y1).bind fun y2=>some y2.1
theorem q2c:t7q=s33:=zC 51 rfl Tryz.func51 (by kernel_rfl)
def t7p(x:j5u):Ht Bool:=zK 132 x
def u7p(g:j4b→Ht s8d)(x:j4b):Ht s8d:=cond (decide (x.2.2<(x.1.length:Int))) (cond (y4q x.2.2 x.1.length) (cond (y4q x.2.2 x.2.1.length) (cond (!(z7o (rdL u0d x.1 x.2.2.toNat).1 (rdL u0d x.2.1 x.2.2.toNat).1&&(z7o (rdL u0d x.1 x.2.2.toNat).2.1 (rdL u0d x.2.1 x.2.2.toNat).2.1&&(((rdL u0d x.1 x.2.2.toNat).2.2.1==(rdL u0d x.2.1 x.2.2.toNat).2.2.1)&&(decide ((rdL u0d x.1 x.2.2.toNat).2.2.2=(rdL u0d x.2.1 x.2.2.toNat).2.2.2)&&true))))) (some (.inr false)) (g (x.1,x.2.1,IntKind.i64.wrap (x.2.2+1)))) none) none) (some (.inl ()))
def u7u:=lpW _ _ u7p
theorem s1w x:u7u x=u7p u7u x:=zW s1m 132 Tryz.f132 4 26 x (by kernel_rfl)
def s32 (x:j5u):Ht Bool:=cond (!decide ((x.1.length:Int)=(x.2.length:Int))) (some false) ((u7u (x.1,x.2,0)).bind fun r1=>match r1 with | .inl o2=>some true | .inr z3=>some z3)
theorem q2b:t7p=s32:=zC 132 rfl Tryz.func132 (by kernel_rfl)
def t95(x:j5w):Ht Bool:=zK 238 x
def u9k(g:j3g→Ht s8d)(x:j3g):Ht s8d:=cond (decide (x.2.2<(x.1.length:Int))) (cond (y4q x.2.2 x.1.length) (cond (y4q x.2.2 x.2.1.length) (cond (!(z7o (rdL u2f x.1 x.2.2.toNat).1 (rdL u2f x.2.1 x.2.2.toNat).1&&(z7o (rdL u2f x.1 x.2.2.toNat).2.1 (rdL u2f x.2.1 x.2.2.toNat).2.1&&(((rdL u2f x.1 x.2.2.toNat).2.2==(rdL u2f x.2.1 x.2.2.toNat).2.2)&&true)))) (some (.inr false)) (g (x.1,x.2.1,IntKind.i64.wrap (x.2.2+1)))) none) none) (some (.inl ()))
def u9t:=lpW _ _ u9k
theorem s5g x:u9t x=u9k u9t x:=zW s4f 238 Tryz.f238 4 26 x (by kernel_rfl)
def s8q (x:j5w):Ht Bool:=cond (!decide ((x.1.length:Int)=(x.2.length:Int))) (some false) ((u9t (x.1,x.2,0)).bind fun r1=>match r1 with | .inl o2=>some true | .inr z3=>some z3)
theorem q6i:t95=s8q:=zC 238 rfl Tryz.func238 (by kernel_rfl)
def s7x(x:Z54):Ht Bool:=zK 130 x
def t6c(g:Z50→Ht s8d)(x:Z50):Ht s8d:=cond (decide (x.2.2<(x.1.2.2.2.2.1.length:Int))) (cond (y4q x.2.2 x.1.2.2.2.2.1.length) (cond (y4q x.2.2 x.2.1.2.2.2.2.1.length) (cond (!(z7o (rdL q7m x.1.2.2.2.2.1 x.2.2.toNat).1 (rdL q7m x.2.1.2.2.2.2.1 x.2.2.toNat).1&&(z7o (rdL q7m x.1.2.2.2.2.1 x.2.2.toNat).2 (rdL q7m x.2.1.2.2.2.2.1 x.2.2.toNat).2&&true))) (some (.inr false)) (g (x.1,x.2.1,IntKind.i64.wrap (x.2.2+1)))) none) none) (some (.inl ()))
def t0k:=lpW _ _ t6c
theorem r4t x:t0k x=t6c t0k x:=zW r3p 130 Tryz.f130 4 81 x (by kernel_rfl)
def r94 (x:Z54):Ht Bool:=((cond (!decide (x.1.1=x.2.1)) (some true) (cond (!decide (x.1.2.1=x.2.2.1)) (some true) (cond (!decide (x.1.2.2.1=x.2.2.2.1)) (some true) (cond (!decide (x.1.2.2.2.1=x.2.2.2.2.1)) (some true) (cond (!(x.1.2.2.2.2.2.2.1==x.2.2.2.2.2.2.2.1)) (some true) (cond (!z7o x.1.2.2.2.2.2.2.2 x.2.2.2.2.2.2.2.2) (some true) (cond (!decide ((x.1.2.2.2.2.1.length:Int)=(x.2.2.2.2.2.1.length:Int))) (some true) ((t95 (x.1.2.2.2.2.2.1,x.2.2.2.2.2.2.1)).bind fun y1=>some (!y1))))))))):Ht Bool).bind fun j2=>cond j2 (some false) ((t0k (x.1,x.2,0)).bind fun r3=>match r3 with | .inl o4=>some true | .inr z5=>some z5)
theorem p4k:s7x=r94:=zC 130 rfl Tryz.func130 (by kernel_rfl)
def t3b(x:j67):Ht Bool:=zK 133 x
def t3u(g:j5g→Ht s8d)(x:j5g):Ht s8d:=cond (decide (x.2.2<(x.1.length:Int))) (cond (y4q x.2.2 x.1.length) (cond (y4q x.2.2 x.2.1.length) ((s7x (rdL u0a x.1 x.2.2.toNat,rdL u0a x.2.1 x.2.2.toNat)).bind fun y1=>cond (!y1) (some (.inr false)) (g (x.1,x.2.1,IntKind.i64.wrap (x.2.2+1)))) none) none) (some (.inl ()))
def t4i:=lpW _ _ t3u
theorem r0h x:t4i x=t3u t4i x:=zW s9j 133 Tryz.f133 4 27 x (by kernel_rfl)
def r6h (x:j67):Ht Bool:=cond (!decide ((x.1.length:Int)=(x.2.length:Int))) (some false) ((t4i (x.1,x.2,0)).bind fun r2=>match r2 with | .inl o3=>some true | .inr z4=>some z4)
theorem p1x:t3b=r6h:=zC 133 rfl Tryz.func133 (by kernel_rfl)
def s4y(x:Z35):Ht Bool:=zK 43 x
def r6f (x:Z35):Ht Bool:=(((t7p (x.1.1,x.2.1)).bind fun y1=>cond y1 ((t3b (x.1.2.1,x.2.2.1)).bind fun y2=>cond y2 ((t3b (x.1.2.2.1,x.2.2.2.1)).bind fun y3=>cond y3 (cond (decide (x.1.2.2.2.1=x.2.2.2.2.1)) (some (decide (x.1.2.2.2.2=x.2.2.2.2.2))) (some false)) (some false)) (some false)) (some false)):Ht Bool).bind fun j4=>some j4
theorem p1v:s4y=r6f:=zC 43 rfl Tryz.func43 (by kernel_rfl)
def t4s(x:Z22):Ht Bool:=zK 54 x
def s8p (x:Z22):Ht Bool:=(((s4y (x.1.1,x.2.1)).bind fun y1=>cond y1 ((t3b (x.1.2,x.2.2)).bind fun y2=>some y2) (some false)):Ht Bool).bind fun j3=>some j3
theorem q6h:t4s=s8p:=zC 54 rfl Tryz.func54 (by kernel_rfl)
def s2e(x:j94):Ht Bool:=zK 15 x
def t1z(g:j9z→Ht s8d)(x:j9z):Ht s8d:=cond (decide (x.2.2<(x.1.length:Int))) (cond (y4q x.2.2 x.1.length) (cond (y4q x.2.2 x.2.1.length) (cond (!z7o (rdL Ty.str x.1 x.2.2.toNat) (rdL Ty.str x.2.1 x.2.2.toNat)) (some (.inr false)) (g (x.1,x.2.1,IntKind.i64.wrap (x.2.2+1)))) none) none) (some (.inl ()))
def t2c:=lpW _ _ t1z
theorem s7a x:t2c x=t1z t2c x:=zW s6i 15 Tryz.f15 4 26 x (by kernel_rfl)
def r2v (x:j94):Ht Bool:=cond (!decide ((x.1.length:Int)=(x.2.length:Int))) (some false) ((t2c (x.1,x.2,0)).bind fun r1=>match r1 with | .inl o2=>some true | .inr z3=>some z3)
theorem q9i:s2e=r2v:=zC 15 rfl Tryz.func15 (by kernel_rfl)
def s4z(x:j3d):Ht Bool:=zK 159 x
def t3t(g:j39→Ht s8d)(x:j39):Ht s8d:=cond (decide (x.2.2<(x.1.2.length:Int))) (cond (y4q x.2.2 x.1.2.length) (cond (y4q x.2.2 x.2.1.2.length) (cond (!(decide ((rdL q98 x.1.2 x.2.2.toNat).1=(rdL q98 x.2.1.2 x.2.2.toNat).1)&&(z7o (rdL q98 x.1.2 x.2.2.toNat).2 (rdL q98 x.2.1.2 x.2.2.toNat).2&&true))) (some (.inr false)) (g (x.1,x.2.1,IntKind.i64.wrap (x.2.2+1)))) none) none) (some (.inl ()))
def t4h:=lpW _ _ t3t
theorem r0g x:t4h x=t3t t4h x:=zW s9i 159 Tryz.f159 4 39 x (by kernel_rfl)
def r6g (x:j3d):Ht Bool:=(((s2e (x.1.1,x.2.1)).bind fun y1=>cond (!y1) (some true) (some (!decide ((x.1.2.length:Int)=(x.2.2.length:Int))))):Ht Bool).bind fun j2=>cond j2 (some false) ((t4h (x.1,x.2,0)).bind fun r3=>match r3 with | .inl o4=>some true | .inr z5=>some z5)
theorem p1w:s4z=r6g:=zC 159 rfl Tryz.func159 (by kernel_rfl)
def s2d(x:Z13):Ht Bool:=zK 55 x
def r2u (x:Z13):Ht Bool:=(((t4s (x.1.1,x.2.1)).bind fun y1=>cond y1 ((s4z (x.1.2,x.2.2)).bind fun y2=>some y2) (some false)):Ht Bool).bind fun j3=>some j3
theorem q9h:s2d=r2u:=zC 55 rfl Tryz.func55 (by kernel_rfl)
def q1q(x:r9c):Ht Bool:=zK 7 x
def r93 (x:r9c):Ht Bool:=(p6o x).bind fun y1=>cond y1 (some true) ((s2f x).bind fun y2=>(t85 y2).bind fun y3=>(t1j y2.2).bind fun y4=>(t1j y3.1.2).bind fun y5=>(t7q x).bind fun y6=>(t85 y6).bind fun y7=>(u5k y6).bind fun y8=>((cond y3.2 (cond y4.2 (cond y5.2 ((t86 (y4.1,y5.1)).bind fun y9=>cond y9 ((t9f y3.1.2).bind fun y10=>cond (decide ((y10.length:Int)=(1:Int))) ((t4s (y3.1.1,y2.1)).bind fun y11=>cond y11 ((s02 y3.1).bind fun y12=>cond y12 (cond (y7.2==y8.2) ((s2d (y7.1,y8.1)).bind fun y13=>some y13) (some false)) (some false)) (some false)) (some false)) (some false)) (some false)) (some false)) (some false)):Ht Bool).bind fun j14=>some j14)
theorem p4j:q1q=r93:=zC 7 rfl Tryz.func7 (by kernel_rfl)
end
end Go.Proofs.YtkdpclfhapphhaaGreat.Ab
