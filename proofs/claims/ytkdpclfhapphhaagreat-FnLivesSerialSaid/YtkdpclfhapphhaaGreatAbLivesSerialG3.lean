import Derived.Test.YtkdpclfhapphhaaGreatAbLivesSerialG2
namespace Go.Proofs.YtkdpclfhapphhaaGreat.Ab
open Go
set_option linter.unusedVariables false
noncomputable section
set_option maxRecDepth 100000
def u5u(x:(q09×q09)):Ht q09:=zK 116 x
def t4p(g:d4h→Ht j49)(x:d4h):Ht j49:=cond (decide (x.2.2.2<x.2.2.1)) (cond (y4q x.2.2.2 x.2.1.length) ((t2e (rdL (Ty.int .i64) x.2.1 x.2.2.2.toNat)).bind fun y1=>cond (Nat.ble (x.1.length+(z7t y1.1).length) z7w) (g (x.1++(z7t y1.1),x.2.1,x.2.2.1,IntKind.i64.wrap (x.2.2.2+1))) none) none) (some (.inl x.1))
def t5d:=lpW _ _ t4p
theorem r1p x:t5d x=t4p t5d x:=zW r0s 116 Tryz.f116 1 29 x (by kernel_rfl)
def r7s (x:(q09×q09)):Ht q09:=(t5d (x.1,x.2,(x.2.length:Int),0)).bind fun r2=>match r2 with | .inl o3=>some o3 | .inr z4=>none
theorem p3h:u5u=r7s:=zC 116 rfl Tryz.func116 (by kernel_rfl)
def u98(x:Hs):Ht Bool:=zK 129 x
def s08(g:o4v→Ht d0c)(x:o4v):Ht d0c:=cond (decide (x.2<(x.1.size:Int))) (((cond (y4q x.2 x.1.size) (cond (decide (((x.1.data.toList.getD x.2.toNat 0).toNat:Int)<(97:Int))) (some true) (cond (y4q x.2 x.1.size) (some (decide (((x.1.data.toList.getD x.2.toNat 0).toNat:Int)>(122:Int)))) none)) none):Ht Bool).bind fun j1=>cond j1 (some (.inr false)) (g (x.1,IntKind.i64.wrap (x.2+1)))) (some (.inl x.1))
def s1i:=lpW _ _ s08
theorem q3z x:s1i x=s08 s1i x:=zW q3g 129 Tryz.f129 2 23 x (by kernel_rfl)
def q9i (x:Hs):Ht Bool:=(s1i (x,0)).bind fun r2=>match r2 with | .inl o3=>((u1q ((o3.size:Int),1,3)).bind fun y4=>some y4) | .inr z5=>some z5
theorem o20:u98=q9i:=zC 129 rfl Tryz.func129 (by kernel_rfl)
def s84(x:j47):Ht Bool:=zK 236 x
def q1n (x:j47):Ht Bool:=(((u98 x.1).bind fun y1=>cond y1 ((u98 x.2).bind fun y2=>cond y2 (some (y3c x.1 x.2||z7o x.1 x.2)) (some false)) (some false)):Ht Bool).bind fun j3=>some j3
theorem p54:s84=q1n:=zC 236 rfl Tryz.func236 (by kernel_rfl)
def s88(x:d0d):Ht Bool:=zK 321 x
def q1x (x:d0d):Ht Bool:=(((u98 x.1).bind fun y1=>cond y1 (cond (decide ((x.2.1.size:Int)≤(12:Int))) (cond (!x.2.2) (some true) (some (z7o x.2.1 (⟨#[]⟩:Hs)))) (some false)) (some false)):Ht Bool).bind fun j2=>some j2
theorem p6e:s88=q1x:=zC 321 rfl Tryz.func321 (by kernel_rfl)
def s56(x:o7t):Ht Bool:=zK 237 x
def t4n(g:j4t→Ht (o7t⊕Bool))(x:j4t):Ht (o7t⊕Bool):=cond (decide (x.2.2.2<x.2.2.1)) (cond (y4q x.2.2.2 x.2.1.length) ((((s88 (rdL u2g x.2.1 x.2.2.2.toNat)).bind fun y1=>cond (!y1) (some true) (cond (decide (x.2.2.2>0)) (cond (y4q (IntKind.i64.wrap (x.2.2.2 - 1)) x.1.length) (some (!y3c (rdL u2g x.1 (IntKind.i64.wrap (x.2.2.2 - 1)).toNat).1 (rdL u2g x.2.1 x.2.2.2.toNat).1)) none) (some false))):Ht Bool).bind fun j2=>cond j2 (some (.inr false)) (g (x.1,x.2.1,x.2.2.1,IntKind.i64.wrap (x.2.2.2+1)))) none) (some (.inl x.1))
def t5b:=lpW _ _ t4n
theorem r1n x:t5b x=t4n t5b x:=zW r0q 237 Tryz.f237 2 34 x (by kernel_rfl)
def r7n (x:o7t):Ht Bool:=(t5b (x,x,(x.length:Int),0)).bind fun r3=>match r3 with | .inl o4=>some (decide ((o4.length:Int)≤(8:Int))) | .inr z5=>some z5
theorem p3c:s56=r7n:=zC 237 rfl Tryz.func237 (by kernel_rfl)
def u8f(x:u87):Ht Bool:=zK 127 x
def s1b(g:d2l→Ht (u87⊕Bool))(x:d2l):Ht (u87⊕Bool):=cond (decide (x.2.2.2<x.2.2.1)) (cond (y4q x.2.2.2 x.2.1.length) ((s84 (rdL s4z x.2.1 x.2.2.2.toNat)).bind fun y1=>cond (!y1) (some (.inr false)) (g (x.1,x.2.1,x.2.2.1,IntKind.i64.wrap (x.2.2.2+1)))) none) (some (.inl x.1))
def s1k:=lpW _ _ s1b
theorem q32 x:s1k x=s1b s1k x:=zW q3j 127 Tryz.f127 2 93 x (by kernel_rfl)
def q9n (x:u87):Ht Bool:=(s1k (x,x.2.2.2.2.1,(x.2.2.2.2.1.length:Int),0)).bind fun r2=>match r2 with | .inl o3=>((((u1q (o3.1,1,9999)).bind fun y4=>cond (!y4) (some true) ((u1q (o3.2.1,1,3)).bind fun y5=>cond (!y5) (some true) ((u1q (o3.2.2.1,0,9999)).bind fun y6=>cond (!y6) (some true) (cond (decide ((o3.2.2.2.2.1.length:Int)>(8:Int))) (some true) ((s56 o3.2.2.2.2.2.1).bind fun y7=>cond (!y7) (some true) (cond o3.2.2.2.2.2.2.1 (some (decide (o3.2.1=1))) (some false))))))):Ht Bool).bind fun j8=>cond j8 (some false) (((cond (decide (o3.2.1=3)) ((u1q (o3.2.2.2.1,IntKind.i64.wrap (o3.2.2.1+1),9999)).bind fun y9=>cond (!y9) (some true) (cond (!decide (o3.2.1=3)) (some (!decide (o3.2.2.2.1=0))) (some false))) (cond (!decide (o3.2.1=3)) (some (!decide (o3.2.2.2.1=0))) (some false))):Ht Bool).bind fun j10=>cond j10 (some false) (((cond (decide (o3.2.1=2)) ((u98 o3.2.2.2.2.2.2.2).bind fun y11=>cond y11 (some true) (cond (!decide (o3.2.1=2)) (some (z7o o3.2.2.2.2.2.2.2 (⟨#[]⟩:Hs))) (some false))) (cond (!decide (o3.2.1=2)) (some (z7o o3.2.2.2.2.2.2.2 (⟨#[]⟩:Hs))) (some false))):Ht Bool).bind fun j12=>some j12))) | .inr z13=>some z13
theorem o26:u8f=q9n:=zC 127 rfl Tryz.func127 (by kernel_rfl)
def t2d(x:u87):Ht s63:=zK 99 x
def t68(g:Z96→Ht (j9j⊕Unit))(x:Z96):Ht (j9j⊕Unit):=cond (decide (x.2.2.2.2<x.2.2.2.1)) (cond (y4q x.2.2.2.2 x.2.2.1.length) ((u6f (x.2.1,([(rdL s4z x.2.2.1 x.2.2.2.2.toNat).1,(rdL s4z x.2.2.1 x.2.2.2.2.toNat).2]:Hu Hs))).bind fun y3=>g (x.1,y3,x.2.2.1,x.2.2.2.1,IntKind.i64.wrap (x.2.2.2.2+1))) none) (some (.inl (x.1,x.2.1)))
def t1f:=lpW _ _ t68
theorem r51 x:t1f x=t68 t1f x:=zW r4v 99 Tryz.f99 6 82 x (by kernel_rfl)
def t4m(g:Z94→Ht (j9j⊕Unit))(x:Z94):Ht (j9j⊕Unit):=cond (decide (x.2.2.2.2<x.2.2.2.1)) (cond (y4q x.2.2.2.2 x.2.2.1.length) ((u6f (x.2.1,([(rdL u2g x.2.2.1 x.2.2.2.2.toNat).1,(rdL u2g x.2.2.1 x.2.2.2.2.toNat).2.1]:Hu Hs))).bind fun y7=>(u7z (y7,(rdL u2g x.2.2.1 x.2.2.2.2.toNat).2.2)).bind fun y8=>g (x.1,y8,x.2.2.1,x.2.2.2.1,IntKind.i64.wrap (x.2.2.2.2+1))) none) (some (.inl (x.1,x.2.1)))
def u9d:=lpW _ _ t4m
theorem r1m x:u9d x=t4m u9d x:=zW r0p 99 Tryz.f99 12 82 x (by kernel_rfl)
def q1v (x:u87):Ht s63:=(u8f x).bind fun y1=>cond (!y1) (some ((⟨#[]⟩:Hs),false)) ((u5u (([]:Hu Int),([x.1,x.2.1,x.2.2.1,x.2.2.2.1,(x.2.2.2.2.1.length:Int)]:Hu Int))).bind fun y2=>(t1f (x,y2,x.2.2.2.2.1,(x.2.2.2.2.1.length:Int),0)).bind fun r4=>match r4 with | .inl o5=>((u5u (o5.2,([(o5.1.2.2.2.2.2.1.length:Int)]:Hu Int))).bind fun y6=>(u9d (o5.1,y6,o5.1.2.2.2.2.2.1,(o5.1.2.2.2.2.2.1.length:Int),0)).bind fun r9=>match r9 with | .inl o10=>((u7z (o10.2,o10.1.2.2.2.2.2.2.1)).bind fun y11=>(u6f (y11,([o10.1.2.2.2.2.2.2.2]:Hu Hs))).bind fun y12=>some (y7g y12,true)) | .inr z13=>none) | .inr z14=>none)
theorem p6c:t2d=q1v:=zC 99 rfl Tryz.func99 (by kernel_rfl)
def s1w(x:u87):Ht Bool:=zK 128 x
def p5s (x:u87):Ht Bool:=some (decide (x.2.1=2))
theorem p6g:s1w=p5s:=zC 128 rfl Tryz.func128 (by kernel_rfl)
def t90(x:Z63):Ht Bool:=zK 290 x
def q5n (x:Z63):Ht Bool:=some (decide (x.1.1=x.2.1))
theorem q6p:t90=q5n:=zC 290 rfl Tryz.func290 (by kernel_rfl)
def u4g(x:o4z):Ht Int:=zK 10005 x
def u3q(g:Z89→Ht p5l)(x:Z89):Ht p5l:=cond (decide (x.2.2.2<x.2.2.1)) (cond (y4q x.2.2.2 x.1.length) ((t90 (rdL u0a x.1 x.2.2.2.toNat,x.2.1)).bind fun y1=>cond y1 (some (.inr x.2.2.2)) (g (x.1,x.2.1,x.2.2.1,IntKind.i64.wrap (x.2.2.2+1)))) none) (some (.inl ()))
def u1a:=lpW _ _ u3q
theorem u8x x:u1a x=u3q u1a x:=zW u3r 10005 Tryz.f287 2 19 x (by kernel_rfl)
def u4b (x:o4z):Ht Int:=(u1a (x.1,x.2,(x.1.length:Int),0)).bind fun r2=>match r2 with | .inl o3=>some (- 1:Int) | .inr z4=>some z4
theorem u91:u4g=u4b:=zC 10005 rfl Tryz.func287 (by kernel_rfl)
def u3m(x:o4z):Ht Bool:=zK 10004 x
def u3h (x:o4z):Ht Bool:=(u4g x).bind fun y1=>some (decide (y1≥0))
theorem u8n:u3m=u3h:=zC 10004 rfl Tryz.func204 (by kernel_rfl)
def u6x(x:o4z):Ht Bool:=zK 10003 x
def t29 (x:o4z):Ht Bool:=(u3m x).bind fun y1=>some y1
theorem s4l:u6x=t29:=zC 10003 rfl Tryz.func93 (by kernel_rfl)
def t15(x:j2y):Ht Bool:=zK 170 x
def t2r(g:d20→Ht r6y)(x:d20):Ht r6y:=cond (decide (x.2.2.2.2<x.2.2.2.1)) (cond (y4q x.2.2.2.2 x.2.2.1.length) (cond (decide ((rdL u0a x.2.2.1 x.2.2.2.2.toNat).1≥x.2.1)) (some (.inr false)) (cond (decide (0≤(0:Int))&&decide ((0:Int)≤x.2.2.2.2)&&decide (x.2.2.2.2≤(x.1.length:Int))) ((u6x ((x.1.take x.2.2.2.2.toNat).drop (0:Int).toNat,rdL u0a x.2.2.1 x.2.2.2.2.toNat)).bind fun y1=>cond y1 (some (.inr false)) (g (x.1,x.2.1,x.2.2.1,x.2.2.2.1,IntKind.i64.wrap (x.2.2.2.2+1)))) none)) none) (some (.inl ()))
def t24:=lpW _ _ t2r
theorem s8i x:t24 x=t2r t24 x:=zW s7p 170 Tryz.f170 2 26 x (by kernel_rfl)
def r3x (x:j2y):Ht Bool:=(t24 (x.1,x.2,x.1,(x.1.length:Int),0)).bind fun r2=>match r2 with | .inl o3=>some true | .inr z4=>some z4
theorem p07:t15=r3x:=zC 170 rfl Tryz.func170 (by kernel_rfl)
def t2l(x:(Unit×Int)):Ht q42:=zK 291 x
def s0g (x:(Unit×Int)):Ht q42:=cond (decide (x.2<0)) none (cond (decide ((IntKind.i64.wrap (x.2 - (IntKind.i64.wrap ((0:Int) - (0:Int)))))>0)) (cond (decide (0≤(0:Int))&&decide ((0:Int)≤(0:Int))&&decide ((0:Int)≤0)) (cond (decide (1≤(IntKind.i64.wrap (x.2 - (IntKind.i64.wrap ((0:Int) - (0:Int))))))&&decide ((IntKind.i64.wrap (x.2 - (IntKind.i64.wrap ((0:Int) - (0:Int)))))≤1099511627776)) (cond (decide (0≤(0:Int))&&decide ((0:Int)≤(0:Int))&&decide ((0:Int)≤((List.replicate (IntKind.i64.wrap (x.2 - (IntKind.i64.wrap ((0:Int) - (0:Int))))).toNat u0a.zero).length:Int))) (some ((List.replicate (IntKind.i64.wrap (x.2 - (IntKind.i64.wrap ((0:Int) - (0:Int))))).toNat u0a.zero).take ((0:Int).toNat - (0:Int).toNat))) none) none) none) (some ([]:Hu u0a.den)))
theorem r6s:t2l=s0g:=zC 291 rfl Tryz.func291 (by kernel_rfl)
def u3z(x:j4u):Ht q42:=zK 171 x
def u45(g:d2s→Ht (d39⊕Unit))(x:d2s):Ht (d39⊕Unit):=cond (decide (x.2.2.2.2<x.2.2.2.1)) (cond (y4q x.2.2.2.2 x.2.2.1.length) (cond (decide ((IntKind.i64.wrap (x.2.1+((rdL (Ty.sl u0a) x.2.2.1 x.2.2.2.2.toNat).length:Int)))<0)) none (g (x.1,IntKind.i64.wrap (x.2.1+((rdL (Ty.sl u0a) x.2.2.1 x.2.2.2.2.toNat).length:Int)),x.2.2.1,x.2.2.2.1,IntKind.i64.wrap (x.2.2.2.2+1)))) none) (some (.inl (x.1,x.2.1)))
def u24:=lpW _ _ u45
theorem t5z x:u24 x=u45 u24 x:=zW t5v 171 Tryz.f171 3 36 x (by kernel_rfl)
def u4h(g:d21→Ht j7n)(x:d21):Ht j7n:=cond (decide (x.2.2.2<x.2.2.1)) (cond (y4q x.2.2.2 x.2.1.length) (cond (Nat.ble (x.1.length+(rdL (Ty.sl u0a) x.2.1 x.2.2.2.toNat).length) z7w) (g (x.1++(rdL (Ty.sl u0a) x.2.1 x.2.2.2.toNat),x.2.1,x.2.2.1,IntKind.i64.wrap (x.2.2.2+1))) none) none) (some (.inl x.1))
def u2u:=lpW _ _ u4h
theorem t4d x:u2u x=u4h u2u x:=zW t34 171 Tryz.f171 11 36 x (by kernel_rfl)
def t8u (x:j4u):Ht q42:=(u24 (x,0,x,(x.length:Int),0)).bind fun r1=>match r1 with | .inl o2=>((t2l ((),o2.2)).bind fun y3=>(u2u (y3,o2.1,(o2.1.length:Int),0)).bind fun r4=>match r4 with | .inl o5=>some o5 | .inr z6=>none) | .inr z7=>none
theorem r0d:u3z=t8u:=zC 171 rfl Tryz.func171 (by kernel_rfl)
def s0w(x:q08):Ht Bool:=zK 230 x
def t0e(g:j9p→Ht (q08⊕Bool))(x:j9p):Ht (q08⊕Bool):=cond (decide (x.2.2.2<x.2.2.1)) (cond (y4q x.2.2.2 x.2.1.length) ((((u98 (rdL u0h x.2.1 x.2.2.2.toNat).1).bind fun y1=>cond (!y1) (some true) (cond (decide (((rdL u0h x.2.1 x.2.2.2.toNat).2.1.size:Int)>(12:Int))) (some true) (cond (rdL u0h x.2.1 x.2.2.2.toNat).2.2.1 (cond (!z7o (rdL u0h x.2.1 x.2.2.2.toNat).2.1 (⟨#[]⟩:Hs)) (some true) ((u1q ((rdL u0h x.2.1 x.2.2.2.toNat).2.2.2,1,9999)).bind fun y2=>cond (!y2) (some true) (cond (decide (x.2.2.2>0)) (cond (y4q (IntKind.i64.wrap (x.2.2.2 - 1)) x.1.length) ((u5t (rdL u0h x.1 (IntKind.i64.wrap (x.2.2.2 - 1)).toNat,rdL u0h x.2.1 x.2.2.2.toNat)).bind fun y3=>some (decide (y3≥0))) none) (some false)))) ((u1q ((rdL u0h x.2.1 x.2.2.2.toNat).2.2.2,1,9999)).bind fun y4=>cond (!y4) (some true) (cond (decide (x.2.2.2>0)) (cond (y4q (IntKind.i64.wrap (x.2.2.2 - 1)) x.1.length) ((u5t (rdL u0h x.1 (IntKind.i64.wrap (x.2.2.2 - 1)).toNat,rdL u0h x.2.1 x.2.2.2.toNat)).bind fun y5=>some (decide (y5≥0))) none) (some false)))))):Ht Bool).bind fun j6=>cond j6 (some (.inr false)) (g (x.1,x.2.1,x.2.2.1,IntKind.i64.wrap (x.2.2.2+1)))) none) (some (.inl x.1))
def t0n:=lpW _ _ t0e
theorem s6u x:t0n x=t0e t0n x:=zW s5n 230 Tryz.f230 2 55 x (by kernel_rfl)
def s9w (x:q08):Ht Bool:=(t0n (x,x,(x.length:Int),0)).bind fun r7=>match r7 with | .inl o8=>some (decide ((o8.length:Int)≤(120:Int))) | .inr z9=>some z9
theorem q8f:s0w=s9w:=zC 230 rfl Tryz.func230 (by kernel_rfl)
def u22(x:u7f):Ht Bool:=zK 115 x
def t85(g:Z82→Ht j5a)(x:Z82):Ht j5a:=cond (decide (x.2.2.2<x.2.2.1)) (cond (y4q x.2.2.2 x.2.1.length) (cond (decide ((rdL u0h x.2.1 x.2.2.2.toNat).2.2.2>x.1.2.2.2.1)) (some (.inr false)) (g (x.1,x.2.1,x.2.2.1,IntKind.i64.wrap (x.2.2.2+1)))) none) (some (.inl x.1))
def t3s:=lpW _ _ t85
theorem r91 x:t3s x=t85 t3s x:=zW r8u 115 Tryz.f115 4 139 x (by kernel_rfl)
def t6x(g:Z71→Ht j5a)(x:Z71):Ht j5a:=cond (decide (x.2.2.2<x.2.2.1)) (cond (y4q x.2.2.2 x.2.1.length) ((((u8f (rdL u0a x.2.1 x.2.2.2.toNat)).bind fun y7=>cond (!y7) (some true) ((u8g (rdL u0a x.2.1 x.2.2.2.toNat)).bind fun y8=>cond (!y8) (some true) (cond (decide ((rdL u0a x.2.1 x.2.2.2.toNat).2.2.2.1>x.1.2.2.2.1)) (some true) (cond (decide (x.2.2.2>0)) (cond (y4q (IntKind.i64.wrap (x.2.2.2 - 1)) x.1.2.1.length) (some (decide ((rdL u0a x.1.2.1 (IntKind.i64.wrap (x.2.2.2 - 1)).toNat).2.2.2.1≥(rdL u0a x.2.1 x.2.2.2.toNat).2.2.2.1))) none) (some false))))):Ht Bool).bind fun j9=>cond j9 (some (.inr false)) (g (x.1,x.2.1,x.2.2.1,IntKind.i64.wrap (x.2.2.2+1)))) none) (some (.inl x.1))
def t1a:=lpW _ _ t6x
theorem r5q x:t1a x=t6x t1a x:=zW r4j 115 Tryz.f115 10 139 x (by kernel_rfl)
def t6y(g:Z71→Ht j5a)(x:Z71):Ht j5a:=cond (decide (x.2.2.2<x.2.2.1)) (cond (y4q x.2.2.2 x.2.1.length) ((((u8f (rdL u0a x.2.1 x.2.2.2.toNat)).bind fun y12=>cond (!y12) (some true) ((s1w (rdL u0a x.2.1 x.2.2.2.toNat)).bind fun y13=>cond (!y13) (some true) (cond (decide ((rdL u0a x.2.1 x.2.2.2.toNat).2.2.1>x.1.2.2.2.1)) (some true) (cond (decide (x.2.2.2>0)) (cond (y4q (IntKind.i64.wrap (x.2.2.2 - 1)) x.1.2.2.1.length) (some (!y3c (rdL u0a x.1.2.2.1 (IntKind.i64.wrap (x.2.2.2 - 1)).toNat).2.2.2.2.2.2.2 (rdL u0a x.2.1 x.2.2.2.toNat).2.2.2.2.2.2.2)) none) (some false))))):Ht Bool).bind fun j14=>cond j14 (some (.inr false)) (g (x.1,x.2.1,x.2.2.1,IntKind.i64.wrap (x.2.2.2+1)))) none) (some (.inl x.1))
def t1b:=lpW _ _ t6y
theorem r5r x:t1b x=t6y t1b x:=zW r4k 115 Tryz.f115 16 139 x (by kernel_rfl)
def q5b (x:u7f):Ht Bool:=(((s0w x.1).bind fun y1=>cond (!y1) (some true) (cond (decide ((x.2.1.length:Int)>(12:Int))) (some true) (cond (decide ((x.2.2.1.length:Int)>(3:Int))) (some true) ((u1q (x.2.2.2.1,0,9999)).bind fun y2=>cond (!y2) (some true) ((u1q (x.2.2.2.2,1,9999)).bind fun y3=>some (!y3)))))):Ht Bool).bind fun j4=>cond j4 (some false) ((t3s (x,x.1,(x.1.length:Int),0)).bind fun r5=>match r5 with | .inl o6=>((t1a (o6,o6.2.1,(o6.2.1.length:Int),0)).bind fun r10=>match r10 with | .inl o11=>((t1b (o11,o11.2.2.1,(o11.2.2.1.length:Int),0)).bind fun r15=>match r15 with | .inl o16=>((u3z ([o16.2.1,o16.2.2.1]:Hu q42)).bind fun y17=>(t15 (y17,o16.2.2.2.2)).bind fun y18=>some y18) | .inr z19=>some z19) | .inr z20=>some z20) | .inr z21=>some z21)
theorem p9w:u22=q5b:=zC 115 rfl Tryz.func115 (by kernel_rfl)
def s5z(x:u7f):Ht s63:=zK 35 x
def t4f(g:Z74→Ht (j7d⊕Unit))(x:Z74):Ht (j7d⊕Unit):=cond (decide (x.2.2.2.2<x.2.2.2.1)) (cond (y4q x.2.2.2.2 x.2.2.1.length) ((u6f (x.2.1,([(rdL u0h x.2.2.1 x.2.2.2.2.toNat).1,(rdL u0h x.2.2.1 x.2.2.2.2.toNat).2.1]:Hu Hs))).bind fun y3=>(u7z (y3,(rdL u0h x.2.2.1 x.2.2.2.2.toNat).2.2.1)).bind fun y4=>(u5u (y4,([(rdL u0h x.2.2.1 x.2.2.2.2.toNat).2.2.2]:Hu Int))).bind fun y5=>g (x.1,y5,x.2.2.1,x.2.2.2.1,IntKind.i64.wrap (x.2.2.2.2+1))) none) (some (.inl (x.1,x.2.1)))
def u9c:=lpW _ _ t4f
theorem r1f x:u9c x=t4f u9c x:=zW r0i 35 Tryz.f35 6 94 x (by kernel_rfl)
def t2n(g:d2j→Ht (j9n⊕Unit))(x:d2j):Ht (j9n⊕Unit):=cond (decide (x.2.2.2.2.2.2<x.2.2.2.2.2.1)) (cond (y4q x.2.2.2.2.2.2 x.2.2.2.2.1.length) ((t2d (rdL u0a x.2.2.2.2.1 x.2.2.2.2.2.2.toNat)).bind fun y9=>cond (Nat.ble (x.1.length+(z7t y9.1).length) z7w) (g (x.1++(z7t y9.1),x.2.1,x.2.2.1,x.2.2.2.1,x.2.2.2.2.1,x.2.2.2.2.2.1,IntKind.i64.wrap (x.2.2.2.2.2.2+1))) none) none) (some (.inl (x.1,x.2.1,x.2.2.1,x.2.2.2.1)))
def u77:=lpW _ _ t2n
theorem s8e x:u77 x=t2n u77 x:=zW s7l 35 Tryz.f35 17 94 x (by kernel_rfl)
def u72(g:j9n→Ht j49)(x:j9n):Ht j49:=cond (decide (x.2.2.2<x.2.2.1)) (cond (y4q x.2.2.2 x.2.1.length) ((u5u (x.1,([((rdL (Ty.sl u0a) x.2.1 x.2.2.2.toNat).length:Int)]:Hu Int))).bind fun y8=>(u77 (y8,x.2.1,x.2.2.1,x.2.2.2,rdL (Ty.sl u0a) x.2.1 x.2.2.2.toNat,((rdL (Ty.sl u0a) x.2.1 x.2.2.2.toNat).length:Int),0)).bind fun r10=>match r10 with | .inl o11=>g (o11.1,o11.2.1,o11.2.2.1,IntKind.i64.wrap (o11.2.2.2+1)) | .inr z12=>some (.inr ())) none) (some (.inl x.1))
def t23:=lpW _ _ u72
theorem s0d x:t23 x=u72 t23 x:=zW s7k 35 Tryz.f35 13 94 x (by kernel_rfl)
def r7d (x:u7f):Ht s63:=(u22 x).bind fun y1=>cond (!y1) (some ((⟨#[]⟩:Hs),false)) ((u5u (([]:Hu Int),([x.2.2.2.1,x.2.2.2.2,(x.1.length:Int)]:Hu Int))).bind fun y2=>(u9c (x,y2,x.1,(x.1.length:Int),0)).bind fun r6=>match r6 with | .inl o7=>((t23 (o7.2,([o7.1.2.1,o7.1.2.2.1]:Hu q42),(([o7.1.2.1,o7.1.2.2.1]:Hu q42).length:Int),0)).bind fun r13=>match r13 with | .inl o14=>some (y7g o14,true) | .inr z15=>none) | .inr z16=>none)
theorem p21:s5z=r7d:=zC 35 rfl Tryz.func35 (by kernel_rfl)
def s58(x:u87):Ht Bool:=zK 125 x
def r7r (x:u87):Ht Bool:=((cond (decide (x.1=0)) (cond (decide (x.2.1=0)) (cond (decide (x.2.2.1=0)) (cond (decide (x.2.2.2.1=0)) (cond (decide ((x.2.2.2.2.1.length:Int)=(0:Int))) (cond (decide ((x.2.2.2.2.2.1.length:Int)=(0:Int))) (cond (!x.2.2.2.2.2.2.1) (some (z7o x.2.2.2.2.2.2.2 (⟨#[]⟩:Hs))) (some false)) (some false)) (some false)) (some false)) (some false)) (some false)) (some false)):Ht Bool).bind fun j1=>some j1
theorem p3g:s58=r7r:=zC 125 rfl Tryz.func125 (by kernel_rfl)
def s3a(x:u7f):Ht Bool:=zK 126 x
def r3v (x:u7f):Ht Bool:=((cond (decide ((x.1.length:Int)=(0:Int))) (cond (decide ((x.2.1.length:Int)=(0:Int))) (cond (decide ((x.2.2.1.length:Int)=(0:Int))) (cond (decide (x.2.2.2.1=0)) (some (decide (x.2.2.2.2=0))) (some false)) (some false)) (some false)) (some false)):Ht Bool).bind fun j1=>some j1
theorem p05:s3a=r3v:=zC 126 rfl Tryz.func126 (by kernel_rfl)
def t9z(x:Z49):Ht Bool:=zK 40 x
def r7k (x:Z49):Ht Bool:=(s58 x.2.1).bind fun y1=>(s3a x.2.2.2.2).bind fun y2=>cond (decide (x.1=1)) ((((u8f x.2.1).bind fun y3=>cond y3 ((u8g x.2.1).bind fun y4=>some y4) (some false)):Ht Bool).bind fun j5=>((cond j5 (cond (z7o x.2.2.1 (⟨#[]⟩:Hs)) (cond y2 (cond (!x.2.2.2.1) (some true) (some (decide (x.1=3)))) (some false)) (some false)) (some false)):Ht Bool).bind fun j6=>some j6) (cond (decide (x.1=2)) ((((u8f x.2.1).bind fun y7=>cond y7 ((s1w x.2.1).bind fun y8=>some y8) (some false)):Ht Bool).bind fun j9=>((cond j9 (cond (z7o x.2.2.1 (⟨#[]⟩:Hs)) (cond y2 (cond (!x.2.2.2.1) (some true) (some (decide (x.1=3)))) (some false)) (some false)) (some false)):Ht Bool).bind fun j10=>some j10) (cond (decide (x.1=3)) ((u98 x.2.2.1).bind fun y11=>((cond y1 (cond y11 (cond y2 (cond (!x.2.2.2.1) (some true) (some (decide (x.1=3)))) (some false)) (some false)) (some false)):Ht Bool).bind fun j12=>some j12) (cond (decide (x.1=4)) ((u22 x.2.2.2.2).bind fun y13=>((cond y1 (cond (z7o x.2.2.1 (⟨#[]⟩:Hs)) (cond y13 (cond (!x.2.2.2.1) (some true) (some (decide (x.1=3)))) (some false)) (some false)) (some false)):Ht Bool).bind fun j14=>some j14) (some false))))
theorem p28:t9z=r7k:=zC 40 rfl Tryz.func40 (by kernel_rfl)
def s86(x:d0f):Ht Int:=zK 316 x
def r3i(g:d0a→Ht (j5g⊕Unit))(x:d0a):Ht (j5g⊕Unit):=cond (decide (x.2.2.2<8)) (cond (decide ((Int.tmod x.1 (2:Int))=1)) (g (IntKind.u32.wrap ((BitVec.ofInt IntKind.u32.bits (IntKind.u32.wrap (Int.tdiv x.1 (2:Int)))^^^BitVec.ofInt IntKind.u32.bits (3558460437:Int)).toNat:Int),x.2.1,x.2.2.1,IntKind.i64.wrap (x.2.2.2+1))) (g (IntKind.u32.wrap (Int.tdiv x.1 (2:Int)),x.2.1,x.2.2.1,IntKind.i64.wrap (x.2.2.2+1)))) (some (.inl (x.1,x.2.1,x.2.2.1)))
def t7w:=lpW _ _ r3i
theorem p1t x:t7w x=r3i t7w x:=zW r4q 316 Tryz.f316 6 33 x (by kernel_rfl)
def t63(g:j5g→Ht o7u)(x:j5g):Ht o7u:=cond (decide (x.2.2<(x.2.1.size:Int))) (cond (y4q x.2.2 x.2.1.size) ((t7w (IntKind.u32.wrap ((BitVec.ofInt IntKind.u32.bits x.1^^^BitVec.ofInt IntKind.u32.bits (IntKind.u32.wrap ((x.2.1.data.toList.getD x.2.2.toNat 0).toNat:Int))).toNat:Int),x.2.1,x.2.2,0)).bind fun r1=>match r1 with | .inl o2=>g (o2.1,o2.2.1,IntKind.i64.wrap (o2.2.2+1)) | .inr z3=>some (.inr ())) none) (some (.inl x.1))
def t7v:=lpW _ _ t63
theorem r5w x:t7v x=t63 t7v x:=zW r4p 316 Tryz.f316 2 33 x (by kernel_rfl)
def q1r (x:d0f):Ht Int:=(t7v (x.1,x.2,0)).bind fun r4=>match r4 with | .inl o5=>some o5 | .inr z6=>none
theorem p58:s86=q1r:=zC 316 rfl Tryz.func316 (by kernel_rfl)
def p0c(x:Hs):Ht Int:=zK 210 x
def q9m (x:Hs):Ht Int:=(s86 (4294967295,x)).bind fun y1=>some y1
theorem o24:p0c=q9m:=zC 210 rfl Tryz.func210 (by kernel_rfl)
def t5o(x:Hs):Ht s63:=zK 100 x
def q5i (x:Hs):Ht s63:=cond (decide ((x.size:Int)>(20000:Int))) (some ((⟨#[]⟩:Hs),false)) ((p0c x).bind fun y1=>cond (decide (x.size+(y7g ([IntKind.u8.wrap (Int.fdiv y1 (2^(min (24:Int).toNat IntKind.u32.bits))),IntKind.u8.wrap (Int.fdiv y1 (2^(min (16:Int).toNat IntKind.u32.bits))),IntKind.u8.wrap (Int.fdiv y1 (2^(min (8:Int).toNat IntKind.u32.bits))),IntKind.u8.wrap y1]:Hu Int)).size≤140737488355328)) (some (x++(y7g ([IntKind.u8.wrap (Int.fdiv y1 (2^(min (24:Int).toNat IntKind.u32.bits))),IntKind.u8.wrap (Int.fdiv y1 (2^(min (16:Int).toNat IntKind.u32.bits))),IntKind.u8.wrap (Int.fdiv y1 (2^(min (8:Int).toNat IntKind.u32.bits))),IntKind.u8.wrap y1]:Hu Int)),true)) none)
theorem p93:t5o=q5i:=zC 100 rfl Tryz.func100 (by kernel_rfl)
def u9r(x:Z49):Ht s63:=zK 30 x
def s9t (x:Z49):Ht s63:=(t9z x).bind fun y1=>cond (!y1) (some ((⟨#[]⟩:Hs),false)) (cond (decide (x.1=3)) ((u6f (([(IntKind.u8.wrap x.1)]:Hu Int),([x.2.2.1]:Hu Hs))).bind fun y2=>(u7z (y2,x.2.2.2.1)).bind fun y3=>(t5o (y7g y3)).bind fun y4=>some y4) (cond (decide (x.1=4)) ((s5z x.2.2.2.2).bind fun y5=>cond (Nat.ble (([(IntKind.u8.wrap x.1)]:Hu Int).length+(z7t y5.1).length) z7w) ((t5o (y7g (([(IntKind.u8.wrap x.1)]:Hu Int)++(z7t y5.1)))).bind fun y6=>some y6) none) ((t2d x.2.1).bind fun y7=>cond (Nat.ble (([(IntKind.u8.wrap x.1)]:Hu Int).length+(z7t y7.1).length) z7w) ((t5o (y7g (([(IntKind.u8.wrap x.1)]:Hu Int)++(z7t y7.1)))).bind fun y8=>some y8) none)))
theorem q8c:u9r=s9t:=zC 30 rfl Tryz.func30 (by kernel_rfl)
def s55(x:Hs):Ht s63:=zK 101 x
def r7m (x:Hs):Ht s63:=cond (decide ((x.size:Int)<(4:Int))) (some ((⟨#[]⟩:Hs),false)) (cond (decide (0≤(0:Int))&&decide ((0:Int)≤(IntKind.i64.wrap ((x.size:Int) - (4:Int))))&&decide ((IntKind.i64.wrap ((x.size:Int) - (4:Int)))≤(x.size:Int))) ((t5o (x.extract (0:Int).toNat (IntKind.i64.wrap ((x.size:Int) - (4:Int))).toNat)).bind fun y1=>((cond (!y1.2) (some true) (some (!z7o y1.1 x))):Ht Bool).bind fun j2=>cond j2 (some ((⟨#[]⟩:Hs),false)) (some (x.extract (0:Int).toNat (IntKind.i64.wrap ((x.size:Int) - (4:Int))).toNat,true))) none)
theorem p3b:s55=r7m:=zC 101 rfl Tryz.func101 (by kernel_rfl)
def s1v(x:o4v):Ht j5f:=zK 317 x
def t62(g:(Hs×j5d)→Ht (Unit⊕j5f))(x:(Hs×j5d)):Ht (Unit⊕j5f):=((cond (decide (x.2.2.2<5)) (some (decide ((IntKind.i64.wrap (x.2.1+x.2.2.2))<(x.1.size:Int)))) (some false)):Ht Bool).bind fun j2=>cond j2 (cond (y4q (IntKind.i64.wrap (x.2.1+x.2.2.2)) x.1.size) (cond (decide (0≤(IntKind.i64.wrap ((7:Int)*x.2.2.2)))) (cond (decide ((IntKind.i64.wrap ((x.1.data.toList.getD (IntKind.i64.wrap (x.2.1+x.2.2.2)).toNat 0).toNat:Int))<128)) ((t2e (IntKind.i64.wrap (x.2.2.1+(IntKind.i64.wrap ((Int.tmod (IntKind.i64.wrap ((x.1.data.toList.getD (IntKind.i64.wrap (x.2.1+x.2.2.2)).toNat 0).toNat:Int)) (128:Int))*2^(min (IntKind.i64.wrap ((7:Int)*x.2.2.2)).toNat IntKind.i64.bits)))))).bind fun y3=>((cond (!y3.2) (some true) (some (!decide ((y3.1.size:Int)=(IntKind.i64.wrap (x.2.2.2+1)))))):Ht Bool).bind fun j4=>cond j4 (some (.inr (0,0,false))) (some (.inr (IntKind.i64.wrap (x.2.2.1+(IntKind.i64.wrap ((Int.tmod (IntKind.i64.wrap ((x.1.data.toList.getD (IntKind.i64.wrap (x.2.1+x.2.2.2)).toNat 0).toNat:Int)) (128:Int))*2^(min (IntKind.i64.wrap ((7:Int)*x.2.2.2)).toNat IntKind.i64.bits)))),IntKind.i64.wrap ((IntKind.i64.wrap (x.2.1+x.2.2.2))+1),true)))) (g (x.1,x.2.1,IntKind.i64.wrap (x.2.2.1+(IntKind.i64.wrap ((Int.tmod (IntKind.i64.wrap ((x.1.data.toList.getD (IntKind.i64.wrap (x.2.1+x.2.2.2)).toNat 0).toNat:Int)) (128:Int))*2^(min (IntKind.i64.wrap ((7:Int)*x.2.2.2)).toNat IntKind.i64.bits)))),IntKind.i64.wrap (x.2.2.2+1)))) none) none) (some (.inl ()))
def t7u:=lpW _ _ t62
theorem r5v x:t7u x=t62 t7u x:=zW r4o 317 Tryz.f317 5 63 x (by kernel_rfl)
def q1o (x:o4v):Ht j5f:=(u1q (x.2,0,(x.1.size:Int))).bind fun y1=>cond (!y1) (some (0,0,false)) ((t7u (x.1,x.2,0,0)).bind fun r5=>match r5 with | .inl o6=>some (0,0,false) | .inr z7=>some z7)
theorem p55:s1v=q1o:=zC 317 rfl Tryz.func317 (by kernel_rfl)
def t79(x:o4v):Ht q44:=zK 211 x
def r3q (x:o4v):Ht q44:=(s1v x).bind fun y1=>((cond (!y1.2.2) (some true) (cond (decide (y1.1>20000)) (some true) (some (decide (y1.1>(IntKind.i64.wrap ((x.1.size:Int) - y1.2.1))))))):Ht Bool).bind fun j2=>cond j2 (some ((⟨#[]⟩:Hs),0,false)) (cond (decide (0≤y1.2.1)&&decide (y1.2.1≤(IntKind.i64.wrap (y1.2.1+y1.1)))&&decide ((IntKind.i64.wrap (y1.2.1+y1.1))≤(x.1.size:Int))) (some (x.1.extract y1.2.1.toNat (IntKind.i64.wrap (y1.2.1+y1.1)).toNat,IntKind.i64.wrap (y1.2.1+y1.1),true)) none)
theorem p0z:t79=r3q:=zC 211 rfl Tryz.func211 (by kernel_rfl)
def u2f(x:q44):Ht j9y:=zK 102 x
def s7e (x:q44):Ht j9y:=(t79 (x.1,x.2.1)).bind fun y1=>((cond x.2.2 (some true) (some (!y1.2.2))):Ht Bool).bind fun j2=>cond j2 (some ((⟨#[]⟩:Hs),x.1,x.2.1,true)) (some (y1.1,x.1,y1.2.1,x.2.2))
theorem q6s:u2f=s7e:=zC 102 rfl Tryz.func102 (by kernel_rfl)
def u58(x:q44):Ht (Bool×q44):=zK 103 x
def s7d (x:q44):Ht (Bool×q44):=((cond x.2.2 (some true) ((u1q (x.2.1,0,IntKind.i64.wrap ((x.1.size:Int) - (1:Int)))).bind fun y1=>cond (!y1) (some true) (cond (y4q x.2.1 x.1.size) (some (decide (((x.1.data.toList.getD x.2.1.toNat 0).toNat:Int)>(1:Int)))) none))):Ht Bool).bind fun j2=>cond j2 (some (false,x.1,x.2.1,true)) (cond (y4q (IntKind.i64.wrap ((IntKind.i64.wrap (x.2.1+1)) - 1)) x.1.size) (some (decide (((x.1.data.toList.getD (IntKind.i64.wrap ((IntKind.i64.wrap (x.2.1+1)) - 1)).toNat 0).toNat:Int)=(1:Int)),x.1,IntKind.i64.wrap (x.2.1+1),x.2.2)) none)
theorem q6r:u58=s7d:=zC 103 rfl Tryz.func103 (by kernel_rfl)
def u1f(x:q44):Ht (Int×q44):=zK 213 x
def s9y (x:q44):Ht (Int×q44):=(s1v (x.1,x.2.1)).bind fun y1=>((cond x.2.2 (some true) (some (!y1.2.2))):Ht Bool).bind fun j2=>cond j2 (some (0,x.1,x.2.1,true)) (some (y1.1,x.1,y1.2.1,x.2.2))
theorem q8h:u1f=s9y:=zC 213 rfl Tryz.func213 (by kernel_rfl)
def s35(x:Z92):Ht Z92:=zK 215 x
def s3p (x:Z92):Ht Z92:=(u2f x.1).bind fun y1=>(u2f y1.2).bind fun y2=>(u58 y2.2).bind fun y3=>(u1f y3.2).bind fun y4=>cond (Nat.ble (x.2.1.length+([(y1.1,y2.1,y3.1,y4.1)]:Hu u0h.den).length) z7w) (some (y4.2,x.2.1++([(y1.1,y2.1,y3.1,y4.1)]:Hu u0h.den),x.2.2)) none
theorem q02:s35=s3p:=zC 215 rfl Tryz.func215 (by kernel_rfl)
def u25(x:Z81):Ht Z81:=zK 10015 x
def u1y(g:Z72→Ht (Z81⊕Unit))(x:Z72):Ht (Z81⊕Unit):=((cond (decide (x.2.2.2<x.2.2.1)) (some (!x.1.2.2)) (some false)):Ht Bool).bind fun j2=>cond j2 ((s35 (x.1,x.2.1.2)).bind fun y3=>g (y3.1,((),y3.2),x.2.2.1,IntKind.i64.wrap (x.2.2.2+1))) (some (.inl (x.1,(),x.2.1.2)))
def u07:=lpW _ _ u1y
theorem u5v x:u07 x=u1y u07 x:=zW u5q 10015 Tryz.f214 2 22 x (by kernel_rfl)
def u6q (x:Z81):Ht Z81:=(u1f x.1).bind fun y1=>(u07 (y1.2,((),x.2.2),y1.1,0)).bind fun r4=>match r4 with | .inl o5=>some (o5.1,(),o5.2.2) | .inr z6=>none
theorem t54:u25=u6q:=zC 10015 rfl Tryz.func214 (by kernel_rfl)
def s59(x:j7e):Ht j7e:=zK 218 x
def s5c (x:j7e):Ht j7e:=(u2f x.2).bind fun y1=>(u2f y1.2).bind fun y2=>cond (Nat.ble (x.1.2.2.2.2.1.length+([(y1.1,y2.1)]:Hu s4z.den).length) z7w) (some ((x.1.1,x.1.2.1,x.1.2.2.1,x.1.2.2.2.1,x.1.2.2.2.2.1++([(y1.1,y2.1)]:Hu s4z.den),x.1.2.2.2.2.2),y2.2)) none
theorem q4h:s59=s5c:=zC 218 rfl Tryz.func218 (by kernel_rfl)
def u3k(x:j7c):Ht j7c:=zK 10017 x
def u17(g:Z88→Ht (j7c⊕Unit))(x:Z88):Ht (j7c⊕Unit):=((cond (decide (x.2.2.2<x.2.2.1)) (some (!x.1.2.2)) (some false)):Ht Bool).bind fun j2=>cond j2 ((s59 (x.2.1.1,x.1)).bind fun y3=>g (y3.2,(y3.1,()),x.2.2.1,IntKind.i64.wrap (x.2.2.2+1))) (some (.inl (x.1,x.2.1.1,())))
def u1b:=lpW _ _ u17
theorem u59 x:u1b x=u17 u1b x:=zW u56 10017 Tryz.f214 2 22 x (by kernel_rfl)
def u60 (x:j7c):Ht j7c:=(u1f x.1).bind fun y1=>(u1b (y1.2,(x.2.1,()),y1.1,0)).bind fun r4=>match r4 with | .inl o5=>some (o5.1,o5.2.1,()) | .inr z6=>none
theorem t6f:u3k=u60:=zC 10017 rfl Tryz.func214 (by kernel_rfl)
def s6a(x:j76):Ht j76:=zK 219 x
def s5d (x:j76):Ht j76:=(u2f x.1).bind fun y1=>(u2f y1.2).bind fun y2=>(u58 y2.2).bind fun y3=>cond (Nat.ble (x.2.2.2.2.2.2.1.length+([(y1.1,y2.1,y3.1)]:Hu u2g.den).length) z7w) (some (y3.2,x.2.1,x.2.2.1,x.2.2.2.1,x.2.2.2.2.1,x.2.2.2.2.2.1,x.2.2.2.2.2.2.1++([(y1.1,y2.1,y3.1)]:Hu u2g.den),x.2.2.2.2.2.2.2)) none
theorem q4i:s6a=s5d:=zC 219 rfl Tryz.func219 (by kernel_rfl)
def u3l(x:j7b):Ht j7b:=zK 10018 x
def u18(g:Z87→Ht (j7b⊕Unit))(x:Z87):Ht (j7b⊕Unit):=((cond (decide (x.2.2.2<x.2.2.1)) (some (!x.1.2.2)) (some false)):Ht Bool).bind fun j2=>cond j2 ((s6a (x.1,x.2.1.2)).bind fun y3=>g (y3.1,((),y3.2),x.2.2.1,IntKind.i64.wrap (x.2.2.2+1))) (some (.inl (x.1,(),x.2.1.2)))
def u1c:=lpW _ _ u18
theorem u6a x:u1c x=u18 u1c x:=zW u57 10018 Tryz.f214 2 22 x (by kernel_rfl)
def u61 (x:j7b):Ht j7b:=(u1f x.1).bind fun y1=>(u1c (y1.2,((),x.2.2),y1.1,0)).bind fun r4=>match r4 with | .inl o5=>some (o5.1,(),o5.2.2) | .inr z6=>none
theorem t6g:u3l=u61:=zC 10018 rfl Tryz.func214 (by kernel_rfl)
def u9t(x:q44):Ht j7e:=zK 105 x
def s9z (x:q44):Ht j7e:=(u1f x).bind fun y1=>(u1f y1.2).bind fun y2=>(u1f y2.2).bind fun y3=>(u1f y3.2).bind fun y4=>(u3k (y4.2,(y1.1,y2.1,y3.1,y4.1,([]:Hu s4z.den),([]:Hu u2g.den),false,(⟨#[]⟩:Hs)),())).bind fun y5=>(u3l (y5.1,(),y5.2.1)).bind fun y6=>(u58 y6.1).bind fun y7=>(u2f y7.2).bind fun y8=>cond y8.2.2.2 (some ((y6.2.2.1,y6.2.2.2.1,y6.2.2.2.2.1,y6.2.2.2.2.2.1,y6.2.2.2.2.2.2.1,y6.2.2.2.2.2.2.2.1,y7.1,y8.1),y8.2.1,y8.2.2.1,true)) ((u8f (y6.2.2.1,y6.2.2.2.1,y6.2.2.2.2.1,y6.2.2.2.2.2.1,y6.2.2.2.2.2.2.1,y6.2.2.2.2.2.2.2.1,y7.1,y8.1)).bind fun y9=>some ((y6.2.2.1,y6.2.2.2.1,y6.2.2.2.2.1,y6.2.2.2.2.2.1,y6.2.2.2.2.2.2.1,y6.2.2.2.2.2.2.2.1,y7.1,y8.1),y8.2.1,y8.2.2.1,!y9))
theorem q8i:u9t=s9z:=zC 105 rfl Tryz.func105 (by kernel_rfl)
def s36(x:Z91):Ht Z91:=zK 216 x
def s3q (x:Z91):Ht Z91:=(u9t x.2).bind fun y1=>cond (Nat.ble (x.1.2.1.length+([y1.1]:Hu u0a.den).length) z7w) (some ((x.1.1,x.1.2.1++([y1.1]:Hu u0a.den),x.1.2.2),y1.2)) none
theorem q03:s36=s3q:=zC 216 rfl Tryz.func216 (by kernel_rfl)
def u26(x:Z83):Ht Z83:=zK 10016 x
def u1z(g:Z73→Ht (Z83⊕Unit))(x:Z73):Ht (Z83⊕Unit):=((cond (decide (x.2.2.2<x.2.2.1)) (some (!x.1.2.2)) (some false)):Ht Bool).bind fun j2=>cond j2 ((s36 (x.2.1.1,x.1)).bind fun y3=>g (y3.2,(y3.1,()),x.2.2.1,IntKind.i64.wrap (x.2.2.2+1))) (some (.inl (x.1,x.2.1.1,())))
def u08:=lpW _ _ u1z
theorem u5w x:u08 x=u1z u08 x:=zW u5r 10016 Tryz.f214 2 22 x (by kernel_rfl)
def u6r (x:Z83):Ht Z83:=(u1f x.1).bind fun y1=>(u08 (y1.2,(x.2.1,()),y1.1,0)).bind fun r4=>match r4 with | .inl o5=>some (o5.1,o5.2.1,()) | .inr z6=>none
theorem t55:u26=u6r:=zC 10016 rfl Tryz.func214 (by kernel_rfl)
def s37(x:Z91):Ht Z91:=zK 217 x
def s3r (x:Z91):Ht Z91:=(u9t x.2).bind fun y1=>cond (Nat.ble (x.1.2.2.1.length+([y1.1]:Hu u0a.den).length) z7w) (some ((x.1.1,x.1.2.1,x.1.2.2.1++([y1.1]:Hu u0a.den),x.1.2.2.2),y1.2)) none
theorem q04:s37=s3r:=zC 217 rfl Tryz.func217 (by kernel_rfl)
def u27(x:Z83):Ht Z83:=zK 10019 x
def u10(g:Z73→Ht (Z83⊕Unit))(x:Z73):Ht (Z83⊕Unit):=((cond (decide (x.2.2.2<x.2.2.1)) (some (!x.1.2.2)) (some false)):Ht Bool).bind fun j2=>cond j2 ((s37 (x.2.1.1,x.1)).bind fun y3=>g (y3.2,(y3.1,()),x.2.2.1,IntKind.i64.wrap (x.2.2.2+1))) (some (.inl (x.1,x.2.1.1,())))
def u09:=lpW _ _ u10
theorem u5x x:u09 x=u10 u09 x:=zW u5s 10019 Tryz.f214 2 22 x (by kernel_rfl)
def u6s (x:Z83):Ht Z83:=(u1f x.1).bind fun y1=>(u09 (y1.2,(x.2.1,()),y1.1,0)).bind fun r4=>match r4 with | .inl o5=>some (o5.1,o5.2.1,()) | .inr z6=>none
theorem t56:u27=u6s:=zC 10019 rfl Tryz.func214 (by kernel_rfl)
def t92(x:q44):Ht Z91:=zK 104 x
def s7c (x:q44):Ht Z91:=(u1f x).bind fun y1=>(u1f y1.2).bind fun y2=>(u25 (y2.2,(),([]:Hu u0h.den),([]:Hu u0a.den),([]:Hu u0a.den),y1.1,y2.1)).bind fun y3=>(u26 (y3.1,y3.2.2,())).bind fun y4=>(u27 (y4.1,y4.2.1,())).bind fun y5=>cond y5.1.2.2 (some (y5.2.1,y5.1.1,y5.1.2.1,true)) ((u22 y5.2.1).bind fun y6=>some (y5.2.1,y5.1.1,y5.1.2.1,!y6))
theorem q6q:t92=s7c:=zC 104 rfl Tryz.func104 (by kernel_rfl)
def s0u(x:Hs):Ht Z46:=zK 31 x
def s9r (x:Hs):Ht Z46:=(s55 x).bind fun y1=>((cond (!y1.2) (some true) (some (z7o y1.1 (⟨#[]⟩:Hs)))):Ht Bool).bind fun j2=>cond j2 (some ((0,(0,0,0,0,([]:Hu s4z.den),([]:Hu u2g.den),false,(⟨#[]⟩:Hs)),(⟨#[]⟩:Hs),false,([]:Hu u0h.den),([]:Hu u0a.den),([]:Hu u0a.den),0,0),false)) (cond (y4q (0:Int) y1.1.size) (cond (decide ((IntKind.i64.wrap ((y1.1.data.toList.getD (0:Int).toNat 0).toNat:Int))=3)) ((u2f (y1.1,1,false)).bind fun y3=>(u58 y3.2).bind fun y4=>(u9r (IntKind.i64.wrap ((y1.1.data.toList.getD (0:Int).toNat 0).toNat:Int),(0,0,0,0,([]:Hu s4z.den),([]:Hu u2g.den),false,(⟨#[]⟩:Hs)),y3.1,y4.1,([]:Hu u0h.den),([]:Hu u0a.den),([]:Hu u0a.den),0,0)).bind fun y5=>((cond y4.2.2.2 (some true) (cond (!y5.2) (some true) (some (!z7o y5.1 x)))):Ht Bool).bind fun j6=>cond j6 (some ((0,(0,0,0,0,([]:Hu s4z.den),([]:Hu u2g.den),false,(⟨#[]⟩:Hs)),(⟨#[]⟩:Hs),false,([]:Hu u0h.den),([]:Hu u0a.den),([]:Hu u0a.den),0,0),false)) (some ((IntKind.i64.wrap ((y1.1.data.toList.getD (0:Int).toNat 0).toNat:Int),(0,0,0,0,([]:Hu s4z.den),([]:Hu u2g.den),false,(⟨#[]⟩:Hs)),y3.1,y4.1,([]:Hu u0h.den),([]:Hu u0a.den),([]:Hu u0a.den),0,0),true))) (cond (decide ((IntKind.i64.wrap ((y1.1.data.toList.getD (0:Int).toNat 0).toNat:Int))=4)) ((t92 (y1.1,1,false)).bind fun y7=>(u9r (IntKind.i64.wrap ((y1.1.data.toList.getD (0:Int).toNat 0).toNat:Int),(0,0,0,0,([]:Hu s4z.den),([]:Hu u2g.den),false,(⟨#[]⟩:Hs)),(⟨#[]⟩:Hs),false,y7.1)).bind fun y8=>((cond y7.2.2.2 (some true) (cond (!y8.2) (some true) (some (!z7o y8.1 x)))):Ht Bool).bind fun j9=>cond j9 (some ((0,(0,0,0,0,([]:Hu s4z.den),([]:Hu u2g.den),false,(⟨#[]⟩:Hs)),(⟨#[]⟩:Hs),false,([]:Hu u0h.den),([]:Hu u0a.den),([]:Hu u0a.den),0,0),false)) (some ((IntKind.i64.wrap ((y1.1.data.toList.getD (0:Int).toNat 0).toNat:Int),(0,0,0,0,([]:Hu s4z.den),([]:Hu u2g.den),false,(⟨#[]⟩:Hs)),(⟨#[]⟩:Hs),false,y7.1),true))) ((u9t (y1.1,1,false)).bind fun y10=>(u9r (IntKind.i64.wrap ((y1.1.data.toList.getD (0:Int).toNat 0).toNat:Int),y10.1,(⟨#[]⟩:Hs),false,([]:Hu u0h.den),([]:Hu u0a.den),([]:Hu u0a.den),0,0)).bind fun y11=>((cond y10.2.2.2 (some true) (cond (!y11.2) (some true) (some (!z7o y11.1 x)))):Ht Bool).bind fun j12=>cond j12 (some ((0,(0,0,0,0,([]:Hu s4z.den),([]:Hu u2g.den),false,(⟨#[]⟩:Hs)),(⟨#[]⟩:Hs),false,([]:Hu u0h.den),([]:Hu u0a.den),([]:Hu u0a.den),0,0),false)) (some ((IntKind.i64.wrap ((y1.1.data.toList.getD (0:Int).toNat 0).toNat:Int),y10.1,(⟨#[]⟩:Hs),false,([]:Hu u0h.den),([]:Hu u0a.den),([]:Hu u0a.den),0,0),true))))) none)
theorem q8a:s0u=s9r:=zC 31 rfl Tryz.func31 (by kernel_rfl)
def q3s(x:Unit):Ht u7f:=zK 60 x
def q1g (x:Unit):Ht u7f:=some (([]:Hu u0h.den),([]:Hu u0a.den),([]:Hu u0a.den),0,1)
theorem p5x:q3s=q1g:=zC 60 rfl Tryz.func60 (by kernel_rfl)
def t5l(x:p2q):Ht s63:=zK 365 x
def t0c(g:d35→Ht j7l)(x:d35):Ht j7l:=cond (decide (x.2.2.2.2<x.2.2.2.1)) (cond (y4q x.2.2.2.2 x.2.2.1.length) (cond (decide ((rdL r67 x.2.2.1 x.2.2.2.2.toNat).1=x.1)) (g (x.1,(rdL r67 x.2.2.1 x.2.2.2.2.toNat).2,x.2.2.1,x.2.2.2.1,IntKind.i64.wrap (x.2.2.2.2+1))) (g (x.1,x.2.1,x.2.2.1,x.2.2.2.1,IntKind.i64.wrap (x.2.2.2.2+1)))) none) (some (.inl x.2.1))
def t0l:=lpW _ _ t0c
theorem s6s x:t0l x=t0c t0l x:=zW s5l 365 Tryz.f365 5 36 x (by kernel_rfl)
def s9s (x:p2q):Ht s63:=(u1q (x.2,0,IntKind.i64.wrap ((x.1.1.length:Int) - (1:Int)))).bind fun y1=>cond (!y1) (some ((⟨#[]⟩:Hs),false)) (cond (y4q x.2 x.1.1.length) ((t0l (x.2,rdL Ty.str x.1.1 x.2.toNat,x.1.2,(x.1.2.length:Int),0)).bind fun r2=>match r2 with | .inl o3=>some (o3,true) | .inr z4=>none) none)
theorem q8b:t5l=s9s:=zC 365 rfl Tryz.func365 (by kernel_rfl)
def s0v(x:j5z):Ht s63:=zK 278 x
def t0d(g:d3k→Ht (q09⊕s63))(x:d3k):Ht (q09⊕s63):=cond (decide (x.2.2.2.2<x.2.1)) ((t5l (x.2.2.1,IntKind.i64.wrap (x.1+x.2.2.2.2))).bind fun y2=>cond (!y2.2) (some (.inr ((⟨#[]⟩:Hs),false))) (cond (Nat.ble (x.2.2.2.1.length+(z7t y2.1).length) z7w) (g (x.1,x.2.1,x.2.2.1,x.2.2.2.1++(z7t y2.1),IntKind.i64.wrap (x.2.2.2.2+1))) none)) (some (.inl x.2.2.2.1))
def t0m:=lpW _ _ t0d
theorem s6t x:t0m x=t0d t0m x:=zW s5m 278 Tryz.f278 5 35 x (by kernel_rfl)
def s9v (x:j5z):Ht s63:=(u1q (x.2.2,0,100)).bind fun y1=>cond (!y1) (some ((⟨#[]⟩:Hs),false)) ((t0m (x.2.1,x.2.2,x.1,([]:Hu Int),0)).bind fun r3=>match r3 with | .inl o4=>some (y7g o4,true) | .inr z5=>some z5)
theorem q8e:s0v=s9v:=zC 278 rfl Tryz.func278 (by kernel_rfl)
def t91(x:Int):Ht Bool:=zK 280 x
def q5o (x:Int):Ht Bool:=((cond (decide (x=0)) (some true) (some (decide (x=1)))):Ht Bool).bind fun j1=>some j1
theorem p98:t91=q5o:=zC 280 rfl Tryz.func280 (by kernel_rfl)
def t78(x:Int):Ht Int:=zK 279 x
def r3m (x:Int):Ht Int:=(t91 x).bind fun y1=>cond (!y1) (some (0:Int)) (some (IntKind.i64.wrap ((1:Int)+(IntKind.i64.wrap (x*48)))))
theorem p0u:t78=r3m:=zC 279 rfl Tryz.func279 (by kernel_rfl)
def t8c(x:p2q):Ht Int:=zK 282 x
def r3w (x:p2q):Ht Int:=(t5l x).bind fun y1=>((cond (!y1.2) (some true) (some (z7o y1.1 (⟨#[]⟩:Hs)))):Ht Bool).bind fun j2=>cond j2 (some (0:Int)) (cond (y4q (0:Int) y1.1.size) (some (IntKind.i64.wrap ((y1.1.data.toList.getD (0:Int).toNat 0).toNat:Int))) none)
theorem p06:t8c=r3w:=zC 282 rfl Tryz.func282 (by kernel_rfl)
def s83(x:p2q):Ht Int:=zK 281 x
def q1h (x:p2q):Ht Int:=(t91 x.2).bind fun y1=>cond (!y1) (some (0:Int)) ((t78 x.2).bind fun y2=>(t8c (x.1,y2)).bind fun y3=>some y3)
theorem p5y:s83=q1h:=zC 281 rfl Tryz.func281 (by kernel_rfl)
def t35(x:p2q):Ht (p0k×j6z):=zK 162 x
def t4j(g:d22→Ht j99)(x:d22):Ht j99:=(s83 (x.2.1,x.1)).bind fun y5=>cond (decide (x.2.2.2.2.2<y5)) ((t79 (x.2.2.1,x.2.2.2.2.1)).bind fun y6=>((cond (!y6.2.2) (some true) (some (z7o y6.1 (⟨#[]⟩:Hs)))):Ht Bool).bind fun j7=>cond j7 (some (.inr (([]:Hu Hs),0,false))) (cond (Nat.ble (x.2.2.2.1.length+([y6.1]:Hu Hs).length) z7w) (g (x.1,x.2.1,x.2.2.1,x.2.2.2.1++([y6.1]:Hu Hs),y6.2.1,IntKind.i64.wrap (x.2.2.2.2.2+1))) none)) (some (.inl (x.2.2.2.1,x.2.2.2.2.1)))
def t48:=lpW _ _ t4j
theorem r1j x:t48 x=t4j t48 x:=zW r0m 162 Tryz.f162 7 57 x (by kernel_rfl)
def r7j (x:p2q):Ht (p0k×j6z):=(t78 x.2).bind fun y1=>(s0v (x.1,IntKind.i64.wrap (y1+1),47)).bind fun y2=>((cond (!y2.2) (some true) ((t91 x.2).bind fun y3=>some (!y3))):Ht Bool).bind fun j4=>cond j4 (some (([]:Hu Hs),0,false)) ((t48 (x.2,x.1,y2.1,([]:Hu Hs),0,0)).bind fun r8=>match r8 with | .inl o9=>some (o9.1,o9.2,true) | .inr z10=>some z10)
theorem p27:t35=r7j:=zC 162 rfl Tryz.func162 (by kernel_rfl)
def s5y(x:t0r):Ht Int:=zK 164 x
def r7c (x:t0r):Ht Int:=(t8c (x,0)).bind fun y1=>some (Int.tmod y1 (2:Int))
theorem p20:s5y=r7c:=zC 164 rfl Tryz.func164 (by kernel_rfl)
def s52(x:t0r):Ht p0k:=zK 61 x
def r7h (x:t0r):Ht p0k:=(s5y x).bind fun y1=>(t35 (x,y1)).bind fun y2=>some y2.1
theorem p25:s52=r7h:=zC 61 rfl Tryz.func61 (by kernel_rfl)
def s26(x:Z52):Ht u7f:=zK 168 x
def t2o(g:Z6→Ht (Z8⊕Unit))(x:Z6):Ht (Z8⊕Unit):=cond (decide (x.2.2.2.2.2.2.2.2.2<x.2.2.2.2.2.2.2.2.1)) (cond (y4q x.2.2.2.2.2.2.2.2.2 x.2.2.2.1.2.2.1.length) (cond (y3c (rdL u0a x.2.2.2.1.2.2.1 x.2.2.2.2.2.2.2.2.2.toNat).2.2.2.2.2.2.2 x.1) (cond (Nat.ble (x.2.2.2.2.2.1.length+([(rdL u0a x.2.2.2.1.2.2.1 x.2.2.2.2.2.2.2.2.2.toNat)]:Hu u0a.den).length) z7w) (g (x.1,x.2.1,x.2.2.1,x.2.2.2.1,x.2.2.2.2.1,x.2.2.2.2.2.1++([(rdL u0a x.2.2.2.1.2.2.1 x.2.2.2.2.2.2.2.2.2.toNat)]:Hu u0a.den),x.2.2.2.2.2.2.1,(),x.2.2.2.2.2.2.2.2.1,IntKind.i64.wrap (x.2.2.2.2.2.2.2.2.2+1))) none) (cond (Nat.ble (x.2.2.2.2.2.2.1.length+([(rdL u0a x.2.2.2.1.2.2.1 x.2.2.2.2.2.2.2.2.2.toNat)]:Hu u0a.den).length) z7w) (g (x.1,x.2.1,x.2.2.1,x.2.2.2.1,x.2.2.2.2.1,x.2.2.2.2.2.1,x.2.2.2.2.2.2.1++([(rdL u0a x.2.2.2.1.2.2.1 x.2.2.2.2.2.2.2.2.2.toNat)]:Hu u0a.den),(),x.2.2.2.2.2.2.2.2.1,IntKind.i64.wrap (x.2.2.2.2.2.2.2.2.2+1))) none)) none) (some (.inl (x.2.1,x.2.2.1,x.2.2.2.1,x.2.2.2.2.1,x.2.2.2.2.2.1,x.2.2.2.2.2.2.1)))
def u5z:=lpW _ _ t2o
theorem s8f x:u5z x=t2o u5z x:=zW s7m 168 Tryz.f168 6 64 x (by kernel_rfl)
def r3o (x:Z52):Ht u7f:=(u1t x.1).bind fun y1=>(t6m x.2.1).bind fun y2=>cond x.2.1.2.2.2.2.2.2.1 ((u5z (x.2.2,x.2.1,(([]:Hu u0h.den),([]:Hu u0a.den),([]:Hu u0a.den),0,0),y1,(y2.1,2,y2.2.2.1,y2.2.2.2.1,y2.2.2.2.2.1,y2.2.2.2.2.2.1,true,x.2.2),([]:Hu u0a.den),([]:Hu u0a.den),(),(y1.2.2.1.length:Int),0)).bind fun r3=>match r3 with | .inl o4=>cond (Nat.ble (o4.2.2.2.2.1.length+([o4.2.2.2.1]:Hu u0a.den).length) z7w) (cond (Nat.ble ((o4.2.2.2.2.1++([o4.2.2.2.1]:Hu u0a.den)).length+o4.2.2.2.2.2.length) z7w) (some (o4.2.2.1.1,o4.2.2.1.2.1,(o4.2.2.2.2.1++([o4.2.2.2.1]:Hu u0a.den))++o4.2.2.2.2.2,o4.2.2.1.2.2.2.1,y8h o4.2.2.1.2.2.2.2 (IntKind.i64.wrap (o4.1.1+1)))) none) none | .inr z5=>none) ((s76 (x.2.1,x.1.2.1)).bind fun y6=>(u5z (x.2.2,x.2.1,(([]:Hu u0h.den),([]:Hu u0a.den),([]:Hu u0a.den),0,0),y1,(y2.1,2,y2.2.2.1,y2.2.2.2.1,y2.2.2.2.2.1,y2.2.2.2.2.2.1,y6,x.2.2),([]:Hu u0a.den),([]:Hu u0a.den),(),(y1.2.2.1.length:Int),0)).bind fun r7=>match r7 with | .inl o8=>cond (Nat.ble (o8.2.2.2.2.1.length+([o8.2.2.2.1]:Hu u0a.den).length) z7w) (cond (Nat.ble ((o8.2.2.2.2.1++([o8.2.2.2.1]:Hu u0a.den)).length+o8.2.2.2.2.2.length) z7w) (some (o8.2.2.1.1,o8.2.2.1.2.1,(o8.2.2.2.2.1++([o8.2.2.2.1]:Hu u0a.den))++o8.2.2.2.2.2,o8.2.2.1.2.2.2.1,y8h o8.2.2.1.2.2.2.2 (IntKind.i64.wrap (o8.1.1+1)))) none) none | .inr z9=>none)
theorem p0x:s26=r3o:=zC 168 rfl Tryz.func168 (by kernel_rfl)
def r2w(x:Z17):Ht o6r:=zK 62 x
def q5g (x:Z17):Ht o6r:=(((u22 x.1).bind fun y1=>cond (!y1) (some true) ((t9z x.2).bind fun y2=>some (!y2))):Ht Bool).bind fun j3=>cond j3 ((u1t x.1).bind fun y4=>some (y4,false)) ((u1t x.1).bind fun y5=>cond (decide (x.2.1=1)) ((t2c (x.1,x.2.2.1)).bind fun y6=>(u3p (y6,([]:Hu u0a.den))).bind fun y7=>((cond (!(decide (x.2.2.1.2.2.2.1=(IntKind.i64.wrap (x.1.2.2.2.1+1))))) (some true) ((u22 y7).bind fun y8=>some (!y8))):Ht Bool).bind fun j9=>cond j9 ((u1t x.1).bind fun y10=>some (y10,false)) (some (y7,true))) (cond (decide (x.2.1=2)) (((cond (decide ((x.1.2.2.1.length:Int)<(3:Int))) ((t6k (x.1,x.2.2.1.2.2.2.2.2.2.2)).bind fun y11=>some (decide (y11<0))) (some false)):Ht Bool).bind fun j12=>(s26 (x.1,x.2.2.1,x.2.2.1.2.2.2.2.2.2.2)).bind fun y13=>(u3p (y13,([]:Hu u0a.den))).bind fun y14=>((cond (!j12) (some true) ((u22 y14).bind fun y15=>some (!y15))):Ht Bool).bind fun j16=>cond j16 ((u1t x.1).bind fun y17=>some (y17,false)) (some (y14,true))) (cond (decide (x.2.1=3)) ((t6k (x.1,x.2.2.2.1)).bind fun y18=>((cond (decide (y18≥0)) (some x.2.2.2.2.1) (some false)):Ht Bool).bind fun j19=>cond j19 (cond (y4q y18 x.1.2.2.1.length) ((t2c (x.1,rdL u0a x.1.2.2.1 y18.toNat)).bind fun y20=>(u3p (y20,([]:Hu u0a.den))).bind fun y21=>((cond (!(decide (y18≥0))) (some true) ((u22 y21).bind fun y22=>some (!y22))):Ht Bool).bind fun j23=>cond j23 ((u1t x.1).bind fun y24=>some (y24,false)) (some (y21,true))) none) ((t6h (x.1,x.2.2.2.1)).bind fun y25=>(u3p (y25,([]:Hu u0a.den))).bind fun y26=>((cond (!(decide (y18≥0))) (some true) ((u22 y26).bind fun y27=>some (!y27))):Ht Bool).bind fun j28=>cond j28 ((u1t x.1).bind fun y29=>some (y29,false)) (some (y26,true)))) ((u1t x.2.2.2.2.2).bind fun y30=>(u3p (y30,([]:Hu u0a.den))).bind fun y31=>(((u22 y31).bind fun y32=>some (!y32)):Ht Bool).bind fun j33=>cond j33 ((u1t x.1).bind fun y34=>some (y34,false)) (some (y31,true))))))
theorem p91:r2w=q5g:=zC 62 rfl Tryz.func62 (by kernel_rfl)
def t6j(x:t0r):Ht o6r:=zK 11 x
def t6z(g:Z40→Ht (Z51⊕o6r))(x:Z40):Ht (Z51⊕o6r):=cond (decide (x.2.2.2.2<x.2.2.2.1)) (cond (y4q x.2.2.2.2 x.2.2.1.length) ((s0u (rdL Ty.str x.2.2.1 x.2.2.2.2.toNat)).bind fun y3=>(r2w (x.2.1,y3.1)).bind fun y4=>((cond (!y3.2) (some true) (some (!y4.2))):Ht Bool).bind fun j5=>cond j5 (some (.inr ((([]:Hu u0h.den),([]:Hu u0a.den),([]:Hu u0a.den),0,0),false))) (g (x.1,y4.1,x.2.2.1,x.2.2.2.1,IntKind.i64.wrap (x.2.2.2.2+1)))) none) (some (.inl (x.1,x.2.1)))
def u6c:=lpW _ _ t6z
theorem r5s x:u6c x=t6z u6c x:=zW r4l 11 Tryz.f11 3 40 x (by kernel_rfl)
def q1l (x:t0r):Ht o6r:=(q3s ()).bind fun y1=>(s52 x).bind fun y2=>(u6c ((([]:Hu u0h.den),([]:Hu u0a.den),([]:Hu u0a.den),0,0),y1,y2,(y2.length:Int),0)).bind fun r6=>match r6 with | .inl o7=>some (o7.2,true) | .inr z8=>some z8
theorem p52:t6j=q1l:=zC 11 rfl Tryz.func11 (by kernel_rfl)
def r2u(x:t0r):Ht Bool:=zK 163 x
def t86(g:d3o→Ht j7o)(x:d3o):Ht j7o:=cond (decide (x.2.2.2<x.2.2.1)) (cond (y4q x.2.2.2 x.2.1.length) (cond (!decide (((rdL Ty.str x.2.1 x.2.2.2.toNat).size:Int)=(64:Int))) (some (.inr false)) (g (x.1,x.2.1,x.2.2.1,IntKind.i64.wrap (x.2.2.2+1)))) none) (some (.inl x.1))
def t9i:=lpW _ _ t86
theorem r92 x:t9i x=t86 t9i x:=zW r8v 163 Tryz.f163 2 50 x (by kernel_rfl)
def t87(g:d3p→Ht j7o)(x:d3p):Ht j7o:=cond (decide (x.2.2.2<x.2.2.1)) (cond (y4q x.2.2.2 x.2.1.length) ((((u1q ((rdL r67 x.2.1 x.2.2.2.toNat).1,0,IntKind.i64.wrap ((x.1.1.length:Int) - (1:Int)))).bind fun y3=>cond (!y3) (some true) (some (!decide (((rdL r67 x.2.1 x.2.2.2.toNat).2.size:Int)=(64:Int))))):Ht Bool).bind fun j4=>cond j4 (some (.inr false)) (g (x.1,x.2.1,x.2.2.1,IntKind.i64.wrap (x.2.2.2+1)))) none) (some (.inl x.1))
def t9j:=lpW _ _ t87
theorem r93 x:t9j x=t87 t9j x:=zW r8w 163 Tryz.f163 8 50 x (by kernel_rfl)
def q5e (x:t0r):Ht Bool:=(t9i (x,x.1,(x.1.length:Int),0)).bind fun r1=>match r1 with | .inl o2=>((t9j (o2,o2.2,(o2.2.length:Int),0)).bind fun r5=>match r5 with | .inl o6=>((((u1q ((o6.1.length:Int),1,100)).bind fun y7=>cond y7 (some (decide ((o6.2.length:Int)≤(60:Int)))) (some false)):Ht Bool).bind fun j8=>some j8) | .inr z9=>some z9) | .inr z10=>some z10
theorem p9z:r2u=q5e:=zC 163 rfl Tryz.func163 (by kernel_rfl)
def s74(x:t0r):Ht Bool:=zK 58 x
def q9j (x:t0r):Ht Bool:=(t35 (x,0)).bind fun y1=>(t35 (x,1)).bind fun y2=>(((r2u x).bind fun y3=>cond y3 (cond (decide ((x.1.length:Int)=(97:Int))) (cond (decide ((x.2.length:Int)=(0:Int))) (cond y1.2.2 (some y2.2.2) (some false)) (some false)) (some false)) (some false)):Ht Bool).bind fun j4=>some j4
theorem o21:s74=q9j:=zC 58 rfl Tryz.func58 (by kernel_rfl)
def s57(x:t0r):Ht t0r:=zK 59 x
def r7p (x:t0r):Ht t0r:=cond (Nat.ble x.1.length z7w) (cond (Nat.ble x.2.length z7w) (some x) none) none
theorem p3e:s57=r7p:=zC 59 rfl Tryz.func59 (by kernel_rfl)
def s28(x:t0r):Ht Z58:=zK 10 x
def r3s (x:t0r):Ht Z58:=(t6j x).bind fun y1=>((cond (!y1.2) (some true) ((s74 x).bind fun y2=>some (!y2))):Ht Bool).bind fun j3=>cond j3 (some ((((([]:Hu u0h.den),([]:Hu u0a.den),([]:Hu u0a.den),0,0),([]:Hu u0a.den)),([]:Hu Hs),([]:Hu r67.den)),false)) ((s57 x).bind fun y4=>some (((y1.1,([]:Hu u0a.den)),y4),true))
theorem p01:s28=r3s:=zC 10 rfl Tryz.func10 (by kernel_rfl)
def t5m(x:j9u):Ht Bool:=zK 176 x
def s9u (x:j9u):Ht Bool:=(t6l ()).bind fun y1=>(t5n (x.2.1,y1,x.1)).bind fun y2=>(t6l ()).bind fun y3=>(t5n (x.2.2,y3,x.1)).bind fun y4=>(u30 (y2,y4)).bind fun y5=>some y5
theorem q8d:t5m=s9u:=zC 176 rfl Tryz.func176 (by kernel_rfl)
def u7q(x:(Unit×Int)):Ht q08:=zK 294 x
def t5u (x:(Unit×Int)):Ht q08:=cond (decide (x.2<0)) none (cond (decide ((IntKind.i64.wrap (x.2 - (IntKind.i64.wrap ((0:Int) - (0:Int)))))>0)) (cond (decide (0≤(0:Int))&&decide ((0:Int)≤(0:Int))&&decide ((0:Int)≤0)) (cond (decide (1≤(IntKind.i64.wrap (x.2 - (IntKind.i64.wrap ((0:Int) - (0:Int))))))&&decide ((IntKind.i64.wrap (x.2 - (IntKind.i64.wrap ((0:Int) - (0:Int)))))≤1099511627776)) (cond (decide (0≤(0:Int))&&decide ((0:Int)≤(0:Int))&&decide ((0:Int)≤((List.replicate (IntKind.i64.wrap (x.2 - (IntKind.i64.wrap ((0:Int) - (0:Int))))).toNat u0h.zero).length:Int))) (some ((List.replicate (IntKind.i64.wrap (x.2 - (IntKind.i64.wrap ((0:Int) - (0:Int))))).toNat u0h.zero).take ((0:Int).toNat - (0:Int).toNat))) none) none) none) (some ([]:Hu u0h.den)))
theorem s65:u7q=t5u:=zC 294 rfl Tryz.func294 (by kernel_rfl)
def u6y(x:(Hu q08)):Ht q08:=zK 177 x
def u28(g:d3d→Ht (((Hu q08)×Int)⊕Unit))(x:d3d):Ht (((Hu q08)×Int)⊕Unit):=cond (decide (x.2.2.2.2<x.2.2.2.1)) (cond (y4q x.2.2.2.2 x.2.2.1.length) (cond (decide ((IntKind.i64.wrap (x.2.1+((rdL (Ty.sl u0h) x.2.2.1 x.2.2.2.2.toNat).length:Int)))<0)) none (g (x.1,IntKind.i64.wrap (x.2.1+((rdL (Ty.sl u0h) x.2.2.1 x.2.2.2.2.toNat).length:Int)),x.2.2.1,x.2.2.2.1,IntKind.i64.wrap (x.2.2.2.2+1)))) none) (some (.inl (x.1,x.2.1)))
def u2h:=lpW _ _ u28
theorem t0a x:u2h x=u28 u2h x:=zW u96 177 Tryz.f177 3 36 x (by kernel_rfl)
def u21(g:d3r→Ht j2o)(x:d3r):Ht j2o:=cond (decide (x.2.2.2<x.2.2.1)) (cond (y4q x.2.2.2 x.2.1.length) (cond (Nat.ble (x.1.length+(rdL (Ty.sl u0h) x.2.1 x.2.2.2.toNat).length) z7w) (g (x.1++(rdL (Ty.sl u0h) x.2.1 x.2.2.2.toNat),x.2.1,x.2.2.1,IntKind.i64.wrap (x.2.2.2+1))) none) none) (some (.inl x.1))
def u2c:=lpW _ _ u21
theorem u9y x:u2c x=u21 u2c x:=zW u9q 177 Tryz.f177 11 36 x (by kernel_rfl)
def t3a (x:(Hu q08)):Ht q08:=(u2h (x,0,x,(x.length:Int),0)).bind fun r1=>match r1 with | .inl o2=>((u7q ((),o2.2)).bind fun y3=>(u2c (y3,o2.1,(o2.1.length:Int),0)).bind fun r4=>match r4 with | .inl o5=>some o5 | .inr z6=>none) | .inr z7=>none
theorem s4m:u6y=t3a:=zC 177 rfl Tryz.func177 (by kernel_rfl)
def s54(x:d1o):Ht Bool:=zK 67 x
def t4k(g:d27→Ht (j9u⊕Bool))(x:d27):Ht (j9u⊕Bool):=cond (decide (x.2.2.2.2<x.2.2.2.1)) (cond (y4q x.2.2.2.2 x.2.2.1.length) (cond (decide ((rdL u0h x.2.2.1 x.2.2.2.2.toNat).2.2.2>x.1)) ((t5m ((rdL u0h x.2.2.1 x.2.2.2.2.toNat).2.2.2,x.2.1)).bind fun y2=>cond (!y2) (some (.inr false)) (g (x.1,x.2.1,x.2.2.1,x.2.2.2.1,IntKind.i64.wrap (x.2.2.2.2+1)))) (g (x.1,x.2.1,x.2.2.1,x.2.2.2.1,IntKind.i64.wrap (x.2.2.2.2+1)))) none) (some (.inl (x.1,x.2.1)))
def t49:=lpW _ _ t4k
theorem r1k x:t49 x=t4k t49 x:=zW r0n 67 Tryz.f67 3 35 x (by kernel_rfl)
def r7l (x:d1o):Ht Bool:=(u6y ([x.1,x.2.1]:Hu q08)).bind fun y1=>(t49 (x.2.2,(x.1,x.2.1),y1,(y1.length:Int),0)).bind fun r3=>match r3 with | .inl o4=>((t5m o4).bind fun y5=>some y5) | .inr z6=>some z6
theorem p29:s54=r7l:=zC 67 rfl Tryz.func67 (by kernel_rfl)
def r9g(x:Z63):Ht Bool:=zK 66 x
def r7t (x:Z63):Ht Bool:=(t2d x.1).bind fun y1=>(t2d x.2).bind fun y2=>((cond (y1.2==y2.2) (some (z7o y1.1 y2.1)) (some false)):Ht Bool).bind fun j3=>some j3
theorem p3i:r9g=r7t:=zC 66 rfl Tryz.func66 (by kernel_rfl)
def u1u(x:d3b):Ht Bool:=zK 10000 x
def u1n(g:d2z→Ht r6y)(x:d2z):Ht r6y:=cond (decide (x.2.2.2.2<x.2.2.2.1)) (cond (y4q x.2.2.2.2 x.2.2.1.length) (cond (y4q x.2.2.2.2 x.1.length) ((r9g (rdL u0a x.2.2.1 x.2.2.2.2.toNat,rdL u0a x.1 x.2.2.2.2.toNat)).bind fun y1=>cond (!y1) (some (.inr false)) (g (x.1,(),x.2.2.1,x.2.2.2.1,IntKind.i64.wrap (x.2.2.2.2+1)))) none) none) (some (.inl ()))
def u1o:=lpW _ _ u1n
theorem u4s x:u1o x=u1n u1o x:=zW u4o 10000 Tryz.f65 4 32 x (by kernel_rfl)
def u48 (x:d3b):Ht Bool:=cond (!decide ((x.1.length:Int)=(x.2.1.length:Int))) (some false) ((u1o (x.2.1,(),x.1,(x.1.length:Int),0)).bind fun r2=>match r2 with | .inl o3=>some true | .inr z4=>some z4)
theorem t2i:u1u=u48:=zC 10000 rfl Tryz.func65 (by kernel_rfl)
def t9y(x:Z51):Ht Bool:=zK 13 x
def r7g (x:Z51):Ht Bool:=cond (decide (x.1.2.2.2.1=x.2.2.2.2.1)) ((u1u (x.1.2.1,x.2.2.1,())).bind fun y1=>cond y1 ((u1u (x.1.2.2.1,x.2.2.2.1,())).bind fun y2=>cond y2 ((s54 (x.1.1,x.2.1,x.1.2.2.2.1)).bind fun y3=>some y3) (some false)) (some false)) (some false)
theorem p24:t9y=r7g:=zC 13 rfl Tryz.func13 (by kernel_rfl)
def s51(x:Z84):Ht Bool:=zK 63 x
def t4g(g:Z56→Ht r6y)(x:Z56):Ht r6y:=cond (decide (x.2.2.2<x.2.2.1)) (cond (y4q x.2.2.2 x.2.1.length) ((((u8f (rdL u0a x.2.1 x.2.2.2.toNat)).bind fun y4=>cond (!y4) (some true) (cond (!decide ((rdL u0a x.2.1 x.2.2.2.toNat).2.1=1)) (some true) (cond (decide ((rdL u0a x.2.1 x.2.2.2.toNat).2.2.1>x.1.1.2.2.2.1)) (some true) (cond (decide (x.2.2.2>0)) (cond (y4q (IntKind.i64.wrap (x.2.2.2 - 1)) x.1.2.length) (some (decide ((rdL u0a x.1.2 (IntKind.i64.wrap (x.2.2.2 - 1)).toNat).1≥(rdL u0a x.2.1 x.2.2.2.toNat).1))) none) (some false))))):Ht Bool).bind fun j5=>cond j5 (some (.inr false)) (g (x.1,x.2.1,x.2.2.1,IntKind.i64.wrap (x.2.2.2+1)))) none) (some (.inl ()))
def t45:=lpW _ _ t4g
theorem r1g x:t45 x=t4g t45 x:=zW r0j 63 Tryz.f63 4 73 x (by kernel_rfl)
def r7f (x:Z84):Ht Bool:=(u22 x.1).bind fun y1=>cond (!y1) (some false) (cond (decide ((x.2.length:Int)>(4:Int))) (some false) ((u3z ([x.1.2.1,x.1.2.2.1,x.2]:Hu q42)).bind fun y2=>(t15 (y2,x.1.2.2.2.2)).bind fun y3=>cond (!y3) (some false) ((t45 (x,x.2,(x.2.length:Int),0)).bind fun r6=>match r6 with | .inl o7=>some true | .inr z8=>some z8)))
theorem p23:s51=r7f:=zC 63 rfl Tryz.func63 (by kernel_rfl)
def s85(x:Z60):Ht Bool:=zK 12 x
def q1q (x:Z60):Ht Bool:=(t6j x.2).bind fun y1=>(((s51 x.1).bind fun y2=>cond y2 ((s74 x.2).bind fun y3=>cond y3 (cond y1.2 ((u3p (x.1.1,([]:Hu u0a.den))).bind fun y4=>(t9y (y1.1,y4)).bind fun y5=>some y5) (some false)) (some false)) (some false)):Ht Bool).bind fun j6=>some j6
theorem p57:s85=q1q:=zC 12 rfl Tryz.func12 (by kernel_rfl)
def s25(x:Z39):Ht Bool:=zK 28 x
def r3n (x:Z39):Ht Bool:=(s28 x.1.2).bind fun y1=>((cond y1.2 ((s85 x.1).bind fun y2=>cond y2 ((u3p (x.1.1.1,([]:Hu u0a.den))).bind fun y3=>(t9y (y1.1.1.1,y3)).bind fun y4=>some y4) (some false)) (some false)):Ht Bool).bind fun j5=>some j5
theorem p0w:s25=r3n:=zC 28 rfl Tryz.func28 (by kernel_rfl)
def s38(x:q09):Ht Bool:=zK 4 x
def s3s (x:q09):Ht Bool:=(p8k x).bind fun y1=>cond y1 (some true) ((s0y x).bind fun y2=>(s6g y2).bind fun y3=>(t3e y3.1.2.1).bind fun y4=>((cond y3.2 (cond y4.2 (cond (decide ((y4.1.length:Int)=(y3.1.2.1.length:Int))) ((t3f y3.1.2.1).bind fun y5=>cond y5 ((r2y y3.1).bind fun y6=>cond y6 ((s27 y3.1).bind fun y7=>cond y7 ((s0t y3.1).bind fun y8=>cond y8 ((s25 y3.1).bind fun y9=>some y9) (some false)) (some false)) (some false)) (some false)) (some false)) (some false)) (some false)):Ht Bool).bind fun j10=>some j10)
theorem q05:s38=s3s:=zC 4 rfl Tryz.func4 (by kernel_rfl)
end
end Go.Proofs.YtkdpclfhapphhaaGreat.Ab
