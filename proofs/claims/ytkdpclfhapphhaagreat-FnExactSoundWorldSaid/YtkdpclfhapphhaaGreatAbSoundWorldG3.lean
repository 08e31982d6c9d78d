import Derived.Test.YtkdpclfhapphhaaGreatAbSoundWorldG2
namespace Go.Proofs.YtkdpclfhapphhaaGreat.Ab
open Go
set_option linter.unusedVariables false
noncomputable section
set_option maxRecDepth 100000
def u2h(x:Z59):Ht Z59:=zK 10019 x
def u1k(g:Z53→Ht (Z59⊕Unit))(x:Z53):Ht (Z59⊕Unit):=((cond (decide (x.2.2.2<x.2.2.1)) (some (!x.1.2.2)) (some false)):Ht Bool).bind fun j2=>cond j2 ((s04 (x.2.1.1,x.1)).bind fun y3=>g (y3.2,(y3.1,()),x.2.2.1,IntKind.i64.wrap (x.2.2.2+1))) (some (.inl (x.1,x.2.1.1,())))
def u0t:=lpW _ _ u1k
theorem u40 x:u0t x=u1k u0t x:=zW u4u 10019 Tryz.f214 2 22 x (by kernel_rfl)
def u5m (x:Z59):Ht Z59:=(u01 x.1).bind fun y1=>(u0t (y1.2,(x.2.1,()),y1.1,0)).bind fun r4=>match r4 with | .inl o5=>some (o5.1,o5.2.1,()) | .inr z6=>none
theorem t3e:u2h=u5m:=zC 10019 rfl Tryz.func214 (by kernel_rfl)
def s05(x:Z65):Ht Z65:=zK 217 x
def s0q (x:Z65):Ht Z65:=(u71 x.2).bind fun y1=>cond (Nat.ble (x.1.2.2.1.length+([y1.1]:Hu u0a.den).length) z7w) (some ((x.1.1,x.1.2.1,x.1.2.2.1++([y1.1]:Hu u0a.den),x.1.2.2.2),y1.2)) none
theorem r7p:s05=s0q:=zC 217 rfl Tryz.func217 (by kernel_rfl)
def u2i(x:Z59):Ht Z59:=zK 10022 x
def u1l(g:Z53→Ht (Z59⊕Unit))(x:Z53):Ht (Z59⊕Unit):=((cond (decide (x.2.2.2<x.2.2.1)) (some (!x.1.2.2)) (some false)):Ht Bool).bind fun j2=>cond j2 ((s05 (x.2.1.1,x.1)).bind fun y3=>g (y3.2,(y3.1,()),x.2.2.1,IntKind.i64.wrap (x.2.2.2+1))) (some (.inl (x.1,x.2.1.1,())))
def u0u:=lpW _ _ u1l
theorem u41 x:u0u x=u1l u0u x:=zW u4v 10022 Tryz.f214 2 22 x (by kernel_rfl)
def u5n (x:Z59):Ht Z59:=(u01 x.1).bind fun y1=>(u0u (y1.2,(x.2.1,()),y1.1,0)).bind fun r4=>match r4 with | .inl o5=>some (o5.1,o5.2.1,()) | .inr z6=>none
theorem t3f:u2i=u5n:=zC 10022 rfl Tryz.func214 (by kernel_rfl)
def t7d(x:q0u):Ht Z65:=zK 104 x
def s38 (x:q0u):Ht Z65:=(u01 x).bind fun y1=>(u01 y1.2).bind fun y2=>(u2g (y2.2,(),([]:Hu u0d.den),([]:Hu u0a.den),([]:Hu u0a.den),y1.1,y2.1)).bind fun y3=>(u2h (y3.1,y3.2.2,())).bind fun y4=>(u2i (y4.1,y4.2.1,())).bind fun y5=>cond y5.1.2.2 (some (y5.2.1,y5.1.1,y5.1.2.1,true)) ((u2c y5.2.1).bind fun y6=>some (y5.2.1,y5.1.1,y5.1.2.1,!y6))
theorem q2n:t7d=s38:=zC 104 rfl Tryz.func104 (by kernel_rfl)
def t74(x:Hs):Ht Z34:=zK 31 x
def s6r (x:Hs):Ht Z34:=(s2z x).bind fun y1=>((cond (!y1.2) (some true) (some (z7o y1.1 (⟨#[]⟩:Hs)))):Ht Bool).bind fun j2=>cond j2 (some ((0,(0,0,0,0,([]:Hu t7u.den),([]:Hu u12.den),false,(⟨#[]⟩:Hs)),(⟨#[]⟩:Hs),false,([]:Hu u0d.den),([]:Hu u0a.den),([]:Hu u0a.den),0,0),false)) (cond (y4q (0:Int) y1.1.size) (cond (decide ((IntKind.i64.wrap ((y1.1.data.toList.getD (0:Int).toNat 0).toNat:Int))=3)) ((u1w (y1.1,1,false)).bind fun y3=>(u48 y3.2).bind fun y4=>(u7z (IntKind.i64.wrap ((y1.1.data.toList.getD (0:Int).toNat 0).toNat:Int),(0,0,0,0,([]:Hu t7u.den),([]:Hu u12.den),false,(⟨#[]⟩:Hs)),y3.1,y4.1,([]:Hu u0d.den),([]:Hu u0a.den),([]:Hu u0a.den),0,0)).bind fun y5=>((cond y4.2.2.2 (some true) (cond (!y5.2) (some true) (some (!z7o y5.1 x)))):Ht Bool).bind fun j6=>cond j6 (some ((0,(0,0,0,0,([]:Hu t7u.den),([]:Hu u12.den),false,(⟨#[]⟩:Hs)),(⟨#[]⟩:Hs),false,([]:Hu u0d.den),([]:Hu u0a.den),([]:Hu u0a.den),0,0),false)) (some ((IntKind.i64.wrap ((y1.1.data.toList.getD (0:Int).toNat 0).toNat:Int),(0,0,0,0,([]:Hu t7u.den),([]:Hu u12.den),false,(⟨#[]⟩:Hs)),y3.1,y4.1,([]:Hu u0d.den),([]:Hu u0a.den),([]:Hu u0a.den),0,0),true))) (cond (decide ((IntKind.i64.wrap ((y1.1.data.toList.getD (0:Int).toNat 0).toNat:Int))=4)) ((t7d (y1.1,1,false)).bind fun y7=>(u7z (IntKind.i64.wrap ((y1.1.data.toList.getD (0:Int).toNat 0).toNat:Int),(0,0,0,0,([]:Hu t7u.den),([]:Hu u12.den),false,(⟨#[]⟩:Hs)),(⟨#[]⟩:Hs),false,y7.1)).bind fun y8=>((cond y7.2.2.2 (some true) (cond (!y8.2) (some true) (some (!z7o y8.1 x)))):Ht Bool).bind fun j9=>cond j9 (some ((0,(0,0,0,0,([]:Hu t7u.den),([]:Hu u12.den),false,(⟨#[]⟩:Hs)),(⟨#[]⟩:Hs),false,([]:Hu u0d.den),([]:Hu u0a.den),([]:Hu u0a.den),0,0),false)) (some ((IntKind.i64.wrap ((y1.1.data.toList.getD (0:Int).toNat 0).toNat:Int),(0,0,0,0,([]:Hu t7u.den),([]:Hu u12.den),false,(⟨#[]⟩:Hs)),(⟨#[]⟩:Hs),false,y7.1),true))) ((u71 (y1.1,1,false)).bind fun y10=>(u7z (IntKind.i64.wrap ((y1.1.data.toList.getD (0:Int).toNat 0).toNat:Int),y10.1,(⟨#[]⟩:Hs),false,([]:Hu u0d.den),([]:Hu u0a.den),([]:Hu u0a.den),0,0)).bind fun y11=>((cond y10.2.2.2 (some true) (cond (!y11.2) (some true) (some (!z7o y11.1 x)))):Ht Bool).bind fun j12=>cond j12 (some ((0,(0,0,0,0,([]:Hu t7u.den),([]:Hu u12.den),false,(⟨#[]⟩:Hs)),(⟨#[]⟩:Hs),false,([]:Hu u0d.den),([]:Hu u0a.den),([]:Hu u0a.den),0,0),false)) (some ((IntKind.i64.wrap ((y1.1.data.toList.getD (0:Int).toNat 0).toNat:Int),y10.1,(⟨#[]⟩:Hs),false,([]:Hu u0d.den),([]:Hu u0a.den),([]:Hu u0a.den),0,0),true))))) none)
theorem q31:t74=s6r:=zC 31 rfl Tryz.func31 (by kernel_rfl)
def r9x(x:Unit):Ht Z99:=zK 60 x
def r7v (x:Unit):Ht Z99:=some (([]:Hu u0d.den),([]:Hu u0a.den),([]:Hu u0a.den),0,1)
theorem p0z:r9x=r7v:=zC 60 rfl Tryz.func60 (by kernel_rfl)
def t2w(x:q75):Ht s6h:=zK 365 x
def u8l(g:j4q→Ht j1n)(x:j4q):Ht j1n:=cond (decide (x.2.2.2.2<x.2.2.2.1)) (cond (y4q x.2.2.2.2 x.2.2.1.length) (cond (decide ((rdL q7m x.2.2.1 x.2.2.2.2.toNat).1=x.1)) (g (x.1,(rdL q7m x.2.2.1 x.2.2.2.2.toNat).2,x.2.2.1,x.2.2.2.1,IntKind.i64.wrap (x.2.2.2.2+1))) (g (x.1,x.2.1,x.2.2.1,x.2.2.2.1,IntKind.i64.wrap (x.2.2.2.2+1)))) none) (some (.inl x.2.1))
def u8u:=lpW _ _ u8l
theorem s3r x:u8u x=u8l u8u x:=zW s2f 365 Tryz.f365 5 36 x (by kernel_rfl)
def s6s (x:q75):Ht s6h:=(u1b (x.2,0,IntKind.i64.wrap ((x.1.1.length:Int) - (1:Int)))).bind fun y1=>cond (!y1) (some ((⟨#[]⟩:Hs),false)) (cond (y4q x.2 x.1.1.length) ((u8u (x.2,rdL Ty.str x.1.1 x.2.toNat,x.1.2,(x.1.2.length:Int),0)).bind fun r2=>match r2 with | .inl o3=>some (o3,true) | .inr z4=>none) none)
theorem q32:t2w=s6s:=zC 365 rfl Tryz.func365 (by kernel_rfl)
def t75(x:j02):Ht s6h:=zK 278 x
def u8m(g:j32→Ht (r3u⊕s6h))(x:j32):Ht (r3u⊕s6h):=cond (decide (x.2.2.2.2<x.2.1)) ((t2w (x.2.2.1,IntKind.i64.wrap (x.1+x.2.2.2.2))).bind fun y2=>cond (!y2.2) (some (.inr ((⟨#[]⟩:Hs),false))) (cond (Nat.ble (x.2.2.2.1.length+(z7t y2.1).length) z7w) (g (x.1,x.2.1,x.2.2.1,x.2.2.2.1++(z7t y2.1),IntKind.i64.wrap (x.2.2.2.2+1))) none)) (some (.inl x.2.2.2.1))
def u8v:=lpW _ _ u8m
theorem s3s x:u8v x=u8m u8v x:=zW s2g 278 Tryz.f278 5 35 x (by kernel_rfl)
def s6v (x:j02):Ht s6h:=(u1b (x.2.2,0,100)).bind fun y1=>cond (!y1) (some ((⟨#[]⟩:Hs),false)) ((u8v (x.2.1,x.2.2,x.1,([]:Hu Int),0)).bind fun r3=>match r3 with | .inl o4=>some (y7g o4,true) | .inr z5=>some z5)
theorem q35:t75=s6v:=zC 278 rfl Tryz.func278 (by kernel_rfl)
def t7c(x:Int):Ht Bool:=zK 280 x
def q1f (x:Int):Ht Bool:=((cond (decide (x=0)) (some true) (some (decide (x=1)))):Ht Bool).bind fun j1=>some j1
theorem p4z:t7c=q1f:=zC 280 rfl Tryz.func280 (by kernel_rfl)
def t5i(x:Int):Ht Int:=zK 279 x
def r0u (x:Int):Ht Int:=(t7c x).bind fun y1=>cond (!y1) (some (0:Int)) (some (IntKind.i64.wrap ((1:Int)+(IntKind.i64.wrap (x*48)))))
theorem q6n:t5i=r0u:=zC 279 rfl Tryz.func279 (by kernel_rfl)
def t5m(x:q75):Ht Int:=zK 282 x
def r04 (x:q75):Ht Int:=(t2w x).bind fun y1=>((cond (!y1.2) (some true) (some (z7o y1.1 (⟨#[]⟩:Hs)))):Ht Bool).bind fun j2=>cond j2 (some (0:Int)) (cond (y4q (0:Int) y1.1.size) (some (IntKind.i64.wrap ((y1.1.data.toList.getD (0:Int).toNat 0).toNat:Int))) none)
theorem q6z:t5m=r04:=zC 282 rfl Tryz.func282 (by kernel_rfl)
def s5v(x:q75):Ht Int:=zK 281 x
def r7w (x:q75):Ht Int:=(t7c x.2).bind fun y1=>cond (!y1) (some (0:Int)) ((t5i x.2).bind fun y2=>(t5m (x.1,y2)).bind fun y3=>some y3)
theorem p00:s5v=r7w:=zC 281 rfl Tryz.func281 (by kernel_rfl)
def t1g(x:q75):Ht (q0t×o8s):=zK 162 x
def t1s(g:j3k→Ht j1j)(x:j3k):Ht j1j:=(s5v (x.2.1,x.1)).bind fun y5=>cond (decide (x.2.2.2.2.2<y5)) ((t5j (x.2.2.1,x.2.2.2.2.1)).bind fun y6=>((cond (!y6.2.2) (some true) (some (z7o y6.1 (⟨#[]⟩:Hs)))):Ht Bool).bind fun j7=>cond j7 (some (.inr (([]:Hu Hs),0,false))) (cond (Nat.ble (x.2.2.2.1.length+([y6.1]:Hu Hs).length) z7w) (g (x.1,x.2.1,x.2.2.1,x.2.2.2.1++([y6.1]:Hu Hs),y6.2.1,IntKind.i64.wrap (x.2.2.2.2.2+1))) none)) (some (.inl (x.2.2.2.1,x.2.2.2.2.1)))
def t2h:=lpW _ _ t1s
theorem s8v x:t2h x=t1s t2h x:=zW s7o 162 Tryz.f162 7 57 x (by kernel_rfl)
def r4n (x:q75):Ht (q0t×o8s):=(t5i x.2).bind fun y1=>(t75 (x.1,IntKind.i64.wrap (y1+1),47)).bind fun y2=>((cond (!y2.2) (some true) ((t7c x.2).bind fun y3=>some (!y3))):Ht Bool).bind fun j4=>cond j4 (some (([]:Hu Hs),0,false)) ((t2h (x.2,x.1,y2.1,([]:Hu Hs),0,0)).bind fun r8=>match r8 with | .inl o9=>some (o9.1,o9.2,true) | .inr z10=>some z10)
theorem q8j:t1g=r4n:=zC 162 rfl Tryz.func162 (by kernel_rfl)
def s2s(x:s1j):Ht Int:=zK 164 x
def r4g (x:s1j):Ht Int:=(t5m (x,0)).bind fun y1=>some (Int.tmod y1 (2:Int))
theorem q8c:s2s=r4g:=zC 164 rfl Tryz.func164 (by kernel_rfl)
def s2w(x:s1j):Ht q0t:=zK 61 x
def r4l (x:s1j):Ht q0t:=(s2s x).bind fun y1=>(t1g (x,y1)).bind fun y2=>some y2.1
theorem q8h:s2w=r4l:=zC 61 rfl Tryz.func61 (by kernel_rfl)
def s0c(x:Z39):Ht Z99:=zK 168 x
def t0i(g:Z5→Ht (Z6⊕Unit))(x:Z5):Ht (Z6⊕Unit):=cond (decide (x.2.2.2.2.2.2.2.2.2<x.2.2.2.2.2.2.2.2.1)) (cond (y4q x.2.2.2.2.2.2.2.2.2 x.2.2.2.1.2.2.1.length) (cond (y3c (rdL u0a x.2.2.2.1.2.2.1 x.2.2.2.2.2.2.2.2.2.toNat).2.2.2.2.2.2.2 x.1) (cond (Nat.ble (x.2.2.2.2.2.1.length+([(rdL u0a x.2.2.2.1.2.2.1 x.2.2.2.2.2.2.2.2.2.toNat)]:Hu u0a.den).length) z7w) (g (x.1,x.2.1,x.2.2.1,x.2.2.2.1,x.2.2.2.2.1,x.2.2.2.2.2.1++([(rdL u0a x.2.2.2.1.2.2.1 x.2.2.2.2.2.2.2.2.2.toNat)]:Hu u0a.den),x.2.2.2.2.2.2.1,(),x.2.2.2.2.2.2.2.2.1,IntKind.i64.wrap (x.2.2.2.2.2.2.2.2.2+1))) none) (cond (Nat.ble (x.2.2.2.2.2.2.1.length+([(rdL u0a x.2.2.2.1.2.2.1 x.2.2.2.2.2.2.2.2.2.toNat)]:Hu u0a.den).length) z7w) (g (x.1,x.2.1,x.2.2.1,x.2.2.2.1,x.2.2.2.2.1,x.2.2.2.2.2.1,x.2.2.2.2.2.2.1++([(rdL u0a x.2.2.2.1.2.2.1 x.2.2.2.2.2.2.2.2.2.toNat)]:Hu u0a.den),(),x.2.2.2.2.2.2.2.2.1,IntKind.i64.wrap (x.2.2.2.2.2.2.2.2.2+1))) none)) none) (some (.inl (x.2.1,x.2.2.1,x.2.2.2.1,x.2.2.2.2.1,x.2.2.2.2.2.1,x.2.2.2.2.2.2.1)))
def u43:=lpW _ _ t0i
theorem s5g x:u43 x=t0i u43 x:=zW s4i 168 Tryz.f168 6 64 x (by kernel_rfl)
def r0w (x:Z39):Ht Z99:=(u1f x.1).bind fun y1=>(t3v x.2.1).bind fun y2=>cond x.2.1.2.2.2.2.2.2.1 ((u43 (x.2.2,x.2.1,(([]:Hu u0d.den),([]:Hu u0a.den),([]:Hu u0a.den),0,0),y1,(y2.1,2,y2.2.2.1,y2.2.2.2.1,y2.2.2.2.2.1,y2.2.2.2.2.2.1,true,x.2.2),([]:Hu u0a.den),([]:Hu u0a.den),(),(y1.2.2.1.length:Int),0)).bind fun r3=>match r3 with | .inl o4=>cond (Nat.ble (o4.2.2.2.2.1.length+([o4.2.2.2.1]:Hu u0a.den).length) z7w) (cond (Nat.ble ((o4.2.2.2.2.1++([o4.2.2.2.1]:Hu u0a.den)).length+o4.2.2.2.2.2.length) z7w) (some (o4.2.2.1.1,o4.2.2.1.2.1,(o4.2.2.2.2.1++([o4.2.2.2.1]:Hu u0a.den))++o4.2.2.2.2.2,o4.2.2.1.2.2.2.1,y8h o4.2.2.1.2.2.2.2 (IntKind.i64.wrap (o4.1.1+1)))) none) none | .inr z5=>none) ((s4z (x.2.1,x.1.2.1)).bind fun y6=>(u43 (x.2.2,x.2.1,(([]:Hu u0d.den),([]:Hu u0a.den),([]:Hu u0a.den),0,0),y1,(y2.1,2,y2.2.2.1,y2.2.2.2.1,y2.2.2.2.2.1,y2.2.2.2.2.2.1,y6,x.2.2),([]:Hu u0a.den),([]:Hu u0a.den),(),(y1.2.2.1.length:Int),0)).bind fun r7=>match r7 with | .inl o8=>cond (Nat.ble (o8.2.2.2.2.1.length+([o8.2.2.2.1]:Hu u0a.den).length) z7w) (cond (Nat.ble ((o8.2.2.2.2.1++([o8.2.2.2.1]:Hu u0a.den)).length+o8.2.2.2.2.2.length) z7w) (some (o8.2.2.1.1,o8.2.2.1.2.1,(o8.2.2.2.2.1++([o8.2.2.2.1]:Hu u0a.den))++o8.2.2.2.2.2,o8.2.2.1.2.2.2.1,y8h o8.2.2.1.2.2.2.2 (IntKind.i64.wrap (o8.1.1+1)))) none) none | .inr z9=>none)
theorem q6q:s0c=r0w:=zC 168 rfl Tryz.func168 (by kernel_rfl)
def s91(x:Z16):Ht Z89:=zK 62 x
def q07 (x:Z16):Ht Z89:=(((u2c x.1).bind fun y1=>cond (!y1) (some true) ((t68 x.2).bind fun y2=>some (!y2))):Ht Bool).bind fun j3=>cond j3 ((u1f x.1).bind fun y4=>some (y4,false)) ((u1f x.1).bind fun y5=>cond (decide (x.2.1=1)) ((u98 (x.1,x.2.2.1)).bind fun y6=>(u2w (y6,([]:Hu u0a.den))).bind fun y7=>((cond (!(decide (x.2.2.1.2.2.2.1=(IntKind.i64.wrap (x.1.2.2.2.1+1))))) (some true) ((u2c y7).bind fun y8=>some (!y8))):Ht Bool).bind fun j9=>cond j9 ((u1f x.1).bind fun y10=>some (y10,false)) (some (y7,true))) (cond (decide (x.2.1=2)) (((cond (decide ((x.1.2.2.1.length:Int)<(3:Int))) ((t3t (x.1,x.2.2.1.2.2.2.2.2.2.2)).bind fun y11=>some (decide (y11<0))) (some false)):Ht Bool).bind fun j12=>(s0c (x.1,x.2.2.1,x.2.2.1.2.2.2.2.2.2.2)).bind fun y13=>(u2w (y13,([]:Hu u0a.den))).bind fun y14=>((cond (!j12) (some true) ((u2c y14).bind fun y15=>some (!y15))):Ht Bool).bind fun j16=>cond j16 ((u1f x.1).bind fun y17=>some (y17,false)) (some (y14,true))) (cond (decide (x.2.1=3)) ((t3t (x.1,x.2.2.2.1)).bind fun y18=>((cond (decide (y18≥0)) (some x.2.2.2.2.1) (some false)):Ht Bool).bind fun j19=>cond j19 (cond (y4q y18 x.1.2.2.1.length) ((u98 (x.1,rdL u0a x.1.2.2.1 y18.toNat)).bind fun y20=>(u2w (y20,([]:Hu u0a.den))).bind fun y21=>((cond (!(decide (y18≥0))) (some true) ((u2c y21).bind fun y22=>some (!y22))):Ht Bool).bind fun j23=>cond j23 ((u1f x.1).bind fun y24=>some (y24,false)) (some (y21,true))) none) ((t3q (x.1,x.2.2.2.1)).bind fun y25=>(u2w (y25,([]:Hu u0a.den))).bind fun y26=>((cond (!(decide (y18≥0))) (some true) ((u2c y26).bind fun y27=>some (!y27))):Ht Bool).bind fun j28=>cond j28 ((u1f x.1).bind fun y29=>some (y29,false)) (some (y26,true)))) ((u1f x.2.2.2.2.2).bind fun y30=>(u2w (y30,([]:Hu u0a.den))).bind fun y31=>(((u2c y31).bind fun y32=>some (!y32)):Ht Bool).bind fun j33=>cond j33 ((u1f x.1).bind fun y34=>some (y34,false)) (some (y31,true))))))
theorem p4s:s91=q07:=zC 62 rfl Tryz.func62 (by kernel_rfl)
def t3s(x:s1j):Ht Z89:=zK 11 x
def t4a(g:Z28→Ht (Z38⊕Z89))(x:Z28):Ht (Z38⊕Z89):=cond (decide (x.2.2.2.2<x.2.2.2.1)) (cond (y4q x.2.2.2.2 x.2.2.1.length) ((t74 (rdL Ty.str x.2.2.1 x.2.2.2.2.toNat)).bind fun y3=>(s91 (x.2.1,y3.1)).bind fun y4=>((cond (!y3.2) (some true) (some (!y4.2))):Ht Bool).bind fun j5=>cond j5 (some (.inr ((([]:Hu u0d.den),([]:Hu u0a.den),([]:Hu u0a.den),0,0),false))) (g (x.1,y4.1,x.2.2.1,x.2.2.2.1,IntKind.i64.wrap (x.2.2.2.2+1)))) none) (some (.inl (x.1,x.2.1)))
def u5b:=lpW _ _ t4a
theorem r2u x:u5b x=t4a u5b x:=zW r1o 11 Tryz.f11 3 40 x (by kernel_rfl)
def r70 (x:s1j):Ht Z89:=(r9x ()).bind fun y1=>(s2w x).bind fun y2=>(u5b ((([]:Hu u0d.den),([]:Hu u0a.den),([]:Hu u0a.den),0,0),y1,y2,(y2.length:Int),0)).bind fun r6=>match r6 with | .inl o7=>some (o7.2,true) | .inr z8=>some z8
theorem p04:t3s=r70:=zC 11 rfl Tryz.func11 (by kernel_rfl)
def s9z(x:s1j):Ht Bool:=zK 163 x
def t6e(g:j37→Ht o9b)(x:j37):Ht o9b:=cond (decide (x.2.2.2<x.2.2.1)) (cond (y4q x.2.2.2 x.2.1.length) (cond (!decide (((rdL Ty.str x.2.1 x.2.2.2.toNat).size:Int)=(64:Int))) (some (.inr false)) (g (x.1,x.2.1,x.2.2.1,IntKind.i64.wrap (x.2.2.2+1)))) none) (some (.inl x.1))
def t6q:=lpW _ _ t6e
theorem r6z x:t6q x=t6e t6q x:=zW r5t 163 Tryz.f163 2 50 x (by kernel_rfl)
def t6f(g:j38→Ht o9b)(x:j38):Ht o9b:=cond (decide (x.2.2.2<x.2.2.1)) (cond (y4q x.2.2.2 x.2.1.length) ((((u1b ((rdL q7m x.2.1 x.2.2.2.toNat).1,0,IntKind.i64.wrap ((x.1.1.length:Int) - (1:Int)))).bind fun y3=>cond (!y3) (some true) (some (!decide (((rdL q7m x.2.1 x.2.2.2.toNat).2.size:Int)=(64:Int))))):Ht Bool).bind fun j4=>cond j4 (some (.inr false)) (g (x.1,x.2.1,x.2.2.1,IntKind.i64.wrap (x.2.2.2+1)))) none) (some (.inl x.1))
def t6r:=lpW _ _ t6f
theorem r60 x:t6r x=t6f t6r x:=zW r5u 163 Tryz.f163 8 50 x (by kernel_rfl)
def q05 (x:s1j):Ht Bool:=(t6q (x,x.1,(x.1.length:Int),0)).bind fun r1=>match r1 with | .inl o2=>((t6r (o2,o2.2,(o2.2.length:Int),0)).bind fun r5=>match r5 with | .inl o6=>((((u1b ((o6.1.length:Int),1,100)).bind fun y7=>cond y7 (some (decide ((o6.2.length:Int)≤(60:Int)))) (some false)):Ht Bool).bind fun j8=>some j8) | .inr z9=>some z9) | .inr z10=>some z10
theorem p4q:s9z=q05:=zC 163 rfl Tryz.func163 (by kernel_rfl)
def s4x(x:s1j):Ht Bool:=zK 58 x
def q5g (x:s1j):Ht Bool:=(t1g (x,0)).bind fun y1=>(t1g (x,1)).bind fun y2=>(((s9z x).bind fun y3=>cond y3 (cond (decide ((x.1.length:Int)=(97:Int))) (cond (decide ((x.2.length:Int)=(0:Int))) (cond y1.2.2 (some y2.2.2) (some false)) (some false)) (some false)) (some false)):Ht Bool).bind fun j4=>some j4
theorem p7d:s4x=q5g:=zC 58 rfl Tryz.func58 (by kernel_rfl)
def s21(x:s1j):Ht s1j:=zK 59 x
def r4t (x:s1j):Ht s1j:=cond (Nat.ble x.1.length z7w) (cond (Nat.ble x.2.length z7w) (some x) none) none
theorem q8q:s21=r4t:=zC 59 rfl Tryz.func59 (by kernel_rfl)
def s0e(x:s1j):Ht Z45:=zK 10 x
def r00 (x:s1j):Ht Z45:=(t3s x).bind fun y1=>((cond (!y1.2) (some true) ((s4x x).bind fun y2=>some (!y2))):Ht Bool).bind fun j3=>cond j3 (some ((((([]:Hu u0d.den),([]:Hu u0a.den),([]:Hu u0a.den),0,0),([]:Hu u0a.den)),([]:Hu Hs),([]:Hu q7m.den)),false)) ((s21 x).bind fun y4=>some (((y1.1,([]:Hu u0a.den)),y4),true))
theorem q6u:s0e=r00:=zC 10 rfl Tryz.func10 (by kernel_rfl)
def t2x(x:j03):Ht Bool:=zK 176 x
def s6u (x:j03):Ht Bool:=(t3u ()).bind fun y1=>(t2y (x.2.1,y1,x.1)).bind fun y2=>(t3u ()).bind fun y3=>(t2y (x.2.2,y3,x.1)).bind fun y4=>(u28 (y2,y4)).bind fun y5=>some y5
theorem q34:t2x=s6u:=zC 176 rfl Tryz.func176 (by kernel_rfl)
def u58(x:(Unit×Int)):Ht s9h:=zK 294 x
def t26 (x:(Unit×Int)):Ht s9h:=cond (decide (x.2<0)) none (cond (decide ((IntKind.i64.wrap (x.2 - (IntKind.i64.wrap ((0:Int) - (0:Int)))))>0)) (cond (decide (0≤(0:Int))&&decide ((0:Int)≤(0:Int))&&decide ((0:Int)≤0)) (cond (decide (1≤(IntKind.i64.wrap (x.2 - (IntKind.i64.wrap ((0:Int) - (0:Int))))))&&decide ((IntKind.i64.wrap (x.2 - (IntKind.i64.wrap ((0:Int) - (0:Int)))))≤1099511627776)) (cond (decide (0≤(0:Int))&&decide ((0:Int)≤(0:Int))&&decide ((0:Int)≤((List.replicate (IntKind.i64.wrap (x.2 - (IntKind.i64.wrap ((0:Int) - (0:Int))))).toNat u0d.zero).length:Int))) (some ((List.replicate (IntKind.i64.wrap (x.2 - (IntKind.i64.wrap ((0:Int) - (0:Int))))).toNat u0d.zero).take ((0:Int).toNat - (0:Int).toNat))) none) none) none) (some ([]:Hu u0d.den)))
theorem s30:u58=t26:=zC 294 rfl Tryz.func294 (by kernel_rfl)
def u5q(x:(Hu s9h)):Ht s9h:=zK 177 x
def u2j(g:j3u→Ht (((Hu s9h)×Int)⊕Unit))(x:j3u):Ht (((Hu s9h)×Int)⊕Unit):=cond (decide (x.2.2.2.2<x.2.2.2.1)) (cond (y4q x.2.2.2.2 x.2.2.1.length) (cond (decide ((IntKind.i64.wrap (x.2.1+((rdL (Ty.sl u0d) x.2.2.1 x.2.2.2.2.toNat).length:Int)))<0)) none (g (x.1,IntKind.i64.wrap (x.2.1+((rdL (Ty.sl u0d) x.2.2.1 x.2.2.2.2.toNat).length:Int)),x.2.2.1,x.2.2.2.1,IntKind.i64.wrap (x.2.2.2.2+1)))) none) (some (.inl (x.1,x.2.1)))
def u1x:=lpW _ _ u2j
theorem u8j x:u1x x=u2j u1x x:=zW u8d 177 Tryz.f177 3 36 x (by kernel_rfl)
def u2b(g:j4e→Ht o1j)(x:j4e):Ht o1j:=cond (decide (x.2.2.2<x.2.2.1)) (cond (y4q x.2.2.2 x.2.1.length) (cond (Nat.ble (x.1.length+(rdL (Ty.sl u0d) x.2.1 x.2.2.2.toNat).length) z7w) (g (x.1++(rdL (Ty.sl u0d) x.2.1 x.2.2.2.toNat),x.2.1,x.2.2.1,IntKind.i64.wrap (x.2.2.2+1))) none) none) (some (.inl x.1))
def u1s:=lpW _ _ u2b
theorem u74 x:u1s x=u2b u1s x:=zW u7y 177 Tryz.f177 11 36 x (by kernel_rfl)
def t0y (x:(Hu s9h)):Ht s9h:=(u1x (x,0,x,(x.length:Int),0)).bind fun r1=>match r1 with | .inl o2=>((u58 ((),o2.2)).bind fun y3=>(u1s (y3,o2.1,(o2.1.length:Int),0)).bind fun r4=>match r4 with | .inl o5=>some o5 | .inr z6=>none) | .inr z7=>none
theorem s1l:u5q=t0y:=zC 177 rfl Tryz.func177 (by kernel_rfl)
def s2y(x:o5k):Ht Bool:=zK 67 x
def t1t(g:j3l→Ht (j03⊕Bool))(x:j3l):Ht (j03⊕Bool):=cond (decide (x.2.2.2.2<x.2.2.2.1)) (cond (y4q x.2.2.2.2 x.2.2.1.length) (cond (decide ((rdL u0d x.2.2.1 x.2.2.2.2.toNat).2.2.2>x.1)) ((t2x ((rdL u0d x.2.2.1 x.2.2.2.2.toNat).2.2.2,x.2.1)).bind fun y2=>cond (!y2) (some (.inr false)) (g (x.1,x.2.1,x.2.2.1,x.2.2.2.1,IntKind.i64.wrap (x.2.2.2.2+1)))) (g (x.1,x.2.1,x.2.2.1,x.2.2.2.1,IntKind.i64.wrap (x.2.2.2.2+1)))) none) (some (.inl (x.1,x.2.1)))
def t2i:=lpW _ _ t1t
theorem s8w x:t2i x=t1t t2i x:=zW s7p 67 Tryz.f67 3 35 x (by kernel_rfl)
def r4p (x:o5k):Ht Bool:=(u5q ([x.1,x.2.1]:Hu s9h)).bind fun y1=>(t2i (x.2.2,(x.1,x.2.1),y1,(y1.length:Int),0)).bind fun r3=>match r3 with | .inl o4=>((t2x o4).bind fun y5=>some y5) | .inr z6=>some z6
theorem q8l:s2y=r4p:=zC 67 rfl Tryz.func67 (by kernel_rfl)
def r6j(x:Z49):Ht Bool:=zK 66 x
def r4x (x:Z49):Ht Bool:=(u99 x.1).bind fun y1=>(u99 x.2).bind fun y2=>((cond (y1.2==y2.2) (some (z7o y1.1 y2.1)) (some false)):Ht Bool).bind fun j3=>some j3
theorem q8u:r6j=r4x:=zC 66 rfl Tryz.func66 (by kernel_rfl)
def u1h(x:j3s):Ht Bool:=zK 10014 x
def u08(g:j3g→Ht s1h)(x:j3g):Ht s1h:=cond (decide (x.2.2.2.2<x.2.2.2.1)) (cond (y4q x.2.2.2.2 x.2.2.1.length) (cond (y4q x.2.2.2.2 x.1.length) ((r6j (rdL u0a x.2.2.1 x.2.2.2.2.toNat,rdL u0a x.1 x.2.2.2.2.toNat)).bind fun y1=>cond (!y1) (some (.inr false)) (g (x.1,(),x.2.2.1,x.2.2.2.1,IntKind.i64.wrap (x.2.2.2.2+1)))) none) none) (some (.inl ()))
def u09:=lpW _ _ u08
theorem u3y x:u09 x=u08 u09 x:=zW u3u 10014 Tryz.f65 4 32 x (by kernel_rfl)
def u4g (x:j3s):Ht Bool:=cond (!decide ((x.1.length:Int)=(x.2.1.length:Int))) (some false) ((u09 (x.2.1,(),x.1,(x.1.length:Int),0)).bind fun r2=>match r2 with | .inl o3=>some true | .inr z4=>some z4)
theorem t0e:u1h=u4g:=zC 10014 rfl Tryz.func65 (by kernel_rfl)
def t67(x:Z38):Ht Bool:=zK 13 x
def r4k (x:Z38):Ht Bool:=cond (decide (x.1.2.2.2.1=x.2.2.2.2.1)) ((u1h (x.1.2.1,x.2.2.1,())).bind fun y1=>cond y1 ((u1h (x.1.2.2.1,x.2.2.2.1,())).bind fun y2=>cond y2 ((s2y (x.1.1,x.2.1,x.1.2.2.2.1)).bind fun y3=>some y3) (some false)) (some false)) (some false)
theorem q8g:t67=r4k:=zC 13 rfl Tryz.func13 (by kernel_rfl)
def s2v(x:Z61):Ht Bool:=zK 63 x
def t1p(g:Z42→Ht s1h)(x:Z42):Ht s1h:=cond (decide (x.2.2.2<x.2.2.1)) (cond (y4q x.2.2.2 x.2.1.length) ((((u6u (rdL u0a x.2.1 x.2.2.2.toNat)).bind fun y4=>cond (!y4) (some true) (cond (!decide ((rdL u0a x.2.1 x.2.2.2.toNat).2.1=1)) (some true) (cond (decide ((rdL u0a x.2.1 x.2.2.2.toNat).2.2.1>x.1.1.2.2.2.1)) (some true) (cond (decide (x.2.2.2>0)) (cond (y4q (IntKind.i64.wrap (x.2.2.2 - 1)) x.1.2.length) (some (decide ((rdL u0a x.1.2 (IntKind.i64.wrap (x.2.2.2 - 1)).toNat).1≥(rdL u0a x.2.1 x.2.2.2.toNat).1))) none) (some false))))):Ht Bool).bind fun j5=>cond j5 (some (.inr false)) (g (x.1,x.2.1,x.2.2.1,IntKind.i64.wrap (x.2.2.2+1)))) none) (some (.inl ()))
def t2f:=lpW _ _ t1p
theorem s8s x:t2f x=t1p t2f x:=zW s7l 63 Tryz.f63 4 73 x (by kernel_rfl)
def r4j (x:Z61):Ht Bool:=(u2c x.1).bind fun y1=>cond (!y1) (some false) (cond (decide ((x.2.length:Int)>(4:Int))) (some false) ((u27 ([x.1.2.1,x.1.2.2.1,x.2]:Hu r0o)).bind fun y2=>(u94 (y2,x.1.2.2.2.2)).bind fun y3=>cond (!y3) (some false) ((t2f (x,x.2,(x.2.length:Int),0)).bind fun r6=>match r6 with | .inl o7=>some true | .inr z8=>some z8)))
theorem q8f:s2v=r4j:=zC 63 rfl Tryz.func63 (by kernel_rfl)
def s5x(x:Z48):Ht Bool:=zK 12 x
def r75 (x:Z48):Ht Bool:=(t3s x.2).bind fun y1=>(((s2v x.1).bind fun y2=>cond y2 ((s4x x.2).bind fun y3=>cond y3 (cond y1.2 ((u2w (x.1.1,([]:Hu u0a.den))).bind fun y4=>(t67 (y1.1,y4)).bind fun y5=>some y5) (some false)) (some false)) (some false)):Ht Bool).bind fun j6=>some j6
theorem p09:s5x=r75:=zC 12 rfl Tryz.func12 (by kernel_rfl)
def s0b(x:Z29):Ht Bool:=zK 28 x
def r0v (x:Z29):Ht Bool:=(s0e x.1.2).bind fun y1=>((cond y1.2 ((s5x x.1).bind fun y2=>cond y2 ((u2w (x.1.1.1,([]:Hu u0a.den))).bind fun y3=>(t67 (y1.1.1.1,y3)).bind fun y4=>some y4) (some false)) (some false)):Ht Bool).bind fun j5=>some j5
theorem q6p:s0b=r0v:=zC 28 rfl Tryz.func28 (by kernel_rfl)
def t76(x:Z29):Ht Bool:=zK 47 x
def s6w (x:Z29):Ht Bool:=(((s93 x).bind fun y1=>cond y1 ((s0b x).bind fun y2=>cond y2 ((s0d x).bind fun y3=>cond y3 ((t73 x).bind fun y4=>some y4) (some false)) (some false)) (some false)):Ht Bool).bind fun j5=>some j5
theorem q36:t76=s6w:=zC 47 rfl Tryz.func47 (by kernel_rfl)
def t87(x:j4s):Ht Bool:=zK 401 x
def r8e (x:j4s):Ht Bool:=cond (!z7o x.1.1 x.2.1) (some false) (cond (!z7o x.1.2 x.2.2) (some false) (some true))
theorem p1j:t87=r8e:=zC 401 rfl Tryz.func401 (by kernel_rfl)
def s26(x:o9d):Ht Bool:=zK 341 x
def s6j(g:o86→Ht s1h)(x:o86):Ht s1h:=cond (decide (x.2.2<(x.1.length:Int))) (cond (y4q x.2.2 x.1.length) (cond (y4q x.2.2 x.2.1.length) ((t87 (rdL t7u x.1 x.2.2.toNat,rdL t7u x.2.1 x.2.2.toNat)).bind fun y1=>cond (!y1) (some (.inr false)) (g (x.1,x.2.1,IntKind.i64.wrap (x.2.2+1)))) none) none) (some (.inl ()))
def u7m:=lpW _ _ s6j
theorem q4s x:u7m x=s6j u7m x:=zW s7v 341 Tryz.f341 4 27 x (by kernel_rfl)
def r4z (x:o9d):Ht Bool:=cond (!decide ((x.1.length:Int)=(x.2.length:Int))) (some false) ((u7m (x.1,x.2,0)).bind fun r2=>match r2 with | .inl o3=>some true | .inr z4=>some z4)
theorem q8w:s26=r4z:=zC 341 rfl Tryz.func341 (by kernel_rfl)
def t88(x:j4a):Ht Bool:=zK 402 x
def r8h (x:j4a):Ht Bool:=cond (!z7o x.1.1 x.2.1) (some false) (cond (!z7o x.1.2.1 x.2.2.1) (some false) (cond (!(x.1.2.2==x.2.2.2)) (some false) (some true)))
theorem p1m:t88=r8h:=zC 402 rfl Tryz.func402 (by kernel_rfl)
def s27(x:o87):Ht Bool:=zK 342 x
def s6k(g:o6z→Ht s1h)(x:o6z):Ht s1h:=cond (decide (x.2.2<(x.1.length:Int))) (cond (y4q x.2.2 x.1.length) (cond (y4q x.2.2 x.2.1.length) ((t88 (rdL u12 x.1 x.2.2.toNat,rdL u12 x.2.1 x.2.2.toNat)).bind fun y1=>cond (!y1) (some (.inr false)) (g (x.1,x.2.1,IntKind.i64.wrap (x.2.2+1)))) none) none) (some (.inl ()))
def u7n:=lpW _ _ s6k
theorem q4t x:u7n x=s6k u7n x:=zW s7w 342 Tryz.f342 4 27 x (by kernel_rfl)
def r40 (x:o87):Ht Bool:=cond (!decide ((x.1.length:Int)=(x.2.length:Int))) (some false) ((u7n (x.1,x.2,0)).bind fun r2=>match r2 with | .inl o3=>some true | .inr z4=>some z4)
theorem q8x:s27=r40:=zC 342 rfl Tryz.func342 (by kernel_rfl)
def s41(x:Z49):Ht Bool:=zK 256 x
def q5m (x:Z49):Ht Bool:=cond (!decide (x.1.1=x.2.1)) (some false) (cond (!decide (x.1.2.1=x.2.2.1)) (some false) (cond (!decide (x.1.2.2.1=x.2.2.2.1)) (some false) (cond (!decide (x.1.2.2.2.1=x.2.2.2.2.1)) (some false) ((s26 (x.1.2.2.2.2.1,x.2.2.2.2.2.1)).bind fun y1=>cond (!y1) (some false) ((s27 (x.1.2.2.2.2.2.1,x.2.2.2.2.2.2.1)).bind fun y2=>cond (!y2) (some false) (cond (!(x.1.2.2.2.2.2.2.1==x.2.2.2.2.2.2.2.1)) (some false) (cond (!z7o x.1.2.2.2.2.2.2.2 x.2.2.2.2.2.2.2.2) (some false) (some true))))))))
theorem p7j:s41=q5m:=zC 256 rfl Tryz.func256 (by kernel_rfl)
def t20(x:o9o):Ht Bool:=zK 147 x
def r34(g:o6x→Ht s1h)(x:o6x):Ht s1h:=cond (decide (x.2.2<(x.1.length:Int))) (cond (y4q x.2.2 x.1.length) (cond (y4q x.2.2 x.2.1.length) ((s41 (rdL u0a x.1 x.2.2.toNat,rdL u0a x.2.1 x.2.2.toNat)).bind fun y1=>cond (!y1) (some (.inr false)) (g (x.1,x.2.1,IntKind.i64.wrap (x.2.2+1)))) none) none) (some (.inl ()))
def t09:=lpW _ _ r34
theorem p0f x:t09 x=r34 t09 x:=zW r51 147 Tryz.f147 4 27 x (by kernel_rfl)
def q1n (x:o9o):Ht Bool:=cond (!decide ((x.1.length:Int)=(x.2.length:Int))) (some false) ((t09 (x.1,x.2,0)).bind fun r2=>match r2 with | .inl o3=>some true | .inr z4=>some z4)
theorem p47:t20=q1n:=zC 147 rfl Tryz.func147 (by kernel_rfl)
def t5o(x:o82):Ht Bool:=zK 431 x
def r09 (x:o82):Ht Bool:=cond (!z7o x.1.1 x.2.1) (some false) (cond (!z7o x.1.2.1 x.2.2.1) (some false) (cond (!(x.1.2.2.1==x.2.2.2.1)) (some false) (cond (!decide (x.1.2.2.2=x.2.2.2.2)) (some false) (some true))))
theorem q64:t5o=r09:=zC 431 rfl Tryz.func431 (by kernel_rfl)
def t79(x:j09):Ht Bool:=zK 399 x
def s13(g:o5k→Ht s1h)(x:o5k):Ht s1h:=cond (decide (x.2.2<(x.1.length:Int))) (cond (y4q x.2.2 x.1.length) (cond (y4q x.2.2 x.2.1.length) ((t5o (rdL u0d x.1 x.2.2.toNat,rdL u0d x.2.1 x.2.2.toNat)).bind fun y1=>cond (!y1) (some (.inr false)) (g (x.1,x.2.1,IntKind.i64.wrap (x.2.2+1)))) none) none) (some (.inl ()))
def u51:=lpW _ _ s13
theorem q0q x:u51 x=s13 u51 x:=zW s2i 399 Tryz.f399 4 27 x (by kernel_rfl)
def s61 (x:j09):Ht Bool:=cond (!decide ((x.1.length:Int)=(x.2.length:Int))) (some false) ((u51 (x.1,x.2,0)).bind fun r2=>match r2 with | .inl o3=>some true | .inr z4=>some z4)
theorem q4b:t79=s61:=zC 399 rfl Tryz.func399 (by kernel_rfl)
def s95(x:Z38):Ht Bool:=zK 339 x
def q1j (x:Z38):Ht Bool:=(t79 (x.1.1,x.2.1)).bind fun y1=>cond (!y1) (some false) ((t20 (x.1.2.1,x.2.2.1)).bind fun y2=>cond (!y2) (some false) ((t20 (x.1.2.2.1,x.2.2.2.1)).bind fun y3=>cond (!y3) (some false) (cond (!decide (x.1.2.2.2.1=x.2.2.2.2.1)) (some false) (cond (!decide (x.1.2.2.2.2=x.2.2.2.2.2)) (some false) (some true)))))
theorem p43:s95=q1j:=zC 339 rfl Tryz.func339 (by kernel_rfl)
def s25(x:Z20):Ht Bool:=zK 254 x
def r4y (x:Z20):Ht Bool:=(s95 (x.1.1,x.2.1)).bind fun y1=>cond (!y1) (some false) ((t20 (x.1.2,x.2.2)).bind fun y2=>cond (!y2) (some false) (some true))
theorem q8v:s25=r4y:=zC 254 rfl Tryz.func254 (by kernel_rfl)
def t5n(x:j45):Ht Bool:=zK 149 x
def s31(g:j05→Ht s1h)(x:j05):Ht s1h:=cond (decide (x.2.2<(x.1.length:Int))) (cond (y4q x.2.2 x.1.length) (cond (y4q x.2.2 x.2.1.length) (cond (!z7o (rdL Ty.str x.1 x.2.2.toNat) (rdL Ty.str x.2.1 x.2.2.toNat)) (some (.inr false)) (g (x.1,x.2.1,IntKind.i64.wrap (x.2.2+1)))) none) none) (some (.inl ()))
def u6o:=lpW _ _ s31
theorem q3f x:u6o x=s31 u6o x:=zW s4n 149 Tryz.f149 4 26 x (by kernel_rfl)
def r08 (x:j45):Ht Bool:=cond (!decide ((x.1.length:Int)=(x.2.length:Int))) (some false) ((u6o (x.1,x.2,0)).bind fun r1=>match r1 with | .inl o2=>some true | .inr z3=>some z3)
theorem q63:t5n=r08:=zC 149 rfl Tryz.func149 (by kernel_rfl)
def s40(x:j44):Ht Bool:=zK 400 x
def q5l (x:j44):Ht Bool:=cond (!decide (x.1.1=x.2.1)) (some false) (cond (!z7o x.1.2 x.2.2) (some false) (some true))
theorem p7i:s40=q5l:=zC 400 rfl Tryz.func400 (by kernel_rfl)
def s98(x:(o1h×o1h)):Ht Bool:=zK 340 x
def r33(g:j08→Ht s1h)(x:j08):Ht s1h:=cond (decide (x.2.2<(x.1.length:Int))) (cond (y4q x.2.2 x.1.length) (cond (y4q x.2.2 x.2.1.length) ((s40 (rdL q7m x.1 x.2.2.toNat,rdL q7m x.2.1 x.2.2.toNat)).bind fun y1=>cond (!y1) (some (.inr false)) (g (x.1,x.2.1,IntKind.i64.wrap (x.2.2+1)))) none) none) (some (.inl ()))
def t08:=lpW _ _ r33
theorem p0e x:t08 x=r33 t08 x:=zW r50 340 Tryz.f340 4 27 x (by kernel_rfl)
def q1m (x:(o1h×o1h)):Ht Bool:=cond (!decide ((x.1.length:Int)=(x.2.length:Int))) (some false) ((t08 (x.1,x.2,0)).bind fun r2=>match r2 with | .inl o3=>some true | .inr z4=>some z4)
theorem p46:s98=q1m:=zC 340 rfl Tryz.func340 (by kernel_rfl)
def s96(x:j3x):Ht Bool:=zK 255 x
def q1k (x:j3x):Ht Bool:=(t5n (x.1.1,x.2.1)).bind fun y1=>cond (!y1) (some false) ((s98 (x.1.2,x.2.2)).bind fun y2=>cond (!y2) (some false) (some true))
theorem p44:s96=q1k:=zC 255 rfl Tryz.func255 (by kernel_rfl)
def s51(x:Z11):Ht Bool:=zK 146 x
def r8f (x:Z11):Ht Bool:=(s25 (x.1.1,x.2.1)).bind fun y1=>cond (!y1) (some false) ((s96 (x.1.2,x.2.2)).bind fun y2=>cond (!y2) (some false) (some true))
theorem p1k:s51=r8f:=zC 146 rfl Tryz.func146 (by kernel_rfl)
def s97(x:(r3u×r3u)):Ht Bool:=zK 148 x
def r32(g:(r3u×o5c)→Ht s1h)(x:(r3u×o5c)):Ht s1h:=cond (decide (x.2.2<(x.1.length:Int))) (cond (y4q x.2.2 x.1.length) (cond (y4q x.2.2 x.2.1.length) (cond (!decide ((rdL (Ty.int .i64) x.1 x.2.2.toNat)=(rdL (Ty.int .i64) x.2.1 x.2.2.toNat))) (some (.inr false)) (g (x.1,x.2.1,IntKind.i64.wrap (x.2.2+1)))) none) none) (some (.inl ()))
def t07:=lpW _ _ r32
theorem p0d x:t07 x=r32 t07 x:=zW r5z 148 Tryz.f148 4 26 x (by kernel_rfl)
def q1l (x:(r3u×r3u)):Ht Bool:=cond (!decide ((x.1.length:Int)=(x.2.length:Int))) (some false) ((t07 (x.1,x.2,0)).bind fun r1=>match r1 with | .inl o2=>some true | .inr z3=>some z3)
theorem p45:s97=q1l:=zC 148 rfl Tryz.func148 (by kernel_rfl)
def s52(x:Z4):Ht Bool:=zK 48 x
def r8g (x:Z4):Ht Bool:=(s51 (x.1.1,x.2.1)).bind fun y1=>cond (!y1) (some false) ((t20 (x.1.2.1,x.2.2.1)).bind fun y2=>cond (!y2) (some false) ((s97 (x.1.2.2.1,x.2.2.2.1)).bind fun y3=>cond (!y3) (some false) ((t5n (x.1.2.2.2,x.2.2.2.2)).bind fun y4=>cond (!y4) (some false) (some true))))
theorem p1l:s52=r8g:=zC 48 rfl Tryz.func48 (by kernel_rfl)
def t6a(x:Z29):Ht Bool:=zK 6 x
def t52 (x:Z29):Ht Bool:=(s54 (x,1048576)).bind fun y1=>cond (decide (y1<0)) (some true) ((t3w x).bind fun y2=>(t8f y2).bind fun y3=>(t3w x).bind fun y4=>(t76 y4).bind fun y5=>cond (!(y5==y3)) (some false) ((t3w x).bind fun y6=>(s52 (y4,y6)).bind fun y7=>cond (!y7) (some false) (some true)))
theorem s7g:t6a=t52:=zC 6 rfl Tryz.func6 (by kernel_rfl)
end
end Go.Proofs.YtkdpclfhapphhaaGreat.Ab
