import Derived.Test.YtkdpclfhapphhaaGreatAbSoundWorldG1
namespace Go.Proofs.YtkdpclfhapphhaaGreat.Ab
open Go
set_option linter.unusedVariables false
noncomputable section
set_option maxRecDepth 100000
def s3j(x:p8u):Ht Z80:=zK 38 x
def t14(g:Z26→Ht (Z31⊕Unit))(x:Z26):Ht (Z31⊕Unit):=((cond (decide (x.2.2.2.2<x.2.2.2.1)) (cond (decide (x.2.2.2.2<130)) (some (!x.2.1.2.2)) (some false)) (some false)):Ht Bool).bind fun j4=>cond j4 ((u1n x.2.1).bind fun y5=>(u1n y5.2).bind fun y6=>(u5z y6.2).bind fun y7=>(u2d y7.2).bind fun y8=>cond (Nat.ble (x.2.2.1.1.length+([(y5.1,y6.1,y7.1,y8.1)]:Hu u0d.den).length) z7w) (g (x.1,y8.2,(x.2.2.1.1++([(y5.1,y6.1,y7.1,y8.1)]:Hu u0d.den),x.2.2.1.2),x.2.2.2.1,IntKind.i64.wrap (x.2.2.2.2+1))) none) (some (.inl (x.1,x.2.1,x.2.2.1)))
def u7r:=lpW _ _ t14
theorem s86 x:u7r x=t14 u7r x:=zW s75 38 Tryz.f38 6 79 x (by kernel_rfl)
def r5e (x:p8u):Ht Z80:=(u2d (x.1,x.2,false)).bind fun y1=>(u2d y1.2).bind fun y2=>(u2d y2.2).bind fun y3=>(u7r ((([]:Hu u0d.den),([]:Hu u0a.den),([]:Hu u0a.den),0,0),y3.2,(([]:Hu u0d.den),([]:Hu u0a.den),([]:Hu u0a.den),y1.1,y2.1),y3.1,0)).bind fun r9=>match r9 with | .inl o10=>((t00 (o10.2.1,12)).bind fun y11=>(t00 (y11.2,3)).bind fun y12=>((cond y12.2.2.2 (some true) ((u6w (o10.2.2.1,y11.1,y12.1,o10.2.2.2.2.2)).bind fun y13=>some (!y13))):Ht Bool).bind fun j14=>cond j14 (some ((([]:Hu u0d.den),([]:Hu u0a.den),([]:Hu u0a.den),0,0),0,false)) (some ((o10.2.2.1,y11.1,y12.1,o10.2.2.2.2.2),y12.2.2.1,true))) | .inr z15=>none
theorem q9b:s3j=r5e:=zC 38 rfl Tryz.func38 (by kernel_rfl)
def t7j(x:u9x):Ht Bool:=zK 122 x
def r5m (x:u9x):Ht Bool:=((cond (decide (x.1=0)) (cond (decide (x.2.1=0)) (cond (decide (x.2.2.1=0)) (cond (decide (x.2.2.2.1=0)) (cond (decide ((x.2.2.2.2.1.length:Int)=(0:Int))) (cond (decide ((x.2.2.2.2.2.1.length:Int)=(0:Int))) (cond (!x.2.2.2.2.2.2.1) (some (z7o x.2.2.2.2.2.2.2 (⟨#[]⟩:Hs))) (some false)) (some false)) (some false)) (some false)) (some false)) (some false)) (some false)):Ht Bool).bind fun j1=>some j1
theorem q9i:t7j=r5m:=zC 122 rfl Tryz.func122 (by kernel_rfl)
def s0l(x:Z99):Ht Bool:=zK 124 x
def r1j (x:Z99):Ht Bool:=((cond (decide (x.2.2.2.1=0)) (cond (decide (x.2.2.2.2=0)) (cond (decide ((x.1.length:Int)=(0:Int))) (cond (decide ((x.2.1.length:Int)=(0:Int))) (some (decide ((x.2.2.1.length:Int)=(0:Int)))) (some false)) (some false)) (some false)) (some false)):Ht Bool).bind fun j1=>some j1
theorem q7f:s0l=r1j:=zC 124 rfl Tryz.func124 (by kernel_rfl)
def t7f(x:Z35):Ht Bool:=zK 39 x
def r5f (x:Z35):Ht Bool:=(u03 (x.1,1,4)).bind fun y1=>cond (!y1) (some false) (((cond (decide (x.1=1)) (some true) (some (decide (x.1=2)))):Ht Bool).bind fun j2=>((cond j2 ((u8i x.2.1).bind fun y3=>cond (!y3) (some true) (cond (!j2) ((t7j x.2.1).bind fun y4=>cond (!y4) (some true) (cond (decide (x.1=1)) (cond (!decide (x.2.1.2.1=3)) (some true) (cond (decide (x.1=2)) (some (!decide (x.2.1.2.1=2))) (some false))) (cond (decide (x.1=2)) (some (!decide (x.2.1.2.1=2))) (some false)))) (cond (decide (x.1=1)) (cond (!decide (x.2.1.2.1=3)) (some true) (cond (decide (x.1=2)) (some (!decide (x.2.1.2.1=2))) (some false))) (cond (decide (x.1=2)) (some (!decide (x.2.1.2.1=2))) (some false))))) (cond (!j2) ((t7j x.2.1).bind fun y5=>cond (!y5) (some true) (cond (decide (x.1=1)) (cond (!decide (x.2.1.2.1=3)) (some true) (cond (decide (x.1=2)) (some (!decide (x.2.1.2.1=2))) (some false))) (cond (decide (x.1=2)) (some (!decide (x.2.1.2.1=2))) (some false)))) (cond (decide (x.1=1)) (cond (!decide (x.2.1.2.1=3)) (some true) (cond (decide (x.1=2)) (some (!decide (x.2.1.2.1=2))) (some false))) (cond (decide (x.1=2)) (some (!decide (x.2.1.2.1=2))) (some false))))):Ht Bool).bind fun j6=>cond j6 (some false) (((cond (decide (x.1=3)) ((u8h x.2.2.1).bind fun y7=>cond (!y7) (some true) (cond (!decide (x.1=3)) (cond (!z7o x.2.2.1 (⟨#[]⟩:Hs)) (some true) (some x.2.2.2.1)) (some false))) (cond (!decide (x.1=3)) (cond (!z7o x.2.2.1 (⟨#[]⟩:Hs)) (some true) (some x.2.2.2.1)) (some false))):Ht Bool).bind fun j8=>cond j8 (some false) (cond (decide (x.1=4)) ((u6w x.2.2.2.2).bind fun y9=>some y9) ((s0l x.2.2.2.2).bind fun y10=>some y10))))
theorem q9c:t7f=r5f:=zC 39 rfl Tryz.func39 (by kernel_rfl)
def t9h(x:Int):Ht Hs:=zK 224 x
def r85 (x:Int):Ht Hs:=some (y7g ([IntKind.u8.wrap (Int.fdiv x (2^(min (24:Int).toNat IntKind.u32.bits))),IntKind.u8.wrap (Int.fdiv x (2^(min (16:Int).toNat IntKind.u32.bits))),IntKind.u8.wrap (Int.fdiv x (2^(min (8:Int).toNat IntKind.u32.bits))),IntKind.u8.wrap x]:Hu Int))
theorem r9i:t9h=r85:=zC 224 rfl Tryz.func224 (by kernel_rfl)
def s59(x:o5a):Ht Int:=zK 318 x
def r0t(g:j1k→Ht (o7j⊕Unit))(x:j1k):Ht (o7j⊕Unit):=cond (decide (x.2.2.2<8)) (cond (decide ((Int.tmod x.1 (2:Int))=1)) (g (IntKind.u32.wrap ((BitVec.ofInt IntKind.u32.bits (IntKind.u32.wrap (Int.tdiv x.1 (2:Int)))^^^BitVec.ofInt IntKind.u32.bits (3558460437:Int)).toNat:Int),x.2.1,x.2.2.1,IntKind.i64.wrap (x.2.2.2+1))) (g (IntKind.u32.wrap (Int.tdiv x.1 (2:Int)),x.2.1,x.2.2.1,IntKind.i64.wrap (x.2.2.2+1)))) (some (.inl (x.1,x.2.1,x.2.2.1)))
def t5d:=lpW _ _ r0t
theorem q7k x:t5d x=r0t t5d x:=zW r2j 318 Tryz.f318 6 33 x (by kernel_rfl)
def t4u(g:o7j→Ht o1k)(x:o7j):Ht o1k:=cond (decide (x.2.2<(x.2.1.size:Int))) (cond (y4q x.2.2 x.2.1.size) ((t5d (IntKind.u32.wrap ((BitVec.ofInt IntKind.u32.bits x.1^^^BitVec.ofInt IntKind.u32.bits (IntKind.u32.wrap ((x.2.1.data.toList.getD x.2.2.toNat 0).toNat:Int))).toNat:Int),x.2.1,x.2.2,0)).bind fun r1=>match r1 with | .inl o2=>g (o2.1,o2.2.1,IntKind.i64.wrap (o2.2.2+1)) | .inr z3=>some (.inr ())) none) (some (.inl x.1))
def t5c:=lpW _ _ t4u
theorem r3f x:t5c x=t4u t5c x:=zW r2i 318 Tryz.f318 2 33 x (by kernel_rfl)
def r8z (x:o5a):Ht Int:=(t5c (x.1,x.2,0)).bind fun r4=>match r4 with | .inl o5=>some o5 | .inr z6=>none
theorem p16:s59=r8z:=zC 318 rfl Tryz.func318 (by kernel_rfl)
def s49(x:Hs):Ht Int:=zK 225 x
def r5h (x:Hs):Ht Int:=(s59 (4294967295,x)).bind fun y1=>some y1
theorem q53:s49=r5h:=zC 225 rfl Tryz.func225 (by kernel_rfl)
def t7g(x:Hs):Ht s6h:=zK 109 x
def q15 (x:Hs):Ht s6h:=cond (decide ((x.size:Int)>(20000:Int))) (some ((⟨#[]⟩:Hs),false)) ((s49 x).bind fun y1=>(t9h y1).bind fun y2=>cond (decide (x.size+y2.size≤140737488355328)) (some (x++y2,true)) none)
theorem p5p:t7g=q15:=zC 109 rfl Tryz.func109 (by kernel_rfl)
def u2u(x:Hs):Ht Hs:=zK 221 x
def r5l (x:Hs):Ht Hs:=(u1r (x.size:Int)).bind fun y1=>cond (decide (y1.size+x.size≤140737488355328)) (some (y1++x)) none
theorem q9h:u2u=r5l:=zC 221 rfl Tryz.func221 (by kernel_rfl)
def t24(x:Bool):Ht Hs:=zK 222 x
def q2b (x:Bool):Ht Hs:=cond x (some (⟨#[1]⟩:Hs)) (some (⟨#[0]⟩:Hs))
theorem p5v:t24=q2b:=zC 222 rfl Tryz.func222 (by kernel_rfl)
def t0c(x:u9x):Ht s6h:=zK 223 x
def t4y(g:j0t→Ht (o5j⊕Unit))(x:j0t):Ht (o5j⊕Unit):=cond (decide (x.2.2<(x.1.2.2.2.2.1.length:Int))) (cond (y4q x.2.2 x.1.2.2.2.2.1.length) ((u2u (rdL t7u x.1.2.2.2.2.1 x.2.2.toNat).1).bind fun y7=>cond (decide (x.2.1.size+y7.size≤140737488355328)) (cond (y4q x.2.2 x.1.2.2.2.2.1.length) ((u2u (rdL t7u x.1.2.2.2.2.1 x.2.2.toNat).2).bind fun y8=>cond (decide ((x.2.1++y7).size+y8.size≤140737488355328)) (g (x.1,(x.2.1++y7)++y8,IntKind.i64.wrap (x.2.2+1))) none) none) none) none) (some (.inl (x.1,x.2.1)))
def u9t:=lpW _ _ t4y
theorem r3j x:u9t x=t4y u9t x:=zW r2n 223 Tryz.f223 5 101 x (by kernel_rfl)
def t2a(g:j0t→Ht (o5j⊕Unit))(x:j0t):Ht (o5j⊕Unit):=cond (decide (x.2.2<(x.1.2.2.2.2.2.1.length:Int))) (cond (y4q x.2.2 x.1.2.2.2.2.2.1.length) ((u2u (rdL u12 x.1.2.2.2.2.2.1 x.2.2.toNat).1).bind fun y12=>cond (decide (x.2.1.size+y12.size≤140737488355328)) (cond (y4q x.2.2 x.1.2.2.2.2.2.1.length) ((u2u (rdL u12 x.1.2.2.2.2.2.1 x.2.2.toNat).2.1).bind fun y13=>cond (decide ((x.2.1++y12).size+y13.size≤140737488355328)) (cond (y4q x.2.2 x.1.2.2.2.2.2.1.length) ((t24 (rdL u12 x.1.2.2.2.2.2.1 x.2.2.toNat).2.2).bind fun y14=>cond (decide (((x.2.1++y12)++y13).size+y14.size≤140737488355328)) (g (x.1,((x.2.1++y12)++y13)++y14,IntKind.i64.wrap (x.2.2+1))) none) none) none) none) none) none) (some (.inl (x.1,x.2.1)))
def u7u:=lpW _ _ t2a
theorem s9c x:u7u x=t2a u7u x:=zW s8b 223 Tryz.f223 10 101 x (by kernel_rfl)
def r83 (x:u9x):Ht s6h:=(u8i x).bind fun y1=>cond (!y1) (some ((⟨#[]⟩:Hs),false)) ((u1r x.1).bind fun y2=>(u1r x.2.1).bind fun y3=>cond (decide (y2.size+y3.size≤140737488355328)) ((u1r x.2.2.1).bind fun y4=>cond (decide ((y2++y3).size+y4.size≤140737488355328)) ((u1r x.2.2.2.1).bind fun y5=>cond (decide (((y2++y3)++y4).size+y5.size≤140737488355328)) ((u1r (x.2.2.2.2.1.length:Int)).bind fun y6=>cond (decide ((((y2++y3)++y4)++y5).size+y6.size≤140737488355328)) ((u9t (x,(((y2++y3)++y4)++y5)++y6,0)).bind fun r9=>match r9 with | .inl o10=>((u1r (o10.1.2.2.2.2.2.1.length:Int)).bind fun y11=>cond (decide (o10.2.size+y11.size≤140737488355328)) ((u7u (o10.1,o10.2++y11,0)).bind fun r15=>match r15 with | .inl o16=>((t24 o16.1.2.2.2.2.2.2.1).bind fun y17=>cond (decide (o16.2.size+y17.size≤140737488355328)) ((u2u o16.1.2.2.2.2.2.2.2).bind fun y18=>cond (decide ((o16.2++y17).size+y18.size≤140737488355328)) (some ((o16.2++y17)++y18,true)) none) none) | .inr z19=>none) none) | .inr z20=>none) none) none) none) none)
theorem p2a:t0c=r83:=zC 223 rfl Tryz.func223 (by kernel_rfl)
def t9j(x:r0o):Ht Hs:=zK 233 x
def t42(g:j4l→Ht j1n)(x:j4l):Ht j1n:=cond (decide (x.2.2<(x.1.length:Int))) (cond (y4q x.2.2 x.1.length) ((t0c (rdL u0a x.1 x.2.2.toNat)).bind fun y2=>cond (decide (x.2.1.size+y2.1.size≤140737488355328)) (g (x.1,x.2.1++y2.1,IntKind.i64.wrap (x.2.2+1))) none) none) (some (.inl x.2.1))
def u9v:=lpW _ _ t42
theorem r3n x:u9v x=t42 u9v x:=zW r2r 233 Tryz.f233 3 28 x (by kernel_rfl)
def r9d (x:r0o):Ht Hs:=(u1r (x.length:Int)).bind fun y1=>(u9v (x,y1,0)).bind fun r3=>match r3 with | .inl o4=>some o4 | .inr z5=>none
theorem p2j:t9j=r9d:=zC 233 rfl Tryz.func233 (by kernel_rfl)
def s3f(x:Z99):Ht s6h:=zK 117 x
def t1z(g:Z73→Ht (Z85⊕Unit))(x:Z73):Ht (Z85⊕Unit):=cond (decide (x.2.2<(x.1.1.length:Int))) (cond (y4q x.2.2 x.1.1.length) ((u2u (rdL u0d x.1.1 x.2.2.toNat).1).bind fun y5=>cond (decide (x.2.1.size+y5.size≤140737488355328)) ((u2u (rdL u0d x.1.1 x.2.2.toNat).2.1).bind fun y6=>cond (decide ((x.2.1++y5).size+y6.size≤140737488355328)) ((t24 (rdL u0d x.1.1 x.2.2.toNat).2.2.1).bind fun y7=>cond (decide (((x.2.1++y5)++y6).size+y7.size≤140737488355328)) ((u1r (rdL u0d x.1.1 x.2.2.toNat).2.2.2).bind fun y8=>cond (decide ((((x.2.1++y5)++y6)++y7).size+y8.size≤140737488355328)) (g (x.1,(((x.2.1++y5)++y6)++y7)++y8,IntKind.i64.wrap (x.2.2+1))) none) none) none) none) none) (some (.inl (x.1,x.2.1)))
def u7q:=lpW _ _ t1z
theorem s82 x:u7q x=t1z u7q x:=zW s71 117 Tryz.f117 5 60 x (by kernel_rfl)
def r48 (x:Z99):Ht s6h:=(u6w x).bind fun y1=>cond (!y1) (some ((⟨#[]⟩:Hs),false)) ((u1r x.2.2.2.1).bind fun y2=>(u1r x.2.2.2.2).bind fun y3=>cond (decide (y2.size+y3.size≤140737488355328)) ((u1r (x.1.length:Int)).bind fun y4=>cond (decide ((y2++y3).size+y4.size≤140737488355328)) ((u7q (x,(y2++y3)++y4,0)).bind fun r9=>match r9 with | .inl o10=>((t9j o10.1.2.1).bind fun y11=>cond (decide (o10.2.size+y11.size≤140737488355328)) ((t9j o10.1.2.2.1).bind fun y12=>cond (decide ((o10.2++y11).size+y12.size≤140737488355328)) (some ((o10.2++y11)++y12,true)) none) none) | .inr z13=>none) none) none)
theorem q85:s3f=r48:=zC 117 rfl Tryz.func117 (by kernel_rfl)
def u72(x:Z35):Ht s6h:=zK 107 x
def s67 (x:Z35):Ht s6h:=(t7f x).bind fun y1=>cond (!y1) (some ((⟨#[]⟩:Hs),false)) (cond (decide (x.1=3)) ((u2u x.2.2.1).bind fun y2=>cond (decide ((y7g ([(IntKind.u8.wrap x.1)]:Hu Int)).size+y2.size≤140737488355328)) ((t24 x.2.2.2.1).bind fun y3=>cond (decide (((y7g ([(IntKind.u8.wrap x.1)]:Hu Int))++y2).size+y3.size≤140737488355328)) ((t7g (((y7g ([(IntKind.u8.wrap x.1)]:Hu Int))++y2)++y3)).bind fun y4=>some y4) none) none) (cond (decide (x.1=4)) ((s3f x.2.2.2.2).bind fun y5=>cond (decide ((y7g ([(IntKind.u8.wrap x.1)]:Hu Int)).size+y5.1.size≤140737488355328)) ((t7g ((y7g ([(IntKind.u8.wrap x.1)]:Hu Int))++y5.1)).bind fun y6=>some y6) none) ((t0c x.2.1).bind fun y7=>cond (decide ((y7g ([(IntKind.u8.wrap x.1)]:Hu Int)).size+y7.1.size≤140737488355328)) ((t7g ((y7g ([(IntKind.u8.wrap x.1)]:Hu Int))++y7.1)).bind fun y8=>some y8) none)))
theorem q4h:u72=s67:=zC 107 rfl Tryz.func107 (by kernel_rfl)
def s3l(x:Hs):Ht s6h:=zK 108 x
def r5i (x:Hs):Ht s6h:=((cond (decide ((IntKind.i64.wrap ((x.size:Int) - (4:Int)))<0)) (some true) (cond (decide ((IntKind.i64.wrap ((x.size:Int) - (4:Int)))>20000)) (some true) (cond (decide (0≤(IntKind.i64.wrap ((x.size:Int) - (4:Int))))&&decide ((IntKind.i64.wrap ((x.size:Int) - (4:Int)))≤(x.size:Int))&&decide ((x.size:Int)≤(x.size:Int))) (cond (decide (0≤(0:Int))&&decide ((0:Int)≤(IntKind.i64.wrap ((x.size:Int) - (4:Int))))&&decide ((IntKind.i64.wrap ((x.size:Int) - (4:Int)))≤(x.size:Int))) ((s49 (x.extract (0:Int).toNat (IntKind.i64.wrap ((x.size:Int) - (4:Int))).toNat)).bind fun y1=>(t9h y1).bind fun y2=>some (!z7o (x.extract (IntKind.i64.wrap ((x.size:Int) - (4:Int))).toNat (x.size:Int).toNat) y2)) none) none))):Ht Bool).bind fun j3=>cond j3 (some ((⟨#[]⟩:Hs),false)) (cond (decide (0≤(0:Int))&&decide ((0:Int)≤(IntKind.i64.wrap ((x.size:Int) - (4:Int))))&&decide ((IntKind.i64.wrap ((x.size:Int) - (4:Int)))≤(x.size:Int))) (some (x.extract (0:Int).toNat (IntKind.i64.wrap ((x.size:Int) - (4:Int))).toNat,true)) none)
theorem q9e:s3l=r5i:=zC 108 rfl Tryz.func108 (by kernel_rfl)
def t8d(x:Hs):Ht Z34:=zK 33 x
def s65 (x:Hs):Ht Z34:=(s3l x).bind fun y1=>((cond (!y1.2) (some true) (some (z7o y1.1 (⟨#[]⟩:Hs)))):Ht Bool).bind fun j2=>cond j2 (some ((0,(0,0,0,0,([]:Hu t7u.den),([]:Hu u12.den),false,(⟨#[]⟩:Hs)),(⟨#[]⟩:Hs),false,([]:Hu u0d.den),([]:Hu u0a.den),([]:Hu u0a.den),0,0),false)) (cond (y4q (0:Int) y1.1.size) (cond (decide ((IntKind.i64.wrap ((y1.1.data.toList.getD (0:Int).toNat 0).toNat:Int))=3)) ((u1n (y1.1,1,false)).bind fun y3=>(u5z y3.2).bind fun y4=>(u72 (IntKind.i64.wrap ((y1.1.data.toList.getD (0:Int).toNat 0).toNat:Int),(0,0,0,0,([]:Hu t7u.den),([]:Hu u12.den),false,(⟨#[]⟩:Hs)),y3.1,y4.1,([]:Hu u0d.den),([]:Hu u0a.den),([]:Hu u0a.den),0,0)).bind fun y5=>((cond (!y5.2) (some true) (some (!z7o y5.1 x))):Ht Bool).bind fun j6=>cond j6 (some ((0,(0,0,0,0,([]:Hu t7u.den),([]:Hu u12.den),false,(⟨#[]⟩:Hs)),(⟨#[]⟩:Hs),false,([]:Hu u0d.den),([]:Hu u0a.den),([]:Hu u0a.den),0,0),false)) (some ((IntKind.i64.wrap ((y1.1.data.toList.getD (0:Int).toNat 0).toNat:Int),(0,0,0,0,([]:Hu t7u.den),([]:Hu u12.den),false,(⟨#[]⟩:Hs)),y3.1,y4.1,([]:Hu u0d.den),([]:Hu u0a.den),([]:Hu u0a.den),0,0),true))) (cond (decide ((IntKind.i64.wrap ((y1.1.data.toList.getD (0:Int).toNat 0).toNat:Int))=4)) ((s3j (y1.1,1)).bind fun y7=>(u72 (IntKind.i64.wrap ((y1.1.data.toList.getD (0:Int).toNat 0).toNat:Int),(0,0,0,0,([]:Hu t7u.den),([]:Hu u12.den),false,(⟨#[]⟩:Hs)),(⟨#[]⟩:Hs),false,y7.1)).bind fun y8=>((cond (!y8.2) (some true) (some (!z7o y8.1 x))):Ht Bool).bind fun j9=>cond j9 (some ((0,(0,0,0,0,([]:Hu t7u.den),([]:Hu u12.den),false,(⟨#[]⟩:Hs)),(⟨#[]⟩:Hs),false,([]:Hu u0d.den),([]:Hu u0a.den),([]:Hu u0a.den),0,0),false)) (some ((IntKind.i64.wrap ((y1.1.data.toList.getD (0:Int).toNat 0).toNat:Int),(0,0,0,0,([]:Hu t7u.den),([]:Hu u12.den),false,(⟨#[]⟩:Hs)),(⟨#[]⟩:Hs),false,y7.1),true))) ((t9f (y1.1,1)).bind fun y10=>(u72 (IntKind.i64.wrap ((y1.1.data.toList.getD (0:Int).toNat 0).toNat:Int),y10.1,(⟨#[]⟩:Hs),false,([]:Hu u0d.den),([]:Hu u0a.den),([]:Hu u0a.den),0,0)).bind fun y11=>((cond (!y11.2) (some true) (some (!z7o y11.1 x))):Ht Bool).bind fun j12=>cond j12 (some ((0,(0,0,0,0,([]:Hu t7u.den),([]:Hu u12.den),false,(⟨#[]⟩:Hs)),(⟨#[]⟩:Hs),false,([]:Hu u0d.den),([]:Hu u0a.den),([]:Hu u0a.den),0,0),false)) (some ((IntKind.i64.wrap ((y1.1.data.toList.getD (0:Int).toNat 0).toNat:Int),y10.1,(⟨#[]⟩:Hs),false,([]:Hu u0d.den),([]:Hu u0a.den),([]:Hu u0a.den),0,0),true))))) none)
theorem q4f:t8d=s65:=zC 33 rfl Tryz.func33 (by kernel_rfl)
def t23(x:q75):Ht s6h:=zK 355 x
def u8q(g:j4r→Ht (j40⊕s6h))(x:j4r):Ht (j40⊕s6h):=cond (decide (x.2.2≥0)) (cond (y4q x.2.2 x.2.1.2.length) (cond (decide ((rdL q7m x.2.1.2 x.2.2.toNat).1=x.1)) (cond (y4q x.2.2 x.2.1.2.length) (some (.inr ((rdL q7m x.2.1.2 x.2.2.toNat).2,true))) none) (g (x.1,x.2.1,IntKind.i64.wrap (x.2.2 - 1)))) none) (some (.inl (x.1,x.2.1)))
def u8y:=lpW _ _ u8q
theorem s3w x:u8y x=u8q u8y x:=zW s2n 355 Tryz.f355 4 41 x (by kernel_rfl)
def s66 (x:q75):Ht s6h:=(u03 (x.2,0,IntKind.i64.wrap ((x.1.1.length:Int) - (1:Int)))).bind fun y1=>cond (!y1) (some ((⟨#[]⟩:Hs),false)) ((u8y (x.2,x.1,IntKind.i64.wrap ((x.1.2.length:Int) - (1:Int)))).bind fun r2=>match r2 with | .inl o3=>cond (y4q o3.1 o3.2.1.length) (some (rdL Ty.str o3.2.1 o3.1.toNat,true)) none | .inr z4=>some z4)
theorem q4g:t23=s66:=zC 355 rfl Tryz.func355 (by kernel_rfl)
def t8e(x:j02):Ht s6h:=zK 263 x
def u8r(g:j35→Ht (Hs⊕s6h))(x:j35):Ht (Hs⊕s6h):=cond (decide (x.2.2.2.2<x.2.1)) (((cond (decide (x.1<0)) (some true) (some (decide (x.1>(x.2.2.1.1.length:Int))))):Ht Bool).bind fun j2=>cond j2 (some (.inr ((⟨#[]⟩:Hs),false))) ((t23 (x.2.2.1,IntKind.i64.wrap (x.1+x.2.2.2.2))).bind fun y3=>cond (!y3.2) (some (.inr ((⟨#[]⟩:Hs),false))) (cond (decide (x.2.2.2.1.size+y3.1.size≤140737488355328)) (g (x.1,x.2.1,x.2.2.1,x.2.2.2.1++y3.1,IntKind.i64.wrap (x.2.2.2.2+1))) none))) (some (.inl x.2.2.2.1))
def u8z:=lpW _ _ u8r
theorem s3x x:u8z x=u8r u8z x:=zW s2o 263 Tryz.f263 5 43 x (by kernel_rfl)
def s68 (x:j02):Ht s6h:=(u03 (x.2.2,0,100)).bind fun y1=>cond (!y1) (some ((⟨#[]⟩:Hs),false)) ((u8z (x.2.1,x.2.2,x.1,(⟨#[]⟩:Hs),0)).bind fun r4=>match r4 with | .inl o5=>some (o5,true) | .inr z6=>some z6)
theorem q4i:t8e=s68:=zC 263 rfl Tryz.func263 (by kernel_rfl)
def t5t(x:Int):Ht Int:=zK 264 x
def r1d (x:Int):Ht Int:=(u03 (x,0,1)).bind fun y1=>cond (!y1) (some (0:Int)) (some (IntKind.i64.wrap ((1:Int)+(IntKind.i64.wrap (x*48)))))
theorem q69:t5t=r1d:=zC 264 rfl Tryz.func264 (by kernel_rfl)
def t9i(x:q75):Ht Int:=zK 266 x
def r87 (x:q75):Ht Int:=(t23 x).bind fun y1=>((cond (!y1.2) (some true) (some (z7o y1.1 (⟨#[]⟩:Hs)))):Ht Bool).bind fun j2=>cond j2 (some (0:Int)) (cond (y4q (0:Int) y1.1.size) (some (IntKind.i64.wrap ((y1.1.data.toList.getD (0:Int).toNat 0).toNat:Int))) none)
theorem p2d:t9i=r87:=zC 266 rfl Tryz.func266 (by kernel_rfl)
def s56(x:q75):Ht Int:=zK 265 x
def r8p (x:q75):Ht Int:=(u03 (x.2,0,1)).bind fun y1=>cond (!y1) (some (0:Int)) ((t5t x.2).bind fun y2=>(t9i (x.1,y2)).bind fun y3=>some y3)
theorem p1w:s56=r8p:=zC 265 rfl Tryz.func265 (by kernel_rfl)
def t1j(x:q75):Ht (q0t×o8s):=zK 157 x
def t0r(g:Z97→Ht j1j)(x:Z97):Ht j1j:=(s56 (x.2.1,x.1)).bind fun y4=>cond (decide (x.2.2.2.2.2.2<y4)) ((t5u (x.2.2.2.1,x.2.2.2.2.2.1)).bind fun y5=>((cond (!y5.2.2) (some true) (some (z7o y5.1 (⟨#[]⟩:Hs)))):Ht Bool).bind fun j6=>cond j6 (some (.inr (x.2.2.1,0,false))) (cond (Nat.ble (x.2.2.2.2.1.length+([y5.1]:Hu Hs).length) z7w) (g (x.1,x.2.1,x.2.2.1,x.2.2.2.1,x.2.2.2.2.1++([y5.1]:Hu Hs),y5.2.1,IntKind.i64.wrap (x.2.2.2.2.2.2+1))) none)) (some (.inl (x.2.2.2.2.1,x.2.2.2.2.2.1)))
def t0w:=lpW _ _ t0r
theorem s5p x:t0w x=t0r t0w x:=zW s4u 157 Tryz.f157 10 61 x (by kernel_rfl)
def r5d (x:q75):Ht (q0t×o8s):=(u03 (x.2,0,1)).bind fun y1=>cond (!y1) (some (([]:Hu Hs),0,false)) ((t5t x.2).bind fun y2=>(t8e (x.1,IntKind.i64.wrap (y2+1),47)).bind fun y3=>cond (!y3.2) (some (([]:Hu Hs),0,false)) ((t0w (x.2,x.1,([]:Hu Hs),y3.1,([]:Hu Hs),0,0)).bind fun r7=>match r7 with | .inl o8=>some (o8.1,o8.2,true) | .inr z9=>some z9))
theorem q9a:t1j=r5d:=zC 157 rfl Tryz.func157 (by kernel_rfl)
def s3e(x:s1j):Ht Int:=zK 158 x
def r47 (x:s1j):Ht Int:=(t9i (x,0)).bind fun y1=>some (Int.tmod y1 (2:Int))
theorem q84:s3e=r47:=zC 158 rfl Tryz.func158 (by kernel_rfl)
def s3h(x:s1j):Ht q0t:=zK 53 x
def r5b (x:s1j):Ht q0t:=(s3e x).bind fun y1=>(t1j (x,y1)).bind fun y2=>some y2.1
theorem q88:s3h=r5b:=zC 53 rfl Tryz.func53 (by kernel_rfl)
def r9y(x:Unit):Ht Z99:=zK 152 x
def r8o (x:Unit):Ht Z99:=some (([]:Hu u0d.den),([]:Hu u0a.den),([]:Hu u0a.den),0,1)
theorem p1v:r9y=r8o:=zC 152 rfl Tryz.func152 (by kernel_rfl)
def t3z(x:Z85):Ht Int:=zK 307 x
def u9d(g:Z74→Ht p3z)(x:Z74):Ht p3z:=cond (decide (x.2.2<(x.2.1.2.2.1.length:Int))) (cond (y4q x.2.2 x.2.1.2.2.1.length) (cond (z7o (rdL u0a x.2.1.2.2.1 x.2.2.toNat).2.2.2.2.2.2.2 x.1) (some (.inr x.2.2)) (g (x.1,x.2.1,IntKind.i64.wrap (x.2.2+1)))) none) (some (.inl ()))
def u9q:=lpW _ _ u9d
theorem r3e x:u9q x=u9d u9q x:=zW r2h 307 Tryz.f307 2 22 x (by kernel_rfl)
def r8x (x:Z85):Ht Int:=(u9q (x.2,x.1,0)).bind fun r1=>match r1 with | .inl o2=>some (- 1:Int) | .inr z3=>some z3
theorem p14:t3z=r8x:=zC 307 rfl Tryz.func307 (by kernel_rfl)
def r0h(x:Z49):Ht Bool:=zK 429 x
def q10 (x:Z49):Ht Bool:=cond (decide (x.1.1=x.2.1)) (some false) (((cond (decide (x.1.2.1=3)) (cond (decide (x.1.2.2.2.1≤x.2.2.2.1)) (some true) (cond (decide (x.2.2.1=3)) (some (decide (x.2.2.2.2.1≤x.1.2.2.1))) (some false))) (cond (decide (x.2.2.1=3)) (some (decide (x.2.2.2.2.1≤x.1.2.2.1))) (some false))):Ht Bool).bind fun j1=>cond j1 (some false) (some true))
theorem p5k:r0h=q10:=zC 429 rfl Tryz.func429 (by kernel_rfl)
def s46(x:Z49):Ht Bool:=zK 394 x
def q5q (x:Z49):Ht Bool:=(((r0h x).bind fun y1=>cond y1 ((t30 (x.1.2.2.2.2.1,x.2.2.2.2.2.2.1)).bind fun y2=>some y2) (some false)):Ht Bool).bind fun j3=>some j3
theorem p7o:s46=q5q:=zC 394 rfl Tryz.func394 (by kernel_rfl)
def s48(x:Z78):Ht Bool:=zK 393 x
def t8r(g:Z71→Ht s1h)(x:Z71):Ht s1h:=cond (decide (x.2.2<(x.1.length:Int))) (((cond (y4q x.2.2 x.1.length) (cond (decide ((rdL u0a x.1 x.2.2.toNat).2.1=3)) (cond (y4q x.2.2 x.1.length) ((s46 (x.2.1,rdL u0a x.1 x.2.2.toNat)).bind fun y1=>some y1) none) (some false)) none):Ht Bool).bind fun j2=>cond j2 (some (.inr true)) (g (x.1,x.2.1,IntKind.i64.wrap (x.2.2+1)))) (some (.inl ()))
def t8z:=lpW _ _ t8r
theorem r97 x:t8z x=t8r t8z x:=zW r9s 393 Tryz.f393 2 26 x (by kernel_rfl)
def q5u (x:Z78):Ht Bool:=(t8z (x.2,x.1,0)).bind fun r3=>match r3 with | .inl o4=>some false | .inr z5=>some z5
theorem p7s:s48=q5u:=zC 393 rfl Tryz.func393 (by kernel_rfl)
def t0b(x:Z41):Ht Z99:=zK 333 x
def t17(g:Z3→Ht (Z18⊕Unit))(x:Z3):Ht (Z18⊕Unit):=cond (decide (x.2.2.2.2.2<(x.1.2.2.1.length:Int))) (cond (y4q x.2.2.2.2.2 x.1.2.2.1.length) ((u3m (rdL u0a x.1.2.2.1 x.2.2.2.2.2.toNat)).bind fun y4=>cond (decide (y4.1=x.2.1.1)) (g (x.1,x.2.1,x.2.2.1,x.2.2.2.1,x.2.2.2.2.1,IntKind.i64.wrap (x.2.2.2.2.2+1))) ((s46 (y4,x.2.2.2.2.1)).bind fun y5=>cond y5 (cond (Nat.ble (x.2.2.2.1.2.2.1.length+([(y4.1,y4.2.1,y4.2.2.1,y4.2.2.2.1,y4.2.2.2.2.1,y4.2.2.2.2.2.1,true,y4.2.2.2.2.2.2.2)]:Hu u0a.den).length) z7w) (g (x.1,x.2.1,x.2.2.1,(x.2.2.2.1.1,x.2.2.2.1.2.1,x.2.2.2.1.2.2.1++([(y4.1,y4.2.1,y4.2.2.1,y4.2.2.2.1,y4.2.2.2.2.1,y4.2.2.2.2.2.1,true,y4.2.2.2.2.2.2.2)]:Hu u0a.den),x.2.2.2.1.2.2.2),x.2.2.2.2.1,IntKind.i64.wrap (x.2.2.2.2.2+1))) none) (cond (Nat.ble (x.2.2.2.1.2.2.1.length+([y4]:Hu u0a.den).length) z7w) (g (x.1,x.2.1,x.2.2.1,(x.2.2.2.1.1,x.2.2.2.1.2.1,x.2.2.2.1.2.2.1++([y4]:Hu u0a.den),x.2.2.2.1.2.2.2),x.2.2.2.2.1,IntKind.i64.wrap (x.2.2.2.2.2+1))) none))) none) (some (.inl (x.2.1,x.2.2.1,x.2.2.2.1)))
def u5y:=lpW _ _ t17
theorem s89 x:u5y x=t17 u5y x:=zW s78 333 Tryz.f333 12 85 x (by kernel_rfl)
def r80 (x:Z41):Ht Z99:=(u2v x.1).bind fun y1=>(u3m x.2).bind fun y2=>cond x.2.2.2.2.2.2.2.1 ((u6x (x.1.1,y2.2.2.2.2.2.1,IntKind.i64.wrap (x.1.2.2.2.1+1))).bind fun y3=>cond (Nat.ble (y1.2.1.length+([(y2.1,3,y2.2.2.1,IntKind.i64.wrap (x.1.2.2.2.1+1),y2.2.2.2.2.1,y2.2.2.2.2.2.1,true,(⟨#[]⟩:Hs))]:Hu u0a.den).length) z7w) ((u5y (x.1,x.2,(([]:Hu u0d.den),([]:Hu u0a.den),([]:Hu u0a.den),0,0),(y3,y1.2.1++([(y2.1,3,y2.2.2.1,IntKind.i64.wrap (x.1.2.2.2.1+1),y2.2.2.2.2.1,y2.2.2.2.2.2.1,true,(⟨#[]⟩:Hs))]:Hu u0a.den),([]:Hu u0a.den),IntKind.i64.wrap (x.1.2.2.2.1+1),y1.2.2.2.2),(y2.1,3,y2.2.2.1,IntKind.i64.wrap (x.1.2.2.2.1+1),y2.2.2.2.2.1,y2.2.2.2.2.2.1,true,(⟨#[]⟩:Hs)),0)).bind fun r6=>match r6 with | .inl o7=>cond (decide (o7.1.1≥o7.2.2.2.2.2.2)) (some (o7.2.2.1,o7.2.2.2.1,o7.2.2.2.2.1,o7.2.2.2.2.2.1,IntKind.i64.wrap (o7.1.1+1))) (some o7.2.2) | .inr z8=>none) none) ((s48 (x.2,x.1.2.1)).bind fun y9=>(u6x (x.1.1,y2.2.2.2.2.2.1,IntKind.i64.wrap (x.1.2.2.2.1+1))).bind fun y10=>cond (Nat.ble (y1.2.1.length+([(y2.1,3,y2.2.2.1,IntKind.i64.wrap (x.1.2.2.2.1+1),y2.2.2.2.2.1,y2.2.2.2.2.2.1,y9,(⟨#[]⟩:Hs))]:Hu u0a.den).length) z7w) ((u5y (x.1,x.2,(([]:Hu u0d.den),([]:Hu u0a.den),([]:Hu u0a.den),0,0),(y10,y1.2.1++([(y2.1,3,y2.2.2.1,IntKind.i64.wrap (x.1.2.2.2.1+1),y2.2.2.2.2.1,y2.2.2.2.2.2.1,y9,(⟨#[]⟩:Hs))]:Hu u0a.den),([]:Hu u0a.den),IntKind.i64.wrap (x.1.2.2.2.1+1),y1.2.2.2.2),(y2.1,3,y2.2.2.1,IntKind.i64.wrap (x.1.2.2.2.1+1),y2.2.2.2.2.1,y2.2.2.2.2.2.1,y9,(⟨#[]⟩:Hs)),0)).bind fun r13=>match r13 with | .inl o14=>cond (decide (o14.1.1≥o14.2.2.2.2.2.2)) (some (o14.2.2.1,o14.2.2.2.1,o14.2.2.2.2.1,o14.2.2.2.2.2.1,IntKind.i64.wrap (o14.1.1+1))) (some o14.2.2) | .inr z15=>none) none)
theorem p17:t0b=r80:=zC 333 rfl Tryz.func333 (by kernel_rfl)
def t9d(x:Z85):Ht Z99:=zK 334 x
def t4o(g:Z12→Ht (Z38⊕Unit))(x:Z12):Ht (Z38⊕Unit):=cond (decide (x.2.2.2.2<(x.2.1.2.2.1.length:Int))) (cond (y4q x.2.2.2.2 x.2.1.2.2.1.length) (cond (!z7o (rdL u0a x.2.1.2.2.1 x.2.2.2.2.toNat).2.2.2.2.2.2.2 x.1) (cond (y4q x.2.2.2.2 x.2.1.2.2.1.length) ((u3m (rdL u0a x.2.1.2.2.1 x.2.2.2.2.toNat)).bind fun y2=>cond (Nat.ble (x.2.2.2.1.2.2.1.length+([y2]:Hu u0a.den).length) z7w) (g (x.1,x.2.1,x.2.2.1,(x.2.2.2.1.1,x.2.2.2.1.2.1,x.2.2.2.1.2.2.1++([y2]:Hu u0a.den),x.2.2.2.1.2.2.2),IntKind.i64.wrap (x.2.2.2.2+1))) none) none) (g (x.1,x.2.1,x.2.2.1,x.2.2.2.1,IntKind.i64.wrap (x.2.2.2.2+1)))) none) (some (.inl (x.2.2.1,x.2.2.2.1)))
def u9n:=lpW _ _ t4o
theorem r28 x:u9n x=t4o u9n x:=zW r2b 334 Tryz.f334 4 38 x (by kernel_rfl)
def r8q (x:Z85):Ht Z99:=(u2v x.1).bind fun y1=>(u9n (x.2,x.1,(([]:Hu u0d.den),([]:Hu u0a.den),([]:Hu u0a.den),0,0),(y1.1,y1.2.1,([]:Hu u0a.den),y1.2.2.2),0)).bind fun r3=>match r3 with | .inl o4=>some o4.2 | .inr z5=>none
theorem p1x:t9d=r8q:=zC 334 rfl Tryz.func334 (by kernel_rfl)
def s0i(x:Z39):Ht Z99:=zK 346 x
def t0p(g:Z1→Ht (Z2⊕Unit))(x:Z1):Ht (Z2⊕Unit):=cond (decide (x.2.2.2.2.2.2<(x.2.1.2.2.1.length:Int))) (cond (y4q x.2.2.2.2.2.2 x.2.1.2.2.1.length) (cond (y3c (rdL u0a x.2.1.2.2.1 x.2.2.2.2.2.2.toNat).2.2.2.2.2.2.2 x.1) (cond (y4q x.2.2.2.2.2.2 x.2.1.2.2.1.length) ((u3m (rdL u0a x.2.1.2.2.1 x.2.2.2.2.2.2.toNat)).bind fun y3=>cond (Nat.ble (x.2.2.2.2.1.2.2.1.length+([y3]:Hu u0a.den).length) z7w) (g (x.1,x.2.1,x.2.2.1,x.2.2.2.1,(x.2.2.2.2.1.1,x.2.2.2.2.1.2.1,x.2.2.2.2.1.2.2.1++([y3]:Hu u0a.den),x.2.2.2.2.1.2.2.2),x.2.2.2.2.2.1,IntKind.i64.wrap (x.2.2.2.2.2.2+1))) none) none) (g (x.1,x.2.1,x.2.2.1,x.2.2.2.1,x.2.2.2.2.1,x.2.2.2.2.2.1,IntKind.i64.wrap (x.2.2.2.2.2.2+1)))) none) (some (.inl (x.1,x.2.1,x.2.2.1,x.2.2.2.1,x.2.2.2.2.1,x.2.2.2.2.2.1)))
def u45:=lpW _ _ t0p
theorem s5n x:u45 x=t0p u45 x:=zW s4s 346 Tryz.f346 8 97 x (by kernel_rfl)
def u8p(g:Z7→Ht (Z18⊕Unit))(x:Z7):Ht (Z18⊕Unit):=cond (decide (x.2.2.2.2.2<(x.2.1.2.2.1.length:Int))) (cond (y4q x.2.2.2.2.2 x.2.1.2.2.1.length) (cond (!y3c (rdL u0a x.2.1.2.2.1 x.2.2.2.2.2.toNat).2.2.2.2.2.2.2 x.1) (cond (y4q x.2.2.2.2.2 x.2.1.2.2.1.length) ((u3m (rdL u0a x.2.1.2.2.1 x.2.2.2.2.2.toNat)).bind fun y6=>cond (Nat.ble (x.2.2.2.2.1.2.2.1.length+([y6]:Hu u0a.den).length) z7w) (g (x.1,x.2.1,x.2.2.1,x.2.2.2.1,(x.2.2.2.2.1.1,x.2.2.2.2.1.2.1,x.2.2.2.2.1.2.2.1++([y6]:Hu u0a.den),x.2.2.2.2.1.2.2.2),IntKind.i64.wrap (x.2.2.2.2.2+1))) none) none) (g (x.1,x.2.1,x.2.2.1,x.2.2.2.1,x.2.2.2.2.1,IntKind.i64.wrap (x.2.2.2.2.2+1)))) none) (some (.inl (x.2.2.1,x.2.2.2.1,x.2.2.2.2.1)))
def u4j:=lpW _ _ u8p
theorem s3v x:u4j x=u8p u4j x:=zW s2m 346 Tryz.f346 14 97 x (by kernel_rfl)
def r1f (x:Z39):Ht Z99:=(u2v x.1).bind fun y1=>(u3m x.2.1).bind fun y2=>cond x.2.1.2.2.2.2.2.2.1 ((u45 (x.2.2,x.1,x.2.1,(([]:Hu u0d.den),([]:Hu u0a.den),([]:Hu u0a.den),0,0),(y1.1,y1.2.1,([]:Hu u0a.den),y1.2.2.2),(y2.1,2,y2.2.2.1,y2.2.2.2.1,y2.2.2.2.2.1,y2.2.2.2.2.2.1,true,x.2.2),0)).bind fun r4=>match r4 with | .inl o5=>cond (Nat.ble (o5.2.2.2.2.1.2.2.1.length+([o5.2.2.2.2.2]:Hu u0a.den).length) z7w) ((u4j (o5.1,o5.2.1,o5.2.2.1,o5.2.2.2.1,(o5.2.2.2.2.1.1,o5.2.2.2.2.1.2.1,o5.2.2.2.2.1.2.2.1++([o5.2.2.2.2.2]:Hu u0a.den),o5.2.2.2.2.1.2.2.2),0)).bind fun r7=>match r7 with | .inl o8=>cond (decide (o8.1.1≥o8.2.2.2.2.2.2)) (some (o8.2.2.1,o8.2.2.2.1,o8.2.2.2.2.1,o8.2.2.2.2.2.1,IntKind.i64.wrap (o8.1.1+1))) (some o8.2.2) | .inr z9=>none) none | .inr z10=>none) ((s48 (x.2.1,x.1.2.1)).bind fun y11=>(u45 (x.2.2,x.1,x.2.1,(([]:Hu u0d.den),([]:Hu u0a.den),([]:Hu u0a.den),0,0),(y1.1,y1.2.1,([]:Hu u0a.den),y1.2.2.2),(y2.1,2,y2.2.2.1,y2.2.2.2.1,y2.2.2.2.2.1,y2.2.2.2.2.2.1,y11,x.2.2),0)).bind fun r13=>match r13 with | .inl o14=>cond (Nat.ble (o14.2.2.2.2.1.2.2.1.length+([o14.2.2.2.2.2]:Hu u0a.den).length) z7w) ((u4j (o14.1,o14.2.1,o14.2.2.1,o14.2.2.2.1,(o14.2.2.2.2.1.1,o14.2.2.2.2.1.2.1,o14.2.2.2.2.1.2.2.1++([o14.2.2.2.2.2]:Hu u0a.den),o14.2.2.2.2.1.2.2.2),0)).bind fun r16=>match r16 with | .inl o17=>cond (decide (o17.1.1≥o17.2.2.2.2.2.2)) (some (o17.2.2.1,o17.2.2.2.1,o17.2.2.2.2.1,o17.2.2.2.2.2.1,IntKind.i64.wrap (o17.1.1+1))) (some o17.2.2) | .inr z18=>none) none | .inr z19=>none)
theorem q7b:s0i=r1f:=zC 346 rfl Tryz.func346 (by kernel_rfl)
def s6e(x:Z16):Ht Z89:=zK 258 x
def r9c (x:Z16):Ht Z89:=cond (decide (x.2.1=1)) (cond (!decide (x.2.2.1.2.2.2.1=(IntKind.i64.wrap (x.1.2.2.2.1+1)))) (some (x.1,false)) ((t0b (x.1,x.2.2.1)).bind fun y1=>some (y1,true))) (cond (decide (x.2.1=2)) (((cond (decide ((x.1.2.2.1.length:Int)≥(3:Int))) (some true) ((t3z (x.1,x.2.2.1.2.2.2.2.2.2.2)).bind fun y2=>some (decide (y2≥0)))):Ht Bool).bind fun j3=>cond j3 (some (x.1,false)) ((s0i (x.1,x.2.2.1,x.2.2.1.2.2.2.2.2.2.2)).bind fun y4=>some (y4,true))) (cond (decide (x.2.1=3)) ((t3z (x.1,x.2.2.2.1)).bind fun y5=>cond (decide (y5<0)) (some (x.1,false)) (cond x.2.2.2.2.1 (cond (y4q y5 x.1.2.2.1.length) ((t0b (x.1,rdL u0a x.1.2.2.1 y5.toNat)).bind fun y6=>some (y6,true)) none) ((t9d (x.1,x.2.2.2.1)).bind fun y7=>some (y7,true)))) ((u2v x.2.2.2.2.2).bind fun y8=>some (y8,true))))
theorem p2i:s6e=r9c:=zC 258 rfl Tryz.func258 (by kernel_rfl)
def r0j(x:Z16):Ht Z89:=zK 153 x
def q13 (x:Z16):Ht Z89:=(((u6w x.1).bind fun y1=>cond (!y1) (some true) ((t7f x.2).bind fun y2=>some (!y2))):Ht Bool).bind fun j3=>cond j3 ((u2v x.1).bind fun y4=>some (y4,false)) ((s6e x).bind fun y5=>cond (!y5.2) ((u2v x.1).bind fun y6=>some (y6,false)) ((u88 (y5.1,([]:Hu u0a.den))).bind fun y7=>(u6w y7).bind fun y8=>cond (!y8) ((u2v x.1).bind fun y9=>some (y9,false)) (some (y7,true))))
theorem p5n:r0j=q13:=zC 153 rfl Tryz.func153 (by kernel_rfl)
def t3y(x:s1j):Ht Z89:=zK 50 x
def t4p(g:Z32→Ht (Z38⊕Z89))(x:Z32):Ht (Z38⊕Z89):=cond (decide (x.2.2.2<(x.2.2.1.length:Int))) (cond (y4q x.2.2.2 x.2.2.1.length) ((t8d (rdL Ty.str x.2.2.1 x.2.2.2.toNat)).bind fun y3=>(r0j (x.2.1,y3.1)).bind fun y4=>((cond (!y3.2) (some true) (some (!y4.2))):Ht Bool).bind fun j5=>cond j5 (some (.inr ((([]:Hu u0d.den),([]:Hu u0a.den),([]:Hu u0a.den),0,0),false))) (g (x.1,y4.1,x.2.2.1,IntKind.i64.wrap (x.2.2.2+1)))) none) (some (.inl (x.1,x.2.1)))
def u5c:=lpW _ _ t4p
theorem r29 x:u5c x=t4p u5c x:=zW r2c 50 Tryz.f50 4 43 x (by kernel_rfl)
def r8s (x:s1j):Ht Z89:=(r9y ()).bind fun y1=>(s3h x).bind fun y2=>(u5c ((([]:Hu u0d.den),([]:Hu u0a.den),([]:Hu u0a.den),0,0),y1,y2,0)).bind fun r6=>match r6 with | .inl o7=>some (o7.2,true) | .inr z8=>some z8
theorem p1z:t3y=r8s:=zC 50 rfl Tryz.func50 (by kernel_rfl)
def s6c(x:s1j):Ht s1j:=zK 261 x
def r86 (x:s1j):Ht s1j:=cond (Nat.ble (([]:Hu Hs).length+x.1.length) z7w) (cond (Nat.ble (([]:Hu q7m.den).length+x.2.length) z7w) (some (([]:Hu Hs)++x.1,([]:Hu q7m.den)++x.2)) none) none
theorem p2c:s6c=r86:=zC 261 rfl Tryz.func261 (by kernel_rfl)
def t8h(x:Unit):Ht Int:=zK 357 x
def q3t (x:Unit):Ht Int:=some (97:Int)
theorem q4l:t8h=q3t:=zC 357 rfl Tryz.func357 (by kernel_rfl)
def r0i(x:s1j):Ht Bool:=zK 375 x
def t6l(g:q75→Ht o9b)(x:q75):Ht o9b:=cond (decide (x.2<(x.1.1.length:Int))) (cond (y4q x.2 x.1.1.length) (cond (!decide (((rdL Ty.str x.1.1 x.2.toNat).size:Int)=(64:Int))) (some (.inr false)) (g (x.1,IntKind.i64.wrap (x.2+1)))) none) (some (.inl x.1))
def t6x:=lpW _ _ t6l
theorem r66 x:t6x x=t6l t6x x:=zW r58 375 Tryz.f375 4 59 x (by kernel_rfl)
def t6m(g:q75→Ht s1h)(x:q75):Ht s1h:=cond (decide (x.2<(x.1.2.length:Int))) (((cond (y4q x.2 x.1.2.length) ((u03 ((rdL q7m x.1.2 x.2.toNat).1,0,IntKind.i64.wrap ((x.1.1.length:Int) - (1:Int)))).bind fun y5=>cond (!y5) (some true) (cond (y4q x.2 x.1.2.length) (some (!decide (((rdL q7m x.1.2 x.2.toNat).2.size:Int)=(64:Int)))) none)) none):Ht Bool).bind fun j6=>cond j6 (some (.inr false)) (g (x.1,IntKind.i64.wrap (x.2+1)))) (some (.inl ()))
def t6y:=lpW _ _ t6m
theorem r67 x:t6y x=t6m t6y x:=zW r59 375 Tryz.f375 9 59 x (by kernel_rfl)
def q11 (x:s1j):Ht Bool:=(((u03 ((x.1.length:Int),1,100)).bind fun y1=>cond (!y1) (some true) (some (decide ((x.2.length:Int)>(60:Int))))):Ht Bool).bind fun j2=>cond j2 (some false) ((t6x (x,0)).bind fun r3=>match r3 with | .inl o4=>((t6y (o4,0)).bind fun r7=>match r7 with | .inl o8=>some true | .inr z9=>some z9) | .inr z10=>some z10)
theorem p5l:r0i=q11:=zC 375 rfl Tryz.func375 (by kernel_rfl)
def s47(x:s1j):Ht Bool:=zK 303 x
def q5s (x:s1j):Ht Bool:=(((r0i x).bind fun y1=>cond (!y1) (some true) ((t8h ()).bind fun y2=>cond (!decide ((x.1.length:Int)=y2)) (some true) (some (decide ((x.2.length:Int)>(0:Int)))))):Ht Bool).bind fun j3=>cond j3 (some false) ((t1j (x,0)).bind fun y4=>(t1j (x,1)).bind fun y5=>((cond y4.2.2 (some y5.2.2) (some false)):Ht Bool).bind fun j6=>some j6)
theorem p7q:s47=q5s:=zC 303 rfl Tryz.func303 (by kernel_rfl)
def s0k(x:s1j):Ht Z45:=zK 191 x
def r1i (x:s1j):Ht Z45:=(t3y x).bind fun y1=>(((s47 x).bind fun y2=>cond (!y2) (some true) (some (!y1.2))):Ht Bool).bind fun j3=>cond j3 (some ((((([]:Hu u0d.den),([]:Hu u0a.den),([]:Hu u0a.den),0,0),([]:Hu u0a.den)),([]:Hu Hs),([]:Hu q7m.den)),false)) ((s6c x).bind fun y4=>some (((y1.1,([]:Hu u0a.den)),y4),true))
theorem q7e:s0k=r1i:=zC 191 rfl Tryz.func191 (by kernel_rfl)
def s3g(x:Z61):Ht Bool:=zK 73 x
def t0n(g:Z30→Ht (Z33⊕Bool))(x:Z30):Ht (Z33⊕Bool):=cond (decide (x.2.2.2<(x.1.1.2.1.length:Int))) (cond (y4q x.2.2.2 x.1.1.2.1.length) (cond (decide ((rdL u0a x.1.1.2.1 x.2.2.2.toNat).1=x.2.2.1.1)) (some (.inr false)) (g (x.1,x.2.1,x.2.2.1,IntKind.i64.wrap (x.2.2.2+1)))) none) (some (.inl (x.1,x.2.1,x.2.2.1)))
def u6q:=lpW _ _ t0n
theorem s5l x:u6q x=t0n u6q x:=zW s4q 73 Tryz.f73 10 105 x (by kernel_rfl)
def t0o(g:Z30→Ht (Z57⊕Bool))(x:Z30):Ht (Z57⊕Bool):=cond (decide (x.2.2.2<(x.1.1.2.2.1.length:Int))) (cond (y4q x.2.2.2 x.1.1.2.2.1.length) (cond (decide ((rdL u0a x.1.1.2.2.1 x.2.2.2.toNat).1=x.2.2.1.1)) (some (.inr false)) (g (x.1,x.2.1,x.2.2.1,IntKind.i64.wrap (x.2.2.2+1)))) none) (some (.inl (x.1,x.2.1)))
def u44:=lpW _ _ t0o
theorem s5m x:u44 x=t0o u44 x:=zW s4r 73 Tryz.f73 15 105 x (by kernel_rfl)
def t11(g:Z57→Ht s1h)(x:Z57):Ht s1h:=cond (decide (x.2<(x.1.2.length:Int))) (cond (y4q x.2 x.1.2.length) ((((u8i (rdL u0a x.1.2 x.2.toNat)).bind fun y3=>cond (!y3) (some true) (cond (!decide ((rdL u0a x.1.2 x.2.toNat).2.1=1)) (some true) (cond (decide ((rdL u0a x.1.2 x.2.toNat).1≥x.1.1.2.2.2.2)) (some true) (cond (decide ((rdL u0a x.1.2 x.2.toNat).2.2.1>x.1.1.2.2.2.1)) (some true) (cond (decide (x.2>0)) (cond (y4q (IntKind.i64.wrap (x.2 - 1)) x.1.2.length) (some (decide ((rdL u0a x.1.2 (IntKind.i64.wrap (x.2 - 1)).toNat).1≥(rdL u0a x.1.2 x.2.toNat).1))) none) (some false)))))):Ht Bool).bind fun j4=>cond j4 (some (.inr false)) ((u6q (x.1,x.2,rdL u0a x.1.2 x.2.toNat,0)).bind fun r5=>match r5 with | .inl o6=>((u44 (o6.1,o6.2.1,o6.2.2,0)).bind fun r7=>match r7 with | .inl o8=>g (o8.1,IntKind.i64.wrap (o8.2+1)) | .inr z9=>some (.inr z9)) | .inr z10=>some (.inr z10))) none) (some (.inl ()))
def u5w:=lpW _ _ t11
theorem s83 x:u5w x=t11 u5w x:=zW s72 73 Tryz.f73 4 105 x (by kernel_rfl)
def r49 (x:Z61):Ht Bool:=(((u6w x.1).bind fun y1=>cond (!y1) (some true) (some (decide ((x.2.length:Int)>(4:Int))))):Ht Bool).bind fun j2=>cond j2 (some false) ((u5w (x,0)).bind fun r11=>match r11 with | .inl o12=>some true | .inr z13=>some z13)
theorem q86:s3g=r49:=zC 73 rfl Tryz.func73 (by kernel_rfl)
def t7k(x:o9o):Ht Bool:=zK 328 x
def t2e(g:o6x→Ht s1h)(x:o6x):Ht s1h:=cond (decide (x.2.2<(x.1.length:Int))) (cond (y4q x.2.2 x.1.length) ((t0c (rdL u0a x.1 x.2.2.toNat)).bind fun y1=>cond (y4q x.2.2 x.2.1.length) ((t0c (rdL u0a x.2.1 x.2.2.toNat)).bind fun y2=>((cond (!(y1.2==y2.2)) (some true) (some (!z7o y1.1 y2.1))):Ht Bool).bind fun j3=>cond j3 (some (.inr false)) (g (x.1,x.2.1,IntKind.i64.wrap (x.2.2+1)))) none) none) (some (.inl ()))
def t2u:=lpW _ _ t2e
theorem s9g x:t2u x=t2e t2u x:=zW s8f 328 Tryz.f328 4 45 x (by kernel_rfl)
def r5n (x:o9o):Ht Bool:=cond (!decide ((x.1.length:Int)=(x.2.length:Int))) (some false) ((t2u (x.1,x.2,0)).bind fun r4=>match r4 with | .inl o5=>some true | .inr z6=>some z6)
theorem q9j:t7k=r5n:=zC 328 rfl Tryz.func328 (by kernel_rfl)
def s1u(x:Unit):Ht p80:=zK 248 x
def s9n (x:Unit):Ht p80:=some ((⟨#[97]⟩:Hs),(⟨#[122,122,122]⟩:Hs))
theorem q2t:s1u=s9n:=zC 248 rfl Tryz.func248 (by kernel_rfl)
def s3k(x:o5k):Ht Bool:=zK 329 x
def t16(g:j3r→Ht s1h)(x:j3r):Ht s1h:=cond (decide (x.2.2.2.2<(IntKind.i64.wrap ((x.1.length:Int)+(x.2.1.length:Int))))) (cond (decide (x.2.2.2.2<(x.1.length:Int))) (cond (y4q x.2.2.2.2 x.1.length) (((cond (decide ((rdL u0d x.1 x.2.2.2.2.toNat).2.2.2>x.2.2.1)) ((u2x (x.1,x.2.2.2.1,(rdL u0d x.1 x.2.2.2.2.toNat).2.2.2)).bind fun y5=>(u2x (x.2.1,x.2.2.2.1,(rdL u0d x.1 x.2.2.2.2.toNat).2.2.2)).bind fun y6=>(u4y (y5,y6)).bind fun y7=>some (!y7)) (some false)):Ht Bool).bind fun j8=>cond j8 (some (.inr false)) (g (x.1,x.2.1,x.2.2.1,x.2.2.2.1,IntKind.i64.wrap (x.2.2.2.2+1)))) none) (cond (y4q (IntKind.i64.wrap (x.2.2.2.2 - (x.1.length:Int))) x.2.1.length) (((cond (decide ((rdL u0d x.2.1 (IntKind.i64.wrap (x.2.2.2.2 - (x.1.length:Int))).toNat).2.2.2>x.2.2.1)) ((u2x (x.1,x.2.2.2.1,(rdL u0d x.2.1 (IntKind.i64.wrap (x.2.2.2.2 - (x.1.length:Int))).toNat).2.2.2)).bind fun y9=>(u2x (x.2.1,x.2.2.2.1,(rdL u0d x.2.1 (IntKind.i64.wrap (x.2.2.2.2 - (x.1.length:Int))).toNat).2.2.2)).bind fun y10=>(u4y (y9,y10)).bind fun y11=>some (!y11)) (some false)):Ht Bool).bind fun j12=>cond j12 (some (.inr false)) (g (x.1,x.2.1,x.2.2.1,x.2.2.2.1,IntKind.i64.wrap (x.2.2.2.2+1)))) none)) (some (.inl ()))
def t2q:=lpW _ _ t16
theorem s88 x:t2q x=t16 t2q x:=zW s77 329 Tryz.f329 5 62 x (by kernel_rfl)
def r5g (x:o5k):Ht Bool:=(s1u ()).bind fun y1=>(u2x (x.1,y1,x.2.2)).bind fun y2=>(u2x (x.2.1,y1,x.2.2)).bind fun y3=>(u4y (y2,y3)).bind fun y4=>cond (!y4) (some false) ((t2q (x.1,x.2.1,x.2.2,y1,0)).bind fun r13=>match r13 with | .inl o14=>some true | .inr z15=>some z15)
theorem q9d:s3k=r5g:=zC 329 rfl Tryz.func329 (by kernel_rfl)
def t7e(x:Z38):Ht Bool:=zK 244 x
def r5a (x:Z38):Ht Bool:=((cond (decide (x.1.2.2.2.1=x.2.2.2.2.1)) ((t7k (x.1.2.1,x.2.2.1)).bind fun y1=>cond y1 ((t7k (x.1.2.2.1,x.2.2.2.1)).bind fun y2=>cond y2 ((s3k (x.1.1,x.2.1,x.1.2.2.2.1)).bind fun y3=>some y3) (some false)) (some false)) (some false)):Ht Bool).bind fun j4=>some j4
theorem q87:t7e=r5a:=zC 244 rfl Tryz.func244 (by kernel_rfl)
def s58(x:Z48):Ht Bool:=zK 243 x
def r8y (x:Z48):Ht Bool:=(((s3g x.1).bind fun y1=>cond (!y1) (some true) ((s47 x.2).bind fun y2=>some (!y2))):Ht Bool).bind fun j3=>cond j3 (some false) ((t3y x.2).bind fun y4=>cond y4.2 ((u88 (x.1.1,([]:Hu u0a.den))).bind fun y5=>(t7e (y4.1,y5)).bind fun y6=>some y6) (some false))
theorem p15:s58=r8y:=zC 243 rfl Tryz.func243 (by kernel_rfl)
def s0h(x:Z29):Ht Bool:=zK 139 x
def r1e (x:Z29):Ht Bool:=(s58 x.1).bind fun y1=>cond (!y1) (some false) ((s0k x.1.2).bind fun y2=>cond y2.2 ((u88 (x.1.1.1,([]:Hu u0a.den))).bind fun y3=>(t7e (y2.1.1.1,y3)).bind fun y4=>some y4) (some false))
theorem q7a:s0h=r1e:=zC 139 rfl Tryz.func139 (by kernel_rfl)
def s0j(x:Z29):Ht Bool:=zK 140 x
def t0q(g:Z23→Ht (Z24⊕Bool))(x:Z23):Ht (Z24⊕Bool):=cond (decide (x.2.2<(x.1.2.1.length:Int))) (((cond (y4q x.2.2 x.1.2.1.length) (cond (!decide ((rdL u0a x.1.2.1 x.2.2.toNat).2.1=3)) (some true) (cond (decide (x.2.2>0)) (cond (y4q (IntKind.i64.wrap (x.2.2 - 1)) x.1.2.1.length) (cond (y4q x.2.2 x.1.2.1.length) (some (decide ((rdL u0a x.1.2.1 (IntKind.i64.wrap (x.2.2 - 1)).toNat).2.2.2.1≥(rdL u0a x.1.2.1 x.2.2.toNat).2.2.2.1))) none) none) (some false))) none):Ht Bool).bind fun j1=>cond j1 (some (.inr false)) (cond (y4q x.2.2 x.1.2.1.length) ((t9e (x.2.1,rdL u0a x.1.2.1 x.2.2.toNat)).bind fun y2=>g (x.1,y2,IntKind.i64.wrap (x.2.2+1))) none)) (some (.inl (x.1,x.2.1)))
def u3q:=lpW _ _ t0q
theorem s5o x:u3q x=t0q u3q x:=zW s4t 140 Tryz.f140 3 62 x (by kernel_rfl)
def r1g (x:Z29):Ht Bool:=(u3q (x,([]:Hu t7u.den),0)).bind fun r3=>match r3 with | .inl o4=>((s1u ()).bind fun y5=>(s1t (o4.2,y5)).bind fun y6=>(s1u ()).bind fun y7=>(u2x (o4.1.1.1.1.1,y7,o4.1.1.1.1.2.2.2.1)).bind fun y8=>(u4y (y6,y8)).bind fun y9=>some y9) | .inr z10=>some z10
theorem q7c:s0j=r1g:=zC 140 rfl Tryz.func140 (by kernel_rfl)
def s6f(x:Z61):Ht Z61:=zK 72 x
def r9e (x:Z61):Ht Z61:=(u2v x.1).bind fun y1=>(t32 x.2).bind fun y2=>some (y1,y2)
theorem p2k:s6f=r9e:=zC 72 rfl Tryz.func72 (by kernel_rfl)
def s6g(x:Z99):Ht Bool:=zK 332 x
def r9f (x:Z99):Ht Bool:=((cond (decide ((x.2.1.length:Int)≥(12:Int))) (some true) (cond (decide ((x.1.length:Int)>(100:Int))) (some true) (some (decide (x.2.2.2.1≥9999))))):Ht Bool).bind fun j1=>some j1
theorem p2l:s6g=r9f:=zC 332 rfl Tryz.func332 (by kernel_rfl)
def s1s(x:Z51):Ht Z10:=zK 250 x
def q12 (x:Z51):Ht Z10:=(s6f x.1).bind fun y1=>(t3z (x.1.1,x.2.1)).bind fun y2=>cond (decide (y2<0)) (some (y1,(0,(0,0,0,0,([]:Hu t7u.den),([]:Hu u12.den),false,(⟨#[]⟩:Hs)),(⟨#[]⟩:Hs),false,([]:Hu u0d.den),([]:Hu u0a.den),([]:Hu u0a.den),0,0),1)) (((cond x.2.2 ((s6g x.1.1).bind fun y3=>some y3) (some false)):Ht Bool).bind fun j4=>cond j4 (some (y1,(0,(0,0,0,0,([]:Hu t7u.den),([]:Hu u12.den),false,(⟨#[]⟩:Hs)),(⟨#[]⟩:Hs),false,([]:Hu u0d.den),([]:Hu u0a.den),([]:Hu u0a.den),0,0),3)) (cond x.2.2 (cond (y4q y2 x.1.1.2.2.1.length) ((t0b (x.1.1,rdL u0a x.1.1.2.2.1 y2.toNat)).bind fun y5=>(u88 (y5,y1.2)).bind fun y6=>some ((y6,y1.2),(3,(0,0,0,0,([]:Hu t7u.den),([]:Hu u12.den),false,(⟨#[]⟩:Hs)),x.2.1,x.2.2,([]:Hu u0d.den),([]:Hu u0a.den),([]:Hu u0a.den),0,0),0)) none) ((t9d (x.1.1,x.2.1)).bind fun y7=>(u88 (y7,y1.2)).bind fun y8=>some ((y8,y1.2),(3,(0,0,0,0,([]:Hu t7u.den),([]:Hu u12.den),false,(⟨#[]⟩:Hs)),x.2.1,x.2.2,([]:Hu u0d.den),([]:Hu u0a.den),([]:Hu u0a.den),0,0),0))))
theorem p5m:s1s=q12:=zC 250 rfl Tryz.func250 (by kernel_rfl)
def t8c(x:Z29):Ht Bool:=zK 141 x
def u8o(g:Z27→Ht s1h)(x:Z27):Ht s1h:=cond (decide (x.2<(x.1.1.1.1.2.2.1.length:Int))) (cond (y4q x.2 x.1.1.1.1.2.2.1.length) ((s1s (x.1.1.1,(rdL u0a x.1.1.1.1.2.2.1 x.2.toNat).2.2.2.2.2.2.2,true)).bind fun y1=>((cond (!decide (y1.2.2=0)) (some (!decide (y1.2.2=3))) (some false)):Ht Bool).bind fun j2=>cond j2 (some (.inr false)) (g (x.1,IntKind.i64.wrap (x.2+1)))) none) (some (.inl ()))
def u53:=lpW _ _ u8o
theorem s3u x:u53 x=u8o u53 x:=zW s2l 141 Tryz.f141 2 40 x (by kernel_rfl)
def s64 (x:Z29):Ht Bool:=(u53 (x,0)).bind fun r3=>match r3 with | .inl o4=>some true | .inr z5=>some z5
theorem q4e:t8c=s64:=zC 141 rfl Tryz.func141 (by kernel_rfl)
def t8f(x:Z29):Ht Bool:=zK 45 x
def s69 (x:Z29):Ht Bool:=(((r0l x).bind fun y1=>cond y1 ((s0h x).bind fun y2=>cond y2 ((s0j x).bind fun y3=>cond y3 ((t8c x).bind fun y4=>some y4) (some false)) (some false)) (some false)):Ht Bool).bind fun j5=>some j5
theorem q4j:t8f=s69:=zC 45 rfl Tryz.func45 (by kernel_rfl)
def t9b(x:p80):Ht p80:=zK 397 x
def p0u (x:p80):Ht p80:=some x
theorem p1r:t9b=p0u:=zC 397 rfl Tryz.func397 (by kernel_rfl)
def s3c(x:p0m):Ht p0m:=zK 337 x
def s6n(g:o86→Ht o1i)(x:o86):Ht o1i:=cond (decide (x.2.2<(x.1.length:Int))) (cond (y4q x.2.2 x.1.length) ((t9b (rdL t7u x.1 x.2.2.toNat)).bind fun y1=>cond (y4q x.2.2 x.2.1.length) (g (x.1,x.2.1.set x.2.2.toNat y1,IntKind.i64.wrap (x.2.2+1))) none) none) (some (.inl x.2.1))
def u7o:=lpW _ _ s6n
theorem q4w x:u7o x=s6n u7o x:=zW s7z 337 Tryz.f337 3 23 x (by kernel_rfl)
def r45 (x:p0m):Ht p0m:=cond (decide (0≤(x.length:Int))&&decide ((x.length:Int)≤1099511627776)) ((u7o (x,List.replicate (x.length:Int).toNat t7u.zero,0)).bind fun r2=>match r2 with | .inl o3=>some o3 | .inr z4=>none) none
theorem q82:s3c=r45:=zC 337 rfl Tryz.func337 (by kernel_rfl)
def t9c(x:o7b):Ht o7b:=zK 398 x
def p0v (x:o7b):Ht o7b:=some x
theorem p1u:t9c=p0v:=zC 398 rfl Tryz.func398 (by kernel_rfl)
def s3d(x:p3y):Ht p3y:=zK 338 x
def s6o(g:o6z→Ht (p3y⊕Unit))(x:o6z):Ht (p3y⊕Unit):=cond (decide (x.2.2<(x.1.length:Int))) (cond (y4q x.2.2 x.1.length) ((t9c (rdL u12 x.1 x.2.2.toNat)).bind fun y1=>cond (y4q x.2.2 x.2.1.length) (g (x.1,x.2.1.set x.2.2.toNat y1,IntKind.i64.wrap (x.2.2+1))) none) none) (some (.inl x.2.1))
def u7p:=lpW _ _ s6o
theorem q4x x:u7p x=s6o u7p x:=zW s70 338 Tryz.f338 3 23 x (by kernel_rfl)
def r46 (x:p3y):Ht p3y:=cond (decide (0≤(x.length:Int))&&decide ((x.length:Int)≤1099511627776)) ((u7p (x,List.replicate (x.length:Int).toNat u12.zero,0)).bind fun r2=>match r2 with | .inl o3=>some o3 | .inr z4=>none) none
theorem q83:s3d=r46:=zC 338 rfl Tryz.func338 (by kernel_rfl)
def s45(x:u9x):Ht u9x:=zK 253 x
def q5p (x:u9x):Ht u9x:=(s3c x.2.2.2.2.1).bind fun y1=>(s3d x.2.2.2.2.2.1).bind fun y2=>some (x.1,x.2.1,x.2.2.1,x.2.2.2.1,y1,y2,x.2.2.2.2.2.2)
theorem p7n:s45=q5p:=zC 253 rfl Tryz.func253 (by kernel_rfl)
def t22(x:r0o):Ht r0o:=zK 143 x
def r39(g:o6x→Ht o7c)(x:o6x):Ht o7c:=cond (decide (x.2.2<(x.1.length:Int))) (cond (y4q x.2.2 x.1.length) ((s45 (rdL u0a x.1 x.2.2.toNat)).bind fun y1=>cond (y4q x.2.2 x.2.1.length) (g (x.1,x.2.1.set x.2.2.toNat y1,IntKind.i64.wrap (x.2.2+1))) none) none) (some (.inl x.2.1))
def t1c:=lpW _ _ r39
theorem p0k x:t1c x=r39 t1c x:=zW r56 143 Tryz.f143 3 23 x (by kernel_rfl)
def q1x (x:r0o):Ht r0o:=cond (decide (0≤(x.length:Int))&&decide ((x.length:Int)≤1099511627776)) ((t1c (x,List.replicate (x.length:Int).toNat u0a.zero,0)).bind fun r2=>match r2 with | .inl o3=>some o3 | .inr z4=>none) none
theorem p5h:t22=q1x:=zC 143 rfl Tryz.func143 (by kernel_rfl)
def t5s(x:o47):Ht o47:=zK 430 x
def q6m (x:o47):Ht o47:=some x
theorem q68:t5s=q6m:=zC 430 rfl Tryz.func430 (by kernel_rfl)
def t8b(x:s9h):Ht s9h:=zK 395 x
def s15(g:o5k→Ht o1j)(x:o5k):Ht o1j:=cond (decide (x.2.2<(x.1.length:Int))) (cond (y4q x.2.2 x.1.length) ((t5s (rdL u0d x.1 x.2.2.toNat)).bind fun y1=>cond (y4q x.2.2 x.2.1.length) (g (x.1,x.2.1.set x.2.2.toNat y1,IntKind.i64.wrap (x.2.2+1))) none) none) (some (.inl x.2.1))
def u52:=lpW _ _ s15
theorem q0s x:u52 x=s15 u52 x:=zW s2k 395 Tryz.f395 3 23 x (by kernel_rfl)
def s63 (x:s9h):Ht s9h:=cond (decide (0≤(x.length:Int))&&decide ((x.length:Int)≤1099511627776)) ((u52 (x,List.replicate (x.length:Int).toNat u0d.zero,0)).bind fun r2=>match r2 with | .inl o3=>some o3 | .inr z4=>none) none
theorem q4d:t8b=s63:=zC 395 rfl Tryz.func395 (by kernel_rfl)
def r0d(x:Z99):Ht Z99:=zK 335 x
def q1t (x:Z99):Ht Z99:=(t8b x.1).bind fun y1=>(t22 x.2.1).bind fun y2=>(t22 x.2.2.1).bind fun y3=>some (y1,y2,y3,x.2.2.2)
theorem p5d:r0d=q1t:=zC 335 rfl Tryz.func335 (by kernel_rfl)
def s3b(x:Z61):Ht Z61:=zK 251 x
def r44 (x:Z61):Ht Z61:=(r0d x.1).bind fun y1=>(t22 x.2).bind fun y2=>some (y1,y2)
theorem q81:s3b=r44:=zC 251 rfl Tryz.func251 (by kernel_rfl)
def t5r(x:q0t):Ht q0t:=zK 145 x
def s33(g:j05→Ht o9a)(x:j05):Ht o9a:=cond (decide (x.2.2<(x.1.length:Int))) (cond (y4q x.2.2 x.1.length) (cond (y4q x.2.2 x.2.1.length) (g (x.1,x.2.1.set x.2.2.toNat (rdL Ty.str x.1 x.2.2.toNat),IntKind.i64.wrap (x.2.2+1))) none) none) (some (.inl x.2.1))
def u6p:=lpW _ _ s33
theorem q3h x:u6p x=s33 u6p x:=zW s4p 145 Tryz.f145 3 22 x (by kernel_rfl)
def r1c (x:q0t):Ht q0t:=cond (decide (0≤(x.length:Int))&&decide ((x.length:Int)≤1099511627776)) ((u6p (x,List.replicate (x.length:Int).toNat Ty.str.zero,0)).bind fun r1=>match r1 with | .inl o2=>some o2 | .inr z3=>none) none
theorem q67:t5r=r1c:=zC 145 rfl Tryz.func145 (by kernel_rfl)
def s44(x:o5a):Ht o5a:=zK 396 x
def p68 (x:o5a):Ht o5a:=some x
theorem p7m:s44=p68:=zC 396 rfl Tryz.func396 (by kernel_rfl)
def r0g(x:o1h):Ht o1h:=zK 336 x
def r38(g:j08→Ht (o1h⊕Unit))(x:j08):Ht (o1h⊕Unit):=cond (decide (x.2.2<(x.1.length:Int))) (cond (y4q x.2.2 x.1.length) ((s44 (rdL q7m x.1 x.2.2.toNat)).bind fun y1=>cond (y4q x.2.2 x.2.1.length) (g (x.1,x.2.1.set x.2.2.toNat y1,IntKind.i64.wrap (x.2.2+1))) none) none) (some (.inl x.2.1))
def t1b:=lpW _ _ r38
theorem p0j x:t1b x=r38 t1b x:=zW r55 336 Tryz.f336 3 23 x (by kernel_rfl)
def q1w (x:o1h):Ht o1h:=cond (decide (0≤(x.length:Int))&&decide ((x.length:Int)≤1099511627776)) ((t1b (x,List.replicate (x.length:Int).toNat q7m.zero,0)).bind fun r2=>match r2 with | .inl o3=>some o3 | .inr z4=>none) none
theorem p5g:r0g=q1w:=zC 336 rfl Tryz.func336 (by kernel_rfl)
def r0e(x:s1j):Ht s1j:=zK 252 x
def q1u (x:s1j):Ht s1j:=(t5r x.1).bind fun y1=>(r0g x.2).bind fun y2=>some (y1,y2)
theorem p5e:r0e=q1u:=zC 252 rfl Tryz.func252 (by kernel_rfl)
def s55(x:Z48):Ht Z48:=zK 142 x
def r8m (x:Z48):Ht Z48:=(s3b x.1).bind fun y1=>(r0e x.2).bind fun y2=>some (y1,y2)
theorem p1s:s55=r8m:=zC 142 rfl Tryz.func142 (by kernel_rfl)
def r0f(x:r3u):Ht r3u:=zK 144 x
def r37(g:(r3u×o5c)→Ht o7d)(x:(r3u×o5c)):Ht o7d:=cond (decide (x.2.2<(x.1.length:Int))) (cond (y4q x.2.2 x.1.length) (cond (y4q x.2.2 x.2.1.length) (g (x.1,x.2.1.set x.2.2.toNat (rdL (Ty.int .i64) x.1 x.2.2.toNat),IntKind.i64.wrap (x.2.2+1))) none) none) (some (.inl x.2.1))
def t1a:=lpW _ _ r37
theorem p0i x:t1a x=r37 t1a x:=zW r54 144 Tryz.f144 3 22 x (by kernel_rfl)
def q1v (x:r3u):Ht r3u:=cond (decide (0≤(x.length:Int))&&decide ((x.length:Int)≤1099511627776)) ((t1a (x,List.replicate (x.length:Int).toNat (Ty.int .i64).zero,0)).bind fun r1=>match r1 with | .inl o2=>some o2 | .inr z3=>none) none
theorem p5f:r0f=q1v:=zC 144 rfl Tryz.func144 (by kernel_rfl)
def t3w(x:Z29):Ht Z29:=zK 46 x
def r8n (x:Z29):Ht Z29:=(s55 x.1).bind fun y1=>(t22 x.2.1).bind fun y2=>(r0f x.2.2.1).bind fun y3=>(t5r x.2.2.2).bind fun y4=>some (y1,y2,y3,y4)
theorem p1t:t3w=r8n:=zC 46 rfl Tryz.func46 (by kernel_rfl)
def t7x(x:o5c):Ht Int:=zK 194 x
def u42(g:(r3u×o7g)→Ht p3z)(x:(r3u×o7g)):Ht p3z:=cond (decide (x.2.2.2<x.2.2.1)) (cond (y4q x.2.2.2 x.1.length) (cond (decide (x.2.1=(rdL (Ty.int .i64) x.1 x.2.2.2.toNat))) (some (.inr x.2.2.2)) (g (x.1,x.2.1,x.2.2.1,IntKind.i64.wrap (x.2.2.2+1)))) none) (some (.inl ()))
def u1t:=lpW _ _ u42
theorem t6c x:u1t x=u42 u1t x:=zW t58 194 Tryz.f194 2 19 x (by kernel_rfl)
def t7w (x:o5c):Ht Int:=(u1t (x.1,x.2,(x.1.length:Int),0)).bind fun r1=>match r1 with | .inl o2=>some (- 1:Int) | .inr z3=>some z3
theorem r3s:t7x=t7w:=zC 194 rfl Tryz.func194 (by kernel_rfl)
def u10(x:o5c):Ht Bool:=zK 84 x
def t3n (x:o5c):Ht Bool:=(t7x x).bind fun y1=>some (decide (y1≥0))
theorem s5t:u10=t3n:=zC 84 rfl Tryz.func84 (by kernel_rfl)
def u6v(x:u9x):Ht Bool:=zK 91 x
def s9m (x:u9x):Ht Bool:=some (decide (x.2.1=3))
theorem s9t:u6v=s9m:=zC 91 rfl Tryz.func91 (by kernel_rfl)
def t3r(x:j1c):Ht Bool:=zK 201 x
def r7y (x:j1c):Ht Bool:=((cond (!y3c x.2 x.1.1) (some (y3c x.2 x.1.2||z7o x.2 x.1.2)) (some false)):Ht Bool).bind fun j1=>some j1
theorem p02:t3r=r7y:=zC 201 rfl Tryz.func201 (by kernel_rfl)
def u5u(x:j1b):Ht Bool:=zK 195 x
def t4h(g:Z96→Ht (j01⊕Bool))(x:Z96):Ht (j01⊕Bool):=cond (decide (x.2.2.2.2.2.2.2<x.2.2.2.2.2.2.1)) (cond (y4q x.2.2.2.2.2.2.2 x.2.2.2.2.2.1.length) ((t3r (x.2.1,(rdL u12 x.2.2.2.2.2.1 x.2.2.2.2.2.2.2.toNat).1)).bind fun y1=>cond y1 (some (.inr true)) (g (x.1,x.2.1,x.2.2.1,x.2.2.2.1,x.2.2.2.2.1,x.2.2.2.2.2.1,x.2.2.2.2.2.2.1,IntKind.i64.wrap (x.2.2.2.2.2.2.2+1)))) none) (some (.inl (x.1,x.2.2.1,x.2.2.2.1,x.2.2.2.2.1)))
def u9i:=lpW _ _ t4h
theorem r21 x:u9i x=t4h u9i x:=zW r1w 195 Tryz.f195 5 27 x (by kernel_rfl)
def t4g(g:j01→Ht s1h)(x:j01):Ht s1h:=cond (decide (x.2.2.2<x.2.2.1)) (cond (y4q x.2.2.2 x.2.1.length) ((u9i (x.1,rdL t7u x.2.1 x.2.2.2.toNat,x.2.1,x.2.2.1,x.2.2.2,x.1,(x.1.length:Int),0)).bind fun r2=>match r2 with | .inl o3=>g (o3.1,o3.2.1,o3.2.2.1,IntKind.i64.wrap (o3.2.2.2+1)) | .inr z4=>some (.inr z4)) none) (some (.inl ()))
def t48:=lpW _ _ t4g
theorem r20 x:t48 x=t4g t48 x:=zW r1v 195 Tryz.f195 2 27 x (by kernel_rfl)
def r78 (x:j1b):Ht Bool:=(t48 (x.2,x.1,(x.1.length:Int),0)).bind fun r5=>match r5 with | .inl o6=>some false | .inr z7=>some z7
theorem p1c:u5u=r78:=zC 195 rfl Tryz.func195 (by kernel_rfl)
def s4y(x:o87):Ht Bool:=zK 196 x
def t8m(g:Z84→Ht (o6y⊕Bool))(x:Z84):Ht (o6y⊕Bool):=cond (decide (x.2.2.2.2.2.2.2<x.2.2.2.2.2.2.1)) (cond (y4q x.2.2.2.2.2.2.2 x.2.2.2.2.2.1.length) (cond (z7o x.2.1.1 (rdL u12 x.2.2.2.2.2.1 x.2.2.2.2.2.2.2.toNat).1) (some (.inr true)) (g (x.1,x.2.1,x.2.2.1,x.2.2.2.1,x.2.2.2.2.1,x.2.2.2.2.2.1,x.2.2.2.2.2.2.1,IntKind.i64.wrap (x.2.2.2.2.2.2.2+1)))) none) (some (.inl (x.1,x.2.2.1,x.2.2.2.1,x.2.2.2.2.1)))
def t3k:=lpW _ _ t8m
theorem r92 x:t3k x=t8m t3k x:=zW r9n 196 Tryz.f196 5 28 x (by kernel_rfl)
def t8l(g:o6y→Ht s1h)(x:o6y):Ht s1h:=cond (decide (x.2.2.2<x.2.2.1)) (cond (y4q x.2.2.2 x.2.1.length) ((t3k (x.1,rdL u12 x.2.1 x.2.2.2.toNat,x.2.1,x.2.2.1,x.2.2.2,x.1,(x.1.length:Int),0)).bind fun r1=>match r1 with | .inl o2=>g (o2.1,o2.2.1,o2.2.2.1,IntKind.i64.wrap (o2.2.2.2+1)) | .inr z3=>some (.inr z3)) none) (some (.inl ()))
def t8v:=lpW _ _ t8l
theorem r91 x:t8v x=t8l t8v x:=zW r9m 196 Tryz.f196 2 28 x (by kernel_rfl)
def q5h (x:o87):Ht Bool:=(t8v (x.2,x.1,(x.1.length:Int),0)).bind fun r4=>match r4 with | .inl o5=>some false | .inr z6=>some z6
theorem p7e:s4y=q5h:=zC 196 rfl Tryz.func196 (by kernel_rfl)
def s1o(x:Z49):Ht Bool:=zK 85 x
def q03 (x:Z49):Ht Bool:=(((u6v x.1).bind fun y1=>cond (!y1) (some true) ((u6v x.2).bind fun y2=>cond (!y2) (some true) (some (decide (x.1.1=x.2.1))))):Ht Bool).bind fun j3=>cond j3 (some false) (((cond (decide (x.1.2.2.2.1≤x.2.2.2.1)) ((u5u (x.2.2.2.2.2.1,x.1.2.2.2.2.2.1)).bind fun y4=>cond y4 (some true) (cond (decide (x.1.2.2.2.1<x.2.2.2.2.1)) ((s4y (x.1.2.2.2.2.2.1,x.2.2.2.2.2.2.1)).bind fun y5=>cond y5 (some true) (cond (decide (x.2.2.2.2.1>x.1.2.2.1)) ((u5u (x.1.2.2.2.2.1,x.2.2.2.2.2.2.1)).bind fun y6=>some y6) (some false))) (cond (decide (x.2.2.2.2.1>x.1.2.2.1)) ((u5u (x.1.2.2.2.2.1,x.2.2.2.2.2.2.1)).bind fun y7=>some y7) (some false)))) (cond (decide (x.1.2.2.2.1<x.2.2.2.2.1)) ((s4y (x.1.2.2.2.2.2.1,x.2.2.2.2.2.2.1)).bind fun y8=>cond y8 (some true) (cond (decide (x.2.2.2.2.1>x.1.2.2.1)) ((u5u (x.1.2.2.2.2.1,x.2.2.2.2.2.2.1)).bind fun y9=>some y9) (some false))) (cond (decide (x.2.2.2.2.1>x.1.2.2.1)) ((u5u (x.1.2.2.2.2.1,x.2.2.2.2.2.2.1)).bind fun y10=>some y10) (some false)))):Ht Bool).bind fun j11=>some j11)
theorem p4o:s1o=q03:=zC 85 rfl Tryz.func85 (by kernel_rfl)
def t69(x:r0o):Ht o5b:=zK 23 x
def u6i(g:Z25→Ht (Z79⊕Unit))(x:Z25):Ht (Z79⊕Unit):=cond (decide (x.2.2.2.2.2.2.2.2.2.2.2<x.2.2.2.2.2.2.2.2.2.2.1)) (cond (y4q x.2.2.2.2.2.2.2.2.2.2.2 x.2.2.2.2.2.2.2.2.2.1.length) (((cond x.2.2.2.2.2.1 (some true) (cond (!decide (x.2.2.2.2.2.2.2.2.2.2.2=x.2.2.2.1)) ((u10 (x.2.1,x.2.2.2.2.2.2.2.2.2.2.2)).bind fun y2=>cond (!y2) ((s1o (rdL u0a x.2.2.2.2.2.2.2.2.2.1 x.2.2.2.2.2.2.2.2.2.2.2.toNat,x.2.2.2.2.1)).bind fun y3=>some y3) (some false)) (some false))):Ht Bool).bind fun j4=>g (x.1,x.2.1,x.2.2.1,x.2.2.2.1,x.2.2.2.2.1,j4,x.2.2.2.2.2.2.1,x.2.2.2.2.2.2.2.1,x.2.2.2.2.2.2.2.2.1,x.2.2.2.2.2.2.2.2.2.1,x.2.2.2.2.2.2.2.2.2.2.1,IntKind.i64.wrap (x.2.2.2.2.2.2.2.2.2.2.2+1))) none) (some (.inl (x.1,x.2.1,x.2.2.1,x.2.2.2.1,x.2.2.2.2.2.1,x.2.2.2.2.2.2.1,x.2.2.2.2.2.2.2.1,x.2.2.2.2.2.2.2.2.1)))
def u4p:=lpW _ _ u6i
theorem t94 x:u4p x=u6i u4p x:=zW t9t 23 Tryz.f23 10 61 x (by kernel_rfl)
def u65(g:Z98→Ht (j4h⊕Unit))(x:Z98):Ht (j4h⊕Unit):=cond (decide (x.2.2.2.2.2<x.2.2.2.2.1)) (cond (y4q x.2.2.2.2.2 x.2.2.2.1.length) ((u10 (x.2.1,x.2.2.2.2.2)).bind fun y1=>cond y1 (g (x.1,x.2.1,x.2.2.1,x.2.2.2.1,x.2.2.2.2.1,IntKind.i64.wrap (x.2.2.2.2.2+1))) ((u4p (x.1,x.2.1,x.2.2.1,x.2.2.2.2.2,rdL u0a x.2.2.2.1 x.2.2.2.2.2.toNat,false,x.2.2.2.1,x.2.2.2.2.1,x.2.2.2.2.2,x.1,(x.1.length:Int),0)).bind fun r5=>match r5 with | .inl o6=>cond (!o6.2.2.2.2.1) (cond (Nat.ble (o6.2.1.length+([o6.2.2.2.1]:Hu Int).length) z7w) (some (.inl (o6.1,o6.2.1++([o6.2.2.2.1]:Hu Int),true))) none) (g (o6.1,o6.2.1,o6.2.2.1,o6.2.2.2.2.2.1,o6.2.2.2.2.2.2.1,IntKind.i64.wrap (o6.2.2.2.2.2.2.2+1))) | .inr z7=>some (.inr ()))) none) (some (.inl (x.1,x.2.1,x.2.2.1)))
def u5h:=lpW _ _ u65
theorem s08 x:u5h x=u65 u5h x:=zW s0t 23 Tryz.f23 5 61 x (by kernel_rfl)
def u64(g:j4v→Ht (r3u⊕o5b))(x:j4v):Ht (r3u⊕o5b):=cond (decide ((x.2.length:Int)<(x.1.length:Int))) ((u5h (x.1,x.2,false,x.1,(x.1.length:Int),0)).bind fun r8=>match r8 with | .inl o9=>cond (!o9.2.2) (some (.inr (([]:Hu Int),false))) (g (o9.1,o9.2.1)) | .inr z10=>none) (some (.inl x.2))
def u5g:=lpW _ _ u64
theorem s07 x:u5g x=u64 u5g x:=zW s0s 23 Tryz.f23 2 61 x (by kernel_rfl)
def s36 (x:r0o):Ht o5b:=(u5g (x,([]:Hu Int))).bind fun r11=>match r11 with | .inl o12=>some (o12,true) | .inr z13=>some z13
theorem q2k:t69=s36:=zC 23 rfl Tryz.func23 (by kernel_rfl)
def u3b(x:j4t):Ht s9h:=zK 200 x
theorem s1m:∀(x:j4t),u3b x=y2q u0d x:=y6f (P:=Tryz.prog) (A:=A) (f:=200) (F:=y2q u0d) rfl
def t0z(x:Hs):Ht Bool:=zK 380 x
def s34 (x:Hs):Ht Bool:=some (!z7o x x)
theorem q2i:t0z=s34:=zC 380 rfl Tryz.func380 (by kernel_rfl)
def t3h(x:p80):Ht Int:=zK 308 x
def s0m (x:p80):Ht Int:=(t0z x.1).bind fun y1=>(t0z x.2).bind fun y2=>cond y1 (cond y2 (some (0:Int)) (some (- 1:Int))) (cond y2 (some (1:Int)) (cond (y3c x.1 x.2) (some (- 1:Int)) (cond (!(y3c x.1 x.2||z7o x.1 x.2)) (some (1:Int)) (some (0:Int)))))
theorem r7l:t3h=s0m:=zC 308 rfl Tryz.func308 (by kernel_rfl)
def t66(x:Int):Ht Bool:=zK 381 x
def r4f (x:Int):Ht Bool:=some (!decide (x=x))
theorem q8b:t66=r4f:=zC 381 rfl Tryz.func381 (by kernel_rfl)
def t72(x:o1g):Ht Int:=zK 309 x
def s6p (x:o1g):Ht Int:=(t66 x.1).bind fun y1=>(t66 x.2).bind fun y2=>cond y1 (cond y2 (some (0:Int)) (some (- 1:Int))) (cond y2 (some (1:Int)) (cond (decide (x.1<x.2)) (some (- 1:Int)) (cond (decide (x.1>x.2)) (some (1:Int)) (some (0:Int)))))
theorem q3z:t72=s6p:=zC 309 rfl Tryz.func309 (by kernel_rfl)
def u4w(x:o82):Ht Int:=zK 199 x
def t1e (x:o82):Ht Int:=(t3h (x.1.1,x.2.1)).bind fun y1=>cond (!decide (y1=0)) (some y1) ((t72 (x.1.2.2.2,x.2.2.2.2)).bind fun y2=>some y2)
theorem t9p:u4w=t1e:=zC 199 rfl Tryz.func199 (by kernel_rfl)
def t3i(x:o82):Ht Bool:=zK 198 x
def s0n (x:o82):Ht Bool:=(u4w x).bind fun y1=>some (decide (y1>0))
theorem r7m:t3i=s0n:=zC 198 rfl Tryz.func198 (by kernel_rfl)
def u1i(x:j4g):Ht Int:=zK 10005 x
def u0k(g:j3v→Ht p3z)(x:j3v):Ht p3z:=cond (decide (x.2.2.2<x.2.2.1)) (cond (y4q x.2.2.2 x.1.length) ((t3i (rdL u0d x.1 x.2.2.2.toNat,x.2.1)).bind fun y1=>cond y1 (some (.inr x.2.2.2)) (g (x.1,x.2.1,x.2.2.1,IntKind.i64.wrap (x.2.2.2+1)))) none) (some (.inl ()))
def u0l:=lpW _ _ u0k
theorem u15 x:u0l x=u0k u0l x:=zW u13 10005 Tryz.f197 2 19 x (by kernel_rfl)
def u2a (x:j4g):Ht Int:=(u0l (x.1,x.2,(x.1.length:Int),0)).bind fun r2=>match r2 with | .inl o3=>some (- 1:Int) | .inr z4=>some z4
theorem u56:u1i=u2a:=zC 10005 rfl Tryz.func197 (by kernel_rfl)
def u6t(x:j04):Ht s9h:=zK 86 x
def u63(g:j4f→Ht o1j)(x:j4f):Ht o1j:=cond (decide (x.2.2.2.2<x.2.2.2.1)) (cond (y4q x.2.2.2.2 x.2.2.1.length) ((u1i (x.2.1,(rdL u12 x.2.2.1 x.2.2.2.2.toNat).1,(rdL u12 x.2.2.1 x.2.2.2.2.toNat).2.1,(rdL u12 x.2.2.1 x.2.2.2.2.toNat).2.2,x.1)).bind fun y1=>cond (decide (y1<0)) ((u3b (x.2.1,(x.2.1.length:Int),([((rdL u12 x.2.2.1 x.2.2.2.2.toNat).1,(rdL u12 x.2.2.1 x.2.2.2.2.toNat).2.1,(rdL u12 x.2.2.1 x.2.2.2.2.toNat).2.2,x.1)]:Hu u0d.den))).bind fun y2=>g (x.1,y2,x.2.2.1,x.2.2.2.1,IntKind.i64.wrap (x.2.2.2.2+1))) ((u3b (x.2.1,y1,([((rdL u12 x.2.2.1 x.2.2.2.2.toNat).1,(rdL u12 x.2.2.1 x.2.2.2.2.toNat).2.1,(rdL u12 x.2.2.1 x.2.2.2.2.toNat).2.2,x.1)]:Hu u0d.den))).bind fun y3=>g (x.1,y3,x.2.2.1,x.2.2.2.1,IntKind.i64.wrap (x.2.2.2.2+1)))) none) (some (.inl x.2.1))
def u7d:=lpW _ _ u63
theorem s06 x:u7d x=u63 u7d x:=zW s0r 86 Tryz.f86 3 42 x (by kernel_rfl)
def s35 (x:j04):Ht s9h:=cond (Nat.ble x.1.length z7w) ((u7d (x.2.2,x.1,x.2.1,(x.2.1.length:Int),0)).bind fun r4=>match r4 with | .inl o5=>some o5 | .inr z6=>none) none
theorem q2j:u6t=s35:=zC 86 rfl Tryz.func86 (by kernel_rfl)
def u28(x:o9d):Ht Bool:=zK 87 x
def u4d(g:j2n→Ht s1h)(x:j2n):Ht s1h:=cond (decide (x.2.2.2<x.2.2.1)) (cond (y4q x.2.2.2 x.1.length) (cond (y4q x.2.2.2 x.2.1.length) (cond (!(z7o (rdL t7u x.1 x.2.2.2.toNat).1 (rdL t7u x.2.1 x.2.2.2.toNat).1&&(z7o (rdL t7u x.1 x.2.2.2.toNat).2 (rdL t7u x.2.1 x.2.2.2.toNat).2&&true))) (some (.inr false)) (g (x.1,x.2.1,x.2.2.1,IntKind.i64.wrap (x.2.2.2+1)))) none) none) (some (.inl ()))
def u4e:=lpW _ _ u4d
theorem t3c x:u4e x=u4d u4e x:=zW t28 87 Tryz.f87 4 26 x (by kernel_rfl)
def t55 (x:o9d):Ht Bool:=cond (!decide ((x.1.length:Int)=(x.2.length:Int))) (some false) ((u4e (x.1,x.2,(x.1.length:Int),0)).bind fun r1=>match r1 with | .inl o2=>some true | .inr z3=>some z3)
theorem s7i:u28=t55:=zC 87 rfl Tryz.func87 (by kernel_rfl)
def s1p(x:j07):Ht p0m:=zK 88 x
def t6h(g:j3w→Ht o1i)(x:j3w):Ht o1i:=cond (decide (x.2.2.2.2<x.2.2.2.1)) (cond (y4q x.2.2.2.2 x.2.2.1.length) ((t3r (x.1,(rdL t7u x.2.2.1 x.2.2.2.2.toNat).1)).bind fun y1=>cond y1 (cond (Nat.ble (x.2.1.length+([(rdL t7u x.2.2.1 x.2.2.2.2.toNat)]:Hu t7u.den).length) z7w) (g (x.1,x.2.1++([(rdL t7u x.2.2.1 x.2.2.2.2.toNat)]:Hu t7u.den),x.2.2.1,x.2.2.2.1,IntKind.i64.wrap (x.2.2.2.2+1))) none) (g (x.1,x.2.1,x.2.2.1,x.2.2.2.1,IntKind.i64.wrap (x.2.2.2.2+1)))) none) (some (.inl x.2.1))
def t6t:=lpW _ _ t6h
theorem r62 x:t6t x=t6h t6t x:=zW r5w 88 Tryz.f88 3 28 x (by kernel_rfl)
def q1d (x:j07):Ht p0m:=(t6t (x.2,([]:Hu t7u.den),x.1,(x.1.length:Int),0)).bind fun r2=>match r2 with | .inl o3=>some o3 | .inr z4=>none
theorem p4y:s1p=q1d:=zC 88 rfl Tryz.func88 (by kernel_rfl)
def t1i(x:q0t):Ht q0t:=zK 312 x
theorem s2c:∀(x:q0t),t1i x=y7a x:=y6f (P:=Tryz.prog) (A:=A) (f:=312) (F:=y7a) rfl
def u8g(x:q0t):Ht q0t:=zK 313 x
theorem t9q:∀(x:q0t),u8g x=y0m x:=y6f (P:=Tryz.prog) (A:=A) (f:=313) (F:=y0m) rfl
def s94(x:s9h):Ht q0t:=zK 202 x
def t6i(g:j4p→Ht o9a)(x:j4p):Ht o9a:=cond (decide (x.2.2.2<x.2.2.1)) (cond (y4q x.2.2.2 x.2.1.length) (cond (Nat.ble (x.1.length+([(rdL u0d x.2.1 x.2.2.2.toNat).1]:Hu Hs).length) z7w) (g (x.1++([(rdL u0d x.2.1 x.2.2.2.toNat).1]:Hu Hs),x.2.1,x.2.2.1,IntKind.i64.wrap (x.2.2.2+1))) none) none) (some (.inl x.1))
def t6u:=lpW _ _ t6i
theorem r63 x:t6u x=t6i t6u x:=zW r5x 202 Tryz.f202 3 22 x (by kernel_rfl)
def q1g (x:s9h):Ht q0t:=(t6u (([]:Hu Hs),x,(x.length:Int),0)).bind fun r1=>match r1 with | .inl o2=>((t1i o2).bind fun y3=>(u8g y3).bind fun y4=>some y4) | .inr z5=>none
theorem p40:s94=q1g:=zC 202 rfl Tryz.func202 (by kernel_rfl)
def s1q(x:o61):Ht Int:=zK 292 x
def t6j(g:j3q→Ht o1k)(x:j3q):Ht o1k:=cond (decide (x.2.2.2.2.2.2<x.2.2.2.2.2.1)) (cond (y4q x.2.2.2.2.2.2 x.2.2.2.2.1.length) (((cond (z7o (rdL u0d x.2.2.2.2.1 x.2.2.2.2.2.2.toNat).1 x.2.1) (cond (decide ((rdL u0d x.2.2.2.2.1 x.2.2.2.2.2.2.toNat).2.2.2≤x.2.2.1)) (cond (decide (x.2.2.2.1<0)) (some true) (cond (y4q x.2.2.2.1 x.1.length) (some (decide ((rdL u0d x.2.2.2.2.1 x.2.2.2.2.2.2.toNat).2.2.2>(rdL u0d x.1 x.2.2.2.1.toNat).2.2.2))) none)) (some false)) (some false)):Ht Bool).bind fun j1=>cond j1 (g (x.1,x.2.1,x.2.2.1,x.2.2.2.2.2.2,x.2.2.2.2.1,x.2.2.2.2.2.1,IntKind.i64.wrap (x.2.2.2.2.2.2+1))) (g (x.1,x.2.1,x.2.2.1,x.2.2.2.1,x.2.2.2.2.1,x.2.2.2.2.2.1,IntKind.i64.wrap (x.2.2.2.2.2.2+1)))) none) (some (.inl x.2.2.2.1))
def t06:=lpW _ _ t6j
theorem r64 x:t06 x=t6j t06 x:=zW r5y 292 Tryz.f292 3 44 x (by kernel_rfl)
def q1h (x:o61):Ht Int:=(t06 (x.1,x.2.1,x.2.2,(- 1:Int),x.1,(x.1.length:Int),0)).bind fun r2=>match r2 with | .inl o3=>some o3 | .inr z4=>none
theorem p41:s1q=q1h:=zC 292 rfl Tryz.func292 (by kernel_rfl)
def s92(x:o61):Ht s6h:=zK 203 x
def q1a (x:o61):Ht s6h:=(s1q x).bind fun y1=>((cond (decide (y1<0)) (some true) (cond (y4q y1 x.1.length) (some (rdL u0d x.1 y1.toNat).2.2.1) none)):Ht Bool).bind fun j2=>cond j2 (some ((⟨#[]⟩:Hs),false)) (cond (y4q y1 x.1.length) (some ((rdL u0d x.1 y1.toNat).2.1,true)) none)
theorem p4v:s92=q1a:=zC 203 rfl Tryz.func203 (by kernel_rfl)
def t2y(x:j00):Ht p0m:=zK 89 x
def t6g(g:j3a→Ht o1i)(x:j3a):Ht o1i:=cond (decide (x.2.2.2.2.2.2<x.2.2.2.2.2.1)) (cond (y4q x.2.2.2.2.2.2 x.2.2.2.2.1.length) ((s92 (x.1,rdL Ty.str x.2.2.2.2.1 x.2.2.2.2.2.2.toNat,x.2.1)).bind fun y2=>((cond y2.2 ((t3r (x.2.2.1,rdL Ty.str x.2.2.2.2.1 x.2.2.2.2.2.2.toNat)).bind fun y3=>some y3) (some false)):Ht Bool).bind fun j4=>cond j4 (cond (Nat.ble (x.2.2.2.1.length+([(rdL Ty.str x.2.2.2.2.1 x.2.2.2.2.2.2.toNat,y2.1)]:Hu t7u.den).length) z7w) (g (x.1,x.2.1,x.2.2.1,x.2.2.2.1++([(rdL Ty.str x.2.2.2.2.1 x.2.2.2.2.2.2.toNat,y2.1)]:Hu t7u.den),x.2.2.2.2.1,x.2.2.2.2.2.1,IntKind.i64.wrap (x.2.2.2.2.2.2+1))) none) (g (x.1,x.2.1,x.2.2.1,x.2.2.2.1,x.2.2.2.2.1,x.2.2.2.2.2.1,IntKind.i64.wrap (x.2.2.2.2.2.2+1)))) none) (some (.inl x.2.2.2.1))
def t6s:=lpW _ _ t6g
theorem r61 x:t6s x=t6g t6s x:=zW r5v 89 Tryz.f89 3 40 x (by kernel_rfl)
def q08 (x:j00):Ht p0m:=(s94 x.1).bind fun y1=>(t6s (x.1,x.2.2,x.2.1,([]:Hu t7u.den),y1,(y1.length:Int),0)).bind fun r5=>match r5 with | .inl o6=>some o6 | .inr z7=>none
theorem p4t:t2y=q08:=zC 89 rfl Tryz.func89 (by kernel_rfl)
def t84(x:j0u):Ht p0m:=zK 90 x
def t4c(g:Z68→Ht (j3c⊕Unit))(x:Z68):Ht (j3c⊕Unit):=cond (decide (x.2.2.2.2.2.2.2.2<x.2.2.2.2.2.2.2.1)) (cond (y4q x.2.2.2.2.2.2.2.2 x.2.2.2.2.2.2.1.length) (cond (y3c (rdL t7u x.2.2.2.2.2.2.1 x.2.2.2.2.2.2.2.2.toNat).1 x.2.1.1) (cond (Nat.ble (x.2.2.1.length+([(rdL t7u x.2.2.2.2.2.2.1 x.2.2.2.2.2.2.2.2.toNat)]:Hu t7u.den).length) z7w) (g (x.1,x.2.1,x.2.2.1++([(rdL t7u x.2.2.2.2.2.2.1 x.2.2.2.2.2.2.2.2.toNat)]:Hu t7u.den),x.2.2.2.1,x.2.2.2.2.1,x.2.2.2.2.2.1,x.2.2.2.2.2.2.1,x.2.2.2.2.2.2.2.1,IntKind.i64.wrap (x.2.2.2.2.2.2.2.2+1))) none) (g (x.1,x.2.1,x.2.2.1,x.2.2.2.1,x.2.2.2.2.1,x.2.2.2.2.2.1,x.2.2.2.2.2.2.1,x.2.2.2.2.2.2.2.1,IntKind.i64.wrap (x.2.2.2.2.2.2.2.2+1)))) none) (some (.inl (x.1,x.2.1,x.2.2.1,x.2.2.2.1,x.2.2.2.2.1,x.2.2.2.2.2.1)))
def u9h:=lpW _ _ t4c
theorem r2w x:u9h x=t4c u9h x:=zW r1q 90 Tryz.f90 7 68 x (by kernel_rfl)
def t1r(g:Z88→Ht (o7s⊕Unit))(x:Z88):Ht (o7s⊕Unit):=cond (decide (x.2.2.2.2.2.2.2<x.2.2.2.2.2.2.1)) (cond (y4q x.2.2.2.2.2.2.2 x.2.2.2.2.2.1.length) (cond (!(y3c (rdL t7u x.2.2.2.2.2.1 x.2.2.2.2.2.2.2.toNat).1 x.1.1||z7o (rdL t7u x.2.2.2.2.2.1 x.2.2.2.2.2.2.2.toNat).1 x.1.1)) (cond (Nat.ble (x.2.1.length+([(rdL t7u x.2.2.2.2.2.1 x.2.2.2.2.2.2.2.toNat)]:Hu t7u.den).length) z7w) (g (x.1,x.2.1++([(rdL t7u x.2.2.2.2.2.1 x.2.2.2.2.2.2.2.toNat)]:Hu t7u.den),x.2.2.1,x.2.2.2.1,x.2.2.2.2.1,x.2.2.2.2.2.1,x.2.2.2.2.2.2.1,IntKind.i64.wrap (x.2.2.2.2.2.2.2+1))) none) (g (x.1,x.2.1,x.2.2.1,x.2.2.2.1,x.2.2.2.2.1,x.2.2.2.2.2.1,x.2.2.2.2.2.2.1,IntKind.i64.wrap (x.2.2.2.2.2.2.2+1)))) none) (some (.inl (x.2.1,x.2.2.1,x.2.2.2.1,x.2.2.2.2.1)))
def u5v:=lpW _ _ t1r
theorem s8u x:u5v x=t1r u5v x:=zW s7n 90 Tryz.f90 15 68 x (by kernel_rfl)
def t4b(g:o7s→Ht o1i)(x:o7s):Ht o1i:=cond (decide (x.2.2.2<x.2.2.1)) (cond (y4q x.2.2.2 x.2.1.length) ((u9h (x.1,rdL u12 x.2.1 x.2.2.2.toNat,([]:Hu t7u.den),x.2.1,x.2.2.1,x.2.2.2,x.1,(x.1.length:Int),0)).bind fun r1=>match r1 with | .inl o2=>cond (!o2.2.1.2.2) (cond (Nat.ble (o2.2.2.1.length+([(o2.2.1.1,o2.2.1.2.1)]:Hu t7u.den).length) z7w) ((u5v (o2.2.1,o2.2.2.1++([(o2.2.1.1,o2.2.1.2.1)]:Hu t7u.den),o2.2.2.2.1,o2.2.2.2.2.1,o2.2.2.2.2.2,o2.1,(o2.1.length:Int),0)).bind fun r3=>match r3 with | .inl o4=>g (o4.1,o4.2.1,o4.2.2.1,IntKind.i64.wrap (o4.2.2.2+1)) | .inr z5=>some (.inr ())) none) ((u5v (o2.2.1,o2.2.2.1,o2.2.2.2.1,o2.2.2.2.2.1,o2.2.2.2.2.2,o2.1,(o2.1.length:Int),0)).bind fun r6=>match r6 with | .inl o7=>g (o7.1,o7.2.1,o7.2.2.1,IntKind.i64.wrap (o7.2.2.2+1)) | .inr z8=>some (.inr ())) | .inr z9=>some (.inr ())) none) (some (.inl x.1))
def t43:=lpW _ _ t4b
theorem r2v x:t43 x=t4b t43 x:=zW r1p 90 Tryz.f90 3 68 x (by kernel_rfl)
def r71 (x:j0u):Ht p0m:=cond (Nat.ble x.1.length z7w) ((t43 (x.1,x.2.2.2.2.2.2.1,(x.2.2.2.2.2.2.1.length:Int),0)).bind fun r10=>match r10 with | .inl o11=>some o11 | .inr z12=>none) none
theorem p05:t84=r71:=zC 90 rfl Tryz.func90 (by kernel_rfl)
def t7a(x:r0o):Ht Bool:=zK 24 x
def u66(g:Z83→Ht (j34⊕Unit))(x:Z83):Ht (j34⊕Unit):=cond (decide (x.2.2.2.2.2<x.2.2.2.2.1)) (cond (y4q x.2.2.2.2.2 x.2.2.2.1.length) ((u6t (x.2.2.1,(rdL u0a x.2.2.2.1 x.2.2.2.2.2.toNat).2.2.2.2.2.1,(rdL u0a x.2.2.2.1 x.2.2.2.2.2.toNat).2.2.2.1)).bind fun y2=>g (x.1,x.2.1,y2,x.2.2.2.1,x.2.2.2.2.1,IntKind.i64.wrap (x.2.2.2.2.2+1))) none) (some (.inl (x.1,x.2.1,x.2.2.1)))
def u5i:=lpW _ _ u66
theorem s09 x:u5i x=u66 u5i x:=zW s0u 24 Tryz.f24 6 66 x (by kernel_rfl)
def u6k(g:Z36→Ht (Z43⊕Bool))(x:Z36):Ht (Z43⊕Bool):=cond (decide (x.2.2.2.2.2.2.2.2.2<x.2.2.2.2.2.2.2.2.1)) (cond (y4q x.2.2.2.2.2.2.2.2.2 x.2.2.2.2.2.2.2.1.length) ((s1p (x.2.2.1,rdL t7u x.2.2.2.2.2.2.2.1 x.2.2.2.2.2.2.2.2.2.toNat)).bind fun y5=>(t2y (x.2.1,rdL t7u x.2.2.2.2.2.2.2.1 x.2.2.2.2.2.2.2.2.2.toNat,x.2.2.2.1.2.2.1)).bind fun y6=>(u28 (y5,y6)).bind fun y7=>cond (!y7) (some (.inr false)) (g (x.1,x.2.1,x.2.2.1,x.2.2.2.1,x.2.2.2.2.1,x.2.2.2.2.2.1,x.2.2.2.2.2.2.1,x.2.2.2.2.2.2.2.1,x.2.2.2.2.2.2.2.2.1,IntKind.i64.wrap (x.2.2.2.2.2.2.2.2.2+1)))) none) (some (.inl (x.1,x.2.1,x.2.2.1,x.2.2.2.1,x.2.2.2.2.1,x.2.2.2.2.2.1,x.2.2.2.2.2.2.1)))
def u4q:=lpW _ _ u6k
theorem t96 x:u4q x=u6k u4q x:=zW t9v 24 Tryz.f24 16 66 x (by kernel_rfl)
def u6j(g:j3d→Ht s1h)(x:j3d):Ht s1h:=cond (decide (x.2.2.2.2.2<x.2.2.2.2.1)) (cond (y4q x.2.2.2.2.2 x.2.2.2.1.length) (cond (y4q (rdL (Ty.int .i64) x.2.2.2.1 x.2.2.2.2.2.toNat) x.1.length) ((u4q (x.1,x.2.1,x.2.2.1,rdL u0a x.1 (rdL (Ty.int .i64) x.2.2.2.1 x.2.2.2.2.2.toNat).toNat,x.2.2.2.1,x.2.2.2.2.1,x.2.2.2.2.2,(rdL u0a x.1 (rdL (Ty.int .i64) x.2.2.2.1 x.2.2.2.2.2.toNat).toNat).2.2.2.2.1,((rdL u0a x.1 (rdL (Ty.int .i64) x.2.2.2.1 x.2.2.2.2.2.toNat).toNat).2.2.2.2.1.length:Int),0)).bind fun r8=>match r8 with | .inl o9=>((t84 (o9.2.2.1,o9.2.2.2.1)).bind fun y10=>g (o9.1,o9.2.1,y10,o9.2.2.2.2.1,o9.2.2.2.2.2.1,IntKind.i64.wrap (o9.2.2.2.2.2.2+1))) | .inr z11=>some (.inr z11)) none) none) (some (.inl ()))
def u16:=lpW _ _ u6j
theorem t95 x:u16 x=u6j u16 x:=zW t9u 24 Tryz.f24 12 66 x (by kernel_rfl)
def s37 (x:r0o):Ht Bool:=(t69 x).bind fun y1=>cond (!y1.2) (some false) ((u5i (x,y1.1,([]:Hu u0d.den),x,(x.length:Int),0)).bind fun r3=>match r3 with | .inl o4=>((u16 (o4.1,o4.2.2,([]:Hu t7u.den),o4.2.1,(o4.2.1.length:Int),0)).bind fun r12=>match r12 with | .inl o13=>some true | .inr z14=>some z14) | .inr z15=>none)
theorem q2l:t7a=s37:=zC 24 rfl Tryz.func24 (by kernel_rfl)
def s93(x:Z29):Ht Bool:=zK 25 x
def q1b (x:Z29):Ht Bool:=(t7a x.2.1).bind fun y1=>some y1
theorem p4w:s93=q1b:=zC 25 rfl Tryz.func25 (by kernel_rfl)
def t3u(x:Unit):Ht p80:=zK 92 x
def s5r (x:Unit):Ht p80:=some ((⟨#[97]⟩:Hs),(⟨#[122,122,122]⟩:Hs))
theorem r9h:t3u=s5r:=zC 92 rfl Tryz.func92 (by kernel_rfl)
def s0d(x:Z29):Ht Bool:=zK 26 x
def t0j(g:Z17→Ht (Z24⊕Bool))(x:Z17):Ht (Z24⊕Bool):=cond (decide (x.2.2.2.2<x.2.2.2.1)) (cond (y4q x.2.2.2.2 x.2.2.1.length) ((((u6v (rdL u0a x.2.2.1 x.2.2.2.2.toNat)).bind fun y1=>cond (!y1) (some true) (cond (decide (x.2.2.2.2>0)) (cond (y4q (IntKind.i64.wrap (x.2.2.2.2 - 1)) x.1.2.1.length) (some (decide ((rdL u0a x.1.2.1 (IntKind.i64.wrap (x.2.2.2.2 - 1)).toNat).2.2.2.1≥(rdL u0a x.2.2.1 x.2.2.2.2.toNat).2.2.2.1))) none) (some false))):Ht Bool).bind fun j2=>cond j2 (some (.inr false)) ((t84 (x.2.1,rdL u0a x.2.2.1 x.2.2.2.2.toNat)).bind fun y3=>g (x.1,y3,x.2.2.1,x.2.2.2.1,IntKind.i64.wrap (x.2.2.2.2+1)))) none) (some (.inl (x.1,x.2.1)))
def u3p:=lpW _ _ t0j
theorem s5h x:u3p x=t0j u3p x:=zW s4j 26 Tryz.f26 3 52 x (by kernel_rfl)
def r0x (x:Z29):Ht Bool:=(u3p (x,([]:Hu t7u.den),x.2.1,(x.2.1.length:Int),0)).bind fun r4=>match r4 with | .inl o5=>((t3u ()).bind fun y6=>(s1p (o5.2,y6)).bind fun y7=>(t3u ()).bind fun y8=>(t2y (o5.1.1.1.1.1,y8,o5.1.1.1.1.2.2.2.1)).bind fun y9=>(u28 (y7,y9)).bind fun y10=>some y10) | .inr z11=>some z11
theorem q6r:s0d=r0x:=zC 26 rfl Tryz.func26 (by kernel_rfl)
def t3v(x:u9x):Ht u9x:=zK 185 x
def r8d (x:u9x):Ht u9x:=cond (Nat.ble x.2.2.2.2.1.length z7w) (cond (Nat.ble x.2.2.2.2.2.1.length z7w) (some x) none) none
theorem p1h:t3v=r8d:=zC 185 rfl Tryz.func185 (by kernel_rfl)
def t1h(x:r0o):Ht r0o:=zK 283 x
def t1x(g:j2l→Ht o7c)(x:j2l):Ht o7c:=cond (decide (x.2.2.2<x.2.2.1)) (cond (y4q x.2.2.2 x.2.1.length) ((t3v (rdL u0a x.2.1 x.2.2.2.toNat)).bind fun y1=>cond (Nat.ble (x.1.length+([y1]:Hu u0a.den).length) z7w) (g (x.1++([y1]:Hu u0a.den),x.2.1,x.2.2.1,IntKind.i64.wrap (x.2.2.2+1))) none) none) (some (.inl x.1))
def t2l:=lpW _ _ t1x
theorem s80 x:t2l x=t1x t2l x:=zW s7t 283 Tryz.f283 3 19 x (by kernel_rfl)
def r4u (x:r0o):Ht r0o:=(t2l (([]:Hu u0a.den),x,(x.length:Int),0)).bind fun r2=>match r2 with | .inl o3=>some o3 | .inr z4=>none
theorem q8r:t1h=r4u:=zC 283 rfl Tryz.func283 (by kernel_rfl)
def u1f(x:Z99):Ht Z99:=zK 165 x
def r4s (x:Z99):Ht Z99:=cond (Nat.ble x.1.length z7w) ((t1h x.2.1).bind fun y1=>(t1h x.2.2.1).bind fun y2=>some (x.1,y1,y2,x.2.2.2)) none
theorem q8p:u1f=r4s:=zC 165 rfl Tryz.func165 (by kernel_rfl)
def s2x(x:Z61):Ht Int:=zK 172 x
def t1q(g:o84→Ht o1k)(x:o84):Ht o1k:=cond (decide (x.2.2.2<x.2.2.1)) (cond (y4q x.2.2.2 x.2.1.length) (g (y8i x.1 (rdL u0a x.2.1 x.2.2.2.toNat).2.2.1,x.2.1,x.2.2.1,IntKind.i64.wrap (x.2.2.2+1))) none) (some (.inl x.1))
def t2g:=lpW _ _ t1q
theorem s8t x:t2g x=t1q t2g x:=zW s7m 172 Tryz.f172 3 22 x (by kernel_rfl)
def r4m (x:Z61):Ht Int:=(t2g (x.1.2.2.2.1,x.2,(x.2.length:Int),0)).bind fun r1=>match r1 with | .inl o2=>some o2 | .inr z3=>none
theorem q8i:s2x=r4m:=zC 172 rfl Tryz.func172 (by kernel_rfl)
def s0f(x:(Hs×s9h)):Ht Int:=zK 293 x
def t0k(g:j4o→Ht o1k)(x:j4o):Ht o1k:=cond (decide (x.2.2.2.2<x.2.2.2.1)) (cond (y4q x.2.2.2.2 x.2.2.1.length) (cond (z7o (rdL u0d x.2.2.1 x.2.2.2.2.toNat).1 x.1) (g (x.1,IntKind.i64.wrap (x.2.1+1),x.2.2.1,x.2.2.2.1,IntKind.i64.wrap (x.2.2.2.2+1))) (g (x.1,x.2.1,x.2.2.1,x.2.2.2.1,IntKind.i64.wrap (x.2.2.2.2+1)))) none) (some (.inl x.2.1))
def u6n:=lpW _ _ t0k
theorem s5i x:u6n x=t0k u6n x:=zW s4k 293 Tryz.f293 3 21 x (by kernel_rfl)
def r02 (x:(Hs×s9h)):Ht Int:=(u6n (x.1,0,x.2,(x.2.length:Int),0)).bind fun r1=>match r1 with | .inl o2=>some o2 | .inr z3=>none
theorem q6x:s0f=r02:=zC 293 rfl Tryz.func293 (by kernel_rfl)
def s5z(x:o7f):Ht s9h:=zK 175 x
def t4i(g:j3o→Ht j1l)(x:j3o):Ht j1l:=cond (decide (x.2.2.2.2.2<x.2.2.2.2.1)) (cond (y4q x.2.2.2.2.2 x.2.2.2.1.length) (((cond (decide ((rdL u0d x.2.2.2.1 x.2.2.2.2.2.toNat).2.2.2>x.2.1)) (some true) ((s1q (x.1,(rdL u0d x.2.2.2.1 x.2.2.2.2.2.toNat).1,x.2.1)).bind fun y1=>some (decide (y1=x.2.2.2.2.2)))):Ht Bool).bind fun j2=>cond j2 (cond (Nat.ble (x.2.2.1.length+([(rdL u0d x.2.2.2.1 x.2.2.2.2.2.toNat)]:Hu u0d.den).length) z7w) (g (x.1,x.2.1,x.2.2.1++([(rdL u0d x.2.2.2.1 x.2.2.2.2.2.toNat)]:Hu u0d.den),x.2.2.2.1,x.2.2.2.2.1,IntKind.i64.wrap (x.2.2.2.2.2+1))) none) (g (x.1,x.2.1,x.2.2.1,x.2.2.2.1,x.2.2.2.2.1,IntKind.i64.wrap (x.2.2.2.2.2+1)))) none) (some (.inl (x.2.1,x.2.2.1)))
def u9j:=lpW _ _ t4i
theorem r22 x:u9j x=t4i u9j x:=zW r1x 175 Tryz.f175 3 66 x (by kernel_rfl)
def t1u(g:j3m→Ht o1j)(x:j3m):Ht o1j:=cond (decide (x.2.2.2.2.2<x.2.2.2.2.1)) (cond (y4q x.2.2.2.2.2 x.2.2.2.1.length) (cond (decide ((rdL u0d x.2.2.2.1 x.2.2.2.2.2.toNat).2.2.2>x.1)) (cond (Nat.ble (x.2.2.1.length+([(rdL u0d x.2.2.2.1 x.2.2.2.2.2.toNat)]:Hu u0d.den).length) z7w) (g (x.1,x.2.1,x.2.2.1++([(rdL u0d x.2.2.2.1 x.2.2.2.2.2.toNat)]:Hu u0d.den),x.2.2.2.1,x.2.2.2.2.1,IntKind.i64.wrap (x.2.2.2.2.2+1))) none) (cond (!(rdL u0d x.2.2.2.1 x.2.2.2.2.2.toNat).2.2.1) (cond (Nat.ble (x.2.2.1.length+([(rdL u0d x.2.2.2.1 x.2.2.2.2.2.toNat)]:Hu u0d.den).length) z7w) (g (x.1,x.2.1,x.2.2.1++([(rdL u0d x.2.2.2.1 x.2.2.2.2.2.toNat)]:Hu u0d.den),x.2.2.2.1,x.2.2.2.2.1,IntKind.i64.wrap (x.2.2.2.2.2+1))) none) ((s0f ((rdL u0d x.2.2.2.1 x.2.2.2.2.2.toNat).1,x.2.1)).bind fun y5=>cond (decide (y5>1)) (cond (Nat.ble (x.2.2.1.length+([(rdL u0d x.2.2.2.1 x.2.2.2.2.2.toNat)]:Hu u0d.den).length) z7w) (g (x.1,x.2.1,x.2.2.1++([(rdL u0d x.2.2.2.1 x.2.2.2.2.2.toNat)]:Hu u0d.den),x.2.2.2.1,x.2.2.2.2.1,IntKind.i64.wrap (x.2.2.2.2.2+1))) none) (g (x.1,x.2.1,x.2.2.1,x.2.2.2.1,x.2.2.2.2.1,IntKind.i64.wrap (x.2.2.2.2.2+1)))))) none) (some (.inl x.2.2.1))
def t2j:=lpW _ _ t1u
theorem s8x x:t2j x=t1u t2j x:=zW s7q 175 Tryz.f175 11 66 x (by kernel_rfl)
def r79 (x:o7f):Ht s9h:=(u9j (x.1,x.2,([]:Hu u0d.den),x.1,(x.1.length:Int),0)).bind fun r3=>match r3 with | .inl o4=>((t2j (o4.1,o4.2,([]:Hu u0d.den),o4.2,(o4.2.length:Int),0)).bind fun r6=>match r6 with | .inl o7=>some o7 | .inr z8=>none) | .inr z9=>none
theorem p1d:s5z=r79:=zC 175 rfl Tryz.func175 (by kernel_rfl)
def u70(x:o45):Ht Bool:=zK 174 x
def q73 (x:o45):Ht Bool:=some (decide (x.1.2.2.2.1≤x.2))
theorem q8m:u70=q73:=zC 174 rfl Tryz.func174 (by kernel_rfl)
def u4i(x:o46):Ht Int:=zK 10004 x
def u3o(g:j0y→Ht p3z)(x:j0y):Ht p3z:=cond (decide (x.2.2.2<x.2.2.1)) (cond (y4q x.2.2.2 x.1.length) ((u70 (rdL u0a x.1 x.2.2.2.toNat,x.2.1)).bind fun y1=>cond y1 (some (.inr x.2.2.2)) (g (x.1,x.2.1,x.2.2.1,IntKind.i64.wrap (x.2.2.2+1)))) none) (some (.inl ()))
def u1a:=lpW _ _ u3o
theorem u9c x:u1a x=u3o u1a x:=zW u3v 10004 Tryz.f287 2 19 x (by kernel_rfl)
def u4h (x:o46):Ht Int:=(u1a (x.1,x.2,(x.1.length:Int),0)).bind fun r2=>match r2 with | .inl o3=>some (- 1:Int) | .inr z4=>some z4
theorem t0f:u4i=u4h:=zC 10004 rfl Tryz.func287 (by kernel_rfl)
def u1z(x:o46):Ht r0o:=zK 10003 x
def u3c(g:j0y→Ht o9c)(x:j0y):Ht o9c:=cond (decide (x.2.2.2<(x.1.length:Int))) (cond (y4q x.2.2.2 x.1.length) ((u70 (rdL u0a x.1 x.2.2.2.toNat,x.2.1)).bind fun y2=>cond (!y2) (cond (y4q x.2.2.1 x.1.length) (g (x.1.set x.2.2.1.toNat (rdL u0a x.1 x.2.2.2.toNat),x.2.1,IntKind.i64.wrap (x.2.2.1+1),IntKind.i64.wrap (x.2.2.2+1))) none) (g (x.1,x.2.1,x.2.2.1,IntKind.i64.wrap (x.2.2.2+1)))) none) (some (.inl (x.1,x.2.2.1)))
def u04:=lpW _ _ u3c
theorem u79 x:u04 x=u3c u04 x:=zW u3h 10003 Tryz.f173 5 42 x (by kernel_rfl)
def u34 (x:o46):Ht r0o:=(u4i x).bind fun y1=>cond (decide (y1=(- 1:Int))) (some x.1) ((u04 (x.1,x.2,y1,IntKind.i64.wrap (y1+1))).bind fun r3=>match r3 with | .inl o4=>cond (decide (0≤o4.2)&&decide (o4.2≤(o4.1.length:Int))&&decide ((o4.1.length:Int)≤(o4.1.length:Int))) (cond (decide (0≤(0:Int))&&decide ((0:Int)≤o4.2)&&decide (o4.2≤((o4.1.take o4.2.toNat++List.replicate ((o4.1.length:Int).toNat - o4.2.toNat) u0a.zero++o4.1.drop (o4.2.toNat+((o4.1.length:Int).toNat - o4.2.toNat))).length:Int))) (some ((o4.1.take o4.2.toNat++List.replicate ((o4.1.length:Int).toNat - o4.2.toNat) u0a.zero++o4.1.drop (o4.2.toNat+((o4.1.length:Int).toNat - o4.2.toNat))).take (o4.2.toNat - (0:Int).toNat))) none) none | .inr z5=>none)
theorem u9y:u1z=u34:=zC 10003 rfl Tryz.func173 (by kernel_rfl)
def u2w(x:Z61):Ht Z99:=zK 64 x
def q1c (x:Z61):Ht Z99:=(u1f x.1).bind fun y1=>(s2x x).bind fun y2=>(u1z (y1.2.1,y2)).bind fun y3=>(s5z (x.1.1,y2)).bind fun y4=>some (y4,y3,y1.2.2)
theorem p4x:u2w=q1c:=zC 64 rfl Tryz.func64 (by kernel_rfl)
def s2u(x:Z49):Ht Bool:=zK 410 x
def r4i (x:Z49):Ht Bool:=((cond (decide (x.1.2.1=3)) (some (decide (x.1.2.2.2.1≤x.2.2.2.1))) (some false)):Ht Bool).bind fun j1=>some j1
theorem q8e:s2u=r4i:=zC 410 rfl Tryz.func410 (by kernel_rfl)
def s9y(x:Z49):Ht Bool:=zK 367 x
def q04 (x:Z49):Ht Bool:=cond (!decide (x.1.1=x.2.1)) ((s2u x).bind fun y1=>cond (!y1) ((s2u (x.2,x.1)).bind fun y2=>some (!y2)) (some false)) (some false)
theorem p4p:s9y=q04:=zC 367 rfl Tryz.func367 (by kernel_rfl)
def s4w(x:Z49):Ht Bool:=zK 286 x
def q5e (x:Z49):Ht Bool:=(((s9y x).bind fun y1=>cond y1 ((u5u (x.1.2.2.2.2.1,x.2.2.2.2.2.2.1)).bind fun y2=>some y2) (some false)):Ht Bool).bind fun j3=>some j3
theorem p7b:s4w=q5e:=zC 286 rfl Tryz.func286 (by kernel_rfl)
def t83(x:Z49):Ht Bool:=zK 366 x
def r7z (x:Z49):Ht Bool:=(((u6v x.1).bind fun y1=>cond y1 ((s4w (x.2,x.1)).bind fun y2=>some y2) (some false)):Ht Bool).bind fun j3=>some j3
theorem p03:t83=r7z:=zC 366 rfl Tryz.func366 (by kernel_rfl)
def u4m(x:Z81):Ht Int:=zK 10008 x
def u33(g:Z64→Ht p3z)(x:Z64):Ht p3z:=cond (decide (x.2.2.2<x.2.2.1)) (cond (y4q x.2.2.2 x.1.length) ((t83 (rdL u0a x.1 x.2.2.2.toNat,x.2.1)).bind fun y1=>cond y1 (some (.inr x.2.2.2)) (g (x.1,x.2.1,x.2.2.1,IntKind.i64.wrap (x.2.2.2+1)))) none) (some (.inl ()))
def u1d:=lpW _ _ u33
theorem u97 x:u1d x=u33 u1d x:=zW u38 10008 Tryz.f287 2 19 x (by kernel_rfl)
def u4l (x:Z81):Ht Int:=(u1d (x.1,x.2,(x.1.length:Int),0)).bind fun r2=>match r2 with | .inl o3=>some (- 1:Int) | .inr z4=>some z4
theorem t02:u4m=u4l:=zC 10008 rfl Tryz.func287 (by kernel_rfl)
def u3w(x:Z81):Ht Bool:=zK 10007 x
def u3r (x:Z81):Ht Bool:=(u4m x).bind fun y1=>some (decide (y1≥0))
theorem u82:u3w=u3r:=zC 10007 rfl Tryz.func204 (by kernel_rfl)
def t59(x:Z81):Ht Bool:=zK 10006 x
def t5z (x:Z81):Ht Bool:=(u3w x).bind fun y1=>some y1
theorem s7f:t59=t5z:=zC 10006 rfl Tryz.func93 (by kernel_rfl)
def s4z(x:Z78):Ht Bool:=zK 284 x
def q5i (x:Z78):Ht Bool:=(t59 (x.2,x.1)).bind fun y1=>some y1
theorem p7f:s4z=q5i:=zC 284 rfl Tryz.func284 (by kernel_rfl)
def u6f(x:Z49):Ht Bool:=zK 285 x
def q6l (x:Z49):Ht Bool:=some (decide (x.1.1=x.2.1))
theorem q6w:u6f=q6l:=zC 285 rfl Tryz.func285 (by kernel_rfl)
def u4b(x:Z81):Ht Int:=zK 10010 x
def u3f(g:Z64→Ht p3z)(x:Z64):Ht p3z:=cond (decide (x.2.2.2<x.2.2.1)) (cond (y4q x.2.2.2 x.1.length) ((u6f (rdL u0a x.1 x.2.2.2.toNat,x.2.1)).bind fun y1=>cond y1 (some (.inr x.2.2.2)) (g (x.1,x.2.1,x.2.2.1,IntKind.i64.wrap (x.2.2.2+1)))) none) (some (.inl ()))
def u07:=lpW _ _ u3f
theorem u8c x:u07 x=u3f u07 x:=zW u3k 10010 Tryz.f287 2 19 x (by kernel_rfl)
def u37 (x:Z81):Ht Int:=(u07 (x.1,x.2,(x.1.length:Int),0)).bind fun r2=>match r2 with | .inl o3=>some (- 1:Int) | .inr z4=>some z4
theorem u91:u4b=u37:=zC 10010 rfl Tryz.func287 (by kernel_rfl)
def u1c(x:Z81):Ht r0o:=zK 10009 x
def u22(g:Z64→Ht o9c)(x:Z64):Ht o9c:=cond (decide (x.2.2.2<(x.1.length:Int))) (cond (y4q x.2.2.2 x.1.length) ((u6f (rdL u0a x.1 x.2.2.2.toNat,x.2.1)).bind fun y2=>cond (!y2) (cond (y4q x.2.2.1 x.1.length) (g (x.1.set x.2.2.1.toNat (rdL u0a x.1 x.2.2.2.toNat),x.2.1,IntKind.i64.wrap (x.2.2.1+1),IntKind.i64.wrap (x.2.2.2+1))) none) (g (x.1,x.2.1,x.2.2.1,IntKind.i64.wrap (x.2.2.2+1)))) none) (some (.inl (x.1,x.2.2.1)))
def u00:=lpW _ _ u22
theorem u76 x:u00 x=u22 u00 x:=zW u26 10009 Tryz.f173 5 42 x (by kernel_rfl)
def u3t (x:Z81):Ht r0o:=(u4b x).bind fun y1=>cond (decide (y1=(- 1:Int))) (some x.1) ((u00 (x.1,x.2,y1,IntKind.i64.wrap (y1+1))).bind fun r3=>match r3 with | .inl o4=>cond (decide (0≤o4.2)&&decide (o4.2≤(o4.1.length:Int))&&decide ((o4.1.length:Int)≤(o4.1.length:Int))) (cond (decide (0≤(0:Int))&&decide ((0:Int)≤o4.2)&&decide (o4.2≤((o4.1.take o4.2.toNat++List.replicate ((o4.1.length:Int).toNat - o4.2.toNat) u0a.zero++o4.1.drop (o4.2.toNat+((o4.1.length:Int).toNat - o4.2.toNat))).length:Int))) (some ((o4.1.take o4.2.toNat++List.replicate ((o4.1.length:Int).toNat - o4.2.toNat) u0a.zero++o4.1.drop (o4.2.toNat+((o4.1.length:Int).toNat - o4.2.toNat))).take (o4.2.toNat - (0:Int).toNat))) none) none | .inr z5=>none)
theorem u84:u1c=u3t:=zC 10009 rfl Tryz.func173 (by kernel_rfl)
def u98(x:Z41):Ht Z99:=zK 166 x
def t4f(g:Z8→Ht (Z9⊕Unit))(x:Z8):Ht (Z9⊕Unit):=cond (decide (x.2.2.2.2.2.2<x.2.2.2.2.2.1)) (cond (y4q x.2.2.2.2.2.2 x.2.2.1.2.2.1.length) (cond (rdL u0a x.2.2.1.2.2.1 x.2.2.2.2.2.2.toNat).2.2.2.2.2.2.1 (cond (y4q x.2.2.2.2.2.2 x.2.2.1.2.2.1.length) (g (x.1,x.2.1,(x.2.2.1.1,x.2.2.1.2.1,x.2.2.1.2.2.1.set x.2.2.2.2.2.2.toNat ((rdL u0a x.2.2.1.2.2.1 x.2.2.2.2.2.2.toNat).1,(rdL u0a x.2.2.1.2.2.1 x.2.2.2.2.2.2.toNat).2.1,(rdL u0a x.2.2.1.2.2.1 x.2.2.2.2.2.2.toNat).2.2.1,(rdL u0a x.2.2.1.2.2.1 x.2.2.2.2.2.2.toNat).2.2.2.1,(rdL u0a x.2.2.1.2.2.1 x.2.2.2.2.2.2.toNat).2.2.2.2.1,(rdL u0a x.2.2.1.2.2.1 x.2.2.2.2.2.2.toNat).2.2.2.2.2.1,true,(rdL u0a x.2.2.1.2.2.1 x.2.2.2.2.2.2.toNat).2.2.2.2.2.2.2),x.2.2.1.2.2.2),x.2.2.2.1,(),x.2.2.2.2.2.1,IntKind.i64.wrap (x.2.2.2.2.2.2+1))) none) ((s4w (rdL u0a x.2.2.1.2.2.1 x.2.2.2.2.2.2.toNat,x.2.2.2.1)).bind fun y5=>cond (y4q x.2.2.2.2.2.2 x.2.2.1.2.2.1.length) (g (x.1,x.2.1,(x.2.2.1.1,x.2.2.1.2.1,x.2.2.1.2.2.1.set x.2.2.2.2.2.2.toNat ((rdL u0a x.2.2.1.2.2.1 x.2.2.2.2.2.2.toNat).1,(rdL u0a x.2.2.1.2.2.1 x.2.2.2.2.2.2.toNat).2.1,(rdL u0a x.2.2.1.2.2.1 x.2.2.2.2.2.2.toNat).2.2.1,(rdL u0a x.2.2.1.2.2.1 x.2.2.2.2.2.2.toNat).2.2.2.1,(rdL u0a x.2.2.1.2.2.1 x.2.2.2.2.2.2.toNat).2.2.2.2.1,(rdL u0a x.2.2.1.2.2.1 x.2.2.2.2.2.2.toNat).2.2.2.2.2.1,y5,(rdL u0a x.2.2.1.2.2.1 x.2.2.2.2.2.2.toNat).2.2.2.2.2.2.2),x.2.2.1.2.2.2),x.2.2.2.1,(),x.2.2.2.2.2.1,IntKind.i64.wrap (x.2.2.2.2.2.2+1))) none)) none) (some (.inl (x.1,x.2.1,x.2.2.1,x.2.2.2.1)))
def u59:=lpW _ _ t4f
theorem r2z x:u59 x=t4f u59 x:=zW r1u 166 Tryz.f166 9 80 x (by kernel_rfl)
def r77 (x:Z41):Ht Z99:=(u1f x.1).bind fun y1=>(t3v x.2).bind fun y2=>cond x.2.2.2.2.2.2.2.1 ((u6t (x.1.1,x.2.2.2.2.2.2.1,IntKind.i64.wrap (y1.2.2.2.1+1))).bind fun y3=>(u1c (y1.2.2.1,x.2)).bind fun y4=>(u59 (x.2,(([]:Hu u0d.den),([]:Hu u0a.den),([]:Hu u0a.den),0,0),(y3,y1.2.1,y4,IntKind.i64.wrap (y1.2.2.2.1+1),y1.2.2.2.2),(y2.1,3,y2.2.2.1,IntKind.i64.wrap (x.1.2.2.2.1+1),y2.2.2.2.2.1,y2.2.2.2.2.2.1,true,(⟨#[]⟩:Hs)),(),(y4.length:Int),0)).bind fun r6=>match r6 with | .inl o7=>cond (Nat.ble (o7.2.2.1.2.1.length+([o7.2.2.2]:Hu u0a.den).length) z7w) (some (o7.2.2.1.1,o7.2.2.1.2.1++([o7.2.2.2]:Hu u0a.den),o7.2.2.1.2.2.1,o7.2.2.1.2.2.2.1,y8h o7.2.2.1.2.2.2.2 (IntKind.i64.wrap (o7.1.1+1)))) none | .inr z8=>none) ((s4z (x.2,x.1.2.1)).bind fun y9=>(u6t (x.1.1,x.2.2.2.2.2.2.1,IntKind.i64.wrap (y1.2.2.2.1+1))).bind fun y10=>(u1c (y1.2.2.1,x.2)).bind fun y11=>(u59 (x.2,(([]:Hu u0d.den),([]:Hu u0a.den),([]:Hu u0a.den),0,0),(y10,y1.2.1,y11,IntKind.i64.wrap (y1.2.2.2.1+1),y1.2.2.2.2),(y2.1,3,y2.2.2.1,IntKind.i64.wrap (x.1.2.2.2.1+1),y2.2.2.2.2.1,y2.2.2.2.2.2.1,y9,(⟨#[]⟩:Hs)),(),(y11.length:Int),0)).bind fun r13=>match r13 with | .inl o14=>cond (Nat.ble (o14.2.2.1.2.1.length+([o14.2.2.2]:Hu u0a.den).length) z7w) (some (o14.2.2.1.1,o14.2.2.1.2.1++([o14.2.2.2]:Hu u0a.den),o14.2.2.1.2.2.1,o14.2.2.1.2.2.2.1,y8h o14.2.2.1.2.2.2.2 (IntKind.i64.wrap (o14.1.1+1)))) none | .inr z15=>none)
theorem p1b:u98=r77:=zC 166 rfl Tryz.func166 (by kernel_rfl)
def t5k(x:o5j):Ht Bool:=zK 288 x
def r0z (x:o5j):Ht Bool:=some (z7o x.1.2.2.2.2.2.2.2 x.2)
theorem q6t:t5k=r0z:=zC 288 rfl Tryz.func288 (by kernel_rfl)
def u4a(x:o85):Ht Int:=zK 10013 x
def u3e(g:o83→Ht p3z)(x:o83):Ht p3z:=cond (decide (x.2.2.2<x.2.2.1)) (cond (y4q x.2.2.2 x.1.length) ((t5k (rdL u0a x.1 x.2.2.2.toNat,x.2.1)).bind fun y1=>cond y1 (some (.inr x.2.2.2)) (g (x.1,x.2.1,x.2.2.1,IntKind.i64.wrap (x.2.2.2+1)))) none) (some (.inl ()))
def u06:=lpW _ _ u3e
theorem u8b x:u06 x=u3e u06 x:=zW u3j 10013 Tryz.f287 2 19 x (by kernel_rfl)
def u36 (x:o85):Ht Int:=(u06 (x.1,x.2,(x.1.length:Int),0)).bind fun r2=>match r2 with | .inl o3=>some (- 1:Int) | .inr z4=>some z4
theorem u90:u4a=u36:=zC 10013 rfl Tryz.func287 (by kernel_rfl)
def t3t(x:Z85):Ht Int:=zK 167 x
def r74 (x:Z85):Ht Int:=(u4a (x.1.2.2.1,x.2)).bind fun y1=>some y1
theorem p08:t3t=r74:=zC 167 rfl Tryz.func167 (by kernel_rfl)
def u6e(x:o5j):Ht Bool:=zK 289 x
def q6k (x:o5j):Ht Bool:=some (z7o x.1.2.2.2.2.2.2.2 x.2)
theorem q6o:u6e=q6k:=zC 289 rfl Tryz.func289 (by kernel_rfl)
def u39(x:o85):Ht Int:=zK 10012 x
def u3d(g:o83→Ht p3z)(x:o83):Ht p3z:=cond (decide (x.2.2.2<x.2.2.1)) (cond (y4q x.2.2.2 x.1.length) ((u6e (rdL u0a x.1 x.2.2.2.toNat,x.2.1)).bind fun y1=>cond y1 (some (.inr x.2.2.2)) (g (x.1,x.2.1,x.2.2.1,IntKind.i64.wrap (x.2.2.2+1)))) none) (some (.inl ()))
def u05:=lpW _ _ u3d
theorem u8a x:u05 x=u3d u05 x:=zW u3i 10012 Tryz.f287 2 19 x (by kernel_rfl)
def u35 (x:o85):Ht Int:=(u05 (x.1,x.2,(x.1.length:Int),0)).bind fun r2=>match r2 with | .inl o3=>some (- 1:Int) | .inr z4=>some z4
theorem u9z:u39=u35:=zC 10012 rfl Tryz.func287 (by kernel_rfl)
def u1y(x:o85):Ht r0o:=zK 10011 x
def u21(g:o83→Ht o9c)(x:o83):Ht o9c:=cond (decide (x.2.2.2<(x.1.length:Int))) (cond (y4q x.2.2.2 x.1.length) ((u6e (rdL u0a x.1 x.2.2.2.toNat,x.2.1)).bind fun y2=>cond (!y2) (cond (y4q x.2.2.1 x.1.length) (g (x.1.set x.2.2.1.toNat (rdL u0a x.1 x.2.2.2.toNat),x.2.1,IntKind.i64.wrap (x.2.2.1+1),IntKind.i64.wrap (x.2.2.2+1))) none) (g (x.1,x.2.1,x.2.2.1,IntKind.i64.wrap (x.2.2.2+1)))) none) (some (.inl (x.1,x.2.2.1)))
def u0z:=lpW _ _ u21
theorem u75 x:u0z x=u21 u0z x:=zW u25 10011 Tryz.f173 5 42 x (by kernel_rfl)
def u3s (x:o85):Ht r0o:=(u39 x).bind fun y1=>cond (decide (y1=(- 1:Int))) (some x.1) ((u0z (x.1,x.2,y1,IntKind.i64.wrap (y1+1))).bind fun r3=>match r3 with | .inl o4=>cond (decide (0≤o4.2)&&decide (o4.2≤(o4.1.length:Int))&&decide ((o4.1.length:Int)≤(o4.1.length:Int))) (cond (decide (0≤(0:Int))&&decide ((0:Int)≤o4.2)&&decide (o4.2≤((o4.1.take o4.2.toNat++List.replicate ((o4.1.length:Int).toNat - o4.2.toNat) u0a.zero++o4.1.drop (o4.2.toNat+((o4.1.length:Int).toNat - o4.2.toNat))).length:Int))) (some ((o4.1.take o4.2.toNat++List.replicate ((o4.1.length:Int).toNat - o4.2.toNat) u0a.zero++o4.1.drop (o4.2.toNat+((o4.1.length:Int).toNat - o4.2.toNat))).take (o4.2.toNat - (0:Int).toNat))) none) none | .inr z5=>none)
theorem u83:u1y=u3s:=zC 10011 rfl Tryz.func173 (by kernel_rfl)
def t3q(x:Z85):Ht Z99:=zK 169 x
def r7x (x:Z85):Ht Z99:=(u1f x.1).bind fun y1=>(u1y (y1.2.2.1,x.2)).bind fun y2=>some (y1.1,y1.2.1,y2,y1.2.2.2)
theorem p01:t3q=r7x:=zC 169 rfl Tryz.func169 (by kernel_rfl)
def t78(x:Z61):Ht Z61:=zK 205 x
def s6y (x:Z61):Ht Z61:=(u1f x.1).bind fun y1=>(t1h x.2).bind fun y2=>some (y1,y2)
theorem q38:t78=s6y:=zC 205 rfl Tryz.func205 (by kernel_rfl)
def q0m(x:Z99):Ht Bool:=zK 206 x
def q74 (x:Z99):Ht Bool:=((cond (decide ((x.2.1.length:Int)≥(12:Int))) (some true) (cond (decide ((x.1.length:Int)>(100:Int))) (some true) (some (decide (x.2.2.2.1≥9999))))):Ht Bool).bind fun j1=>some j1
theorem p9p:q0m=q74:=zC 206 rfl Tryz.func206 (by kernel_rfl)
def s90(x:Z51):Ht Z10:=zK 95 x
def q06 (x:Z51):Ht Z10:=(t78 x.1).bind fun y1=>(t3t (x.1.1,x.2.1)).bind fun y2=>cond (decide (y2<0)) (some (y1,(0,(0,0,0,0,([]:Hu t7u.den),([]:Hu u12.den),false,(⟨#[]⟩:Hs)),(⟨#[]⟩:Hs),false,([]:Hu u0d.den),([]:Hu u0a.den),([]:Hu u0a.den),0,0),1)) (((cond x.2.2 ((q0m x.1.1).bind fun y3=>some y3) (some false)):Ht Bool).bind fun j4=>cond j4 (some (y1,(0,(0,0,0,0,([]:Hu t7u.den),([]:Hu u12.den),false,(⟨#[]⟩:Hs)),(⟨#[]⟩:Hs),false,([]:Hu u0d.den),([]:Hu u0a.den),([]:Hu u0a.den),0,0),3)) (cond x.2.2 (cond (y4q y2 x.1.1.2.2.1.length) ((u98 (x.1.1,rdL u0a x.1.1.2.2.1 y2.toNat)).bind fun y5=>(u2w (y5,x.1.2)).bind fun y6=>some ((y6,y1.2),(3,(0,0,0,0,([]:Hu t7u.den),([]:Hu u12.den),false,(⟨#[]⟩:Hs)),x.2.1,x.2.2,([]:Hu u0d.den),([]:Hu u0a.den),([]:Hu u0a.den),0,0),0)) none) ((t3q (x.1.1,x.2.1)).bind fun y7=>(u2w (y7,x.1.2)).bind fun y8=>some ((y8,y1.2),(3,(0,0,0,0,([]:Hu t7u.den),([]:Hu u12.den),false,(⟨#[]⟩:Hs)),x.2.1,x.2.2,([]:Hu u0d.den),([]:Hu u0a.den),([]:Hu u0a.den),0,0),0))))
theorem p4r:s90=q06:=zC 95 rfl Tryz.func95 (by kernel_rfl)
def u87(x:Z14):Ht Bool:=zK 94 x
def s17 (x:Z14):Ht Bool:=(s90 (((x.2.1,x.2.2.1,x.2.2.2.1,x.2.2.2.2.1,x.2.2.2.2.2.1),x.2.2.2.2.2.2.1),x.1.2.2.2.2.2.2.2,true)).bind fun y1=>((cond (!decide (y1.2.2=0)) (some (!decide (y1.2.2=3))) (some false)):Ht Bool).bind fun j2=>some j2
theorem q0d:u87=s17:=zC 94 rfl Tryz.func94 (by kernel_rfl)
def u29(x:Z21):Ht Int:=zK 10002 x
def u2n(g:Z19→Ht p3z)(x:Z19):Ht p3z:=cond (decide (x.2.2.2<x.2.2.1)) (cond (y4q x.2.2.2 x.1.length) ((u87 (rdL u0a x.1 x.2.2.2.toNat,x.2.1)).bind fun y1=>cond y1 (some (.inr x.2.2.2)) (g (x.1,x.2.1,x.2.2.1,IntKind.i64.wrap (x.2.2.2+1)))) none) (some (.inl ()))
def u0q:=lpW _ _ u2n
theorem u60 x:u0q x=u2n u0q x:=zW u2q 10002 Tryz.f287 2 19 x (by kernel_rfl)
def u24 (x:Z21):Ht Int:=(u0q (x.1,x.2,(x.1.length:Int),0)).bind fun r2=>match r2 with | .inl o3=>some (- 1:Int) | .inr z4=>some z4
theorem u7x:u29=u24:=zC 10002 rfl Tryz.func287 (by kernel_rfl)
def u2l(x:Z21):Ht Bool:=zK 10001 x
def u2k (x:Z21):Ht Bool:=(u29 x).bind fun y1=>some (decide (y1≥0))
theorem u6s:u2l=u2k:=zC 10001 rfl Tryz.func204 (by kernel_rfl)
def u95(x:Z22):Ht Bool:=zK 10000 x
def u9w (x:Z22):Ht Bool:=(u2l (x.1,x.2.1.1.1.1,x.2.1.1.1.2.1,x.2.1.1.1.2.2.1,x.2.1.1.1.2.2.2.1,x.2.1.1.1.2.2.2.2,x.2.1.1.2,x.2.1.2.1,x.2.1.2.2,x.2.2)).bind fun y1=>some y1
theorem s0a:u95=u9w:=zC 10000 rfl Tryz.func93 (by kernel_rfl)
def t73(x:Z29):Ht Bool:=zK 27 x
def s6q (x:Z29):Ht Bool:=(u95 (x.1.1.1.2.2.1,x)).bind fun y1=>some (!y1)
theorem q30:t73=s6q:=zC 27 rfl Tryz.func27 (by kernel_rfl)
def u1b(x:o7g):Ht Bool:=zK 212 x
def q1i (x:o7g):Ht Bool:=((cond (decide (x.1≥x.2.1)) (some (decide (x.1≤x.2.2))) (some false)):Ht Bool).bind fun j1=>some j1
theorem p42:u1b=q1i:=zC 212 rfl Tryz.func212 (by kernel_rfl)
def t0a(x:Int):Ht s6h:=zK 231 x
def r0s(g:o7h→Ht (o7h⊕Unit))(x:o7h):Ht (o7h⊕Unit):=cond (decide (x.1>127)) (cond (Nat.ble (x.2.length+([(IntKind.u8.wrap (IntKind.i64.wrap ((Int.tmod x.1 (128:Int))+128)))]:Hu Int).length) z7w) (g (IntKind.i64.wrap (Int.tdiv x.1 (128:Int)),x.2++([(IntKind.u8.wrap (IntKind.i64.wrap ((Int.tmod x.1 (128:Int))+128)))]:Hu Int))) none) (some (.inl x))
def t49:=lpW _ _ r0s
theorem q7j x:t49 x=r0s t49 x:=zW r1z 231 Tryz.f231 4 25 x (by kernel_rfl)
def r8b (x:Int):Ht s6h:=(u1b (x,0,1000000000)).bind fun y1=>cond (!y1) (some ((⟨#[]⟩:Hs),false)) ((t49 (x,([]:Hu Int))).bind fun r2=>match r2 with | .inl o3=>cond (Nat.ble (o3.2.length+([(IntKind.u8.wrap o3.1)]:Hu Int).length) z7w) (some (y7g (o3.2++([(IntKind.u8.wrap o3.1)]:Hu Int)),true)) none | .inr z4=>none)
theorem p1f:t0a=r8b:=zC 231 rfl Tryz.func231 (by kernel_rfl)
def t5l(x:Hs):Ht s6h:=zK 209 x
def r01 (x:Hs):Ht s6h:=cond (decide ((x.size:Int)>(20000:Int))) (some ((⟨#[]⟩:Hs),false)) ((t0a (x.size:Int)).bind fun y1=>cond (decide (y1.1.size+x.size≤140737488355328)) (some (y1.1++x,true)) none)
theorem q6v:t5l=r01:=zC 209 rfl Tryz.func209 (by kernel_rfl)
def u5d(x:(r3u×q0t)):Ht r3u:=zK 97 x
def t0m(g:j4y→Ht o7d)(x:j4y):Ht o7d:=cond (decide (x.2.2.2<x.2.2.1)) (cond (y4q x.2.2.2 x.2.1.length) ((t5l (rdL Ty.str x.2.1 x.2.2.2.toNat)).bind fun y1=>cond (Nat.ble (x.1.length+(z7t y1.1).length) z7w) (g (x.1++(z7t y1.1),x.2.1,x.2.2.1,IntKind.i64.wrap (x.2.2.2+1))) none) none) (some (.inl x.1))
def t0u:=lpW _ _ t0m
theorem s5k x:t0u x=t0m t0u x:=zW s4m 97 Tryz.f97 1 29 x (by kernel_rfl)
def r07 (x:(r3u×q0t)):Ht r3u:=(t0u (x.1,x.2,(x.2.length:Int),0)).bind fun r2=>match r2 with | .inl o3=>some o3 | .inr z4=>none
theorem q62:u5d=r07:=zC 97 rfl Tryz.func97 (by kernel_rfl)
def u6g(x:o5b):Ht r3u:=zK 98 x
def r06 (x:o5b):Ht r3u:=cond x.2 (cond (Nat.ble (x.1.length+([(1:Int)]:Hu Int).length) z7w) (some (x.1++([(1:Int)]:Hu Int))) none) (cond (Nat.ble (x.1.length+([(0:Int)]:Hu Int).length) z7w) (some (x.1++([(0:Int)]:Hu Int))) none)
theorem q61:u6g=r06:=zC 98 rfl Tryz.func98 (by kernel_rfl)
def u4x(x:(r3u×r3u)):Ht r3u:=zK 116 x
def t1y(g:j41→Ht o7d)(x:j41):Ht o7d:=cond (decide (x.2.2.2<x.2.2.1)) (cond (y4q x.2.2.2 x.2.1.length) ((t0a (rdL (Ty.int .i64) x.2.1 x.2.2.2.toNat)).bind fun y1=>cond (Nat.ble (x.1.length+(z7t y1.1).length) z7w) (g (x.1++(z7t y1.1),x.2.1,x.2.2.1,IntKind.i64.wrap (x.2.2.2+1))) none) none) (some (.inl x.1))
def t2m:=lpW _ _ t1y
theorem s81 x:t2m x=t1y t2m x:=zW s7u 116 Tryz.f116 1 29 x (by kernel_rfl)
def r4w (x:(r3u×r3u)):Ht r3u:=(t2m (x.1,x.2,(x.2.length:Int),0)).bind fun r2=>match r2 with | .inl o3=>some o3 | .inr z4=>none
theorem q8t:u4x=r4w:=zC 116 rfl Tryz.func116 (by kernel_rfl)
def u8f(x:Hs):Ht Bool:=zK 129 x
def t8k(g:p8u→Ht j1m)(x:p8u):Ht j1m:=cond (decide (x.2<(x.1.size:Int))) (((cond (y4q x.2 x.1.size) (cond (decide (((x.1.data.toList.getD x.2.toNat 0).toNat:Int)<(97:Int))) (some true) (cond (y4q x.2 x.1.size) (some (decide (((x.1.data.toList.getD x.2.toNat 0).toNat:Int)>(122:Int)))) none)) none):Ht Bool).bind fun j1=>cond j1 (some (.inr false)) (g (x.1,IntKind.i64.wrap (x.2+1)))) (some (.inl x.1))
def t8u:=lpW _ _ t8k
theorem r90 x:t8u x=t8k t8u x:=zW r9l 129 Tryz.f129 2 23 x (by kernel_rfl)
def q5f (x:Hs):Ht Bool:=(t8u (x,0)).bind fun r2=>match r2 with | .inl o3=>((u1b ((o3.size:Int),1,3)).bind fun y4=>some y4) | .inr z5=>some z5
theorem p7c:u8f=q5f:=zC 129 rfl Tryz.func129 (by kernel_rfl)
def s5w(x:p80):Ht Bool:=zK 236 x
def r72 (x:p80):Ht Bool:=(((u8f x.1).bind fun y1=>cond y1 ((u8f x.2).bind fun y2=>cond y2 (some (y3c x.1 x.2||z7o x.1 x.2)) (some false)) (some false)):Ht Bool).bind fun j3=>some j3
theorem p06:s5w=r72:=zC 236 rfl Tryz.func236 (by kernel_rfl)
def s50(x:o7b):Ht Bool:=zK 321 x
def r8c (x:o7b):Ht Bool:=(((u8f x.1).bind fun y1=>cond y1 (cond (decide ((x.2.1.size:Int)≤(12:Int))) (cond (!x.2.2) (some true) (some (z7o x.2.1 (⟨#[]⟩:Hs)))) (some false)) (some false)):Ht Bool).bind fun j2=>some j2
theorem p1g:s50=r8c:=zC 321 rfl Tryz.func321 (by kernel_rfl)
def s20(x:p3y):Ht Bool:=zK 237 x
def t1w(g:o6y→Ht (p3y⊕Bool))(x:o6y):Ht (p3y⊕Bool):=cond (decide (x.2.2.2<x.2.2.1)) (cond (y4q x.2.2.2 x.2.1.length) ((((s50 (rdL u12 x.2.1 x.2.2.2.toNat)).bind fun y1=>cond (!y1) (some true) (cond (decide (x.2.2.2>0)) (cond (y4q (IntKind.i64.wrap (x.2.2.2 - 1)) x.1.length) (some (!y3c (rdL u12 x.1 (IntKind.i64.wrap (x.2.2.2 - 1)).toNat).1 (rdL u12 x.2.1 x.2.2.2.toNat).1)) none) (some false))):Ht Bool).bind fun j2=>cond j2 (some (.inr false)) (g (x.1,x.2.1,x.2.2.1,IntKind.i64.wrap (x.2.2.2+1)))) none) (some (.inl x.1))
def t2k:=lpW _ _ t1w
theorem s8z x:t2k x=t1w t2k x:=zW s7s 237 Tryz.f237 2 34 x (by kernel_rfl)
def r4r (x:p3y):Ht Bool:=(t2k (x,x,(x.length:Int),0)).bind fun r3=>match r3 with | .inl o4=>some (decide ((o4.length:Int)≤(8:Int))) | .inr z5=>some z5
theorem q8o:s20=r4r:=zC 237 rfl Tryz.func237 (by kernel_rfl)
def u6u(x:u9x):Ht Bool:=zK 127 x
def t8n(g:Z87→Ht (u9x⊕Bool))(x:Z87):Ht (u9x⊕Bool):=cond (decide (x.2.2.2<x.2.2.1)) (cond (y4q x.2.2.2 x.2.1.length) ((s5w (rdL t7u x.2.1 x.2.2.2.toNat)).bind fun y1=>cond (!y1) (some (.inr false)) (g (x.1,x.2.1,x.2.2.1,IntKind.i64.wrap (x.2.2.2+1)))) none) (some (.inl x.1))
def t8w:=lpW _ _ t8n
theorem r93 x:t8w x=t8n t8w x:=zW r9o 127 Tryz.f127 2 93 x (by kernel_rfl)
def q5k (x:u9x):Ht Bool:=(t8w (x,x.2.2.2.2.1,(x.2.2.2.2.1.length:Int),0)).bind fun r2=>match r2 with | .inl o3=>((((u1b (o3.1,1,9999)).bind fun y4=>cond (!y4) (some true) ((u1b (o3.2.1,1,3)).bind fun y5=>cond (!y5) (some true) ((u1b (o3.2.2.1,0,9999)).bind fun y6=>cond (!y6) (some true) (cond (decide ((o3.2.2.2.2.1.length:Int)>(8:Int))) (some true) ((s20 o3.2.2.2.2.2.1).bind fun y7=>cond (!y7) (some true) (cond o3.2.2.2.2.2.2.1 (some (decide (o3.2.1=1))) (some false))))))):Ht Bool).bind fun j8=>cond j8 (some false) (((cond (decide (o3.2.1=3)) ((u1b (o3.2.2.2.1,IntKind.i64.wrap (o3.2.2.1+1),9999)).bind fun y9=>cond (!y9) (some true) (cond (!decide (o3.2.1=3)) (some (!decide (o3.2.2.2.1=0))) (some false))) (cond (!decide (o3.2.1=3)) (some (!decide (o3.2.2.2.1=0))) (some false))):Ht Bool).bind fun j10=>cond j10 (some false) (((cond (decide (o3.2.1=2)) ((u8f o3.2.2.2.2.2.2.2).bind fun y11=>cond y11 (some true) (cond (!decide (o3.2.1=2)) (some (z7o o3.2.2.2.2.2.2.2 (⟨#[]⟩:Hs))) (some false))) (cond (!decide (o3.2.1=2)) (some (z7o o3.2.2.2.2.2.2.2 (⟨#[]⟩:Hs))) (some false))):Ht Bool).bind fun j12=>some j12))) | .inr z13=>some z13
theorem p7h:u6u=q5k:=zC 127 rfl Tryz.func127 (by kernel_rfl)
def u99(x:u9x):Ht s6h:=zK 99 x
def t4j(g:Z70→Ht (j0v⊕Unit))(x:Z70):Ht (j0v⊕Unit):=cond (decide (x.2.2.2.2<x.2.2.2.1)) (cond (y4q x.2.2.2.2 x.2.2.1.length) ((u5d (x.2.1,([(rdL t7u x.2.2.1 x.2.2.2.2.toNat).1,(rdL t7u x.2.2.1 x.2.2.2.2.toNat).2]:Hu Hs))).bind fun y3=>g (x.1,y3,x.2.2.1,x.2.2.2.1,IntKind.i64.wrap (x.2.2.2.2+1))) none) (some (.inl (x.1,x.2.1)))
def u9k:=lpW _ _ t4j
theorem r23 x:u9k x=t4j u9k x:=zW r1y 99 Tryz.f99 6 82 x (by kernel_rfl)
def t1v(g:Z69→Ht (j0v⊕Unit))(x:Z69):Ht (j0v⊕Unit):=cond (decide (x.2.2.2.2<x.2.2.2.1)) (cond (y4q x.2.2.2.2 x.2.2.1.length) ((u5d (x.2.1,([(rdL u12 x.2.2.1 x.2.2.2.2.toNat).1,(rdL u12 x.2.2.1 x.2.2.2.2.toNat).2.1]:Hu Hs))).bind fun y7=>(u6g (y7,(rdL u12 x.2.2.1 x.2.2.2.2.toNat).2.2)).bind fun y8=>g (x.1,y8,x.2.2.1,x.2.2.2.1,IntKind.i64.wrap (x.2.2.2.2+1))) none) (some (.inl (x.1,x.2.1)))
def u7l:=lpW _ _ t1v
theorem s8y x:u7l x=t1v u7l x:=zW s7r 99 Tryz.f99 12 82 x (by kernel_rfl)
def r8a (x:u9x):Ht s6h:=(u6u x).bind fun y1=>cond (!y1) (some ((⟨#[]⟩:Hs),false)) ((u4x (([]:Hu Int),([x.1,x.2.1,x.2.2.1,x.2.2.2.1,(x.2.2.2.2.1.length:Int)]:Hu Int))).bind fun y2=>(u9k (x,y2,x.2.2.2.2.1,(x.2.2.2.2.1.length:Int),0)).bind fun r4=>match r4 with | .inl o5=>((u4x (o5.2,([(o5.1.2.2.2.2.2.1.length:Int)]:Hu Int))).bind fun y6=>(u7l (o5.1,y6,o5.1.2.2.2.2.2.1,(o5.1.2.2.2.2.2.1.length:Int),0)).bind fun r9=>match r9 with | .inl o10=>((u6g (o10.2,o10.1.2.2.2.2.2.2.1)).bind fun y11=>(u5d (y11,([o10.1.2.2.2.2.2.2.2]:Hu Hs))).bind fun y12=>some (y7g y12,true)) | .inr z13=>none) | .inr z14=>none)
theorem p1e:u99=r8a:=zC 99 rfl Tryz.func99 (by kernel_rfl)
def t86(x:u9x):Ht Bool:=zK 128 x
def p0t (x:u9x):Ht Bool:=some (decide (x.2.1=2))
theorem p1i:t86=p0t:=zC 128 rfl Tryz.func128 (by kernel_rfl)
def t7b(x:Z49):Ht Bool:=zK 290 x
def q1e (x:Z49):Ht Bool:=some (decide (x.1.1=x.2.1))
theorem q2m:t7b=q1e:=zC 290 rfl Tryz.func290 (by kernel_rfl)
def u3l(x:Z81):Ht Int:=zK 10017 x
def u2y(g:Z64→Ht p3z)(x:Z64):Ht p3z:=cond (decide (x.2.2.2<x.2.2.1)) (cond (y4q x.2.2.2 x.1.length) ((t7b (rdL u0a x.1 x.2.2.2.toNat,x.2.1)).bind fun y1=>cond y1 (some (.inr x.2.2.2)) (g (x.1,x.2.1,x.2.2.1,IntKind.i64.wrap (x.2.2.2+1)))) none) (some (.inl ()))
def u0w:=lpW _ _ u2y
theorem u62 x:u0w x=u2y u0w x:=zW u2z 10017 Tryz.f287 2 19 x (by kernel_rfl)
def u3g (x:Z81):Ht Int:=(u0w (x.1,x.2,(x.1.length:Int),0)).bind fun r2=>match r2 with | .inl o3=>some (- 1:Int) | .inr z4=>some z4
theorem u77:u3l=u3g:=zC 10017 rfl Tryz.func287 (by kernel_rfl)
def u2t(x:Z81):Ht Bool:=zK 10016 x
def u2o (x:Z81):Ht Bool:=(u3l x).bind fun y1=>some (decide (y1≥0))
theorem u6z:u2t=u2o:=zC 10016 rfl Tryz.func204 (by kernel_rfl)
def u5p(x:Z81):Ht Bool:=zK 10015 x
def t0x (x:Z81):Ht Bool:=(u2t x).bind fun y1=>some y1
theorem s1k:u5p=t0x:=zC 10015 rfl Tryz.func93 (by kernel_rfl)
def u94(x:o46):Ht Bool:=zK 170 x
def t0l(g:j3h→Ht s1h)(x:j3h):Ht s1h:=cond (decide (x.2.2.2.2<x.2.2.2.1)) (cond (y4q x.2.2.2.2 x.2.2.1.length) (cond (decide ((rdL u0a x.2.2.1 x.2.2.2.2.toNat).1≥x.2.1)) (some (.inr false)) (cond (decide (0≤(0:Int))&&decide ((0:Int)≤x.2.2.2.2)&&decide (x.2.2.2.2≤(x.1.length:Int))) ((u5p ((x.1.take x.2.2.2.2.toNat).drop (0:Int).toNat,rdL u0a x.2.2.1 x.2.2.2.2.toNat)).bind fun y1=>cond y1 (some (.inr false)) (g (x.1,x.2.1,x.2.2.1,x.2.2.2.1,IntKind.i64.wrap (x.2.2.2.2+1)))) none)) none) (some (.inl ()))
def t0t:=lpW _ _ t0l
theorem s5j x:t0t x=t0l t0t x:=zW s4l 170 Tryz.f170 2 26 x (by kernel_rfl)
def r05 (x:o46):Ht Bool:=(t0t (x.1,x.2,x.1,(x.1.length:Int),0)).bind fun r2=>match r2 with | .inl o3=>some true | .inr z4=>some z4
theorem q60:u94=r05:=zC 170 rfl Tryz.func170 (by kernel_rfl)
def t0g(x:(Unit×Int)):Ht r0o:=zK 291 x
def t7v (x:(Unit×Int)):Ht r0o:=cond (decide (x.2<0)) none (cond (decide ((IntKind.i64.wrap (x.2 - (IntKind.i64.wrap ((0:Int) - (0:Int)))))>0)) (cond (decide (0≤(0:Int))&&decide ((0:Int)≤(0:Int))&&decide ((0:Int)≤0)) (cond (decide (1≤(IntKind.i64.wrap (x.2 - (IntKind.i64.wrap ((0:Int) - (0:Int))))))&&decide ((IntKind.i64.wrap (x.2 - (IntKind.i64.wrap ((0:Int) - (0:Int)))))≤1099511627776)) (cond (decide (0≤(0:Int))&&decide ((0:Int)≤(0:Int))&&decide ((0:Int)≤((List.replicate (IntKind.i64.wrap (x.2 - (IntKind.i64.wrap ((0:Int) - (0:Int))))).toNat u0a.zero).length:Int))) (some ((List.replicate (IntKind.i64.wrap (x.2 - (IntKind.i64.wrap ((0:Int) - (0:Int))))).toNat u0a.zero).take ((0:Int).toNat - (0:Int).toNat))) none) none) none) (some ([]:Hu u0a.den)))
theorem r3r:t0g=t7v:=zC 291 rfl Tryz.func291 (by kernel_rfl)
def u27(x:o60):Ht r0o:=zK 171 x
def u4c(g:j29→Ht (j4w⊕Unit))(x:j29):Ht (j4w⊕Unit):=cond (decide (x.2.2.2.2<x.2.2.2.1)) (cond (y4q x.2.2.2.2 x.2.2.1.length) (cond (decide ((IntKind.i64.wrap (x.2.1+((rdL (Ty.sl u0a) x.2.2.1 x.2.2.2.2.toNat).length:Int)))<0)) none (g (x.1,IntKind.i64.wrap (x.2.1+((rdL (Ty.sl u0a) x.2.2.1 x.2.2.2.2.toNat).length:Int)),x.2.2.1,x.2.2.2.1,IntKind.i64.wrap (x.2.2.2.2+1)))) none) (some (.inl (x.1,x.2.1)))
def u2e:=lpW _ _ u4c
theorem t3b x:u2e x=u4c u2e x:=zW t27 171 Tryz.f171 3 36 x (by kernel_rfl)
def u3n(g:j3j→Ht o7c)(x:j3j):Ht o7c:=cond (decide (x.2.2.2<x.2.2.1)) (cond (y4q x.2.2.2 x.2.1.length) (cond (Nat.ble (x.1.length+(rdL (Ty.sl u0a) x.2.1 x.2.2.2.toNat).length) z7w) (g (x.1++(rdL (Ty.sl u0a) x.2.1 x.2.2.2.toNat),x.2.1,x.2.2.1,IntKind.i64.wrap (x.2.2.2+1))) none) none) (some (.inl x.1))
def u17:=lpW _ _ u3n
theorem t1k x:u17 x=u3n u17 x:=zW t1f 171 Tryz.f171 11 36 x (by kernel_rfl)
def t54 (x:o60):Ht r0o:=(u2e (x,0,x,(x.length:Int),0)).bind fun r1=>match r1 with | .inl o2=>((t0g ((),o2.2)).bind fun y3=>(u17 (y3,o2.1,(o2.1.length:Int),0)).bind fun r4=>match r4 with | .inl o5=>some o5 | .inr z6=>none) | .inr z7=>none
theorem s7h:u27=t54:=zC 171 rfl Tryz.func171 (by kernel_rfl)
def t77(x:s9h):Ht Bool:=zK 230 x
def u8n(g:j0z→Ht (s9h⊕Bool))(x:j0z):Ht (s9h⊕Bool):=cond (decide (x.2.2.2<x.2.2.1)) (cond (y4q x.2.2.2 x.2.1.length) ((((u8f (rdL u0d x.2.1 x.2.2.2.toNat).1).bind fun y1=>cond (!y1) (some true) (cond (decide (((rdL u0d x.2.1 x.2.2.2.toNat).2.1.size:Int)>(12:Int))) (some true) (cond (rdL u0d x.2.1 x.2.2.2.toNat).2.2.1 (cond (!z7o (rdL u0d x.2.1 x.2.2.2.toNat).2.1 (⟨#[]⟩:Hs)) (some true) ((u1b ((rdL u0d x.2.1 x.2.2.2.toNat).2.2.2,1,9999)).bind fun y2=>cond (!y2) (some true) (cond (decide (x.2.2.2>0)) (cond (y4q (IntKind.i64.wrap (x.2.2.2 - 1)) x.1.length) ((u4w (rdL u0d x.1 (IntKind.i64.wrap (x.2.2.2 - 1)).toNat,rdL u0d x.2.1 x.2.2.2.toNat)).bind fun y3=>some (decide (y3≥0))) none) (some false)))) ((u1b ((rdL u0d x.2.1 x.2.2.2.toNat).2.2.2,1,9999)).bind fun y4=>cond (!y4) (some true) (cond (decide (x.2.2.2>0)) (cond (y4q (IntKind.i64.wrap (x.2.2.2 - 1)) x.1.length) ((u4w (rdL u0d x.1 (IntKind.i64.wrap (x.2.2.2 - 1)).toNat,rdL u0d x.2.1 x.2.2.2.toNat)).bind fun y5=>some (decide (y5≥0))) none) (some false)))))):Ht Bool).bind fun j6=>cond j6 (some (.inr false)) (g (x.1,x.2.1,x.2.2.1,IntKind.i64.wrap (x.2.2.2+1)))) none) (some (.inl x.1))
def u8w:=lpW _ _ u8n
theorem s3t x:u8w x=u8n u8w x:=zW s2h 230 Tryz.f230 2 55 x (by kernel_rfl)
def s6x (x:s9h):Ht Bool:=(u8w (x,x,(x.length:Int),0)).bind fun r7=>match r7 with | .inl o8=>some (decide ((o8.length:Int)≤(120:Int))) | .inr z9=>some z9
theorem q37:t77=s6x:=zC 230 rfl Tryz.func230 (by kernel_rfl)
def u2c(x:Z99):Ht Bool:=zK 115 x
def t6d(g:Z60→Ht o7e)(x:Z60):Ht o7e:=cond (decide (x.2.2.2<x.2.2.1)) (cond (y4q x.2.2.2 x.2.1.length) (cond (decide ((rdL u0d x.2.1 x.2.2.2.toNat).2.2.2>x.1.2.2.2.1)) (some (.inr false)) (g (x.1,x.2.1,x.2.2.1,IntKind.i64.wrap (x.2.2.2+1)))) none) (some (.inl x.1))
def t05:=lpW _ _ t6d
theorem r6y x:t05 x=t6d t05 x:=zW r5s 115 Tryz.f115 4 139 x (by kernel_rfl)
def t38(g:Z54→Ht o7e)(x:Z54):Ht o7e:=cond (decide (x.2.2.2<x.2.2.1)) (cond (y4q x.2.2.2 x.2.1.length) ((((u6u (rdL u0a x.2.1 x.2.2.2.toNat)).bind fun y7=>cond (!y7) (some true) ((u6v (rdL u0a x.2.1 x.2.2.2.toNat)).bind fun y8=>cond (!y8) (some true) (cond (decide ((rdL u0a x.2.1 x.2.2.2.toNat).2.2.2.1>x.1.2.2.2.1)) (some true) (cond (decide (x.2.2.2>0)) (cond (y4q (IntKind.i64.wrap (x.2.2.2 - 1)) x.1.2.1.length) (some (decide ((rdL u0a x.1.2.1 (IntKind.i64.wrap (x.2.2.2 - 1)).toNat).2.2.2.1≥(rdL u0a x.2.1 x.2.2.2.toNat).2.2.2.1))) none) (some false))))):Ht Bool).bind fun j9=>cond j9 (some (.inr false)) (g (x.1,x.2.1,x.2.2.1,IntKind.i64.wrap (x.2.2.2+1)))) none) (some (.inl x.1))
def u9f:=lpW _ _ t38
theorem r2s x:u9f x=t38 u9f x:=zW r1m 115 Tryz.f115 10 139 x (by kernel_rfl)
def t39(g:Z54→Ht o7e)(x:Z54):Ht o7e:=cond (decide (x.2.2.2<x.2.2.1)) (cond (y4q x.2.2.2 x.2.1.length) ((((u6u (rdL u0a x.2.1 x.2.2.2.toNat)).bind fun y12=>cond (!y12) (some true) ((t86 (rdL u0a x.2.1 x.2.2.2.toNat)).bind fun y13=>cond (!y13) (some true) (cond (decide ((rdL u0a x.2.1 x.2.2.2.toNat).2.2.1>x.1.2.2.2.1)) (some true) (cond (decide (x.2.2.2>0)) (cond (y4q (IntKind.i64.wrap (x.2.2.2 - 1)) x.1.2.2.1.length) (some (!y3c (rdL u0a x.1.2.2.1 (IntKind.i64.wrap (x.2.2.2 - 1)).toNat).2.2.2.2.2.2.2 (rdL u0a x.2.1 x.2.2.2.toNat).2.2.2.2.2.2.2)) none) (some false))))):Ht Bool).bind fun j14=>cond j14 (some (.inr false)) (g (x.1,x.2.1,x.2.2.1,IntKind.i64.wrap (x.2.2.2+1)))) none) (some (.inl x.1))
def u9g:=lpW _ _ t39
theorem r2t x:u9g x=t39 u9g x:=zW r1n 115 Tryz.f115 16 139 x (by kernel_rfl)
def q02 (x:Z99):Ht Bool:=(((t77 x.1).bind fun y1=>cond (!y1) (some true) (cond (decide ((x.2.1.length:Int)>(12:Int))) (some true) (cond (decide ((x.2.2.1.length:Int)>(3:Int))) (some true) ((u1b (x.2.2.2.1,0,9999)).bind fun y2=>cond (!y2) (some true) ((u1b (x.2.2.2.2,1,9999)).bind fun y3=>some (!y3)))))):Ht Bool).bind fun j4=>cond j4 (some false) ((t05 (x,x.1,(x.1.length:Int),0)).bind fun r5=>match r5 with | .inl o6=>((u9f (o6,o6.2.1,(o6.2.1.length:Int),0)).bind fun r10=>match r10 with | .inl o11=>((u9g (o11,o11.2.2.1,(o11.2.2.1.length:Int),0)).bind fun r15=>match r15 with | .inl o16=>((u27 ([o16.2.1,o16.2.2.1]:Hu r0o)).bind fun y17=>(u94 (y17,o16.2.2.2.2)).bind fun y18=>some y18) | .inr z19=>some z19) | .inr z20=>some z20) | .inr z21=>some z21)
theorem p4n:u2c=q02:=zC 115 rfl Tryz.func115 (by kernel_rfl)
def s2t(x:Z99):Ht s6h:=zK 35 x
def t1o(g:Z56→Ht (Z82⊕Unit))(x:Z56):Ht (Z82⊕Unit):=cond (decide (x.2.2.2.2<x.2.2.2.1)) (cond (y4q x.2.2.2.2 x.2.2.1.length) ((u5d (x.2.1,([(rdL u0d x.2.2.1 x.2.2.2.2.toNat).1,(rdL u0d x.2.2.1 x.2.2.2.2.toNat).2.1]:Hu Hs))).bind fun y3=>(u6g (y3,(rdL u0d x.2.2.1 x.2.2.2.2.toNat).2.2.1)).bind fun y4=>(u4x (y4,([(rdL u0d x.2.2.1 x.2.2.2.2.toNat).2.2.2]:Hu Int))).bind fun y5=>g (x.1,y5,x.2.2.1,x.2.2.2.1,IntKind.i64.wrap (x.2.2.2.2+1))) none) (some (.inl (x.1,x.2.1)))
def u7k:=lpW _ _ t1o
theorem s8r x:u7k x=t1o u7k x:=zW s7k 35 Tryz.f35 6 94 x (by kernel_rfl)
def t0h(g:Z86→Ht (j0w⊕Unit))(x:Z86):Ht (j0w⊕Unit):=cond (decide (x.2.2.2.2.2.2<x.2.2.2.2.2.1)) (cond (y4q x.2.2.2.2.2.2 x.2.2.2.2.1.length) ((u99 (rdL u0a x.2.2.2.2.1 x.2.2.2.2.2.2.toNat)).bind fun y9=>cond (Nat.ble (x.1.length+(z7t y9.1).length) z7w) (g (x.1++(z7t y9.1),x.2.1,x.2.2.1,x.2.2.2.1,x.2.2.2.2.1,x.2.2.2.2.2.1,IntKind.i64.wrap (x.2.2.2.2.2.2+1))) none) none) (some (.inl (x.1,x.2.1,x.2.2.1,x.2.2.2.1)))
def u6m:=lpW _ _ t0h
theorem s5f x:u6m x=t0h u6m x:=zW s4h 35 Tryz.f35 17 94 x (by kernel_rfl)
def u6h(g:j0w→Ht o7d)(x:j0w):Ht o7d:=cond (decide (x.2.2.2<x.2.2.1)) (cond (y4q x.2.2.2 x.2.1.length) ((u4x (x.1,([((rdL (Ty.sl u0a) x.2.1 x.2.2.2.toNat).length:Int)]:Hu Int))).bind fun y8=>(u6m (y8,x.2.1,x.2.2.1,x.2.2.2,rdL (Ty.sl u0a) x.2.1 x.2.2.2.toNat,((rdL (Ty.sl u0a) x.2.1 x.2.2.2.toNat).length:Int),0)).bind fun r10=>match r10 with | .inl o11=>g (o11.1,o11.2.1,o11.2.2.1,IntKind.i64.wrap (o11.2.2.2+1)) | .inr z12=>some (.inr ())) none) (some (.inl x.1))
def t0s:=lpW _ _ u6h
theorem t7q x:t0s x=u6h t0s x:=zW s4g 35 Tryz.f35 13 94 x (by kernel_rfl)
def r4h (x:Z99):Ht s6h:=(u2c x).bind fun y1=>cond (!y1) (some ((⟨#[]⟩:Hs),false)) ((u4x (([]:Hu Int),([x.2.2.2.1,x.2.2.2.2,(x.1.length:Int)]:Hu Int))).bind fun y2=>(u7k (x,y2,x.1,(x.1.length:Int),0)).bind fun r6=>match r6 with | .inl o7=>((t0s (o7.2,([o7.1.2.1,o7.1.2.2.1]:Hu r0o),(([o7.1.2.1,o7.1.2.2.1]:Hu r0o).length:Int),0)).bind fun r13=>match r13 with | .inl o14=>some (y7g o14,true) | .inr z15=>none) | .inr z16=>none)
theorem q8d:s2t=r4h:=zC 35 rfl Tryz.func35 (by kernel_rfl)
def s22(x:u9x):Ht Bool:=zK 125 x
def r4v (x:u9x):Ht Bool:=((cond (decide (x.1=0)) (cond (decide (x.2.1=0)) (cond (decide (x.2.2.1=0)) (cond (decide (x.2.2.2.1=0)) (cond (decide ((x.2.2.2.2.1.length:Int)=(0:Int))) (cond (decide ((x.2.2.2.2.2.1.length:Int)=(0:Int))) (cond (!x.2.2.2.2.2.2.1) (some (z7o x.2.2.2.2.2.2.2 (⟨#[]⟩:Hs))) (some false)) (some false)) (some false)) (some false)) (some false)) (some false)) (some false)):Ht Bool).bind fun j1=>some j1
theorem q8s:s22=r4v:=zC 125 rfl Tryz.func125 (by kernel_rfl)
def s0g(x:Z99):Ht Bool:=zK 126 x
def r03 (x:Z99):Ht Bool:=((cond (decide ((x.1.length:Int)=(0:Int))) (cond (decide ((x.2.1.length:Int)=(0:Int))) (cond (decide ((x.2.2.1.length:Int)=(0:Int))) (cond (decide (x.2.2.2.1=0)) (some (decide (x.2.2.2.2=0))) (some false)) (some false)) (some false)) (some false)):Ht Bool).bind fun j1=>some j1
theorem q6y:s0g=r03:=zC 126 rfl Tryz.func126 (by kernel_rfl)
def t68(x:Z35):Ht Bool:=zK 40 x
def r4o (x:Z35):Ht Bool:=(s22 x.2.1).bind fun y1=>(s0g x.2.2.2.2).bind fun y2=>cond (decide (x.1=1)) ((((u6u x.2.1).bind fun y3=>cond y3 ((u6v x.2.1).bind fun y4=>some y4) (some false)):Ht Bool).bind fun j5=>((cond j5 (cond (z7o x.2.2.1 (⟨#[]⟩:Hs)) (cond y2 (cond (!x.2.2.2.1) (some true) (some (decide (x.1=3)))) (some false)) (some false)) (some false)):Ht Bool).bind fun j6=>some j6) (cond (decide (x.1=2)) ((((u6u x.2.1).bind fun y7=>cond y7 ((t86 x.2.1).bind fun y8=>some y8) (some false)):Ht Bool).bind fun j9=>((cond j9 (cond (z7o x.2.2.1 (⟨#[]⟩:Hs)) (cond y2 (cond (!x.2.2.2.1) (some true) (some (decide (x.1=3)))) (some false)) (some false)) (some false)):Ht Bool).bind fun j10=>some j10) (cond (decide (x.1=3)) ((u8f x.2.2.1).bind fun y11=>((cond y1 (cond y11 (cond y2 (cond (!x.2.2.2.1) (some true) (some (decide (x.1=3)))) (some false)) (some false)) (some false)):Ht Bool).bind fun j12=>some j12) (cond (decide (x.1=4)) ((u2c x.2.2.2.2).bind fun y13=>((cond y1 (cond (z7o x.2.2.1 (⟨#[]⟩:Hs)) (cond y13 (cond (!x.2.2.2.1) (some true) (some (decide (x.1=3)))) (some false)) (some false)) (some false)):Ht Bool).bind fun j14=>some j14) (some false))))
theorem q8k:t68=r4o:=zC 40 rfl Tryz.func40 (by kernel_rfl)
def s5y(x:o5a):Ht Int:=zK 316 x
def r0r(g:j1k→Ht (o7j⊕Unit))(x:j1k):Ht (o7j⊕Unit):=cond (decide (x.2.2.2<8)) (cond (decide ((Int.tmod x.1 (2:Int))=1)) (g (IntKind.u32.wrap ((BitVec.ofInt IntKind.u32.bits (IntKind.u32.wrap (Int.tdiv x.1 (2:Int)))^^^BitVec.ofInt IntKind.u32.bits (3558460437:Int)).toNat:Int),x.2.1,x.2.2.1,IntKind.i64.wrap (x.2.2.2+1))) (g (IntKind.u32.wrap (Int.tdiv x.1 (2:Int)),x.2.1,x.2.2.1,IntKind.i64.wrap (x.2.2.2+1)))) (some (.inl (x.1,x.2.1,x.2.2.1)))
def t47:=lpW _ _ r0r
theorem q7i x:t47 x=r0r t47 x:=zW r1t 316 Tryz.f316 6 33 x (by kernel_rfl)
def t4e(g:o7j→Ht o1k)(x:o7j):Ht o1k:=cond (decide (x.2.2<(x.2.1.size:Int))) (cond (y4q x.2.2 x.2.1.size) ((t47 (IntKind.u32.wrap ((BitVec.ofInt IntKind.u32.bits x.1^^^BitVec.ofInt IntKind.u32.bits (IntKind.u32.wrap ((x.2.1.data.toList.getD x.2.2.toNat 0).toNat:Int))).toNat:Int),x.2.1,x.2.2,0)).bind fun r1=>match r1 with | .inl o2=>g (o2.1,o2.2.1,IntKind.i64.wrap (o2.2.2+1)) | .inr z3=>some (.inr ())) none) (some (.inl x.1))
def t45:=lpW _ _ t4e
theorem r2y x:t45 x=t4e t45 x:=zW r1s 316 Tryz.f316 2 33 x (by kernel_rfl)
def r76 (x:o5a):Ht Int:=(t45 (x.1,x.2,0)).bind fun r4=>match r4 with | .inl o5=>some o5 | .inr z6=>none
theorem p1a:s5y=r76:=zC 316 rfl Tryz.func316 (by kernel_rfl)
def q6a(x:Hs):Ht Int:=zK 210 x
def q5j (x:Hs):Ht Int:=(s5y (4294967295,x)).bind fun y1=>some y1
theorem p7g:q6a=q5j:=zC 210 rfl Tryz.func210 (by kernel_rfl)
def t2z(x:Hs):Ht s6h:=zK 100 x
def q09 (x:Hs):Ht s6h:=cond (decide ((x.size:Int)>(20000:Int))) (some ((⟨#[]⟩:Hs),false)) ((q6a x).bind fun y1=>cond (decide (x.size+(y7g ([IntKind.u8.wrap (Int.fdiv y1 (2^(min (24:Int).toNat IntKind.u32.bits))),IntKind.u8.wrap (Int.fdiv y1 (2^(min (16:Int).toNat IntKind.u32.bits))),IntKind.u8.wrap (Int.fdiv y1 (2^(min (8:Int).toNat IntKind.u32.bits))),IntKind.u8.wrap y1]:Hu Int)).size≤140737488355328)) (some (x++(y7g ([IntKind.u8.wrap (Int.fdiv y1 (2^(min (24:Int).toNat IntKind.u32.bits))),IntKind.u8.wrap (Int.fdiv y1 (2^(min (16:Int).toNat IntKind.u32.bits))),IntKind.u8.wrap (Int.fdiv y1 (2^(min (8:Int).toNat IntKind.u32.bits))),IntKind.u8.wrap y1]:Hu Int)),true)) none)
theorem p4u:t2z=q09:=zC 100 rfl Tryz.func100 (by kernel_rfl)
def u7z(x:Z35):Ht s6h:=zK 30 x
def s6t (x:Z35):Ht s6h:=(t68 x).bind fun y1=>cond (!y1) (some ((⟨#[]⟩:Hs),false)) (cond (decide (x.1=3)) ((u5d (([(IntKind.u8.wrap x.1)]:Hu Int),([x.2.2.1]:Hu Hs))).bind fun y2=>(u6g (y2,x.2.2.2.1)).bind fun y3=>(t2z (y7g y3)).bind fun y4=>some y4) (cond (decide (x.1=4)) ((s2t x.2.2.2.2).bind fun y5=>cond (Nat.ble (([(IntKind.u8.wrap x.1)]:Hu Int).length+(z7t y5.1).length) z7w) ((t2z (y7g (([(IntKind.u8.wrap x.1)]:Hu Int)++(z7t y5.1)))).bind fun y6=>some y6) none) ((u99 x.2.1).bind fun y7=>cond (Nat.ble (([(IntKind.u8.wrap x.1)]:Hu Int).length+(z7t y7.1).length) z7w) ((t2z (y7g (([(IntKind.u8.wrap x.1)]:Hu Int)++(z7t y7.1)))).bind fun y8=>some y8) none)))
theorem q33:u7z=s6t:=zC 30 rfl Tryz.func30 (by kernel_rfl)
def s2z(x:Hs):Ht s6h:=zK 101 x
def r4q (x:Hs):Ht s6h:=cond (decide ((x.size:Int)<(4:Int))) (some ((⟨#[]⟩:Hs),false)) (cond (decide (0≤(0:Int))&&decide ((0:Int)≤(IntKind.i64.wrap ((x.size:Int) - (4:Int))))&&decide ((IntKind.i64.wrap ((x.size:Int) - (4:Int)))≤(x.size:Int))) ((t2z (x.extract (0:Int).toNat (IntKind.i64.wrap ((x.size:Int) - (4:Int))).toNat)).bind fun y1=>((cond (!y1.2) (some true) (some (!z7o y1.1 x))):Ht Bool).bind fun j2=>cond j2 (some ((⟨#[]⟩:Hs),false)) (some (x.extract (0:Int).toNat (IntKind.i64.wrap ((x.size:Int) - (4:Int))).toNat,true))) none)
theorem q8n:s2z=r4q:=zC 101 rfl Tryz.func101 (by kernel_rfl)
def t85(x:p8u):Ht o7i:=zK 317 x
def t4d(g:(Hs×o7g)→Ht (Unit⊕o7i))(x:(Hs×o7g)):Ht (Unit⊕o7i):=((cond (decide (x.2.2.2<5)) (some (decide ((IntKind.i64.wrap (x.2.1+x.2.2.2))<(x.1.size:Int)))) (some false)):Ht Bool).bind fun j2=>cond j2 (cond (y4q (IntKind.i64.wrap (x.2.1+x.2.2.2)) x.1.size) (cond (decide (0≤(IntKind.i64.wrap ((7:Int)*x.2.2.2)))) (cond (decide ((IntKind.i64.wrap ((x.1.data.toList.getD (IntKind.i64.wrap (x.2.1+x.2.2.2)).toNat 0).toNat:Int))<128)) ((t0a (IntKind.i64.wrap (x.2.2.1+(IntKind.i64.wrap ((Int.tmod (IntKind.i64.wrap ((x.1.data.toList.getD (IntKind.i64.wrap (x.2.1+x.2.2.2)).toNat 0).toNat:Int)) (128:Int))*2^(min (IntKind.i64.wrap ((7:Int)*x.2.2.2)).toNat IntKind.i64.bits)))))).bind fun y3=>((cond (!y3.2) (some true) (some (!decide ((y3.1.size:Int)=(IntKind.i64.wrap (x.2.2.2+1)))))):Ht Bool).bind fun j4=>cond j4 (some (.inr (0,0,false))) (some (.inr (IntKind.i64.wrap (x.2.2.1+(IntKind.i64.wrap ((Int.tmod (IntKind.i64.wrap ((x.1.data.toList.getD (IntKind.i64.wrap (x.2.1+x.2.2.2)).toNat 0).toNat:Int)) (128:Int))*2^(min (IntKind.i64.wrap ((7:Int)*x.2.2.2)).toNat IntKind.i64.bits)))),IntKind.i64.wrap ((IntKind.i64.wrap (x.2.1+x.2.2.2))+1),true)))) (g (x.1,x.2.1,IntKind.i64.wrap (x.2.2.1+(IntKind.i64.wrap ((Int.tmod (IntKind.i64.wrap ((x.1.data.toList.getD (IntKind.i64.wrap (x.2.1+x.2.2.2)).toNat 0).toNat:Int)) (128:Int))*2^(min (IntKind.i64.wrap ((7:Int)*x.2.2.2)).toNat IntKind.i64.bits)))),IntKind.i64.wrap (x.2.2.2+1)))) none) none) (some (.inl ()))
def t44:=lpW _ _ t4d
theorem r2x x:t44 x=t4d t44 x:=zW r1r 317 Tryz.f317 5 63 x (by kernel_rfl)
def r73 (x:p8u):Ht o7i:=(u1b (x.2,0,(x.1.size:Int))).bind fun y1=>cond (!y1) (some (0,0,false)) ((t44 (x.1,x.2,0,0)).bind fun r5=>match r5 with | .inl o6=>some (0,0,false) | .inr z7=>some z7)
theorem p07:t85=r73:=zC 317 rfl Tryz.func317 (by kernel_rfl)
def t5j(x:p8u):Ht q0u:=zK 211 x
def r0y (x:p8u):Ht q0u:=(t85 x).bind fun y1=>((cond (!y1.2.2) (some true) (cond (decide (y1.1>20000)) (some true) (some (decide (y1.1>(IntKind.i64.wrap ((x.1.size:Int) - y1.2.1))))))):Ht Bool).bind fun j2=>cond j2 (some ((⟨#[]⟩:Hs),0,false)) (cond (decide (0≤y1.2.1)&&decide (y1.2.1≤(IntKind.i64.wrap (y1.2.1+y1.1)))&&decide ((IntKind.i64.wrap (y1.2.1+y1.1))≤(x.1.size:Int))) (some (x.1.extract y1.2.1.toNat (IntKind.i64.wrap (y1.2.1+y1.1)).toNat,IntKind.i64.wrap (y1.2.1+y1.1),true)) none)
theorem q6s:t5j=r0y:=zC 211 rfl Tryz.func211 (by kernel_rfl)
def u1w(x:q0u):Ht j1a:=zK 102 x
def s4a (x:q0u):Ht j1a:=(t5j (x.1,x.2.1)).bind fun y1=>((cond x.2.2 (some true) (some (!y1.2.2))):Ht Bool).bind fun j2=>cond j2 (some ((⟨#[]⟩:Hs),x.1,x.2.1,true)) (some (y1.1,x.1,y1.2.1,x.2.2))
theorem q2p:u1w=s4a:=zC 102 rfl Tryz.func102 (by kernel_rfl)
def u48(x:q0u):Ht (Bool×q0u):=zK 103 x
def s39 (x:q0u):Ht (Bool×q0u):=((cond x.2.2 (some true) ((u1b (x.2.1,0,IntKind.i64.wrap ((x.1.size:Int) - (1:Int)))).bind fun y1=>cond (!y1) (some true) (cond (y4q x.2.1 x.1.size) (some (decide (((x.1.data.toList.getD x.2.1.toNat 0).toNat:Int)>(1:Int)))) none))):Ht Bool).bind fun j2=>cond j2 (some (false,x.1,x.2.1,true)) (cond (y4q (IntKind.i64.wrap ((IntKind.i64.wrap (x.2.1+1)) - 1)) x.1.size) (some (decide (((x.1.data.toList.getD (IntKind.i64.wrap ((IntKind.i64.wrap (x.2.1+1)) - 1)).toNat 0).toNat:Int)=(1:Int)),x.1,IntKind.i64.wrap (x.2.1+1),x.2.2)) none)
theorem q2o:u48=s39:=zC 103 rfl Tryz.func103 (by kernel_rfl)
def u01(x:q0u):Ht (Int×q0u):=zK 213 x
def s6z (x:q0u):Ht (Int×q0u):=(t85 (x.1,x.2.1)).bind fun y1=>((cond x.2.2 (some true) (some (!y1.2.2))):Ht Bool).bind fun j2=>cond j2 (some (0,x.1,x.2.1,true)) (some (y1.1,x.1,y1.2.1,x.2.2))
theorem q39:u01=s6z:=zC 213 rfl Tryz.func213 (by kernel_rfl)
def s03(x:Z66):Ht Z66:=zK 215 x
def s0o (x:Z66):Ht Z66:=(u1w x.1).bind fun y1=>(u1w y1.2).bind fun y2=>(u48 y2.2).bind fun y3=>(u01 y3.2).bind fun y4=>cond (Nat.ble (x.2.1.length+([(y1.1,y2.1,y3.1,y4.1)]:Hu u0d.den).length) z7w) (some (y4.2,x.2.1++([(y1.1,y2.1,y3.1,y4.1)]:Hu u0d.den),x.2.2)) none
theorem r7n:s03=s0o:=zC 215 rfl Tryz.func215 (by kernel_rfl)
def u2g(x:Z58):Ht Z58:=zK 10018 x
def u1j(g:Z55→Ht (Z58⊕Unit))(x:Z55):Ht (Z58⊕Unit):=((cond (decide (x.2.2.2<x.2.2.1)) (some (!x.1.2.2)) (some false)):Ht Bool).bind fun j2=>cond j2 ((s03 (x.1,x.2.1.2)).bind fun y3=>g (y3.1,((),y3.2),x.2.2.1,IntKind.i64.wrap (x.2.2.2+1))) (some (.inl (x.1,(),x.2.1.2)))
def u0s:=lpW _ _ u1j
theorem u4z x:u0s x=u1j u0s x:=zW u4t 10018 Tryz.f214 2 22 x (by kernel_rfl)
def u5l (x:Z58):Ht Z58:=(u01 x.1).bind fun y1=>(u0s (y1.2,((),x.2.2),y1.1,0)).bind fun r4=>match r4 with | .inl o5=>some (o5.1,(),o5.2.2) | .inr z6=>none
theorem t3d:u2g=u5l:=zC 10018 rfl Tryz.func214 (by kernel_rfl)
def s23(x:Z91):Ht Z91:=zK 218 x
def s18 (x:Z91):Ht Z91:=(u1w x.2).bind fun y1=>(u1w y1.2).bind fun y2=>cond (Nat.ble (x.1.2.2.2.2.1.length+([(y1.1,y2.1)]:Hu t7u.den).length) z7w) (some ((x.1.1,x.1.2.1,x.1.2.2.1,x.1.2.2.2.1,x.1.2.2.2.2.1++([(y1.1,y2.1)]:Hu t7u.den),x.1.2.2.2.2.2),y2.2)) none
theorem q0e:s23=s18:=zC 218 rfl Tryz.func218 (by kernel_rfl)
def u2r(x:Z77):Ht Z77:=zK 10020 x
def u1o(g:Z62→Ht (Z77⊕Unit))(x:Z62):Ht (Z77⊕Unit):=((cond (decide (x.2.2.2<x.2.2.1)) (some (!x.1.2.2)) (some false)):Ht Bool).bind fun j2=>cond j2 ((s23 (x.2.1.1,x.1)).bind fun y3=>g (y3.2,(y3.1,()),x.2.2.1,IntKind.i64.wrap (x.2.2.2+1))) (some (.inl (x.1,x.2.1.1,())))
def u0x:=lpW _ _ u1o
theorem u49 x:u0x x=u1o u0x x:=zW u46 10020 Tryz.f214 2 22 x (by kernel_rfl)
def u5s (x:Z77):Ht Z77:=(u01 x.1).bind fun y1=>(u0x (y1.2,(x.2.1,()),y1.1,0)).bind fun r4=>match r4 with | .inl o5=>some (o5.1,o5.2.1,()) | .inr z6=>none
theorem t3o:u2r=u5s:=zC 10020 rfl Tryz.func214 (by kernel_rfl)
def s24(x:Z92):Ht Z92:=zK 219 x
def s19 (x:Z92):Ht Z92:=(u1w x.1).bind fun y1=>(u1w y1.2).bind fun y2=>(u48 y2.2).bind fun y3=>cond (Nat.ble (x.2.2.2.2.2.2.1.length+([(y1.1,y2.1,y3.1)]:Hu u12.den).length) z7w) (some (y3.2,x.2.1,x.2.2.1,x.2.2.2.1,x.2.2.2.2.1,x.2.2.2.2.2.1,x.2.2.2.2.2.2.1++([(y1.1,y2.1,y3.1)]:Hu u12.den),x.2.2.2.2.2.2.2)) none
theorem q0f:s24=s19:=zC 219 rfl Tryz.func219 (by kernel_rfl)
def u2s(x:Z76):Ht Z76:=zK 10021 x
def u1p(g:Z63→Ht (Z76⊕Unit))(x:Z63):Ht (Z76⊕Unit):=((cond (decide (x.2.2.2<x.2.2.1)) (some (!x.1.2.2)) (some false)):Ht Bool).bind fun j2=>cond j2 ((s24 (x.1,x.2.1.2)).bind fun y3=>g (y3.1,((),y3.2),x.2.2.1,IntKind.i64.wrap (x.2.2.2+1))) (some (.inl (x.1,(),x.2.1.2)))
def u0y:=lpW _ _ u1p
theorem u5a x:u0y x=u1p u0y x:=zW u47 10021 Tryz.f214 2 22 x (by kernel_rfl)
def u5t (x:Z76):Ht Z76:=(u01 x.1).bind fun y1=>(u0y (y1.2,((),x.2.2),y1.1,0)).bind fun r4=>match r4 with | .inl o5=>some (o5.1,(),o5.2.2) | .inr z6=>none
theorem t3p:u2s=u5t:=zC 10021 rfl Tryz.func214 (by kernel_rfl)
def u71(x:q0u):Ht Z91:=zK 105 x
def s60 (x:q0u):Ht Z91:=(u01 x).bind fun y1=>(u01 y1.2).bind fun y2=>(u01 y2.2).bind fun y3=>(u01 y3.2).bind fun y4=>(u2r (y4.2,(y1.1,y2.1,y3.1,y4.1,([]:Hu t7u.den),([]:Hu u12.den),false,(⟨#[]⟩:Hs)),())).bind fun y5=>(u2s (y5.1,(),y5.2.1)).bind fun y6=>(u48 y6.1).bind fun y7=>(u1w y7.2).bind fun y8=>cond y8.2.2.2 (some ((y6.2.2.1,y6.2.2.2.1,y6.2.2.2.2.1,y6.2.2.2.2.2.1,y6.2.2.2.2.2.2.1,y6.2.2.2.2.2.2.2.1,y7.1,y8.1),y8.2.1,y8.2.2.1,true)) ((u6u (y6.2.2.1,y6.2.2.2.1,y6.2.2.2.2.1,y6.2.2.2.2.2.1,y6.2.2.2.2.2.2.1,y6.2.2.2.2.2.2.2.1,y7.1,y8.1)).bind fun y9=>some ((y6.2.2.1,y6.2.2.2.1,y6.2.2.2.2.1,y6.2.2.2.2.2.1,y6.2.2.2.2.2.2.1,y6.2.2.2.2.2.2.2.1,y7.1,y8.1),y8.2.1,y8.2.2.1,!y9))
theorem q4a:u71=s60:=zC 105 rfl Tryz.func105 (by kernel_rfl)
def s04(x:Z65):Ht Z65:=zK 216 x
def s0p (x:Z65):Ht Z65:=(u71 x.2).bind fun y1=>cond (Nat.ble (x.1.2.1.length+([y1.1]:Hu u0a.den).length) z7w) (some ((x.1.1,x.1.2.1++([y1.1]:Hu u0a.den),x.1.2.2),y1.2)) none
theorem r7o:s04=s0p:=zC 216 rfl Tryz.func216 (by kernel_rfl)
end
end Go.Proofs.YtkdpclfhapphhaaGreat.Ab
