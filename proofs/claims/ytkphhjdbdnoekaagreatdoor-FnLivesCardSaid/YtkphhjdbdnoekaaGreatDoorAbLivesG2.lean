import Derived.Test.YtkphhjdbdnoekaaGreatDoorAbLivesG1
namespace Go.Proofs.YtkphhjdbdnoekaaGreatDoor.Ab
open Go Tryz Go.IntKind
set_option linter.unusedVariables false
noncomputable section
set_option maxRecDepth 100000
def s6w(x:c4c):La:=zK 240 x
def o44 (x:c4c):La:=some (z7q x.1.1 x.2)
theorem o5u:s6w=o44:=zC 240 func240
def u6u(x:(j1c×Hs)):Li:=zK 10003 x
def u5a(g:c4b->Ht r51)(x:c4b):Ht r51:=cond (decide (x.2.2.2<x.2.2.1)) (cond (y4v x.2.2.2 x.1.length) ((s6w (rdL u11 x.1 x.2.2.2.toNat,x.2.1)).bind fun y1=>cond y1 (some (.inr x.2.2.2)) (g (x.1,x.2.1,x.2.2.1,i64.wrap (x.2.2.2+1)))) none) (some (.inl ()))
def u1t:=lpW _ _ u5a
theorem t3b x:u1t x=u5a u1t x:=zW u5k 10003 f239 2 19 x
def u6k (x:(j1c×Hs)):Li:=(u1t (x.1,x.2,(x.1.length:Int),0)).bind fun|.inl o3=>some (- 1:Int)|.inr z4=>some z4
theorem t5g:u6u=u6k:=zC 10003 func239
def p75(x:j9r):Li:=zK 159 x
def p7b (x:j9r):Li:=(u6u (x.1.2.2.2.2.2.1,x.2)).bind fun y1=>some y1
theorem j2y:p75=p7b:=zC 159 func159
def s9q(x:d3x):Li:=zK 241 x
def s3v(g:c3i->Ht j7r)(x:c3i):Ht j7r:=cond (decide (x.2.2.2.2.2.2<x.2.2.2.2.2.1)) (cond (y4v x.2.2.2.2.2.2 x.2.2.2.2.1.length) (((cond (z7q (rdL u0f x.2.2.2.2.1 x.2.2.2.2.2.2.toNat).1 x.2.1) (cond (decide ((rdL u0f x.2.2.2.2.1 x.2.2.2.2.2.2.toNat).2.2.2<=x.2.2.1)) (cond (decide (x.2.2.2.1<0)) (some true) (cond (y4v x.2.2.2.1 x.1.length) (some (decide ((rdL u0f x.2.2.2.2.1 x.2.2.2.2.2.2.toNat).2.2.2>(rdL u0f x.1 x.2.2.2.1.toNat).2.2.2))) none)) (some false)) (some false)):La).bind fun j1=>cond j1 (g (x.1,x.2.1,x.2.2.1,x.2.2.2.2.2.2,x.2.2.2.2.1,x.2.2.2.2.2.1,i64.wrap (x.2.2.2.2.2.2+1))) (g (x.1,x.2.1,x.2.2.1,x.2.2.2.1,x.2.2.2.2.1,x.2.2.2.2.2.1,i64.wrap (x.2.2.2.2.2.2+1)))) none) (some (.inl x.2.2.2.1))
def t7l:=lpW _ _ s3v
theorem q69 x:t7l x=s3v t7l x:=zW q59 241 f241 3 44 x
def p2y (x:d3x):Li:=(t7l (x.1,x.2.1,x.2.2,(- 1:Int),x.1,(x.1.length:Int),0)).bind fun|.inl o3=>some o3|.inr z4=>none
theorem o9z:s9q=p2y:=zC 241 func241
def r9n(x:d3x):Ht s9z:=zK 160 x
def p2t (x:d3x):Ht s9z:=(s9q x).bind fun y1=>((cond (decide (y1<0)) (some true) (cond (y4v y1 x.1.length) (some (rdL u0f x.1 y1.toNat).2.2.1) none)):La).bind fun j2=>cond j2 (some ((⟨#[]⟩:Hs),false)) (cond (y4v y1 x.1.length) (some ((rdL u0f x.1 y1.toNat).2.1,true)) none)
theorem o9v:r9n=p2t:=zC 160 func160
def s9p(x:d8z):Ht s9z:=zK 93 x
def p2p (x:d8z):Ht s9z:=(p75 (x.1,x.2.2)).bind fun y1=>cond (decide (y1>=0)) (cond (y4v y1 x.1.2.2.2.2.2.1.length) (cond (rdL u11 x.1.2.2.2.2.2.1 y1.toNat).2.2 (some ((⟨#[]⟩:Hs),false)) (cond (y4v y1 x.1.2.2.2.2.2.1.length) (some ((rdL u11 x.1.2.2.2.2.2.1 y1.toNat).2.1,true)) none)) none) ((r9n (x.2.1,x.2.2,x.1.2.2.1)).bind fun y2=>some y2)
theorem o9r:s9p=p2p:=zC 93 func93
def r9j(x:Z84):Ht Z81:=zK 53 x
def p2l (x:Z84):Ht Z81:=(u9d x.2.2).bind fun y1=>(r3z (x.1,x.2.1,(x.2.2,x.2.2),y1)).bind fun y2=>cond (!decide (y2.2.2=0)) (some (y2.1,(⟨#[]⟩:Hs),false,y2.2.2)) (cond (y4v y2.2.1 x.1.2.length) ((s9p (rdL u0a x.1.2 y2.2.1.toNat,x.1.1.1,x.2.2)).bind fun y3=>some (y2.1,y3.1,y3.2,0)) none)
theorem o9n:r9j=p2l:=zC 53 func53
def u9x(x:p49):Ht p49:=zK 162 x
theorem t7y:∀(x:p49),u9x x=y7m x:=y6p (P:=Tryz.prog) (A:=A) (f:=162) (F:=y7m) rfl
def u7v(x:p49):Ht p49:=zK 163 x
theorem t3f:∀(x:p49),u7v x=y0p x:=y6p (P:=Tryz.prog) (A:=A) (f:=163) (F:=y0p) rfl
def r9q(x:o0j):Ht p49:=zK 161 x
def s3u(g:c31->Ht (p49⊕Unit))(x:c31):Ht (p49⊕Unit):=cond (decide (x.2.2.2<x.2.2.1)) (cond (y4v x.2.2.2 x.2.1.length) (cond (Nat.ble (x.1.length+([(rdL u0f x.2.1 x.2.2.2.toNat).1]:Lg).length) z7z) (g (x.1++([(rdL u0f x.2.1 x.2.2.2.toNat).1]:Lg),x.2.1,x.2.2.1,i64.wrap (x.2.2.2+1))) none) none) (some (.inl x.1))
def s34:=lpW _ _ s3u
theorem q68 x:s34 x=s3u s34 x:=zW q58 161 f161 3 22 x
def p2x (x:o0j):Ht p49:=(s34 (([]:Lg),x,(x.length:Int),0)).bind fun|.inl o2=>((u9x o2).bind fun y3=>(u7v y3).bind fun y4=>some y4)|.inr z5=>none
theorem o9y:r9q=p2x:=zC 161 func161
def s6s(x:d9q):La:=zK 164 x
def q8l (x:d9q):La:=((cond (!y3i x.2 x.1.1) (some (y3i x.2 x.1.2||z7q x.2 x.1.2)) (some false)):La).bind fun j1=>some j1
theorem o5d:s6s=q8l:=zC 164 func164
def r5g(x:d8x):Ht d1p:=zK 95 x
def s1c(g:Z71->Ht (Z95⊕Unit))(x:Z71):Ht (Z95⊕Unit):=cond (decide (x.2.2.2.2.2.2<x.2.2.2.2.2.1)) (cond (y4v x.2.2.2.2.2.2 x.2.2.2.2.1.length) (cond (Nat.ble (x.2.2.2.1.length+([(rdL u11 x.2.2.2.2.1 x.2.2.2.2.2.2.toNat).1]:Lg).length) z7z) (g (x.1,x.2.1,x.2.2.1,x.2.2.2.1++([(rdL u11 x.2.2.2.2.1 x.2.2.2.2.2.2.toNat).1]:Lg),x.2.2.2.2.1,x.2.2.2.2.2.1,i64.wrap (x.2.2.2.2.2.2+1))) none) none) (some (.inl (x.1,x.2.1,x.2.2.1,x.2.2.2.1)))
def t4p:=lpW _ _ s1c
theorem q2u x:t4p x=s1c t4p x:=zW q1l 95 f95 3 60 x
def t8o(g:Z72->Ht (d1p⊕Unit))(x:Z72):Ht (d1p⊕Unit):=cond (decide (x.2.2.2.2.2.2<x.2.2.2.2.2.1)) (cond (y4v x.2.2.2.2.2.2 x.2.2.2.2.1.length) ((s9p (x.2.1,x.1,rdL Ty.str x.2.2.2.2.1 x.2.2.2.2.2.2.toNat)).bind fun y6=>((cond y6.2 ((s6s (x.2.2.1,rdL Ty.str x.2.2.2.2.1 x.2.2.2.2.2.2.toNat)).bind fun y7=>some y7) (some false)):La).bind fun j8=>cond j8 (cond (Nat.ble (x.2.2.2.1.length+([(rdL Ty.str x.2.2.2.2.1 x.2.2.2.2.2.2.toNat,y6.1)]:Lj).length) z7z) (g (x.1,x.2.1,x.2.2.1,x.2.2.2.1++([(rdL Ty.str x.2.2.2.2.1 x.2.2.2.2.2.2.toNat,y6.1)]:Lj),x.2.2.2.2.1,x.2.2.2.2.2.1,i64.wrap (x.2.2.2.2.2.2+1))) none) (g (x.1,x.2.1,x.2.2.1,x.2.2.2.1,x.2.2.2.2.1,x.2.2.2.2.2.1,i64.wrap (x.2.2.2.2.2.2+1)))) none) (some (.inl x.2.2.2.1))
def t9h:=lpW _ _ t8o
theorem r77 x:t9h x=t8o t9h x:=zW r62 95 f95 10 60 x
def q8n (x:d8x):Ht d1p:=(r9q x.2.1).bind fun y1=>(t4p (x.2.1,x.1,x.2.2,y1,x.1.2.2.2.2.2.1,(x.1.2.2.2.2.2.1.length:Int),0)).bind fun|.inl o3=>((u9x o3.2.2.2).bind fun y4=>(u7v y4).bind fun y5=>(t9h (o3.1,o3.2.1,o3.2.2.1,([]:Lj),y5,(y5.length:Int),0)).bind fun|.inl o10=>some o10|.inr z11=>none)|.inr z12=>none
theorem o5f:r5g=q8n:=zC 95 func95
def r08(x:Z78):Ht Z82:=zK 54 x
def q4s (x:Z78):Ht Z82:=(s0x x.2.2).bind fun y1=>(r3z (x.1,x.2.1,x.2.2,y1)).bind fun y2=>cond (!decide (y2.2.2=0)) (some (y2.1,([]:Lj),y2.2.2)) (cond (y4v y2.2.1 x.1.2.length) ((r5g (rdL u0a x.1.2 y2.2.1.toNat,x.1.1.1,x.2.2)).bind fun y3=>some (y2.1,y3,0)) none)
theorem o1x:r08=q4s:=zC 54 func54
def r5z(x:(p49×Hs)):Ht Hs:=zK 55 x
theorem o60:∀(x:(p49×Hs)),r5z x=y7l x:=y6p (P:=Tryz.prog) (A:=A) (f:=55) (F:=y7l) rfl
def t65(x:Z25):Ht Z36:=zK 29 x
def t0o(g:Z23->Ht (Z34⊕Unit))(x:Z23):Ht (Z34⊕Unit):=cond (decide (x.2.2.2.2.2<x.2.2.2.2.1)) (cond (y4v x.2.2.2.2.2 x.2.2.2.1.length) (cond (decide ((rdL r2m x.2.2.2.1 x.2.2.2.2.2.toNat).1.size+(⟨#[61]⟩:Hs).size<=140737488355328)) (cond (decide (((rdL r2m x.2.2.2.1 x.2.2.2.2.2.toNat).1++(⟨#[61]⟩:Hs)).size+(rdL r2m x.2.2.2.1 x.2.2.2.2.2.toNat).2.size<=140737488355328)) (cond (Nat.ble (x.2.2.1.length+([(((rdL r2m x.2.2.2.1 x.2.2.2.2.2.toNat).1++(⟨#[61]⟩:Hs))++(rdL r2m x.2.2.2.1 x.2.2.2.2.2.toNat).2)]:Lg).length) z7z) (g (x.1,x.2.1,x.2.2.1++([(((rdL r2m x.2.2.2.1 x.2.2.2.2.2.toNat).1++(⟨#[61]⟩:Hs))++(rdL r2m x.2.2.2.1 x.2.2.2.2.2.toNat).2)]:Lg),x.2.2.2.1,x.2.2.2.2.1,i64.wrap (x.2.2.2.2.2+1))) none) none) none) none) (some (.inl (x.1,x.2.1,x.2.2.1)))
def u7m:=lpW _ _ t0o
theorem s7x x:u7m x=t0o u7m x:=zW s7h 29 f29 11 88 x
def r2t (x:Z25):Ht Z36:=cond (decide (x.2.1=2)) ((r9j (x.1.1.1,x.2.2.1,x.2.2.2.1)).bind fun y1=>((cond (decide (y1.2.2.2=0)) (some (!y1.2.2.1)) (some false)):La).bind fun j2=>cond j2 (some ((⟨#[45]⟩:Hs),y1.2.2.2,(y1.1,x.1.1.2),x.1.2)) (some (y1.2.1,y1.2.2.2,(y1.1,x.1.1.2),x.1.2))) ((r08 (x.1.1.1,x.2.2.1,x.2.2.2.1,x.2.2.2.2.1)).bind fun y3=>(u7m (((y3.1,x.1.1.2),x.1.2),y3.2.2,([]:Lg),y3.2.1,(y3.2.1.length:Int),0)).bind fun|.inl o5=>((r5z (o5.2.2,(⟨#[44]⟩:Hs))).bind fun y6=>some (y6,o5.2.1,o5.1))|.inr z7=>none)
theorem p3v:t65=r2t:=zC 29 func29
def u97(x:c4a):Ht j1c:=zK 167 x
theorem r2j:∀(x:c4a),u97 x=y2u u11 x:=y6p (P:=Tryz.prog) (A:=A) (f:=167) (F:=y2u u11) rfl
def r07(x:d9h):Ht j1c:=zK 101 x
def t8p(g:d7n->Ht (d7n⊕Unit))(x:d7n):Ht (d7n⊕Unit):=((cond (decide (x.2.2<(x.2.1.length:Int))) (cond (y4v x.2.2 x.2.1.length) (some (y3i (rdL u11 x.2.1 x.2.2.toNat).1 x.1.1)) none) (some false)):La).bind fun j1=>cond j1 (g (x.1,x.2.1,i64.wrap (x.2.2+1))) (some (.inl x))
def t15:=lpW _ _ t8p
theorem r78 x:t15 x=t8p t15 x:=zW r63 101 f101 3 49 x
def q4p (x:d9h):Ht j1c:=cond (Nat.ble x.1.length z7z) ((t15 (x.2,x.1,0)).bind fun|.inl o3=>(((cond (decide (o3.2.2<(o3.2.1.length:Int))) (cond (y4v o3.2.2 o3.2.1.length) (some (z7q (rdL u11 o3.2.1 o3.2.2.toNat).1 o3.1.1)) none) (some false)):La).bind fun j4=>cond j4 (cond (y4v o3.2.2 o3.2.1.length) (some (o3.2.1.set o3.2.2.toNat o3.1)) none) ((u97 (o3.2.1,o3.2.2,([o3.1]:Lh))).bind fun y5=>some y5))|.inr z6=>none) none
theorem o1u:r07=q4p:=zC 101 func101
def r1a(x:d80):Ht d1k:=zK 58 x
def q4w (x:d80):Ht d1k:=(u2n x.1).bind fun y1=>(((u6m x.1).bind fun y2=>cond (!y2) (some true) (cond (!decide (x.1.2.1=1)) (some true) ((s0y x.2).bind fun y3=>some (!y3)))):La).bind fun j4=>cond j4 (some (y1,false)) ((r07 (x.1.2.2.2.2.2.1,x.2)).bind fun y5=>(u6m (y1.1,y1.2.1,y1.2.2.1,y1.2.2.2.1,y1.2.2.2.2.1,y5,y1.2.2.2.2.2.2)).bind fun y6=>cond (!y6) ((u2n x.1).bind fun y7=>some (y7,false)) (some ((y1.1,y1.2.1,y1.2.2.1,y1.2.2.2.1,y1.2.2.2.2.1,y5,y1.2.2.2.2.2.2),true)))
theorem o2c:r1a=q4w:=zC 58 func58
def t9y(x:Z73):Ht Z97:=zK 30 x
def p2r (x:Z73):Ht Z97:=(u10 x.1).bind fun y1=>(u82 (x.1,x.2.1)).bind fun y2=>cond (decide (y2<0)) (some (y1,1)) ((s0y x.2.2).bind fun y3=>cond (!y3) (some (y1,2)) (cond (y4v y2 x.1.2.length) ((r1a (rdL u0a x.1.2 y2.toNat,x.2.2)).bind fun y4=>cond (!y4.2) (some (y1,3)) (cond (y4v y2 y1.2.length) (some ((y1.1,y1.2.set y2.toNat y4.1),0)) none)) none))
theorem o9t:t9y=p2r:=zC 30 func30
def t2o(x:o4r):Ht s9z:=zK 257 x
def t3k(g:c34->Ht d6u)(x:c34):Ht d6u:=cond (decide (x.2.2.2.2<x.2.2.2.1)) (cond (y4v x.2.2.2.2 x.2.2.1.length) (cond (decide ((rdL s5e x.2.2.1 x.2.2.2.2.toNat).1=x.1)) (g (x.1,(rdL s5e x.2.2.1 x.2.2.2.2.toNat).2,x.2.2.1,x.2.2.2.1,i64.wrap (x.2.2.2.2+1))) (g (x.1,x.2.1,x.2.2.1,x.2.2.2.1,i64.wrap (x.2.2.2.2+1)))) none) (some (.inl x.2.1))
def t3u:=lpW _ _ t3k
theorem r1w x:t3u x=t3k t3u x:=zW r0q 257 f257 5 36 x
def r57 (x:o4r):Ht s9z:=(u0t (x.2,0,i64.wrap ((x.1.1.length:Int) - (1:Int)))).bind fun y1=>cond (!y1) (some ((⟨#[]⟩:Hs),false)) (cond (y4v x.2 x.1.1.length) ((t3u (x.2,rdL Ty.str x.1.1 x.2.toNat,x.1.2,(x.1.2.length:Int),0)).bind fun|.inl o3=>some (o3,true)|.inr z4=>none) none)
theorem p5u:t2o=r57:=zC 257 func257
def t5m(x:o4r):Li:=zK 179 x
def q0t (x:o4r):Li:=(t2o x).bind fun y1=>((cond (!y1.2) (some true) (some (z7q y1.1 (⟨#[]⟩:Hs)))):La).bind fun j2=>cond j2 (some (0:Int)) (cond (y4v (0:Int) y1.1.size) (some (i64.wrap ((y1.1.data.toList.getD (0:Int).toNat 0).toNat:Int))) none)
theorem p9b:t5m=q0t:=zC 179 func179
def t2m(x:u71):Li:=zK 106 x
def q4f (x:u71):Li:=(t5m (x,0)).bind fun y1=>some (Int.tmod y1 (2:Int))
theorem o1k:t2m=q4f:=zC 106 func106
def s4u(x:Int):La:=zK 185 x
def p2w (x:Int):La:=((cond (decide (x=0)) (some true) (some (decide (x=1)))):La).bind fun j1=>some j1
theorem o9x:s4u=p2w:=zC 185 func185
def t0f(x:Int):Li:=zK 183 x
def r98 (x:Int):Li:=(s4u x).bind fun y1=>cond (!y1) (some (0:Int)) (some (i64.wrap ((1:Int)+(i64.wrap (x*48)))))
theorem p8o:t0f=r98:=zC 183 func183
def t5s(x:o4r):Li:=zK 111 x
def q8h (x:o4r):Li:=(s4u x.2).bind fun y1=>cond (!y1) (some (0:Int)) ((t0f x.2).bind fun y2=>(t5m (x.1,y2)).bind fun y3=>some y3)
theorem o49:t5s=q8h:=zC 111 func111
def s5s(x:d1z):Ht s9z:=zK 258 x
def t3l(g:c3o->Ht (q3s⊕s9z))(x:c3o):Ht (q3s⊕s9z):=cond (decide (x.2.2.2.2<x.2.1)) ((t2o (x.2.2.1,i64.wrap (x.1+x.2.2.2.2))).bind fun y2=>cond (!y2.2) (some (.inr ((⟨#[]⟩:Hs),false))) (cond (Nat.ble (x.2.2.2.1.length+(z7w y2.1).length) z7z) (g (x.1,x.2.1,x.2.2.1,x.2.2.2.1++(z7w y2.1),i64.wrap (x.2.2.2.2+1))) none)) (some (.inl x.2.2.2.1))
def t3v:=lpW _ _ t3l
theorem r1x x:t3v x=t3l t3v x:=zW r0r 258 f258 5 35 x
def r59 (x:d1z):Ht s9z:=(u0t (x.2.2,0,100)).bind fun y1=>cond (!y1) (some ((⟨#[]⟩:Hs),false)) ((t3v (x.2.1,x.2.2,x.1,([]:Ld),0)).bind fun|.inl o4=>some (y7s o4,true)|.inr z5=>some z5)
theorem p5w:s5s=r59:=zC 258 func258
def t5t(x:Int):Ht s9z:=zK 260 x
def r95(g:d4f->Ht (d4f⊕Unit))(x:d4f):Ht (d4f⊕Unit):=cond (decide (x.1>127)) (cond (Nat.ble (x.2.length+([(u8.wrap (i64.wrap ((Int.tmod x.1 (128:Int))+128)))]:Ld).length) z7z) (g (i64.wrap (Int.tdiv x.1 (128:Int)),x.2++([(u8.wrap (i64.wrap ((Int.tmod x.1 (128:Int))+128)))]:Ld))) none) (some (.inl x))
def s2d:=lpW _ _ r95
theorem p96 x:s2d x=r95 s2d x:=zW q1v 260 f260 4 25 x
def q8y (x:Int):Ht s9z:=(u0t (x,0,1000000000)).bind fun y1=>cond (!y1) (some ((⟨#[]⟩:Hs),false)) ((s2d (x,([]:Ld))).bind fun|.inl o3=>cond (Nat.ble (o3.2.length+([(u8.wrap o3.1)]:Ld).length) z7z) (some (y7s (o3.2++([(u8.wrap o3.1)]:Ld)),true)) none|.inr z4=>none)
theorem o5q:t5t=q8y:=zC 260 func260
def s6u(x:j1b):Ht d4g:=zK 339 x
def s1e(g:(Hs×d6y)->Ht (Unit⊕d4g))(x:(Hs×d6y)):Ht (Unit⊕d4g):=((cond (decide (x.2.2.2<5)) (some (decide ((i64.wrap (x.2.1+x.2.2.2))<(x.1.size:Int)))) (some false)):La).bind fun j2=>cond j2 (cond (y4v (i64.wrap (x.2.1+x.2.2.2)) x.1.size) (cond (decide (0<=(i64.wrap ((7:Int)*x.2.2.2)))) (cond (decide ((i64.wrap ((x.1.data.toList.getD (i64.wrap (x.2.1+x.2.2.2)).toNat 0).toNat:Int))<128)) ((t5t (i64.wrap (x.2.2.1+(i64.wrap ((Int.tmod (i64.wrap ((x.1.data.toList.getD (i64.wrap (x.2.1+x.2.2.2)).toNat 0).toNat:Int)) (128:Int))*2^(min (i64.wrap ((7:Int)*x.2.2.2)).toNat i64.bits)))))).bind fun y3=>((cond (!y3.2) (some true) (some (!decide ((y3.1.size:Int)=(i64.wrap (x.2.2.2+1)))))):La).bind fun j4=>cond j4 (some (.inr (0,0,false))) (some (.inr (i64.wrap (x.2.2.1+(i64.wrap ((Int.tmod (i64.wrap ((x.1.data.toList.getD (i64.wrap (x.2.1+x.2.2.2)).toNat 0).toNat:Int)) (128:Int))*2^(min (i64.wrap ((7:Int)*x.2.2.2)).toNat i64.bits)))),i64.wrap ((i64.wrap (x.2.1+x.2.2.2))+1),true)))) (g (x.1,x.2.1,i64.wrap (x.2.2.1+(i64.wrap ((Int.tmod (i64.wrap ((x.1.data.toList.getD (i64.wrap (x.2.1+x.2.2.2)).toNat 0).toNat:Int)) (128:Int))*2^(min (i64.wrap ((7:Int)*x.2.2.2)).toNat i64.bits)))),i64.wrap (x.2.2.2+1)))) none) none) (some (.inl ()))
def s19:=lpW _ _ s1e
theorem q2w x:s19 x=s1e s19 x:=zW q1n 339 f339 5 63 x
def q8r (x:j1b):Ht d4g:=(u0t (x.2,0,(x.1.size:Int))).bind fun y1=>cond (!y1) (some (0,0,false)) ((s19 (x.1,x.2,0,0)).bind fun|.inl o6=>some (0,0,false)|.inr z7=>some z7)
theorem o5j:s6u=q8r:=zC 339 func339
def s2r(x:j1b):Ht p2a:=zK 259 x
def q0h (x:j1b):Ht p2a:=(s6u x).bind fun y1=>((cond (!y1.2.2) (some true) (cond (decide (y1.1>20000)) (some true) (some (decide (y1.1>(i64.wrap ((x.1.size:Int) - y1.2.1))))))):La).bind fun j2=>cond j2 (some ((⟨#[]⟩:Hs),0,false)) (cond (decide (0<=y1.2.1)&&decide (y1.2.1<=(i64.wrap (y1.2.1+y1.1)))&&decide ((i64.wrap (y1.2.1+y1.1))<=(x.1.size:Int))) (some (x.1.extract y1.2.1.toNat (i64.wrap (y1.2.1+y1.1)).toNat,i64.wrap (y1.2.1+y1.1),true)) none)
theorem p8y:s2r=q0h:=zC 259 func259
def t2n(x:o4r):Ht (p49×d52):=zK 180 x
def t8q(g:c3e->Ht d9x)(x:c3e):Ht d9x:=(t5s (x.2.1,x.1)).bind fun y5=>cond (decide (x.2.2.2.2.2<y5)) ((s2r (x.2.2.1,x.2.2.2.2.1)).bind fun y6=>((cond (!y6.2.2) (some true) (some (z7q y6.1 (⟨#[]⟩:Hs)))):La).bind fun j7=>cond j7 (some (.inr (([]:Lg),0,false))) (cond (Nat.ble (x.2.2.2.1.length+([y6.1]:Lg).length) z7z) (g (x.1,x.2.1,x.2.2.1,x.2.2.2.1++([y6.1]:Lg),y6.2.1,i64.wrap (x.2.2.2.2.2+1))) none)) (some (.inl (x.2.2.2.1,x.2.2.2.2.1)))
def t9i:=lpW _ _ t8q
theorem r79 x:t9i x=t8q t9i x:=zW r64 180 f180 7 57 x
def q4q (x:o4r):Ht (p49×d52):=(t0f x.2).bind fun y1=>(s5s (x.1,i64.wrap (y1+1),47)).bind fun y2=>((cond (!y2.2) (some true) ((s4u x.2).bind fun y3=>some (!y3))):La).bind fun j4=>cond j4 (some (([]:Lg),0,false)) ((t9i (x.2,x.1,y2.1,([]:Lg),0,0)).bind fun|.inl o9=>some (o9.1,o9.2,true)|.inr z10=>some z10)
theorem o1v:t2n=q4q:=zC 180 func180
def t77(x:u71):Ht p49:=zK 113 x
def q4m (x:u71):Ht p49:=(t2m x).bind fun y1=>(t2n (x,y1)).bind fun y2=>some y2.1
theorem o1r:t77=q4m:=zC 113 func113
def r5d(x:Unit):Ht u9r:=zK 146 x
def r4u (x:Unit):Ht u9r:=some (([]:Lf),([]:Lc),([]:Lc),0,1)
theorem q98:r5d=r4u:=zC 146 func146
def r1c(x:t0y):La:=zK 253 x
def q41 (x:t0y):La:=((cond (decide (x.1=0)) (cond (decide (x.2.1=0)) (cond (decide (x.2.2.1=0)) (cond (decide (x.2.2.2.1=0)) (cond (decide ((x.2.2.2.2.1.length:Int)=(0:Int))) (cond (decide ((x.2.2.2.2.2.1.length:Int)=(0:Int))) (cond (!x.2.2.2.2.2.2.1) (some (z7q x.2.2.2.2.2.2.2 (⟨#[]⟩:Hs))) (some false)) (some false)) (some false)) (some false)) (some false)) (some false)) (some false)):La).bind fun j1=>some j1
theorem o2h:r1c=q41:=zC 253 func253
def s8e(x:u9r):La:=zK 254 x
def q0r (x:u9r):La:=((cond (decide ((x.1.length:Int)=(0:Int))) (cond (decide ((x.2.1.length:Int)=(0:Int))) (cond (decide ((x.2.2.1.length:Int)=(0:Int))) (cond (decide (x.2.2.2.1=0)) (some (decide (x.2.2.2.2=0))) (some false)) (some false)) (some false)) (some false)):La).bind fun j1=>some j1
theorem p89:s8e=q0r:=zC 254 func254
def s4q(x:Z57):La:=zK 170 x
def q4r (x:Z57):La:=(r1c x.2.1).bind fun y1=>(s8e x.2.2.2.2).bind fun y2=>cond (decide (x.1=1)) ((((u6m x.2.1).bind fun y3=>cond y3 ((t04 x.2.1).bind fun y4=>some y4) (some false)):La).bind fun j5=>((cond j5 (cond (z7q x.2.2.1 (⟨#[]⟩:Hs)) (cond y2 (cond (!x.2.2.2.1) (some true) (some (decide (x.1=3)))) (some false)) (some false)) (some false)):La).bind fun j6=>some j6) (cond (decide (x.1=2)) ((((u6m x.2.1).bind fun y7=>cond y7 ((u36 x.2.1).bind fun y8=>some y8) (some false)):La).bind fun j9=>((cond j9 (cond (z7q x.2.2.1 (⟨#[]⟩:Hs)) (cond y2 (cond (!x.2.2.2.1) (some true) (some (decide (x.1=3)))) (some false)) (some false)) (some false)):La).bind fun j10=>some j10) (cond (decide (x.1=3)) ((u9d x.2.2.1).bind fun y11=>((cond y1 (cond y11 (cond y2 (cond (!x.2.2.2.1) (some true) (some (decide (x.1=3)))) (some false)) (some false)) (some false)):La).bind fun j12=>some j12) (cond (decide (x.1=4)) ((u3f x.2.2.2.2).bind fun y13=>((cond y1 (cond (z7q x.2.2.1 (⟨#[]⟩:Hs)) (cond y13 (cond (!x.2.2.2.1) (some true) (some (decide (x.1=3)))) (some false)) (some false)) (some false)):La).bind fun j14=>some j14) (some false))))
theorem o1w:s4q=q4r:=zC 170 func170
def t5k(x:Hs):Ht s9z:=zK 181 x
def q0l (x:Hs):Ht s9z:=cond (decide ((x.size:Int)>(20000:Int))) (some ((⟨#[]⟩:Hs),false)) ((t5t (x.size:Int)).bind fun y1=>cond (decide (y1.1.size+x.size<=140737488355328)) (some (y1.1++x,true)) none)
theorem p82:t5k=q0l:=zC 181 func181
def u8m(x:(q3s×p49)):Ht q3s:=zK 171 x
def t6g(g:c39->Ht d4c)(x:c39):Ht d4c:=cond (decide (x.2.2.2<x.2.2.1)) (cond (y4v x.2.2.2 x.2.1.length) ((t5k (rdL Ty.str x.2.1 x.2.2.2.toNat)).bind fun y1=>cond (Nat.ble (x.1.length+(z7w y1.1).length) z7z) (g (x.1++(z7w y1.1),x.2.1,x.2.2.1,i64.wrap (x.2.2.2+1))) none) none) (some (.inl x.1))
def t6u:=lpW _ _ t6g
theorem r4g x:t6u x=t6g t6u x:=zW r3j 171 f171 1 29 x
def q0w (x:(q3s×p49)):Ht q3s:=(t6u (x.1,x.2,(x.2.length:Int),0)).bind fun|.inl o3=>some o3|.inr z4=>none
theorem p9e:u8m=q0w:=zC 171 func171
def t0i(x:(q3s×Bool)):Ht q3s:=zK 172 x
def q0v (x:(q3s×Bool)):Ht q3s:=cond x.2 (cond (Nat.ble (x.1.length+([(1:Int)]:Ld).length) z7z) (some (x.1++([(1:Int)]:Ld))) none) (cond (Nat.ble (x.1.length+([(0:Int)]:Ld).length) z7z) (some (x.1++([(0:Int)]:Ld))) none)
theorem p9d:t0i=q0v:=zC 172 func172
def u7t(x:(q3s×q3s)):Ht q3s:=zK 255 x
def t8v(g:c4f->Ht d4c)(x:c4f):Ht d4c:=cond (decide (x.2.2.2<x.2.2.1)) (cond (y4v x.2.2.2 x.2.1.length) ((t5t (rdL (Ty.int .i64) x.2.1 x.2.2.2.toNat)).bind fun y1=>cond (Nat.ble (x.1.length+(z7w y1.1).length) z7z) (g (x.1++(z7w y1.1),x.2.1,x.2.2.1,i64.wrap (x.2.2.2+1))) none) none) (some (.inl x.1))
def t9m:=lpW _ _ t8v
theorem r8e x:t9m x=t8v t9m x:=zW r7a 255 f255 1 29 x
def q42 (x:(q3s×q3s)):Ht q3s:=(t9m (x.1,x.2,(x.2.length:Int),0)).bind fun|.inl o3=>some o3|.inr z4=>none
theorem o2j:u7t=q42:=zC 255 func255
def s6v(x:t0y):Ht s9z:=zK 174 x
def s1k(g:c2u->Ht (d85⊕Unit))(x:c2u):Ht (d85⊕Unit):=cond (decide (x.2.2.2.2<x.2.2.2.1)) (cond (y4v x.2.2.2.2 x.2.2.1.length) ((u8m (x.2.1,([(rdL r2m x.2.2.1 x.2.2.2.2.toNat).1,(rdL r2m x.2.2.1 x.2.2.2.2.toNat).2]:Lg))).bind fun y3=>g (x.1,y3,x.2.2.1,x.2.2.2.1,i64.wrap (x.2.2.2.2+1))) none) (some (.inl (x.1,x.2.1)))
def t4s:=lpW _ _ s1k
theorem q22 x:t4s x=s1k t4s x:=zW q1u 174 f174 6 82 x
def t8s(g:c2s->Ht (d85⊕Unit))(x:c2s):Ht (d85⊕Unit):=cond (decide (x.2.2.2.2<x.2.2.2.1)) (cond (y4v x.2.2.2.2 x.2.2.1.length) ((u8m (x.2.1,([(rdL u11 x.2.2.1 x.2.2.2.2.toNat).1,(rdL u11 x.2.2.1 x.2.2.2.2.toNat).2.1]:Lg))).bind fun y7=>(t0i (y7,(rdL u11 x.2.2.1 x.2.2.2.2.toNat).2.2)).bind fun y8=>g (x.1,y8,x.2.2.1,x.2.2.2.1,i64.wrap (x.2.2.2.2+1))) none) (some (.inl (x.1,x.2.1)))
def t17:=lpW _ _ t8s
theorem r8b x:t17 x=t8s t17 x:=zW r67 174 f174 12 82 x
def q8x (x:t0y):Ht s9z:=(u6m x).bind fun y1=>cond (!y1) (some ((⟨#[]⟩:Hs),false)) ((u7t (([]:Ld),([x.1,x.2.1,x.2.2.1,x.2.2.2.1,(x.2.2.2.2.1.length:Int)]:Ld))).bind fun y2=>(t4s (x,y2,x.2.2.2.2.1,(x.2.2.2.2.1.length:Int),0)).bind fun|.inl o5=>((u7t (o5.2,([(o5.1.2.2.2.2.2.1.length:Int)]:Ld))).bind fun y6=>(t17 (o5.1,y6,o5.1.2.2.2.2.2.1,(o5.1.2.2.2.2.2.1.length:Int),0)).bind fun|.inl o10=>((t0i (o10.2,o10.1.2.2.2.2.2.2.1)).bind fun y11=>(u8m (y11,([o10.1.2.2.2.2.2.2.2]:Lg))).bind fun y12=>some (y7s y12,true))|.inr z13=>none)|.inr z14=>none)
theorem o5p:s6v=q8x:=zC 174 func174
def r03(x:u9r):Ht s9z:=zK 173 x
def t8l(g:Z92->Ht (d6j⊕Unit))(x:Z92):Ht (d6j⊕Unit):=cond (decide (x.2.2.2.2<x.2.2.2.1)) (cond (y4v x.2.2.2.2 x.2.2.1.length) ((u8m (x.2.1,([(rdL u0f x.2.2.1 x.2.2.2.2.toNat).1,(rdL u0f x.2.2.1 x.2.2.2.2.toNat).2.1]:Lg))).bind fun y3=>(t0i (y3,(rdL u0f x.2.2.1 x.2.2.2.2.toNat).2.2.1)).bind fun y4=>(u7t (y4,([(rdL u0f x.2.2.1 x.2.2.2.2.toNat).2.2.2]:Ld))).bind fun y5=>g (x.1,y5,x.2.2.1,x.2.2.2.1,i64.wrap (x.2.2.2.2+1))) none) (some (.inl (x.1,x.2.1)))
def t14:=lpW _ _ t8l
theorem r74 x:t14 x=t8l t14 x:=zW r6z 173 f173 6 94 x
def t59(g:c21->Ht (d9d⊕Unit))(x:c21):Ht (d9d⊕Unit):=cond (decide (x.2.2.2.2.2.2<x.2.2.2.2.2.1)) (cond (y4v x.2.2.2.2.2.2 x.2.2.2.2.1.length) ((s6v (rdL u0a x.2.2.2.2.1 x.2.2.2.2.2.2.toNat)).bind fun y9=>cond (Nat.ble (x.1.length+(z7w y9.1).length) z7z) (g (x.1++(z7w y9.1),x.2.1,x.2.2.1,x.2.2.2.1,x.2.2.2.2.1,x.2.2.2.2.2.1,i64.wrap (x.2.2.2.2.2.2+1))) none) none) (some (.inl (x.1,x.2.1,x.2.2.1,x.2.2.2.1)))
def t0r:=lpW _ _ t59
theorem r39 x:t0r x=t59 t0r x:=zW r3c 173 f173 17 94 x
def t0n(g:d9d->Ht d4c)(x:d9d):Ht d4c:=cond (decide (x.2.2.2<x.2.2.1)) (cond (y4v x.2.2.2 x.2.1.length) ((u7t (x.1,([((rdL (Ty.sl u0a) x.2.1 x.2.2.2.toNat).length:Int)]:Ld))).bind fun y8=>(t0r (y8,x.2.1,x.2.2.1,x.2.2.2,rdL (Ty.sl u0a) x.2.1 x.2.2.2.toNat,((rdL (Ty.sl u0a) x.2.1 x.2.2.2.toNat).length:Int),0)).bind fun|.inl o11=>g (o11.1,o11.2.1,o11.2.2.1,i64.wrap (o11.2.2.2+1))|.inr z12=>some (.inr ())) none) (some (.inl x.1))
def t6r:=lpW _ _ t0n
theorem s48 x:t6r x=t0n t6r x:=zW r3b 173 f173 13 94 x
def q4g (x:u9r):Ht s9z:=(u3f x).bind fun y1=>cond (!y1) (some ((⟨#[]⟩:Hs),false)) ((u7t (([]:Ld),([x.2.2.2.1,x.2.2.2.2,(x.1.length:Int)]:Ld))).bind fun y2=>(t14 (x,y2,x.1,(x.1.length:Int),0)).bind fun|.inl o7=>((t6r (o7.2,([o7.1.2.1,o7.1.2.2.1]:Hu p1a),(([o7.1.2.1,o7.1.2.2.1]:Hu p1a).length:Int),0)).bind fun|.inl o14=>some (y7s o14,true)|.inr z15=>none)|.inr z16=>none)
theorem o1l:r03=q4g:=zC 173 func173
def r5i(x:d93):Li:=zK 338 x
def r94(g:d9y->Ht (d4h⊕Unit))(x:d9y):Ht (d4h⊕Unit):=cond (decide (x.2.2.2<8)) (cond (decide ((Int.tmod x.1 (2:Int))=1)) (g (u32.wrap ((BitVec.ofInt u32.bits (u32.wrap (Int.tdiv x.1 (2:Int)))^^^BitVec.ofInt u32.bits (3558460437:Int)).toNat:Int),x.2.1,x.2.2.1,i64.wrap (x.2.2.2+1))) (g (u32.wrap (Int.tdiv x.1 (2:Int)),x.2.1,x.2.2.1,i64.wrap (x.2.2.2+1)))) (some (.inl (x.1,x.2.1,x.2.2.1)))
def s2b:=lpW _ _ r94
theorem p95 x:s2b x=r94 s2b x:=zW q1p 338 f338 6 33 x
def s1f(g:d4h->Ht j7r)(x:d4h):Ht j7r:=cond (decide (x.2.2<(x.2.1.size:Int))) (cond (y4v x.2.2 x.2.1.size) ((s2b (u32.wrap ((BitVec.ofInt u32.bits x.1^^^BitVec.ofInt u32.bits (u32.wrap ((x.2.1.data.toList.getD x.2.2.toNat 0).toNat:Int))).toNat:Int),x.2.1,x.2.2,0)).bind fun|.inl o2=>g (o2.1,o2.2.1,i64.wrap (o2.2.2+1))|.inr z3=>some (.inr ())) none) (some (.inl x.1))
def s2a:=lpW _ _ s1f
theorem q2x x:s2a x=s1f s2a x:=zW q1o 338 f338 2 33 x
def q8t (x:d93):Li:=(s2a (x.1,x.2,0)).bind fun|.inl o5=>some o5|.inr z6=>none
theorem o5l:r5i=q8t:=zC 338 func338
def p74(x:Hs):Li:=zK 256 x
def p69 (x:Hs):Li:=(r5i (4294967295,x)).bind fun y1=>some y1
theorem j2w:p74=p69:=zC 256 func256
def t9z(x:Hs):Ht s9z:=zK 175 x
def p2s (x:Hs):Ht s9z:=cond (decide ((x.size:Int)>(20000:Int))) (some ((⟨#[]⟩:Hs),false)) ((p74 x).bind fun y1=>cond (decide (x.size+(y7s ([u8.wrap (Int.fdiv y1 (2^(min (24:Int).toNat u32.bits))),u8.wrap (Int.fdiv y1 (2^(min (16:Int).toNat u32.bits))),u8.wrap (Int.fdiv y1 (2^(min (8:Int).toNat u32.bits))),u8.wrap y1]:Ld)).size<=140737488355328)) (some (x++(y7s ([u8.wrap (Int.fdiv y1 (2^(min (24:Int).toNat u32.bits))),u8.wrap (Int.fdiv y1 (2^(min (16:Int).toNat u32.bits))),u8.wrap (Int.fdiv y1 (2^(min (8:Int).toNat u32.bits))),u8.wrap y1]:Ld)),true)) none)
theorem o9u:t9z=p2s:=zC 175 func175
def u4y(x:Z57):Ht s9z:=zK 103 x
def r58 (x:Z57):Ht s9z:=(s4q x).bind fun y1=>cond (!y1) (some ((⟨#[]⟩:Hs),false)) (cond (decide (x.1=3)) ((u8m (([(u8.wrap x.1)]:Ld),([x.2.2.1]:Lg))).bind fun y2=>(t0i (y2,x.2.2.2.1)).bind fun y3=>(t9z (y7s y3)).bind fun y4=>some y4) (cond (decide (x.1=4)) ((r03 x.2.2.2.2).bind fun y5=>cond (Nat.ble (([(u8.wrap x.1)]:Ld).length+(z7w y5.1).length) z7z) ((t9z (y7s (([(u8.wrap x.1)]:Ld)++(z7w y5.1)))).bind fun y6=>some y6) none) ((s6v x.2.1).bind fun y7=>cond (Nat.ble (([(u8.wrap x.1)]:Ld).length+(z7w y7.1).length) z7z) ((t9z (y7s (([(u8.wrap x.1)]:Ld)++(z7w y7.1)))).bind fun y8=>some y8) none)))
theorem p5v:u4y=r58:=zC 103 func103
def r09(x:Hs):Ht s9z:=zK 248 x
def q4u (x:Hs):Ht s9z:=cond (decide ((x.size:Int)<(4:Int))) (some ((⟨#[]⟩:Hs),false)) (cond (decide (0<=(0:Int))&&decide ((0:Int)<=(i64.wrap ((x.size:Int) - (4:Int))))&&decide ((i64.wrap ((x.size:Int) - (4:Int)))<=(x.size:Int))) ((t9z (x.extract (0:Int).toNat (i64.wrap ((x.size:Int) - (4:Int))).toNat)).bind fun y1=>((cond (!y1.2) (some true) (some (!z7q y1.1 x))):La).bind fun j2=>cond j2 (some ((⟨#[]⟩:Hs),false)) (some (x.extract (0:Int).toNat (i64.wrap ((x.size:Int) - (4:Int))).toNat,true))) none)
theorem o2a:r09=q4u:=zC 248 func248
def u2o(x:p2a):Ht d9o:=zK 249 x
def r2x (x:p2a):Ht d9o:=(s2r (x.1,x.2.1)).bind fun y1=>((cond x.2.2 (some true) (some (!y1.2.2))):La).bind fun j2=>cond j2 (some ((⟨#[]⟩:Hs),x.1,x.2.1,true)) (some (y1.1,x.1,y1.2.1,x.2.2))
theorem p30:u2o=r2x:=zC 249 func249
def u8d(x:p2a):Ht (Bool×p2a):=zK 250 x
def r2w (x:p2a):Ht (Bool×p2a):=((cond x.2.2 (some true) ((u0t (x.2.1,0,i64.wrap ((x.1.size:Int) - (1:Int)))).bind fun y1=>cond (!y1) (some true) (cond (y4v x.2.1 x.1.size) (some (decide (((x.1.data.toList.getD x.2.1.toNat 0).toNat:Int)>(1:Int)))) none))):La).bind fun j2=>cond j2 (some (false,x.1,x.2.1,true)) (cond (y4v (i64.wrap ((i64.wrap (x.2.1+1)) - 1)) x.1.size) (some (decide (((x.1.data.toList.getD (i64.wrap ((i64.wrap (x.2.1+1)) - 1)).toNat 0).toNat:Int)=(1:Int)),x.1,i64.wrap (x.2.1+1),x.2.2)) none)
theorem p3z:u8d=r2w:=zC 250 func250
def u1l(x:p2a):Ht (Int×p2a):=zK 331 x
def r6e (x:p2a):Ht (Int×p2a):=(s6u (x.1,x.2.1)).bind fun y1=>((cond x.2.2 (some true) (some (!y1.2.2))):La).bind fun j2=>cond j2 (some (0,x.1,x.2.1,true)) (some (y1.1,x.1,y1.2.1,x.2.2))
theorem p51:u1l=r6e:=zC 331 func331
def s85(x:d7k):Ht d7k:=zK 333 x
def s8t (x:d7k):Ht d7k:=(u2o x.1).bind fun y1=>(u2o y1.2).bind fun y2=>(u8d y2.2).bind fun y3=>(u1l y3.2).bind fun y4=>cond (Nat.ble (x.2.1.length+([(y1.1,y2.1,y3.1,y4.1)]:Lf).length) z7z) (some (y4.2,x.2.1++([(y1.1,y2.1,y3.1,y4.1)]:Lf),x.2.2)) none
theorem q72:s85=s8t:=zC 333 func333
def u3n(x:d6g):Ht d6g:=zK 10016 x
def u17(g:Z88->Ht (d6g⊕Unit))(x:Z88):Ht (d6g⊕Unit):=((cond (decide (x.2.2.2<x.2.2.1)) (some (!x.1.2.2)) (some false)):La).bind fun j2=>cond j2 ((s85 (x.1,x.2.1.2)).bind fun y3=>g (y3.1,((),y3.2),x.2.2.1,i64.wrap (x.2.2.2+1))) (some (.inl (x.1,(),x.2.1.2)))
def u1b:=lpW _ _ u17
theorem u7x x:u1b x=u17 u1b x:=zW u7p 10016 f332 2 22 x
def u8w (x:d6g):Ht d6g:=(u1l x.1).bind fun y1=>(u1b (y1.2,((),x.2.2),y1.1,0)).bind fun|.inl o5=>some (o5.1,(),o5.2.2)|.inr z6=>none
theorem s0d:u3n=u8w:=zC 10016 func332
def r1d(x:d6k):Ht d6k:=zK 336 x
def r0e (x:d6k):Ht d6k:=(u2o x.2).bind fun y1=>(u2o y1.2).bind fun y2=>cond (Nat.ble (x.1.2.2.2.2.1.length+([(y1.1,y2.1)]:Lj).length) z7z) (some ((x.1.1,x.1.2.1,x.1.2.2.1,x.1.2.2.2.1,x.1.2.2.2.2.1++([(y1.1,y2.1)]:Lj),x.1.2.2.2.2.2),y2.2)) none
theorem p1i:r1d=r0e:=zC 336 func336
def u37(x:d6i):Ht d6i:=zK 10018 x
def u2f(g:c2p->Ht (d6i⊕Unit))(x:c2p):Ht (d6i⊕Unit):=((cond (decide (x.2.2.2<x.2.2.1)) (some (!x.1.2.2)) (some false)):La).bind fun j2=>cond j2 ((r1d (x.2.1.1,x.1)).bind fun y3=>g (y3.2,(y3.1,()),x.2.2.1,i64.wrap (x.2.2.2+1))) (some (.inl (x.1,x.2.1.1,())))
def u1f:=lpW _ _ u2f
theorem u8e x:u1f x=u2f u1f x:=zW u8a 10018 f332 2 22 x
def u87 (x:d6i):Ht d6i:=(u1l x.1).bind fun y1=>(u1f (y1.2,(x.2.1,()),y1.1,0)).bind fun|.inl o5=>some (o5.1,o5.2.1,())|.inr z6=>none
theorem s0t:u37=u87:=zC 10018 func332
def r1e(x:d7l):Ht d7l:=zK 337 x
def r0f (x:d7l):Ht d7l:=(u2o x.1).bind fun y1=>(u2o y1.2).bind fun y2=>(u8d y2.2).bind fun y3=>cond (Nat.ble (x.2.2.2.2.2.2.1.length+([(y1.1,y2.1,y3.1)]:Lh).length) z7z) (some (y3.2,x.2.1,x.2.2.1,x.2.2.2.1,x.2.2.2.2.1,x.2.2.2.2.2.1,x.2.2.2.2.2.2.1++([(y1.1,y2.1,y3.1)]:Lh),x.2.2.2.2.2.2.2)) none
theorem p1j:r1e=r0f:=zC 337 func337
def u38(x:d6h):Ht d6h:=zK 10019 x
def u2g(g:c2q->Ht (d6h⊕Unit))(x:c2q):Ht (d6h⊕Unit):=((cond (decide (x.2.2.2<x.2.2.1)) (some (!x.1.2.2)) (some false)):La).bind fun j2=>cond j2 ((r1e (x.1,x.2.1.2)).bind fun y3=>g (y3.1,((),y3.2),x.2.2.1,i64.wrap (x.2.2.2+1))) (some (.inl (x.1,(),x.2.1.2)))
def u1g:=lpW _ _ u2g
theorem u8f x:u1g x=u2g u1g x:=zW u8b 10019 f332 2 22 x
def u88 (x:d6h):Ht d6h:=(u1l x.1).bind fun y1=>(u1g (y1.2,((),x.2.2),y1.1,0)).bind fun|.inl o5=>some (o5.1,(),o5.2.2)|.inr z6=>none
theorem s0u:u38=u88:=zC 10019 func332
def t2s(x:p2a):Ht d6k:=zK 252 x
def r6f (x:p2a):Ht d6k:=(u1l x).bind fun y1=>(u1l y1.2).bind fun y2=>(u1l y2.2).bind fun y3=>(u1l y3.2).bind fun y4=>(u37 (y4.2,(y1.1,y2.1,y3.1,y4.1,([]:Lj),([]:Lh),false,(⟨#[]⟩:Hs)),())).bind fun y5=>(u38 (y5.1,(),y5.2.1)).bind fun y6=>(u8d y6.1).bind fun y7=>(u2o y7.2).bind fun y8=>cond y8.2.2.2 (some ((y6.2.2.1,y6.2.2.2.1,y6.2.2.2.2.1,y6.2.2.2.2.2.1,y6.2.2.2.2.2.2.1,y6.2.2.2.2.2.2.2.1,y7.1,y8.1),y8.2.1,y8.2.2.1,true)) ((u6m (y6.2.2.1,y6.2.2.2.1,y6.2.2.2.2.1,y6.2.2.2.2.2.1,y6.2.2.2.2.2.2.1,y6.2.2.2.2.2.2.2.1,y7.1,y8.1)).bind fun y9=>some ((y6.2.2.1,y6.2.2.2.1,y6.2.2.2.2.1,y6.2.2.2.2.2.1,y6.2.2.2.2.2.2.1,y6.2.2.2.2.2.2.2.1,y7.1,y8.1),y8.2.1,y8.2.2.1,!y9))
theorem p52:t2s=r6f:=zC 252 func252
def s86(x:d1h):Ht d1h:=zK 334 x
def s8u (x:d1h):Ht d1h:=(t2s x.2).bind fun y1=>cond (Nat.ble (x.1.2.1.length+([y1.1]:Lc).length) z7z) (some ((x.1.1,x.1.2.1++([y1.1]:Lc),x.1.2.2),y1.2)) none
theorem q73:s86=s8u:=zC 334 func334
def u3o(x:j81):Ht j81:=zK 10017 x
def u18(g:Z87->Ht (j81⊕Unit))(x:Z87):Ht (j81⊕Unit):=((cond (decide (x.2.2.2<x.2.2.1)) (some (!x.1.2.2)) (some false)):La).bind fun j2=>cond j2 ((s86 (x.2.1.1,x.1)).bind fun y3=>g (y3.2,(y3.1,()),x.2.2.1,i64.wrap (x.2.2.2+1))) (some (.inl (x.1,x.2.1.1,())))
def u1c:=lpW _ _ u18
theorem u7y x:u1c x=u18 u1c x:=zW u7q 10017 f332 2 22 x
def u8x (x:j81):Ht j81:=(u1l x.1).bind fun y1=>(u1c (y1.2,(x.2.1,()),y1.1,0)).bind fun|.inl o5=>some (o5.1,o5.2.1,())|.inr z6=>none
theorem s0e:u3o=u8x:=zC 10017 func332
def s87(x:d1h):Ht d1h:=zK 335 x
def s8v (x:d1h):Ht d1h:=(t2s x.2).bind fun y1=>cond (Nat.ble (x.1.2.2.1.length+([y1.1]:Lc).length) z7z) (some ((x.1.1,x.1.2.1,x.1.2.2.1++([y1.1]:Lc),x.1.2.2.2),y1.2)) none
theorem q74:s87=s8v:=zC 335 func335
def u3p(x:j81):Ht j81:=zK 10020 x
def u19(g:Z87->Ht (j81⊕Unit))(x:Z87):Ht (j81⊕Unit):=((cond (decide (x.2.2.2<x.2.2.1)) (some (!x.1.2.2)) (some false)):La).bind fun j2=>cond j2 ((s87 (x.2.1.1,x.1)).bind fun y3=>g (y3.2,(y3.1,()),x.2.2.1,i64.wrap (x.2.2.2+1))) (some (.inl (x.1,x.2.1.1,())))
def u1d:=lpW _ _ u19
theorem u7z x:u1d x=u19 u1d x:=zW u7r 10020 f332 2 22 x
def u8y (x:j81):Ht j81:=(u1l x.1).bind fun y1=>(u1d (y1.2,(x.2.1,()),y1.1,0)).bind fun|.inl o5=>some (o5.1,o5.2.1,())|.inr z6=>none
theorem s0f:u3p=u8y:=zC 10020 func332
def s4v(x:p2a):Ht d1h:=zK 251 x
def r2v (x:p2a):Ht d1h:=(u1l x).bind fun y1=>(u1l y1.2).bind fun y2=>(u3n (y2.2,(),([]:Lf),([]:Lc),([]:Lc),y1.1,y2.1)).bind fun y3=>(u3o (y3.1,y3.2.2,())).bind fun y4=>(u3p (y4.1,y4.2.1,())).bind fun y5=>cond y5.1.2.2 (some (y5.2.1,y5.1.1,y5.1.2.1,true)) ((u3f y5.2.1).bind fun y6=>some (y5.2.1,y5.1.1,y5.1.2.1,!y6))
theorem p3y:s4v=r2v:=zC 251 func251
def s5r(x:Hs):Ht Z54:=zK 168 x
def r56 (x:Hs):Ht Z54:=(r09 x).bind fun y1=>((cond (!y1.2) (some true) (some (z7q y1.1 (⟨#[]⟩:Hs)))):La).bind fun j2=>cond j2 (some ((0,(0,0,0,0,([]:Lj),([]:Lh),false,(⟨#[]⟩:Hs)),(⟨#[]⟩:Hs),false,([]:Lf),([]:Lc),([]:Lc),0,0),false)) (cond (y4v (0:Int) y1.1.size) (cond (decide ((i64.wrap ((y1.1.data.toList.getD (0:Int).toNat 0).toNat:Int))=3)) ((u2o (y1.1,1,false)).bind fun y3=>(u8d y3.2).bind fun y4=>(u4y (i64.wrap ((y1.1.data.toList.getD (0:Int).toNat 0).toNat:Int),(0,0,0,0,([]:Lj),([]:Lh),false,(⟨#[]⟩:Hs)),y3.1,y4.1,([]:Lf),([]:Lc),([]:Lc),0,0)).bind fun y5=>((cond y4.2.2.2 (some true) (cond (!y5.2) (some true) (some (!z7q y5.1 x)))):La).bind fun j6=>cond j6 (some ((0,(0,0,0,0,([]:Lj),([]:Lh),false,(⟨#[]⟩:Hs)),(⟨#[]⟩:Hs),false,([]:Lf),([]:Lc),([]:Lc),0,0),false)) (some ((i64.wrap ((y1.1.data.toList.getD (0:Int).toNat 0).toNat:Int),(0,0,0,0,([]:Lj),([]:Lh),false,(⟨#[]⟩:Hs)),y3.1,y4.1,([]:Lf),([]:Lc),([]:Lc),0,0),true))) (cond (decide ((i64.wrap ((y1.1.data.toList.getD (0:Int).toNat 0).toNat:Int))=4)) ((s4v (y1.1,1,false)).bind fun y7=>(u4y (i64.wrap ((y1.1.data.toList.getD (0:Int).toNat 0).toNat:Int),(0,0,0,0,([]:Lj),([]:Lh),false,(⟨#[]⟩:Hs)),(⟨#[]⟩:Hs),false,y7.1)).bind fun y8=>((cond y7.2.2.2 (some true) (cond (!y8.2) (some true) (some (!z7q y8.1 x)))):La).bind fun j9=>cond j9 (some ((0,(0,0,0,0,([]:Lj),([]:Lh),false,(⟨#[]⟩:Hs)),(⟨#[]⟩:Hs),false,([]:Lf),([]:Lc),([]:Lc),0,0),false)) (some ((i64.wrap ((y1.1.data.toList.getD (0:Int).toNat 0).toNat:Int),(0,0,0,0,([]:Lj),([]:Lh),false,(⟨#[]⟩:Hs)),(⟨#[]⟩:Hs),false,y7.1),true))) ((t2s (y1.1,1,false)).bind fun y10=>(u4y (i64.wrap ((y1.1.data.toList.getD (0:Int).toNat 0).toNat:Int),y10.1,(⟨#[]⟩:Hs),false,([]:Lf),([]:Lc),([]:Lc),0,0)).bind fun y11=>((cond y10.2.2.2 (some true) (cond (!y11.2) (some true) (some (!z7q y11.1 x)))):La).bind fun j12=>cond j12 (some ((0,(0,0,0,0,([]:Lj),([]:Lh),false,(⟨#[]⟩:Hs)),(⟨#[]⟩:Hs),false,([]:Lf),([]:Lc),([]:Lc),0,0),false)) (some ((i64.wrap ((y1.1.data.toList.getD (0:Int).toNat 0).toNat:Int),y10.1,(⟨#[]⟩:Hs),false,([]:Lf),([]:Lc),([]:Lc),0,0),true))))) none)
theorem p5t:s5r=r56:=zC 168 func168
def s2s(x:j9r):La:=zK 120 x
def q0i (x:j9r):La:=some (z7q x.1.2.2.2.2.2.2.2 x.2)
theorem p8z:s2s=q0i:=zC 120 func120
def u6r(x:d6n):Li:=zK 10013 x
def u47(g:d6l->Ht r51)(x:d6l):Ht r51:=cond (decide (x.2.2.2<x.2.2.1)) (cond (y4v x.2.2.2 x.1.length) ((s2s (rdL u0a x.1 x.2.2.2.toNat,x.2.1)).bind fun y1=>cond y1 (some (.inr x.2.2.2)) (g (x.1,x.2.1,x.2.2.1,i64.wrap (x.2.2.2+1)))) none) (some (.inl ()))
def u1q:=lpW _ _ u47
theorem t28 x:u1q x=u47 u1q x:=zW u5h 10013 f99 2 19 x
def u6h (x:d6n):Li:=(u1q (x.1,x.2,(x.1.length:Int),0)).bind fun|.inl o3=>some (- 1:Int)|.inr z4=>some z4
theorem t5d:u6r=u6h:=zC 10013 func99
def u2c(x:d1j):Li:=zK 67 x
def q8s (x:d1j):Li:=(u6r (x.1.2.2.1,x.2)).bind fun y1=>some y1
theorem o5k:u2c=q8s:=zC 67 func67
def r06(x:s70):Li:=zK 190 x
def t8n(g:d7p->Ht j7r)(x:d7p):Ht j7r:=cond (decide (x.2.2.2<x.2.2.1)) (cond (y4v x.2.2.2 x.2.1.length) (g (y8y x.1 (rdL u0a x.2.1 x.2.2.2.toNat).2.2.1,x.2.1,x.2.2.1,i64.wrap (x.2.2.2+1))) none) (some (.inl x.1))
def t9g:=lpW _ _ t8n
theorem r76 x:t9g x=t8n t9g x:=zW r61 190 f190 3 22 x
def q4n (x:s70):Li:=(t9g (x.1.2.2.2.1,x.2,(x.2.length:Int),0)).bind fun|.inl o2=>some o2|.inr z3=>none
theorem o1s:r06=q4n:=zC 190 func190
def s8c(x:(Hs×o0j)):Li:=zK 268 x
def t6d(g:c3y->Ht j7r)(x:c3y):Ht j7r:=cond (decide (x.2.2.2.2<x.2.2.2.1)) (cond (y4v x.2.2.2.2 x.2.2.1.length) (cond (z7q (rdL u0f x.2.2.1 x.2.2.2.2.toNat).1 x.1) (g (x.1,i64.wrap (x.2.1+1),x.2.2.1,x.2.2.2.1,i64.wrap (x.2.2.2.2+1))) (g (x.1,x.2.1,x.2.2.1,x.2.2.2.1,i64.wrap (x.2.2.2.2+1)))) none) (some (.inl x.2.1))
def t0s:=lpW _ _ t6d
theorem r4d x:t0s x=t6d t0s x:=zW r3g 268 f268 3 21 x
def q0o (x:(Hs×o0j)):Li:=(t0s (x.1,0,x.2,(x.2.length:Int),0)).bind fun|.inl o2=>some o2|.inr z3=>none
theorem p86:s8c=q0o:=zC 268 func268
def r5k(x:d6z):Ht o0j:=zK 192 x
def s1j(g:c3f->Ht d9z)(x:c3f):Ht d9z:=cond (decide (x.2.2.2.2.2<x.2.2.2.2.1)) (cond (y4v x.2.2.2.2.2 x.2.2.2.1.length) (((cond (decide ((rdL u0f x.2.2.2.1 x.2.2.2.2.2.toNat).2.2.2>x.2.1)) (some true) ((s9q (x.1,(rdL u0f x.2.2.2.1 x.2.2.2.2.2.toNat).1,x.2.1)).bind fun y1=>some (decide (y1=x.2.2.2.2.2)))):La).bind fun j2=>cond j2 (cond (Nat.ble (x.2.2.1.length+([(rdL u0f x.2.2.2.1 x.2.2.2.2.2.toNat)]:Lf).length) z7z) (g (x.1,x.2.1,x.2.2.1++([(rdL u0f x.2.2.2.1 x.2.2.2.2.2.toNat)]:Lf),x.2.2.2.1,x.2.2.2.2.1,i64.wrap (x.2.2.2.2.2+1))) none) (g (x.1,x.2.1,x.2.2.1,x.2.2.2.1,x.2.2.2.2.1,i64.wrap (x.2.2.2.2.2+1)))) none) (some (.inl (x.2.1,x.2.2.1)))
def t4r:=lpW _ _ s1j
theorem q21 x:t4r x=s1j t4r x:=zW q1t 192 f192 3 66 x
def t8r(g:c3g->Ht d4d)(x:c3g):Ht d4d:=cond (decide (x.2.2.2.2.2<x.2.2.2.2.1)) (cond (y4v x.2.2.2.2.2 x.2.2.2.1.length) (cond (decide ((rdL u0f x.2.2.2.1 x.2.2.2.2.2.toNat).2.2.2>x.1)) (cond (Nat.ble (x.2.2.1.length+([(rdL u0f x.2.2.2.1 x.2.2.2.2.2.toNat)]:Lf).length) z7z) (g (x.1,x.2.1,x.2.2.1++([(rdL u0f x.2.2.2.1 x.2.2.2.2.2.toNat)]:Lf),x.2.2.2.1,x.2.2.2.2.1,i64.wrap (x.2.2.2.2.2+1))) none) (cond (!(rdL u0f x.2.2.2.1 x.2.2.2.2.2.toNat).2.2.1) (cond (Nat.ble (x.2.2.1.length+([(rdL u0f x.2.2.2.1 x.2.2.2.2.2.toNat)]:Lf).length) z7z) (g (x.1,x.2.1,x.2.2.1++([(rdL u0f x.2.2.2.1 x.2.2.2.2.2.toNat)]:Lf),x.2.2.2.1,x.2.2.2.2.1,i64.wrap (x.2.2.2.2.2+1))) none) ((s8c ((rdL u0f x.2.2.2.1 x.2.2.2.2.2.toNat).1,x.2.1)).bind fun y5=>cond (decide (y5>1)) (cond (Nat.ble (x.2.2.1.length+([(rdL u0f x.2.2.2.1 x.2.2.2.2.2.toNat)]:Lf).length) z7z) (g (x.1,x.2.1,x.2.2.1++([(rdL u0f x.2.2.2.1 x.2.2.2.2.2.toNat)]:Lf),x.2.2.2.1,x.2.2.2.2.1,i64.wrap (x.2.2.2.2.2+1))) none) (g (x.1,x.2.1,x.2.2.1,x.2.2.2.1,x.2.2.2.2.1,i64.wrap (x.2.2.2.2.2+1)))))) none) (some (.inl x.2.2.1))
def t9j:=lpW _ _ t8r
theorem r8a x:t9j x=t8r t9j x:=zW r66 192 f192 11 66 x
def q8w (x:d6z):Ht o0j:=(t4r (x.1,x.2,([]:Lf),x.1,(x.1.length:Int),0)).bind fun|.inl o4=>((t9j (o4.1,o4.2,([]:Lf),o4.2,(o4.2.length:Int),0)).bind fun|.inl o7=>some o7|.inr z8=>none)|.inr z9=>none
theorem o5o:r5k=q8w:=zC 192 func192
def t2p(x:j5j):La:=zK 191 x
def o03 (x:j5j):La:=some (decide (x.1.2.2.2.1<=x.2))
theorem o1z:t2p=o03:=zC 191 func191
def u7a(x:j5k):Li:=zK 10006 x
def u5s(g:d1l->Ht r51)(x:d1l):Ht r51:=cond (decide (x.2.2.2<x.2.2.1)) (cond (y4v x.2.2.2 x.1.length) ((t2p (rdL u0a x.1 x.2.2.2.toNat,x.2.1)).bind fun y1=>cond y1 (some (.inr x.2.2.2)) (g (x.1,x.2.1,x.2.2.1,i64.wrap (x.2.2.2+1)))) none) (some (.inl ()))
def u1y:=lpW _ _ u5s
theorem t4h x:u1y x=u5s u1y x:=zW u52 10006 f99 2 19 x
def u63 (x:j5k):Li:=(u1y (x.1,x.2,(x.1.length:Int),0)).bind fun|.inl o3=>some (- 1:Int)|.inr z4=>some z4
theorem t55:u7a=u63:=zC 10006 func99
def u2x(x:j5k):Ht p1a:=zK 10005 x
def u44(g:d1l->Ht d4e)(x:d1l):Ht d4e:=cond (decide (x.2.2.2<(x.1.length:Int))) (cond (y4v x.2.2.2 x.1.length) ((t2p (rdL u0a x.1 x.2.2.2.toNat,x.2.1)).bind fun y2=>cond (!y2) (cond (y4v x.2.2.1 x.1.length) (g (x.1.set x.2.2.1.toNat (rdL u0a x.1 x.2.2.2.toNat),x.2.1,i64.wrap (x.2.2.1+1),i64.wrap (x.2.2.2+1))) none) (g (x.1,x.2.1,x.2.2.1,i64.wrap (x.2.2.2+1)))) none) (some (.inl (x.1,x.2.2.1)))
def u1n:=lpW _ _ u44
theorem t25 x:u1n x=u44 u1n x:=zW u5e 10005 f188 5 42 x
def u6e (x:j5k):Ht p1a:=(u7a x).bind fun y1=>cond (decide (y1=(- 1:Int))) (some x.1) ((u1n (x.1,x.2,y1,i64.wrap (y1+1))).bind fun|.inl o4=>cond (decide (0<=o4.2)&&decide (o4.2<=(o4.1.length:Int))&&decide ((o4.1.length:Int)<=(o4.1.length:Int))) (cond (decide (0<=(0:Int))&&decide ((0:Int)<=o4.2)&&decide (o4.2<=((o4.1.take o4.2.toNat++List.replicate ((o4.1.length:Int).toNat - o4.2.toNat) u0a.zero++o4.1.drop (o4.2.toNat+((o4.1.length:Int).toNat - o4.2.toNat))).length:Int))) (some ((o4.1.take o4.2.toNat++List.replicate ((o4.1.length:Int).toNat - o4.2.toNat) u0a.zero++o4.1.drop (o4.2.toNat+((o4.1.length:Int).toNat - o4.2.toNat))).take (o4.2.toNat - (0:Int).toNat))) none) none|.inr z5=>none)
theorem t5a:u2x=u6e:=zC 10005 func188
def u2j(x:s70):Ht u9r:=zK 118 x
def p2u (x:s70):Ht u9r:=(u13 x.1).bind fun y1=>(r06 x).bind fun y2=>(u2x (y1.2.1,y2)).bind fun y3=>(r5k (x.1.1,y2)).bind fun y4=>some (y4,y3,y1.2.2)
theorem o9w:u2j=p2u:=zC 118 func118
def r04(x:Z79):La:=zK 387 x
def q4h (x:Z79):La:=((cond (decide (x.1.2.1=3)) (some (decide (x.1.2.2.2.1<=x.2.2.2.1))) (some false)):La).bind fun j1=>some j1
theorem o1m:r04=q4h:=zC 387 func387
def r9g(x:Z79):La:=zK 349 x
def p2g (x:Z79):La:=cond (!decide (x.1.1=x.2.1)) ((r04 x).bind fun y1=>cond (!y1) ((r04 (x.2,x.1)).bind fun y2=>some (!y2)) (some false)) (some false)
theorem o9i:r9g=p2g:=zC 349 func349
def r5j(x:d9p):La:=zK 350 x
def s1i(g:c24->Ht (d9i⊕Bool))(x:c24):Ht (d9i⊕Bool):=cond (decide (x.2.2.2.2.2.2.2<x.2.2.2.2.2.2.1)) (cond (y4v x.2.2.2.2.2.2.2 x.2.2.2.2.2.1.length) ((s6s (x.2.1,(rdL u11 x.2.2.2.2.2.1 x.2.2.2.2.2.2.2.toNat).1)).bind fun y1=>cond y1 (some (.inr true)) (g (x.1,x.2.1,x.2.2.1,x.2.2.2.1,x.2.2.2.2.1,x.2.2.2.2.2.1,x.2.2.2.2.2.2.1,i64.wrap (x.2.2.2.2.2.2.2+1)))) none) (some (.inl (x.1,x.2.2.1,x.2.2.2.1,x.2.2.2.2.1)))
def t4q:=lpW _ _ s1i
theorem q20 x:t4q x=s1i t4q x:=zW q1s 350 f350 5 27 x
def s1h(g:d9i->Ht r2h)(x:d9i):Ht r2h:=cond (decide (x.2.2.2<x.2.2.1)) (cond (y4v x.2.2.2 x.2.1.length) ((t4q (x.1,rdL r2m x.2.1 x.2.2.2.toNat,x.2.1,x.2.2.1,x.2.2.2,x.1,(x.1.length:Int),0)).bind fun|.inl o3=>g (o3.1,o3.2.1,o3.2.2.1,i64.wrap (o3.2.2.2+1))|.inr z4=>some (.inr z4)) none) (some (.inl ()))
def s2c:=lpW _ _ s1h
theorem q2z x:s2c x=s1h s2c x:=zW q1r 350 f350 2 27 x
def q8v (x:d9p):La:=(s2c (x.2,x.1,(x.1.length:Int),0)).bind fun|.inl o6=>some false|.inr z7=>some z7
theorem o5n:r5j=q8v:=zC 350 func350
def u4x(x:Z79):La:=zK 267 x
def p61 (x:Z79):La:=(((r9g x).bind fun y1=>cond y1 ((r5j (x.1.2.2.2.2.1,x.2.2.2.2.2.2.1)).bind fun y2=>some y2) (some false)):La).bind fun j3=>some j3
theorem j2o:u4x=p61:=zC 267 func267
def s6t(x:Z79):La:=zK 345 x
def q8m (x:Z79):La:=(((t04 x.1).bind fun y1=>cond y1 ((u4x (x.2,x.1)).bind fun y2=>some y2) (some false)):La).bind fun j3=>some j3
theorem o5e:s6t=q8m:=zC 345 func345
def u7k(x:s9h):Li:=zK 10010 x
def u6c(g:j1f->Ht r51)(x:j1f):Ht r51:=cond (decide (x.2.2.2<x.2.2.1)) (cond (y4v x.2.2.2 x.1.length) ((s6t (rdL u0a x.1 x.2.2.2.toNat,x.2.1)).bind fun y1=>cond y1 (some (.inr x.2.2.2)) (g (x.1,x.2.1,x.2.2.1,i64.wrap (x.2.2.2+1)))) none) (some (.inl ()))
def u12:=lpW _ _ u6c
theorem t5q x:u12 x=u6c u12 x:=zW u6l 10010 f99 2 19 x
def u7j (x:s9h):Li:=(u12 (x.1,x.2,(x.1.length:Int),0)).bind fun|.inl o3=>some (- 1:Int)|.inr z4=>some z4
theorem t7c:u7k=u7j:=zC 10010 func99
def u56(x:s9h):La:=zK 10009 x
def u5t (x:s9h):La:=(u7k x).bind fun y1=>some (decide (y1>=0))
theorem t33:u56=u5t:=zC 10009 func233
def s3m(x:s9h):La:=zK 10008 x
def s3g (x:s9h):La:=(u56 x).bind fun y1=>some y1
theorem r6w:s3m=s3g:=zC 10008 func153
def s7n(x:o07):La:=zK 264 x
def p68 (x:o07):La:=(s3m (x.2,x.1)).bind fun y1=>some y1
theorem j2v:s7n=p68:=zC 264 func264
def u42(x:c36):Ht o0j:=zK 348 x
theorem s9l:∀(x:c36),u42 x=y2u u0f x:=y6p (P:=Tryz.prog) (A:=A) (f:=348) (F:=y2u u0f) rfl
def s0h(x:d87):La:=zK 347 x
def s8r (x:d87):La:=(u7s x).bind fun y1=>some (decide (y1>0))
theorem q70:s0h=s8r:=zC 347 func347
def u15(x:c3t):Li:=zK 10007 x
def u02(g:c3k->Ht r51)(x:c3k):Ht r51:=cond (decide (x.2.2.2<x.2.2.1)) (cond (y4v x.2.2.2 x.1.length) ((s0h (rdL u0f x.1 x.2.2.2.toNat,x.2.1)).bind fun y1=>cond y1 (some (.inr x.2.2.2)) (g (x.1,x.2.1,x.2.2.1,i64.wrap (x.2.2.2+1)))) none) (some (.inl ()))
def u03:=lpW _ _ u02
theorem u23 x:u03 x=u02 u03 x:=zW u21 10007 f346 2 19 x
def u3d (x:c3t):Li:=(u03 (x.1,x.2,(x.1.length:Int),0)).bind fun|.inl o3=>some (- 1:Int)|.inr z4=>some z4
theorem u91:u15=u3d:=zC 10007 func346
def t62(x:d9k):Ht o0j:=zK 265 x
def t1r(g:c3s->Ht d4d)(x:c3s):Ht d4d:=cond (decide (x.2.2.2.2<x.2.2.2.1)) (cond (y4v x.2.2.2.2 x.2.2.1.length) ((u15 (x.2.1,(rdL u11 x.2.2.1 x.2.2.2.2.toNat).1,(rdL u11 x.2.2.1 x.2.2.2.2.toNat).2.1,(rdL u11 x.2.2.1 x.2.2.2.2.toNat).2.2,x.1)).bind fun y1=>cond (decide (y1<0)) ((u42 (x.2.1,(x.2.1.length:Int),([((rdL u11 x.2.2.1 x.2.2.2.2.toNat).1,(rdL u11 x.2.2.1 x.2.2.2.2.toNat).2.1,(rdL u11 x.2.2.1 x.2.2.2.2.toNat).2.2,x.1)]:Lf))).bind fun y2=>g (x.1,y2,x.2.2.1,x.2.2.2.1,i64.wrap (x.2.2.2.2+1))) ((u42 (x.2.1,y1,([((rdL u11 x.2.2.1 x.2.2.2.2.toNat).1,(rdL u11 x.2.2.1 x.2.2.2.2.toNat).2.1,(rdL u11 x.2.2.1 x.2.2.2.2.toNat).2.2,x.1)]:Lf))).bind fun y3=>g (x.1,y3,x.2.2.1,x.2.2.2.1,i64.wrap (x.2.2.2.2+1)))) none) (some (.inl x.2.1))
def t1v:=lpW _ _ t1r
theorem s89 x:t1v x=t1r t1v x:=zW s8z 265 f265 3 42 x
def r2o (x:d9k):Ht o0j:=cond (Nat.ble x.1.length z7z) ((t1v (x.2.2,x.1,x.2.1,(x.2.1.length:Int),0)).bind fun|.inl o5=>some o5|.inr z6=>none) none
theorem p3q:t62=r2o:=zC 265 func265
def t0h(x:Z79):La:=zK 266 x
def p8k (x:Z79):La:=some (decide (x.1.1=x.2.1))
theorem p85:t0h=p8k:=zC 266 func266
def u6s(x:s9h):Li:=zK 10012 x
def u48(g:j1f->Ht r51)(x:j1f):Ht r51:=cond (decide (x.2.2.2<x.2.2.1)) (cond (y4v x.2.2.2 x.1.length) ((t0h (rdL u0a x.1 x.2.2.2.toNat,x.2.1)).bind fun y1=>cond y1 (some (.inr x.2.2.2)) (g (x.1,x.2.1,x.2.2.1,i64.wrap (x.2.2.2+1)))) none) (some (.inl ()))
def u1r:=lpW _ _ u48
theorem t29 x:u1r x=u48 u1r x:=zW u5i 10012 f99 2 19 x
def u6i (x:s9h):Li:=(u1r (x.1,x.2,(x.1.length:Int),0)).bind fun|.inl o3=>some (- 1:Int)|.inr z4=>some z4
theorem t5e:u6s=u6i:=zC 10012 func99
def u1z(x:s9h):Ht p1a:=zK 10011 x
def u4p(g:j1f->Ht d4e)(x:j1f):Ht d4e:=cond (decide (x.2.2.2<(x.1.length:Int))) (cond (y4v x.2.2.2 x.1.length) ((t0h (rdL u0a x.1 x.2.2.2.toNat,x.2.1)).bind fun y2=>cond (!y2) (cond (y4v x.2.2.1 x.1.length) (g (x.1.set x.2.2.1.toNat (rdL u0a x.1 x.2.2.2.toNat),x.2.1,i64.wrap (x.2.2.1+1),i64.wrap (x.2.2.2+1))) none) (g (x.1,x.2.1,x.2.2.1,i64.wrap (x.2.2.2+1)))) none) (some (.inl (x.1,x.2.2.1)))
def u1i:=lpW _ _ u4p
theorem t2y x:u1i x=u4p u1i x:=zW u4u 10011 f188 5 42 x
def u5v (x:s9h):Ht p1a:=(u6s x).bind fun y1=>cond (decide (y1=(- 1:Int))) (some x.1) ((u1i (x.1,x.2,y1,i64.wrap (y1+1))).bind fun|.inl o4=>cond (decide (0<=o4.2)&&decide (o4.2<=(o4.1.length:Int))&&decide ((o4.1.length:Int)<=(o4.1.length:Int))) (cond (decide (0<=(0:Int))&&decide ((0:Int)<=o4.2)&&decide (o4.2<=((o4.1.take o4.2.toNat++List.replicate ((o4.1.length:Int).toNat - o4.2.toNat) u0a.zero++o4.1.drop (o4.2.toNat+((o4.1.length:Int).toNat - o4.2.toNat))).length:Int))) (some ((o4.1.take o4.2.toNat++List.replicate ((o4.1.length:Int).toNat - o4.2.toNat) u0a.zero++o4.1.drop (o4.2.toNat+((o4.1.length:Int).toNat - o4.2.toNat))).take (o4.2.toNat - (0:Int).toNat))) none) none|.inr z5=>none)
theorem t35:u1z=u5v:=zC 10011 func188
def u9e(x:Z66):Ht u9r:=zK 187 x
def s1g(g:Z12->Ht (Z14⊕Unit))(x:Z12):Ht (Z14⊕Unit):=cond (decide (x.2.2.2.2.2.2<x.2.2.2.2.2.1)) (cond (y4v x.2.2.2.2.2.2 x.2.2.1.2.2.1.length) (cond (rdL u0a x.2.2.1.2.2.1 x.2.2.2.2.2.2.toNat).2.2.2.2.2.2.1 (cond (y4v x.2.2.2.2.2.2 x.2.2.1.2.2.1.length) (g (x.1,x.2.1,(x.2.2.1.1,x.2.2.1.2.1,x.2.2.1.2.2.1.set x.2.2.2.2.2.2.toNat ((rdL u0a x.2.2.1.2.2.1 x.2.2.2.2.2.2.toNat).1,(rdL u0a x.2.2.1.2.2.1 x.2.2.2.2.2.2.toNat).2.1,(rdL u0a x.2.2.1.2.2.1 x.2.2.2.2.2.2.toNat).2.2.1,(rdL u0a x.2.2.1.2.2.1 x.2.2.2.2.2.2.toNat).2.2.2.1,(rdL u0a x.2.2.1.2.2.1 x.2.2.2.2.2.2.toNat).2.2.2.2.1,(rdL u0a x.2.2.1.2.2.1 x.2.2.2.2.2.2.toNat).2.2.2.2.2.1,true,(rdL u0a x.2.2.1.2.2.1 x.2.2.2.2.2.2.toNat).2.2.2.2.2.2.2),x.2.2.1.2.2.2),x.2.2.2.1,(),x.2.2.2.2.2.1,i64.wrap (x.2.2.2.2.2.2+1))) none) ((u4x (rdL u0a x.2.2.1.2.2.1 x.2.2.2.2.2.2.toNat,x.2.2.2.1)).bind fun y5=>cond (y4v x.2.2.2.2.2.2 x.2.2.1.2.2.1.length) (g (x.1,x.2.1,(x.2.2.1.1,x.2.2.1.2.1,x.2.2.1.2.2.1.set x.2.2.2.2.2.2.toNat ((rdL u0a x.2.2.1.2.2.1 x.2.2.2.2.2.2.toNat).1,(rdL u0a x.2.2.1.2.2.1 x.2.2.2.2.2.2.toNat).2.1,(rdL u0a x.2.2.1.2.2.1 x.2.2.2.2.2.2.toNat).2.2.1,(rdL u0a x.2.2.1.2.2.1 x.2.2.2.2.2.2.toNat).2.2.2.1,(rdL u0a x.2.2.1.2.2.1 x.2.2.2.2.2.2.toNat).2.2.2.2.1,(rdL u0a x.2.2.1.2.2.1 x.2.2.2.2.2.2.toNat).2.2.2.2.2.1,y5,(rdL u0a x.2.2.1.2.2.1 x.2.2.2.2.2.2.toNat).2.2.2.2.2.2.2),x.2.2.1.2.2.2),x.2.2.2.1,(),x.2.2.2.2.2.1,i64.wrap (x.2.2.2.2.2.2+1))) none)) none) (some (.inl (x.1,x.2.1,x.2.2.1,x.2.2.2.1)))
def u99:=lpW _ _ s1g
theorem q2y x:u99 x=s1g u99 x:=zW q1q 187 f187 9 80 x
def q8u (x:Z66):Ht u9r:=(u13 x.1).bind fun y1=>(u2n x.2).bind fun y2=>cond x.2.2.2.2.2.2.2.1 ((t62 (x.1.1,x.2.2.2.2.2.2.1,i64.wrap (y1.2.2.2.1+1))).bind fun y3=>(u1z (y1.2.2.1,x.2)).bind fun y4=>(u99 (x.2,(([]:Lf),([]:Lc),([]:Lc),0,0),(y3,y1.2.1,y4,i64.wrap (y1.2.2.2.1+1),y1.2.2.2.2),(y2.1,3,y2.2.2.1,i64.wrap (x.1.2.2.2.1+1),y2.2.2.2.2.1,y2.2.2.2.2.2.1,true,(⟨#[]⟩:Hs)),(),(y4.length:Int),0)).bind fun|.inl o7=>cond (Nat.ble (o7.2.2.1.2.1.length+([o7.2.2.2]:Lc).length) z7z) (some (o7.2.2.1.1,o7.2.2.1.2.1++([o7.2.2.2]:Lc),o7.2.2.1.2.2.1,o7.2.2.1.2.2.2.1,y8x o7.2.2.1.2.2.2.2 (i64.wrap (o7.1.1+1)))) none|.inr z8=>none) ((s7n (x.2,x.1.2.1)).bind fun y9=>(t62 (x.1.1,x.2.2.2.2.2.2.1,i64.wrap (y1.2.2.2.1+1))).bind fun y10=>(u1z (y1.2.2.1,x.2)).bind fun y11=>(u99 (x.2,(([]:Lf),([]:Lc),([]:Lc),0,0),(y10,y1.2.1,y11,i64.wrap (y1.2.2.2.1+1),y1.2.2.2.2),(y2.1,3,y2.2.2.1,i64.wrap (x.1.2.2.2.1+1),y2.2.2.2.2.1,y2.2.2.2.2.2.1,y9,(⟨#[]⟩:Hs)),(),(y11.length:Int),0)).bind fun|.inl o14=>cond (Nat.ble (o14.2.2.1.2.1.length+([o14.2.2.2]:Lc).length) z7z) (some (o14.2.2.1.1,o14.2.2.1.2.1++([o14.2.2.2]:Lc),o14.2.2.1.2.2.1,o14.2.2.1.2.2.2.1,y8x o14.2.2.1.2.2.2.2 (i64.wrap (o14.1.1+1)))) none|.inr z15=>none)
theorem o5m:u9e=q8u:=zC 187 func187
def u8l(x:Z62):Ht u9r:=zK 195 x
def t6c(g:Z8->Ht (Z10⊕Unit))(x:Z8):Ht (Z10⊕Unit):=cond (decide (x.2.2.2.2.2.2.2.2.2<x.2.2.2.2.2.2.2.2.1)) (cond (y4v x.2.2.2.2.2.2.2.2.2 x.2.2.2.1.2.2.1.length) (cond (y3i (rdL u0a x.2.2.2.1.2.2.1 x.2.2.2.2.2.2.2.2.2.toNat).2.2.2.2.2.2.2 x.1) (cond (Nat.ble (x.2.2.2.2.2.1.length+([(rdL u0a x.2.2.2.1.2.2.1 x.2.2.2.2.2.2.2.2.2.toNat)]:Lc).length) z7z) (g (x.1,x.2.1,x.2.2.1,x.2.2.2.1,x.2.2.2.2.1,x.2.2.2.2.2.1++([(rdL u0a x.2.2.2.1.2.2.1 x.2.2.2.2.2.2.2.2.2.toNat)]:Lc),x.2.2.2.2.2.2.1,(),x.2.2.2.2.2.2.2.2.1,i64.wrap (x.2.2.2.2.2.2.2.2.2+1))) none) (cond (Nat.ble (x.2.2.2.2.2.2.1.length+([(rdL u0a x.2.2.2.1.2.2.1 x.2.2.2.2.2.2.2.2.2.toNat)]:Lc).length) z7z) (g (x.1,x.2.1,x.2.2.1,x.2.2.2.1,x.2.2.2.2.1,x.2.2.2.2.2.1,x.2.2.2.2.2.2.1++([(rdL u0a x.2.2.2.1.2.2.1 x.2.2.2.2.2.2.2.2.2.toNat)]:Lc),(),x.2.2.2.2.2.2.2.2.1,i64.wrap (x.2.2.2.2.2.2.2.2.2+1))) none)) none) (some (.inl (x.2.1,x.2.2.1,x.2.2.2.1,x.2.2.2.2.1,x.2.2.2.2.2.1,x.2.2.2.2.2.2.1)))
def u74:=lpW _ _ t6c
theorem r4c x:u74 x=t6c u74 x:=zW r3f 195 f195 6 64 x
def q0e (x:Z62):Ht u9r:=(u13 x.1).bind fun y1=>(u2n x.2.1).bind fun y2=>cond x.2.1.2.2.2.2.2.2.1 ((u74 (x.2.2,x.2.1,(([]:Lf),([]:Lc),([]:Lc),0,0),y1,(y2.1,2,y2.2.2.1,y2.2.2.2.1,y2.2.2.2.2.1,y2.2.2.2.2.2.1,true,x.2.2),([]:Lc),([]:Lc),(),(y1.2.2.1.length:Int),0)).bind fun|.inl o4=>cond (Nat.ble (o4.2.2.2.2.1.length+([o4.2.2.2.1]:Lc).length) z7z) (cond (Nat.ble ((o4.2.2.2.2.1++([o4.2.2.2.1]:Lc)).length+o4.2.2.2.2.2.length) z7z) (some (o4.2.2.1.1,o4.2.2.1.2.1,(o4.2.2.2.2.1++([o4.2.2.2.1]:Lc))++o4.2.2.2.2.2,o4.2.2.1.2.2.2.1,y8x o4.2.2.1.2.2.2.2 (i64.wrap (o4.1.1+1)))) none) none|.inr z5=>none) ((s7n (x.2.1,x.1.2.1)).bind fun y6=>(u74 (x.2.2,x.2.1,(([]:Lf),([]:Lc),([]:Lc),0,0),y1,(y2.1,2,y2.2.2.1,y2.2.2.2.1,y2.2.2.2.2.1,y2.2.2.2.2.2.1,y6,x.2.2),([]:Lc),([]:Lc),(),(y1.2.2.1.length:Int),0)).bind fun|.inl o8=>cond (Nat.ble (o8.2.2.2.2.1.length+([o8.2.2.2.1]:Lc).length) z7z) (cond (Nat.ble ((o8.2.2.2.2.1++([o8.2.2.2.1]:Lc)).length+o8.2.2.2.2.2.length) z7z) (some (o8.2.2.1.1,o8.2.2.1.2.1,(o8.2.2.2.2.1++([o8.2.2.2.1]:Lc))++o8.2.2.2.2.2,o8.2.2.1.2.2.2.1,y8x o8.2.2.1.2.2.2.2 (i64.wrap (o8.1.1+1)))) none) none|.inr z9=>none)
theorem p8v:u8l=q0e:=zC 195 func195
def t0g(x:j9r):La:=zK 273 x
def p8j (x:j9r):La:=some (z7q x.1.2.2.2.2.2.2.2 x.2)
theorem p8u:t0g=p8j:=zC 273 func273
def u6q(x:d6n):Li:=zK 10015 x
def u46(g:d6l->Ht r51)(x:d6l):Ht r51:=cond (decide (x.2.2.2<x.2.2.1)) (cond (y4v x.2.2.2 x.1.length) ((t0g (rdL u0a x.1 x.2.2.2.toNat,x.2.1)).bind fun y1=>cond y1 (some (.inr x.2.2.2)) (g (x.1,x.2.1,x.2.2.1,i64.wrap (x.2.2.2+1)))) none) (some (.inl ()))
def u1p:=lpW _ _ u46
theorem t27 x:u1p x=u46 u1p x:=zW u5g 10015 f99 2 19 x
def u6g (x:d6n):Li:=(u1p (x.1,x.2,(x.1.length:Int),0)).bind fun|.inl o3=>some (- 1:Int)|.inr z4=>some z4
theorem t5c:u6q=u6g:=zC 10015 func99
def u2t(x:d6n):Ht p1a:=zK 10014 x
def u4o(g:d6l->Ht d4e)(x:d6l):Ht d4e:=cond (decide (x.2.2.2<(x.1.length:Int))) (cond (y4v x.2.2.2 x.1.length) ((t0g (rdL u0a x.1 x.2.2.2.toNat,x.2.1)).bind fun y2=>cond (!y2) (cond (y4v x.2.2.1 x.1.length) (g (x.1.set x.2.2.1.toNat (rdL u0a x.1 x.2.2.2.toNat),x.2.1,i64.wrap (x.2.2.1+1),i64.wrap (x.2.2.2+1))) none) (g (x.1,x.2.1,x.2.2.1,i64.wrap (x.2.2.2+1)))) none) (some (.inl (x.1,x.2.2.1)))
def u1h:=lpW _ _ u4o
theorem t2x x:u1h x=u4o u1h x:=zW u4t 10014 f188 5 42 x
def u5u (x:d6n):Ht p1a:=(u6q x).bind fun y1=>cond (decide (y1=(- 1:Int))) (some x.1) ((u1h (x.1,x.2,y1,i64.wrap (y1+1))).bind fun|.inl o4=>cond (decide (0<=o4.2)&&decide (o4.2<=(o4.1.length:Int))&&decide ((o4.1.length:Int)<=(o4.1.length:Int))) (cond (decide (0<=(0:Int))&&decide ((0:Int)<=o4.2)&&decide (o4.2<=((o4.1.take o4.2.toNat++List.replicate ((o4.1.length:Int).toNat - o4.2.toNat) u0a.zero++o4.1.drop (o4.2.toNat+((o4.1.length:Int).toNat - o4.2.toNat))).length:Int))) (some ((o4.1.take o4.2.toNat++List.replicate ((o4.1.length:Int).toNat - o4.2.toNat) u0a.zero++o4.1.drop (o4.2.toNat+((o4.1.length:Int).toNat - o4.2.toNat))).take (o4.2.toNat - (0:Int).toNat))) none) none|.inr z5=>none)
theorem t34:u2t=u5u:=zC 10014 func188
def s0v(x:d1j):Ht u9r:=zK 197 x
def q8k (x:d1j):Ht u9r:=(u13 x.1).bind fun y1=>(u2t (y1.2.2.1,x.2)).bind fun y2=>some (y1.1,y1.2.1,y2,y1.2.2.2)
theorem o5c:s0v=q8k:=zC 197 func197
def r9m(x:Z22):Ht j6r:=zK 169 x
def p2q (x:Z22):Ht j6r:=(((u3f x.1).bind fun y1=>cond (!y1) (some true) ((s4q x.2).bind fun y2=>some (!y2))):La).bind fun j3=>cond j3 ((u13 x.1).bind fun y4=>some (y4,false)) ((u13 x.1).bind fun y5=>cond (decide (x.2.1=1)) ((u9e (x.1,x.2.2.1)).bind fun y6=>(u2j (y6,([]:Lc))).bind fun y7=>((cond (!(decide (x.2.2.1.2.2.2.1=(i64.wrap (x.1.2.2.2.1+1))))) (some true) ((u3f y7).bind fun y8=>some (!y8))):La).bind fun j9=>cond j9 ((u13 x.1).bind fun y10=>some (y10,false)) (some (y7,true))) (cond (decide (x.2.1=2)) (((cond (decide ((x.1.2.2.1.length:Int)<(3:Int))) ((u2c (x.1,x.2.2.1.2.2.2.2.2.2.2)).bind fun y11=>some (decide (y11<0))) (some false)):La).bind fun j12=>(u8l (x.1,x.2.2.1,x.2.2.1.2.2.2.2.2.2.2)).bind fun y13=>(u2j (y13,([]:Lc))).bind fun y14=>((cond (!j12) (some true) ((u3f y14).bind fun y15=>some (!y15))):La).bind fun j16=>cond j16 ((u13 x.1).bind fun y17=>some (y17,false)) (some (y14,true))) (cond (decide (x.2.1=3)) ((u2c (x.1,x.2.2.2.1)).bind fun y18=>((cond (decide (y18>=0)) (some x.2.2.2.2.1) (some false)):La).bind fun j19=>cond j19 (cond (y4v y18 x.1.2.2.1.length) ((u9e (x.1,rdL u0a x.1.2.2.1 y18.toNat)).bind fun y20=>(u2j (y20,([]:Lc))).bind fun y21=>((cond (!(decide (y18>=0))) (some true) ((u3f y21).bind fun y22=>some (!y22))):La).bind fun j23=>cond j23 ((u13 x.1).bind fun y24=>some (y24,false)) (some (y21,true))) none) ((s0v (x.1,x.2.2.2.1)).bind fun y25=>(u2j (y25,([]:Lc))).bind fun y26=>((cond (!(decide (y18>=0))) (some true) ((u3f y26).bind fun y27=>some (!y27))):La).bind fun j28=>cond j28 ((u13 x.1).bind fun y29=>some (y29,false)) (some (y26,true)))) ((u13 x.2.2.2.2.2).bind fun y30=>(u2j (y30,([]:Lc))).bind fun y31=>(((u3f y31).bind fun y32=>some (!y32)):La).bind fun j33=>cond j33 ((u13 x.1).bind fun y34=>some (y34,false)) (some (y31,true))))))
theorem o9s:r9m=p2q:=zC 169 func169
def s0w(x:u71):Ht j6r:=zK 102 x
def s1d(g:Z47->Ht (Z59⊕j6r))(x:Z47):Ht (Z59⊕j6r):=cond (decide (x.2.2.2.2<x.2.2.2.1)) (cond (y4v x.2.2.2.2 x.2.2.1.length) ((s5r (rdL Ty.str x.2.2.1 x.2.2.2.2.toNat)).bind fun y3=>(r9m (x.2.1,y3.1)).bind fun y4=>((cond (!y3.2) (some true) (some (!y4.2))):La).bind fun j5=>cond j5 (some (.inr ((([]:Lf),([]:Lc),([]:Lc),0,0),false))) (g (x.1,y4.1,x.2.2.1,x.2.2.2.1,i64.wrap (x.2.2.2.2+1)))) none) (some (.inl (x.1,x.2.1)))
def u8g:=lpW _ _ s1d
theorem q2v x:u8g x=s1d u8g x:=zW q1m 102 f102 3 40 x
def q8o (x:u71):Ht j6r:=(r5d ()).bind fun y1=>(t77 x).bind fun y2=>(u8g ((([]:Lf),([]:Lc),([]:Lc),0,0),y1,y2,(y2.length:Int),0)).bind fun|.inl o7=>some (o7.2,true)|.inr z8=>some z8
theorem o5g:s0w=q8o:=zC 102 func102
def t9w(x:u71):La:=zK 184 x
def s3s(g:c1g->Ht d6w)(x:c1g):Ht d6w:=cond (decide (x.2.2.2<x.2.2.1)) (cond (y4v x.2.2.2 x.2.1.length) (cond (!decide (((rdL Ty.str x.2.1 x.2.2.2.toNat).size:Int)=(64:Int))) (some (.inr false)) (g (x.1,x.2.1,x.2.2.1,i64.wrap (x.2.2.2+1)))) none) (some (.inl x.1))
def s32:=lpW _ _ s3s
theorem q66 x:s32 x=s3s s32 x:=zW q56 184 f184 2 50 x
def s3t(g:c1h->Ht d6w)(x:c1h):Ht d6w:=cond (decide (x.2.2.2<x.2.2.1)) (cond (y4v x.2.2.2 x.2.1.length) ((((u0t ((rdL s5e x.2.1 x.2.2.2.toNat).1,0,i64.wrap ((x.1.1.length:Int) - (1:Int)))).bind fun y3=>cond (!y3) (some true) (some (!decide (((rdL s5e x.2.1 x.2.2.2.toNat).2.size:Int)=(64:Int))))):La).bind fun j4=>cond j4 (some (.inr false)) (g (x.1,x.2.1,x.2.2.1,i64.wrap (x.2.2.2+1)))) none) (some (.inl x.1))
def s33:=lpW _ _ s3t
theorem q67 x:s33 x=s3t s33 x:=zW q57 184 f184 8 50 x
def p2j (x:u71):La:=(s32 (x,x.1,(x.1.length:Int),0)).bind fun|.inl o2=>((s33 (o2,o2.2,(o2.2.length:Int),0)).bind fun|.inl o6=>((((u0t ((o6.1.length:Int),1,100)).bind fun y7=>cond y7 (some (decide ((o6.2.length:Int)<=(60:Int)))) (some false)):La).bind fun j8=>some j8)|.inr z9=>some z9)|.inr z10=>some z10
theorem o9l:t9w=p2j:=zC 184 func184
def u8k(x:u71):Ht u71:=zK 110 x
def t6b(g:c27->Ht j84)(x:c27):Ht j84:=cond (decide (x.2.2.2.2<x.2.2.2.1)) (cond (y4v x.2.2.2.2 x.2.2.1.length) (cond (y4v (rdL s5e x.2.2.1 x.2.2.2.2.toNat).1 x.2.1.1.length) (g (x.1,(x.2.1.1.set ((rdL s5e x.2.2.1 x.2.2.2.2.toNat).1).toNat (rdL s5e x.2.2.1 x.2.2.2.2.toNat).2,x.2.1.2),x.2.2.1,x.2.2.2.1,i64.wrap (x.2.2.2.2+1))) none) none) (some (.inl (x.1,x.2.1)))
def t6s:=lpW _ _ t6b
theorem r4b x:t6s x=t6b t6s x:=zW r3e 110 f110 4 27 x
def q0d (x:u71):Ht u71:=(u06 x).bind fun y1=>(t9w x).bind fun y2=>cond y2 ((t6s ((([]:Lg),([]:Ll)),y1,x.2,(x.2.length:Int),0)).bind fun|.inl o4=>some (o4.2.1,([]:Ll))|.inr z5=>none) (some y1)
theorem p8t:u8k=q0d:=zC 110 func110
def s4s(x:j6s):Ht r25:=zK 261 x
def r2u (x:j6s):Ht r25:=(u06 x.1).bind fun y1=>cond (Nat.ble (y1.2.length+([x.2]:Ll).length) z7z) ((t9w (y1.1,y1.2++([x.2]:Ll))).bind fun y2=>cond (!y2) ((u06 x.1).bind fun y3=>some (y3,false)) (some ((y1.1,y1.2++([x.2]:Ll)),true))) none
theorem p3w:s4s=r2u:=zC 261 func261
def t2q(x:d9e):Ht r25:=zK 182 x
def s23(g:c2o->Ht d6x)(x:c2o):Ht d6x:=cond (!z7q x.2.2.1 (⟨#[]⟩:Hs)) ((t2o (x.2.2.2.2.2,x.1)).bind fun y6=>((cond (!y6.2) (some true) (some (!decide ((y6.1.size:Int)=(64:Int))))):La).bind fun j7=>cond j7 ((u06 x.2.2.2.1).bind fun y8=>some (.inr (y8,false))) (cond (decide (0<=(0:Int))&&decide ((0:Int)<=x.2.1)&&decide (x.2.1<=(y6.1.size:Int))) (cond (decide (0<=(0:Int))&&decide ((0:Int)<=(y8y (x.2.2.1.size:Int) (i64.wrap ((64:Int) - x.2.1))))&&decide ((y8y (x.2.2.1.size:Int) (i64.wrap ((64:Int) - x.2.1)))<=(x.2.2.1.size:Int))) (cond (decide ((y6.1.extract (0:Int).toNat x.2.1.toNat).size+(x.2.2.1.extract (0:Int).toNat (y8y (x.2.2.1.size:Int) (i64.wrap ((64:Int) - x.2.1))).toNat).size<=140737488355328)) (cond (decide (0<=(i64.wrap (x.2.1+(y8y (x.2.2.1.size:Int) (i64.wrap ((64:Int) - x.2.1))))))&&decide ((i64.wrap (x.2.1+(y8y (x.2.2.1.size:Int) (i64.wrap ((64:Int) - x.2.1)))))<=(y6.1.size:Int))&&decide ((y6.1.size:Int)<=(y6.1.size:Int))) (cond (decide (((y6.1.extract (0:Int).toNat x.2.1.toNat)++(x.2.2.1.extract (0:Int).toNat (y8y (x.2.2.1.size:Int) (i64.wrap ((64:Int) - x.2.1))).toNat)).size+(y6.1.extract (i64.wrap (x.2.1+(y8y (x.2.2.1.size:Int) (i64.wrap ((64:Int) - x.2.1))))).toNat (y6.1.size:Int).toNat).size<=140737488355328)) ((s4s (x.2.2.2.2.2,x.1,((y6.1.extract (0:Int).toNat x.2.1.toNat)++(x.2.2.1.extract (0:Int).toNat (y8y (x.2.2.1.size:Int) (i64.wrap ((64:Int) - x.2.1))).toNat))++(y6.1.extract (i64.wrap (x.2.1+(y8y (x.2.2.1.size:Int) (i64.wrap ((64:Int) - x.2.1))))).toNat (y6.1.size:Int).toNat))).bind fun y9=>cond (!y9.2) ((u06 x.2.2.2.1).bind fun y10=>some (.inr (y10,false))) (cond (decide (0<=(y8y (x.2.2.1.size:Int) (i64.wrap ((64:Int) - x.2.1))))&&decide ((y8y (x.2.2.1.size:Int) (i64.wrap ((64:Int) - x.2.1)))<=(x.2.2.1.size:Int))&&decide ((x.2.2.1.size:Int)<=(x.2.2.1.size:Int))) (g (i64.wrap (x.1+1),0,x.2.2.1.extract (y8y (x.2.2.1.size:Int) (i64.wrap ((64:Int) - x.2.1))).toNat (x.2.2.1.size:Int).toNat,x.2.2.2.1,x.2.2.2.2.1,y9.1)) none)) none) none) none) none) none)) (some (.inl x.2.2.2.2))
def t3x:=lpW _ _ s23
theorem p17 x:t3x x=s23 t3x x:=zW r0t 182 f182 5 87 x
def r6c (x:d9e):Ht r25:=(((u0t (x.2.2.1,0,6400)).bind fun y1=>cond (!y1) (some true) ((u0t (x.2.1,0,i64.wrap ((x.1.1.length:Int) - (1:Int)))).bind fun y2=>some (!y2))):La).bind fun j3=>cond j3 ((u06 x.1).bind fun y4=>some (y4,false)) ((u06 x.1).bind fun y5=>(t3x (i64.wrap (x.2.1+(i64.wrap (Int.tdiv x.2.2.1 (64:Int)))),Int.tmod x.2.2.1 (64:Int),x.2.2.2,x.1,(([]:Lg),([]:Ll)),y5)).bind fun|.inl o12=>some (o12.2,true)|.inr z13=>some z13)
theorem p5z:t2q=r6c:=zC 182 func182
def t79(x:d1z):Ht u71:=zK 109 x
def q43 (x:d1z):Ht u71:=(t0f x.2.1).bind fun y1=>(t2q (x.1,y1,0,y7s ([(u8.wrap x.2.2)]:Ld))).bind fun y2=>some y2.1
theorem o2k:t79=q43:=zC 109 func109
def s7m(x:u71):La:=zK 114 x
def p66 (x:u71):La:=(t2n (x,0)).bind fun y1=>(t2n (x,1)).bind fun y2=>(((t9w x).bind fun y3=>cond y3 (cond (decide ((x.1.length:Int)=(97:Int))) (cond (decide ((x.2.length:Int)=(0:Int))) (cond y1.2.2 (some y2.2.2) (some false)) (some false)) (some false)) (some false)):La).bind fun j4=>some j4
theorem j2t:s7m=p66:=zC 114 func114
def s6x(x:j6s):Ht r25:=zK 107 x
def q81 (x:j6s):Ht r25:=(t2n (x.1,x.2.1)).bind fun y1=>(t5k x.2.2).bind fun y2=>(((s7m x.1).bind fun y3=>cond (!y3) (some true) (cond (!y1.2.2) (some true) (cond (!y2.2) (some true) (cond (z7q x.2.2 (⟨#[]⟩:Hs)) (some true) (cond (decide ((i64.wrap (y1.2.1+(y2.1.size:Int)))>3008)) (some true) ((t5s (x.1,x.2.1)).bind fun y4=>some (decide (y4=255)))))))):La).bind fun j5=>cond j5 ((u06 x.1).bind fun y6=>some (y6,false)) ((t0f x.2.1).bind fun y7=>(t2q (x.1,i64.wrap (y7+1),y1.2.1,y2.1)).bind fun y8=>some y8)
theorem o5v:s6x=q81:=zC 107 func107
def s2q(x:j6s):Ht r25:=zK 178 x
def q0f (x:j6s):Ht r25:=(s6x x).bind fun y1=>cond (!y1.2) ((u06 x.1).bind fun y2=>some (y2,false)) ((u8k y1.1).bind fun y3=>(t5s (x.1,x.2.1)).bind fun y4=>(t79 (y3,x.2.1,i64.wrap (y4+1))).bind fun y5=>(u8k y5).bind fun y6=>some (y6,true))
theorem p8w:s2q=q0f:=zC 178 func178
def s8f(x:d3t):Ht r25:=zK 176 x
def t6e(g:Z98->Ht d6x)(x:Z98):Ht d6x:=cond (decide (x.2.2.2.2.2.2<x.2.2.2.2.2.1)) (cond (y4v x.2.2.2.2.2.2 x.2.2.2.2.1.length) ((s2q (x.2.2.2.1,x.2.2.1,rdL Ty.str x.2.2.2.2.1 x.2.2.2.2.2.2.toNat)).bind fun y6=>cond (!y6.2) ((u06 x.1).bind fun y7=>some (.inr (y7,false))) (g (x.1,x.2.1,x.2.2.1,y6.1,x.2.2.2.2.1,x.2.2.2.2.2.1,i64.wrap (x.2.2.2.2.2.2+1)))) none) (some (.inl (x.2.1,x.2.2.2.1)))
def t0t:=lpW _ _ t6e
theorem r4e x:t0t x=t6e t0t x:=zW r3h 176 f176 6 44 x
def q0s (x:d3t):Ht r25:=(s7m x.1).bind fun y1=>cond (!y1) ((u06 x.1).bind fun y2=>some (y2,false)) ((t2m x.1).bind fun y3=>(t79 (x.1,i64.wrap ((1:Int) - y3),0)).bind fun y4=>(u8k y4).bind fun y5=>(t0t (x.1,(([]:Lg),([]:Ll)),i64.wrap ((1:Int) - y3),y5,x.2,(x.2.length:Int),0)).bind fun|.inl o9=>some (o9.2,true)|.inr z10=>some z10)
theorem p9a:s8f=q0s:=zC 176 func176
def s8g(x:u71):Ht u71:=zK 177 x
def q0x (x:u71):Ht u71:=(t5m (x,0)).bind fun y1=>(t2q (x,0,0,y7s ([(u8.wrap (i64.wrap (y1+1)))]:Ld))).bind fun y2=>some y2.1
theorem p9f:s8g=q0x:=zC 177 func177
def s8b(x:d3t):Ht r25:=zK 104 x
def q0n (x:d3t):Ht r25:=(s8f x).bind fun y1=>cond (!y1.2) (some (y1.1,false)) ((s8g y1.1).bind fun y2=>(u8k y2).bind fun y3=>some (y3,true))
theorem p84:s8b=q0n:=zC 104 func104
def r9o(x:u71):Ht r25:=zK 59 x
def o04 (x:u71):Ht r25:=(s0w x).bind fun y1=>(u4y (4,(0,0,0,0,([]:Lj),([]:Lh),false,(⟨#[]⟩:Hs)),(⟨#[]⟩:Hs),false,y1.1)).bind fun y2=>((cond (!y1.2) (some true) (some (!y2.2))):La).bind fun j3=>cond j3 ((u06 x).bind fun y4=>some (y4,false)) ((s8b (x,([y2.1]:Lg))).bind fun y5=>some y5)
theorem j5r:r9o=o04:=zC 59 func59
def s4n(x:Z76):Ht Z69:=zK 31 x
def q4l (x:Z76):Ht Z69:=(u4e x).bind fun y1=>(r9o x.2).bind fun y2=>cond y2.2 (some ((y1.1,y2.1),y2.2)) (some (y1,y2.2))
theorem o1q:s4n=q4l:=zC 31 func31
def t5j(x:d9j):Ht r25:=zK 105 x
def r97 (x:d9j):Ht r25:=(t2m x.1).bind fun y1=>(s2q (x.1,y1,x.2)).bind fun y2=>some y2
theorem p8n:t5j=r97:=zC 105 func105
def s2p(x:d7o):Ht u71:=zK 108 x
def t6a(g:Z96->Ht (d8v⊕Unit))(x:Z96):Ht (d8v⊕Unit):=cond (decide (x.2.2.2.2.2.2.2<x.2.2.2.2.2.2.1)) (((cond (decide (x.2.2.2.2.2.2.2<(x.1.length:Int))) (cond (y4v x.2.2.2.2.2.2.2 x.1.length) (some (!decide ((Int.tmod (rdL (Ty.int .i64) x.1 x.2.2.2.2.2.2.2.toNat) (2:Int))=0))) none) (some false)):La).bind fun j3=>cond j3 (g (x.1,x.2.1,x.2.2.1,x.2.2.2.1,x.2.2.2.2.1,x.2.2.2.2.2.2.2,x.2.2.2.2.2.2.1,i64.wrap (x.2.2.2.2.2.2.2+1))) (g (x.1,x.2.1,x.2.2.1,x.2.2.2.1,x.2.2.2.2.1,x.2.2.2.2.2.1,x.2.2.2.2.2.2.1,i64.wrap (x.2.2.2.2.2.2.2+1)))) (some (.inl (x.1,x.2.1,x.2.2.1,x.2.2.2.1,x.2.2.2.2.1,x.2.2.2.2.2.1)))
def u73:=lpW _ _ t6a
theorem r4a x:u73 x=t6a u73 x:=zW r3d 108 f108 7 98 x
def t3j(g:c2t->Ht j84)(x:c2t):Ht j84:=cond (decide (x.2.2.2.2.2.2.2<x.2.2.2.2.2.2.1)) (cond (y4v x.2.2.2.2.2.2.2 x.2.2.2.2.2.1.length) (cond (decide (x.2.2.2.2.2.2.2=x.2.2.2.1)) (cond (decide (0<=(0:Int))&&decide ((0:Int)<=x.2.2.2.2.1)&&decide (x.2.2.2.2.1<=((rdL s5e x.2.2.2.2.2.1 x.2.2.2.2.2.2.2.toNat).2.size:Int))) (cond (y4v (rdL s5e x.2.2.2.2.2.1 x.2.2.2.2.2.2.2.toNat).1 x.2.2.1.1.length) (cond (decide (0<=x.2.2.2.2.1)&&decide (x.2.2.2.2.1<=((rdL Ty.str x.2.2.1.1 ((rdL s5e x.2.2.2.2.2.1 x.2.2.2.2.2.2.2.toNat).1).toNat).size:Int))&&decide (((rdL Ty.str x.2.2.1.1 ((rdL s5e x.2.2.2.2.2.1 x.2.2.2.2.2.2.2.toNat).1).toNat).size:Int)<=((rdL Ty.str x.2.2.1.1 ((rdL s5e x.2.2.2.2.2.1 x.2.2.2.2.2.2.2.toNat).1).toNat).size:Int))) (cond (decide (((rdL s5e x.2.2.2.2.2.1 x.2.2.2.2.2.2.2.toNat).2.extract (0:Int).toNat x.2.2.2.2.1.toNat).size+((rdL Ty.str x.2.2.1.1 ((rdL s5e x.2.2.2.2.2.1 x.2.2.2.2.2.2.2.toNat).1).toNat).extract x.2.2.2.2.1.toNat ((rdL Ty.str x.2.2.1.1 ((rdL s5e x.2.2.2.2.2.1 x.2.2.2.2.2.2.2.toNat).1).toNat).size:Int).toNat).size<=140737488355328)) (cond (y4v (rdL s5e x.2.2.2.2.2.1 x.2.2.2.2.2.2.2.toNat).1 x.2.2.1.1.length) (g (x.1,x.2.1,(x.2.2.1.1.set ((rdL s5e x.2.2.2.2.2.1 x.2.2.2.2.2.2.2.toNat).1).toNat (((rdL s5e x.2.2.2.2.2.1 x.2.2.2.2.2.2.2.toNat).2.extract (0:Int).toNat x.2.2.2.2.1.toNat)++((rdL Ty.str x.2.2.1.1 ((rdL s5e x.2.2.2.2.2.1 x.2.2.2.2.2.2.2.toNat).1).toNat).extract x.2.2.2.2.1.toNat ((rdL Ty.str x.2.2.1.1 ((rdL s5e x.2.2.2.2.2.1 x.2.2.2.2.2.2.2.toNat).1).toNat).size:Int).toNat)),x.2.2.1.2),x.2.2.2.1,x.2.2.2.2.1,x.2.2.2.2.2.1,x.2.2.2.2.2.2.1,i64.wrap (x.2.2.2.2.2.2.2+1))) none) none) none) none) none) (((cond (decide (x.2.2.2.2.2.2.2<(x.1.length:Int))) (cond (y4v x.2.2.2.2.2.2.2 x.1.length) (some (!decide ((Int.tmod (rdL (Ty.int .i64) x.1 x.2.2.2.2.2.2.2.toNat) (2:Int))=0))) none) (some false)):La).bind fun j6=>cond j6 (cond (y4v (rdL s5e x.2.2.2.2.2.1 x.2.2.2.2.2.2.2.toNat).1 x.2.2.1.1.length) (g (x.1,x.2.1,(x.2.2.1.1.set ((rdL s5e x.2.2.2.2.2.1 x.2.2.2.2.2.2.2.toNat).1).toNat (rdL s5e x.2.2.2.2.2.1 x.2.2.2.2.2.2.2.toNat).2,x.2.2.1.2),x.2.2.2.1,x.2.2.2.2.1,x.2.2.2.2.2.1,x.2.2.2.2.2.2.1,i64.wrap (x.2.2.2.2.2.2.2+1))) none) (g (x.1,x.2.1,x.2.2.1,x.2.2.2.1,x.2.2.2.2.1,x.2.2.2.2.2.1,x.2.2.2.2.2.2.1,i64.wrap (x.2.2.2.2.2.2.2+1))))) none) (some (.inl (x.2.1,x.2.2.1)))
def u7b:=lpW _ _ t3j
theorem r1v x:u7b x=t3j u7b x:=zW r0p 108 f108 16 98 x
def q0a (x:d7o):Ht u71:=(u06 x.1).bind fun y1=>(t9w x.1).bind fun y2=>cond (!y2) (some y1) ((u73 (x.2.1,x.2.2,x.1,(([]:Lg),([]:Ll)),(y1.1,([]:Ll)),(- 1:Int),(x.1.2.length:Int),0)).bind fun|.inl o5=>cond (decide ((Int.tmod o5.2.1 (65:Int))<0)) ((u7b (o5.1,o5.2.2.2.1,o5.2.2.2.2.1,o5.2.2.2.2.2,i64.wrap ((Int.tmod o5.2.1 (65:Int))+65),o5.2.2.1.2,(o5.2.2.1.2.length:Int),0)).bind fun|.inl o8=>some o8.2|.inr z9=>none) ((u7b (o5.1,o5.2.2.2.1,o5.2.2.2.2.1,o5.2.2.2.2.2,Int.tmod o5.2.1 (65:Int),o5.2.2.1.2,(o5.2.2.1.2.length:Int),0)).bind fun|.inl o12=>some o12.2|.inr z13=>none)|.inr z14=>none)
theorem p8q:s2p=q0a:=zC 108 func108
def s78(x:d9c):Ht u71:=zK 60 x
def q0b (x:d9c):Ht u71:=(t5j (x.1,x.2.1)).bind fun y1=>cond (!y1.2) ((u06 x.1).bind fun y2=>some y2) ((t2m x.1).bind fun y3=>(s6x (x.1,y3,x.2.1)).bind fun y4=>cond (decide (x.2.2.1=0)) ((s2p (y4.1,x.2.2.2)).bind fun y5=>some y5) (cond (decide (x.2.2.1=1)) ((u8k y4.1).bind fun y6=>(t5s (x.1,y3)).bind fun y7=>(t79 (y6,y3,i64.wrap (y7+1))).bind fun y8=>(s2p (y8,x.2.2.2)).bind fun y9=>some y9) (some y1.1)))
theorem p8r:s78=q0b:=zC 60 func60
def u85(x:d9r):La:=zK 112 x
def u3q(g:c32->Ht r2h)(x:c32):Ht r2h:=cond (decide (x.2.2.2<x.2.2.1)) (cond (y4v x.2.2.2 x.1.length) (cond (y4v x.2.2.2 x.2.1.length) (cond (!z7q (rdL Ty.str x.1 x.2.2.2.toNat) (rdL Ty.str x.2.1 x.2.2.2.toNat)) (some (.inr false)) (g (x.1,x.2.1,x.2.2.1,i64.wrap (x.2.2.2+1)))) none) none) (some (.inl ()))
def u3t:=lpW _ _ u3q
theorem t3h x:u3t x=u3q u3t x:=zW t3g 112 f112 4 26 x
def t60 (x:d9r):La:=cond (!decide ((x.1.length:Int)=(x.2.length:Int))) (some false) ((u3t (x.1,x.2,(x.1.length:Int),0)).bind fun|.inl o2=>some true|.inr z3=>some z3)
theorem s9k:u85=t60:=zC 112 func112
def s8a(x:d1y):La:=zK 61 x
def q0k (x:d1y):La:=(t77 x.1).bind fun y1=>(t77 x.2).bind fun y2=>(u85 (y1,y2)).bind fun y3=>some y3
theorem p81:s8a=q0k:=zC 61 func61
def s2t(x:u71):Ht Z69:=zK 62 x
def q0j (x:u71):Ht Z69:=(s0w x).bind fun y1=>((cond (!y1.2) (some true) ((s7m x).bind fun y2=>some (!y2))):La).bind fun j3=>cond j3 (some ((((([]:Lf),([]:Lc),([]:Lc),0,0),([]:Lc)),([]:Lg),([]:Ll)),false)) ((u06 x).bind fun y4=>some (((y1.1,([]:Lc)),y4),true))
theorem p80:s2t=q0j:=zC 62 func62
def t64(x:Z25):Ht Z45:=zK 32 x
def r2s (x:Z25):Ht Z45:=(s78 (x.1.1.2,(⟨#[120]⟩:Hs),0,x.2.2.2.2.2,x.2.2.1)).bind fun y1=>(s8a (y1,x.1.1.2)).bind fun y2=>cond (!y2) ((s2t x.1.1.2).bind fun y3=>cond (!y3.2) (some (1,x.1)) (some (0,y3.1,x.1.2))) ((s2t y1).bind fun y4=>cond (!y4.2) (some (1,x.1)) (some (0,y4.1,x.1.2)))
theorem p3u:t64=r2s:=zC 32 func32
def t0j(x:j5j):La:=zK 189 x
def p8l (x:j5j):La:=some (decide (x.1.1=x.2))
theorem p9g:t0j=p8l:=zC 189 func189
def u6t(x:j5k):Li:=zK 10022 x
def u49(g:d1l->Ht r51)(x:d1l):Ht r51:=cond (decide (x.2.2.2<x.2.2.1)) (cond (y4v x.2.2.2 x.1.length) ((t0j (rdL u0a x.1 x.2.2.2.toNat,x.2.1)).bind fun y1=>cond y1 (some (.inr x.2.2.2)) (g (x.1,x.2.1,x.2.2.1,i64.wrap (x.2.2.2+1)))) none) (some (.inl ()))
def u1s:=lpW _ _ u49
theorem t3a x:u1s x=u49 u1s x:=zW u5j 10022 f99 2 19 x
def u6j (x:j5k):Li:=(u1s (x.1,x.2,(x.1.length:Int),0)).bind fun|.inl o3=>some (- 1:Int)|.inr z4=>some z4
theorem t5f:u6t=u6j:=zC 10022 func99
def u2u(x:j5k):Ht p1a:=zK 10021 x
def u4q(g:d1l->Ht d4e)(x:d1l):Ht d4e:=cond (decide (x.2.2.2<(x.1.length:Int))) (cond (y4v x.2.2.2 x.1.length) ((t0j (rdL u0a x.1 x.2.2.2.toNat,x.2.1)).bind fun y2=>cond (!y2) (cond (y4v x.2.2.1 x.1.length) (g (x.1.set x.2.2.1.toNat (rdL u0a x.1 x.2.2.2.toNat),x.2.1,i64.wrap (x.2.2.1+1),i64.wrap (x.2.2.2+1))) none) (g (x.1,x.2.1,x.2.2.1,i64.wrap (x.2.2.2+1)))) none) (some (.inl (x.1,x.2.2.1)))
def u1j:=lpW _ _ u4q
theorem t2z x:u1j x=u4q u1j x:=zW u4v 10021 f188 5 42 x
def u5w (x:j5k):Ht p1a:=(u6t x).bind fun y1=>cond (decide (y1=(- 1:Int))) (some x.1) ((u1j (x.1,x.2,y1,i64.wrap (y1+1))).bind fun|.inl o4=>cond (decide (0<=o4.2)&&decide (o4.2<=(o4.1.length:Int))&&decide ((o4.1.length:Int)<=(o4.1.length:Int))) (cond (decide (0<=(0:Int))&&decide ((0:Int)<=o4.2)&&decide (o4.2<=((o4.1.take o4.2.toNat++List.replicate ((o4.1.length:Int).toNat - o4.2.toNat) u0a.zero++o4.1.drop (o4.2.toNat+((o4.1.length:Int).toNat - o4.2.toNat))).length:Int))) (some ((o4.1.take o4.2.toNat++List.replicate ((o4.1.length:Int).toNat - o4.2.toNat) u0a.zero++o4.1.drop (o4.2.toNat+((o4.1.length:Int).toNat - o4.2.toNat))).take (o4.2.toNat - (0:Int).toNat))) none) none|.inr z5=>none)
theorem t36:u2u=u5w:=zC 10021 func188
def u9f(x:Z97):Ht s70:=zK 117 x
def q82 (x:Z97):Ht s70:=(u10 x.1).bind fun y1=>(u2u (y1.2,x.2)).bind fun y2=>some (y1.1,y2)
theorem o5w:u9f=q82:=zC 117 func117
def t03(x:Z97):Ht Z97:=zK 65 x
def p65 (x:Z97):Ht Z97:=(u9f x).bind fun y1=>(u82 x).bind fun y2=>cond (decide (y2<0)) (some (y1,1)) ((u2j y1).bind fun y3=>some ((y3,y1.2),0))
theorem j2s:t03=p65:=zC 65 func65
def s7o(x:s70):Ht p1a:=zK 194 x
def p7c (x:s70):Ht p1a:=(u22 ([x.1.2.1,x.1.2.2.1]:Hu p1a)).bind fun y1=>some y1
theorem j2z:s7o=p7c:=zC 194 func194
def r9p(x:u9r):La:=zK 196 x
def o05 (x:u9r):La:=((cond (decide ((x.2.1.length:Int)>=(12:Int))) (some true) (cond (decide ((x.1.length:Int)>(100:Int))) (some true) (some (decide (x.2.2.2.1>=9999))))):La).bind fun j1=>some j1
theorem j5s:r9p=o05:=zC 196 func196
def r3y(x:d6p):La:=zK 341 x
def s58(g:c2z->Ht (d3u⊕Bool))(x:c2z):Ht (d3u⊕Bool):=cond (decide (x.2.2.2.2.2.2.2<x.2.2.2.2.2.2.1)) (cond (y4v x.2.2.2.2.2.2.2 x.2.2.2.2.2.1.length) (cond (z7q x.2.1.1 (rdL u11 x.2.2.2.2.2.1 x.2.2.2.2.2.2.2.toNat).1) (some (.inr true)) (g (x.1,x.2.1,x.2.2.1,x.2.2.2.1,x.2.2.2.2.1,x.2.2.2.2.2.1,x.2.2.2.2.2.2.1,i64.wrap (x.2.2.2.2.2.2.2+1)))) none) (some (.inl (x.1,x.2.2.1,x.2.2.2.1,x.2.2.2.2.1)))
def s0m:=lpW _ _ s58
theorem p01 x:s0m x=s58 s0m x:=zW p0i 341 f341 5 28 x
def s57(g:d3u->Ht r2h)(x:d3u):Ht r2h:=cond (decide (x.2.2.2<x.2.2.1)) (cond (y4v x.2.2.2 x.2.1.length) ((s0m (x.1,rdL u11 x.2.1 x.2.2.2.toNat,x.2.1,x.2.2.1,x.2.2.2,x.1,(x.1.length:Int),0)).bind fun|.inl o2=>g (o2.1,o2.2.1,o2.2.2.1,i64.wrap (o2.2.2.2+1))|.inr z3=>some (.inr z3)) none) (some (.inl ()))
def s6h:=lpW _ _ s57
theorem p00 x:s6h x=s57 s6h x:=zW p0h 341 f341 2 28 x
def p67 (x:d6p):La:=(s6h (x.2,x.1,(x.1.length:Int),0)).bind fun|.inl o5=>some false|.inr z6=>some z6
theorem j2u:r3y=p67:=zC 341 func341
def s2o(x:Z79):La:=zK 340 x
def r99 (x:Z79):La:=((cond (!decide (x.1.1=x.2.1)) ((u36 x.1).bind fun y1=>cond y1 ((r3y (x.1.2.2.2.2.2.1,x.2.2.2.2.2.2.1)).bind fun y2=>some y2) ((t04 x.1).bind fun y3=>cond y3 (cond (decide (x.1.2.2.2.1>x.2.2.2.1)) ((r3y (x.1.2.2.2.2.2.1,x.2.2.2.2.2.2.1)).bind fun y4=>some y4) (some false)) (some false))) (some false)):La).bind fun j5=>some j5
theorem p8p:s2o=r99:=zC 340 func340
def u6p(x:s9h):Li:=zK 10037 x
def u45(g:j1f->Ht r51)(x:j1f):Ht r51:=cond (decide (x.2.2.2<x.2.2.1)) (cond (y4v x.2.2.2 x.1.length) ((s2o (rdL u0a x.1 x.2.2.2.toNat,x.2.1)).bind fun y1=>cond y1 (some (.inr x.2.2.2)) (g (x.1,x.2.1,x.2.2.1,i64.wrap (x.2.2.2+1)))) none) (some (.inl ()))
def u1o:=lpW _ _ u45
theorem t26 x:u1o x=u45 u1o x:=zW u5f 10037 f99 2 19 x
def u6f (x:s9h):Li:=(u1o (x.1,x.2,(x.1.length:Int),0)).bind fun|.inl o3=>some (- 1:Int)|.inr z4=>some z4
theorem t5b:u6p=u6f:=zC 10037 func99
def u4z(x:s9h):La:=zK 10036 x
def u4s (x:s9h):La:=(u6p x).bind fun y1=>some (decide (y1>=0))
theorem t2k:u4z=u4s:=zC 10036 func233
def s0a(x:s9h):La:=zK 10035 x
def t96 (x:s9h):La:=(u4z x).bind fun y1=>some y1
theorem r2i:s0a=t96:=zC 10035 func153
def r5e(x:o07):La:=zK 262 x
def q8g (x:o07):La:=(s0a (x.2,x.1)).bind fun y1=>some y1
theorem o48:r5e=q8g:=zC 262 func262
def s9o(x:Z79):La:=zK 351 x
def p2m (x:Z79):La:=(((u36 x.1).bind fun y1=>cond y1 ((u4x x).bind fun y2=>some y2) ((t04 x.1).bind fun y3=>cond y3 ((u4x x).bind fun y4=>some y4) (some false))):La).bind fun j5=>some j5
theorem o9o:s9o=p2m:=zC 351 func351
def u7w(x:s9h):Li:=zK 10025 x
def u6z(g:j1f->Ht r51)(x:j1f):Ht r51:=cond (decide (x.2.2.2<x.2.2.1)) (cond (y4v x.2.2.2 x.1.length) ((s9o (rdL u0a x.1 x.2.2.2.toNat,x.2.1)).bind fun y1=>cond y1 (some (.inr x.2.2.2)) (g (x.1,x.2.1,x.2.2.1,i64.wrap (x.2.2.2+1)))) none) (some (.inl ()))
def u14:=lpW _ _ u6z
theorem t58 x:u14 x=u6z u14 x:=zW u66 10025 f99 2 19 x
def u7o (x:s9h):Li:=(u14 (x.1,x.2,(x.1.length:Int),0)).bind fun|.inl o3=>some (- 1:Int)|.inr z4=>some z4
theorem t7x:u7w=u7o:=zC 10025 func99
def u6o(x:s9h):La:=zK 10024 x
def u6d (x:s9h):La:=(u7w x).bind fun y1=>some (decide (y1>=0))
theorem t49:u6o=u6d:=zC 10024 func233
def s4w(x:s9h):La:=zK 10023 x
def s4b (x:s9h):La:=(u6o x).bind fun y1=>some y1
theorem r9c:s4w=s4b:=zC 10023 func153
def r9k(x:o07):La:=zK 270 x
def o02 (x:o07):La:=(s4w (x.2,x.1)).bind fun y1=>some y1
theorem j5q:r9k=o02:=zC 270 func270
def s4l(x:Z79):La:=zK 342 x
def q4i (x:Z79):La:=(((u36 x.1).bind fun y1=>cond y1 (cond x.1.2.2.2.2.2.2.1 ((u4x (x.2,x.1)).bind fun y2=>some y2) (some false)) ((t04 x.1).bind fun y3=>cond y3 (cond x.1.2.2.2.2.2.2.1 ((u4x (x.2,x.1)).bind fun y4=>some y4) (some false)) (some false))):La).bind fun j5=>some j5
theorem o1n:s4l=q4i:=zC 342 func342
def u67(x:s9h):Li:=zK 10028 x
def u5p(g:j1f->Ht r51)(x:j1f):Ht r51:=cond (decide (x.2.2.2<x.2.2.1)) (cond (y4v x.2.2.2 x.1.length) ((s4l (rdL u0a x.1 x.2.2.2.toNat,x.2.1)).bind fun y1=>cond y1 (some (.inr x.2.2.2)) (g (x.1,x.2.1,x.2.2.1,i64.wrap (x.2.2.2+1)))) none) (some (.inl ()))
def u1v:=lpW _ _ u5p
theorem t4e x:u1v x=u5p u1v x:=zW u5y 10028 f99 2 19 x
def u60 (x:s9h):Li:=(u1v (x.1,x.2,(x.1.length:Int),0)).bind fun|.inl o3=>some (- 1:Int)|.inr z4=>some z4
theorem t5z:u67=u60:=zC 10028 func99
def u5l(x:s9h):La:=zK 10027 x
def u5b (x:s9h):La:=(u67 x).bind fun y1=>some (decide (y1>=0))
theorem t22:u5l=u5b:=zC 10027 func233
def t1c(x:s9h):La:=zK 10026 x
def s0p (x:s9h):La:=(u5l x).bind fun y1=>some y1
theorem r44:t1c=s0p:=zC 10026 func153
def t9v(x:Z79):La:=zK 344 x
def r54 (x:Z79):La:=(((u36 x.1).bind fun y1=>cond y1 ((u4x x).bind fun y2=>some y2) (some false)):La).bind fun j3=>some j3
theorem p5r:t9v=r54:=zC 344 func344
def u57(x:s9h):Li:=zK 10034 x
def u4r(g:j1f->Ht r51)(x:j1f):Ht r51:=cond (decide (x.2.2.2<x.2.2.1)) (cond (y4v x.2.2.2 x.1.length) ((t9v (rdL u0a x.1 x.2.2.2.toNat,x.2.1)).bind fun y1=>cond y1 (some (.inr x.2.2.2)) (g (x.1,x.2.1,x.2.2.1,i64.wrap (x.2.2.2+1)))) none) (some (.inl ()))
def u1k:=lpW _ _ u4r
theorem t21 x:u1k x=u4r u1k x:=zW u4w 10034 f99 2 19 x
def u5x (x:s9h):Li:=(u1k (x.1,x.2,(x.1.length:Int),0)).bind fun|.inl o3=>some (- 1:Int)|.inr z4=>some z4
theorem t38:u57=u5x:=zC 10034 func99
def u4k(x:s9h):La:=zK 10033 x
def u4g (x:s9h):La:=(u57 x).bind fun y1=>some (decide (y1>=0))
theorem t1m:u4k=u4g:=zC 10033 func233
def u9w(x:s9h):La:=zK 10032 x
def t7t (x:s9h):La:=(u4k x).bind fun y1=>some y1
theorem r0m:u9w=t7t:=zC 10032 func153
def s4m(x:Z61):La:=zK 343 x
def q4j (x:Z61):La:=(((u36 x.1).bind fun y1=>cond (!y1) (some true) ((u4x (x.1,x.2.1)).bind fun y2=>some (!y2))):La).bind fun j3=>cond j3 (some false) ((u4x (x.2.1,x.1)).bind fun y4=>cond y4 (some true) ((u9w (x.2.2,x.1)).bind fun y5=>some y5))
theorem o1o:s4m=q4j:=zC 343 func343
def u68(x:Z86):Li:=zK 10031 x
def u5q(g:Z80->Ht r51)(x:Z80):Ht r51:=cond (decide (x.2.2.2<x.2.2.1)) (cond (y4v x.2.2.2 x.1.length) ((s4m (rdL u0a x.1 x.2.2.2.toNat,x.2.1)).bind fun y1=>cond y1 (some (.inr x.2.2.2)) (g (x.1,x.2.1,x.2.2.1,i64.wrap (x.2.2.2+1)))) none) (some (.inl ()))
def u1w:=lpW _ _ u5q
theorem t4f x:u1w x=u5q u1w x:=zW u5z 10031 f99 2 19 x
def u61 (x:Z86):Li:=(u1w (x.1,x.2,(x.1.length:Int),0)).bind fun|.inl o3=>some (- 1:Int)|.inr z4=>some z4
theorem t52:u68=u61:=zC 10031 func99
def u5m(x:Z86):La:=zK 10030 x
def u5c (x:Z86):La:=(u68 x).bind fun y1=>some (decide (y1>=0))
theorem t23:u5m=u5c:=zC 10030 func233
def t1d(x:Z86):La:=zK 10029 x
def s0q (x:Z86):La:=(u5m x).bind fun y1=>some y1
theorem r45:t1d=s0q:=zC 10029 func153
def s9n(x:o07):La:=zK 263 x
def p2i (x:o07):La:=(((r9k x).bind fun y1=>cond y1 ((s7n x).bind fun y2=>some y2) (some false)):La).bind fun j3=>cond j3 (some true) ((t1c (x.2,x.1)).bind fun y4=>cond y4 (some true) ((t1d (x.2,x)).bind fun y5=>some y5))
theorem o9k:s9n=p2i:=zC 263 func263
def r3x(x:Z97):Li:=zK 186 x
def p63 (x:Z97):Li:=(u82 x).bind fun y1=>cond (decide (y1<0)) (some (1:Int)) (cond (y4v y1 x.1.2.length) ((s7o x.1).bind fun y2=>(r5e (rdL u0a x.1.2 y1.toNat,y2)).bind fun y3=>cond y3 (some (4:Int)) (cond (y4v y1 x.1.2.length) ((s7o x.1).bind fun y4=>(s9n (rdL u0a x.1.2 y1.toNat,y4)).bind fun y5=>cond y5 (some (5:Int)) ((r9p x.1.1).bind fun y6=>cond y6 (some (3:Int)) (some (0:Int)))) none)) none)
theorem j2q:r3x=p63:=zC 186 func186
def r9h(x:Z97):Ht Z15:=zK 115 x
def p2h (x:Z97):Ht Z15:=(r3x x).bind fun y1=>cond (!decide (y1=0)) ((t03 x).bind fun y2=>some (y2.1,(0,(0,0,0,0,([]:Lj),([]:Lh),false,(⟨#[]⟩:Hs)),(⟨#[]⟩:Hs),false,([]:Lf),([]:Lc),([]:Lc),0,0),y1)) ((u82 x).bind fun y3=>cond (y4v y3 x.1.2.length) ((u9f x).bind fun y4=>(u9e (y4.1,rdL u0a x.1.2 y3.toNat)).bind fun y5=>cond (y4v (i64.wrap ((y5.2.1.length:Int) - (1:Int))) y5.2.1.length) ((u2n (rdL u0a y5.2.1 (i64.wrap ((y5.2.1.length:Int) - (1:Int))).toNat)).bind fun y6=>(u2j (y5,y4.2)).bind fun y7=>some ((y7,y4.2),(1,y6,(⟨#[]⟩:Hs),false,([]:Lf),([]:Lc),([]:Lc),0,0),0)) none) none)
theorem o9j:r9h=p2h:=zC 115 func115
def t9x(x:Z13):Ht Z69:=zK 122 x
def r55 (x:Z13):Ht Z69:=(u4e x.1).bind fun y1=>(u4y x.2).bind fun y2=>cond (!y2.2) (some (y1,false)) ((t5j (x.1.2,y2.1)).bind fun y3=>cond y3.2 (some ((y1.1,y3.1),true)) ((r9o x.1.2).bind fun y4=>cond y4.2 ((t5j (y4.1,y2.1)).bind fun y5=>cond y5.2 (some ((y1.1,y5.1),true)) (some (y1,false))) (some (y1,false))))
theorem p5s:t9x=r55:=zC 122 func122
def p1y(x:Z1):Ht Z70:=zK 116 x
def p1c (x:Z1):Ht Z70:=(u4e x.1).bind fun y1=>cond (!decide (x.2.2.2.2=0)) (some ((x.2.2.1,y1.2),x.2.2.2.2)) ((t9x ((x.2.2.1,y1.2),x.2.2.2.1)).bind fun y2=>cond y2.2 (some (y2.1,0)) ((t03 (x.1.1,x.2.1)).bind fun y3=>some ((y3.1,y1.2),3)))
theorem o2i:p1y=p1c:=zC 116 func116
def s4r(x:Z70):Ht Z70:=zK 63 x
def r2q (x:Z70):Ht Z70:=(r9h (x.1.1,x.2)).bind fun y1=>(p1y (x.1,x.2,y1)).bind fun y2=>some y2
theorem p3s:s4r=r2q:=zC 63 func63
def u9v(x:Z20):Ht Z46:=zK 64 x
def r0d (x:Z20):Ht Z46:=(u2n x.2).bind fun y1=>cond (Nat.ble (x.1.2.1.length+([(y1.1,3,y1.2.2.1,x.1.1.1.1.2.2.2.1,y1.2.2.2.2.1,y1.2.2.2.2.2.1,y1.2.2.2.2.2.2.1,(⟨#[]⟩:Hs))]:Lc).length) z7z) (some (x.1.1,x.1.2.1++([(y1.1,3,y1.2.2.1,x.1.1.1.1.2.2.2.1,y1.2.2.2.2.1,y1.2.2.2.2.2.1,y1.2.2.2.2.2.2.1,(⟨#[]⟩:Hs))]:Lc),x.1.2.2)) none
theorem p1h:u9v=r0d:=zC 64 func64
def u8z(x:Z79):La:=zK 269 x
def s0c (x:Z79):La:=(((u36 x.1).bind fun y1=>cond y1 ((u4x (x.2,x.1)).bind fun y2=>some y2) (some false)):La).bind fun j3=>some j3
theorem s8w:u8z=s0c:=zC 269 func269
def u4l(x:s9h):Li:=zK 10040 x
def u3r(g:j1f->Ht r51)(x:j1f):Ht r51:=cond (decide (x.2.2.2<x.2.2.1)) (cond (y4v x.2.2.2 x.1.length) ((u8z (rdL u0a x.1 x.2.2.2.toNat,x.2.1)).bind fun y1=>cond y1 (some (.inr x.2.2.2)) (g (x.1,x.2.1,x.2.2.1,i64.wrap (x.2.2.2+1)))) none) (some (.inl ()))
def u07:=lpW _ _ u3r
theorem t07 x:u07 x=u3r u07 x:=zW u3x 10040 f99 2 19 x
def u4h (x:s9h):Li:=(u07 (x.1,x.2,(x.1.length:Int),0)).bind fun|.inl o3=>some (- 1:Int)|.inr z4=>some z4
theorem t1n:u4l=u4h:=zC 10040 func99
def u3k(x:s9h):La:=zK 10039 x
def u3i (x:s9h):La:=(u4l x).bind fun y1=>some (decide (y1>=0))
theorem u95:u3k=u3i:=zC 10039 func233
def u7u(x:s9h):La:=zK 10038 x
def t3c (x:s9h):La:=(u3k x).bind fun y1=>some y1
theorem s7e:u7u=t3c:=zC 10038 func153
def u90(x:Z39):La:=zK 272 x
def s5f (x:Z39):La:=(((u36 x.1).bind fun y1=>cond y1 (cond (!decide (x.1.1=x.2.1.1)) ((u4x (x.2.2,x.1)).bind fun y2=>some y2) (some false)) (some false)):La).bind fun j3=>some j3
theorem q3w:u90=s5f:=zC 272 func272
def u30(x:Z60):Li:=zK 10046 x
def u3c(g:Z56->Ht r51)(x:Z56):Ht r51:=cond (decide (x.2.2.2<x.2.2.1)) (cond (y4v x.2.2.2 x.1.length) ((u90 (rdL u0a x.1 x.2.2.2.toNat,x.2.1)).bind fun y1=>cond y1 (some (.inr x.2.2.2)) (g (x.1,x.2.1,x.2.2.1,i64.wrap (x.2.2.2+1)))) none) (some (.inl ()))
def u04:=lpW _ _ u3c
theorem u93 x:u04 x=u3c u04 x:=zW u3e 10046 f99 2 19 x
def u3v (x:Z60):Li:=(u04 (x.1,x.2,(x.1.length:Int),0)).bind fun|.inl o3=>some (- 1:Int)|.inr z4=>some z4
theorem t00:u30=u3v:=zC 10046 func99
def u28(x:Z60):La:=zK 10045 x
def u27 (x:Z60):La:=(u30 x).bind fun y1=>some (decide (y1>=0))
theorem u9s:u28=u27:=zC 10045 func233
def u6v(x:Z60):La:=zK 10044 x
def t1j (x:Z60):La:=(u28 x).bind fun y1=>some y1
theorem s5d:u6v=t1j:=zC 10044 func153
def t1y(x:Z27):La:=zK 271 x
def s8s (x:Z27):La:=(u8z (x.1,x.2.1)).bind fun y1=>cond y1 ((u6v (x.2.2.1,x.2.2.2,x.1)).bind fun y2=>some y2) (some false)
theorem q71:t1y=s8s:=zC 271 func271
def u4m(x:Z48):Li:=zK 10043 x
def u3s(g:Z40->Ht r51)(x:Z40):Ht r51:=cond (decide (x.2.2.2<x.2.2.1)) (cond (y4v x.2.2.2 x.1.length) ((t1y (rdL u0a x.1 x.2.2.2.toNat,x.2.1)).bind fun y1=>cond y1 (some (.inr x.2.2.2)) (g (x.1,x.2.1,x.2.2.1,i64.wrap (x.2.2.2+1)))) none) (some (.inl ()))
def u08:=lpW _ _ u3s
theorem t08 x:u08 x=u3s u08 x:=zW u3y 10043 f99 2 19 x
def u4i (x:Z48):Li:=(u08 (x.1,x.2,(x.1.length:Int),0)).bind fun|.inl o3=>some (- 1:Int)|.inr z4=>some z4
theorem t1o:u4m=u4i:=zC 10043 func99
def u3l(x:Z48):La:=zK 10042 x
def u3j (x:Z48):La:=(u4m x).bind fun y1=>some (decide (y1>=0))
theorem u96:u3l=u3j:=zC 10042 func233
def u3z(x:Z48):La:=zK 10041 x
def t3d (x:Z48):La:=(u3l x).bind fun y1=>some y1
theorem s7f:u3z=t3d:=zC 10041 func153
def s4p(x:o07):La:=zK 193 x
def r2p (x:o07):La:=(s9n x).bind fun y1=>cond y1 (some true) ((r9k x).bind fun y2=>cond y2 ((u7u (x.2,x.1)).bind fun y3=>cond y3 (some true) ((u3z (x.2,x.1,x.2,x.1)).bind fun y4=>some y4)) ((u3z (x.2,x.1,x.2,x.1)).bind fun y5=>some y5))
theorem p3r:s4p=r2p:=zC 193 func193
def r5h(x:Z84):Ht Z15:=zK 119 x
def q8p (x:Z84):Ht Z15:=(u82 (x.1,x.2.1)).bind fun y1=>cond (decide (y1<0)) ((u10 x.1).bind fun y2=>some (y2,(0,(0,0,0,0,([]:Lj),([]:Lh),false,(⟨#[]⟩:Hs)),(⟨#[]⟩:Hs),false,([]:Lf),([]:Lc),([]:Lc),0,0),1)) ((u9d x.2.2).bind fun y3=>cond (!y3) ((u10 x.1).bind fun y4=>some (y4,(0,(0,0,0,0,([]:Lj),([]:Lh),false,(⟨#[]⟩:Hs)),(⟨#[]⟩:Hs),false,([]:Lf),([]:Lc),([]:Lc),0,0),2)) ((u2c (x.1.1,x.2.2)).bind fun y5=>cond (decide (y5>=0)) ((u10 x.1).bind fun y6=>some (y6,(0,(0,0,0,0,([]:Lj),([]:Lh),false,(⟨#[]⟩:Hs)),(⟨#[]⟩:Hs),false,([]:Lf),([]:Lc),([]:Lc),0,0),6)) ((r3x (x.1,x.2.1)).bind fun y7=>((cond (decide (y7=0)) (cond (y4v y1 x.1.2.length) ((s7o x.1).bind fun y8=>(s4p (rdL u0a x.1.2 y1.toNat,y8)).bind fun y9=>some y9) none) (some false)):La).bind fun j10=>cond j10 (((cond (decide ((5:Int)=(0:Int))) (some (decide ((x.1.1.2.2.1.length:Int)>=(3:Int)))) (some false)):La).bind fun j11=>cond j11 (cond (!decide ((3:Int)=(0:Int))) ((t03 (x.1,x.2.1)).bind fun y12=>some (y12.1,(0,(0,0,0,0,([]:Lj),([]:Lh),false,(⟨#[]⟩:Hs)),(⟨#[]⟩:Hs),false,([]:Lf),([]:Lc),([]:Lc),0,0),3)) ((u9f (x.1,x.2.1)).bind fun y13=>cond (y4v y1 x.1.2.length) ((u8l (y13.1,rdL u0a x.1.2 y1.toNat,x.2.2)).bind fun y14=>(u2c (y14,x.2.2)).bind fun y15=>cond (y4v y15 y14.2.2.1.length) ((u2n (rdL u0a y14.2.2.1 y15.toNat)).bind fun y16=>(u2j (y14,y13.2)).bind fun y17=>some ((y17,y13.2),(2,y16,(⟨#[]⟩:Hs),false,([]:Lf),([]:Lc),([]:Lc),0,0),0)) none) none)) (cond (!decide ((5:Int)=(0:Int))) ((t03 (x.1,x.2.1)).bind fun y18=>some (y18.1,(0,(0,0,0,0,([]:Lj),([]:Lh),false,(⟨#[]⟩:Hs)),(⟨#[]⟩:Hs),false,([]:Lf),([]:Lc),([]:Lc),0,0),5)) ((u9f (x.1,x.2.1)).bind fun y19=>cond (y4v y1 x.1.2.length) ((u8l (y19.1,rdL u0a x.1.2 y1.toNat,x.2.2)).bind fun y20=>(u2c (y20,x.2.2)).bind fun y21=>cond (y4v y21 y20.2.2.1.length) ((u2n (rdL u0a y20.2.2.1 y21.toNat)).bind fun y22=>(u2j (y20,y19.2)).bind fun y23=>some ((y23,y19.2),(2,y22,(⟨#[]⟩:Hs),false,([]:Lf),([]:Lc),([]:Lc),0,0),0)) none) none))) (((cond (decide (y7=0)) (some (decide ((x.1.1.2.2.1.length:Int)>=(3:Int)))) (some false)):La).bind fun j24=>cond j24 (cond (!decide ((3:Int)=(0:Int))) ((t03 (x.1,x.2.1)).bind fun y25=>some (y25.1,(0,(0,0,0,0,([]:Lj),([]:Lh),false,(⟨#[]⟩:Hs)),(⟨#[]⟩:Hs),false,([]:Lf),([]:Lc),([]:Lc),0,0),3)) ((u9f (x.1,x.2.1)).bind fun y26=>cond (y4v y1 x.1.2.length) ((u8l (y26.1,rdL u0a x.1.2 y1.toNat,x.2.2)).bind fun y27=>(u2c (y27,x.2.2)).bind fun y28=>cond (y4v y28 y27.2.2.1.length) ((u2n (rdL u0a y27.2.2.1 y28.toNat)).bind fun y29=>(u2j (y27,y26.2)).bind fun y30=>some ((y30,y26.2),(2,y29,(⟨#[]⟩:Hs),false,([]:Lf),([]:Lc),([]:Lc),0,0),0)) none) none)) (cond (!decide (y7=0)) ((t03 (x.1,x.2.1)).bind fun y31=>some (y31.1,(0,(0,0,0,0,([]:Lj),([]:Lh),false,(⟨#[]⟩:Hs)),(⟨#[]⟩:Hs),false,([]:Lf),([]:Lc),([]:Lc),0,0),y7)) ((u9f (x.1,x.2.1)).bind fun y32=>cond (y4v y1 x.1.2.length) ((u8l (y32.1,rdL u0a x.1.2 y1.toNat,x.2.2)).bind fun y33=>(u2c (y33,x.2.2)).bind fun y34=>cond (y4v y34 y33.2.2.1.length) ((u2n (rdL u0a y33.2.2.1 y34.toNat)).bind fun y35=>(u2j (y33,y32.2)).bind fun y36=>some ((y36,y32.2),(2,y35,(⟨#[]⟩:Hs),false,([]:Lf),([]:Lc),([]:Lc),0,0),0)) none) none))))))
theorem o5h:r5h=q8p:=zC 119 func119
def s25(x:Z65):Ht Z70:=zK 66 x
def r0c (x:Z65):Ht Z70:=(r5h (x.1.1,x.2)).bind fun y1=>(p1y (x.1,x.2.1,y1)).bind fun y2=>some y2
theorem p1g:s25=r0c:=zC 66 func66
def r9i(x:Z83):Ht Z15:=zK 121 x
def p2k (x:Z83):Ht Z15:=(u10 x.1).bind fun y1=>(u2c (x.1.1,x.2.1)).bind fun y2=>cond (decide (y2<0)) (some (y1,(0,(0,0,0,0,([]:Lj),([]:Lh),false,(⟨#[]⟩:Hs)),(⟨#[]⟩:Hs),false,([]:Lf),([]:Lc),([]:Lc),0,0),1)) (((cond x.2.2 ((r9p x.1.1).bind fun y3=>some y3) (some false)):La).bind fun j4=>cond j4 (some (y1,(0,(0,0,0,0,([]:Lj),([]:Lh),false,(⟨#[]⟩:Hs)),(⟨#[]⟩:Hs),false,([]:Lf),([]:Lc),([]:Lc),0,0),3)) (cond x.2.2 (cond (y4v y2 x.1.1.2.2.1.length) ((u9e (x.1.1,rdL u0a x.1.1.2.2.1 y2.toNat)).bind fun y5=>(u2j (y5,x.1.2)).bind fun y6=>some ((y6,y1.2),(3,(0,0,0,0,([]:Lj),([]:Lh),false,(⟨#[]⟩:Hs)),x.2.1,x.2.2,([]:Lf),([]:Lc),([]:Lc),0,0),0)) none) ((s0v (x.1.1,x.2.1)).bind fun y7=>(u2j (y7,x.1.2)).bind fun y8=>some ((y8,y1.2),(3,(0,0,0,0,([]:Lj),([]:Lh),false,(⟨#[]⟩:Hs)),x.2.1,x.2.2,([]:Lf),([]:Lc),([]:Lc),0,0),0))))
theorem o9m:r9i=p2k:=zC 121 func121
def t63(x:Z64):Ht Z70:=zK 68 x
def r2r (x:Z64):Ht Z70:=(r9i (x.1.1,x.2)).bind fun y1=>cond (!decide (y1.2.2=0)) ((u4e x.1).bind fun y2=>some (y2,y1.2.2)) ((u4e x.1).bind fun y3=>(t9x ((y1.1,y3.2),y1.2.1)).bind fun y4=>cond (!y4.2) ((u4e x.1).bind fun y5=>some (y5,3)) (some (y4.1,0)))
theorem p3t:t63=r2r:=zC 68 func68
def t90(x:Z25):Ht Z45:=zK 33 x
def r6b (x:Z25):Ht Z45:=cond (decide (x.2.1=6)) ((u82 (x.1.1.1,x.2.2.1)).bind fun y1=>(s4r (x.1.1,x.2.2.1)).bind fun y2=>cond (decide (y2.2=0)) (cond (y4v y1 x.1.1.1.2.length) ((u9v ((y2.1,x.1.2),rdL u0a x.1.1.1.2 y1.toNat)).bind fun y3=>some (y2.2,y3)) none) (some (y2.2,y2.1,x.1.2))) (cond (decide (x.2.1=7)) ((t03 (x.1.1.1,x.2.2.1)).bind fun y4=>some (y4.2,(y4.1,x.1.1.2),x.1.2)) (cond (decide (x.2.1=8)) ((s25 (x.1.1,x.2.2.1,x.2.2.2.1)).bind fun y5=>some (y5.2,y5.1,x.1.2)) ((u2c (x.1.1.1.1,x.2.2.2.1)).bind fun y6=>(t63 (x.1.1,x.2.2.2.1,decide (x.2.1=9))).bind fun y7=>((cond (decide (y7.2=0)) (some (decide (x.2.1=9))) (some false)):La).bind fun j8=>cond j8 (cond (y4v y6 x.1.1.1.1.2.2.1.length) ((u9v ((y7.1,x.1.2),rdL u0a x.1.1.1.1.2.2.1 y6.toNat)).bind fun y9=>some (y7.2,y9)) none) (some (y7.2,y7.1,x.1.2)))))
theorem p5y:t90=r6b:=zC 33 func33
def t5l(x:Z25):Ht Z46:=zK 7 x
def q0m (x:Z25):Ht Z46:=(s8d x.1).bind fun y1=>(u9c x.2).bind fun y2=>cond (!y2) (some y1) (cond (decide (x.2.1=1)) ((q6n y1.1.1).bind fun y3=>cond (decide (y3.2.2=0)) ((r5f y3.2.1).bind fun y4=>cond (Nat.ble (y1.2.2.1.length+([y3.2.2]:Ld).length) z7z) (cond (Nat.ble (y1.2.2.2.length+([y4]:Lg).length) z7z) (some ((y3.1,y1.1.2),y1.2.1,y1.2.2.1++([y3.2.2]:Ld),y1.2.2.2++([y4]:Lg))) none) none) (cond (Nat.ble (y1.2.2.1.length+([y3.2.2]:Ld).length) z7z) (cond (Nat.ble (y1.2.2.2.length+([(⟨#[]⟩:Hs)]:Lg).length) z7z) (some ((y3.1,y1.1.2),y1.2.1,y1.2.2.1++([y3.2.2]:Ld),y1.2.2.2++([(⟨#[]⟩:Hs)]:Lg))) none) none)) (cond (decide (x.2.1=2)) (cond (decide (x.2.1=2)) ((t65 (y1,x.2)).bind fun y5=>cond (Nat.ble (y5.2.2.2.2.1.length+([y5.2.1]:Ld).length) z7z) (cond (Nat.ble (y5.2.2.2.2.2.length+([y5.1]:Lg).length) z7z) (some (y5.2.2.1,y5.2.2.2.1,y5.2.2.2.2.1++([y5.2.1]:Ld),y5.2.2.2.2.2++([y5.1]:Lg))) none) none) (cond (decide (x.2.1=4)) ((t9y (y1.1.1,x.2.2.1,x.2.2.2.1,x.2.2.2.2.1,false)).bind fun y6=>cond (Nat.ble (y1.2.2.1.length+([y6.2]:Ld).length) z7z) (cond (Nat.ble (y1.2.2.2.length+([(⟨#[]⟩:Hs)]:Lg).length) z7z) (some ((y6.1,y1.1.2),y1.2.1,y1.2.2.1++([y6.2]:Ld),y1.2.2.2++([(⟨#[]⟩:Hs)]:Lg))) none) none) (cond (decide (x.2.1=5)) ((t9y (y1.1.1,x.2.2.1,x.2.2.2.1,(⟨#[]⟩:Hs),true)).bind fun y7=>cond (Nat.ble (y1.2.2.1.length+([y7.2]:Ld).length) z7z) (cond (Nat.ble (y1.2.2.2.length+([(⟨#[]⟩:Hs)]:Lg).length) z7z) (some ((y7.1,y1.1.2),y1.2.1,y1.2.2.1++([y7.2]:Ld),y1.2.2.2++([(⟨#[]⟩:Hs)]:Lg))) none) none) (cond (decide (x.2.1=11)) ((s4n y1.1).bind fun y8=>cond (!y8.2) (cond (Nat.ble (y1.2.2.1.length+([(3:Int)]:Ld).length) z7z) (cond (Nat.ble (y1.2.2.2.length+([(⟨#[]⟩:Hs)]:Lg).length) z7z) (some (y8.1,y1.2.1,y1.2.2.1++([(3:Int)]:Ld),y1.2.2.2++([(⟨#[]⟩:Hs)]:Lg))) none) none) (cond (Nat.ble (y1.2.2.1.length+([(0:Int)]:Ld).length) z7z) (cond (Nat.ble (y1.2.2.2.length+([(⟨#[]⟩:Hs)]:Lg).length) z7z) (some (y8.1,y1.2.1,y1.2.2.1++([(0:Int)]:Ld),y1.2.2.2++([(⟨#[]⟩:Hs)]:Lg))) none) none)) (cond (decide (x.2.1=12)) ((t64 (y1,x.2)).bind fun y9=>cond (Nat.ble (y9.2.2.2.1.length+([y9.1]:Ld).length) z7z) (cond (Nat.ble (y9.2.2.2.2.length+([(⟨#[]⟩:Hs)]:Lg).length) z7z) (some (y9.2.1,y9.2.2.1,y9.2.2.2.1++([y9.1]:Ld),y9.2.2.2.2++([(⟨#[]⟩:Hs)]:Lg))) none) none) ((t90 (y1,x.2)).bind fun y10=>cond (Nat.ble (y10.2.2.2.1.length+([y10.1]:Ld).length) z7z) (cond (Nat.ble (y10.2.2.2.2.length+([(⟨#[]⟩:Hs)]:Lg).length) z7z) (some (y10.2.1,y10.2.2.1,y10.2.2.2.1++([y10.1]:Ld),y10.2.2.2.2++([(⟨#[]⟩:Hs)]:Lg))) none) none)))))) (cond (decide (x.2.1=3)) ((t65 (y1,x.2)).bind fun y11=>cond (Nat.ble (y11.2.2.2.2.1.length+([y11.2.1]:Ld).length) z7z) (cond (Nat.ble (y11.2.2.2.2.2.length+([y11.1]:Lg).length) z7z) (some (y11.2.2.1,y11.2.2.2.1,y11.2.2.2.2.1++([y11.2.1]:Ld),y11.2.2.2.2.2++([y11.1]:Lg))) none) none) (cond (decide (x.2.1=4)) ((t9y (y1.1.1,x.2.2.1,x.2.2.2.1,x.2.2.2.2.1,false)).bind fun y12=>cond (Nat.ble (y1.2.2.1.length+([y12.2]:Ld).length) z7z) (cond (Nat.ble (y1.2.2.2.length+([(⟨#[]⟩:Hs)]:Lg).length) z7z) (some ((y12.1,y1.1.2),y1.2.1,y1.2.2.1++([y12.2]:Ld),y1.2.2.2++([(⟨#[]⟩:Hs)]:Lg))) none) none) (cond (decide (x.2.1=5)) ((t9y (y1.1.1,x.2.2.1,x.2.2.2.1,(⟨#[]⟩:Hs),true)).bind fun y13=>cond (Nat.ble (y1.2.2.1.length+([y13.2]:Ld).length) z7z) (cond (Nat.ble (y1.2.2.2.length+([(⟨#[]⟩:Hs)]:Lg).length) z7z) (some ((y13.1,y1.1.2),y1.2.1,y1.2.2.1++([y13.2]:Ld),y1.2.2.2++([(⟨#[]⟩:Hs)]:Lg))) none) none) (cond (decide (x.2.1=11)) ((s4n y1.1).bind fun y14=>cond (!y14.2) (cond (Nat.ble (y1.2.2.1.length+([(3:Int)]:Ld).length) z7z) (cond (Nat.ble (y1.2.2.2.length+([(⟨#[]⟩:Hs)]:Lg).length) z7z) (some (y14.1,y1.2.1,y1.2.2.1++([(3:Int)]:Ld),y1.2.2.2++([(⟨#[]⟩:Hs)]:Lg))) none) none) (cond (Nat.ble (y1.2.2.1.length+([(0:Int)]:Ld).length) z7z) (cond (Nat.ble (y1.2.2.2.length+([(⟨#[]⟩:Hs)]:Lg).length) z7z) (some (y14.1,y1.2.1,y1.2.2.1++([(0:Int)]:Ld),y1.2.2.2++([(⟨#[]⟩:Hs)]:Lg))) none) none)) (cond (decide (x.2.1=12)) ((t64 (y1,x.2)).bind fun y15=>cond (Nat.ble (y15.2.2.2.1.length+([y15.1]:Ld).length) z7z) (cond (Nat.ble (y15.2.2.2.2.length+([(⟨#[]⟩:Hs)]:Lg).length) z7z) (some (y15.2.1,y15.2.2.1,y15.2.2.2.1++([y15.1]:Ld),y15.2.2.2.2++([(⟨#[]⟩:Hs)]:Lg))) none) none) ((t90 (y1,x.2)).bind fun y16=>cond (Nat.ble (y16.2.2.2.1.length+([y16.1]:Ld).length) z7z) (cond (Nat.ble (y16.2.2.2.2.length+([(⟨#[]⟩:Hs)]:Lg).length) z7z) (some (y16.2.1,y16.2.2.1,y16.2.2.2.1++([y16.1]:Ld),y16.2.2.2.2++([(⟨#[]⟩:Hs)]:Lg))) none) none))))))))
theorem p83:t5l=q0m:=zC 7 func7
def s5v(x:d6p):La:=zK 229 x
def t3n(g:d6o->Ht r2h)(x:d6o):Ht r2h:=cond (decide (x.2.2<(x.1.length:Int))) (cond (y4v x.2.2 x.1.length) (cond (y4v x.2.2 x.2.1.length) (cond (!(z7q (rdL u11 x.1 x.2.2.toNat).1 (rdL u11 x.2.1 x.2.2.toNat).1&&(z7q (rdL u11 x.1 x.2.2.toNat).2.1 (rdL u11 x.2.1 x.2.2.toNat).2.1&&(((rdL u11 x.1 x.2.2.toNat).2.2==(rdL u11 x.2.1 x.2.2.toNat).2.2)&&true)))) (some (.inr false)) (g (x.1,x.2.1,i64.wrap (x.2.2+1)))) none) none) (some (.inl ()))
def t3y:=lpW _ _ t3n
theorem r1z x:t3y x=t3n t3y x:=zW r0u 229 f229 4 26 x
def r6h (x:d6p):La:=cond (!decide ((x.1.length:Int)=(x.2.length:Int))) (some false) ((t3y (x.1,x.2,0)).bind fun|.inl o2=>some true|.inr z3=>some z3)
theorem p54:s5v=r6h:=zC 229 func229
def r5l(x:Z79):La:=zK 145 x
def s1m(g:Z75->Ht r2h)(x:Z75):Ht r2h:=cond (decide (x.2.2<(x.1.2.2.2.2.1.length:Int))) (cond (y4v x.2.2 x.1.2.2.2.2.1.length) (cond (y4v x.2.2 x.2.1.2.2.2.2.1.length) (cond (!(z7q (rdL r2m x.1.2.2.2.2.1 x.2.2.toNat).1 (rdL r2m x.2.1.2.2.2.2.1 x.2.2.toNat).1&&(z7q (rdL r2m x.1.2.2.2.2.1 x.2.2.toNat).2 (rdL r2m x.2.1.2.2.2.2.1 x.2.2.toNat).2&&true))) (some (.inr false)) (g (x.1,x.2.1,i64.wrap (x.2.2+1)))) none) none) (some (.inl ()))
def t4t:=lpW _ _ s1m
theorem q24 x:t4t x=s1m t4t x:=zW q1x 145 f145 4 81 x
def q84 (x:Z79):La:=((cond (!decide (x.1.1=x.2.1)) (some true) (cond (!decide (x.1.2.1=x.2.2.1)) (some true) (cond (!decide (x.1.2.2.1=x.2.2.2.1)) (some true) (cond (!decide (x.1.2.2.2.1=x.2.2.2.2.1)) (some true) (cond (!(x.1.2.2.2.2.2.2.1==x.2.2.2.2.2.2.2.1)) (some true) (cond (!z7q x.1.2.2.2.2.2.2.2 x.2.2.2.2.2.2.2.2) (some true) (cond (!decide ((x.1.2.2.2.2.1.length:Int)=(x.2.2.2.2.2.1.length:Int))) (some true) ((s5v (x.1.2.2.2.2.2.1,x.2.2.2.2.2.2.1)).bind fun y1=>some (!y1))))))))):La).bind fun j2=>cond j2 (some false) ((t4t (x.1,x.2,0)).bind fun|.inl o4=>some true|.inr z5=>some z5)
theorem o5y:r5l=q84:=zC 145 func145
def t8a(x:c1f):La:=zK 77 x
def t8y(g:d9b->Ht r2h)(x:d9b):Ht r2h:=cond (decide (x.2.2<(x.1.length:Int))) (cond (y4v x.2.2 x.1.length) (cond (y4v x.2.2 x.2.1.length) ((r5l (rdL u0a x.1 x.2.2.toNat,rdL u0a x.2.1 x.2.2.toNat)).bind fun y1=>cond (!y1) (some (.inr false)) (g (x.1,x.2.1,i64.wrap (x.2.2+1)))) none) none) (some (.inl ()))
def t9o:=lpW _ _ t8y
theorem r8h x:t9o x=t8y t9o x:=zW r7d 77 f77 4 27 x
def q47 (x:c1f):La:=cond (!decide ((x.1.length:Int)=(x.2.length:Int))) (some false) ((t9o (x.1,x.2,0)).bind fun|.inl o3=>some true|.inr z4=>some z4)
theorem o2o:t8a=q47:=zC 77 func77
def s26(x:c4e):La:=zK 144 x
def t0p(g:c1j->Ht r2h)(x:c1j):Ht r2h:=cond (decide (x.2.2<(x.1.length:Int))) (cond (y4v x.2.2 x.1.length) (cond (y4v x.2.2 x.2.1.length) (cond (!(z7q (rdL u0f x.1 x.2.2.toNat).1 (rdL u0f x.2.1 x.2.2.toNat).1&&(z7q (rdL u0f x.1 x.2.2.toNat).2.1 (rdL u0f x.2.1 x.2.2.toNat).2.1&&(((rdL u0f x.1 x.2.2.toNat).2.2.1==(rdL u0f x.2.1 x.2.2.toNat).2.2.1)&&(decide ((rdL u0f x.1 x.2.2.toNat).2.2.2=(rdL u0f x.2.1 x.2.2.toNat).2.2.2)&&true))))) (some (.inr false)) (g (x.1,x.2.1,i64.wrap (x.2.2+1)))) none) none) (some (.inl ()))
def t0u:=lpW _ _ t0p
theorem s7y x:t0u x=t0p t0u x:=zW s7i 144 f144 4 26 x
def r0g (x:c4e):La:=cond (!decide ((x.1.length:Int)=(x.2.length:Int))) (some false) ((t0u (x.1,x.2,0)).bind fun|.inl o2=>some true|.inr z3=>some z3)
theorem p1k:s26=r0g:=zC 144 func144
def r1f(x:Z59):La:=zK 76 x
def q44 (x:Z59):La:=(((s26 (x.1.1,x.2.1)).bind fun y1=>cond y1 ((t8a (x.1.2.1,x.2.2.1)).bind fun y2=>cond y2 ((t8a (x.1.2.2.1,x.2.2.2.1)).bind fun y3=>cond y3 (cond (decide (x.1.2.2.2.1=x.2.2.2.2.1)) (some (decide (x.1.2.2.2.2=x.2.2.2.2.2))) (some false)) (some false)) (some false)) (some false)):La).bind fun j4=>some j4
theorem o2l:r1f=q44:=zC 76 func76
def s5u(x:Z31):La:=zK 36 x
def r6g (x:Z31):La:=(((r1f (x.1.1,x.2.1)).bind fun y1=>cond y1 ((t8a (x.1.2,x.2.2)).bind fun y2=>some y2) (some false)):La).bind fun j3=>some j3
theorem p53:s5u=r6g:=zC 36 func36
def u6n(x:d9r):La:=zK 11 x
def u72(g:d9m->Ht r2h)(x:d9m):Ht r2h:=cond (decide (x.2.2<(x.1.length:Int))) (cond (y4v x.2.2 x.1.length) (cond (y4v x.2.2 x.2.1.length) (cond (!z7q (rdL Ty.str x.1 x.2.2.toNat) (rdL Ty.str x.2.1 x.2.2.toNat)) (some (.inr false)) (g (x.1,x.2.1,i64.wrap (x.2.2+1)))) none) none) (some (.inl ()))
def u75:=lpW _ _ u72
theorem t7b x:u75 x=u72 u75 x:=zW r3k 11 f11 4 26 x
def s74 (x:d9r):La:=cond (!decide ((x.1.length:Int)=(x.2.length:Int))) (some false) ((u75 (x.1,x.2,0)).bind fun|.inl o2=>some true|.inr z3=>some z3)
theorem q1h:u6n=s74:=zC 11 func11
def r1g(x:d1y):La:=zK 37 x
def t8w(g:d88->Ht r2h)(x:d88):Ht r2h:=cond (decide (x.2.2<(x.1.2.length:Int))) (cond (y4v x.2.2 x.1.2.length) (cond (y4v x.2.2 x.2.1.2.length) (cond (!(decide ((rdL s5e x.1.2 x.2.2.toNat).1=(rdL s5e x.2.1.2 x.2.2.toNat).1)&&(z7q (rdL s5e x.1.2 x.2.2.toNat).2 (rdL s5e x.2.1.2 x.2.2.toNat).2&&true))) (some (.inr false)) (g (x.1,x.2.1,i64.wrap (x.2.2+1)))) none) none) (some (.inl ()))
def t9n:=lpW _ _ t8w
theorem r8f x:t9n x=t8w t9n x:=zW r7b 37 f37 4 39 x
def q45 (x:d1y):La:=(((u6n (x.1.1,x.2.1)).bind fun y1=>cond (!y1) (some true) (some (!decide ((x.1.2.length:Int)=(x.2.2.length:Int))))):La).bind fun j2=>cond j2 (some false) ((t9n (x.1,x.2,0)).bind fun|.inl o4=>some true|.inr z5=>some z5)
theorem o2m:r1g=q45:=zC 37 func37
def u8n(x:Z16):La:=zK 9 x
def q0y (x:Z16):La:=(((s5u (x.1.1,x.2.1)).bind fun y1=>cond y1 ((r1g (x.1.2,x.2.2)).bind fun y2=>some y2) (some false)):La).bind fun j3=>some j3
theorem p9h:u8n=q0y:=zC 9 func9
def t2t(x:(q3s×q3s)):La:=zK 10 x
def t8x(g:(q3s×d60)->Ht r2h)(x:(q3s×d60)):Ht r2h:=cond (decide (x.2.2<(x.1.length:Int))) (cond (y4v x.2.2 x.1.length) (cond (y4v x.2.2 x.2.1.length) (cond (!decide ((rdL (Ty.int .i64) x.1 x.2.2.toNat)=(rdL (Ty.int .i64) x.2.1 x.2.2.toNat))) (some (.inr false)) (g (x.1,x.2.1,i64.wrap (x.2.2+1)))) none) none) (some (.inl ()))
def t18:=lpW _ _ t8x
theorem r8g x:t18 x=t8x t18 x:=zW r7c 10 f10 4 26 x
def q46 (x:(q3s×q3s)):La:=cond (!decide ((x.1.length:Int)=(x.2.length:Int))) (some false) ((t18 (x.1,x.2,0)).bind fun|.inl o2=>some true|.inr z3=>some z3)
theorem o2n:t2t=q46:=zC 10 func10
def s9v(x:q3s):Ht j8w:=zK 22 x
def t7j(g:j8w->Ht (d60⊕Unit))(x:j8w):Ht (d60⊕Unit):=((cond (decide (x.2.2<(x.1.length:Int))) (some (decide (x.2.2<4000))) (some false)):La).bind fun j1=>cond j1 (cond (y4v x.2.2 x.1.length) (g (x.1,i64.wrap ((BitVec.ofInt i64.bits (i64.wrap ((i64.wrap ((i64.wrap (x.2.1*131))+(i64.wrap (rdL (Ty.int .u8) x.1 x.2.2.toNat))))+7))&&&BitVec.ofInt i64.bits (1073741823:Int)).toNat:Int),i64.wrap (x.2.2+1))) none) (some (.inl (x.1,x.2.1)))
def t7q:=lpW _ _ t7j
theorem r2e x:t7q x=t7j t7q x:=zW q6h 22 f22 3 32 x
def p3d (x:q3s):Ht j8w:=(t7q (x,i64.wrap ((77601:Int)+(x.length:Int)),0)).bind fun|.inl o3=>some (o3.1,0,o3.2)|.inr z4=>none
theorem j0e:s9v=p3d:=zC 22 func22
def t1e(x:j8w):Ht d61:=zK 45 x
def q9n (x:j8w):Ht d61:=cond (decide (x.2.1<(x.1.length:Int))) (cond (y4v x.2.1 x.1.length) (some (i64.wrap ((BitVec.ofInt i64.bits (i64.wrap ((i64.wrap ((BitVec.ofInt i64.bits (i64.wrap ((BitVec.ofInt i64.bits (Int.fdiv (i64.wrap ((i64.wrap (x.2.2*6364136223846793005))+1442695040888963407)) (2^(min (33:Int).toNat i64.bits)))^^^BitVec.ofInt i64.bits (Int.fdiv (i64.wrap ((i64.wrap (x.2.2*6364136223846793005))+1442695040888963407)) (2^(min (45:Int).toNat i64.bits)))).toNat:Int))&&&BitVec.ofInt i64.bits (255:Int)).toNat:Int))+(i64.wrap (rdL (Ty.int .u8) x.1 x.2.1.toNat))))&&&BitVec.ofInt i64.bits (255:Int)).toNat:Int),x.1,i64.wrap (x.2.1+1),i64.wrap ((i64.wrap (x.2.2*6364136223846793005))+1442695040888963407))) none) (some (i64.wrap ((BitVec.ofInt i64.bits (i64.wrap ((BitVec.ofInt i64.bits (Int.fdiv (i64.wrap ((i64.wrap (x.2.2*6364136223846793005))+1442695040888963407)) (2^(min (33:Int).toNat i64.bits)))^^^BitVec.ofInt i64.bits (Int.fdiv (i64.wrap ((i64.wrap (x.2.2*6364136223846793005))+1442695040888963407)) (2^(min (45:Int).toNat i64.bits)))).toNat:Int))&&&BitVec.ofInt i64.bits (255:Int)).toNat:Int),x.1,x.2.1,i64.wrap ((i64.wrap (x.2.2*6364136223846793005))+1442695040888963407)))
theorem o6h:t1e=q9n:=zC 45 func45
def u2l(x:(j8w×Int)):Ht d61:=zK 23 x
def q5q (x:(j8w×Int)):Ht d61:=cond (decide (x.2<=0)) (some (0,x.1)) (cond (decide (x.2<=256)) ((t1e x.1).bind fun y1=>cond (!decide (x.2=0)) (some (Int.tmod y1.1 x.2,y1.2)) none) ((t1e x.1).bind fun y2=>(t1e y2.2).bind fun y3=>(t1e y3.2).bind fun y4=>(t1e y4.2).bind fun y5=>cond (!decide (x.2=0)) (some (Int.tmod (i64.wrap ((i64.wrap ((i64.wrap ((i64.wrap (y2.1*16777216))+(i64.wrap (y3.1*65536))))+(i64.wrap (y4.1*256))))+y5.1)) x.2,y5.2)) none))
theorem o27:u2l=q5q:=zC 23 func23
def s63(x:(j8w×Int)):Ht (Bool×j8w):=zK 25 x
def q9o (x:(j8w×Int)):Ht (Bool×j8w):=(u2l x).bind fun y1=>some (decide (y1.1=0),y1.2)
theorem o6i:s63=q9o:=zC 25 func25
def u16(x:c38):Ht c4i:=zK 46 x
def q9p (x:c38):Ht c4i:=(u2l (x.1,(x.2.length:Int))).bind fun y1=>cond (y4v y1.1 x.2.length) (some (rdL Ty.str x.2 y1.1.toNat,y1.2)) none
theorem o6j:u16=q9p:=zC 46 func46
def t92(x:c4h):Ht d61:=zK 47 x
def r6p (x:c4h):Ht d61:=(u2l (x.1,(x.2.length:Int))).bind fun y1=>cond (y4v y1.1 x.2.length) (some (rdL (Ty.int .i64) x.2 y1.1.toNat,y1.2)) none
theorem p6c:t92=r6p:=zC 47 func47
end
end Go.Proofs.YtkphhjdbdnoekaaGreatDoor.Ab
