import Derived.Test.YtkphhjdbdnoekaaGreatDoorAbRefusedG2
namespace Go.Proofs.YtkphhjdbdnoekaaGreatDoor.Ab
open Go Tryz Go.IntKind
set_option linter.unusedVariables false
noncomputable section
set_option maxRecDepth 100000
def r5w(x:d9x):Ht j9x:=zK 95 x
def s1f(g:Z68->Ht (Z92⊕Unit))(x:Z68):Ht (Z92⊕Unit):=cond (decide (x.2.2.2.2.2.2<x.2.2.2.2.2.1)) (cond (y4v x.2.2.2.2.2.2 x.2.2.2.2.1.length) (cond (Nat.ble (x.2.2.2.1.length+([(rdL u12 x.2.2.2.2.1 x.2.2.2.2.2.2.toNat).1]:Lg).length) z7z) (g (x.1,x.2.1,x.2.2.1,x.2.2.2.1++([(rdL u12 x.2.2.2.2.1 x.2.2.2.2.2.2.toNat).1]:Lg),x.2.2.2.2.1,x.2.2.2.2.2.1,i64.wrap (x.2.2.2.2.2.2+1))) none) none) (some (.inl (x.1,x.2.1,x.2.2.1,x.2.2.2.1)))
def t4p:=lpW _ _ s1f
theorem q26 x:t4p x=s1f t4p x:=zW q1z 95 f95 3 60 x
def t8q(g:Z69->Ht d7z)(x:Z69):Ht d7z:=cond (decide (x.2.2.2.2.2.2<x.2.2.2.2.2.1)) (cond (y4v x.2.2.2.2.2.2 x.2.2.2.2.1.length) ((s92 (x.2.1,x.1,rdL Ty.str x.2.2.2.2.1 x.2.2.2.2.2.2.toNat)).bind fun y6=>((cond y6.2 ((s6y (x.2.2.1,rdL Ty.str x.2.2.2.2.1 x.2.2.2.2.2.2.toNat)).bind fun y7=>some y7) (some false)):La).bind fun j8=>cond j8 (cond (Nat.ble (x.2.2.2.1.length+([(rdL Ty.str x.2.2.2.2.1 x.2.2.2.2.2.2.toNat,y6.1)]:Li).length) z7z) (g (x.1,x.2.1,x.2.2.1,x.2.2.2.1++([(rdL Ty.str x.2.2.2.2.1 x.2.2.2.2.2.2.toNat,y6.1)]:Li),x.2.2.2.2.1,x.2.2.2.2.2.1,i64.wrap (x.2.2.2.2.2.2+1))) none) (g (x.1,x.2.1,x.2.2.1,x.2.2.2.1,x.2.2.2.2.1,x.2.2.2.2.2.1,i64.wrap (x.2.2.2.2.2.2+1)))) none) (some (.inl x.2.2.2.1))
def t9j:=lpW _ _ t8q
theorem r8i x:t9j x=t8q t9j x:=zW r7h 95 f95 10 60 x
def q84(x:d9x):Ht j9x:=(r93 x.2.1).bind fun y1=>(t4p (x.2.1,x.1,x.2.2,y1,x.1.2.2.2.2.2.1,(x.1.2.2.2.2.2.1.length:Int),0)).bind fun|.inl o3=>((u9y o3.2.2.2).bind fun y4=>(u7y y4).bind fun y5=>(t9j (o3.1,o3.2.1,o3.2.2.1,([]:Li),y5,(y5.length:Int),0)).bind fun|.inl o10=>some o10|.inr z11=>none)|.inr z12=>none
theorem o5t:r5w=q84:=zC 95 func95
def r1q(x:Z75):Ht Z79:=zK 54 x
def q43(x:Z75):Ht Z79:=(s00 x.2.2).bind fun y1=>(r4h (x.1,x.2.1,x.2.2,y1)).bind fun y2=>cond (!decide (y2.2.2=0)) (some (y2.1,([]:Li),y2.2.2)) (cond (y4v y2.2.1 x.1.2.length) ((r5w (rdL u0a x.1.2 y2.2.1.toNat,x.1.1.1,x.2.2)).bind fun y3=>some (y2.1,y3,0)) none)
theorem o2p:r1q=q43:=zC 54 func54
def r6d(x:(p5r×Hs)):Ht Hs:=zK 55 x
theorem o7d:∀(x:(p5r×Hs)),r6d x=y7l x:=y6p (P:=Tryz.prog) (A:=A) (f:=55) (F:=y7l) rfl
def t69(x:Z24):Ht Z33:=zK 29 x
def t0n(g:Z22->Ht (Z31⊕Unit))(x:Z22):Ht (Z31⊕Unit):=cond (decide (x.2.2.2.2.2<x.2.2.2.2.1)) (cond (y4v x.2.2.2.2.2 x.2.2.2.1.length) (cond (decide ((rdL r0f x.2.2.2.1 x.2.2.2.2.2.toNat).1.size+(⟨#[61]⟩:Hs).size<=140737488355328)) (cond (decide (((rdL r0f x.2.2.2.1 x.2.2.2.2.2.toNat).1++(⟨#[61]⟩:Hs)).size+(rdL r0f x.2.2.2.1 x.2.2.2.2.2.toNat).2.size<=140737488355328)) (cond (Nat.ble (x.2.2.1.length+([(((rdL r0f x.2.2.2.1 x.2.2.2.2.2.toNat).1++(⟨#[61]⟩:Hs))++(rdL r0f x.2.2.2.1 x.2.2.2.2.2.toNat).2)]:Lg).length) z7z) (g (x.1,x.2.1,x.2.2.1++([(((rdL r0f x.2.2.2.1 x.2.2.2.2.2.toNat).1++(⟨#[61]⟩:Hs))++(rdL r0f x.2.2.2.1 x.2.2.2.2.2.toNat).2)]:Lg),x.2.2.2.1,x.2.2.2.2.1,i64.wrap (x.2.2.2.2.2+1))) none) none) none) none) (some (.inl (x.1,x.2.1,x.2.2.1)))
def u7p:=lpW _ _ t0n
theorem s79 x:u7p x=t0n u7p x:=zW s7q 29 f29 11 88 x
def r3e(x:Z24):Ht Z33:=cond (decide (x.2.1=2)) ((r9x (x.1.1.1,x.2.2.1,x.2.2.2.1)).bind fun y1=>((cond (decide (y1.2.2.2=0)) (some (!y1.2.2.1)) (some false)):La).bind fun j2=>cond j2 (some ((⟨#[45]⟩:Hs),y1.2.2.2,(y1.1,x.1.1.2),x.1.2)) (some (y1.2.1,y1.2.2.2,(y1.1,x.1.1.2),x.1.2))) ((r1q (x.1.1.1,x.2.2.1,x.2.2.2.1,x.2.2.2.2.1)).bind fun y3=>(u7p (((y3.1,x.1.1.2),x.1.2),y3.2.2,([]:Lg),y3.2.1,(y3.2.1.length:Int),0)).bind fun|.inl o5=>((r6d (o5.2.2,(⟨#[44]⟩:Hs))).bind fun y6=>some (y6,o5.2.1,o5.1))|.inr z7=>none)
theorem p4b:t69=r3e:=zC 29 func29
def u99(x:c5a):Ht j1u:=zK 167 x
theorem r25:∀(x:c5a),u99 x=y2u u12 x:=y6p (P:=Tryz.prog) (A:=A) (f:=167) (F:=y2u u12) rfl
def r1p(x:c0g):Ht j1u:=zK 101 x
def t8r(g:d8n->Ht (d8n⊕Unit))(x:d8n):Ht (d8n⊕Unit):=((cond (decide (x.2.2<(x.2.1.length:Int))) (cond (y4v x.2.2 x.2.1.length) (some (y3i (rdL u12 x.2.1 x.2.2.toNat).1 x.1.1)) none) (some false)):La).bind fun j1=>cond j1 (g (x.1,x.2.1,i64.wrap (x.2.2+1))) (some (.inl x))
def t16:=lpW _ _ t8r
theorem r8j x:t16 x=t8r t16 x:=zW r7i 101 f101 3 49 x
def q40(x:c0g):Ht j1u:=cond (Nat.ble x.1.length z7z) ((t16 (x.2,x.1,0)).bind fun|.inl o3=>(((cond (decide (o3.2.2<(o3.2.1.length:Int))) (cond (y4v o3.2.2 o3.2.1.length) (some (z7q (rdL u12 o3.2.1 o3.2.2.toNat).1 o3.1.1)) none) (some false)):La).bind fun j4=>cond j4 (cond (y4v o3.2.2 o3.2.1.length) (some (o3.2.1.set o3.2.2.toNat o3.1)) none) ((u99 (o3.2.1,o3.2.2,([o3.1]:Lh))).bind fun y5=>some y5))|.inr z6=>none) none
theorem o2m:r1p=q40:=zC 101 func101
def r1s(x:d90):Ht d2n:=zK 58 x
def q45(x:d90):Ht d2n:=(u2n x.1).bind fun y1=>(((u6q x.1).bind fun y2=>cond (!y2) (some true) (cond (!decide (x.1.2.1=1)) (some true) ((s01 x.2).bind fun y3=>some (!y3)))):La).bind fun j4=>cond j4 (some (y1,false)) ((r1p (x.1.2.2.2.2.2.1,x.2)).bind fun y5=>(u6q (y1.1,y1.2.1,y1.2.2.1,y1.2.2.2.1,y1.2.2.2.2.1,y5,y1.2.2.2.2.2.2)).bind fun y6=>cond (!y6) ((u2n x.1).bind fun y7=>some (y7,false)) (some ((y1.1,y1.2.1,y1.2.2.1,y1.2.2.2.1,y1.2.2.2.2.1,y5,y1.2.2.2.2.2.2),true)))
theorem o2s:r1s=q45:=zC 58 func58
def t91(x:Z70):Ht Z94:=zK 30 x
def p24(x:Z70):Ht Z94:=(u11 x.1).bind fun y1=>(u84 (x.1,x.2.1)).bind fun y2=>cond (decide (y2<0)) (some (y1,1)) ((s01 x.2.2).bind fun y3=>cond (!y3) (some (y1,2)) (cond (y4v y2 x.1.2.length) ((r1s (rdL u0a x.1.2 y2.toNat,x.2.2)).bind fun y4=>cond (!y4.2) (some (y1,3)) (cond (y4v y2 y1.2.length) (some ((y1.1,y1.2.set y2.toNat y4.1),0)) none)) none))
theorem o99:t91=p24:=zC 30 func30
def t2o(x:o48):Ht r0d:=zK 257 x
def t3j(g:c44->Ht d7x)(x:c44):Ht d7x:=cond (decide (x.2.2.2.2<x.2.2.2.1)) (cond (y4v x.2.2.2.2 x.2.2.1.length) (cond (decide ((rdL s5n x.2.2.1 x.2.2.2.2.toNat).1=x.1)) (g (x.1,(rdL s5n x.2.2.1 x.2.2.2.2.toNat).2,x.2.2.1,x.2.2.2.1,i64.wrap (x.2.2.2.2+1))) (g (x.1,x.2.1,x.2.2.1,x.2.2.2.1,i64.wrap (x.2.2.2.2+1)))) none) (some (.inl x.2.1))
def t3t:=lpW _ _ t3j
theorem r2p x:t3t x=t3j t3t x:=zW r05 257 f257 5 36 x
def r6m(x:o48):Ht r0d:=(u03 (x.2,0,i64.wrap ((x.1.1.length:Int) - (1:Int)))).bind fun y1=>cond (!y1) (some ((⟨#[]⟩:Hs),false)) (cond (y4v x.2 x.1.1.length) ((t3t (x.2,rdL Ty.str x.1.1 x.2.toNat,x.1.2,(x.1.2.length:Int),0)).bind fun|.inl o3=>some (o3,true)|.inr z4=>none) none)
theorem p6d:t2o=r6m:=zC 257 func257
def t5m(x:o48):Lj:=zK 179 x
def q04(x:o48):Lj:=(t2o x).bind fun y1=>((cond (!y1.2) (some true) (some (z7q y1.1 (⟨#[]⟩:Hs)))):La).bind fun j2=>cond j2 (some (0:Int)) (cond (y4v (0:Int) y1.1.size) (some (i64.wrap ((y1.1.data.toList.getD (0:Int).toNat 0).toNat:Int))) none)
theorem p9u:t5m=q04:=zC 179 func179
def t2m(x:u8l):Lj:=zK 106 x
def q4q(x:u8l):Lj:=(t5m (x,0)).bind fun y1=>some (Int.tmod y1 (2:Int))
theorem o2c:t2m=q4q:=zC 106 func106
def s45(x:Int):La:=zK 185 x
def p29(x:Int):La:=((cond (decide (x=0)) (some true) (some (decide (x=1)))):La).bind fun j1=>some j1
theorem j0d:s45=p29:=zC 185 func185
def t0f(x:Int):Lj:=zK 183 x
def q0l(x:Int):Lj:=(s45 x).bind fun y1=>cond (!y1) (some (0:Int)) (some (i64.wrap ((1:Int)+(i64.wrap (x*48)))))
theorem p89:t0f=q0l:=zC 183 func183
def t5u(x:o48):Lj:=zK 111 x
def q8z(x:o48):Lj:=(s45 x.2).bind fun y1=>cond (!y1) (some (0:Int)) ((t0f x.2).bind fun y2=>(t5m (x.1,y2)).bind fun y3=>some y3)
theorem o5o:t5u=q8z:=zC 111 func111
def s50(x:d22):Ht r0d:=zK 258 x
def t3k(g:c4n->Ht (q4b⊕r0d))(x:c4n):Ht (q4b⊕r0d):=cond (decide (x.2.2.2.2<x.2.1)) ((t2o (x.2.2.1,i64.wrap (x.1+x.2.2.2.2))).bind fun y2=>cond (!y2.2) (some (.inr ((⟨#[]⟩:Hs),false))) (cond (Nat.ble (x.2.2.2.1.length+(z7w y2.1).length) z7z) (g (x.1,x.2.1,x.2.2.1,x.2.2.2.1++(z7w y2.1),i64.wrap (x.2.2.2.2+1))) none)) (some (.inl x.2.2.2.1))
def t3u:=lpW _ _ t3k
theorem r2q x:t3u x=t3k t3u x:=zW r06 258 f258 5 35 x
def r6o(x:d22):Ht r0d:=(u03 (x.2.2,0,100)).bind fun y1=>cond (!y1) (some ((⟨#[]⟩:Hs),false)) ((t3u (x.2.1,x.2.2,x.1,([]:Ld),0)).bind fun|.inl o4=>some (y7s o4,true)|.inr z5=>some z5)
theorem p6f:s50=r6o:=zC 258 func258
def t5v(x:Int):Ht r0d:=zK 260 x
def q0i(g:d5i->Ht (d5i⊕Unit))(x:d5i):Ht (d5i⊕Unit):=cond (decide (x.1>127)) (cond (Nat.ble (x.2.length+([(u8.wrap (i64.wrap ((Int.tmod x.1 (128:Int))+128)))]:Ld).length) z7z) (g (i64.wrap (Int.tdiv x.1 (128:Int)),x.2++([(u8.wrap (i64.wrap ((Int.tmod x.1 (128:Int))+128)))]:Ld))) none) (some (.inl x))
def s2g:=lpW _ _ q0i
theorem o0o x:s2g x=q0i s2g x:=zW q19 260 f260 4 25 x
def q9f(x:Int):Ht r0d:=(u03 (x,0,1000000000)).bind fun y1=>cond (!y1) (some ((⟨#[]⟩:Hs),false)) ((s2g (x,([]:Ld))).bind fun|.inl o3=>cond (Nat.ble (o3.2.length+([(u8.wrap o3.1)]:Ld).length) z7z) (some (y7s (o3.2++([(u8.wrap o3.1)]:Ld)),true)) none|.inr z4=>none)
theorem o54:t5v=q9f:=zC 260 func260
def s60(x:j5h):Ht d5j:=zK 339 x
def s1h(g:(Hs×d72)->Ht (Unit⊕d5j))(x:(Hs×d72)):Ht (Unit⊕d5j):=((cond (decide (x.2.2.2<5)) (some (decide ((i64.wrap (x.2.1+x.2.2.2))<(x.1.size:Int)))) (some false)):La).bind fun j2=>cond j2 (cond (y4v (i64.wrap (x.2.1+x.2.2.2)) x.1.size) (cond (decide (0<=(i64.wrap ((7:Int)*x.2.2.2)))) (cond (decide ((i64.wrap ((x.1.data.toList.getD (i64.wrap (x.2.1+x.2.2.2)).toNat 0).toNat:Int))<128)) ((t5v (i64.wrap (x.2.2.1+(i64.wrap ((Int.tmod (i64.wrap ((x.1.data.toList.getD (i64.wrap (x.2.1+x.2.2.2)).toNat 0).toNat:Int)) (128:Int))*2^(min (i64.wrap ((7:Int)*x.2.2.2)).toNat i64.bits)))))).bind fun y3=>((cond (!y3.2) (some true) (some (!decide ((y3.1.size:Int)=(i64.wrap (x.2.2.2+1)))))):La).bind fun j4=>cond j4 (some (.inr (0,0,false))) (some (.inr (i64.wrap (x.2.2.1+(i64.wrap ((Int.tmod (i64.wrap ((x.1.data.toList.getD (i64.wrap (x.2.1+x.2.2.2)).toNat 0).toNat:Int)) (128:Int))*2^(min (i64.wrap ((7:Int)*x.2.2.2)).toNat i64.bits)))),i64.wrap ((i64.wrap (x.2.1+x.2.2.2))+1),true)))) (g (x.1,x.2.1,i64.wrap (x.2.2.1+(i64.wrap ((Int.tmod (i64.wrap ((x.1.data.toList.getD (i64.wrap (x.2.1+x.2.2.2)).toNat 0).toNat:Int)) (128:Int))*2^(min (i64.wrap ((7:Int)*x.2.2.2)).toNat i64.bits)))),i64.wrap (x.2.2.2+1)))) none) none) (some (.inl ()))
def s2c:=lpW _ _ s1h
theorem q28 x:s2c x=s1h s2c x:=zW q11 339 f339 5 63 x
def q88(x:j5h):Ht d5j:=(u03 (x.2,0,(x.1.size:Int))).bind fun y1=>cond (!y1) (some (0,0,false)) ((s2c (x.1,x.2,0,0)).bind fun|.inl o6=>some (0,0,false)|.inr z7=>some z7)
theorem o5x:s60=q88:=zC 339 func339
def s2u(x:j5h):Ht p2o:=zK 259 x
def q0t(x:j5h):Ht p2o:=(s60 x).bind fun y1=>((cond (!y1.2.2) (some true) (cond (decide (y1.1>20000)) (some true) (some (decide (y1.1>(i64.wrap ((x.1.size:Int) - y1.2.1))))))):La).bind fun j2=>cond j2 (some ((⟨#[]⟩:Hs),0,false)) (cond (decide (0<=y1.2.1)&&decide (y1.2.1<=(i64.wrap (y1.2.1+y1.1)))&&decide ((i64.wrap (y1.2.1+y1.1))<=(x.1.size:Int))) (some (x.1.extract y1.2.1.toNat (i64.wrap (y1.2.1+y1.1)).toNat,i64.wrap (y1.2.1+y1.1),true)) none)
theorem p9i:s2u=q0t:=zC 259 func259
def t2n(x:o48):Ht (p5r×d62):=zK 180 x
def t8s(g:c4b->Ht c0x)(x:c4b):Ht c0x:=(t5u (x.2.1,x.1)).bind fun y5=>cond (decide (x.2.2.2.2.2<y5)) ((s2u (x.2.2.1,x.2.2.2.2.1)).bind fun y6=>((cond (!y6.2.2) (some true) (some (z7q y6.1 (⟨#[]⟩:Hs)))):La).bind fun j7=>cond j7 (some (.inr (([]:Lg),0,false))) (cond (Nat.ble (x.2.2.2.1.length+([y6.1]:Lg).length) z7z) (g (x.1,x.2.1,x.2.2.1,x.2.2.2.1++([y6.1]:Lg),y6.2.1,i64.wrap (x.2.2.2.2.2+1))) none)) (some (.inl (x.2.2.2.1,x.2.2.2.2.1)))
def t9k:=lpW _ _ t8s
theorem r8k x:t9k x=t8s t9k x:=zW r7j 180 f180 7 57 x
def q41(x:o48):Ht (p5r×d62):=(t0f x.2).bind fun y1=>(s50 (x.1,i64.wrap (y1+1),47)).bind fun y2=>((cond (!y2.2) (some true) ((s45 x.2).bind fun y3=>some (!y3))):La).bind fun j4=>cond j4 (some (([]:Lg),0,false)) ((t9k (x.2,x.1,y2.1,([]:Lg),0,0)).bind fun|.inl o9=>some (o9.1,o9.2,true)|.inr z10=>some z10)
theorem o2n:t2n=q41:=zC 180 func180
def t77(x:u8l):Ht p5r:=zK 113 x
def q4x(x:u8l):Ht p5r:=(t2m x).bind fun y1=>(t2n (x,y1)).bind fun y2=>some y2.1
theorem o2j:t77=q4x:=zC 113 func113
def p1c(x:Unit):Ht u9r:=zK 146 x
def q8x(x:Unit):Ht u9r:=some (([]:Lf),([]:Lc),([]:Lc),0,1)
theorem o5m:p1c=q8x:=zC 146 func146
def r1u(x:t0x):La:=zK 253 x
def q5a(x:t0x):La:=((cond (decide (x.1=0)) (cond (decide (x.2.1=0)) (cond (decide (x.2.2.1=0)) (cond (decide (x.2.2.2.1=0)) (cond (decide ((x.2.2.2.2.1.length:Int)=(0:Int))) (cond (decide ((x.2.2.2.2.2.1.length:Int)=(0:Int))) (cond (!x.2.2.2.2.2.2.1) (some (z7q x.2.2.2.2.2.2.2 (⟨#[]⟩:Hs))) (some false)) (some false)) (some false)) (some false)) (some false)) (some false)) (some false)):La).bind fun j1=>some j1
theorem o2x:r1u=q5a:=zC 253 func253
def s8p(x:u9r):La:=zK 254 x
def q02(x:u9r):La:=((cond (decide ((x.1.length:Int)=(0:Int))) (cond (decide ((x.2.1.length:Int)=(0:Int))) (cond (decide ((x.2.2.1.length:Int)=(0:Int))) (cond (decide (x.2.2.2.1=0)) (some (decide (x.2.2.2.2=0))) (some false)) (some false)) (some false)) (some false)):La).bind fun j1=>some j1
theorem p9s:s8p=q02:=zC 254 func254
def s41(x:Z54):La:=zK 170 x
def q42(x:Z54):La:=(r1u x.2.1).bind fun y1=>(s8p x.2.2.2.2).bind fun y2=>cond (decide (x.1=1)) ((((u6q x.2.1).bind fun y3=>cond y3 ((t01 x.2.1).bind fun y4=>some y4) (some false)):La).bind fun j5=>((cond j5 (cond (z7q x.2.2.1 (⟨#[]⟩:Hs)) (cond y2 (cond (!x.2.2.2.1) (some true) (some (decide (x.1=3)))) (some false)) (some false)) (some false)):La).bind fun j6=>some j6) (cond (decide (x.1=2)) ((((u6q x.2.1).bind fun y7=>cond y7 ((u4c x.2.1).bind fun y8=>some y8) (some false)):La).bind fun j9=>((cond j9 (cond (z7q x.2.2.1 (⟨#[]⟩:Hs)) (cond y2 (cond (!x.2.2.2.1) (some true) (some (decide (x.1=3)))) (some false)) (some false)) (some false)):La).bind fun j10=>some j10) (cond (decide (x.1=3)) ((u9d x.2.2.1).bind fun y11=>((cond y1 (cond y11 (cond y2 (cond (!x.2.2.2.1) (some true) (some (decide (x.1=3)))) (some false)) (some false)) (some false)):La).bind fun j12=>some j12) (cond (decide (x.1=4)) ((u3m x.2.2.2.2).bind fun y13=>((cond y1 (cond (z7q x.2.2.1 (⟨#[]⟩:Hs)) (cond y13 (cond (!x.2.2.2.1) (some true) (some (decide (x.1=3)))) (some false)) (some false)) (some false)):La).bind fun j14=>some j14) (some false))))
theorem o2o:s41=q42:=zC 170 func170
def t5k(x:Hs):Ht r0d:=zK 181 x
def q0x(x:Hs):Ht r0d:=cond (decide ((x.size:Int)>(20000:Int))) (some ((⟨#[]⟩:Hs),false)) ((t5v (x.size:Int)).bind fun y1=>cond (decide (y1.1.size+x.size<=140737488355328)) (some (y1.1++x,true)) none)
theorem p9m:t5k=q0x:=zC 181 func181
def u8p(x:(q4b×p5r)):Ht q4b:=zK 171 x
def t6h(g:c49->Ht d5g)(x:c49):Ht d5g:=cond (decide (x.2.2.2<x.2.2.1)) (cond (y4v x.2.2.2 x.2.1.length) ((t5k (rdL Ty.str x.2.1 x.2.2.2.toNat)).bind fun y1=>cond (Nat.ble (x.1.length+(z7w y1.1).length) z7z) (g (x.1++(z7w y1.1),x.2.1,x.2.2.1,i64.wrap (x.2.2.2+1))) none) none) (some (.inl x.1))
def t6w:=lpW _ _ t6h
theorem r4y x:t6w x=t6h t6w x:=zW r30 171 f171 1 29 x
def q07(x:(q4b×p5r)):Ht q4b:=(t6w (x.1,x.2,(x.2.length:Int),0)).bind fun|.inl o3=>some o3|.inr z4=>none
theorem p9x:u8p=q07:=zC 171 func171
def t0i(x:(q4b×Bool)):Ht q4b:=zK 172 x
def q06(x:(q4b×Bool)):Ht q4b:=cond x.2 (cond (Nat.ble (x.1.length+([(1:Int)]:Ld).length) z7z) (some (x.1++([(1:Int)]:Ld))) none) (cond (Nat.ble (x.1.length+([(0:Int)]:Ld).length) z7z) (some (x.1++([(0:Int)]:Ld))) none)
theorem p9w:t0i=q06:=zC 172 func172
def u7w(x:(q4b×q4b)):Ht q4b:=zK 255 x
def t8x(g:c5g->Ht d5g)(x:c5g):Ht d5g:=cond (decide (x.2.2.2<x.2.2.1)) (cond (y4v x.2.2.2 x.2.1.length) ((t5v (rdL (Ty.int .i64) x.2.1 x.2.2.2.toNat)).bind fun y1=>cond (Nat.ble (x.1.length+(z7w y1.1).length) z7z) (g (x.1++(z7w y1.1),x.2.1,x.2.2.1,i64.wrap (x.2.2.2+1))) none) none) (some (.inl x.1))
def t9o:=lpW _ _ t8x
theorem r8p x:t9o x=t8x t9o x:=zW r7o 255 f255 1 29 x
def q5b(x:(q4b×q4b)):Ht q4b:=(t9o (x.1,x.2,(x.2.length:Int),0)).bind fun|.inl o3=>some o3|.inr z4=>none
theorem o2z:u7w=q5b:=zC 255 func255
def s61(x:t0x):Ht r0d:=zK 174 x
def s1n(g:c3r->Ht (d95⊕Unit))(x:c3r):Ht (d95⊕Unit):=cond (decide (x.2.2.2.2<x.2.2.2.1)) (cond (y4v x.2.2.2.2 x.2.2.1.length) ((u8p (x.2.1,([(rdL r0f x.2.2.1 x.2.2.2.2.toNat).1,(rdL r0f x.2.2.1 x.2.2.2.2.toNat).2]:Lg))).bind fun y3=>g (x.1,y3,x.2.2.1,x.2.2.2.1,i64.wrap (x.2.2.2.2+1))) none) (some (.inl (x.1,x.2.1)))
def t4s:=lpW _ _ s1n
theorem q3e x:t4s x=s1n t4s x:=zW q18 174 f174 6 82 x
def t8u(g:c3p->Ht (d95⊕Unit))(x:c3p):Ht (d95⊕Unit):=cond (decide (x.2.2.2.2<x.2.2.2.1)) (cond (y4v x.2.2.2.2 x.2.2.1.length) ((u8p (x.2.1,([(rdL u12 x.2.2.1 x.2.2.2.2.toNat).1,(rdL u12 x.2.2.1 x.2.2.2.2.toNat).2.1]:Lg))).bind fun y7=>(t0i (y7,(rdL u12 x.2.2.1 x.2.2.2.2.toNat).2.2)).bind fun y8=>g (x.1,y8,x.2.2.1,x.2.2.2.1,i64.wrap (x.2.2.2.2+1))) none) (some (.inl (x.1,x.2.1)))
def t17:=lpW _ _ t8u
theorem r8m x:t17 x=t8u t17 x:=zW r7l 174 f174 12 82 x
def q9e(x:t0x):Ht r0d:=(u6q x).bind fun y1=>cond (!y1) (some ((⟨#[]⟩:Hs),false)) ((u7w (([]:Ld),([x.1,x.2.1,x.2.2.1,x.2.2.2.1,(x.2.2.2.2.1.length:Int)]:Ld))).bind fun y2=>(t4s (x,y2,x.2.2.2.2.1,(x.2.2.2.2.1.length:Int),0)).bind fun|.inl o5=>((u7w (o5.2,([(o5.1.2.2.2.2.2.1.length:Int)]:Ld))).bind fun y6=>(t17 (o5.1,y6,o5.1.2.2.2.2.2.1,(o5.1.2.2.2.2.2.1.length:Int),0)).bind fun|.inl o10=>((t0i (o10.2,o10.1.2.2.2.2.2.2.1)).bind fun y11=>(u8p (y11,([o10.1.2.2.2.2.2.2.2]:Lg))).bind fun y12=>some (y7s y12,true))|.inr z13=>none)|.inr z14=>none)
theorem o53:s61=q9e:=zC 174 func174
def r1l(x:u9r):Ht r0d:=zK 173 x
def t8n(g:Z89->Ht (d7l⊕Unit))(x:Z89):Ht (d7l⊕Unit):=cond (decide (x.2.2.2.2<x.2.2.2.1)) (cond (y4v x.2.2.2.2 x.2.2.1.length) ((u8p (x.2.1,([(rdL u0h x.2.2.1 x.2.2.2.2.toNat).1,(rdL u0h x.2.2.1 x.2.2.2.2.toNat).2.1]:Lg))).bind fun y3=>(t0i (y3,(rdL u0h x.2.2.1 x.2.2.2.2.toNat).2.2.1)).bind fun y4=>(u7w (y4,([(rdL u0h x.2.2.1 x.2.2.2.2.toNat).2.2.2]:Ld))).bind fun y5=>g (x.1,y5,x.2.2.1,x.2.2.2.1,i64.wrap (x.2.2.2.2+1))) none) (some (.inl (x.1,x.2.1)))
def t15:=lpW _ _ t8n
theorem r8f x:t15 x=t8n t15 x:=zW r7e 173 f173 6 94 x
def t6a(g:c3y->Ht (c0c⊕Unit))(x:c3y):Ht (c0c⊕Unit):=cond (decide (x.2.2.2.2.2.2<x.2.2.2.2.2.1)) (cond (y4v x.2.2.2.2.2.2 x.2.2.2.2.1.length) ((s61 (rdL u0a x.2.2.2.2.1 x.2.2.2.2.2.2.toNat)).bind fun y9=>cond (Nat.ble (x.1.length+(z7w y9.1).length) z7z) (g (x.1++(z7w y9.1),x.2.1,x.2.2.1,x.2.2.2.1,x.2.2.2.2.1,x.2.2.2.2.2.1,i64.wrap (x.2.2.2.2.2.2+1))) none) none) (some (.inl (x.1,x.2.1,x.2.2.1,x.2.2.2.1)))
def t0q:=lpW _ _ t6a
theorem r4r x:t0q x=t6a t0q x:=zW r3t 173 f173 17 94 x
def t0m(g:c0c->Ht d5g)(x:c0c):Ht d5g:=cond (decide (x.2.2.2<x.2.2.1)) (cond (y4v x.2.2.2 x.2.1.length) ((u7w (x.1,([((rdL (Ty.sl u0a) x.2.1 x.2.2.2.toNat).length:Int)]:Ld))).bind fun y8=>(t0q (y8,x.2.1,x.2.2.1,x.2.2.2,rdL (Ty.sl u0a) x.2.1 x.2.2.2.toNat,((rdL (Ty.sl u0a) x.2.1 x.2.2.2.toNat).length:Int),0)).bind fun|.inl o11=>g (o11.1,o11.2.1,o11.2.2.1,i64.wrap (o11.2.2.2+1))|.inr z12=>some (.inr ())) none) (some (.inl x.1))
def t6t:=lpW _ _ t0m
theorem s5j x:t6t x=t0m t6t x:=zW r3s 173 f173 13 94 x
def q4r(x:u9r):Ht r0d:=(u3m x).bind fun y1=>cond (!y1) (some ((⟨#[]⟩:Hs),false)) ((u7w (([]:Ld),([x.2.2.2.1,x.2.2.2.2,(x.1.length:Int)]:Ld))).bind fun y2=>(t15 (x,y2,x.1,(x.1.length:Int),0)).bind fun|.inl o7=>((t6t (o7.2,([o7.1.2.1,o7.1.2.2.1]:Hu p1v),(([o7.1.2.1,o7.1.2.2.1]:Hu p1v).length:Int),0)).bind fun|.inl o14=>some (y7s o14,true)|.inr z15=>none)|.inr z16=>none)
theorem o2d:r1l=q4r:=zC 173 func173
def r5y(x:c03):Lj:=zK 338 x
def q0h(g:c0y->Ht (d5k⊕Unit))(x:c0y):Ht (d5k⊕Unit):=cond (decide (x.2.2.2<8)) (cond (decide ((Int.tmod x.1 (2:Int))=1)) (g (u32.wrap ((BitVec.ofInt u32.bits (u32.wrap (Int.tdiv x.1 (2:Int)))^^^BitVec.ofInt u32.bits (3558460437:Int)).toNat:Int),x.2.1,x.2.2.1,i64.wrap (x.2.2.2+1))) (g (u32.wrap (Int.tdiv x.1 (2:Int)),x.2.1,x.2.2.1,i64.wrap (x.2.2.2+1)))) (some (.inl (x.1,x.2.1,x.2.2.1)))
def s2e:=lpW _ _ q0h
theorem o0n x:s2e x=q0h s2e x:=zW q13 338 f338 6 33 x
def s1i(g:d5k->Ht j8i)(x:d5k):Ht j8i:=cond (decide (x.2.2<(x.2.1.size:Int))) (cond (y4v x.2.2 x.2.1.size) ((s2e (u32.wrap ((BitVec.ofInt u32.bits x.1^^^BitVec.ofInt u32.bits (u32.wrap ((x.2.1.data.toList.getD x.2.2.toNat 0).toNat:Int))).toNat:Int),x.2.1,x.2.2,0)).bind fun|.inl o2=>g (o2.1,o2.2.1,i64.wrap (o2.2.2+1))|.inr z3=>some (.inr ())) none) (some (.inl x.1))
def s2d:=lpW _ _ s1i
theorem q29 x:s2d x=s1i s2d x:=zW q12 338 f338 2 33 x
def q9a(x:c03):Lj:=(s2d (x.1,x.2,0)).bind fun|.inl o5=>some o5|.inr z6=>none
theorem o5z:r5y=q9a:=zC 338 func338
def p8o(x:Hs):Lj:=zK 256 x
def p7q(x:Hs):Lj:=(r5y (4294967295,x)).bind fun y1=>some y1
theorem j3j:p8o=p7q:=zC 256 func256
def t92(x:Hs):Ht r0d:=zK 175 x
def p25(x:Hs):Ht r0d:=cond (decide ((x.size:Int)>(20000:Int))) (some ((⟨#[]⟩:Hs),false)) ((p8o x).bind fun y1=>cond (decide (x.size+(y7s ([u8.wrap (Int.fdiv y1 (2^(min (24:Int).toNat u32.bits))),u8.wrap (Int.fdiv y1 (2^(min (16:Int).toNat u32.bits))),u8.wrap (Int.fdiv y1 (2^(min (8:Int).toNat u32.bits))),u8.wrap y1]:Ld)).size<=140737488355328)) (some (x++(y7s ([u8.wrap (Int.fdiv y1 (2^(min (24:Int).toNat u32.bits))),u8.wrap (Int.fdiv y1 (2^(min (16:Int).toNat u32.bits))),u8.wrap (Int.fdiv y1 (2^(min (8:Int).toNat u32.bits))),u8.wrap y1]:Ld)),true)) none)
theorem j0a:t92=p25:=zC 175 func175
def u43(x:Z54):Ht r0d:=zK 103 x
def r6n(x:Z54):Ht r0d:=(s41 x).bind fun y1=>cond (!y1) (some ((⟨#[]⟩:Hs),false)) (cond (decide (x.1=3)) ((u8p (([(u8.wrap x.1)]:Ld),([x.2.2.1]:Lg))).bind fun y2=>(t0i (y2,x.2.2.2.1)).bind fun y3=>(t92 (y7s y3)).bind fun y4=>some y4) (cond (decide (x.1=4)) ((r1l x.2.2.2.2).bind fun y5=>cond (Nat.ble (([(u8.wrap x.1)]:Ld).length+(z7w y5.1).length) z7z) ((t92 (y7s (([(u8.wrap x.1)]:Ld)++(z7w y5.1)))).bind fun y6=>some y6) none) ((s61 x.2.1).bind fun y7=>cond (Nat.ble (([(u8.wrap x.1)]:Ld).length+(z7w y7.1).length) z7z) ((t92 (y7s (([(u8.wrap x.1)]:Ld)++(z7w y7.1)))).bind fun y8=>some y8) none)))
theorem p6e:u43=r6n:=zC 103 func103
def r1r(x:Hs):Ht r0d:=zK 248 x
def q44(x:Hs):Ht r0d:=cond (decide ((x.size:Int)<(4:Int))) (some ((⟨#[]⟩:Hs),false)) (cond (decide (0<=(0:Int))&&decide ((0:Int)<=(i64.wrap ((x.size:Int) - (4:Int))))&&decide ((i64.wrap ((x.size:Int) - (4:Int)))<=(x.size:Int))) ((t92 (x.extract (0:Int).toNat (i64.wrap ((x.size:Int) - (4:Int))).toNat)).bind fun y1=>((cond (!y1.2) (some true) (some (!z7q y1.1 x))):La).bind fun j2=>cond j2 (some ((⟨#[]⟩:Hs),false)) (some (x.extract (0:Int).toNat (i64.wrap ((x.size:Int) - (4:Int))).toNat,true))) none)
theorem o2r:r1r=q44:=zC 248 func248
def u2o(x:p2o):Ht c0n:=zK 249 x
def r3i(x:p2o):Ht c0n:=(s2u (x.1,x.2.1)).bind fun y1=>((cond x.2.2 (some true) (some (!y1.2.2))):La).bind fun j2=>cond j2 (some ((⟨#[]⟩:Hs),x.1,x.2.1,true)) (some (y1.1,x.1,y1.2.1,x.2.2))
theorem p4g:u2o=r3i:=zC 249 func249
def u8e(x:p2o):Ht (Bool×p2o):=zK 250 x
def r3h(x:p2o):Ht (Bool×p2o):=((cond x.2.2 (some true) ((u03 (x.2.1,0,i64.wrap ((x.1.size:Int) - (1:Int)))).bind fun y1=>cond (!y1) (some true) (cond (y4v x.2.1 x.1.size) (some (decide (((x.1.data.toList.getD x.2.1.toNat 0).toNat:Int)>(1:Int)))) none))):La).bind fun j2=>cond j2 (some (false,x.1,x.2.1,true)) (cond (y4v (i64.wrap ((i64.wrap (x.2.1+1)) - 1)) x.1.size) (some (decide (((x.1.data.toList.getD (i64.wrap ((i64.wrap (x.2.1+1)) - 1)).toNat 0).toNat:Int)=(1:Int)),x.1,i64.wrap (x.2.1+1),x.2.2)) none)
theorem p4f:u8e=r3h:=zC 250 func250
def u1l(x:p2o):Ht (Int×p2o):=zK 331 x
def r6t(x:p2o):Ht (Int×p2o):=(s60 (x.1,x.2.1)).bind fun y1=>((cond x.2.2 (some true) (some (!y1.2.2))):La).bind fun j2=>cond j2 (some (0,x.1,x.2.1,true)) (some (y1.1,x.1,y1.2.1,x.2.2))
theorem p6k:u1l=r6t:=zC 331 func331
def s9h(x:d8k):Ht d8k:=zK 333 x
def s84(x:d8k):Ht d8k:=(u2o x.1).bind fun y1=>(u2o y1.2).bind fun y2=>(u8e y2.2).bind fun y3=>(u1l y3.2).bind fun y4=>cond (Nat.ble (x.2.1.length+([(y1.1,y2.1,y3.1,y4.1)]:Lf).length) z7z) (some (y4.2,x.2.1++([(y1.1,y2.1,y3.1,y4.1)]:Lf),x.2.2)) none
theorem q8i:s9h=s84:=zC 333 func333
def u3u(x:Z99):Ht Z99:=zK 10016 x
def u19(g:Z85->Ht (Z99⊕Unit))(x:Z85):Ht (Z99⊕Unit):=((cond (decide (x.2.2.2<x.2.2.1)) (some (!x.1.2.2)) (some false)):La).bind fun j2=>cond j2 ((s9h (x.1,x.2.1.2)).bind fun y3=>g (y3.1,((),y3.2),x.2.2.1,i64.wrap (x.2.2.2+1))) (some (.inl (x.1,(),x.2.1.2)))
def u1b:=lpW _ _ u19
theorem u71 x:u1b x=u19 u1b x:=zW u7s 10016 f332 2 22 x
def u8y(x:Z99):Ht Z99:=(u1l x.1).bind fun y1=>(u1b (y1.2,((),x.2.2),y1.1,0)).bind fun|.inl o5=>some (o5.1,(),o5.2.2)|.inr z6=>none
theorem s0g:u3u=u8y:=zC 10016 func332
def r1v(x:d7m):Ht d7m:=zK 336 x
def r0u(x:d7m):Ht d7m:=(u2o x.2).bind fun y1=>(u2o y1.2).bind fun y2=>cond (Nat.ble (x.1.2.2.2.2.1.length+([(y1.1,y2.1)]:Li).length) z7z) (some ((x.1.1,x.1.2.1,x.1.2.2.1,x.1.2.2.2.1,x.1.2.2.2.2.1++([(y1.1,y2.1)]:Li),x.1.2.2.2.2.2),y2.2)) none
theorem p10:r1v=r0u:=zC 336 func336
def u4d(x:d7k):Ht d7k:=zK 10018 x
def u2h(g:c3m->Ht (d7k⊕Unit))(x:c3m):Ht (d7k⊕Unit):=((cond (decide (x.2.2.2<x.2.2.1)) (some (!x.1.2.2)) (some false)):La).bind fun j2=>cond j2 ((r1v (x.2.1.1,x.1)).bind fun y3=>g (y3.2,(y3.1,()),x.2.2.1,i64.wrap (x.2.2.2+1))) (some (.inl (x.1,x.2.1.1,())))
def u1f:=lpW _ _ u2h
theorem u8f x:u1f x=u2h u1f x:=zW u8c 10018 f332 2 22 x
def u89(x:d7k):Ht d7k:=(u1l x.1).bind fun y1=>(u1f (y1.2,(x.2.1,()),y1.1,0)).bind fun|.inl o5=>some (o5.1,o5.2.1,())|.inr z6=>none
theorem s0w:u4d=u89:=zC 10018 func332
def r1w(x:d8l):Ht d8l:=zK 337 x
def r0v(x:d8l):Ht d8l:=(u2o x.1).bind fun y1=>(u2o y1.2).bind fun y2=>(u8e y2.2).bind fun y3=>cond (Nat.ble (x.2.2.2.2.2.2.1.length+([(y1.1,y2.1,y3.1)]:Lh).length) z7z) (some (y3.2,x.2.1,x.2.2.1,x.2.2.2.1,x.2.2.2.2.1,x.2.2.2.2.2.1,x.2.2.2.2.2.2.1++([(y1.1,y2.1,y3.1)]:Lh),x.2.2.2.2.2.2.2)) none
theorem p11:r1w=r0v:=zC 337 func337
def u4e(x:d7j):Ht d7j:=zK 10019 x
def u2i(g:c3n->Ht (d7j⊕Unit))(x:c3n):Ht (d7j⊕Unit):=((cond (decide (x.2.2.2<x.2.2.1)) (some (!x.1.2.2)) (some false)):La).bind fun j2=>cond j2 ((r1w (x.1,x.2.1.2)).bind fun y3=>g (y3.1,((),y3.2),x.2.2.1,i64.wrap (x.2.2.2+1))) (some (.inl (x.1,(),x.2.1.2)))
def u1g:=lpW _ _ u2i
theorem u8g x:u1g x=u2i u1g x:=zW u8d 10019 f332 2 22 x
def u9a(x:d7j):Ht d7j:=(u1l x.1).bind fun y1=>(u1g (y1.2,((),x.2.2),y1.1,0)).bind fun|.inl o5=>some (o5.1,(),o5.2.2)|.inr z6=>none
theorem s0x:u4e=u9a:=zC 10019 func332
def t2s(x:p2o):Ht d7m:=zK 252 x
def r6u(x:p2o):Ht d7m:=(u1l x).bind fun y1=>(u1l y1.2).bind fun y2=>(u1l y2.2).bind fun y3=>(u1l y3.2).bind fun y4=>(u4d (y4.2,(y1.1,y2.1,y3.1,y4.1,([]:Li),([]:Lh),false,(⟨#[]⟩:Hs)),())).bind fun y5=>(u4e (y5.1,(),y5.2.1)).bind fun y6=>(u8e y6.1).bind fun y7=>(u2o y7.2).bind fun y8=>cond y8.2.2.2 (some ((y6.2.2.1,y6.2.2.2.1,y6.2.2.2.2.1,y6.2.2.2.2.2.1,y6.2.2.2.2.2.2.1,y6.2.2.2.2.2.2.2.1,y7.1,y8.1),y8.2.1,y8.2.2.1,true)) ((u6q (y6.2.2.1,y6.2.2.2.1,y6.2.2.2.2.1,y6.2.2.2.2.2.1,y6.2.2.2.2.2.2.1,y6.2.2.2.2.2.2.2.1,y7.1,y8.1)).bind fun y9=>some ((y6.2.2.1,y6.2.2.2.1,y6.2.2.2.2.1,y6.2.2.2.2.2.1,y6.2.2.2.2.2.2.1,y6.2.2.2.2.2.2.2.1,y7.1,y8.1),y8.2.1,y8.2.2.1,!y9))
theorem p6l:t2s=r6u:=zC 252 func252
def s9i(x:d2k):Ht d2k:=zK 334 x
def s85(x:d2k):Ht d2k:=(t2s x.2).bind fun y1=>cond (Nat.ble (x.1.2.1.length+([y1.1]:Lc).length) z7z) (some ((x.1.1,x.1.2.1++([y1.1]:Lc),x.1.2.2),y1.2)) none
theorem q8j:s9i=s85:=zC 334 func334
def u3v(x:j92):Ht j92:=zK 10017 x
def u2a(g:Z84->Ht (j92⊕Unit))(x:Z84):Ht (j92⊕Unit):=((cond (decide (x.2.2.2<x.2.2.1)) (some (!x.1.2.2)) (some false)):La).bind fun j2=>cond j2 ((s9i (x.2.1.1,x.1)).bind fun y3=>g (y3.2,(y3.1,()),x.2.2.1,i64.wrap (x.2.2.2+1))) (some (.inl (x.1,x.2.1.1,())))
def u1c:=lpW _ _ u2a
theorem u72 x:u1c x=u2a u1c x:=zW u7t 10017 f332 2 22 x
def u8z(x:j92):Ht j92:=(u1l x.1).bind fun y1=>(u1c (y1.2,(x.2.1,()),y1.1,0)).bind fun|.inl o5=>some (o5.1,o5.2.1,())|.inr z6=>none
theorem s0h:u3v=u8z:=zC 10017 func332
def s9j(x:d2k):Ht d2k:=zK 335 x
def s86(x:d2k):Ht d2k:=(t2s x.2).bind fun y1=>cond (Nat.ble (x.1.2.2.1.length+([y1.1]:Lc).length) z7z) (some ((x.1.1,x.1.2.1,x.1.2.2.1++([y1.1]:Lc),x.1.2.2.2),y1.2)) none
theorem q8k:s9j=s86:=zC 335 func335
def u3w(x:j92):Ht j92:=zK 10020 x
def u2b(g:Z84->Ht (j92⊕Unit))(x:Z84):Ht (j92⊕Unit):=((cond (decide (x.2.2.2<x.2.2.1)) (some (!x.1.2.2)) (some false)):La).bind fun j2=>cond j2 ((s9j (x.2.1.1,x.1)).bind fun y3=>g (y3.2,(y3.1,()),x.2.2.1,i64.wrap (x.2.2.2+1))) (some (.inl (x.1,x.2.1.1,())))
def u1d:=lpW _ _ u2b
theorem u73 x:u1d x=u2b u1d x:=zW u7u 10020 f332 2 22 x
def u80(x:j92):Ht j92:=(u1l x.1).bind fun y1=>(u1d (y1.2,(x.2.1,()),y1.1,0)).bind fun|.inl o5=>some (o5.1,o5.2.1,())|.inr z6=>none
theorem s0i:u3w=u80:=zC 10020 func332
def s46(x:p2o):Ht d2k:=zK 251 x
def r3g(x:p2o):Ht d2k:=(u1l x).bind fun y1=>(u1l y1.2).bind fun y2=>(u3u (y2.2,(),([]:Lf),([]:Lc),([]:Lc),y1.1,y2.1)).bind fun y3=>(u3v (y3.1,y3.2.2,())).bind fun y4=>(u3w (y4.1,y4.2.1,())).bind fun y5=>cond y5.1.2.2 (some (y5.2.1,y5.1.1,y5.1.2.1,true)) ((u3m y5.2.1).bind fun y6=>some (y5.2.1,y5.1.1,y5.1.2.1,!y6))
theorem p4e:s46=r3g:=zC 251 func251
def s5z(x:Hs):Ht Z51:=zK 168 x
def r6l(x:Hs):Ht Z51:=(r1r x).bind fun y1=>((cond (!y1.2) (some true) (some (z7q y1.1 (⟨#[]⟩:Hs)))):La).bind fun j2=>cond j2 (some ((0,(0,0,0,0,([]:Li),([]:Lh),false,(⟨#[]⟩:Hs)),(⟨#[]⟩:Hs),false,([]:Lf),([]:Lc),([]:Lc),0,0),false)) (cond (y4v (0:Int) y1.1.size) (cond (decide ((i64.wrap ((y1.1.data.toList.getD (0:Int).toNat 0).toNat:Int))=3)) ((u2o (y1.1,1,false)).bind fun y3=>(u8e y3.2).bind fun y4=>(u43 (i64.wrap ((y1.1.data.toList.getD (0:Int).toNat 0).toNat:Int),(0,0,0,0,([]:Li),([]:Lh),false,(⟨#[]⟩:Hs)),y3.1,y4.1,([]:Lf),([]:Lc),([]:Lc),0,0)).bind fun y5=>((cond y4.2.2.2 (some true) (cond (!y5.2) (some true) (some (!z7q y5.1 x)))):La).bind fun j6=>cond j6 (some ((0,(0,0,0,0,([]:Li),([]:Lh),false,(⟨#[]⟩:Hs)),(⟨#[]⟩:Hs),false,([]:Lf),([]:Lc),([]:Lc),0,0),false)) (some ((i64.wrap ((y1.1.data.toList.getD (0:Int).toNat 0).toNat:Int),(0,0,0,0,([]:Li),([]:Lh),false,(⟨#[]⟩:Hs)),y3.1,y4.1,([]:Lf),([]:Lc),([]:Lc),0,0),true))) (cond (decide ((i64.wrap ((y1.1.data.toList.getD (0:Int).toNat 0).toNat:Int))=4)) ((s46 (y1.1,1,false)).bind fun y7=>(u43 (i64.wrap ((y1.1.data.toList.getD (0:Int).toNat 0).toNat:Int),(0,0,0,0,([]:Li),([]:Lh),false,(⟨#[]⟩:Hs)),(⟨#[]⟩:Hs),false,y7.1)).bind fun y8=>((cond y7.2.2.2 (some true) (cond (!y8.2) (some true) (some (!z7q y8.1 x)))):La).bind fun j9=>cond j9 (some ((0,(0,0,0,0,([]:Li),([]:Lh),false,(⟨#[]⟩:Hs)),(⟨#[]⟩:Hs),false,([]:Lf),([]:Lc),([]:Lc),0,0),false)) (some ((i64.wrap ((y1.1.data.toList.getD (0:Int).toNat 0).toNat:Int),(0,0,0,0,([]:Li),([]:Lh),false,(⟨#[]⟩:Hs)),(⟨#[]⟩:Hs),false,y7.1),true))) ((t2s (y1.1,1,false)).bind fun y10=>(u43 (i64.wrap ((y1.1.data.toList.getD (0:Int).toNat 0).toNat:Int),y10.1,(⟨#[]⟩:Hs),false,([]:Lf),([]:Lc),([]:Lc),0,0)).bind fun y11=>((cond y10.2.2.2 (some true) (cond (!y11.2) (some true) (some (!z7q y11.1 x)))):La).bind fun j12=>cond j12 (some ((0,(0,0,0,0,([]:Li),([]:Lh),false,(⟨#[]⟩:Hs)),(⟨#[]⟩:Hs),false,([]:Lf),([]:Lc),([]:Lc),0,0),false)) (some ((i64.wrap ((y1.1.data.toList.getD (0:Int).toNat 0).toNat:Int),y10.1,(⟨#[]⟩:Hs),false,([]:Lf),([]:Lc),([]:Lc),0,0),true))))) none)
theorem p6c:s5z=r6l:=zC 168 func168
def s2v(x:d0u):La:=zK 120 x
def q0u(x:d0u):La:=some (z7q x.1.2.2.2.2.2.2.2 x.2)
theorem p9j:s2v=q0u:=zC 120 func120
def u6u(x:d7q):Lj:=zK 10013 x
def u5c(g:d7n->Ht r6g)(x:d7n):Ht r6g:=cond (decide (x.2.2.2<x.2.2.1)) (cond (y4v x.2.2.2 x.1.length) ((s2v (rdL u0a x.1 x.2.2.2.toNat,x.2.1)).bind fun y1=>cond y1 (some (.inr x.2.2.2)) (g (x.1,x.2.1,x.2.2.1,i64.wrap (x.2.2.2+1)))) none) (some (.inl ()))
def u1q:=lpW _ _ u5c
theorem t27 x:u1q x=u5c u1q x:=zW u5m 10013 f99 2 19 x
def u6l(x:d7q):Lj:=(u1q (x.1,x.2,(x.1.length:Int),0)).bind fun|.inl o3=>some (- 1:Int)|.inr z4=>some z4
theorem t5d:u6u=u6l:=zC 10013 func99
def u2e(x:d2m):Lj:=zK 67 x
def q89(x:d2m):Lj:=(u6u (x.1.2.2.1,x.2)).bind fun y1=>some y1
theorem o5y:u2e=q89:=zC 67 func67
def r1o(x:s88):Lj:=zK 190 x
def t8p(g:d8p->Ht j8i)(x:d8p):Ht j8i:=cond (decide (x.2.2.2<x.2.2.1)) (cond (y4v x.2.2.2 x.2.1.length) (g (y8y x.1 (rdL u0a x.2.1 x.2.2.2.toNat).2.2.1,x.2.1,x.2.2.1,i64.wrap (x.2.2.2+1))) none) (some (.inl x.1))
def t9i:=lpW _ _ t8p
theorem r8h x:t9i x=t8p t9i x:=zW r7g 190 f190 3 22 x
def q4y(x:s88):Lj:=(t9i (x.1.2.2.2.1,x.2,(x.2.length:Int),0)).bind fun|.inl o2=>some o2|.inr z3=>none
theorem o2k:r1o=q4y:=zC 190 func190
def s8n(x:(Hs×o01)):Lj:=zK 268 x
def t6e(g:c4x->Ht j8i)(x:c4x):Ht j8i:=cond (decide (x.2.2.2.2<x.2.2.2.1)) (cond (y4v x.2.2.2.2 x.2.2.1.length) (cond (z7q (rdL u0h x.2.2.1 x.2.2.2.2.toNat).1 x.1) (g (x.1,i64.wrap (x.2.1+1),x.2.2.1,x.2.2.2.1,i64.wrap (x.2.2.2.2+1))) (g (x.1,x.2.1,x.2.2.1,x.2.2.2.1,i64.wrap (x.2.2.2.2+1)))) none) (some (.inl x.2.1))
def t0r:=lpW _ _ t6e
theorem r4v x:t0r x=t6e t0r x:=zW r3x 268 f268 3 21 x
def q0z(x:(Hs×o01)):Lj:=(t0r (x.1,0,x.2,(x.2.length:Int),0)).bind fun|.inl o2=>some o2|.inr z3=>none
theorem p9p:s8n=q0z:=zC 268 func268
def r50(x:d73):Ht o01:=zK 192 x
def s1m(g:c4d->Ht c0z)(x:c4d):Ht c0z:=cond (decide (x.2.2.2.2.2<x.2.2.2.2.1)) (cond (y4v x.2.2.2.2.2 x.2.2.2.1.length) (((cond (decide ((rdL u0h x.2.2.2.1 x.2.2.2.2.2.toNat).2.2.2>x.2.1)) (some true) ((s93 (x.1,(rdL u0h x.2.2.2.1 x.2.2.2.2.2.toNat).1,x.2.1)).bind fun y1=>some (decide (y1=x.2.2.2.2.2)))):La).bind fun j2=>cond j2 (cond (Nat.ble (x.2.2.1.length+([(rdL u0h x.2.2.2.1 x.2.2.2.2.2.toNat)]:Lf).length) z7z) (g (x.1,x.2.1,x.2.2.1++([(rdL u0h x.2.2.2.1 x.2.2.2.2.2.toNat)]:Lf),x.2.2.2.1,x.2.2.2.2.1,i64.wrap (x.2.2.2.2.2+1))) none) (g (x.1,x.2.1,x.2.2.1,x.2.2.2.1,x.2.2.2.2.1,i64.wrap (x.2.2.2.2.2+1)))) none) (some (.inl (x.2.1,x.2.2.1)))
def t4r:=lpW _ _ s1m
theorem q3d x:t4r x=s1m t4r x:=zW q17 192 f192 3 66 x
def t8t(g:c4e->Ht d5f)(x:c4e):Ht d5f:=cond (decide (x.2.2.2.2.2<x.2.2.2.2.1)) (cond (y4v x.2.2.2.2.2 x.2.2.2.1.length) (cond (decide ((rdL u0h x.2.2.2.1 x.2.2.2.2.2.toNat).2.2.2>x.1)) (cond (Nat.ble (x.2.2.1.length+([(rdL u0h x.2.2.2.1 x.2.2.2.2.2.toNat)]:Lf).length) z7z) (g (x.1,x.2.1,x.2.2.1++([(rdL u0h x.2.2.2.1 x.2.2.2.2.2.toNat)]:Lf),x.2.2.2.1,x.2.2.2.2.1,i64.wrap (x.2.2.2.2.2+1))) none) (cond (!(rdL u0h x.2.2.2.1 x.2.2.2.2.2.toNat).2.2.1) (cond (Nat.ble (x.2.2.1.length+([(rdL u0h x.2.2.2.1 x.2.2.2.2.2.toNat)]:Lf).length) z7z) (g (x.1,x.2.1,x.2.2.1++([(rdL u0h x.2.2.2.1 x.2.2.2.2.2.toNat)]:Lf),x.2.2.2.1,x.2.2.2.2.1,i64.wrap (x.2.2.2.2.2+1))) none) ((s8n ((rdL u0h x.2.2.2.1 x.2.2.2.2.2.toNat).1,x.2.1)).bind fun y5=>cond (decide (y5>1)) (cond (Nat.ble (x.2.2.1.length+([(rdL u0h x.2.2.2.1 x.2.2.2.2.2.toNat)]:Lf).length) z7z) (g (x.1,x.2.1,x.2.2.1++([(rdL u0h x.2.2.2.1 x.2.2.2.2.2.toNat)]:Lf),x.2.2.2.1,x.2.2.2.2.1,i64.wrap (x.2.2.2.2.2+1))) none) (g (x.1,x.2.1,x.2.2.1,x.2.2.2.1,x.2.2.2.2.1,i64.wrap (x.2.2.2.2.2+1)))))) none) (some (.inl x.2.2.1))
def t9l:=lpW _ _ t8t
theorem r8l x:t9l x=t8t t9l x:=zW r7k 192 f192 11 66 x
def q9d(x:d73):Ht o01:=(t4r (x.1,x.2,([]:Lf),x.1,(x.1.length:Int),0)).bind fun|.inl o4=>((t9l (o4.1,o4.2,([]:Lf),o4.2,(o4.2.length:Int),0)).bind fun|.inl o7=>some o7|.inr z8=>none)|.inr z9=>none
theorem o52:r50=q9d:=zC 192 func192
def t2p(x:j55):La:=zK 191 x
def o1m(x:j55):La:=some (decide (x.1.2.2.2.1<=x.2))
theorem o2q:t2p=o1m:=zC 191 func191
def u7d(x:j56):Lj:=zK 10006 x
def u5x(g:d2o->Ht r6g)(x:d2o):Ht r6g:=cond (decide (x.2.2.2<x.2.2.1)) (cond (y4v x.2.2.2 x.1.length) ((t2p (rdL u0a x.1 x.2.2.2.toNat,x.2.1)).bind fun y1=>cond y1 (some (.inr x.2.2.2)) (g (x.1,x.2.1,x.2.2.1,i64.wrap (x.2.2.2+1)))) none) (some (.inl ()))
def u1z:=lpW _ _ u5x
theorem t4i x:u1z x=u5x u1z x:=zW u57 10006 f99 2 19 x
def u67(x:j56):Lj:=(u1z (x.1,x.2,(x.1.length:Int),0)).bind fun|.inl o3=>some (- 1:Int)|.inr z4=>some z4
theorem t56:u7d=u67:=zC 10006 func99
def u2w(x:j56):Ht p1v:=zK 10005 x
def u49(g:d2o->Ht d5h)(x:d2o):Ht d5h:=cond (decide (x.2.2.2<(x.1.length:Int))) (cond (y4v x.2.2.2 x.1.length) ((t2p (rdL u0a x.1 x.2.2.2.toNat,x.2.1)).bind fun y2=>cond (!y2) (cond (y4v x.2.2.1 x.1.length) (g (x.1.set x.2.2.1.toNat (rdL u0a x.1 x.2.2.2.toNat),x.2.1,i64.wrap (x.2.2.1+1),i64.wrap (x.2.2.2+1))) none) (g (x.1,x.2.1,x.2.2.1,i64.wrap (x.2.2.2+1)))) none) (some (.inl (x.1,x.2.2.1)))
def u1n:=lpW _ _ u49
theorem t24 x:u1n x=u49 u1n x:=zW u5j 10005 f188 5 42 x
def u6i(x:j56):Ht p1v:=(u7d x).bind fun y1=>cond (decide (y1=(- 1:Int))) (some x.1) ((u1n (x.1,x.2,y1,i64.wrap (y1+1))).bind fun|.inl o4=>cond (decide (0<=o4.2)&&decide (o4.2<=(o4.1.length:Int))&&decide ((o4.1.length:Int)<=(o4.1.length:Int))) (cond (decide (0<=(0:Int))&&decide ((0:Int)<=o4.2)&&decide (o4.2<=((o4.1.take o4.2.toNat++List.replicate ((o4.1.length:Int).toNat - o4.2.toNat) u0a.zero++o4.1.drop (o4.2.toNat+((o4.1.length:Int).toNat - o4.2.toNat))).length:Int))) (some ((o4.1.take o4.2.toNat++List.replicate ((o4.1.length:Int).toNat - o4.2.toNat) u0a.zero++o4.1.drop (o4.2.toNat+((o4.1.length:Int).toNat - o4.2.toNat))).take (o4.2.toNat - (0:Int).toNat))) none) none|.inr z5=>none)
theorem t5a:u2w=u6i:=zC 10005 func188
def u2l(x:s88):Ht u9r:=zK 118 x
def p27(x:s88):Ht u9r:=(u14 x.1).bind fun y1=>(r1o x).bind fun y2=>(u2w (y1.2.1,y2)).bind fun y3=>(r50 (x.1.1,y2)).bind fun y4=>some (y4,y3,y1.2.2)
theorem j0c:u2l=p27:=zC 118 func118
def r1m(x:Z76):La:=zK 387 x
def q4s(x:Z76):La:=((cond (decide (x.1.2.1=3)) (some (decide (x.1.2.2.2.1<=x.2.2.2.1))) (some false)):La).bind fun j1=>some j1
theorem o2e:r1m=q4s:=zC 387 func387
def r9u(x:Z76):La:=zK 349 x
def p2u(x:Z76):La:=cond (!decide (x.1.1=x.2.1)) ((r1m x).bind fun y1=>cond (!y1) ((r1m (x.2,x.1)).bind fun y2=>some (!y2)) (some false)) (some false)
theorem o9z:r9u=p2u:=zC 349 func349
def r5z(x:c0o):La:=zK 350 x
def s1l(g:c31->Ht (c0h⊕Bool))(x:c31):Ht (c0h⊕Bool):=cond (decide (x.2.2.2.2.2.2.2<x.2.2.2.2.2.2.1)) (cond (y4v x.2.2.2.2.2.2.2 x.2.2.2.2.2.1.length) ((s6y (x.2.1,(rdL u12 x.2.2.2.2.2.1 x.2.2.2.2.2.2.2.toNat).1)).bind fun y1=>cond y1 (some (.inr true)) (g (x.1,x.2.1,x.2.2.1,x.2.2.2.1,x.2.2.2.2.1,x.2.2.2.2.2.1,x.2.2.2.2.2.2.1,i64.wrap (x.2.2.2.2.2.2.2+1)))) none) (some (.inl (x.1,x.2.2.1,x.2.2.2.1,x.2.2.2.2.1)))
def t4q:=lpW _ _ s1l
theorem q3c x:t4q x=s1l t4q x:=zW q16 350 f350 5 27 x
def s1k(g:c0h->Ht r0k)(x:c0h):Ht r0k:=cond (decide (x.2.2.2<x.2.2.1)) (cond (y4v x.2.2.2 x.2.1.length) ((t4q (x.1,rdL r0f x.2.1 x.2.2.2.toNat,x.2.1,x.2.2.1,x.2.2.2,x.1,(x.1.length:Int),0)).bind fun|.inl o3=>g (o3.1,o3.2.1,o3.2.2.1,i64.wrap (o3.2.2.2+1))|.inr z4=>some (.inr z4)) none) (some (.inl ()))
def s2f:=lpW _ _ s1k
theorem q3b x:s2f x=s1k s2f x:=zW q15 350 f350 2 27 x
def q9c(x:c0o):La:=(s2f (x.2,x.1,(x.1.length:Int),0)).bind fun|.inl o6=>some false|.inr z7=>some z7
theorem o51:r5z=q9c:=zC 350 func350
def u42(x:Z76):La:=zK 267 x
def p7i(x:Z76):La:=(((r9u x).bind fun y1=>cond y1 ((r5z (x.1.2.2.2.2.1,x.2.2.2.2.2.2.1)).bind fun y2=>some y2) (some false)):La).bind fun j3=>some j3
theorem j3b:u42=p7i:=zC 267 func267
def s6z(x:Z76):La:=zK 345 x
def q83(x:Z76):La:=(((t01 x.1).bind fun y1=>cond y1 ((u42 (x.2,x.1)).bind fun y2=>some y2) (some false)):La).bind fun j3=>some j3
theorem o5s:s6z=q83:=zC 345 func345
def u7n(x:s9t):Lj:=zK 10010 x
def u6g(g:j1x->Ht r6g)(x:j1x):Ht r6g:=cond (decide (x.2.2.2<x.2.2.1)) (cond (y4v x.2.2.2 x.1.length) ((s6z (rdL u0a x.1 x.2.2.2.toNat,x.2.1)).bind fun y1=>cond y1 (some (.inr x.2.2.2)) (g (x.1,x.2.1,x.2.2.1,i64.wrap (x.2.2.2+1)))) none) (some (.inl ()))
def u13:=lpW _ _ u6g
theorem t5s x:u13 x=u6g u13 x:=zW u6p 10010 f99 2 19 x
def u7m(x:s9t):Lj:=(u13 (x.1,x.2,(x.1.length:Int),0)).bind fun|.inl o3=>some (- 1:Int)|.inr z4=>some z4
theorem t7f:u7n=u7m:=zC 10010 func99
def u6a(x:s9t):La:=zK 10009 x
def u5y(x:s9t):La:=(u7n x).bind fun y1=>some (decide (y1>=0))
theorem t33:u6a=u5y:=zC 10009 func233
def s3r(x:s9t):La:=zK 10008 x
def s3l(x:s9t):La:=(u6a x).bind fun y1=>some y1
theorem r7a:s3r=s3l:=zC 10008 func153
def s7z(x:o1q):La:=zK 264 x
def p7p(x:o1q):La:=(s3r (x.2,x.1)).bind fun y1=>some y1
theorem j3i:s7z=p7p:=zC 264 func264
def u47(x:c46):Ht o01:=zK 348 x
theorem s9y:∀(x:c46),u47 x=y2u u0h x:=y6p (P:=Tryz.prog) (A:=A) (f:=348) (F:=y2u u0h) rfl
def s0k(x:d96):La:=zK 347 x
def s82(x:d96):La:=(u7v x).bind fun y1=>some (decide (y1>0))
theorem q8g:s0k=s82:=zC 347 func347
def u17(x:c4s):Lj:=zK 10007 x
def u01(g:c4i->Ht r6g)(x:c4i):Ht r6g:=cond (decide (x.2.2.2<x.2.2.1)) (cond (y4v x.2.2.2 x.1.length) ((s0k (rdL u0h x.1 x.2.2.2.toNat,x.2.1)).bind fun y1=>cond y1 (some (.inr x.2.2.2)) (g (x.1,x.2.1,x.2.2.1,i64.wrap (x.2.2.2+1)))) none) (some (.inl ()))
def u02:=lpW _ _ u01
theorem u25 x:u02 x=u01 u02 x:=zW u23 10007 f346 2 19 x
def u3k(x:c4s):Lj:=(u02 (x.1,x.2,(x.1.length:Int),0)).bind fun|.inl o3=>some (- 1:Int)|.inr z4=>some z4
theorem u92:u17=u3k:=zC 10007 func346
def t66(x:c0j):Ht o01:=zK 265 x
def t1t(g:c4r->Ht d5f)(x:c4r):Ht d5f:=cond (decide (x.2.2.2.2<x.2.2.2.1)) (cond (y4v x.2.2.2.2 x.2.2.1.length) ((u17 (x.2.1,(rdL u12 x.2.2.1 x.2.2.2.2.toNat).1,(rdL u12 x.2.2.1 x.2.2.2.2.toNat).2.1,(rdL u12 x.2.2.1 x.2.2.2.2.toNat).2.2,x.1)).bind fun y1=>cond (decide (y1<0)) ((u47 (x.2.1,(x.2.1.length:Int),([((rdL u12 x.2.2.1 x.2.2.2.2.toNat).1,(rdL u12 x.2.2.1 x.2.2.2.2.toNat).2.1,(rdL u12 x.2.2.1 x.2.2.2.2.toNat).2.2,x.1)]:Lf))).bind fun y2=>g (x.1,y2,x.2.2.1,x.2.2.2.1,i64.wrap (x.2.2.2.2+1))) ((u47 (x.2.1,y1,([((rdL u12 x.2.2.1 x.2.2.2.2.toNat).1,(rdL u12 x.2.2.1 x.2.2.2.2.toNat).2.1,(rdL u12 x.2.2.1 x.2.2.2.2.toNat).2.2,x.1)]:Lf))).bind fun y3=>g (x.1,y3,x.2.2.1,x.2.2.2.1,i64.wrap (x.2.2.2.2+1)))) none) (some (.inl x.2.1))
def t1x:=lpW _ _ t1t
theorem s9l x:t1x x=t1t t1x x:=zW s9c 265 f265 3 42 x
def r29(x:c0j):Ht o01:=cond (Nat.ble x.1.length z7z) ((t1x (x.2.2,x.1,x.2.1,(x.2.1.length:Int),0)).bind fun|.inl o5=>some o5|.inr z6=>none) none
theorem p36:t66=r29:=zC 265 func265
def t0h(x:Z76):La:=zK 266 x
def p85(x:Z76):La:=some (decide (x.1.1=x.2.1))
theorem p9o:t0h=p85:=zC 266 func266
def u6v(x:s9t):Lj:=zK 10012 x
def u5d(g:j1x->Ht r6g)(x:j1x):Ht r6g:=cond (decide (x.2.2.2<x.2.2.1)) (cond (y4v x.2.2.2 x.1.length) ((t0h (rdL u0a x.1 x.2.2.2.toNat,x.2.1)).bind fun y1=>cond y1 (some (.inr x.2.2.2)) (g (x.1,x.2.1,x.2.2.1,i64.wrap (x.2.2.2+1)))) none) (some (.inl ()))
def u1r:=lpW _ _ u5d
theorem t28 x:u1r x=u5d u1r x:=zW u5n 10012 f99 2 19 x
def u6m(x:s9t):Lj:=(u1r (x.1,x.2,(x.1.length:Int),0)).bind fun|.inl o3=>some (- 1:Int)|.inr z4=>some z4
theorem t5e:u6v=u6m:=zC 10012 func99
def u10(x:s9t):Ht p1v:=zK 10011 x
def u4u(g:j1x->Ht d5h)(x:j1x):Ht d5h:=cond (decide (x.2.2.2<(x.1.length:Int))) (cond (y4v x.2.2.2 x.1.length) ((t0h (rdL u0a x.1 x.2.2.2.toNat,x.2.1)).bind fun y2=>cond (!y2) (cond (y4v x.2.2.1 x.1.length) (g (x.1.set x.2.2.1.toNat (rdL u0a x.1 x.2.2.2.toNat),x.2.1,i64.wrap (x.2.2.1+1),i64.wrap (x.2.2.2+1))) none) (g (x.1,x.2.1,x.2.2.1,i64.wrap (x.2.2.2+1)))) none) (some (.inl (x.1,x.2.2.1)))
def u1i:=lpW _ _ u4u
theorem t2x x:u1i x=u4u u1i x:=zW u4z 10011 f188 5 42 x
def u51(x:s9t):Ht p1v:=(u6v x).bind fun y1=>cond (decide (y1=(- 1:Int))) (some x.1) ((u1i (x.1,x.2,y1,i64.wrap (y1+1))).bind fun|.inl o4=>cond (decide (0<=o4.2)&&decide (o4.2<=(o4.1.length:Int))&&decide ((o4.1.length:Int)<=(o4.1.length:Int))) (cond (decide (0<=(0:Int))&&decide ((0:Int)<=o4.2)&&decide (o4.2<=((o4.1.take o4.2.toNat++List.replicate ((o4.1.length:Int).toNat - o4.2.toNat) u0a.zero++o4.1.drop (o4.2.toNat+((o4.1.length:Int).toNat - o4.2.toNat))).length:Int))) (some ((o4.1.take o4.2.toNat++List.replicate ((o4.1.length:Int).toNat - o4.2.toNat) u0a.zero++o4.1.drop (o4.2.toNat+((o4.1.length:Int).toNat - o4.2.toNat))).take (o4.2.toNat - (0:Int).toNat))) none) none|.inr z5=>none)
theorem t35:u10=u51:=zC 10011 func188
def u9e(x:Z63):Ht u9r:=zK 187 x
def s1j(g:Z11->Ht (Z13⊕Unit))(x:Z11):Ht (Z13⊕Unit):=cond (decide (x.2.2.2.2.2.2<x.2.2.2.2.2.1)) (cond (y4v x.2.2.2.2.2.2 x.2.2.1.2.2.1.length) (cond (rdL u0a x.2.2.1.2.2.1 x.2.2.2.2.2.2.toNat).2.2.2.2.2.2.1 (cond (y4v x.2.2.2.2.2.2 x.2.2.1.2.2.1.length) (g (x.1,x.2.1,(x.2.2.1.1,x.2.2.1.2.1,x.2.2.1.2.2.1.set x.2.2.2.2.2.2.toNat ((rdL u0a x.2.2.1.2.2.1 x.2.2.2.2.2.2.toNat).1,(rdL u0a x.2.2.1.2.2.1 x.2.2.2.2.2.2.toNat).2.1,(rdL u0a x.2.2.1.2.2.1 x.2.2.2.2.2.2.toNat).2.2.1,(rdL u0a x.2.2.1.2.2.1 x.2.2.2.2.2.2.toNat).2.2.2.1,(rdL u0a x.2.2.1.2.2.1 x.2.2.2.2.2.2.toNat).2.2.2.2.1,(rdL u0a x.2.2.1.2.2.1 x.2.2.2.2.2.2.toNat).2.2.2.2.2.1,true,(rdL u0a x.2.2.1.2.2.1 x.2.2.2.2.2.2.toNat).2.2.2.2.2.2.2),x.2.2.1.2.2.2),x.2.2.2.1,(),x.2.2.2.2.2.1,i64.wrap (x.2.2.2.2.2.2+1))) none) ((u42 (rdL u0a x.2.2.1.2.2.1 x.2.2.2.2.2.2.toNat,x.2.2.2.1)).bind fun y5=>cond (y4v x.2.2.2.2.2.2 x.2.2.1.2.2.1.length) (g (x.1,x.2.1,(x.2.2.1.1,x.2.2.1.2.1,x.2.2.1.2.2.1.set x.2.2.2.2.2.2.toNat ((rdL u0a x.2.2.1.2.2.1 x.2.2.2.2.2.2.toNat).1,(rdL u0a x.2.2.1.2.2.1 x.2.2.2.2.2.2.toNat).2.1,(rdL u0a x.2.2.1.2.2.1 x.2.2.2.2.2.2.toNat).2.2.1,(rdL u0a x.2.2.1.2.2.1 x.2.2.2.2.2.2.toNat).2.2.2.1,(rdL u0a x.2.2.1.2.2.1 x.2.2.2.2.2.2.toNat).2.2.2.2.1,(rdL u0a x.2.2.1.2.2.1 x.2.2.2.2.2.2.toNat).2.2.2.2.2.1,y5,(rdL u0a x.2.2.1.2.2.1 x.2.2.2.2.2.2.toNat).2.2.2.2.2.2.2),x.2.2.1.2.2.2),x.2.2.2.1,(),x.2.2.2.2.2.1,i64.wrap (x.2.2.2.2.2.2+1))) none)) none) (some (.inl (x.1,x.2.1,x.2.2.1,x.2.2.2.1)))
def t0a:=lpW _ _ s1j
theorem q3a x:t0a x=s1j t0a x:=zW q14 187 f187 9 80 x
def q9b(x:Z63):Ht u9r:=(u14 x.1).bind fun y1=>(u2n x.2).bind fun y2=>cond x.2.2.2.2.2.2.2.1 ((t66 (x.1.1,x.2.2.2.2.2.2.1,i64.wrap (y1.2.2.2.1+1))).bind fun y3=>(u10 (y1.2.2.1,x.2)).bind fun y4=>(t0a (x.2,(([]:Lf),([]:Lc),([]:Lc),0,0),(y3,y1.2.1,y4,i64.wrap (y1.2.2.2.1+1),y1.2.2.2.2),(y2.1,3,y2.2.2.1,i64.wrap (x.1.2.2.2.1+1),y2.2.2.2.2.1,y2.2.2.2.2.2.1,true,(⟨#[]⟩:Hs)),(),(y4.length:Int),0)).bind fun|.inl o7=>cond (Nat.ble (o7.2.2.1.2.1.length+([o7.2.2.2]:Lc).length) z7z) (some (o7.2.2.1.1,o7.2.2.1.2.1++([o7.2.2.2]:Lc),o7.2.2.1.2.2.1,o7.2.2.1.2.2.2.1,y8x o7.2.2.1.2.2.2.2 (i64.wrap (o7.1.1+1)))) none|.inr z8=>none) ((s7z (x.2,x.1.2.1)).bind fun y9=>(t66 (x.1.1,x.2.2.2.2.2.2.1,i64.wrap (y1.2.2.2.1+1))).bind fun y10=>(u10 (y1.2.2.1,x.2)).bind fun y11=>(t0a (x.2,(([]:Lf),([]:Lc),([]:Lc),0,0),(y10,y1.2.1,y11,i64.wrap (y1.2.2.2.1+1),y1.2.2.2.2),(y2.1,3,y2.2.2.1,i64.wrap (x.1.2.2.2.1+1),y2.2.2.2.2.1,y2.2.2.2.2.2.1,y9,(⟨#[]⟩:Hs)),(),(y11.length:Int),0)).bind fun|.inl o14=>cond (Nat.ble (o14.2.2.1.2.1.length+([o14.2.2.2]:Lc).length) z7z) (some (o14.2.2.1.1,o14.2.2.1.2.1++([o14.2.2.2]:Lc),o14.2.2.1.2.2.1,o14.2.2.1.2.2.2.1,y8x o14.2.2.1.2.2.2.2 (i64.wrap (o14.1.1+1)))) none|.inr z15=>none)
theorem o50:u9e=q9b:=zC 187 func187
def u8o(x:Z59):Ht u9r:=zK 195 x
def t6d(g:Z7->Ht (Z9⊕Unit))(x:Z7):Ht (Z9⊕Unit):=cond (decide (x.2.2.2.2.2.2.2.2.2<x.2.2.2.2.2.2.2.2.1)) (cond (y4v x.2.2.2.2.2.2.2.2.2 x.2.2.2.1.2.2.1.length) (cond (y3i (rdL u0a x.2.2.2.1.2.2.1 x.2.2.2.2.2.2.2.2.2.toNat).2.2.2.2.2.2.2 x.1) (cond (Nat.ble (x.2.2.2.2.2.1.length+([(rdL u0a x.2.2.2.1.2.2.1 x.2.2.2.2.2.2.2.2.2.toNat)]:Lc).length) z7z) (g (x.1,x.2.1,x.2.2.1,x.2.2.2.1,x.2.2.2.2.1,x.2.2.2.2.2.1++([(rdL u0a x.2.2.2.1.2.2.1 x.2.2.2.2.2.2.2.2.2.toNat)]:Lc),x.2.2.2.2.2.2.1,(),x.2.2.2.2.2.2.2.2.1,i64.wrap (x.2.2.2.2.2.2.2.2.2+1))) none) (cond (Nat.ble (x.2.2.2.2.2.2.1.length+([(rdL u0a x.2.2.2.1.2.2.1 x.2.2.2.2.2.2.2.2.2.toNat)]:Lc).length) z7z) (g (x.1,x.2.1,x.2.2.1,x.2.2.2.1,x.2.2.2.2.1,x.2.2.2.2.2.1,x.2.2.2.2.2.2.1++([(rdL u0a x.2.2.2.1.2.2.1 x.2.2.2.2.2.2.2.2.2.toNat)]:Lc),(),x.2.2.2.2.2.2.2.2.1,i64.wrap (x.2.2.2.2.2.2.2.2.2+1))) none)) none) (some (.inl (x.2.1,x.2.2.1,x.2.2.2.1,x.2.2.2.2.1,x.2.2.2.2.2.1,x.2.2.2.2.2.2.1)))
def u76:=lpW _ _ t6d
theorem r4u x:u76 x=t6d u76 x:=zW r3w 195 f195 6 64 x
def q0q(x:Z59):Ht u9r:=(u14 x.1).bind fun y1=>(u2n x.2.1).bind fun y2=>cond x.2.1.2.2.2.2.2.2.1 ((u76 (x.2.2,x.2.1,(([]:Lf),([]:Lc),([]:Lc),0,0),y1,(y2.1,2,y2.2.2.1,y2.2.2.2.1,y2.2.2.2.2.1,y2.2.2.2.2.2.1,true,x.2.2),([]:Lc),([]:Lc),(),(y1.2.2.1.length:Int),0)).bind fun|.inl o4=>cond (Nat.ble (o4.2.2.2.2.1.length+([o4.2.2.2.1]:Lc).length) z7z) (cond (Nat.ble ((o4.2.2.2.2.1++([o4.2.2.2.1]:Lc)).length+o4.2.2.2.2.2.length) z7z) (some (o4.2.2.1.1,o4.2.2.1.2.1,(o4.2.2.2.2.1++([o4.2.2.2.1]:Lc))++o4.2.2.2.2.2,o4.2.2.1.2.2.2.1,y8x o4.2.2.1.2.2.2.2 (i64.wrap (o4.1.1+1)))) none) none|.inr z5=>none) ((s7z (x.2.1,x.1.2.1)).bind fun y6=>(u76 (x.2.2,x.2.1,(([]:Lf),([]:Lc),([]:Lc),0,0),y1,(y2.1,2,y2.2.2.1,y2.2.2.2.1,y2.2.2.2.2.1,y2.2.2.2.2.2.1,y6,x.2.2),([]:Lc),([]:Lc),(),(y1.2.2.1.length:Int),0)).bind fun|.inl o8=>cond (Nat.ble (o8.2.2.2.2.1.length+([o8.2.2.2.1]:Lc).length) z7z) (cond (Nat.ble ((o8.2.2.2.2.1++([o8.2.2.2.1]:Lc)).length+o8.2.2.2.2.2.length) z7z) (some (o8.2.2.1.1,o8.2.2.1.2.1,(o8.2.2.2.2.1++([o8.2.2.2.1]:Lc))++o8.2.2.2.2.2,o8.2.2.1.2.2.2.1,y8x o8.2.2.1.2.2.2.2 (i64.wrap (o8.1.1+1)))) none) none|.inr z9=>none)
theorem p9f:u8o=q0q:=zC 195 func195
def t0g(x:d0u):La:=zK 273 x
def p84(x:d0u):La:=some (z7q x.1.2.2.2.2.2.2.2 x.2)
theorem p9e:t0g=p84:=zC 273 func273
def u6t(x:d7q):Lj:=zK 10015 x
def u5b(g:d7n->Ht r6g)(x:d7n):Ht r6g:=cond (decide (x.2.2.2<x.2.2.1)) (cond (y4v x.2.2.2 x.1.length) ((t0g (rdL u0a x.1 x.2.2.2.toNat,x.2.1)).bind fun y1=>cond y1 (some (.inr x.2.2.2)) (g (x.1,x.2.1,x.2.2.1,i64.wrap (x.2.2.2+1)))) none) (some (.inl ()))
def u1p:=lpW _ _ u5b
theorem t26 x:u1p x=u5b u1p x:=zW u5l 10015 f99 2 19 x
def u6k(x:d7q):Lj:=(u1p (x.1,x.2,(x.1.length:Int),0)).bind fun|.inl o3=>some (- 1:Int)|.inr z4=>some z4
theorem t5c:u6t=u6k:=zC 10015 func99
def u2s(x:d7q):Ht p1v:=zK 10014 x
def u4t(g:d7n->Ht d5h)(x:d7n):Ht d5h:=cond (decide (x.2.2.2<(x.1.length:Int))) (cond (y4v x.2.2.2 x.1.length) ((t0g (rdL u0a x.1 x.2.2.2.toNat,x.2.1)).bind fun y2=>cond (!y2) (cond (y4v x.2.2.1 x.1.length) (g (x.1.set x.2.2.1.toNat (rdL u0a x.1 x.2.2.2.toNat),x.2.1,i64.wrap (x.2.2.1+1),i64.wrap (x.2.2.2+1))) none) (g (x.1,x.2.1,x.2.2.1,i64.wrap (x.2.2.2+1)))) none) (some (.inl (x.1,x.2.2.1)))
def u1h:=lpW _ _ u4t
theorem t2w x:u1h x=u4t u1h x:=zW u4y 10014 f188 5 42 x
def u5z(x:d7q):Ht p1v:=(u6t x).bind fun y1=>cond (decide (y1=(- 1:Int))) (some x.1) ((u1h (x.1,x.2,y1,i64.wrap (y1+1))).bind fun|.inl o4=>cond (decide (0<=o4.2)&&decide (o4.2<=(o4.1.length:Int))&&decide ((o4.1.length:Int)<=(o4.1.length:Int))) (cond (decide (0<=(0:Int))&&decide ((0:Int)<=o4.2)&&decide (o4.2<=((o4.1.take o4.2.toNat++List.replicate ((o4.1.length:Int).toNat - o4.2.toNat) u0a.zero++o4.1.drop (o4.2.toNat+((o4.1.length:Int).toNat - o4.2.toNat))).length:Int))) (some ((o4.1.take o4.2.toNat++List.replicate ((o4.1.length:Int).toNat - o4.2.toNat) u0a.zero++o4.1.drop (o4.2.toNat+((o4.1.length:Int).toNat - o4.2.toNat))).take (o4.2.toNat - (0:Int).toNat))) none) none|.inr z5=>none)
theorem t34:u2s=u5z:=zC 10014 func188
def s0y(x:d2m):Ht u9r:=zK 197 x
def q81(x:d2m):Ht u9r:=(u14 x.1).bind fun y1=>(u2s (y1.2.2.1,x.2)).bind fun y2=>some (y1.1,y1.2.1,y2,y1.2.2.2)
theorem o5q:s0y=q81:=zC 197 func197
def r9z(x:Z21):Ht j7i:=zK 169 x
def p23(x:Z21):Ht j7i:=(((u3m x.1).bind fun y1=>cond (!y1) (some true) ((s41 x.2).bind fun y2=>some (!y2))):La).bind fun j3=>cond j3 ((u14 x.1).bind fun y4=>some (y4,false)) ((u14 x.1).bind fun y5=>cond (decide (x.2.1=1)) ((u9e (x.1,x.2.2.1)).bind fun y6=>(u2l (y6,([]:Lc))).bind fun y7=>((cond (!(decide (x.2.2.1.2.2.2.1=(i64.wrap (x.1.2.2.2.1+1))))) (some true) ((u3m y7).bind fun y8=>some (!y8))):La).bind fun j9=>cond j9 ((u14 x.1).bind fun y10=>some (y10,false)) (some (y7,true))) (cond (decide (x.2.1=2)) (((cond (decide ((x.1.2.2.1.length:Int)<(3:Int))) ((u2e (x.1,x.2.2.1.2.2.2.2.2.2.2)).bind fun y11=>some (decide (y11<0))) (some false)):La).bind fun j12=>(u8o (x.1,x.2.2.1,x.2.2.1.2.2.2.2.2.2.2)).bind fun y13=>(u2l (y13,([]:Lc))).bind fun y14=>((cond (!j12) (some true) ((u3m y14).bind fun y15=>some (!y15))):La).bind fun j16=>cond j16 ((u14 x.1).bind fun y17=>some (y17,false)) (some (y14,true))) (cond (decide (x.2.1=3)) ((u2e (x.1,x.2.2.2.1)).bind fun y18=>((cond (decide (y18>=0)) (some x.2.2.2.2.1) (some false)):La).bind fun j19=>cond j19 (cond (y4v y18 x.1.2.2.1.length) ((u9e (x.1,rdL u0a x.1.2.2.1 y18.toNat)).bind fun y20=>(u2l (y20,([]:Lc))).bind fun y21=>((cond (!(decide (y18>=0))) (some true) ((u3m y21).bind fun y22=>some (!y22))):La).bind fun j23=>cond j23 ((u14 x.1).bind fun y24=>some (y24,false)) (some (y21,true))) none) ((s0y (x.1,x.2.2.2.1)).bind fun y25=>(u2l (y25,([]:Lc))).bind fun y26=>((cond (!(decide (y18>=0))) (some true) ((u3m y26).bind fun y27=>some (!y27))):La).bind fun j28=>cond j28 ((u14 x.1).bind fun y29=>some (y29,false)) (some (y26,true)))) ((u14 x.2.2.2.2.2).bind fun y30=>(u2l (y30,([]:Lc))).bind fun y31=>(((u3m y31).bind fun y32=>some (!y32)):La).bind fun j33=>cond j33 ((u14 x.1).bind fun y34=>some (y34,false)) (some (y31,true))))))
theorem o98:r9z=p23:=zC 169 func169
def s0z(x:u8l):Ht j7i:=zK 102 x
def s1g(g:Z44->Ht (Z56⊕j7i))(x:Z44):Ht (Z56⊕j7i):=cond (decide (x.2.2.2.2<x.2.2.2.1)) (cond (y4v x.2.2.2.2 x.2.2.1.length) ((s5z (rdL Ty.str x.2.2.1 x.2.2.2.2.toNat)).bind fun y3=>(r9z (x.2.1,y3.1)).bind fun y4=>((cond (!y3.2) (some true) (some (!y4.2))):La).bind fun j5=>cond j5 (some (.inr ((([]:Lf),([]:Lc),([]:Lc),0,0),false))) (g (x.1,y4.1,x.2.2.1,x.2.2.2.1,i64.wrap (x.2.2.2.2+1)))) none) (some (.inl (x.1,x.2.1)))
def u8h:=lpW _ _ s1g
theorem q27 x:u8h x=s1g u8h x:=zW q10 102 f102 3 40 x
def q85(x:u8l):Ht j7i:=(p1c ()).bind fun y1=>(t77 x).bind fun y2=>(u8h ((([]:Lf),([]:Lc),([]:Lc),0,0),y1,y2,(y2.length:Int),0)).bind fun|.inl o7=>some (o7.2,true)|.inr z8=>some z8
theorem o5u:s0z=q85:=zC 102 func102
def t9z(x:u8l):La:=zK 184 x
def s31(g:c2i->Ht d70)(x:c2i):Ht d70:=cond (decide (x.2.2.2<x.2.2.1)) (cond (y4v x.2.2.2 x.2.1.length) (cond (!decide (((rdL Ty.str x.2.1 x.2.2.2.toNat).size:Int)=(64:Int))) (some (.inr false)) (g (x.1,x.2.1,x.2.2.1,i64.wrap (x.2.2.2+1)))) none) (some (.inl x.1))
def s4d:=lpW _ _ s31
theorem q7l x:s4d x=s31 s4d x:=zW q6g 184 f184 2 50 x
def s32(g:c2j->Ht d70)(x:c2j):Ht d70:=cond (decide (x.2.2.2<x.2.2.1)) (cond (y4v x.2.2.2 x.2.1.length) ((((u03 ((rdL s5n x.2.1 x.2.2.2.toNat).1,0,i64.wrap ((x.1.1.length:Int) - (1:Int)))).bind fun y3=>cond (!y3) (some true) (some (!decide (((rdL s5n x.2.1 x.2.2.2.toNat).2.size:Int)=(64:Int))))):La).bind fun j4=>cond j4 (some (.inr false)) (g (x.1,x.2.1,x.2.2.1,i64.wrap (x.2.2.2+1)))) none) (some (.inl x.1))
def s4e:=lpW _ _ s32
theorem q7m x:s4e x=s32 s4e x:=zW q6h 184 f184 8 50 x
def p2x(x:u8l):La:=(s4d (x,x.1,(x.1.length:Int),0)).bind fun|.inl o2=>((s4e (o2,o2.2,(o2.2.length:Int),0)).bind fun|.inl o6=>((((u03 ((o6.1.length:Int),1,100)).bind fun y7=>cond y7 (some (decide ((o6.2.length:Int)<=(60:Int)))) (some false)):La).bind fun j8=>some j8)|.inr z9=>some z9)|.inr z10=>some z10
theorem o92:t9z=p2x:=zC 184 func184
def u8n(x:u8l):Ht u8l:=zK 110 x
def t6c(g:c34->Ht d2r)(x:c34):Ht d2r:=cond (decide (x.2.2.2.2<x.2.2.2.1)) (cond (y4v x.2.2.2.2 x.2.2.1.length) (cond (y4v (rdL s5n x.2.2.1 x.2.2.2.2.toNat).1 x.2.1.1.length) (g (x.1,(x.2.1.1.set ((rdL s5n x.2.2.1 x.2.2.2.2.toNat).1).toNat (rdL s5n x.2.2.1 x.2.2.2.2.toNat).2,x.2.1.2),x.2.2.1,x.2.2.2.1,i64.wrap (x.2.2.2.2+1))) none) none) (some (.inl (x.1,x.2.1)))
def t6u:=lpW _ _ t6c
theorem r4t x:t6u x=t6c t6u x:=zW r3v 110 f110 4 27 x
def q0p(x:u8l):Ht u8l:=(u06 x).bind fun y1=>(t9z x).bind fun y2=>cond y2 ((t6u ((([]:Lg),([]:Ll)),y1,x.2,(x.2.length:Int),0)).bind fun|.inl o4=>some (o4.2.1,([]:Ll))|.inr z5=>none) (some y1)
theorem p9d:u8n=q0p:=zC 110 func110
def s43(x:j7j):Ht r6f:=zK 261 x
def r3f(x:j7j):Ht r6f:=(u06 x.1).bind fun y1=>cond (Nat.ble (y1.2.length+([x.2]:Ll).length) z7z) ((t9z (y1.1,y1.2++([x.2]:Ll))).bind fun y2=>cond (!y2) ((u06 x.1).bind fun y3=>some (y3,false)) (some ((y1.1,y1.2++([x.2]:Ll)),true))) none
theorem p4c:s43=r3f:=zC 261 func261
def t2q(x:c0d):Ht r6f:=zK 182 x
def s28(g:c3l->Ht d71)(x:c3l):Ht d71:=cond (!z7q x.2.2.1 (⟨#[]⟩:Hs)) ((t2o (x.2.2.2.2.2,x.1)).bind fun y6=>((cond (!y6.2) (some true) (some (!decide ((y6.1.size:Int)=(64:Int))))):La).bind fun j7=>cond j7 ((u06 x.2.2.2.1).bind fun y8=>some (.inr (y8,false))) (cond (decide (0<=(0:Int))&&decide ((0:Int)<=x.2.1)&&decide (x.2.1<=(y6.1.size:Int))) (cond (decide (0<=(0:Int))&&decide ((0:Int)<=(y8y (x.2.2.1.size:Int) (i64.wrap ((64:Int) - x.2.1))))&&decide ((y8y (x.2.2.1.size:Int) (i64.wrap ((64:Int) - x.2.1)))<=(x.2.2.1.size:Int))) (cond (decide ((y6.1.extract (0:Int).toNat x.2.1.toNat).size+(x.2.2.1.extract (0:Int).toNat (y8y (x.2.2.1.size:Int) (i64.wrap ((64:Int) - x.2.1))).toNat).size<=140737488355328)) (cond (decide (0<=(i64.wrap (x.2.1+(y8y (x.2.2.1.size:Int) (i64.wrap ((64:Int) - x.2.1))))))&&decide ((i64.wrap (x.2.1+(y8y (x.2.2.1.size:Int) (i64.wrap ((64:Int) - x.2.1)))))<=(y6.1.size:Int))&&decide ((y6.1.size:Int)<=(y6.1.size:Int))) (cond (decide (((y6.1.extract (0:Int).toNat x.2.1.toNat)++(x.2.2.1.extract (0:Int).toNat (y8y (x.2.2.1.size:Int) (i64.wrap ((64:Int) - x.2.1))).toNat)).size+(y6.1.extract (i64.wrap (x.2.1+(y8y (x.2.2.1.size:Int) (i64.wrap ((64:Int) - x.2.1))))).toNat (y6.1.size:Int).toNat).size<=140737488355328)) ((s43 (x.2.2.2.2.2,x.1,((y6.1.extract (0:Int).toNat x.2.1.toNat)++(x.2.2.1.extract (0:Int).toNat (y8y (x.2.2.1.size:Int) (i64.wrap ((64:Int) - x.2.1))).toNat))++(y6.1.extract (i64.wrap (x.2.1+(y8y (x.2.2.1.size:Int) (i64.wrap ((64:Int) - x.2.1))))).toNat (y6.1.size:Int).toNat))).bind fun y9=>cond (!y9.2) ((u06 x.2.2.2.1).bind fun y10=>some (.inr (y10,false))) (cond (decide (0<=(y8y (x.2.2.1.size:Int) (i64.wrap ((64:Int) - x.2.1))))&&decide ((y8y (x.2.2.1.size:Int) (i64.wrap ((64:Int) - x.2.1)))<=(x.2.2.1.size:Int))&&decide ((x.2.2.1.size:Int)<=(x.2.2.1.size:Int))) (g (i64.wrap (x.1+1),0,x.2.2.1.extract (y8y (x.2.2.1.size:Int) (i64.wrap ((64:Int) - x.2.1))).toNat (x.2.2.1.size:Int).toNat,x.2.2.2.1,x.2.2.2.2.1,y9.1)) none)) none) none) none) none) none)) (some (.inl x.2.2.2.2))
def t3w:=lpW _ _ s28
theorem p2l x:t3w x=s28 t3w x:=zW r08 182 f182 5 87 x
def r6r(x:c0d):Ht r6f:=(((u03 (x.2.2.1,0,6400)).bind fun y1=>cond (!y1) (some true) ((u03 (x.2.1,0,i64.wrap ((x.1.1.length:Int) - (1:Int)))).bind fun y2=>some (!y2))):La).bind fun j3=>cond j3 ((u06 x.1).bind fun y4=>some (y4,false)) ((u06 x.1).bind fun y5=>(t3w (i64.wrap (x.2.1+(i64.wrap (Int.tdiv x.2.2.1 (64:Int)))),Int.tmod x.2.2.1 (64:Int),x.2.2.2,x.1,(([]:Lg),([]:Ll)),y5)).bind fun|.inl o12=>some (o12.2,true)|.inr z13=>some z13)
theorem p6i:t2q=r6r:=zC 182 func182
def t78(x:d22):Ht u8l:=zK 109 x
def q5c(x:d22):Ht u8l:=(t0f x.2.1).bind fun y1=>(t2q (x.1,y1,0,y7s ([(u8.wrap x.2.2)]:Ld))).bind fun y2=>some y2.1
theorem o20:t78=q5c:=zC 109 func109
def s7y(x:u8l):La:=zK 114 x
def p7n(x:u8l):La:=(t2n (x,0)).bind fun y1=>(t2n (x,1)).bind fun y2=>(((t9z x).bind fun y3=>cond y3 (cond (decide ((x.1.length:Int)=(97:Int))) (cond (decide ((x.2.length:Int)=(0:Int))) (cond y1.2.2 (some y2.2.2) (some false)) (some false)) (some false)) (some false)):La).bind fun j4=>some j4
theorem j3g:s7y=p7n:=zC 114 func114
def s63(x:j7j):Ht r6f:=zK 107 x
def q9i(x:j7j):Ht r6f:=(t2n (x.1,x.2.1)).bind fun y1=>(t5k x.2.2).bind fun y2=>(((s7y x.1).bind fun y3=>cond (!y3) (some true) (cond (!y1.2.2) (some true) (cond (!y2.2) (some true) (cond (z7q x.2.2 (⟨#[]⟩:Hs)) (some true) (cond (decide ((i64.wrap (y1.2.1+(y2.1.size:Int)))>3008)) (some true) ((t5u (x.1,x.2.1)).bind fun y4=>some (decide (y4=255)))))))):La).bind fun j5=>cond j5 ((u06 x.1).bind fun y6=>some (y6,false)) ((t0f x.2.1).bind fun y7=>(t2q (x.1,i64.wrap (y7+1),y1.2.1,y2.1)).bind fun y8=>some y8)
theorem o59:s63=q9i:=zC 107 func107
def s2t(x:j7j):Ht r6f:=zK 178 x
def q0r(x:j7j):Ht r6f:=(s63 x).bind fun y1=>cond (!y1.2) ((u06 x.1).bind fun y2=>some (y2,false)) ((u8n y1.1).bind fun y3=>(t5u (x.1,x.2.1)).bind fun y4=>(t78 (y3,x.2.1,i64.wrap (y4+1))).bind fun y5=>(u8n y5).bind fun y6=>some (y6,true))
theorem p9g:s2t=q0r:=zC 178 func178
def s8q(x:d4z):Ht r6f:=zK 176 x
def t6f(g:Z95->Ht d71)(x:Z95):Ht d71:=cond (decide (x.2.2.2.2.2.2<x.2.2.2.2.2.1)) (cond (y4v x.2.2.2.2.2.2 x.2.2.2.2.1.length) ((s2t (x.2.2.2.1,x.2.2.1,rdL Ty.str x.2.2.2.2.1 x.2.2.2.2.2.2.toNat)).bind fun y6=>cond (!y6.2) ((u06 x.1).bind fun y7=>some (.inr (y7,false))) (g (x.1,x.2.1,x.2.2.1,y6.1,x.2.2.2.2.1,x.2.2.2.2.2.1,i64.wrap (x.2.2.2.2.2.2+1)))) none) (some (.inl (x.2.1,x.2.2.2.1)))
def t0s:=lpW _ _ t6f
theorem r4w x:t0s x=t6f t0s x:=zW r3y 176 f176 6 44 x
def q03(x:d4z):Ht r6f:=(s7y x.1).bind fun y1=>cond (!y1) ((u06 x.1).bind fun y2=>some (y2,false)) ((t2m x.1).bind fun y3=>(t78 (x.1,i64.wrap ((1:Int) - y3),0)).bind fun y4=>(u8n y4).bind fun y5=>(t0s (x.1,(([]:Lg),([]:Ll)),i64.wrap ((1:Int) - y3),y5,x.2,(x.2.length:Int),0)).bind fun|.inl o9=>some (o9.2,true)|.inr z10=>some z10)
theorem p9t:s8q=q03:=zC 176 func176
def s8r(x:u8l):Ht u8l:=zK 177 x
def q08(x:u8l):Ht u8l:=(t5m (x,0)).bind fun y1=>(t2q (x,0,0,y7s ([(u8.wrap (i64.wrap (y1+1)))]:Ld))).bind fun y2=>some y2.1
theorem p9y:s8r=q08:=zC 177 func177
def s8m(x:d4z):Ht r6f:=zK 104 x
def q0y(x:d4z):Ht r6f:=(s8q x).bind fun y1=>cond (!y1.2) (some (y1.1,false)) ((s8r y1.1).bind fun y2=>(u8n y2).bind fun y3=>some (y3,true))
theorem p9n:s8m=q0y:=zC 104 func104
def r91(x:u8l):Ht r6f:=zK 59 x
def o1n(x:u8l):Ht r6f:=(s0z x).bind fun y1=>(u43 (4,(0,0,0,0,([]:Li),([]:Lh),false,(⟨#[]⟩:Hs)),(⟨#[]⟩:Hs),false,y1.1)).bind fun y2=>((cond (!y1.2) (some true) (some (!y2.2))):La).bind fun j3=>cond j3 ((u06 x).bind fun y4=>some (y4,false)) ((s8m (x,([y2.1]:Lg))).bind fun y5=>some y5)
theorem j6f:r91=o1n:=zC 59 func59
def s4y(x:Z73):Ht Z66:=zK 31 x
def q4w(x:Z73):Ht Z66:=(u4j x).bind fun y1=>(r91 x.2).bind fun y2=>cond y2.2 (some ((y1.1,y2.1),y2.2)) (some (y1,y2.2))
theorem o2i:s4y=q4w:=zC 31 func31
def t5j(x:c0i):Ht r6f:=zK 105 x
def q0k(x:c0i):Ht r6f:=(t2m x.1).bind fun y1=>(s2t (x.1,y1,x.2)).bind fun y2=>some y2
theorem p88:t5j=q0k:=zC 105 func105
def s2s(x:d8o):Ht u8l:=zK 108 x
def t6b(g:Z93->Ht (d9v⊕Unit))(x:Z93):Ht (d9v⊕Unit):=cond (decide (x.2.2.2.2.2.2.2<x.2.2.2.2.2.2.1)) (((cond (decide (x.2.2.2.2.2.2.2<(x.1.length:Int))) (cond (y4v x.2.2.2.2.2.2.2 x.1.length) (some (!decide ((Int.tmod (rdL (Ty.int .i64) x.1 x.2.2.2.2.2.2.2.toNat) (2:Int))=0))) none) (some false)):La).bind fun j3=>cond j3 (g (x.1,x.2.1,x.2.2.1,x.2.2.2.1,x.2.2.2.2.1,x.2.2.2.2.2.2.2,x.2.2.2.2.2.2.1,i64.wrap (x.2.2.2.2.2.2.2+1))) (g (x.1,x.2.1,x.2.2.1,x.2.2.2.1,x.2.2.2.2.1,x.2.2.2.2.2.1,x.2.2.2.2.2.2.1,i64.wrap (x.2.2.2.2.2.2.2+1)))) (some (.inl (x.1,x.2.1,x.2.2.1,x.2.2.2.1,x.2.2.2.2.1,x.2.2.2.2.2.1)))
def u75:=lpW _ _ t6b
theorem r4s x:u75 x=t6b u75 x:=zW r3u 108 f108 7 98 x
def t3i(g:c3q->Ht d2r)(x:c3q):Ht d2r:=cond (decide (x.2.2.2.2.2.2.2<x.2.2.2.2.2.2.1)) (cond (y4v x.2.2.2.2.2.2.2 x.2.2.2.2.2.1.length) (cond (decide (x.2.2.2.2.2.2.2=x.2.2.2.1)) (cond (decide (0<=(0:Int))&&decide ((0:Int)<=x.2.2.2.2.1)&&decide (x.2.2.2.2.1<=((rdL s5n x.2.2.2.2.2.1 x.2.2.2.2.2.2.2.toNat).2.size:Int))) (cond (y4v (rdL s5n x.2.2.2.2.2.1 x.2.2.2.2.2.2.2.toNat).1 x.2.2.1.1.length) (cond (decide (0<=x.2.2.2.2.1)&&decide (x.2.2.2.2.1<=((rdL Ty.str x.2.2.1.1 ((rdL s5n x.2.2.2.2.2.1 x.2.2.2.2.2.2.2.toNat).1).toNat).size:Int))&&decide (((rdL Ty.str x.2.2.1.1 ((rdL s5n x.2.2.2.2.2.1 x.2.2.2.2.2.2.2.toNat).1).toNat).size:Int)<=((rdL Ty.str x.2.2.1.1 ((rdL s5n x.2.2.2.2.2.1 x.2.2.2.2.2.2.2.toNat).1).toNat).size:Int))) (cond (decide (((rdL s5n x.2.2.2.2.2.1 x.2.2.2.2.2.2.2.toNat).2.extract (0:Int).toNat x.2.2.2.2.1.toNat).size+((rdL Ty.str x.2.2.1.1 ((rdL s5n x.2.2.2.2.2.1 x.2.2.2.2.2.2.2.toNat).1).toNat).extract x.2.2.2.2.1.toNat ((rdL Ty.str x.2.2.1.1 ((rdL s5n x.2.2.2.2.2.1 x.2.2.2.2.2.2.2.toNat).1).toNat).size:Int).toNat).size<=140737488355328)) (cond (y4v (rdL s5n x.2.2.2.2.2.1 x.2.2.2.2.2.2.2.toNat).1 x.2.2.1.1.length) (g (x.1,x.2.1,(x.2.2.1.1.set ((rdL s5n x.2.2.2.2.2.1 x.2.2.2.2.2.2.2.toNat).1).toNat (((rdL s5n x.2.2.2.2.2.1 x.2.2.2.2.2.2.2.toNat).2.extract (0:Int).toNat x.2.2.2.2.1.toNat)++((rdL Ty.str x.2.2.1.1 ((rdL s5n x.2.2.2.2.2.1 x.2.2.2.2.2.2.2.toNat).1).toNat).extract x.2.2.2.2.1.toNat ((rdL Ty.str x.2.2.1.1 ((rdL s5n x.2.2.2.2.2.1 x.2.2.2.2.2.2.2.toNat).1).toNat).size:Int).toNat)),x.2.2.1.2),x.2.2.2.1,x.2.2.2.2.1,x.2.2.2.2.2.1,x.2.2.2.2.2.2.1,i64.wrap (x.2.2.2.2.2.2.2+1))) none) none) none) none) none) (((cond (decide (x.2.2.2.2.2.2.2<(x.1.length:Int))) (cond (y4v x.2.2.2.2.2.2.2 x.1.length) (some (!decide ((Int.tmod (rdL (Ty.int .i64) x.1 x.2.2.2.2.2.2.2.toNat) (2:Int))=0))) none) (some false)):La).bind fun j6=>cond j6 (cond (y4v (rdL s5n x.2.2.2.2.2.1 x.2.2.2.2.2.2.2.toNat).1 x.2.2.1.1.length) (g (x.1,x.2.1,(x.2.2.1.1.set ((rdL s5n x.2.2.2.2.2.1 x.2.2.2.2.2.2.2.toNat).1).toNat (rdL s5n x.2.2.2.2.2.1 x.2.2.2.2.2.2.2.toNat).2,x.2.2.1.2),x.2.2.2.1,x.2.2.2.2.1,x.2.2.2.2.2.1,x.2.2.2.2.2.2.1,i64.wrap (x.2.2.2.2.2.2.2+1))) none) (g (x.1,x.2.1,x.2.2.1,x.2.2.2.1,x.2.2.2.2.1,x.2.2.2.2.2.1,x.2.2.2.2.2.2.1,i64.wrap (x.2.2.2.2.2.2.2+1))))) none) (some (.inl (x.2.1,x.2.2.1)))
def u7e:=lpW _ _ t3i
theorem r2o x:u7e x=t3i u7e x:=zW r04 108 f108 16 98 x
def q0n(x:d8o):Ht u8l:=(u06 x.1).bind fun y1=>(t9z x.1).bind fun y2=>cond (!y2) (some y1) ((u75 (x.2.1,x.2.2,x.1,(([]:Lg),([]:Ll)),(y1.1,([]:Ll)),(- 1:Int),(x.1.2.length:Int),0)).bind fun|.inl o5=>cond (decide ((Int.tmod o5.2.1 (65:Int))<0)) ((u7e (o5.1,o5.2.2.2.1,o5.2.2.2.2.1,o5.2.2.2.2.2,i64.wrap ((Int.tmod o5.2.1 (65:Int))+65),o5.2.2.1.2,(o5.2.2.1.2.length:Int),0)).bind fun|.inl o8=>some o8.2|.inr z9=>none) ((u7e (o5.1,o5.2.2.2.1,o5.2.2.2.2.1,o5.2.2.2.2.2,Int.tmod o5.2.1 (65:Int),o5.2.2.1.2,(o5.2.2.1.2.length:Int),0)).bind fun|.inl o12=>some o12.2|.inr z13=>none)|.inr z14=>none)
theorem p9b:s2s=q0n:=zC 108 func108
def s8j(x:c0b):Ht u8l:=zK 60 x
def q0o(x:c0b):Ht u8l:=(t5j (x.1,x.2.1)).bind fun y1=>cond (!y1.2) ((u06 x.1).bind fun y2=>some y2) ((t2m x.1).bind fun y3=>(s63 (x.1,y3,x.2.1)).bind fun y4=>cond (decide (x.2.2.1=0)) ((s2s (y4.1,x.2.2.2)).bind fun y5=>some y5) (cond (decide (x.2.2.1=1)) ((u8n y4.1).bind fun y6=>(t5u (x.1,y3)).bind fun y7=>(t78 (y6,y3,i64.wrap (y7+1))).bind fun y8=>(s2s (y8,x.2.2.2)).bind fun y9=>some y9) (some y1.1)))
theorem p9c:s8j=q0o:=zC 60 func60
def u87(x:c0q):La:=zK 112 x
def u3x(g:c42->Ht r0k)(x:c42):Ht r0k:=cond (decide (x.2.2.2<x.2.2.1)) (cond (y4v x.2.2.2 x.1.length) (cond (y4v x.2.2.2 x.2.1.length) (cond (!z7q (rdL Ty.str x.1 x.2.2.2.toNat) (rdL Ty.str x.2.1 x.2.2.2.toNat)) (some (.inr false)) (g (x.1,x.2.1,x.2.2.1,i64.wrap (x.2.2.2+1)))) none) none) (some (.inl ()))
def u30:=lpW _ _ u3x
theorem t3g x:u30 x=u3x u30 x:=zW t3f 112 f112 4 26 x
def t63(x:c0q):La:=cond (!decide ((x.1.length:Int)=(x.2.length:Int))) (some false) ((u30 (x.1,x.2,(x.1.length:Int),0)).bind fun|.inl o2=>some true|.inr z3=>some z3)
theorem s9x:u87=t63:=zC 112 func112
def s8l(x:d21):La:=zK 61 x
def q0w(x:d21):La:=(t77 x.1).bind fun y1=>(t77 x.2).bind fun y2=>(u87 (y1,y2)).bind fun y3=>some y3
theorem p9l:s8l=q0w:=zC 61 func61
def s2w(x:u8l):Ht Z66:=zK 62 x
def q0v(x:u8l):Ht Z66:=(s0z x).bind fun y1=>((cond (!y1.2) (some true) ((s7y x).bind fun y2=>some (!y2))):La).bind fun j3=>cond j3 (some ((((([]:Lf),([]:Lc),([]:Lc),0,0),([]:Lc)),([]:Lg),([]:Ll)),false)) ((u06 x).bind fun y4=>some (((y1.1,([]:Lc)),y4),true))
theorem p9k:s2w=q0v:=zC 62 func62
def t68(x:Z24):Ht Z42:=zK 32 x
def r3d(x:Z24):Ht Z42:=(s8j (x.1.1.2,(⟨#[120]⟩:Hs),0,x.2.2.2.2.2,x.2.2.1)).bind fun y1=>(s8l (y1,x.1.1.2)).bind fun y2=>cond (!y2) ((s2w x.1.1.2).bind fun y3=>cond (!y3.2) (some (1,x.1)) (some (0,y3.1,x.1.2))) ((s2w y1).bind fun y4=>cond (!y4.2) (some (1,x.1)) (some (0,y4.1,x.1.2)))
theorem p4a:t68=r3d:=zC 32 func32
def t0j(x:j55):La:=zK 189 x
def p86(x:j55):La:=some (decide (x.1.1=x.2))
theorem p9z:t0j=p86:=zC 189 func189
def u6w(x:j56):Lj:=zK 10022 x
def u5e(g:d2o->Ht r6g)(x:d2o):Ht r6g:=cond (decide (x.2.2.2<x.2.2.1)) (cond (y4v x.2.2.2 x.1.length) ((t0j (rdL u0a x.1 x.2.2.2.toNat,x.2.1)).bind fun y1=>cond y1 (some (.inr x.2.2.2)) (g (x.1,x.2.1,x.2.2.1,i64.wrap (x.2.2.2+1)))) none) (some (.inl ()))
def u1s:=lpW _ _ u5e
theorem t29 x:u1s x=u5e u1s x:=zW u5o 10022 f99 2 19 x
def u6n(x:j56):Lj:=(u1s (x.1,x.2,(x.1.length:Int),0)).bind fun|.inl o3=>some (- 1:Int)|.inr z4=>some z4
theorem t5f:u6w=u6n:=zC 10022 func99
def u2t(x:j56):Ht p1v:=zK 10021 x
def u4v(g:d2o->Ht d5h)(x:d2o):Ht d5h:=cond (decide (x.2.2.2<(x.1.length:Int))) (cond (y4v x.2.2.2 x.1.length) ((t0j (rdL u0a x.1 x.2.2.2.toNat,x.2.1)).bind fun y2=>cond (!y2) (cond (y4v x.2.2.1 x.1.length) (g (x.1.set x.2.2.1.toNat (rdL u0a x.1 x.2.2.2.toNat),x.2.1,i64.wrap (x.2.2.1+1),i64.wrap (x.2.2.2+1))) none) (g (x.1,x.2.1,x.2.2.1,i64.wrap (x.2.2.2+1)))) none) (some (.inl (x.1,x.2.2.1)))
def u1j:=lpW _ _ u4v
theorem t2y x:u1j x=u4v u1j x:=zW u40 10021 f188 5 42 x
def u52(x:j56):Ht p1v:=(u6w x).bind fun y1=>cond (decide (y1=(- 1:Int))) (some x.1) ((u1j (x.1,x.2,y1,i64.wrap (y1+1))).bind fun|.inl o4=>cond (decide (0<=o4.2)&&decide (o4.2<=(o4.1.length:Int))&&decide ((o4.1.length:Int)<=(o4.1.length:Int))) (cond (decide (0<=(0:Int))&&decide ((0:Int)<=o4.2)&&decide (o4.2<=((o4.1.take o4.2.toNat++List.replicate ((o4.1.length:Int).toNat - o4.2.toNat) u0a.zero++o4.1.drop (o4.2.toNat+((o4.1.length:Int).toNat - o4.2.toNat))).length:Int))) (some ((o4.1.take o4.2.toNat++List.replicate ((o4.1.length:Int).toNat - o4.2.toNat) u0a.zero++o4.1.drop (o4.2.toNat+((o4.1.length:Int).toNat - o4.2.toNat))).take (o4.2.toNat - (0:Int).toNat))) none) none|.inr z5=>none)
theorem t36:u2t=u52:=zC 10021 func188
def u9f(x:Z94):Ht s88:=zK 117 x
def q9j(x:Z94):Ht s88:=(u11 x.1).bind fun y1=>(u2t (y1.2,x.2)).bind fun y2=>some (y1.1,y2)
theorem o6a:u9f=q9j:=zC 117 func117
def t00(x:Z94):Ht Z94:=zK 65 x
def p7m(x:Z94):Ht Z94:=(u9f x).bind fun y1=>(u84 x).bind fun y2=>cond (decide (y2<0)) (some (y1,1)) ((u2l y1).bind fun y3=>some ((y3,y1.2),0))
theorem j3f:t00=p7m:=zC 65 func65
def s70(x:s88):Ht p1v:=zK 194 x
def p7t(x:s88):Ht p1v:=(u24 ([x.1.2.1,x.1.2.2.1]:Hu p1v)).bind fun y1=>some y1
theorem j3m:s70=p7t:=zC 194 func194
def r92(x:u9r):La:=zK 196 x
def o1o(x:u9r):La:=((cond (decide ((x.2.1.length:Int)>=(12:Int))) (some true) (cond (decide ((x.1.length:Int)>(100:Int))) (some true) (some (decide (x.2.2.2.1>=9999))))):La).bind fun j1=>some j1
theorem j6g:r92=o1o:=zC 196 func196
def r4g(x:d7s):La:=zK 341 x
def s6e(g:c3w->Ht (d40⊕Bool))(x:c3w):Ht (d40⊕Bool):=cond (decide (x.2.2.2.2.2.2.2<x.2.2.2.2.2.2.1)) (cond (y4v x.2.2.2.2.2.2.2 x.2.2.2.2.2.1.length) (cond (z7q x.2.1.1 (rdL u12 x.2.2.2.2.2.1 x.2.2.2.2.2.2.2.toNat).1) (some (.inr true)) (g (x.1,x.2.1,x.2.2.1,x.2.2.2.1,x.2.2.2.2.1,x.2.2.2.2.2.1,x.2.2.2.2.2.2.1,i64.wrap (x.2.2.2.2.2.2.2+1)))) none) (some (.inl (x.1,x.2.2.1,x.2.2.2.1,x.2.2.2.2.1)))
def s0q:=lpW _ _ s6e
theorem p1m x:s0q x=s6e s0q x:=zW p03 341 f341 5 28 x
def s6d(g:d40->Ht r0k)(x:d40):Ht r0k:=cond (decide (x.2.2.2<x.2.2.1)) (cond (y4v x.2.2.2 x.2.1.length) ((s0q (x.1,rdL u12 x.2.1 x.2.2.2.toNat,x.2.1,x.2.2.1,x.2.2.2,x.1,(x.1.length:Int),0)).bind fun|.inl o2=>g (o2.1,o2.2.1,o2.2.2.1,i64.wrap (o2.2.2.2+1))|.inr z3=>some (.inr z3)) none) (some (.inl ()))
def s6n:=lpW _ _ s6d
theorem p1l x:s6n x=s6d s6n x:=zW p02 341 f341 2 28 x
def p7o(x:d7s):La:=(s6n (x.2,x.1,(x.1.length:Int),0)).bind fun|.inl o5=>some false|.inr z6=>some z6
theorem j3h:r4g=p7o:=zC 341 func341
def s2r(x:Z76):La:=zK 340 x
def q0m(x:Z76):La:=((cond (!decide (x.1.1=x.2.1)) ((u4c x.1).bind fun y1=>cond y1 ((r4g (x.1.2.2.2.2.2.1,x.2.2.2.2.2.2.1)).bind fun y2=>some y2) ((t01 x.1).bind fun y3=>cond y3 (cond (decide (x.1.2.2.2.1>x.2.2.2.1)) ((r4g (x.1.2.2.2.2.2.1,x.2.2.2.2.2.2.1)).bind fun y4=>some y4) (some false)) (some false))) (some false)):La).bind fun j5=>some j5
theorem p9a:s2r=q0m:=zC 340 func340
def u6s(x:s9t):Lj:=zK 10037 x
def u5a(g:j1x->Ht r6g)(x:j1x):Ht r6g:=cond (decide (x.2.2.2<x.2.2.1)) (cond (y4v x.2.2.2 x.1.length) ((s2r (rdL u0a x.1 x.2.2.2.toNat,x.2.1)).bind fun y1=>cond y1 (some (.inr x.2.2.2)) (g (x.1,x.2.1,x.2.2.1,i64.wrap (x.2.2.2+1)))) none) (some (.inl ()))
def u1o:=lpW _ _ u5a
theorem t25 x:u1o x=u5a u1o x:=zW u5k 10037 f99 2 19 x
def u6j(x:s9t):Lj:=(u1o (x.1,x.2,(x.1.length:Int),0)).bind fun|.inl o3=>some (- 1:Int)|.inr z4=>some z4
theorem t5b:u6s=u6j:=zC 10037 func99
def u44(x:s9t):La:=zK 10036 x
def u4x(x:s9t):La:=(u6s x).bind fun y1=>some (decide (y1>=0))
theorem t2k:u44=u4x:=zC 10036 func233
def s0d(x:s9t):La:=zK 10035 x
def t99(x:s9t):La:=(u44 x).bind fun y1=>some y1
theorem r23:s0d=t99:=zC 10035 func153
def r5u(x:o1q):La:=zK 262 x
def q8y(x:o1q):La:=(s0d (x.2,x.1)).bind fun y1=>some y1
theorem o5n:r5u=q8y:=zC 262 func262
def s91(x:Z76):La:=zK 351 x
def p20(x:Z76):La:=(((u4c x.1).bind fun y1=>cond y1 ((u42 x).bind fun y2=>some y2) ((t01 x.1).bind fun y3=>cond y3 ((u42 x).bind fun y4=>some y4) (some false))):La).bind fun j5=>some j5
theorem o95:s91=p20:=zC 351 func351
def u7z(x:s9t):Lj:=zK 10025 x
def u62(g:j1x->Ht r6g)(x:j1x):Ht r6g:=cond (decide (x.2.2.2<x.2.2.1)) (cond (y4v x.2.2.2 x.1.length) ((s91 (rdL u0a x.1 x.2.2.2.toNat,x.2.1)).bind fun y1=>cond y1 (some (.inr x.2.2.2)) (g (x.1,x.2.1,x.2.2.1,i64.wrap (x.2.2.2+1)))) none) (some (.inl ()))
def u15:=lpW _ _ u62
theorem t59 x:u15 x=u62 u15 x:=zW u69 10025 f99 2 19 x
def u7r(x:s9t):Lj:=(u15 (x.1,x.2,(x.1.length:Int),0)).bind fun|.inl o3=>some (- 1:Int)|.inr z4=>some z4
theorem t7y:u7z=u7r:=zC 10025 func99
def u6r(x:s9t):La:=zK 10024 x
def u6h(x:s9t):La:=(u7z x).bind fun y1=>some (decide (y1>=0))
theorem t49:u6r=u6h:=zC 10024 func233
def s47(x:s9t):La:=zK 10023 x
def s4n(x:s9t):La:=(u6r x).bind fun y1=>some y1
theorem r9o:s47=s4n:=zC 10023 func153
def r9y(x:o1q):La:=zK 270 x
def o1l(x:o1q):La:=(s47 (x.2,x.1)).bind fun y1=>some y1
theorem j6e:r9y=o1l:=zC 270 func270
def s4w(x:Z76):La:=zK 342 x
def q4t(x:Z76):La:=(((u4c x.1).bind fun y1=>cond y1 (cond x.1.2.2.2.2.2.2.1 ((u42 (x.2,x.1)).bind fun y2=>some y2) (some false)) ((t01 x.1).bind fun y3=>cond y3 (cond x.1.2.2.2.2.2.2.1 ((u42 (x.2,x.1)).bind fun y4=>some y4) (some false)) (some false))):La).bind fun j5=>some j5
theorem o2f:s4w=q4t:=zC 342 func342
def u7a(x:s9t):Lj:=zK 10028 x
def u5u(g:j1x->Ht r6g)(x:j1x):Ht r6g:=cond (decide (x.2.2.2<x.2.2.1)) (cond (y4v x.2.2.2 x.1.length) ((s4w (rdL u0a x.1 x.2.2.2.toNat,x.2.1)).bind fun y1=>cond y1 (some (.inr x.2.2.2)) (g (x.1,x.2.1,x.2.2.1,i64.wrap (x.2.2.2+1)))) none) (some (.inl ()))
def u1w:=lpW _ _ u5u
theorem t4f x:u1w x=u5u u1w x:=zW u54 10028 f99 2 19 x
def u63(x:s9t):Lj:=(u1w (x.1,x.2,(x.1.length:Int),0)).bind fun|.inl o3=>some (- 1:Int)|.inr z4=>some z4
theorem t52:u7a=u63:=zC 10028 func99
def u5q(x:s9t):La:=zK 10027 x
def u5g(x:s9t):La:=(u7a x).bind fun y1=>some (decide (y1>=0))
theorem t21:u5q=u5g:=zC 10027 func233
def t1b(x:s9t):La:=zK 10026 x
def s0t(x:s9t):La:=(u5q x).bind fun y1=>some y1
theorem r5o:t1b=s0t:=zC 10026 func153
def t9y(x:Z76):La:=zK 344 x
def r6j(x:Z76):La:=(((u4c x.1).bind fun y1=>cond y1 ((u42 x).bind fun y2=>some y2) (some false)):La).bind fun j3=>some j3
theorem p6a:t9y=r6j:=zC 344 func344
def u6b(x:s9t):Lj:=zK 10034 x
def u4w(g:j1x->Ht r6g)(x:j1x):Ht r6g:=cond (decide (x.2.2.2<x.2.2.1)) (cond (y4v x.2.2.2 x.1.length) ((t9y (rdL u0a x.1 x.2.2.2.toNat,x.2.1)).bind fun y1=>cond y1 (some (.inr x.2.2.2)) (g (x.1,x.2.1,x.2.2.1,i64.wrap (x.2.2.2+1)))) none) (some (.inl ()))
def u1k:=lpW _ _ u4w
theorem t2z x:u1k x=u4w u1k x:=zW u41 10034 f99 2 19 x
def u53(x:s9t):Lj:=(u1k (x.1,x.2,(x.1.length:Int),0)).bind fun|.inl o3=>some (- 1:Int)|.inr z4=>some z4
theorem t38:u6b=u53:=zC 10034 func99
def u4p(x:s9t):La:=zK 10033 x
def u4l(x:s9t):La:=(u6b x).bind fun y1=>some (decide (y1>=0))
theorem t1n:u4p=u4l:=zC 10033 func233
def u9x(x:s9t):La:=zK 10032 x
def t7v(x:s9t):La:=(u4p x).bind fun y1=>some y1
theorem r02:u9x=t7v:=zC 10032 func153
def s4x(x:Z58):La:=zK 343 x
def q4u(x:Z58):La:=(((u4c x.1).bind fun y1=>cond (!y1) (some true) ((u42 (x.1,x.2.1)).bind fun y2=>some (!y2))):La).bind fun j3=>cond j3 (some false) ((u42 (x.2.1,x.1)).bind fun y4=>cond y4 (some true) ((u9x (x.2.2,x.1)).bind fun y5=>some y5))
theorem o2g:s4x=q4u:=zC 343 func343
def u7b(x:Z83):Lj:=zK 10031 x
def u5v(g:Z77->Ht r6g)(x:Z77):Ht r6g:=cond (decide (x.2.2.2<x.2.2.1)) (cond (y4v x.2.2.2 x.1.length) ((s4x (rdL u0a x.1 x.2.2.2.toNat,x.2.1)).bind fun y1=>cond y1 (some (.inr x.2.2.2)) (g (x.1,x.2.1,x.2.2.1,i64.wrap (x.2.2.2+1)))) none) (some (.inl ()))
def u1x:=lpW _ _ u5v
theorem t4g x:u1x x=u5v u1x x:=zW u55 10031 f99 2 19 x
def u65(x:Z83):Lj:=(u1x (x.1,x.2,(x.1.length:Int),0)).bind fun|.inl o3=>some (- 1:Int)|.inr z4=>some z4
theorem t54:u7b=u65:=zC 10031 func99
def u5r(x:Z83):La:=zK 10030 x
def u5h(x:Z83):La:=(u7b x).bind fun y1=>some (decide (y1>=0))
theorem t22:u5r=u5h:=zC 10030 func233
def t1c(x:Z83):La:=zK 10029 x
def s0u(x:Z83):La:=(u5r x).bind fun y1=>some y1
theorem r5p:t1c=s0u:=zC 10029 func153
def s90(x:o1q):La:=zK 263 x
def p2w(x:o1q):La:=(((r9y x).bind fun y1=>cond y1 ((s7z x).bind fun y2=>some y2) (some false)):La).bind fun j3=>cond j3 (some true) ((t1b (x.2,x.1)).bind fun y4=>cond y4 (some true) ((t1c (x.2,x)).bind fun y5=>some y5))
theorem o91:s90=p2w:=zC 263 func263
def r4f(x:Z94):Lj:=zK 186 x
def p7k(x:Z94):Lj:=(u84 x).bind fun y1=>cond (decide (y1<0)) (some (1:Int)) (cond (y4v y1 x.1.2.length) ((s70 x.1).bind fun y2=>(r5u (rdL u0a x.1.2 y1.toNat,y2)).bind fun y3=>cond y3 (some (4:Int)) (cond (y4v y1 x.1.2.length) ((s70 x.1).bind fun y4=>(s90 (rdL u0a x.1.2 y1.toNat,y4)).bind fun y5=>cond y5 (some (5:Int)) ((r92 x.1.1).bind fun y6=>cond y6 (some (3:Int)) (some (0:Int)))) none)) none)
theorem j3d:r4f=p7k:=zC 186 func186
def r9v(x:Z94):Ht Z14:=zK 115 x
def p2v(x:Z94):Ht Z14:=(r4f x).bind fun y1=>cond (!decide (y1=0)) ((t00 x).bind fun y2=>some (y2.1,(0,(0,0,0,0,([]:Li),([]:Lh),false,(⟨#[]⟩:Hs)),(⟨#[]⟩:Hs),false,([]:Lf),([]:Lc),([]:Lc),0,0),y1)) ((u84 x).bind fun y3=>cond (y4v y3 x.1.2.length) ((u9f x).bind fun y4=>(u9e (y4.1,rdL u0a x.1.2 y3.toNat)).bind fun y5=>cond (y4v (i64.wrap ((y5.2.1.length:Int) - (1:Int))) y5.2.1.length) ((u2n (rdL u0a y5.2.1 (i64.wrap ((y5.2.1.length:Int) - (1:Int))).toNat)).bind fun y6=>(u2l (y5,y4.2)).bind fun y7=>some ((y7,y4.2),(1,y6,(⟨#[]⟩:Hs),false,([]:Lf),([]:Lc),([]:Lc),0,0),0)) none) none)
theorem o90:r9v=p2v:=zC 115 func115
def t90(x:Z12):Ht Z66:=zK 122 x
def r6k(x:Z12):Ht Z66:=(u4j x.1).bind fun y1=>(u43 x.2).bind fun y2=>cond (!y2.2) (some (y1,false)) ((t5j (x.1.2,y2.1)).bind fun y3=>cond y3.2 (some ((y1.1,y3.1),true)) ((r91 x.1.2).bind fun y4=>cond y4.2 ((t5j (y4.1,y2.1)).bind fun y5=>cond y5.2 (some ((y1.1,y5.1),true)) (some (y1,false))) (some (y1,false))))
theorem p6b:t90=r6k:=zC 122 func122
def p2f(x:Z1):Ht Z67:=zK 116 x
def p1w(x:Z1):Ht Z67:=(u4j x.1).bind fun y1=>cond (!decide (x.2.2.2.2=0)) (some ((x.2.2.1,y1.2),x.2.2.2.2)) ((t90 ((x.2.2.1,y1.2),x.2.2.2.1)).bind fun y2=>cond y2.2 (some (y2.1,0)) ((t00 (x.1.1,x.2.1)).bind fun y3=>some ((y3.1,y1.2),3)))
theorem o2y:p2f=p1w:=zC 116 func116
def s42(x:Z67):Ht Z67:=zK 63 x
def r3b(x:Z67):Ht Z67:=(r9v (x.1.1,x.2)).bind fun y1=>(p2f (x.1,x.2,y1)).bind fun y2=>some y2
theorem p38:s42=r3b:=zC 63 func63
def u9w(x:Z19):Ht Z43:=zK 64 x
def r0t(x:Z19):Ht Z43:=(u2n x.2).bind fun y1=>cond (Nat.ble (x.1.2.1.length+([(y1.1,3,y1.2.2.1,x.1.1.1.1.2.2.2.1,y1.2.2.2.2.1,y1.2.2.2.2.2.1,y1.2.2.2.2.2.2.1,(⟨#[]⟩:Hs))]:Lc).length) z7z) (some (x.1.1,x.1.2.1++([(y1.1,3,y1.2.2.1,x.1.1.1.1.2.2.2.1,y1.2.2.2.2.1,y1.2.2.2.2.2.1,y1.2.2.2.2.2.2.1,(⟨#[]⟩:Hs))]:Lc),x.1.2.2)) none
theorem p1z:u9w=r0t:=zC 64 func64
def u82(x:Z76):La:=zK 269 x
def s0f(x:Z76):La:=(((u4c x.1).bind fun y1=>cond y1 ((u42 (x.2,x.1)).bind fun y2=>some y2) (some false)):La).bind fun j3=>some j3
theorem s89:u82=s0f:=zC 269 func269
def u4q(x:s9t):Lj:=zK 10040 x
def u3y(g:j1x->Ht r6g)(x:j1x):Ht r6g:=cond (decide (x.2.2.2<x.2.2.1)) (cond (y4v x.2.2.2 x.1.length) ((u82 (rdL u0a x.1 x.2.2.2.toNat,x.2.1)).bind fun y1=>cond y1 (some (.inr x.2.2.2)) (g (x.1,x.2.1,x.2.2.1,i64.wrap (x.2.2.2+1)))) none) (some (.inl ()))
def u07:=lpW _ _ u3y
theorem t04 x:u07 x=u3y u07 x:=zW u35 10040 f99 2 19 x
def u4m(x:s9t):Lj:=(u07 (x.1,x.2,(x.1.length:Int),0)).bind fun|.inl o3=>some (- 1:Int)|.inr z4=>some z4
theorem t1o:u4q=u4m:=zC 10040 func99
def u3s(x:s9t):La:=zK 10039 x
def u3p(x:s9t):La:=(u4q x).bind fun y1=>some (decide (y1>=0))
theorem u97:u3s=u3p:=zC 10039 func233
def u7x(x:s9t):La:=zK 10038 x
def t3b(x:s9t):La:=(u3s x).bind fun y1=>some y1
theorem s7n:u7x=t3b:=zC 10038 func153
def u91(x:Z36):La:=zK 272 x
def s5o(x:Z36):La:=(((u4c x.1).bind fun y1=>cond y1 (cond (!decide (x.1.1=x.2.1.1)) ((u42 (x.2.2,x.1)).bind fun y2=>some y2) (some false)) (some false)):La).bind fun j3=>some j3
theorem q36:u91=s5o:=zC 272 func272
def u38(x:Z57):Lj:=zK 10046 x
def u3j(g:Z53->Ht r6g)(x:Z53):Ht r6g:=cond (decide (x.2.2.2<x.2.2.1)) (cond (y4v x.2.2.2 x.1.length) ((u91 (rdL u0a x.1 x.2.2.2.toNat,x.2.1)).bind fun y1=>cond y1 (some (.inr x.2.2.2)) (g (x.1,x.2.1,x.2.2.1,i64.wrap (x.2.2.2+1)))) none) (some (.inl ()))
def u04:=lpW _ _ u3j
theorem u94 x:u04 x=u3j u04 x:=zW u3l 10046 f99 2 19 x
def u33(x:Z57):Lj:=(u04 (x.1,x.2,(x.1.length:Int),0)).bind fun|.inl o3=>some (- 1:Int)|.inr z4=>some z4
theorem t0y:u38=u33:=zC 10046 func99
def u3d(x:Z57):La:=zK 10045 x
def u3b(x:Z57):La:=(u38 x).bind fun y1=>some (decide (y1>=0))
theorem u9s:u3d=u3b:=zC 10045 func233
def u6y(x:Z57):La:=zK 10044 x
def t1j(x:Z57):La:=(u3d x).bind fun y1=>some y1
theorem s5m:u6y=t1j:=zC 10044 func153
def t11(x:Z25):La:=zK 271 x
def s83(x:Z25):La:=(u82 (x.1,x.2.1)).bind fun y1=>cond y1 ((u6y (x.2.2.1,x.2.2.2,x.1)).bind fun y2=>some y2) (some false)
theorem q8h:t11=s83:=zC 271 func271
def u4r(x:Z45):Lj:=zK 10043 x
def u3z(g:Z37->Ht r6g)(x:Z37):Ht r6g:=cond (decide (x.2.2.2<x.2.2.1)) (cond (y4v x.2.2.2 x.1.length) ((t11 (rdL u0a x.1 x.2.2.2.toNat,x.2.1)).bind fun y1=>cond y1 (some (.inr x.2.2.2)) (g (x.1,x.2.1,x.2.2.1,i64.wrap (x.2.2.2+1)))) none) (some (.inl ()))
def u08:=lpW _ _ u3z
theorem t05 x:u08 x=u3z u08 x:=zW u36 10043 f99 2 19 x
def u4n(x:Z45):Lj:=(u08 (x.1,x.2,(x.1.length:Int),0)).bind fun|.inl o3=>some (- 1:Int)|.inr z4=>some z4
theorem t1p:u4r=u4n:=zC 10043 func99
def u3t(x:Z45):La:=zK 10042 x
def u3q(x:Z45):La:=(u4r x).bind fun y1=>some (decide (y1>=0))
theorem u98:u3t=u3q:=zC 10042 func233
def u37(x:Z45):La:=zK 10041 x
def t3c(x:Z45):La:=(u3t x).bind fun y1=>some y1
theorem s7o:u37=t3c:=zC 10041 func153
def s40(x:o1q):La:=zK 193 x
def r3a(x:o1q):La:=(s90 x).bind fun y1=>cond y1 (some true) ((r9y x).bind fun y2=>cond y2 ((u7x (x.2,x.1)).bind fun y3=>cond y3 (some true) ((u37 (x.2,x.1,x.2,x.1)).bind fun y4=>some y4)) ((u37 (x.2,x.1,x.2,x.1)).bind fun y5=>some y5))
theorem p37:s40=r3a:=zC 193 func193
def r5x(x:Z81):Ht Z14:=zK 119 x
def q86(x:Z81):Ht Z14:=(u84 (x.1,x.2.1)).bind fun y1=>cond (decide (y1<0)) ((u11 x.1).bind fun y2=>some (y2,(0,(0,0,0,0,([]:Li),([]:Lh),false,(⟨#[]⟩:Hs)),(⟨#[]⟩:Hs),false,([]:Lf),([]:Lc),([]:Lc),0,0),1)) ((u9d x.2.2).bind fun y3=>cond (!y3) ((u11 x.1).bind fun y4=>some (y4,(0,(0,0,0,0,([]:Li),([]:Lh),false,(⟨#[]⟩:Hs)),(⟨#[]⟩:Hs),false,([]:Lf),([]:Lc),([]:Lc),0,0),2)) ((u2e (x.1.1,x.2.2)).bind fun y5=>cond (decide (y5>=0)) ((u11 x.1).bind fun y6=>some (y6,(0,(0,0,0,0,([]:Li),([]:Lh),false,(⟨#[]⟩:Hs)),(⟨#[]⟩:Hs),false,([]:Lf),([]:Lc),([]:Lc),0,0),6)) ((r4f (x.1,x.2.1)).bind fun y7=>((cond (decide (y7=0)) (cond (y4v y1 x.1.2.length) ((s70 x.1).bind fun y8=>(s40 (rdL u0a x.1.2 y1.toNat,y8)).bind fun y9=>some y9) none) (some false)):La).bind fun j10=>cond j10 (((cond (decide ((5:Int)=(0:Int))) (some (decide ((x.1.1.2.2.1.length:Int)>=(3:Int)))) (some false)):La).bind fun j11=>cond j11 (cond (!decide ((3:Int)=(0:Int))) ((t00 (x.1,x.2.1)).bind fun y12=>some (y12.1,(0,(0,0,0,0,([]:Li),([]:Lh),false,(⟨#[]⟩:Hs)),(⟨#[]⟩:Hs),false,([]:Lf),([]:Lc),([]:Lc),0,0),3)) ((u9f (x.1,x.2.1)).bind fun y13=>cond (y4v y1 x.1.2.length) ((u8o (y13.1,rdL u0a x.1.2 y1.toNat,x.2.2)).bind fun y14=>(u2e (y14,x.2.2)).bind fun y15=>cond (y4v y15 y14.2.2.1.length) ((u2n (rdL u0a y14.2.2.1 y15.toNat)).bind fun y16=>(u2l (y14,y13.2)).bind fun y17=>some ((y17,y13.2),(2,y16,(⟨#[]⟩:Hs),false,([]:Lf),([]:Lc),([]:Lc),0,0),0)) none) none)) (cond (!decide ((5:Int)=(0:Int))) ((t00 (x.1,x.2.1)).bind fun y18=>some (y18.1,(0,(0,0,0,0,([]:Li),([]:Lh),false,(⟨#[]⟩:Hs)),(⟨#[]⟩:Hs),false,([]:Lf),([]:Lc),([]:Lc),0,0),5)) ((u9f (x.1,x.2.1)).bind fun y19=>cond (y4v y1 x.1.2.length) ((u8o (y19.1,rdL u0a x.1.2 y1.toNat,x.2.2)).bind fun y20=>(u2e (y20,x.2.2)).bind fun y21=>cond (y4v y21 y20.2.2.1.length) ((u2n (rdL u0a y20.2.2.1 y21.toNat)).bind fun y22=>(u2l (y20,y19.2)).bind fun y23=>some ((y23,y19.2),(2,y22,(⟨#[]⟩:Hs),false,([]:Lf),([]:Lc),([]:Lc),0,0),0)) none) none))) (((cond (decide (y7=0)) (some (decide ((x.1.1.2.2.1.length:Int)>=(3:Int)))) (some false)):La).bind fun j24=>cond j24 (cond (!decide ((3:Int)=(0:Int))) ((t00 (x.1,x.2.1)).bind fun y25=>some (y25.1,(0,(0,0,0,0,([]:Li),([]:Lh),false,(⟨#[]⟩:Hs)),(⟨#[]⟩:Hs),false,([]:Lf),([]:Lc),([]:Lc),0,0),3)) ((u9f (x.1,x.2.1)).bind fun y26=>cond (y4v y1 x.1.2.length) ((u8o (y26.1,rdL u0a x.1.2 y1.toNat,x.2.2)).bind fun y27=>(u2e (y27,x.2.2)).bind fun y28=>cond (y4v y28 y27.2.2.1.length) ((u2n (rdL u0a y27.2.2.1 y28.toNat)).bind fun y29=>(u2l (y27,y26.2)).bind fun y30=>some ((y30,y26.2),(2,y29,(⟨#[]⟩:Hs),false,([]:Lf),([]:Lc),([]:Lc),0,0),0)) none) none)) (cond (!decide (y7=0)) ((t00 (x.1,x.2.1)).bind fun y31=>some (y31.1,(0,(0,0,0,0,([]:Li),([]:Lh),false,(⟨#[]⟩:Hs)),(⟨#[]⟩:Hs),false,([]:Lf),([]:Lc),([]:Lc),0,0),y7)) ((u9f (x.1,x.2.1)).bind fun y32=>cond (y4v y1 x.1.2.length) ((u8o (y32.1,rdL u0a x.1.2 y1.toNat,x.2.2)).bind fun y33=>(u2e (y33,x.2.2)).bind fun y34=>cond (y4v y34 y33.2.2.1.length) ((u2n (rdL u0a y33.2.2.1 y34.toNat)).bind fun y35=>(u2l (y33,y32.2)).bind fun y36=>some ((y36,y32.2),(2,y35,(⟨#[]⟩:Hs),false,([]:Lf),([]:Lc),([]:Lc),0,0),0)) none) none))))))
theorem o5v:r5x=q86:=zC 119 func119
def s3b(x:Z62):Ht Z67:=zK 66 x
def r0s(x:Z62):Ht Z67:=(r5x (x.1.1,x.2)).bind fun y1=>(p2f (x.1,x.2.1,y1)).bind fun y2=>some y2
theorem p1y:s3b=r0s:=zC 66 func66
def r9w(x:Z80):Ht Z14:=zK 121 x
def p2y(x:Z80):Ht Z14:=(u11 x.1).bind fun y1=>(u2e (x.1.1,x.2.1)).bind fun y2=>cond (decide (y2<0)) (some (y1,(0,(0,0,0,0,([]:Li),([]:Lh),false,(⟨#[]⟩:Hs)),(⟨#[]⟩:Hs),false,([]:Lf),([]:Lc),([]:Lc),0,0),1)) (((cond x.2.2 ((r92 x.1.1).bind fun y3=>some y3) (some false)):La).bind fun j4=>cond j4 (some (y1,(0,(0,0,0,0,([]:Li),([]:Lh),false,(⟨#[]⟩:Hs)),(⟨#[]⟩:Hs),false,([]:Lf),([]:Lc),([]:Lc),0,0),3)) (cond x.2.2 (cond (y4v y2 x.1.1.2.2.1.length) ((u9e (x.1.1,rdL u0a x.1.1.2.2.1 y2.toNat)).bind fun y5=>(u2l (y5,x.1.2)).bind fun y6=>some ((y6,y1.2),(3,(0,0,0,0,([]:Li),([]:Lh),false,(⟨#[]⟩:Hs)),x.2.1,x.2.2,([]:Lf),([]:Lc),([]:Lc),0,0),0)) none) ((s0y (x.1.1,x.2.1)).bind fun y7=>(u2l (y7,x.1.2)).bind fun y8=>some ((y8,y1.2),(3,(0,0,0,0,([]:Li),([]:Lh),false,(⟨#[]⟩:Hs)),x.2.1,x.2.2,([]:Lf),([]:Lc),([]:Lc),0,0),0))))
theorem o93:r9w=p2y:=zC 121 func121
def t67(x:Z61):Ht Z67:=zK 68 x
def r3c(x:Z61):Ht Z67:=(r9w (x.1.1,x.2)).bind fun y1=>cond (!decide (y1.2.2=0)) ((u4j x.1).bind fun y2=>some (y2,y1.2.2)) ((u4j x.1).bind fun y3=>(t90 ((y1.1,y3.2),y1.2.1)).bind fun y4=>cond (!y4.2) ((u4j x.1).bind fun y5=>some (y5,3)) (some (y4.1,0)))
theorem p39:t67=r3c:=zC 68 func68
def t93(x:Z24):Ht Z42:=zK 33 x
def r6q(x:Z24):Ht Z42:=cond (decide (x.2.1=6)) ((u84 (x.1.1.1,x.2.2.1)).bind fun y1=>(s42 (x.1.1,x.2.2.1)).bind fun y2=>cond (decide (y2.2=0)) (cond (y4v y1 x.1.1.1.2.length) ((u9w ((y2.1,x.1.2),rdL u0a x.1.1.1.2 y1.toNat)).bind fun y3=>some (y2.2,y3)) none) (some (y2.2,y2.1,x.1.2))) (cond (decide (x.2.1=7)) ((t00 (x.1.1.1,x.2.2.1)).bind fun y4=>some (y4.2,(y4.1,x.1.1.2),x.1.2)) (cond (decide (x.2.1=8)) ((s3b (x.1.1,x.2.2.1,x.2.2.2.1)).bind fun y5=>some (y5.2,y5.1,x.1.2)) ((u2e (x.1.1.1.1,x.2.2.2.1)).bind fun y6=>(t67 (x.1.1,x.2.2.2.1,decide (x.2.1=9))).bind fun y7=>((cond (decide (y7.2=0)) (some (decide (x.2.1=9))) (some false)):La).bind fun j8=>cond j8 (cond (y4v y6 x.1.1.1.1.2.2.1.length) ((u9w ((y7.1,x.1.2),rdL u0a x.1.1.1.1.2.2.1 y6.toNat)).bind fun y9=>some (y7.2,y9)) none) (some (y7.2,y7.1,x.1.2)))))
theorem p6h:t93=r6q:=zC 33 func33
def t5l(x:Z24):Ht Z43:=zK 7 x
def s8e(x:Z24):Ht Z43:=(s8o x.1).bind fun y1=>(s6x x.2).bind fun y2=>cond (!y2) (some y1) (cond (decide (x.2.1=1)) ((q6y y1.1.1).bind fun y3=>cond (decide (y3.2.2=0)) ((r5v y3.2.1).bind fun y4=>cond (Nat.ble (y1.2.2.1.length+([y3.2.2]:Ld).length) z7z) (cond (Nat.ble (y1.2.2.2.length+([y4]:Lg).length) z7z) (some ((y3.1,y1.1.2),y1.2.1,y1.2.2.1++([y3.2.2]:Ld),y1.2.2.2++([y4]:Lg))) none) none) (cond (Nat.ble (y1.2.2.1.length+([y3.2.2]:Ld).length) z7z) (cond (Nat.ble (y1.2.2.2.length+([(⟨#[]⟩:Hs)]:Lg).length) z7z) (some ((y3.1,y1.1.2),y1.2.1,y1.2.2.1++([y3.2.2]:Ld),y1.2.2.2++([(⟨#[]⟩:Hs)]:Lg))) none) none)) (cond (decide (x.2.1=2)) (cond (decide (x.2.1=2)) ((t69 (y1,x.2)).bind fun y5=>cond (Nat.ble (y5.2.2.2.2.1.length+([y5.2.1]:Ld).length) z7z) (cond (Nat.ble (y5.2.2.2.2.2.length+([y5.1]:Lg).length) z7z) (some (y5.2.2.1,y5.2.2.2.1,y5.2.2.2.2.1++([y5.2.1]:Ld),y5.2.2.2.2.2++([y5.1]:Lg))) none) none) (cond (decide (x.2.1=4)) ((t91 (y1.1.1,x.2.2.1,x.2.2.2.1,x.2.2.2.2.1,false)).bind fun y6=>cond (Nat.ble (y1.2.2.1.length+([y6.2]:Ld).length) z7z) (cond (Nat.ble (y1.2.2.2.length+([(⟨#[]⟩:Hs)]:Lg).length) z7z) (some ((y6.1,y1.1.2),y1.2.1,y1.2.2.1++([y6.2]:Ld),y1.2.2.2++([(⟨#[]⟩:Hs)]:Lg))) none) none) (cond (decide (x.2.1=5)) ((t91 (y1.1.1,x.2.2.1,x.2.2.2.1,(⟨#[]⟩:Hs),true)).bind fun y7=>cond (Nat.ble (y1.2.2.1.length+([y7.2]:Ld).length) z7z) (cond (Nat.ble (y1.2.2.2.length+([(⟨#[]⟩:Hs)]:Lg).length) z7z) (some ((y7.1,y1.1.2),y1.2.1,y1.2.2.1++([y7.2]:Ld),y1.2.2.2++([(⟨#[]⟩:Hs)]:Lg))) none) none) (cond (decide (x.2.1=11)) ((s4y y1.1).bind fun y8=>cond (!y8.2) (cond (Nat.ble (y1.2.2.1.length+([(3:Int)]:Ld).length) z7z) (cond (Nat.ble (y1.2.2.2.length+([(⟨#[]⟩:Hs)]:Lg).length) z7z) (some (y8.1,y1.2.1,y1.2.2.1++([(3:Int)]:Ld),y1.2.2.2++([(⟨#[]⟩:Hs)]:Lg))) none) none) (cond (Nat.ble (y1.2.2.1.length+([(0:Int)]:Ld).length) z7z) (cond (Nat.ble (y1.2.2.2.length+([(⟨#[]⟩:Hs)]:Lg).length) z7z) (some (y8.1,y1.2.1,y1.2.2.1++([(0:Int)]:Ld),y1.2.2.2++([(⟨#[]⟩:Hs)]:Lg))) none) none)) (cond (decide (x.2.1=12)) ((t68 (y1,x.2)).bind fun y9=>cond (Nat.ble (y9.2.2.2.1.length+([y9.1]:Ld).length) z7z) (cond (Nat.ble (y9.2.2.2.2.length+([(⟨#[]⟩:Hs)]:Lg).length) z7z) (some (y9.2.1,y9.2.2.1,y9.2.2.2.1++([y9.1]:Ld),y9.2.2.2.2++([(⟨#[]⟩:Hs)]:Lg))) none) none) ((t93 (y1,x.2)).bind fun y10=>cond (Nat.ble (y10.2.2.2.1.length+([y10.1]:Ld).length) z7z) (cond (Nat.ble (y10.2.2.2.2.length+([(⟨#[]⟩:Hs)]:Lg).length) z7z) (some (y10.2.1,y10.2.2.1,y10.2.2.2.1++([y10.1]:Ld),y10.2.2.2.2++([(⟨#[]⟩:Hs)]:Lg))) none) none)))))) (cond (decide (x.2.1=3)) ((t69 (y1,x.2)).bind fun y11=>cond (Nat.ble (y11.2.2.2.2.1.length+([y11.2.1]:Ld).length) z7z) (cond (Nat.ble (y11.2.2.2.2.2.length+([y11.1]:Lg).length) z7z) (some (y11.2.2.1,y11.2.2.2.1,y11.2.2.2.2.1++([y11.2.1]:Ld),y11.2.2.2.2.2++([y11.1]:Lg))) none) none) (cond (decide (x.2.1=4)) ((t91 (y1.1.1,x.2.2.1,x.2.2.2.1,x.2.2.2.2.1,false)).bind fun y12=>cond (Nat.ble (y1.2.2.1.length+([y12.2]:Ld).length) z7z) (cond (Nat.ble (y1.2.2.2.length+([(⟨#[]⟩:Hs)]:Lg).length) z7z) (some ((y12.1,y1.1.2),y1.2.1,y1.2.2.1++([y12.2]:Ld),y1.2.2.2++([(⟨#[]⟩:Hs)]:Lg))) none) none) (cond (decide (x.2.1=5)) ((t91 (y1.1.1,x.2.2.1,x.2.2.2.1,(⟨#[]⟩:Hs),true)).bind fun y13=>cond (Nat.ble (y1.2.2.1.length+([y13.2]:Ld).length) z7z) (cond (Nat.ble (y1.2.2.2.length+([(⟨#[]⟩:Hs)]:Lg).length) z7z) (some ((y13.1,y1.1.2),y1.2.1,y1.2.2.1++([y13.2]:Ld),y1.2.2.2++([(⟨#[]⟩:Hs)]:Lg))) none) none) (cond (decide (x.2.1=11)) ((s4y y1.1).bind fun y14=>cond (!y14.2) (cond (Nat.ble (y1.2.2.1.length+([(3:Int)]:Ld).length) z7z) (cond (Nat.ble (y1.2.2.2.length+([(⟨#[]⟩:Hs)]:Lg).length) z7z) (some (y14.1,y1.2.1,y1.2.2.1++([(3:Int)]:Ld),y1.2.2.2++([(⟨#[]⟩:Hs)]:Lg))) none) none) (cond (Nat.ble (y1.2.2.1.length+([(0:Int)]:Ld).length) z7z) (cond (Nat.ble (y1.2.2.2.length+([(⟨#[]⟩:Hs)]:Lg).length) z7z) (some (y14.1,y1.2.1,y1.2.2.1++([(0:Int)]:Ld),y1.2.2.2++([(⟨#[]⟩:Hs)]:Lg))) none) none)) (cond (decide (x.2.1=12)) ((t68 (y1,x.2)).bind fun y15=>cond (Nat.ble (y15.2.2.2.1.length+([y15.1]:Ld).length) z7z) (cond (Nat.ble (y15.2.2.2.2.length+([(⟨#[]⟩:Hs)]:Lg).length) z7z) (some (y15.2.1,y15.2.2.1,y15.2.2.2.1++([y15.1]:Ld),y15.2.2.2.2++([(⟨#[]⟩:Hs)]:Lg))) none) none) ((t93 (y1,x.2)).bind fun y16=>cond (Nat.ble (y16.2.2.2.1.length+([y16.1]:Ld).length) z7z) (cond (Nat.ble (y16.2.2.2.2.length+([(⟨#[]⟩:Hs)]:Lg).length) z7z) (some (y16.2.1,y16.2.2.1,y16.2.2.2.1++([y16.1]:Ld),y16.2.2.2.2++([(⟨#[]⟩:Hs)]:Lg))) none) none))))))))
theorem q1u:t5l=s8e:=zC 7 func7
def s7f(x:Z43):Ht Z43:=zK 34 x
def r5k(x:Z43):Ht Z43:=(s7e x.1).bind fun y1=>(t5x x.2.1).bind fun y2=>cond (Nat.ble (([]:Ld).length+x.2.2.1.length) z7z) (cond (Nat.ble (([]:Lg).length+x.2.2.2.length) z7z) (some (y1,y2,([]:Ld)++x.2.2.1,([]:Lg)++x.2.2.2)) none) none
theorem p0y:s7f=r5k:=zC 34 func34
def s21(x:Z24):Ht Z43:=zK 8 x
def s8g(x:Z24):Ht Z43:=(s7f x.1).bind fun y1=>(s03 x.2).bind fun y2=>cond (!y2) (some y1) ((s73 (y1,x.2)).bind fun y3=>cond (Nat.ble (y3.2.2.2.2.1.length+([y3.1]:Ld).length) z7z) (cond (Nat.ble (y3.2.2.2.2.2.length+([y3.2.1]:Lg).length) z7z) (some (y3.2.2.1,y3.2.2.2.1,y3.2.2.2.2.1++([y3.1]:Ld),y3.2.2.2.2.2++([y3.2.1]:Lg))) none) none)
theorem q1w:s21=s8g:=zC 8 func8
def s53(x:d7s):La:=zK 229 x
def t3m(g:d7r->Ht r0k)(x:d7r):Ht r0k:=cond (decide (x.2.2<(x.1.length:Int))) (cond (y4v x.2.2 x.1.length) (cond (y4v x.2.2 x.2.1.length) (cond (!(z7q (rdL u12 x.1 x.2.2.toNat).1 (rdL u12 x.2.1 x.2.2.toNat).1&&(z7q (rdL u12 x.1 x.2.2.toNat).2.1 (rdL u12 x.2.1 x.2.2.toNat).2.1&&(((rdL u12 x.1 x.2.2.toNat).2.2==(rdL u12 x.2.1 x.2.2.toNat).2.2)&&true)))) (some (.inr false)) (g (x.1,x.2.1,i64.wrap (x.2.2+1)))) none) none) (some (.inl ()))
def t3x:=lpW _ _ t3m
theorem r2s x:t3x x=t3m t3x x:=zW r09 229 f229 4 26 x
def r6w(x:d7s):La:=cond (!decide ((x.1.length:Int)=(x.2.length:Int))) (some false) ((t3x (x.1,x.2,0)).bind fun|.inl o2=>some true|.inr z3=>some z3)
theorem p6n:s53=r6w:=zC 229 func229
def r51(x:Z76):La:=zK 145 x
def s1o(g:Z72->Ht r0k)(x:Z72):Ht r0k:=cond (decide (x.2.2<(x.1.2.2.2.2.1.length:Int))) (cond (y4v x.2.2 x.1.2.2.2.2.1.length) (cond (y4v x.2.2 x.2.1.2.2.2.2.1.length) (cond (!(z7q (rdL r0f x.1.2.2.2.2.1 x.2.2.toNat).1 (rdL r0f x.2.1.2.2.2.2.1 x.2.2.toNat).1&&(z7q (rdL r0f x.1.2.2.2.2.1 x.2.2.toNat).2 (rdL r0f x.2.1.2.2.2.2.1 x.2.2.toNat).2&&true))) (some (.inr false)) (g (x.1,x.2.1,i64.wrap (x.2.2+1)))) none) none) (some (.inl ()))
def t4t:=lpW _ _ s1o
theorem q3f x:t4t x=s1o t4t x:=zW q2a 145 f145 4 81 x
def q9k(x:Z76):La:=((cond (!decide (x.1.1=x.2.1)) (some true) (cond (!decide (x.1.2.1=x.2.2.1)) (some true) (cond (!decide (x.1.2.2.1=x.2.2.2.1)) (some true) (cond (!decide (x.1.2.2.2.1=x.2.2.2.2.1)) (some true) (cond (!(x.1.2.2.2.2.2.2.1==x.2.2.2.2.2.2.2.1)) (some true) (cond (!z7q x.1.2.2.2.2.2.2.2 x.2.2.2.2.2.2.2.2) (some true) (cond (!decide ((x.1.2.2.2.2.1.length:Int)=(x.2.2.2.2.2.1.length:Int))) (some true) ((s53 (x.1.2.2.2.2.2.1,x.2.2.2.2.2.2.1)).bind fun y1=>some (!y1))))))))):La).bind fun j2=>cond j2 (some false) ((t4t (x.1,x.2,0)).bind fun|.inl o4=>some true|.inr z5=>some z5)
theorem o6b:r51=q9k:=zC 145 func145
def t79(x:c2h):La:=zK 77 x
def t80(g:c0a->Ht r0k)(x:c0a):Ht r0k:=cond (decide (x.2.2<(x.1.length:Int))) (cond (y4v x.2.2 x.1.length) (cond (y4v x.2.2 x.2.1.length) ((r51 (rdL u0a x.1 x.2.2.toNat,rdL u0a x.2.1 x.2.2.toNat)).bind fun y1=>cond (!y1) (some (.inr false)) (g (x.1,x.2.1,i64.wrap (x.2.2+1)))) none) none) (some (.inl ()))
def t9q:=lpW _ _ t80
theorem r8s x:t9q x=t80 t9q x:=zW r7r 77 f77 4 27 x
def q5g(x:c2h):La:=cond (!decide ((x.1.length:Int)=(x.2.length:Int))) (some false) ((t9q (x.1,x.2,0)).bind fun|.inl o3=>some true|.inr z4=>some z4)
theorem o24:t79=q5g:=zC 77 func77
def s3c(x:c5e):La:=zK 144 x
def t0o(g:c2l->Ht r0k)(x:c2l):Ht r0k:=cond (decide (x.2.2<(x.1.length:Int))) (cond (y4v x.2.2 x.1.length) (cond (y4v x.2.2 x.2.1.length) (cond (!(z7q (rdL u0h x.1 x.2.2.toNat).1 (rdL u0h x.2.1 x.2.2.toNat).1&&(z7q (rdL u0h x.1 x.2.2.toNat).2.1 (rdL u0h x.2.1 x.2.2.toNat).2.1&&(((rdL u0h x.1 x.2.2.toNat).2.2.1==(rdL u0h x.2.1 x.2.2.toNat).2.2.1)&&(decide ((rdL u0h x.1 x.2.2.toNat).2.2.2=(rdL u0h x.2.1 x.2.2.toNat).2.2.2)&&true))))) (some (.inr false)) (g (x.1,x.2.1,i64.wrap (x.2.2+1)))) none) none) (some (.inl ()))
def t0t:=lpW _ _ t0o
theorem s8a x:t0t x=t0o t0t x:=zW s7r 144 f144 4 26 x
def r0w(x:c5e):La:=cond (!decide ((x.1.length:Int)=(x.2.length:Int))) (some false) ((t0t (x.1,x.2,0)).bind fun|.inl o2=>some true|.inr z3=>some z3)
theorem p12:s3c=r0w:=zC 144 func144
def r1x(x:Z56):La:=zK 76 x
def q5d(x:Z56):La:=(((s3c (x.1.1,x.2.1)).bind fun y1=>cond y1 ((t79 (x.1.2.1,x.2.2.1)).bind fun y2=>cond y2 ((t79 (x.1.2.2.1,x.2.2.2.1)).bind fun y3=>cond y3 (cond (decide (x.1.2.2.2.1=x.2.2.2.2.1)) (some (decide (x.1.2.2.2.2=x.2.2.2.2.2))) (some false)) (some false)) (some false)) (some false)):La).bind fun j4=>some j4
theorem o21:r1x=q5d:=zC 76 func76
def s52(x:Z28):La:=zK 36 x
def r6v(x:Z28):La:=(((r1x (x.1.1,x.2.1)).bind fun y1=>cond y1 ((t79 (x.1.2,x.2.2)).bind fun y2=>some y2) (some false)):La).bind fun j3=>some j3
theorem p6m:s52=r6v:=zC 36 func36
def t5p(x:c0q):La:=zK 11 x
def u74(g:c0l->Ht r0k)(x:c0l):Ht r0k:=cond (decide (x.2.2<(x.1.length:Int))) (cond (y4v x.2.2 x.1.length) (cond (y4v x.2.2 x.2.1.length) (cond (!z7q (rdL Ty.str x.1 x.2.2.toNat) (rdL Ty.str x.2.1 x.2.2.toNat)) (some (.inr false)) (g (x.1,x.2.1,i64.wrap (x.2.2+1)))) none) none) (some (.inl ()))
def u77:=lpW _ _ u74
theorem t7e x:u77 x=u74 u77 x:=zW r32 11 f11 4 26 x
def s8f(x:c0q):La:=cond (!decide ((x.1.length:Int)=(x.2.length:Int))) (some false) ((u77 (x.1,x.2,0)).bind fun|.inl o2=>some true|.inr z3=>some z3)
theorem q1v:t5p=s8f:=zC 11 func11
def r1y(x:d21):La:=zK 37 x
def t8y(g:d97->Ht r0k)(x:d97):Ht r0k:=cond (decide (x.2.2<(x.1.2.length:Int))) (cond (y4v x.2.2 x.1.2.length) (cond (y4v x.2.2 x.2.1.2.length) (cond (!(decide ((rdL s5n x.1.2 x.2.2.toNat).1=(rdL s5n x.2.1.2 x.2.2.toNat).1)&&(z7q (rdL s5n x.1.2 x.2.2.toNat).2 (rdL s5n x.2.1.2 x.2.2.toNat).2&&true))) (some (.inr false)) (g (x.1,x.2.1,i64.wrap (x.2.2+1)))) none) none) (some (.inl ()))
def t9p:=lpW _ _ t8y
theorem r8q x:t9p x=t8y t9p x:=zW r7p 37 f37 4 39 x
def q5e(x:d21):La:=(((t5p (x.1.1,x.2.1)).bind fun y1=>cond (!y1) (some true) (some (!decide ((x.1.2.length:Int)=(x.2.2.length:Int))))):La).bind fun j2=>cond j2 (some false) ((t9p (x.1,x.2,0)).bind fun|.inl o4=>some true|.inr z5=>some z5)
theorem o22:r1y=q5e:=zC 37 func37
def t5o(x:Z15):La:=zK 9 x
def q1b(x:Z15):La:=(((s52 (x.1.1,x.2.1)).bind fun y1=>cond y1 ((r1y (x.1.2,x.2.2)).bind fun y2=>some y2) (some false)):La).bind fun j3=>some j3
theorem p92:t5o=q1b:=zC 9 func9
def r1z(x:(q4b×q4b)):La:=zK 10 x
def t8z(g:(q4b×d74)->Ht r0k)(x:(q4b×d74)):Ht r0k:=cond (decide (x.2.2<(x.1.length:Int))) (cond (y4v x.2.2 x.1.length) (cond (y4v x.2.2 x.2.1.length) (cond (!decide ((rdL (Ty.int .i64) x.1 x.2.2.toNat)=(rdL (Ty.int .i64) x.2.1 x.2.2.toNat))) (some (.inr false)) (g (x.1,x.2.1,i64.wrap (x.2.2+1)))) none) none) (some (.inl ()))
def t18:=lpW _ _ t8z
theorem r8r x:t18 x=t8z t18 x:=zW r7q 10 f10 4 26 x
def q5f(x:(q4b×q4b)):La:=cond (!decide ((x.1.length:Int)=(x.2.length:Int))) (some false) ((t18 (x.1,x.2,0)).bind fun|.inl o2=>some true|.inr z3=>some z3)
theorem o23:r1z=q5f:=zC 10 func10
def s2x(x:(j9x×j9x)):La:=zK 12 x
def t6i(g:c5f->Ht r0k)(x:c5f):Ht r0k:=cond (decide (x.2.2<(x.1.length:Int))) (cond (y4v x.2.2 x.1.length) (cond (y4v x.2.2 x.2.1.length) (cond (!(z7q (rdL r0f x.1 x.2.2.toNat).1 (rdL r0f x.2.1 x.2.2.toNat).1&&(z7q (rdL r0f x.1 x.2.2.toNat).2 (rdL r0f x.2.1 x.2.2.toNat).2&&true))) (some (.inr false)) (g (x.1,x.2.1,i64.wrap (x.2.2+1)))) none) none) (some (.inl ()))
def t6x:=lpW _ _ t6i
theorem r4z x:t6x x=t6i t6x x:=zW r31 12 f12 4 26 x
def q1a(x:(j9x×j9x)):La:=cond (!decide ((x.1.length:Int)=(x.2.length:Int))) (some false) ((t6x (x.1,x.2,0)).bind fun|.inl o2=>some true|.inr z3=>some z3)
theorem p91:s2x=q1a:=zC 12 func12
def t4b(x:c41):Ht j9x:=zK 13 x
def s39(g:c4m->Ht d7z)(x:c4m):Ht d7z:=cond (decide (x.2.2.2.2<(x.2.2.2.1.length:Int))) (cond (y4v x.2.2.2.2 x.2.2.2.1.length) ((s98 (x.1,rdL Ty.str x.2.2.2.1 x.2.2.2.2.toNat,x.2.1)).bind fun y2=>cond y2.2 (cond (y4v x.2.2.2.2 x.2.2.2.1.length) (cond (Nat.ble (x.2.2.1.length+([(rdL Ty.str x.2.2.2.1 x.2.2.2.2.toNat,y2.1)]:Li).length) z7z) (g (x.1,x.2.1,x.2.2.1++([(rdL Ty.str x.2.2.2.1 x.2.2.2.2.toNat,y2.1)]:Li),x.2.2.2.1,i64.wrap (x.2.2.2.2+1))) none) none) (g (x.1,x.2.1,x.2.2.1,x.2.2.2.1,i64.wrap (x.2.2.2.2+1)))) none) (some (.inl x.2.2.1))
def s4j:=lpW _ _ s39
theorem q7v x:s4j x=s39 s4j x:=zW q6q 13 f13 4 43 x
def p3n(x:c41):Ht j9x:=(s7b (x.1,x.2.1)).bind fun y1=>(s4j (x.1,x.2.2,([]:Li),y1,0)).bind fun|.inl o4=>some o4|.inr z5=>none
theorem j0r:t4b=p3n:=zC 13 func13
def r0g(x:Unit):Ht d5d:=zK 14 x
def j8w(x:Unit):Ht d5d:=some ((⟨#[97]⟩:Hs),(⟨#[122,122,122]⟩:Hs))
theorem j83:r0g=j8w:=zC 14 func14
def q22(x:q4b):La:=zK 3 x
def q09(x:q4b):La:=(o8i x).bind fun y1=>cond y1 (some true) ((s0l x).bind fun y2=>(t5l y2).bind fun y3=>(s21 y2).bind fun y4=>((cond (decide ((y3.2.2.1.length:Int)>(0:Int))) (cond (decide ((y3.2.2.1.length:Int)>(y2.1.2.2.1.length:Int))) (cond (y4v (i64.wrap ((y3.2.2.1.length:Int) - (1:Int))) y3.2.2.1.length) (some (!decide ((rdL (Ty.int .i64) y3.2.2.1 (i64.wrap ((y3.2.2.1.length:Int) - (1:Int))).toNat)=0))) none) (some false)) (some false)):La).bind fun j5=>((cond (!decide (y2.2.1=6)) (some (!decide (y2.2.1=9))) (some false)):La).bind fun j6=>(((t5o (y3.1,y4.1)).bind fun y7=>cond y7 ((r1z (y3.2.2.1,y4.2.2.1)).bind fun y8=>cond y8 ((t5p (y3.2.2.2,y4.2.2.2)).bind fun y9=>cond y9 (cond (!j5) (cond (!j6) (some true) (cond (decide (y2.1.1.1.1.2.2.2.1=y3.1.1.1.2.2.2.1)) ((r0g ()).bind fun y10=>(t4b (y2.1.1.1.1.1,y10,y2.1.1.1.1.2.2.2.1)).bind fun y11=>(r0g ()).bind fun y12=>(t4b (y3.1.1.1.1,y12,y3.1.1.1.2.2.2.1)).bind fun y13=>(s2x (y11,y13)).bind fun y14=>some y14) (some false))) (cond (decide (y2.1.1.1.1.2.2.2.1=y3.1.1.1.2.2.2.1)) ((r0g ()).bind fun y15=>(t4b (y2.1.1.1.1.1,y15,y2.1.1.1.1.2.2.2.1)).bind fun y16=>(r0g ()).bind fun y17=>(t4b (y3.1.1.1.1,y17,y3.1.1.1.2.2.2.1)).bind fun y18=>(s2x (y16,y18)).bind fun y19=>some y19) (some false))) (some false)) (some false)) (some false)):La).bind fun j20=>some j20)
theorem p90:q22=q09:=zC 3 func3
end
end Go.Proofs.YtkphhjdbdnoekaaGreatDoor.Ab
