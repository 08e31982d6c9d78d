import Derived.Test.YtkphhjdbdnoekaaGreatAbWatchesG2
namespace Go.Proofs.YtkphhjdbdnoekaaGreat.Ab
open Go Tryz Go.IntKind
set_option linter.unusedVariables false
noncomputable section
set_option maxRecDepth 100000
def s20(x:q2i):Ht d1r:=zK 183 x
def u9a(g:Z39->Ht (c2f⊕Unit))(x:Z39):Ht (c2f⊕Unit):=cond (decide (x.2.2.2.2.2.2.2.2.2.2.2<x.2.2.2.2.2.2.2.2.2.2.1)) (cond (y4o x.2.2.2.2.2.2.2.2.2.2.2 x.2.2.2.2.2.2.2.2.2.1.length) (((cond x.2.2.2.2.2.1 (some true) (cond (!decide (x.2.2.2.2.2.2.2.2.2.2.2=x.2.2.2.1)) ((u2q (x.2.1,x.2.2.2.2.2.2.2.2.2.2.2)).bind fun y2=>cond (!y2) ((s8k (rdL u0a x.2.2.2.2.2.2.2.2.2.1 x.2.2.2.2.2.2.2.2.2.2.2.toNat,x.2.2.2.2.1)).bind fun y3=>some y3) (some false)) (some false))):La).bind fun j4=>g (x.1,x.2.1,x.2.2.1,x.2.2.2.1,x.2.2.2.2.1,j4,x.2.2.2.2.2.2.1,x.2.2.2.2.2.2.2.1,x.2.2.2.2.2.2.2.2.1,x.2.2.2.2.2.2.2.2.2.1,x.2.2.2.2.2.2.2.2.2.2.1,i64.wrap (x.2.2.2.2.2.2.2.2.2.2.2+1))) none) (some (.inl (x.1,x.2.1,x.2.2.1,x.2.2.2.1,x.2.2.2.2.2.1,x.2.2.2.2.2.2.1,x.2.2.2.2.2.2.2.1,x.2.2.2.2.2.2.2.2.1)))
def u6g:=lpW _ _ u9a
theorem s6e x:u6g x=u9a u6g x:=zW s5w 183 f183 10 61 x
def u99(g:c2w->Ht (c4c⊕Unit))(x:c2w):Ht (c4c⊕Unit):=cond (decide (x.2.2.2.2.2<x.2.2.2.2.1)) (cond (y4o x.2.2.2.2.2 x.2.2.2.1.length) ((u2q (x.2.1,x.2.2.2.2.2)).bind fun y1=>cond y1 (g (x.1,x.2.1,x.2.2.1,x.2.2.2.1,x.2.2.2.2.1,i64.wrap (x.2.2.2.2.2+1))) ((u6g (x.1,x.2.1,x.2.2.1,x.2.2.2.2.2,rdL u0a x.2.2.2.1 x.2.2.2.2.2.toNat,false,x.2.2.2.1,x.2.2.2.2.1,x.2.2.2.2.2,x.1,(x.1.length:Int),0)).bind fun|.inl o6=>cond (!o6.2.2.2.2.1) (cond (Nat.ble (o6.2.1.length+([o6.2.2.2.1]:Ld).length) z7v) (some (.inl (o6.1,o6.2.1++([o6.2.2.2.1]:Ld),true))) none) (g (o6.1,o6.2.1,o6.2.2.1,o6.2.2.2.2.2.1,o6.2.2.2.2.2.2.1,i64.wrap (o6.2.2.2.2.2.2.2+1)))|.inr z7=>some (.inr ()))) none) (some (.inl (x.1,x.2.1,x.2.2.1)))
def u7k:=lpW _ _ u99
theorem s71 x:u7k x=u99 u7k x:=zW s7j 183 f183 5 61 x
def u98(g:c4v->Ht (r8i⊕d1r))(x:c4v):Ht (r8i⊕d1r):=cond (decide ((x.2.length:Int)<(x.1.length:Int))) ((u7k (x.1,x.2,false,x.1,(x.1.length:Int),0)).bind fun|.inl o9=>cond (!o9.2.2) (some (.inr (([]:Ld),false))) (g (o9.1,o9.2.1))|.inr z10=>none) (some (.inl x.2))
def u7j:=lpW _ _ u98
theorem s70 x:u7j x=u98 u7j x:=zW s7i 183 f183 2 61 x
def r09 (x:q2i):Ht d1r:=(u7j (x,([]:Ld))).bind fun|.inl o12=>some (o12,true)|.inr z13=>some z13
theorem p3b:s20=r09:=zC 183 func183
def u4m(x:c4t):Ht q6j:=zK 307 x
theorem s8h:∀(x:c4t),u4m x=y2p u0d x:=y6e (P:=Tryz.prog) (A:=A) (f:=307) (F:=y2p u0d) rfl
def t49(x:Hs):La:=zK 381 x
def r07 (x:Hs):La:=some (!z7n x x)
theorem p29:t49=r07:=zC 381 func381
def t8i(x:d1q):Lj:=zK 358 x
def s69 (x:d1q):Lj:=(t49 x.1).bind fun y1=>(t49 x.2).bind fun y2=>cond y1 (cond y2 (some (0:Int)) (some (- 1:Int))) (cond y2 (some (1:Int)) (cond (y3b x.1 x.2) (some (- 1:Int)) (cond (!(y3b x.1 x.2||z7n x.1 x.2)) (some (1:Int)) (some (0:Int)))))
theorem q63:t8i=s69:=zC 358 func358
def s2w(x:Int):La:=zK 382 x
def q2x (x:Int):La:=some (!decide (x=x))
theorem o0z:s2w=q2x:=zC 382 func382
def s34(x:d55):Lj:=zK 359 x
def r4g (x:d55):Lj:=(s2w x.1).bind fun y1=>(s2w x.2).bind fun y2=>cond y1 (cond y2 (some (0:Int)) (some (- 1:Int))) (cond y2 (some (1:Int)) (cond (decide (x.1<x.2)) (some (- 1:Int)) (cond (decide (x.1>x.2)) (some (1:Int)) (some (0:Int)))))
theorem p5d:s34=r4g:=zC 359 func359
def u6o(x:d80):Lj:=zK 306 x
def t5v (x:d80):Lj:=(t8i (x.1.1,x.2.1)).bind fun y1=>cond (!decide (y1=0)) (some y1) ((s34 (x.1.2.2.2,x.2.2.2.2)).bind fun y2=>some y2)
theorem s5t:u6o=t5v:=zC 306 func306
def t8j(x:d80):La:=zK 305 x
def s7a (x:d80):La:=(u6o x).bind fun y1=>some (decide (y1>0))
theorem q64:t8j=s7a:=zC 305 func305
def u10(x:c4a):Lj:=zK 10005 x
def u02(g:c3o->Ht o31)(x:c3o):Ht o31:=cond (decide (x.2.2.2<x.2.2.1)) (cond (y4o x.2.2.2 x.1.length) ((t8j (rdL u0d x.1 x.2.2.2.toNat,x.2.1)).bind fun y1=>cond y1 (some (.inr x.2.2.2)) (g (x.1,x.2.1,x.2.2.1,i64.wrap (x.2.2.2+1)))) none) (some (.inl ()))
def u03:=lpW _ _ u02
theorem u2v x:u03 x=u02 u03 x:=zW u2u 10005 f304 2 19 x
def u24 (x:c4a):Lj:=(u03 (x.1,x.2,(x.1.length:Int),0)).bind fun|.inl o3=>some (- 1:Int)|.inr z4=>some z4
theorem u8r:u10=u24:=zC 10005 func304
def u9p(x:d9g):Ht q6j:=zK 184 x
def u97(g:c39->Ht j81)(x:c39):Ht j81:=cond (decide (x.2.2.2.2<x.2.2.2.1)) (cond (y4o x.2.2.2.2 x.2.2.1.length) ((u10 (x.2.1,(rdL u2r x.2.2.1 x.2.2.2.2.toNat).1,(rdL u2r x.2.2.1 x.2.2.2.2.toNat).2.1,(rdL u2r x.2.2.1 x.2.2.2.2.toNat).2.2,x.1)).bind fun y1=>cond (decide (y1<0)) ((u4m (x.2.1,(x.2.1.length:Int),([((rdL u2r x.2.2.1 x.2.2.2.2.toNat).1,(rdL u2r x.2.2.1 x.2.2.2.2.toNat).2.1,(rdL u2r x.2.2.1 x.2.2.2.2.toNat).2.2,x.1)]:Lf))).bind fun y2=>g (x.1,y2,x.2.2.1,x.2.2.2.1,i64.wrap (x.2.2.2.2+1))) ((u4m (x.2.1,y1,([((rdL u2r x.2.2.1 x.2.2.2.2.toNat).1,(rdL u2r x.2.2.1 x.2.2.2.2.toNat).2.1,(rdL u2r x.2.2.1 x.2.2.2.2.toNat).2.2,x.1)]:Lf))).bind fun y3=>g (x.1,y3,x.2.2.1,x.2.2.2.1,i64.wrap (x.2.2.2.2+1)))) none) (some (.inl x.2.1))
def t0i:=lpW _ _ u97
theorem s7z x:t0i x=u97 t0i x:=zW s7h 184 f184 3 42 x
def r08 (x:d9g):Ht q6j:=cond (Nat.ble x.1.length z7v) ((t0i (x.2.2,x.1,x.2.1,(x.2.1.length:Int),0)).bind fun|.inl o5=>some o5|.inr z6=>none) none
theorem p3a:u9p=r08:=zC 184 func184
def s21(x:q2i):La:=zK 91 x
def t0a(g:c2k->Ht (c3w⊕Unit))(x:c2k):Ht (c3w⊕Unit):=cond (decide (x.2.2.2.2.2<x.2.2.2.2.1)) (cond (y4o x.2.2.2.2.2 x.2.2.2.1.length) ((u9p (x.2.2.1,(rdL u0a x.2.2.2.1 x.2.2.2.2.2.toNat).2.2.2.2.2.1,(rdL u0a x.2.2.2.1 x.2.2.2.2.2.toNat).2.2.2.1)).bind fun y2=>g (x.1,x.2.1,y2,x.2.2.2.1,x.2.2.2.2.1,i64.wrap (x.2.2.2.2.2+1))) none) (some (.inl (x.1,x.2.1,x.2.2.1)))
def u7l:=lpW _ _ t0a
theorem s72 x:u7l x=t0a u7l x:=zW s7k 91 f91 6 66 x
def u9c(g:Z55->Ht (Z67⊕Bool))(x:Z55):Ht (Z67⊕Bool):=cond (decide (x.2.2.2.2.2.2.2.2.2<x.2.2.2.2.2.2.2.2.1)) (cond (y4o x.2.2.2.2.2.2.2.2.2 x.2.2.2.2.2.2.2.1.length) ((s8l (x.2.2.1,rdL s0f x.2.2.2.2.2.2.2.1 x.2.2.2.2.2.2.2.2.2.toNat)).bind fun y5=>(t7w (x.2.1,rdL s0f x.2.2.2.2.2.2.2.1 x.2.2.2.2.2.2.2.2.2.toNat,x.2.2.2.1.2.2.1)).bind fun y6=>(u4g (y5,y6)).bind fun y7=>cond (!y7) (some (.inr false)) (g (x.1,x.2.1,x.2.2.1,x.2.2.2.1,x.2.2.2.2.1,x.2.2.2.2.2.1,x.2.2.2.2.2.2.1,x.2.2.2.2.2.2.2.1,x.2.2.2.2.2.2.2.2.1,i64.wrap (x.2.2.2.2.2.2.2.2.2+1)))) none) (some (.inl (x.1,x.2.1,x.2.2.1,x.2.2.2.1,x.2.2.2.2.1,x.2.2.2.2.2.1,x.2.2.2.2.2.2.1)))
def u6h:=lpW _ _ u9c
theorem s6g x:u6h x=u9c u6h x:=zW s5y 91 f91 16 66 x
def u9b(g:c20->Ht r04)(x:c20):Ht r04:=cond (decide (x.2.2.2.2.2<x.2.2.2.2.1)) (cond (y4o x.2.2.2.2.2 x.2.2.2.1.length) (cond (y4o (rdL (Ty.int .i64) x.2.2.2.1 x.2.2.2.2.2.toNat) x.1.length) ((u6h (x.1,x.2.1,x.2.2.1,rdL u0a x.1 (rdL (Ty.int .i64) x.2.2.2.1 x.2.2.2.2.2.toNat).toNat,x.2.2.2.1,x.2.2.2.2.1,x.2.2.2.2.2,(rdL u0a x.1 (rdL (Ty.int .i64) x.2.2.2.1 x.2.2.2.2.2.toNat).toNat).2.2.2.2.1,((rdL u0a x.1 (rdL (Ty.int .i64) x.2.2.2.1 x.2.2.2.2.2.toNat).toNat).2.2.2.2.1.length:Int),0)).bind fun|.inl o9=>((s43 (o9.2.2.1,o9.2.2.2.1)).bind fun y10=>g (o9.1,o9.2.1,y10,o9.2.2.2.2.1,o9.2.2.2.2.2.1,i64.wrap (o9.2.2.2.2.2.2+1)))|.inr z11=>some (.inr z11)) none) none) (some (.inl ()))
def u2w:=lpW _ _ u9b
theorem s6f x:u2w x=u9b u2w x:=zW s5x 91 f91 12 66 x
def r1a (x:q2i):La:=(s20 x).bind fun y1=>cond (!y1.2) (some false) ((u7l (x,y1.1,([]:Lf),x,(x.length:Int),0)).bind fun|.inl o4=>((u2w (o4.1,o4.2.2,([]:Lg),o4.2.1,(o4.2.1.length:Int),0)).bind fun|.inl o13=>some true|.inr z14=>some z14)|.inr z15=>none)
theorem p3c:s21=r1a:=zC 91 func91
def s2z(x:Z45):La:=zK 36 x
def p1w (x:Z45):La:=(s21 x.2.1).bind fun y1=>some y1
theorem o8x:s2z=p1w:=zC 36 func36
def r3u(x:Unit):Ht u8l:=zK 53 x
def r3h (x:Unit):Ht u8l:=some (([]:Lf),([]:Lc),([]:Lc),0,1)
theorem q9a:r3u=r3h:=zC 53 func53
def u1c(x:d4d):La:=zK 243 x
def p13 (x:d4d):La:=((cond (decide (x.1>=x.2.1)) (some (decide (x.1<=x.2.2))) (some false)):La).bind fun j1=>some j1
theorem p3h:u1c=p13:=zC 243 func243
def t7u(x:p9s):Ht r01:=zK 327 x
def t1r(g:c4q->Ht d6y)(x:c4q):Ht d6y:=cond (decide (x.2.2.2.2<x.2.2.2.1)) (cond (y4o x.2.2.2.2 x.2.2.1.length) (cond (decide ((rdL q2u x.2.2.1 x.2.2.2.2.toNat).1=x.1)) (g (x.1,(rdL q2u x.2.2.1 x.2.2.2.2.toNat).2,x.2.2.1,x.2.2.2.1,i64.wrap (x.2.2.2.2+1))) (g (x.1,x.2.1,x.2.2.1,x.2.2.2.1,i64.wrap (x.2.2.2.2+1)))) none) (some (.inl x.2.1))
def t12:=lpW _ _ t1r
theorem r0q x:t12 x=t1r t12 x:=zW s9k 327 f327 5 36 x
def r4j (x:p9s):Ht r01:=(u1c (x.2,0,i64.wrap ((x.1.1.length:Int) - (1:Int)))).bind fun y1=>cond (!y1) (some ((⟨#[]⟩:Hs),false)) (cond (y4o x.2 x.1.1.length) ((t12 (x.2,rdL Ty.str x.1.1 x.2.toNat,x.1.2,(x.1.2.length:Int),0)).bind fun|.inl o3=>some (o3,true)|.inr z4=>none) none)
theorem p5g:t7u=r4j:=zC 327 func327
def s36(x:d44):Ht r01:=zK 237 x
def t1s(g:c3v->Ht (r8i⊕r01))(x:c3v):Ht (r8i⊕r01):=cond (decide (x.2.2.2.2<x.2.1)) ((t7u (x.2.2.1,i64.wrap (x.1+x.2.2.2.2))).bind fun y2=>cond (!y2.2) (some (.inr ((⟨#[]⟩:Hs),false))) (cond (Nat.ble (x.2.2.2.1.length+(z7s y2.1).length) z7v) (g (x.1,x.2.1,x.2.2.1,x.2.2.2.1++(z7s y2.1),i64.wrap (x.2.2.2.2+1))) none)) (some (.inl x.2.2.2.1))
def t13:=lpW _ _ t1s
theorem r0r x:t13 x=t1s t13 x:=zW s9l 237 f237 5 35 x
def r4m (x:d44):Ht r01:=(u1c (x.2.2,0,100)).bind fun y1=>cond (!y1) (some ((⟨#[]⟩:Hs),false)) ((t13 (x.2.1,x.2.2,x.1,([]:Ld),0)).bind fun|.inl o4=>some (y7c o4,true)|.inr z5=>some z5)
theorem p5j:s36=r4m:=zC 237 func237
def s24(x:Int):La:=zK 239 x
def p10 (x:Int):La:=((cond (decide (x=0)) (some true) (some (decide (x=1)))):La).bind fun j1=>some j1
theorem o80:s24=p10:=zC 239 func239
def s0x(x:Int):Lj:=zK 238 x
def r8o (x:Int):Lj:=(s24 x).bind fun y1=>cond (!y1) (some (0:Int)) (some (i64.wrap ((1:Int)+(i64.wrap (x*48)))))
theorem p8b:s0x=r8o:=zC 238 func238
def s01(x:p9s):Lj:=zK 242 x
def r8z (x:p9s):Lj:=(t7u x).bind fun y1=>((cond (!y1.2) (some true) (some (z7n y1.1 (⟨#[]⟩:Hs)))):La).bind fun j2=>cond j2 (some (0:Int)) (cond (y4o (0:Int) y1.1.size) (some (i64.wrap ((y1.1.data.toList.getD (0:Int).toNat 0).toNat:Int))) none)
theorem p8o:s01=r8z:=zC 242 func242
def r3v(x:p9s):Lj:=zK 240 x
def q7h (x:p9s):Lj:=(s24 x.2).bind fun y1=>cond (!y1) (some (0:Int)) ((s0x x.2).bind fun y2=>(s01 (x.1,y2)).bind fun y3=>some y3)
theorem o4e:r3v=q7h:=zC 240 func240
def t35(x:Int):Ht r01:=zK 339 x
def r8l(g:d4e->Ht (d4e⊕Unit))(x:d4e):Ht (d4e⊕Unit):=cond (decide (x.1>127)) (cond (Nat.ble (x.2.length+([(u8.wrap (i64.wrap ((Int.tmod x.1 (128:Int))+128)))]:Ld).length) z7v) (g (i64.wrap (Int.tdiv x.1 (128:Int)),x.2++([(u8.wrap (i64.wrap ((Int.tmod x.1 (128:Int))+128)))]:Ld))) none) (some (.inl x))
def s0l:=lpW _ _ r8l
theorem p9k x:s0l x=r8l s0l x:=zW r96 339 f339 4 25 x
def q7x (x:Int):Ht r01:=(u1c (x,0,1000000000)).bind fun y1=>cond (!y1) (some ((⟨#[]⟩:Hs),false)) ((s0l (x,([]:Ld))).bind fun|.inl o3=>cond (Nat.ble (o3.2.length+([(u8.wrap o3.1)]:Ld).length) z7v) (some (y7c (o3.2++([(u8.wrap o3.1)]:Ld)),true)) none|.inr z4=>none)
theorem o4u:t35=q7x:=zC 339 func339
def s44(x:j0s):Ht d4f:=zK 328 x
def t9i(g:(Hs×d4d)->Ht (Unit⊕d4f))(x:(Hs×d4d)):Ht (Unit⊕d4f):=((cond (decide (x.2.2.2<5)) (some (decide ((i64.wrap (x.2.1+x.2.2.2))<(x.1.size:Int)))) (some false)):La).bind fun j2=>cond j2 (cond (y4o (i64.wrap (x.2.1+x.2.2.2)) x.1.size) (cond (decide (0<=(i64.wrap ((7:Int)*x.2.2.2)))) (cond (decide ((i64.wrap ((x.1.data.toList.getD (i64.wrap (x.2.1+x.2.2.2)).toNat 0).toNat:Int))<128)) ((t35 (i64.wrap (x.2.2.1+(i64.wrap ((Int.tmod (i64.wrap ((x.1.data.toList.getD (i64.wrap (x.2.1+x.2.2.2)).toNat 0).toNat:Int)) (128:Int))*2^(min (i64.wrap ((7:Int)*x.2.2.2)).toNat i64.bits)))))).bind fun y3=>((cond (!y3.2) (some true) (some (!decide ((y3.1.size:Int)=(i64.wrap (x.2.2.2+1)))))):La).bind fun j4=>cond j4 (some (.inr (0,0,false))) (some (.inr (i64.wrap (x.2.2.1+(i64.wrap ((Int.tmod (i64.wrap ((x.1.data.toList.getD (i64.wrap (x.2.1+x.2.2.2)).toNat 0).toNat:Int)) (128:Int))*2^(min (i64.wrap ((7:Int)*x.2.2.2)).toNat i64.bits)))),i64.wrap ((i64.wrap (x.2.1+x.2.2.2))+1),true)))) (g (x.1,x.2.1,i64.wrap (x.2.2.1+(i64.wrap ((Int.tmod (i64.wrap ((x.1.data.toList.getD (i64.wrap (x.2.1+x.2.2.2)).toNat 0).toNat:Int)) (128:Int))*2^(min (i64.wrap ((7:Int)*x.2.2.2)).toNat i64.bits)))),i64.wrap (x.2.2.2+1)))) none) none) (some (.inl ()))
def s0h:=lpW _ _ t9i
theorem q1c x:s0h x=t9i s0h x:=zW r9y 328 f328 5 63 x
def q7p (x:j0s):Ht d4f:=(u1c (x.2,0,(x.1.size:Int))).bind fun y1=>cond (!y1) (some (0,0,false)) ((s0h (x.1,x.2,0,0)).bind fun|.inl o6=>some (0,0,false)|.inr z7=>some z7)
theorem o4m:s44=q7p:=zC 328 func328
def s0y(x:j0s):Ht p1e:=zK 241 x
def r8t (x:j0s):Ht p1e:=(s44 x).bind fun y1=>((cond (!y1.2.2) (some true) (cond (decide (y1.1>20000)) (some true) (some (decide (y1.1>(i64.wrap ((x.1.size:Int) - y1.2.1))))))):La).bind fun j2=>cond j2 (some ((⟨#[]⟩:Hs),0,false)) (cond (decide (0<=y1.2.1)&&decide (y1.2.1<=(i64.wrap (y1.2.1+y1.1)))&&decide ((i64.wrap (y1.2.1+y1.1))<=(x.1.size:Int))) (some (x.1.extract y1.2.1.toNat (i64.wrap (y1.2.1+y1.1)).toNat,i64.wrap (y1.2.1+y1.1),true)) none)
theorem p8h:s0y=r8t:=zC 241 func241
def t52(x:p9s):Ht (p71×d54):=zK 129 x
def t6n(g:c3a->Ht d9x)(x:c3a):Ht d9x:=(r3v (x.2.1,x.1)).bind fun y5=>cond (decide (x.2.2.2.2.2<y5)) ((s0y (x.2.2.1,x.2.2.2.2.1)).bind fun y6=>((cond (!y6.2.2) (some true) (some (z7n y6.1 (⟨#[]⟩:Hs)))):La).bind fun j7=>cond j7 (some (.inr (([]:Lh),0,false))) (cond (Nat.ble (x.2.2.2.1.length+([y6.1]:Lh).length) z7v) (g (x.1,x.2.1,x.2.2.1,x.2.2.2.1++([y6.1]:Lh),y6.2.1,i64.wrap (x.2.2.2.2.2+1))) none)) (some (.inl (x.2.2.2.1,x.2.2.2.2.1)))
def t7f:=lpW _ _ t6n
theorem r6i x:t7f x=t6n t7f x:=zW r5f 129 f129 7 57 x
def q25 (x:p9s):Ht (p71×d54):=(s0x x.2).bind fun y1=>(s36 (x.1,i64.wrap (y1+1),47)).bind fun y2=>((cond (!y2.2) (some true) ((s24 x.2).bind fun y3=>some (!y3))):La).bind fun j4=>cond j4 (some (([]:Lh),0,false)) ((t7f (x.2,x.1,y2.1,([]:Lh),0,0)).bind fun|.inl o9=>some (o9.1,o9.2,true)|.inr z10=>some z10)
theorem o07:t52=q25:=zC 129 func129
def s9x(x:t0z):Lj:=zK 130 x
def q2y (x:t0z):Lj:=(s01 (x,0)).bind fun y1=>some (Int.tmod y1 (2:Int))
theorem o00:s9x=q2y:=zC 130 func130
def s91(x:t0z):Ht p71:=zK 54 x
def q23 (x:t0z):Ht p71:=(s9x x).bind fun y1=>(t52 (x,y1)).bind fun y2=>some y2.1
theorem o05:s91=q23:=zC 54 func54
def t1n(x:Hs):La:=zK 258 x
def s4g(g:j0s->Ht d90)(x:j0s):Ht d90:=cond (decide (x.2<(x.1.size:Int))) (((cond (y4o x.2 x.1.size) (cond (decide (((x.1.data.toList.getD x.2.toNat 0).toNat:Int)<(97:Int))) (some true) (cond (y4o x.2 x.1.size) (some (decide (((x.1.data.toList.getD x.2.toNat 0).toNat:Int)>(122:Int)))) none)) none):La).bind fun j1=>cond j1 (some (.inr false)) (g (x.1,i64.wrap (x.2+1)))) (some (.inl x.1))
def s4q:=lpW _ _ s4g
theorem q93 x:s4q x=s4g s4q x:=zW q9m 258 f258 2 23 x
def p6u (x:Hs):La:=(s4q (x,0)).bind fun|.inl o3=>((u1c ((o3.size:Int),1,3)).bind fun y4=>some y4)|.inr z5=>some z5
theorem j1x:t1n=p6u:=zC 258 func258
def r3w(x:d1q):La:=zK 329 x
def q7o (x:d1q):La:=(((t1n x.1).bind fun y1=>cond y1 ((t1n x.2).bind fun y2=>cond y2 (some (y3b x.1 x.2||z7n x.1 x.2)) (some false)) (some false)):La).bind fun j3=>some j3
theorem o4l:r3w=q7o:=zC 329 func329
def r30(x:d91):La:=zK 370 x
def q7y (x:d91):La:=(((t1n x.1).bind fun y1=>cond y1 (cond (decide ((x.2.1.size:Int)<=(12:Int))) (cond (!x.2.2) (some true) (some (z7n x.2.1 (⟨#[]⟩:Hs)))) (some false)) (some false)):La).bind fun j2=>some j2
theorem o4v:r30=q7y:=zC 370 func370
def s95(x:j61):La:=zK 330 x
def t6r(g:d3r->Ht (j61⊕Bool))(x:d3r):Ht (j61⊕Bool):=cond (decide (x.2.2.2<x.2.2.1)) (cond (y4o x.2.2.2 x.2.1.length) ((((r30 (rdL u2r x.2.1 x.2.2.2.toNat)).bind fun y1=>cond (!y1) (some true) (cond (decide (x.2.2.2>0)) (cond (y4o (i64.wrap (x.2.2.2 - 1)) x.1.length) (some (!y3b (rdL u2r x.1 (i64.wrap (x.2.2.2 - 1)).toNat).1 (rdL u2r x.2.1 x.2.2.2.toNat).1)) none) (some false))):La).bind fun j2=>cond j2 (some (.inr false)) (g (x.1,x.2.1,x.2.2.1,i64.wrap (x.2.2.2+1)))) none) (some (.inl x.1))
def t7i:=lpW _ _ t6r
theorem r6m x:t7i x=t6r t7i x:=zW r5j 330 f330 2 34 x
def q3b (x:j61):La:=(t7i (x,x,(x.length:Int),0)).bind fun|.inl o4=>some (decide ((o4.length:Int)<=(8:Int)))|.inr z5=>some z5
theorem o1e:s95=q3b:=zC 330 func330
def u9q(x:u9l):La:=zK 251 x
def s4j(g:c2n->Ht (u9l⊕Bool))(x:c2n):Ht (u9l⊕Bool):=cond (decide (x.2.2.2<x.2.2.1)) (cond (y4o x.2.2.2 x.2.1.length) ((r3w (rdL s0f x.2.1 x.2.2.2.toNat)).bind fun y1=>cond (!y1) (some (.inr false)) (g (x.1,x.2.1,x.2.2.1,i64.wrap (x.2.2.2+1)))) none) (some (.inl x.1))
def s4s:=lpW _ _ s4j
theorem q96 x:s4s x=s4j s4s x:=zW q9p 251 f251 2 93 x
def p6z (x:u9l):La:=(s4s (x,x.2.2.2.2.1,(x.2.2.2.2.1.length:Int),0)).bind fun|.inl o3=>((((u1c (o3.1,1,9999)).bind fun y4=>cond (!y4) (some true) ((u1c (o3.2.1,1,3)).bind fun y5=>cond (!y5) (some true) ((u1c (o3.2.2.1,0,9999)).bind fun y6=>cond (!y6) (some true) (cond (decide ((o3.2.2.2.2.1.length:Int)>(8:Int))) (some true) ((s95 o3.2.2.2.2.2.1).bind fun y7=>cond (!y7) (some true) (cond o3.2.2.2.2.2.2.1 (some (decide (o3.2.1=1))) (some false))))))):La).bind fun j8=>cond j8 (some false) (((cond (decide (o3.2.1=3)) ((u1c (o3.2.2.2.1,i64.wrap (o3.2.2.1+1),9999)).bind fun y9=>cond (!y9) (some true) (cond (!decide (o3.2.1=3)) (some (!decide (o3.2.2.2.1=0))) (some false))) (cond (!decide (o3.2.1=3)) (some (!decide (o3.2.2.2.1=0))) (some false))):La).bind fun j10=>cond j10 (some false) (((cond (decide (o3.2.1=2)) ((t1n o3.2.2.2.2.2.2.2).bind fun y11=>cond y11 (some true) (cond (!decide (o3.2.1=2)) (some (z7n o3.2.2.2.2.2.2.2 (⟨#[]⟩:Hs))) (some false))) (cond (!decide (o3.2.1=2)) (some (z7n o3.2.2.2.2.2.2.2 (⟨#[]⟩:Hs))) (some false))):La).bind fun j12=>some j12)))|.inr z13=>some z13
theorem j2a:u9q=p6z:=zC 251 func251
def s37(x:q6j):La:=zK 252 x
def t1t(g:d88->Ht (q6j⊕Bool))(x:d88):Ht (q6j⊕Bool):=cond (decide (x.2.2.2<x.2.2.1)) (cond (y4o x.2.2.2 x.2.1.length) ((((t1n (rdL u0d x.2.1 x.2.2.2.toNat).1).bind fun y1=>cond (!y1) (some true) (cond (decide (((rdL u0d x.2.1 x.2.2.2.toNat).2.1.size:Int)>(12:Int))) (some true) (cond (rdL u0d x.2.1 x.2.2.2.toNat).2.2.1 (cond (!z7n (rdL u0d x.2.1 x.2.2.2.toNat).2.1 (⟨#[]⟩:Hs)) (some true) ((u1c ((rdL u0d x.2.1 x.2.2.2.toNat).2.2.2,1,9999)).bind fun y2=>cond (!y2) (some true) (cond (decide (x.2.2.2>0)) (cond (y4o (i64.wrap (x.2.2.2 - 1)) x.1.length) ((u6o (rdL u0d x.1 (i64.wrap (x.2.2.2 - 1)).toNat,rdL u0d x.2.1 x.2.2.2.toNat)).bind fun y3=>some (decide (y3>=0))) none) (some false)))) ((u1c ((rdL u0d x.2.1 x.2.2.2.toNat).2.2.2,1,9999)).bind fun y4=>cond (!y4) (some true) (cond (decide (x.2.2.2>0)) (cond (y4o (i64.wrap (x.2.2.2 - 1)) x.1.length) ((u6o (rdL u0d x.1 (i64.wrap (x.2.2.2 - 1)).toNat,rdL u0d x.2.1 x.2.2.2.toNat)).bind fun y5=>some (decide (y5>=0))) none) (some false)))))):La).bind fun j6=>cond j6 (some (.inr false)) (g (x.1,x.2.1,x.2.2.1,i64.wrap (x.2.2.2+1)))) none) (some (.inl x.1))
def t14:=lpW _ _ t1t
theorem r0s x:t14 x=t1t t14 x:=zW s9m 252 f252 2 55 x
def r4o (x:q6j):La:=(t14 (x,x,(x.length:Int),0)).bind fun|.inl o8=>some (decide ((o8.length:Int)<=(120:Int)))|.inr z9=>some z9
theorem p5l:s37=r4o:=zC 252 func252
def s45(x:u9l):La:=zK 253 x
def o39 (x:u9l):La:=some (decide (x.2.1=2))
theorem o4x:s45=o39:=zC 253 func253
def s23(x:Z78):La:=zK 331 x
def p1z (x:Z78):La:=some (decide (x.1.1=x.2.1))
theorem p3d:s23=p1z:=zC 331 func331
def u4w(x:j4c):Lj:=zK 10017 x
def u35(g:d3o->Ht o31)(x:d3o):Ht o31:=cond (decide (x.2.2.2<x.2.2.1)) (cond (y4o x.2.2.2 x.1.length) ((s23 (rdL u0a x.1 x.2.2.2.toNat,x.2.1)).bind fun y1=>cond y1 (some (.inr x.2.2.2)) (g (x.1,x.2.1,x.2.2.1,i64.wrap (x.2.2.2+1)))) none) (some (.inl ()))
def u1g:=lpW _ _ u35
theorem u96 x:u1g x=u35 u1g x:=zW u36 10017 f264 2 19 x
def u4r (x:j4c):Lj:=(u1g (x.1,x.2,(x.1.length:Int),0)).bind fun|.inl o3=>some (- 1:Int)|.inr z4=>some z4
theorem t1f:u4w=u4r:=zC 10017 func264
def u3w(x:j4c):La:=zK 10016 x
def u3r (x:j4c):La:=(u4w x).bind fun y1=>some (decide (y1>=0))
theorem u9y:u3w=u3r:=zC 10016 func207
def u7x(x:j4c):La:=zK 10015 x
def t44 (x:j4c):La:=(u3w x).bind fun y1=>some y1
theorem s8f:u7x=t44:=zC 10015 func110
def t3t(x:d14):La:=zK 254 x
def t4k(g:c26->Ht r04)(x:c26):Ht r04:=cond (decide (x.2.2.2.2<x.2.2.2.1)) (cond (y4o x.2.2.2.2 x.2.2.1.length) (cond (decide ((rdL u0a x.2.2.1 x.2.2.2.2.toNat).1>=x.2.1)) (some (.inr false)) (cond (decide (0<=(0:Int))&&decide ((0:Int)<=x.2.2.2.2)&&decide (x.2.2.2.2<=(x.1.length:Int))) ((u7x ((x.1.take x.2.2.2.2.toNat).drop (0:Int).toNat,rdL u0a x.2.2.1 x.2.2.2.2.toNat)).bind fun y1=>cond y1 (some (.inr false)) (g (x.1,x.2.1,x.2.2.1,x.2.2.2.1,i64.wrap (x.2.2.2.2+1)))) none)) none) (some (.inl ()))
def t4z:=lpW _ _ t4k
theorem r2z x:t4z x=t4k t4z x:=zW r1v 254 f254 2 26 x
def r80 (x:d14):La:=(t4z (x.1,x.2,x.1,(x.1.length:Int),0)).bind fun|.inl o3=>some true|.inr z4=>some z4
theorem p8p:t3t=r80:=zC 254 func254
def t4e(x:(Unit×Int)):Ht q2i:=zK 332 x
def s3s (x:(Unit×Int)):Ht q2i:=cond (decide (x.2<0)) none (cond (decide ((i64.wrap (x.2 - (i64.wrap ((0:Int) - (0:Int)))))>0)) (cond (decide (0<=(0:Int))&&decide ((0:Int)<=(0:Int))&&decide ((0:Int)<=0)) (cond (decide (1<=(i64.wrap (x.2 - (i64.wrap ((0:Int) - (0:Int))))))&&decide ((i64.wrap (x.2 - (i64.wrap ((0:Int) - (0:Int)))))<=1099511627776)) (cond (decide (0<=(0:Int))&&decide ((0:Int)<=(0:Int))&&decide ((0:Int)<=((List.replicate (i64.wrap (x.2 - (i64.wrap ((0:Int) - (0:Int))))).toNat u0a.zero).length:Int))) (some ((List.replicate (i64.wrap (x.2 - (i64.wrap ((0:Int) - (0:Int))))).toNat u0a.zero).take ((0:Int).toNat - (0:Int).toNat))) none) none) none) (some ([]:Lc)))
theorem q2c:t4e=s3s:=zC 332 func332
def u4f(x:d3s):Ht q2i:=zK 255 x
def u5v(g:c2x->Ht (c4x⊕Unit))(x:c2x):Ht (c4x⊕Unit):=cond (decide (x.2.2.2.2<x.2.2.2.1)) (cond (y4o x.2.2.2.2 x.2.2.1.length) (cond (decide ((i64.wrap (x.2.1+((rdL (Ty.sl u0a) x.2.2.1 x.2.2.2.2.toNat).length:Int)))<0)) none (g (x.1,i64.wrap (x.2.1+((rdL (Ty.sl u0a) x.2.2.1 x.2.2.2.2.toNat).length:Int)),x.2.2.1,x.2.2.2.1,i64.wrap (x.2.2.2.2+1)))) none) (some (.inl (x.1,x.2.1)))
def u3c:=lpW _ _ u5v
theorem t8c x:u3c x=u5v u3c x:=zW t78 255 f255 3 36 x
def u4x(g:c28->Ht d6z)(x:c28):Ht d6z:=cond (decide (x.2.2.2<x.2.2.1)) (cond (y4o x.2.2.2 x.2.1.length) (cond (Nat.ble (x.1.length+(rdL (Ty.sl u0a) x.2.1 x.2.2.2.toNat).length) z7v) (g (x.1++(rdL (Ty.sl u0a) x.2.1 x.2.2.2.toNat),x.2.1,x.2.2.1,i64.wrap (x.2.2.2+1))) none) none) (some (.inl x.1))
def u2x:=lpW _ _ u4x
theorem t6e x:u2x x=u4x u2x x:=zW t5y 255 f255 11 36 x
def s1m (x:d3s):Ht q2i:=(u3c (x,0,x,(x.length:Int),0)).bind fun|.inl o2=>((t4e ((),o2.2)).bind fun y3=>(u2x (y3,o2.1,(o2.1.length:Int),0)).bind fun|.inl o5=>some o5|.inr z6=>none)|.inr z7=>none
theorem r46:u4f=s1m:=zC 255 func255
def u28(x:u8l):La:=zK 136 x
def s1x(g:c14->Ht d4a)(x:c14):Ht d4a:=cond (decide (x.2.2.2<x.2.2.1)) (cond (y4o x.2.2.2 x.2.1.length) (cond (decide ((rdL u0d x.2.1 x.2.2.2.toNat).2.2.2>x.1.2.2.2.1)) (some (.inr false)) (g (x.1,x.2.1,x.2.2.1,i64.wrap (x.2.2.2+1)))) none) (some (.inl x.1))
def t5l:=lpW _ _ s1x
theorem q52 x:t5l x=s1x t5l x:=zW q4t 136 f136 4 139 x
def t9d(g:Z92->Ht d4a)(x:Z92):Ht d4a:=cond (decide (x.2.2.2<x.2.2.1)) (cond (y4o x.2.2.2 x.2.1.length) ((((u9q (rdL u0a x.2.1 x.2.2.2.toNat)).bind fun y7=>cond (!y7) (some true) ((u9r (rdL u0a x.2.1 x.2.2.2.toNat)).bind fun y8=>cond (!y8) (some true) (cond (decide ((rdL u0a x.2.1 x.2.2.2.toNat).2.2.2.1>x.1.2.2.2.1)) (some true) (cond (decide (x.2.2.2>0)) (cond (y4o (i64.wrap (x.2.2.2 - 1)) x.1.2.1.length) (some (decide ((rdL u0a x.1.2.1 (i64.wrap (x.2.2.2 - 1)).toNat).2.2.2.1>=(rdL u0a x.2.1 x.2.2.2.toNat).2.2.2.1))) none) (some false))))):La).bind fun j9=>cond j9 (some (.inr false)) (g (x.1,x.2.1,x.2.2.1,i64.wrap (x.2.2.2+1)))) none) (some (.inl x.1))
def t2w:=lpW _ _ t9d
theorem q06 x:t2w x=t9d t2w x:=zW r9s 136 f136 10 139 x
def t9e(g:Z92->Ht d4a)(x:Z92):Ht d4a:=cond (decide (x.2.2.2<x.2.2.1)) (cond (y4o x.2.2.2 x.2.1.length) ((((u9q (rdL u0a x.2.1 x.2.2.2.toNat)).bind fun y12=>cond (!y12) (some true) ((s45 (rdL u0a x.2.1 x.2.2.2.toNat)).bind fun y13=>cond (!y13) (some true) (cond (decide ((rdL u0a x.2.1 x.2.2.2.toNat).2.2.1>x.1.2.2.2.1)) (some true) (cond (decide (x.2.2.2>0)) (cond (y4o (i64.wrap (x.2.2.2 - 1)) x.1.2.2.1.length) (some (!y3b (rdL u0a x.1.2.2.1 (i64.wrap (x.2.2.2 - 1)).toNat).2.2.2.2.2.2.2 (rdL u0a x.2.1 x.2.2.2.toNat).2.2.2.2.2.2.2)) none) (some false))))):La).bind fun j14=>cond j14 (some (.inr false)) (g (x.1,x.2.1,x.2.2.1,i64.wrap (x.2.2.2+1)))) none) (some (.inl x.1))
def t2x:=lpW _ _ t9e
theorem q07 x:t2x x=t9e t2x x:=zW r9t 136 f136 16 139 x
def p1m (x:u8l):La:=(((s37 x.1).bind fun y1=>cond (!y1) (some true) (cond (decide ((x.2.1.length:Int)>(12:Int))) (some true) (cond (decide ((x.2.2.1.length:Int)>(3:Int))) (some true) ((u1c (x.2.2.2.1,0,9999)).bind fun y2=>cond (!y2) (some true) ((u1c (x.2.2.2.2,1,9999)).bind fun y3=>some (!y3)))))):La).bind fun j4=>cond j4 (some false) ((t5l (x,x.1,(x.1.length:Int),0)).bind fun|.inl o6=>((t2w (o6,o6.2.1,(o6.2.1.length:Int),0)).bind fun|.inl o11=>((t2x (o11,o11.2.2.1,(o11.2.2.1.length:Int),0)).bind fun|.inl o16=>((u4f ([o16.2.1,o16.2.2.1]:Hu q2i)).bind fun y17=>(t3t (y17,o16.2.2.2.2)).bind fun y18=>some y18)|.inr z19=>some z19)|.inr z20=>some z20)|.inr z21=>some z21)
theorem o8n:u28=p1m:=zC 136 func136
def s97(x:u9l):La:=zK 256 x
def q3f (x:u9l):La:=((cond (decide (x.1=0)) (cond (decide (x.2.1=0)) (cond (decide (x.2.2.1=0)) (cond (decide (x.2.2.2.1=0)) (cond (decide ((x.2.2.2.2.1.length:Int)=(0:Int))) (cond (decide ((x.2.2.2.2.2.1.length:Int)=(0:Int))) (cond (!x.2.2.2.2.2.2.1) (some (z7n x.2.2.2.2.2.2.2 (⟨#[]⟩:Hs))) (some false)) (some false)) (some false)) (some false)) (some false)) (some false)) (some false)):La).bind fun j1=>some j1
theorem o1i:s97=q3f:=zC 256 func256
def s6y(x:u8l):La:=zK 257 x
def r8y (x:u8l):La:=((cond (decide ((x.1.length:Int)=(0:Int))) (cond (decide ((x.2.1.length:Int)=(0:Int))) (cond (decide ((x.2.2.1.length:Int)=(0:Int))) (cond (decide (x.2.2.2.1=0)) (some (decide (x.2.2.2.2=0))) (some false)) (some false)) (some false)) (some false)):La).bind fun j1=>some j1
theorem p8n:s6y=r8y:=zC 257 func257
def s2y(x:Z54):La:=zK 137 x
def q26 (x:Z54):La:=(s97 x.2.1).bind fun y1=>(s6y x.2.2.2.2).bind fun y2=>cond (decide (x.1=1)) ((((u9q x.2.1).bind fun y3=>cond y3 ((u9r x.2.1).bind fun y4=>some y4) (some false)):La).bind fun j5=>((cond j5 (cond (z7n x.2.2.1 (⟨#[]⟩:Hs)) (cond y2 (cond (!x.2.2.2.1) (some true) (some (decide (x.1=3)))) (some false)) (some false)) (some false)):La).bind fun j6=>some j6) (cond (decide (x.1=2)) ((((u9q x.2.1).bind fun y7=>cond y7 ((s45 x.2.1).bind fun y8=>some y8) (some false)):La).bind fun j9=>((cond j9 (cond (z7n x.2.2.1 (⟨#[]⟩:Hs)) (cond y2 (cond (!x.2.2.2.1) (some true) (some (decide (x.1=3)))) (some false)) (some false)) (some false)):La).bind fun j10=>some j10) (cond (decide (x.1=3)) ((t1n x.2.2.1).bind fun y11=>((cond y1 (cond y11 (cond y2 (cond (!x.2.2.2.1) (some true) (some (decide (x.1=3)))) (some false)) (some false)) (some false)):La).bind fun j12=>some j12) (cond (decide (x.1=4)) ((u28 x.2.2.2.2).bind fun y13=>((cond y1 (cond (z7n x.2.2.1 (⟨#[]⟩:Hs)) (cond y13 (cond (!x.2.2.2.1) (some true) (some (decide (x.1=3)))) (some false)) (some false)) (some false)):La).bind fun j14=>some j14) (some false))))
theorem o08:s2y=q26:=zC 137 func137
def s00(x:Hs):Ht r01:=zK 280 x
def r8w (x:Hs):Ht r01:=cond (decide ((x.size:Int)>(20000:Int))) (some ((⟨#[]⟩:Hs),false)) ((t35 (x.size:Int)).bind fun y1=>cond (decide (y1.1.size+x.size<=140737488355328)) (some (y1.1++x,true)) none)
theorem p8k:s00=r8w:=zC 280 func280
def u7e(x:(r8i×p71)):Ht r8i:=zK 168 x
def t4l(g:c40->Ht d38)(x:c40):Ht d38:=cond (decide (x.2.2.2<x.2.2.1)) (cond (y4o x.2.2.2 x.2.1.length) ((s00 (rdL Ty.str x.2.1 x.2.2.2.toNat)).bind fun y1=>cond (Nat.ble (x.1.length+(z7s y1.1).length) z7v) (g (x.1++(z7s y1.1),x.2.1,x.2.2.1,i64.wrap (x.2.2.2+1))) none) none) (some (.inl x.1))
def t40:=lpW _ _ t4l
theorem r20 x:t40 x=t4l t40 x:=zW r1w 168 f168 1 29 x
def r82 (x:(r8i×p71)):Ht r8i:=(t40 (x.1,x.2,(x.2.length:Int),0)).bind fun|.inl o3=>some o3|.inr z4=>none
theorem p8r:u7e=r82:=zC 168 func168
def u87(x:d1r):Ht r8i:=zK 169 x
def r81 (x:d1r):Ht r8i:=cond x.2 (cond (Nat.ble (x.1.length+([(1:Int)]:Ld).length) z7v) (some (x.1++([(1:Int)]:Ld))) none) (cond (Nat.ble (x.1.length+([(0:Int)]:Ld).length) z7v) (some (x.1++([(0:Int)]:Ld))) none)
theorem p8q:u87=r81:=zC 169 func169
def u6p(x:(r8i×r8i)):Ht r8i:=zK 281 x
def t6t(g:c46->Ht d38)(x:c46):Ht d38:=cond (decide (x.2.2.2<x.2.2.1)) (cond (y4o x.2.2.2 x.2.1.length) ((t35 (rdL (Ty.int .i64) x.2.1 x.2.2.2.toNat)).bind fun y1=>cond (Nat.ble (x.1.length+(z7s y1.1).length) z7v) (g (x.1++(z7s y1.1),x.2.1,x.2.2.1,i64.wrap (x.2.2.2+1))) none) none) (some (.inl x.1))
def t7k:=lpW _ _ t6t
theorem r6o x:t7k x=t6t t7k x:=zW r5l 281 f281 1 29 x
def q3g (x:(r8i×r8i)):Ht r8i:=(t7k (x.1,x.2,(x.2.length:Int),0)).bind fun|.inl o3=>some o3|.inr z4=>none
theorem o1j:u6p=q3g:=zC 281 func281
def t34(x:u9l):Ht r01:=zK 171 x
def t9o(g:c2b->Ht (d8y⊕Unit))(x:c2b):Ht (d8y⊕Unit):=cond (decide (x.2.2.2.2<x.2.2.2.1)) (cond (y4o x.2.2.2.2 x.2.2.1.length) ((u7e (x.2.1,([(rdL s0f x.2.2.1 x.2.2.2.2.toNat).1,(rdL s0f x.2.2.1 x.2.2.2.2.toNat).2]:Lh))).bind fun y3=>g (x.1,y3,x.2.2.1,x.2.2.2.1,i64.wrap (x.2.2.2.2+1))) none) (some (.inl (x.1,x.2.1)))
def t23:=lpW _ _ t9o
theorem q1i x:t23 x=t9o t23 x:=zW r95 171 f171 6 82 x
def t6q(g:c19->Ht (d8y⊕Unit))(x:c19):Ht (d8y⊕Unit):=cond (decide (x.2.2.2.2<x.2.2.2.1)) (cond (y4o x.2.2.2.2 x.2.2.1.length) ((u7e (x.2.1,([(rdL u2r x.2.2.1 x.2.2.2.2.toNat).1,(rdL u2r x.2.2.1 x.2.2.2.2.toNat).2.1]:Lh))).bind fun y7=>(u87 (y7,(rdL u2r x.2.2.1 x.2.2.2.2.toNat).2.2)).bind fun y8=>g (x.1,y8,x.2.2.1,x.2.2.2.1,i64.wrap (x.2.2.2.2+1))) none) (some (.inl (x.1,x.2.1)))
def t0q:=lpW _ _ t6q
theorem r6l x:t0q x=t6q t0q x:=zW r5i 171 f171 12 82 x
def q7w (x:u9l):Ht r01:=(u9q x).bind fun y1=>cond (!y1) (some ((⟨#[]⟩:Hs),false)) ((u6p (([]:Ld),([x.1,x.2.1,x.2.2.1,x.2.2.2.1,(x.2.2.2.2.1.length:Int)]:Ld))).bind fun y2=>(t23 (x,y2,x.2.2.2.2.1,(x.2.2.2.2.1.length:Int),0)).bind fun|.inl o5=>((u6p (o5.2,([(o5.1.2.2.2.2.2.1.length:Int)]:Ld))).bind fun y6=>(t0q (o5.1,y6,o5.1.2.2.2.2.2.1,(o5.1.2.2.2.2.2.1.length:Int),0)).bind fun|.inl o10=>((u87 (o10.2,o10.1.2.2.2.2.2.2.1)).bind fun y11=>(u7e (y11,([o10.1.2.2.2.2.2.2.2]:Lh))).bind fun y12=>some (y7c y12,true))|.inr z13=>none)|.inr z14=>none)
theorem o4t:t34=q7w:=zC 171 func171
def s9y(x:u8l):Ht r01:=zK 170 x
def t6j(g:Z93->Ht (d6o⊕Unit))(x:Z93):Ht (d6o⊕Unit):=cond (decide (x.2.2.2.2<x.2.2.2.1)) (cond (y4o x.2.2.2.2 x.2.2.1.length) ((u7e (x.2.1,([(rdL u0d x.2.2.1 x.2.2.2.2.toNat).1,(rdL u0d x.2.2.1 x.2.2.2.2.toNat).2.1]:Lh))).bind fun y3=>(u87 (y3,(rdL u0d x.2.2.1 x.2.2.2.2.toNat).2.2.1)).bind fun y4=>(u6p (y4,([(rdL u0d x.2.2.1 x.2.2.2.2.toNat).2.2.2]:Ld))).bind fun y5=>g (x.1,y5,x.2.2.1,x.2.2.2.1,i64.wrap (x.2.2.2.2+1))) none) (some (.inl (x.1,x.2.1)))
def t0p:=lpW _ _ t6j
theorem r6e x:t0p x=t6j t0p x:=zW r5b 170 f170 6 94 x
def t4g(g:c2m->Ht (d84⊕Unit))(x:c2m):Ht (d84⊕Unit):=cond (decide (x.2.2.2.2.2.2<x.2.2.2.2.2.1)) (cond (y4o x.2.2.2.2.2.2 x.2.2.2.2.1.length) ((t34 (rdL u0a x.2.2.2.2.1 x.2.2.2.2.2.2.toNat)).bind fun y9=>cond (Nat.ble (x.1.length+(z7s y9.1).length) z7v) (g (x.1++(z7s y9.1),x.2.1,x.2.2.1,x.2.2.2.1,x.2.2.2.2.1,x.2.2.2.2.2.1,i64.wrap (x.2.2.2.2.2.2+1))) none) none) (some (.inl (x.1,x.2.1,x.2.2.1,x.2.2.2.1)))
def u9f:=lpW _ _ t4g
theorem r2v x:u9f x=t4g u9f x:=zW r1r 170 f170 17 94 x
def u89(g:d84->Ht d38)(x:d84):Ht d38:=cond (decide (x.2.2.2<x.2.2.1)) (cond (y4o x.2.2.2 x.2.1.length) ((u6p (x.1,([((rdL (Ty.sl u0a) x.2.1 x.2.2.2.toNat).length:Int)]:Ld))).bind fun y8=>(u9f (y8,x.2.1,x.2.2.1,x.2.2.2,rdL (Ty.sl u0a) x.2.1 x.2.2.2.toNat,((rdL (Ty.sl u0a) x.2.1 x.2.2.2.toNat).length:Int),0)).bind fun|.inl o11=>g (o11.1,o11.2.1,o11.2.2.1,i64.wrap (o11.2.2.2+1))|.inr z12=>some (.inr ())) none) (some (.inl x.1))
def t4y:=lpW _ _ u89
theorem s3n x:t4y x=u89 t4y x:=zW r1q 170 f170 13 94 x
def q2z (x:u8l):Ht r01:=(u28 x).bind fun y1=>cond (!y1) (some ((⟨#[]⟩:Hs),false)) ((u6p (([]:Ld),([x.2.2.2.1,x.2.2.2.2,(x.1.length:Int)]:Ld))).bind fun y2=>(t0p (x,y2,x.1,(x.1.length:Int),0)).bind fun|.inl o7=>((t4y (o7.2,([o7.1.2.1,o7.1.2.2.1]:Hu q2i),(([o7.1.2.1,o7.1.2.2.1]:Hu q2i).length:Int),0)).bind fun|.inl o14=>some (y7c o14,true)|.inr z15=>none)|.inr z16=>none)
theorem o01:s9y=q2z:=zC 170 func170
def r3y(x:d93):Lj:=zK 340 x
def r8k(g:d9y->Ht (d4g⊕Unit))(x:d9y):Ht (d4g⊕Unit):=cond (decide (x.2.2.2<8)) (cond (decide ((Int.tmod x.1 (2:Int))=1)) (g (u32.wrap ((BitVec.ofInt u32.bits (u32.wrap (Int.tdiv x.1 (2:Int)))^^^BitVec.ofInt u32.bits (3558460437:Int)).toNat:Int),x.2.1,x.2.2.1,i64.wrap (x.2.2.2+1))) (g (u32.wrap (Int.tdiv x.1 (2:Int)),x.2.1,x.2.2.1,i64.wrap (x.2.2.2+1)))) (some (.inl (x.1,x.2.1,x.2.2.1)))
def s0j:=lpW _ _ r8k
theorem p9j x:s0j x=r8k s0j x:=zW r90 340 f340 6 33 x
def t9j(g:d4g->Ht j63)(x:d4g):Ht j63:=cond (decide (x.2.2<(x.2.1.size:Int))) (cond (y4o x.2.2 x.2.1.size) ((s0j (u32.wrap ((BitVec.ofInt u32.bits x.1^^^BitVec.ofInt u32.bits (u32.wrap ((x.2.1.data.toList.getD x.2.2.toNat 0).toNat:Int))).toNat:Int),x.2.1,x.2.2,0)).bind fun|.inl o2=>g (o2.1,o2.2.1,i64.wrap (o2.2.2+1))|.inr z3=>some (.inr ())) none) (some (.inl x.1))
def s0i:=lpW _ _ t9j
theorem q1d x:s0i x=t9j s0i x:=zW r9z 340 f340 2 33 x
def q7s (x:d93):Lj:=(s0i (x.1,x.2,0)).bind fun|.inl o5=>some o5|.inr z6=>none
theorem o4p:r3y=q7s:=zC 340 func340
def p7s(x:Hs):Lj:=zK 282 x
def p6y (x:Hs):Lj:=(r3y (4294967295,x)).bind fun y1=>some y1
theorem j18:p7s=p6y:=zC 282 func282
def t7x(x:Hs):Ht r01:=zK 172 x
def p1u (x:Hs):Ht r01:=cond (decide ((x.size:Int)>(20000:Int))) (some ((⟨#[]⟩:Hs),false)) ((p7s x).bind fun y1=>cond (decide (x.size+(y7c ([u8.wrap (Int.fdiv y1 (2^(min (24:Int).toNat u32.bits))),u8.wrap (Int.fdiv y1 (2^(min (16:Int).toNat u32.bits))),u8.wrap (Int.fdiv y1 (2^(min (8:Int).toNat u32.bits))),u8.wrap y1]:Ld)).size<=140737488355328)) (some (x++(y7c ([u8.wrap (Int.fdiv y1 (2^(min (24:Int).toNat u32.bits))),u8.wrap (Int.fdiv y1 (2^(min (16:Int).toNat u32.bits))),u8.wrap (Int.fdiv y1 (2^(min (8:Int).toNat u32.bits))),u8.wrap y1]:Ld)),true)) none)
theorem o8v:t7x=p1u:=zC 172 func172
def t04(x:Z54):Ht r01:=zK 86 x
def r4k (x:Z54):Ht r01:=(s2y x).bind fun y1=>cond (!y1) (some ((⟨#[]⟩:Hs),false)) (cond (decide (x.1=3)) ((u7e (([(u8.wrap x.1)]:Ld),([x.2.2.1]:Lh))).bind fun y2=>(u87 (y2,x.2.2.2.1)).bind fun y3=>(t7x (y7c y3)).bind fun y4=>some y4) (cond (decide (x.1=4)) ((s9y x.2.2.2.2).bind fun y5=>cond (Nat.ble (([(u8.wrap x.1)]:Ld).length+(z7s y5.1).length) z7v) ((t7x (y7c (([(u8.wrap x.1)]:Ld)++(z7s y5.1)))).bind fun y6=>some y6) none) ((t34 x.2.1).bind fun y7=>cond (Nat.ble (([(u8.wrap x.1)]:Ld).length+(z7s y7.1).length) z7v) ((t7x (y7c (([(u8.wrap x.1)]:Ld)++(z7s y7.1)))).bind fun y8=>some y8) none)))
theorem p5h:t04=r4k:=zC 86 func86
def s94(x:Hs):Ht r01:=zK 131 x
def q29 (x:Hs):Ht r01:=cond (decide ((x.size:Int)<(4:Int))) (some ((⟨#[]⟩:Hs),false)) (cond (decide (0<=(0:Int))&&decide ((0:Int)<=(i64.wrap ((x.size:Int) - (4:Int))))&&decide ((i64.wrap ((x.size:Int) - (4:Int)))<=(x.size:Int))) ((t7x (x.extract (0:Int).toNat (i64.wrap ((x.size:Int) - (4:Int))).toNat)).bind fun y1=>((cond (!y1.2) (some true) (some (!z7n y1.1 x))):La).bind fun j2=>cond j2 (some ((⟨#[]⟩:Hs),false)) (some (x.extract (0:Int).toNat (i64.wrap ((x.size:Int) - (4:Int))).toNat,true))) none)
theorem o1c:s94=q29:=zC 131 func131
def u2j(x:p1e):Ht d9l:=zK 132 x
def r1d (x:p1e):Ht d9l:=(s0y (x.1,x.2.1)).bind fun y1=>((cond x.2.2 (some true) (some (!y1.2.2))):La).bind fun j2=>cond j2 (some ((⟨#[]⟩:Hs),x.1,x.2.1,true)) (some (y1.1,x.1,y1.2.1,x.2.2))
theorem p3g:u2j=r1d:=zC 132 func132
def u64(x:p1e):Ht (Bool×p1e):=zK 133 x
def r1c (x:p1e):Ht (Bool×p1e):=((cond x.2.2 (some true) ((u1c (x.2.1,0,i64.wrap ((x.1.size:Int) - (1:Int)))).bind fun y1=>cond (!y1) (some true) (cond (y4o x.2.1 x.1.size) (some (decide (((x.1.data.toList.getD x.2.1.toNat 0).toNat:Int)>(1:Int)))) none))):La).bind fun j2=>cond j2 (some (false,x.1,x.2.1,true)) (cond (y4o (i64.wrap ((i64.wrap (x.2.1+1)) - 1)) x.1.size) (some (decide (((x.1.data.toList.getD (i64.wrap ((i64.wrap (x.2.1+1)) - 1)).toNat 0).toNat:Int)=(1:Int)),x.1,i64.wrap (x.2.1+1),x.2.2)) none)
theorem p3f:u64=r1c:=zC 133 func133
def u1l(x:p1e):Ht (Int×p1e):=zK 244 x
def r4q (x:p1e):Ht (Int×p1e):=(s44 (x.1,x.2.1)).bind fun y1=>((cond x.2.2 (some true) (some (!y1.2.2))):La).bind fun j2=>cond j2 (some (0,x.1,x.2.1,true)) (some (y1.1,x.1,y1.2.1,x.2.2))
theorem p5n:u1l=r4q:=zC 244 func244
def s7u(x:d7m):Ht d7m:=zK 246 x
def s7b (x:d7m):Ht d7m:=(u2j x.1).bind fun y1=>(u2j y1.2).bind fun y2=>(u64 y2.2).bind fun y3=>(u1l y3.2).bind fun y4=>cond (Nat.ble (x.2.1.length+([(y1.1,y2.1,y3.1,y4.1)]:Lf).length) z7v) (some (y4.2,x.2.1++([(y1.1,y2.1,y3.1,y4.1)]:Lf),x.2.2)) none
theorem q65:s7u=s7b:=zC 246 func246
def u3e(x:d6k):Ht d6k:=zK 10018 x
def u11(g:Z90->Ht (d6k⊕Unit))(x:Z90):Ht (d6k⊕Unit):=((cond (decide (x.2.2.2<x.2.2.1)) (some (!x.1.2.2)) (some false)):La).bind fun j2=>cond j2 ((s7u (x.1,x.2.1.2)).bind fun y3=>g (y3.1,((),y3.2),x.2.2.1,i64.wrap (x.2.2.2+1))) (some (.inl (x.1,(),x.2.1.2)))
def u1d:=lpW _ _ u11
theorem u6s x:u1d x=u11 u1d x:=zW u6l 10018 f245 2 22 x
def u7q (x:d6k):Ht d6k:=(u1l x.1).bind fun y1=>(u1d (y1.2,((),x.2.2),y1.1,0)).bind fun|.inl o5=>some (o5.1,(),o5.2.2)|.inr z6=>none
theorem t8f:u3e=u7q:=zC 10018 func245
def s98(x:d6p):Ht d6p:=zK 249 x
def s88 (x:d6p):Ht d6p:=(u2j x.2).bind fun y1=>(u2j y1.2).bind fun y2=>cond (Nat.ble (x.1.2.2.2.2.1.length+([(y1.1,y2.1)]:Lg).length) z7v) (some ((x.1.1,x.1.2.1,x.1.2.2.1,x.1.2.2.2.1,x.1.2.2.2.2.1++([(y1.1,y2.1)]:Lg),x.1.2.2.2.2.2),y2.2)) none
theorem p0l:s98=s88:=zC 249 func249
def u3u(x:d6m):Ht d6m:=zK 10020 x
def u2a(g:c17->Ht (d6m⊕Unit))(x:c17):Ht (d6m⊕Unit):=((cond (decide (x.2.2.2<x.2.2.1)) (some (!x.1.2.2)) (some false)):La).bind fun j2=>cond j2 ((s98 (x.2.1.1,x.1)).bind fun y3=>g (y3.2,(y3.1,()),x.2.2.1,i64.wrap (x.2.2.2+1))) (some (.inl (x.1,x.2.1.1,())))
def u1h:=lpW _ _ u2a
theorem u67 x:u1h x=u2a u1h x:=zW u62 10020 f245 2 22 x
def u74 (x:d6m):Ht d6m:=(u1l x.1).bind fun y1=>(u1h (y1.2,(x.2.1,()),y1.1,0)).bind fun|.inl o5=>some (o5.1,o5.2.1,())|.inr z6=>none
theorem t8t:u3u=u74:=zC 10020 func245
def s99(x:d7n):Ht d7n:=zK 250 x
def s89 (x:d7n):Ht d7n:=(u2j x.1).bind fun y1=>(u2j y1.2).bind fun y2=>(u64 y2.2).bind fun y3=>cond (Nat.ble (x.2.2.2.2.2.2.1.length+([(y1.1,y2.1,y3.1)]:Li).length) z7v) (some (y3.2,x.2.1,x.2.2.1,x.2.2.2.1,x.2.2.2.2.1,x.2.2.2.2.2.1,x.2.2.2.2.2.2.1++([(y1.1,y2.1,y3.1)]:Li),x.2.2.2.2.2.2.2)) none
theorem p0m:s99=s89:=zC 250 func250
def u3v(x:d6n):Ht d6n:=zK 10021 x
def u2b(g:c16->Ht (d6n⊕Unit))(x:c16):Ht (d6n⊕Unit):=((cond (decide (x.2.2.2<x.2.2.1)) (some (!x.1.2.2)) (some false)):La).bind fun j2=>cond j2 ((s99 (x.1,x.2.1.2)).bind fun y3=>g (y3.1,((),y3.2),x.2.2.1,i64.wrap (x.2.2.2+1))) (some (.inl (x.1,(),x.2.1.2)))
def u1i:=lpW _ _ u2b
theorem u68 x:u1i x=u2b u1i x:=zW u63 10021 f245 2 22 x
def u75 (x:d6n):Ht d6n:=(u1l x.1).bind fun y1=>(u1i (y1.2,((),x.2.2),y1.1,0)).bind fun|.inl o5=>some (o5.1,(),o5.2.2)|.inr z6=>none
theorem t8u:u3v=u75:=zC 10021 func245
def t07(x:p1e):Ht d6p:=zK 135 x
def r4r (x:p1e):Ht d6p:=(u1l x).bind fun y1=>(u1l y1.2).bind fun y2=>(u1l y2.2).bind fun y3=>(u1l y3.2).bind fun y4=>(u3u (y4.2,(y1.1,y2.1,y3.1,y4.1,([]:Lg),([]:Li),false,(⟨#[]⟩:Hs)),())).bind fun y5=>(u3v (y5.1,(),y5.2.1)).bind fun y6=>(u64 y6.1).bind fun y7=>(u2j y7.2).bind fun y8=>cond y8.2.2.2 (some ((y6.2.2.1,y6.2.2.2.1,y6.2.2.2.2.1,y6.2.2.2.2.2.1,y6.2.2.2.2.2.2.1,y6.2.2.2.2.2.2.2.1,y7.1,y8.1),y8.2.1,y8.2.2.1,true)) ((u9q (y6.2.2.1,y6.2.2.2.1,y6.2.2.2.2.1,y6.2.2.2.2.2.1,y6.2.2.2.2.2.2.1,y6.2.2.2.2.2.2.2.1,y7.1,y8.1)).bind fun y9=>some ((y6.2.2.1,y6.2.2.2.1,y6.2.2.2.2.1,y6.2.2.2.2.2.1,y6.2.2.2.2.2.2.1,y6.2.2.2.2.2.2.2.1,y7.1,y8.1),y8.2.1,y8.2.2.1,!y9))
theorem p5o:t07=r4r:=zC 135 func135
def s7v(x:d1l):Ht d1l:=zK 247 x
def s7c (x:d1l):Ht d1l:=(t07 x.2).bind fun y1=>cond (Nat.ble (x.1.2.1.length+([y1.1]:Lc).length) z7v) (some ((x.1.1,x.1.2.1++([y1.1]:Lc),x.1.2.2),y1.2)) none
theorem q66:s7v=s7c:=zC 247 func247
def u3f(x:j8u):Ht j8u:=zK 10019 x
def u12(g:Z88->Ht (j8u⊕Unit))(x:Z88):Ht (j8u⊕Unit):=((cond (decide (x.2.2.2<x.2.2.1)) (some (!x.1.2.2)) (some false)):La).bind fun j2=>cond j2 ((s7v (x.2.1.1,x.1)).bind fun y3=>g (y3.2,(y3.1,()),x.2.2.1,i64.wrap (x.2.2.2+1))) (some (.inl (x.1,x.2.1.1,())))
def u1e:=lpW _ _ u12
theorem u6t x:u1e x=u12 u1e x:=zW u6m 10019 f245 2 22 x
def u7r (x:j8u):Ht j8u:=(u1l x.1).bind fun y1=>(u1e (y1.2,(x.2.1,()),y1.1,0)).bind fun|.inl o5=>some (o5.1,o5.2.1,())|.inr z6=>none
theorem t8g:u3f=u7r:=zC 10019 func245
def s7w(x:d1l):Ht d1l:=zK 248 x
def s7d (x:d1l):Ht d1l:=(t07 x.2).bind fun y1=>cond (Nat.ble (x.1.2.2.1.length+([y1.1]:Lc).length) z7v) (some ((x.1.1,x.1.2.1,x.1.2.2.1++([y1.1]:Lc),x.1.2.2.2),y1.2)) none
theorem q67:s7w=s7d:=zC 248 func248
def u3g(x:j8u):Ht j8u:=zK 10022 x
def u13(g:Z88->Ht (j8u⊕Unit))(x:Z88):Ht (j8u⊕Unit):=((cond (decide (x.2.2.2<x.2.2.1)) (some (!x.1.2.2)) (some false)):La).bind fun j2=>cond j2 ((s7w (x.2.1.1,x.1)).bind fun y3=>g (y3.2,(y3.1,()),x.2.2.1,i64.wrap (x.2.2.2+1))) (some (.inl (x.1,x.2.1.1,())))
def u1f:=lpW _ _ u13
theorem u6u x:u1f x=u13 u1f x:=zW u6n 10022 f245 2 22 x
def u7s (x:j8u):Ht j8u:=(u1l x.1).bind fun y1=>(u1f (y1.2,(x.2.1,()),y1.1,0)).bind fun|.inl o5=>some (o5.1,o5.2.1,())|.inr z6=>none
theorem t8h:u3g=u7s:=zC 10022 func245
def s25(x:p1e):Ht d1l:=zK 134 x
def r1b (x:p1e):Ht d1l:=(u1l x).bind fun y1=>(u1l y1.2).bind fun y2=>(u3e (y2.2,(),([]:Lf),([]:Lc),([]:Lc),y1.1,y2.1)).bind fun y3=>(u3f (y3.1,y3.2.2,())).bind fun y4=>(u3g (y4.1,y4.2.1,())).bind fun y5=>cond y5.1.2.2 (some (y5.2.1,y5.1.1,y5.1.2.1,true)) ((u28 y5.2.1).bind fun y6=>some (y5.2.1,y5.1.1,y5.1.2.1,!y6))
theorem p3e:s25=r1b:=zC 134 func134
def s35(x:Hs):Ht Z52:=zK 55 x
def r4i (x:Hs):Ht Z52:=(s94 x).bind fun y1=>((cond (!y1.2) (some true) (some (z7n y1.1 (⟨#[]⟩:Hs)))):La).bind fun j2=>cond j2 (some ((0,(0,0,0,0,([]:Lg),([]:Li),false,(⟨#[]⟩:Hs)),(⟨#[]⟩:Hs),false,([]:Lf),([]:Lc),([]:Lc),0,0),false)) (cond (y4o (0:Int) y1.1.size) (cond (decide ((i64.wrap ((y1.1.data.toList.getD (0:Int).toNat 0).toNat:Int))=3)) ((u2j (y1.1,1,false)).bind fun y3=>(u64 y3.2).bind fun y4=>(t04 (i64.wrap ((y1.1.data.toList.getD (0:Int).toNat 0).toNat:Int),(0,0,0,0,([]:Lg),([]:Li),false,(⟨#[]⟩:Hs)),y3.1,y4.1,([]:Lf),([]:Lc),([]:Lc),0,0)).bind fun y5=>((cond y4.2.2.2 (some true) (cond (!y5.2) (some true) (some (!z7n y5.1 x)))):La).bind fun j6=>cond j6 (some ((0,(0,0,0,0,([]:Lg),([]:Li),false,(⟨#[]⟩:Hs)),(⟨#[]⟩:Hs),false,([]:Lf),([]:Lc),([]:Lc),0,0),false)) (some ((i64.wrap ((y1.1.data.toList.getD (0:Int).toNat 0).toNat:Int),(0,0,0,0,([]:Lg),([]:Li),false,(⟨#[]⟩:Hs)),y3.1,y4.1,([]:Lf),([]:Lc),([]:Lc),0,0),true))) (cond (decide ((i64.wrap ((y1.1.data.toList.getD (0:Int).toNat 0).toNat:Int))=4)) ((s25 (y1.1,1,false)).bind fun y7=>(t04 (i64.wrap ((y1.1.data.toList.getD (0:Int).toNat 0).toNat:Int),(0,0,0,0,([]:Lg),([]:Li),false,(⟨#[]⟩:Hs)),(⟨#[]⟩:Hs),false,y7.1)).bind fun y8=>((cond y7.2.2.2 (some true) (cond (!y8.2) (some true) (some (!z7n y8.1 x)))):La).bind fun j9=>cond j9 (some ((0,(0,0,0,0,([]:Lg),([]:Li),false,(⟨#[]⟩:Hs)),(⟨#[]⟩:Hs),false,([]:Lf),([]:Lc),([]:Lc),0,0),false)) (some ((i64.wrap ((y1.1.data.toList.getD (0:Int).toNat 0).toNat:Int),(0,0,0,0,([]:Lg),([]:Li),false,(⟨#[]⟩:Hs)),(⟨#[]⟩:Hs),false,y7.1),true))) ((t07 (y1.1,1,false)).bind fun y10=>(t04 (i64.wrap ((y1.1.data.toList.getD (0:Int).toNat 0).toNat:Int),y10.1,(⟨#[]⟩:Hs),false,([]:Lf),([]:Lc),([]:Lc),0,0)).bind fun y11=>((cond y10.2.2.2 (some true) (cond (!y11.2) (some true) (some (!z7n y11.1 x)))):La).bind fun j12=>cond j12 (some ((0,(0,0,0,0,([]:Lg),([]:Li),false,(⟨#[]⟩:Hs)),(⟨#[]⟩:Hs),false,([]:Lf),([]:Lc),([]:Lc),0,0),false)) (some ((i64.wrap ((y1.1.data.toList.getD (0:Int).toNat 0).toNat:Int),y10.1,(⟨#[]⟩:Hs),false,([]:Lf),([]:Lc),([]:Lc),0,0),true))))) none)
theorem p5f:s35=r4i:=zC 55 func55
def t81(x:u9l):Ht u9l:=zK 260 x
def q7z (x:u9l):Ht u9l:=cond (Nat.ble x.2.2.2.2.1.length z7v) (cond (Nat.ble x.2.2.2.2.2.1.length z7v) (some x) none) none
theorem o4w:t81=q7z:=zC 260 func260
def t54(x:q2i):Ht q2i:=zK 259 x
def t6s(g:c1b->Ht d6z)(x:c1b):Ht d6z:=cond (decide (x.2.2.2<x.2.2.1)) (cond (y4o x.2.2.2 x.2.1.length) ((t81 (rdL u0a x.2.1 x.2.2.2.toNat)).bind fun y1=>cond (Nat.ble (x.1.length+([y1]:Lc).length) z7v) (g (x.1++([y1]:Lc),x.2.1,x.2.2.1,i64.wrap (x.2.2.2+1))) none) none) (some (.inl x.1))
def t7j:=lpW _ _ t6s
theorem r6n x:t7j x=t6s t7j x:=zW r5k 259 f259 3 19 x
def q3e (x:q2i):Ht q2i:=(t7j (([]:Lc),x,(x.length:Int),0)).bind fun|.inl o3=>some o3|.inr z4=>none
theorem o1h:t54=q3e:=zC 259 func259
def u1y(x:u8l):Ht u8l:=zK 138 x
def q3c (x:u8l):Ht u8l:=cond (Nat.ble x.1.length z7v) ((t54 x.2.1).bind fun y1=>(t54 x.2.2.1).bind fun y2=>some (x.1,y1,y2,x.2.2.2)) none
theorem o1f:u1y=q3c:=zC 138 func138
def s92(x:s8d):Lj:=zK 191 x
def t6l(g:d6t->Ht j63)(x:d6t):Ht j63:=cond (decide (x.2.2.2<x.2.2.1)) (cond (y4o x.2.2.2 x.2.1.length) (g (y8e x.1 (rdL u0a x.2.1 x.2.2.2.toNat).2.2.1,x.2.1,x.2.2.1,i64.wrap (x.2.2.2+1))) none) (some (.inl x.1))
def t7e:=lpW _ _ t6l
theorem r6g x:t7e x=t6l t7e x:=zW r5d 191 f191 3 22 x
def q24 (x:s8d):Lj:=(t7e (x.1.2.2.2.1,x.2,(x.2.length:Int),0)).bind fun|.inl o2=>some o2|.inr z3=>none
theorem o06:s92=q24:=zC 191 func191
def s6x(x:(Hs×q6j)):Lj:=zK 313 x
def t4j(g:c4j->Ht j63)(x:c4j):Ht j63:=cond (decide (x.2.2.2.2<x.2.2.2.1)) (cond (y4o x.2.2.2.2 x.2.2.1.length) (cond (z7n (rdL u0d x.2.2.1 x.2.2.2.2.toNat).1 x.1) (g (x.1,i64.wrap (x.2.1+1),x.2.2.1,x.2.2.2.1,i64.wrap (x.2.2.2.2+1))) (g (x.1,x.2.1,x.2.2.1,x.2.2.2.1,i64.wrap (x.2.2.2.2+1)))) none) (some (.inl x.2.1))
def u9g:=lpW _ _ t4j
theorem r2y x:u9g x=t4j u9g x:=zW r1u 313 f313 3 21 x
def r8x (x:(Hs×q6j)):Lj:=(u9g (x.1,0,x.2,(x.2.length:Int),0)).bind fun|.inl o2=>some o2|.inr z3=>none
theorem p8m:s6x=r8x:=zC 313 func313
def r3z(x:d63):Ht q6j:=zK 194 x
def t9n(g:c3e->Ht d9z)(x:c3e):Ht d9z:=cond (decide (x.2.2.2.2.2<x.2.2.2.2.1)) (cond (y4o x.2.2.2.2.2 x.2.2.2.1.length) (((cond (decide ((rdL u0d x.2.2.2.1 x.2.2.2.2.2.toNat).2.2.2>x.2.1)) (some true) ((s8m (x.1,(rdL u0d x.2.2.2.1 x.2.2.2.2.2.toNat).1,x.2.1)).bind fun y1=>some (decide (y1=x.2.2.2.2.2)))):La).bind fun j2=>cond j2 (cond (Nat.ble (x.2.2.1.length+([(rdL u0d x.2.2.2.1 x.2.2.2.2.2.toNat)]:Lf).length) z7v) (g (x.1,x.2.1,x.2.2.1++([(rdL u0d x.2.2.2.1 x.2.2.2.2.2.toNat)]:Lf),x.2.2.2.1,x.2.2.2.2.1,i64.wrap (x.2.2.2.2.2+1))) none) (g (x.1,x.2.1,x.2.2.1,x.2.2.2.1,x.2.2.2.2.1,i64.wrap (x.2.2.2.2.2+1)))) none) (some (.inl (x.2.1,x.2.2.1)))
def t22:=lpW _ _ t9n
theorem q1h x:t22 x=t9n t22 x:=zW r94 194 f194 3 66 x
def t6p(g:c3b->Ht j81)(x:c3b):Ht j81:=cond (decide (x.2.2.2.2.2<x.2.2.2.2.1)) (cond (y4o x.2.2.2.2.2 x.2.2.2.1.length) (cond (decide ((rdL u0d x.2.2.2.1 x.2.2.2.2.2.toNat).2.2.2>x.1)) (cond (Nat.ble (x.2.2.1.length+([(rdL u0d x.2.2.2.1 x.2.2.2.2.2.toNat)]:Lf).length) z7v) (g (x.1,x.2.1,x.2.2.1++([(rdL u0d x.2.2.2.1 x.2.2.2.2.2.toNat)]:Lf),x.2.2.2.1,x.2.2.2.2.1,i64.wrap (x.2.2.2.2.2+1))) none) (cond (!(rdL u0d x.2.2.2.1 x.2.2.2.2.2.toNat).2.2.1) (cond (Nat.ble (x.2.2.1.length+([(rdL u0d x.2.2.2.1 x.2.2.2.2.2.toNat)]:Lf).length) z7v) (g (x.1,x.2.1,x.2.2.1++([(rdL u0d x.2.2.2.1 x.2.2.2.2.2.toNat)]:Lf),x.2.2.2.1,x.2.2.2.2.1,i64.wrap (x.2.2.2.2.2+1))) none) ((s6x ((rdL u0d x.2.2.2.1 x.2.2.2.2.2.toNat).1,x.2.1)).bind fun y5=>cond (decide (y5>1)) (cond (Nat.ble (x.2.2.1.length+([(rdL u0d x.2.2.2.1 x.2.2.2.2.2.toNat)]:Lf).length) z7v) (g (x.1,x.2.1,x.2.2.1++([(rdL u0d x.2.2.2.1 x.2.2.2.2.2.toNat)]:Lf),x.2.2.2.1,x.2.2.2.2.1,i64.wrap (x.2.2.2.2.2+1))) none) (g (x.1,x.2.1,x.2.2.1,x.2.2.2.1,x.2.2.2.2.1,i64.wrap (x.2.2.2.2.2+1)))))) none) (some (.inl x.2.2.1))
def t7h:=lpW _ _ t6p
theorem r6k x:t7h x=t6p t7h x:=zW r5h 194 f194 11 66 x
def q7v (x:d63):Ht q6j:=(t22 (x.1,x.2,([]:Lf),x.1,(x.1.length:Int),0)).bind fun|.inl o4=>((t7h (o4.1,o4.2,([]:Lf),o4.2,(o4.2.length:Int),0)).bind fun|.inl o7=>some o7|.inr z8=>none)|.inr z9=>none
theorem o4s:r3z=q7v:=zC 194 func194
def t06(x:j8w):La:=zK 193 x
def o0n (x:j8w):La:=some (decide (x.1.2.2.2.1<=x.2))
theorem o1b:t06=o0n:=zC 193 func193
def u52(x:d14):Lj:=zK 10004 x
def u4y(g:d89->Ht o31)(x:d89):Ht o31:=cond (decide (x.2.2.2<x.2.2.1)) (cond (y4o x.2.2.2 x.1.length) ((t06 (rdL u0a x.1 x.2.2.2.toNat,x.2.1)).bind fun y1=>cond y1 (some (.inr x.2.2.2)) (g (x.1,x.2.1,x.2.2.1,i64.wrap (x.2.2.2+1)))) none) (some (.inl ()))
def u1t:=lpW _ _ u4y
theorem t2p x:u1t x=u4y u1t x:=zW u47 10004 f264 2 19 x
def u5z (x:d14):Lj:=(u1t (x.1,x.2,(x.1.length:Int),0)).bind fun|.inl o3=>some (- 1:Int)|.inr z4=>some z4
theorem t4c:u52=u5z:=zC 10004 func264
def u2o(x:d14):Ht q2i:=zK 10003 x
def u4n(g:d89->Ht d61)(x:d89):Ht d61:=cond (decide (x.2.2.2<(x.1.length:Int))) (cond (y4o x.2.2.2 x.1.length) ((t06 (rdL u0a x.1 x.2.2.2.toNat,x.2.1)).bind fun y2=>cond (!y2) (cond (y4o x.2.2.1 x.1.length) (g (x.1.set x.2.2.1.toNat (rdL u0a x.1 x.2.2.2.toNat),x.2.1,i64.wrap (x.2.2.1+1),i64.wrap (x.2.2.2+1))) none) (g (x.1,x.2.1,x.2.2.1,i64.wrap (x.2.2.2+1)))) none) (some (.inl (x.1,x.2.2.1)))
def u1n:=lpW _ _ u4n
theorem t1h x:u1n x=u4n u1n x:=zW u4s 10003 f192 5 42 x
def u5h (x:d14):Ht q2i:=(u52 x).bind fun y1=>cond (decide (y1=(- 1:Int))) (some x.1) ((u1n (x.1,x.2,y1,i64.wrap (y1+1))).bind fun|.inl o4=>cond (decide (0<=o4.2)&&decide (o4.2<=(o4.1.length:Int))&&decide ((o4.1.length:Int)<=(o4.1.length:Int))) (cond (decide (0<=(0:Int))&&decide ((0:Int)<=o4.2)&&decide (o4.2<=((o4.1.take o4.2.toNat++List.replicate ((o4.1.length:Int).toNat - o4.2.toNat) u0a.zero++o4.1.drop (o4.2.toNat+((o4.1.length:Int).toNat - o4.2.toNat))).length:Int))) (some ((o4.1.take o4.2.toNat++List.replicate ((o4.1.length:Int).toNat - o4.2.toNat) u0a.zero++o4.1.drop (o4.2.toNat+((o4.1.length:Int).toNat - o4.2.toNat))).take (o4.2.toNat - (0:Int).toNat))) none) none|.inr z5=>none)
theorem t3m:u2o=u5h:=zC 10003 func192
def u31(x:s8d):Ht u8l:=zK 95 x
def p1x (x:s8d):Ht u8l:=(u1y x.1).bind fun y1=>(s92 x).bind fun y2=>(u2o (y1.2.1,y2)).bind fun y3=>(r3z (x.1.1,y2)).bind fun y4=>some (y4,y3,y1.2.2)
theorem o8y:u31=p1x:=zC 95 func95
def s9z(x:Z78):La:=zK 371 x
def q20 (x:Z78):La:=((cond (decide (x.1.2.1=3)) (some (decide (x.1.2.2.2.1<=x.2.2.2.1))) (some false)):La).bind fun j1=>some j1
theorem o02:s9z=q20:=zC 371 func371
def r7u(x:Z78):La:=zK 334 x
def p1o (x:Z78):La:=cond (!decide (x.1.1=x.2.1)) ((s9z x).bind fun y1=>cond (!y1) ((s9z (x.2,x.1)).bind fun y2=>some (!y2)) (some false)) (some false)
theorem o8p:r7u=p1o:=zC 334 func334
def r2k(x:Z78):La:=zK 263 x
def p6t (x:Z78):La:=(((r7u x).bind fun y1=>cond y1 ((u77 (x.1.2.2.2.2.1,x.2.2.2.2.2.2.1)).bind fun y2=>some y2) (some false)):La).bind fun j3=>some j3
theorem j1w:r2k=p6t:=zC 263 func263
def s42(x:Z78):La:=zK 333 x
def q7l (x:Z78):La:=(((u9r x.1).bind fun y1=>cond y1 ((r2k (x.2,x.1)).bind fun y2=>some y2) (some false)):La).bind fun j3=>some j3
theorem o4i:s42=q7l:=zC 333 func333
def u6b(x:j4c):Lj:=zK 10008 x
def u5g(g:d3o->Ht o31)(x:d3o):Ht o31:=cond (decide (x.2.2.2<x.2.2.1)) (cond (y4o x.2.2.2 x.1.length) ((s42 (rdL u0a x.1 x.2.2.2.toNat,x.2.1)).bind fun y1=>cond y1 (some (.inr x.2.2.2)) (g (x.1,x.2.1,x.2.2.1,i64.wrap (x.2.2.2+1)))) none) (some (.inl ()))
def u1w:=lpW _ _ u5g
theorem t3z x:u1w x=u5g u1w x:=zW u5l 10008 f264 2 19 x
def u6a (x:j4c):Lj:=(u1w (x.1,x.2,(x.1.length:Int),0)).bind fun|.inl o3=>some (- 1:Int)|.inr z4=>some z4
theorem t5d:u6b=u6a:=zC 10008 func264
def u48(x:j4c):La:=zK 10007 x
def u42 (x:j4c):La:=(u6b x).bind fun y1=>some (decide (y1>=0))
theorem t2a:u48=u42:=zC 10007 func207
def s1r(x:j4c):La:=zK 10006 x
def s1l (x:j4c):La:=(u48 x).bind fun y1=>some y1
theorem r45:s1r=s1l:=zC 10006 func110
def r2n(x:j8v):La:=zK 261 x
def p6x (x:j8v):La:=(s1r (x.2,x.1)).bind fun y1=>some y1
theorem j17:r2n=p6x:=zC 261 func261
def u86(x:Z78):La:=zK 262 x
def p79 (x:Z78):La:=some (decide (x.1.1=x.2.1))
theorem p8l:u86=p79:=zC 262 func262
def u5o(x:j4c):Lj:=zK 10010 x
def u4q(g:d3o->Ht o31)(x:d3o):Ht o31:=cond (decide (x.2.2.2<x.2.2.1)) (cond (y4o x.2.2.2 x.1.length) ((u86 (rdL u0a x.1 x.2.2.2.toNat,x.2.1)).bind fun y1=>cond y1 (some (.inr x.2.2.2)) (g (x.1,x.2.1,x.2.2.1,i64.wrap (x.2.2.2+1)))) none) (some (.inl ()))
def u1q:=lpW _ _ u4q
theorem t1k x:u1q x=u4q u1q x:=zW u4v 10010 f264 2 19 x
def u5k (x:j4c):Lj:=(u1q (x.1,x.2,(x.1.length:Int),0)).bind fun|.inl o3=>some (- 1:Int)|.inr z4=>some z4
theorem t3p:u5o=u5k:=zC 10010 func264
def u1u(x:j4c):Ht q2i:=zK 10009 x
def u39(g:d3o->Ht d61)(x:d3o):Ht d61:=cond (decide (x.2.2.2<(x.1.length:Int))) (cond (y4o x.2.2.2 x.1.length) ((u86 (rdL u0a x.1 x.2.2.2.toNat,x.2.1)).bind fun y2=>cond (!y2) (cond (y4o x.2.2.1 x.1.length) (g (x.1.set x.2.2.1.toNat (rdL u0a x.1 x.2.2.2.toNat),x.2.1,i64.wrap (x.2.2.1+1),i64.wrap (x.2.2.2+1))) none) (g (x.1,x.2.1,x.2.2.1,i64.wrap (x.2.2.2+1)))) none) (some (.inl (x.1,x.2.2.1)))
def u1k:=lpW _ _ u39
theorem t1d x:u1k x=u39 u1k x:=zW u4d 10009 f192 5 42 x
def u44 (x:j4c):Ht q2i:=(u5o x).bind fun y1=>cond (decide (y1=(- 1:Int))) (some x.1) ((u1k (x.1,x.2,y1,i64.wrap (y1+1))).bind fun|.inl o4=>cond (decide (0<=o4.2)&&decide (o4.2<=(o4.1.length:Int))&&decide ((o4.1.length:Int)<=(o4.1.length:Int))) (cond (decide (0<=(0:Int))&&decide ((0:Int)<=o4.2)&&decide (o4.2<=((o4.1.take o4.2.toNat++List.replicate ((o4.1.length:Int).toNat - o4.2.toNat) u0a.zero++o4.1.drop (o4.2.toNat+((o4.1.length:Int).toNat - o4.2.toNat))).length:Int))) (some ((o4.1.take o4.2.toNat++List.replicate ((o4.1.length:Int).toNat - o4.2.toNat) u0a.zero++o4.1.drop (o4.2.toNat+((o4.1.length:Int).toNat - o4.2.toNat))).take (o4.2.toNat - (0:Int).toNat))) none) none|.inr z5=>none)
theorem t2c:u1u=u44:=zC 10009 func192
def t33(x:Z64):Ht u8l:=zK 139 x
def t9k(g:Z10->Ht (Z13⊕Unit))(x:Z10):Ht (Z13⊕Unit):=cond (decide (x.2.2.2.2.2.2<x.2.2.2.2.2.1)) (cond (y4o x.2.2.2.2.2.2 x.2.2.1.2.2.1.length) (cond (rdL u0a x.2.2.1.2.2.1 x.2.2.2.2.2.2.toNat).2.2.2.2.2.2.1 (cond (y4o x.2.2.2.2.2.2 x.2.2.1.2.2.1.length) (g (x.1,x.2.1,(x.2.2.1.1,x.2.2.1.2.1,x.2.2.1.2.2.1.set x.2.2.2.2.2.2.toNat ((rdL u0a x.2.2.1.2.2.1 x.2.2.2.2.2.2.toNat).1,(rdL u0a x.2.2.1.2.2.1 x.2.2.2.2.2.2.toNat).2.1,(rdL u0a x.2.2.1.2.2.1 x.2.2.2.2.2.2.toNat).2.2.1,(rdL u0a x.2.2.1.2.2.1 x.2.2.2.2.2.2.toNat).2.2.2.1,(rdL u0a x.2.2.1.2.2.1 x.2.2.2.2.2.2.toNat).2.2.2.2.1,(rdL u0a x.2.2.1.2.2.1 x.2.2.2.2.2.2.toNat).2.2.2.2.2.1,true,(rdL u0a x.2.2.1.2.2.1 x.2.2.2.2.2.2.toNat).2.2.2.2.2.2.2),x.2.2.1.2.2.2),x.2.2.2.1,(),x.2.2.2.2.2.1,i64.wrap (x.2.2.2.2.2.2+1))) none) ((r2k (rdL u0a x.2.2.1.2.2.1 x.2.2.2.2.2.2.toNat,x.2.2.2.1)).bind fun y5=>cond (y4o x.2.2.2.2.2.2 x.2.2.1.2.2.1.length) (g (x.1,x.2.1,(x.2.2.1.1,x.2.2.1.2.1,x.2.2.1.2.2.1.set x.2.2.2.2.2.2.toNat ((rdL u0a x.2.2.1.2.2.1 x.2.2.2.2.2.2.toNat).1,(rdL u0a x.2.2.1.2.2.1 x.2.2.2.2.2.2.toNat).2.1,(rdL u0a x.2.2.1.2.2.1 x.2.2.2.2.2.2.toNat).2.2.1,(rdL u0a x.2.2.1.2.2.1 x.2.2.2.2.2.2.toNat).2.2.2.1,(rdL u0a x.2.2.1.2.2.1 x.2.2.2.2.2.2.toNat).2.2.2.2.1,(rdL u0a x.2.2.1.2.2.1 x.2.2.2.2.2.2.toNat).2.2.2.2.2.1,y5,(rdL u0a x.2.2.1.2.2.1 x.2.2.2.2.2.2.toNat).2.2.2.2.2.2.2),x.2.2.1.2.2.2),x.2.2.2.1,(),x.2.2.2.2.2.1,i64.wrap (x.2.2.2.2.2.2+1))) none)) none) (some (.inl (x.1,x.2.1,x.2.2.1,x.2.2.2.1)))
def u8y:=lpW _ _ t9k
theorem q1e x:u8y x=t9k u8y x:=zW r91 139 f139 9 80 x
def q7t (x:Z64):Ht u8l:=(u1y x.1).bind fun y1=>(t81 x.2).bind fun y2=>cond x.2.2.2.2.2.2.2.1 ((u9p (x.1.1,x.2.2.2.2.2.2.1,i64.wrap (y1.2.2.2.1+1))).bind fun y3=>(u1u (y1.2.2.1,x.2)).bind fun y4=>(u8y (x.2,(([]:Lf),([]:Lc),([]:Lc),0,0),(y3,y1.2.1,y4,i64.wrap (y1.2.2.2.1+1),y1.2.2.2.2),(y2.1,3,y2.2.2.1,i64.wrap (x.1.2.2.2.1+1),y2.2.2.2.2.1,y2.2.2.2.2.2.1,true,(⟨#[]⟩:Hs)),(),(y4.length:Int),0)).bind fun|.inl o7=>cond (Nat.ble (o7.2.2.1.2.1.length+([o7.2.2.2]:Lc).length) z7v) (some (o7.2.2.1.1,o7.2.2.1.2.1++([o7.2.2.2]:Lc),o7.2.2.1.2.2.1,o7.2.2.1.2.2.2.1,y8d o7.2.2.1.2.2.2.2 (i64.wrap (o7.1.1+1)))) none|.inr z8=>none) ((r2n (x.2,x.1.2.1)).bind fun y9=>(u9p (x.1.1,x.2.2.2.2.2.2.1,i64.wrap (y1.2.2.2.1+1))).bind fun y10=>(u1u (y1.2.2.1,x.2)).bind fun y11=>(u8y (x.2,(([]:Lf),([]:Lc),([]:Lc),0,0),(y10,y1.2.1,y11,i64.wrap (y1.2.2.2.1+1),y1.2.2.2.2),(y2.1,3,y2.2.2.1,i64.wrap (x.1.2.2.2.1+1),y2.2.2.2.2.1,y2.2.2.2.2.2.1,y9,(⟨#[]⟩:Hs)),(),(y11.length:Int),0)).bind fun|.inl o14=>cond (Nat.ble (o14.2.2.1.2.1.length+([o14.2.2.2]:Lc).length) z7v) (some (o14.2.2.1.1,o14.2.2.1.2.1++([o14.2.2.2]:Lc),o14.2.2.1.2.2.1,o14.2.2.1.2.2.2.1,y8d o14.2.2.1.2.2.2.2 (i64.wrap (o14.1.1+1)))) none|.inr z15=>none)
theorem o4q:t33=q7t:=zC 139 func139
def s0z(x:d13):La:=zK 265 x
def r8u (x:d13):La:=some (z7n x.1.2.2.2.2.2.2.2 x.2)
theorem p8i:s0z=r8u:=zC 265 func265
def u5n(x:d6u):Lj:=zK 10013 x
def u4p(g:d6s->Ht o31)(x:d6s):Ht o31:=cond (decide (x.2.2.2<x.2.2.1)) (cond (y4o x.2.2.2 x.1.length) ((s0z (rdL u0a x.1 x.2.2.2.toNat,x.2.1)).bind fun y1=>cond y1 (some (.inr x.2.2.2)) (g (x.1,x.2.1,x.2.2.1,i64.wrap (x.2.2.2+1)))) none) (some (.inl ()))
def u1p:=lpW _ _ u4p
theorem t1j x:u1p x=u4p u1p x:=zW u4u 10013 f264 2 19 x
def u5j (x:d6u):Lj:=(u1p (x.1,x.2,(x.1.length:Int),0)).bind fun|.inl o3=>some (- 1:Int)|.inr z4=>some z4
theorem t3o:u5n=u5j:=zC 10013 func264
def t8z(x:d1n):Lj:=zK 140 x
def q7q (x:d1n):Lj:=(u5n (x.1.2.2.1,x.2)).bind fun y1=>some y1
theorem o4n:t8z=q7q:=zC 140 func140
def s6v(x:Z60):Ht u8l:=zK 141 x
def t4h(g:Z6->Ht (Z8⊕Unit))(x:Z6):Ht (Z8⊕Unit):=cond (decide (x.2.2.2.2.2.2.2.2.2<x.2.2.2.2.2.2.2.2.1)) (cond (y4o x.2.2.2.2.2.2.2.2.2 x.2.2.2.1.2.2.1.length) (cond (y3b (rdL u0a x.2.2.2.1.2.2.1 x.2.2.2.2.2.2.2.2.2.toNat).2.2.2.2.2.2.2 x.1) (cond (Nat.ble (x.2.2.2.2.2.1.length+([(rdL u0a x.2.2.2.1.2.2.1 x.2.2.2.2.2.2.2.2.2.toNat)]:Lc).length) z7v) (g (x.1,x.2.1,x.2.2.1,x.2.2.2.1,x.2.2.2.2.1,x.2.2.2.2.2.1++([(rdL u0a x.2.2.2.1.2.2.1 x.2.2.2.2.2.2.2.2.2.toNat)]:Lc),x.2.2.2.2.2.2.1,(),x.2.2.2.2.2.2.2.2.1,i64.wrap (x.2.2.2.2.2.2.2.2.2+1))) none) (cond (Nat.ble (x.2.2.2.2.2.2.1.length+([(rdL u0a x.2.2.2.1.2.2.1 x.2.2.2.2.2.2.2.2.2.toNat)]:Lc).length) z7v) (g (x.1,x.2.1,x.2.2.1,x.2.2.2.1,x.2.2.2.2.1,x.2.2.2.2.2.1,x.2.2.2.2.2.2.1++([(rdL u0a x.2.2.2.1.2.2.1 x.2.2.2.2.2.2.2.2.2.toNat)]:Lc),(),x.2.2.2.2.2.2.2.2.1,i64.wrap (x.2.2.2.2.2.2.2.2.2+1))) none)) none) (some (.inl (x.2.1,x.2.2.1,x.2.2.2.1,x.2.2.2.2.1,x.2.2.2.2.2.1,x.2.2.2.2.2.2.1)))
def u6x:=lpW _ _ t4h
theorem r2w x:u6x x=t4h u6x x:=zW r1s 141 f141 6 64 x
def r8r (x:Z60):Ht u8l:=(u1y x.1).bind fun y1=>(t81 x.2.1).bind fun y2=>cond x.2.1.2.2.2.2.2.2.1 ((u6x (x.2.2,x.2.1,(([]:Lf),([]:Lc),([]:Lc),0,0),y1,(y2.1,2,y2.2.2.1,y2.2.2.2.1,y2.2.2.2.2.1,y2.2.2.2.2.2.1,true,x.2.2),([]:Lc),([]:Lc),(),(y1.2.2.1.length:Int),0)).bind fun|.inl o4=>cond (Nat.ble (o4.2.2.2.2.1.length+([o4.2.2.2.1]:Lc).length) z7v) (cond (Nat.ble ((o4.2.2.2.2.1++([o4.2.2.2.1]:Lc)).length+o4.2.2.2.2.2.length) z7v) (some (o4.2.2.1.1,o4.2.2.1.2.1,(o4.2.2.2.2.1++([o4.2.2.2.1]:Lc))++o4.2.2.2.2.2,o4.2.2.1.2.2.2.1,y8d o4.2.2.1.2.2.2.2 (i64.wrap (o4.1.1+1)))) none) none|.inr z5=>none) ((r2n (x.2.1,x.1.2.1)).bind fun y6=>(u6x (x.2.2,x.2.1,(([]:Lf),([]:Lc),([]:Lc),0,0),y1,(y2.1,2,y2.2.2.1,y2.2.2.2.1,y2.2.2.2.2.1,y2.2.2.2.2.2.1,y6,x.2.2),([]:Lc),([]:Lc),(),(y1.2.2.1.length:Int),0)).bind fun|.inl o8=>cond (Nat.ble (o8.2.2.2.2.1.length+([o8.2.2.2.1]:Lc).length) z7v) (cond (Nat.ble ((o8.2.2.2.2.1++([o8.2.2.2.1]:Lc)).length+o8.2.2.2.2.2.length) z7v) (some (o8.2.2.1.1,o8.2.2.1.2.1,(o8.2.2.2.2.1++([o8.2.2.2.1]:Lc))++o8.2.2.2.2.2,o8.2.2.1.2.2.2.1,y8d o8.2.2.1.2.2.2.2 (i64.wrap (o8.1.1+1)))) none) none|.inr z9=>none)
theorem p8f:s6v=r8r:=zC 141 func141
def u85(x:d13):La:=zK 266 x
def p78 (x:d13):La:=some (z7n x.1.2.2.2.2.2.2.2 x.2)
theorem p8d:u85=p78:=zC 266 func266
def u5m(x:d6u):Lj:=zK 10012 x
def u4o(g:d6s->Ht o31)(x:d6s):Ht o31:=cond (decide (x.2.2.2<x.2.2.1)) (cond (y4o x.2.2.2 x.1.length) ((u85 (rdL u0a x.1 x.2.2.2.toNat,x.2.1)).bind fun y1=>cond y1 (some (.inr x.2.2.2)) (g (x.1,x.2.1,x.2.2.1,i64.wrap (x.2.2.2+1)))) none) (some (.inl ()))
def u1o:=lpW _ _ u4o
theorem t1i x:u1o x=u4o u1o x:=zW u4t 10012 f264 2 19 x
def u5i (x:d6u):Lj:=(u1o (x.1,x.2,(x.1.length:Int),0)).bind fun|.inl o3=>some (- 1:Int)|.inr z4=>some z4
theorem t3n:u5m=u5i:=zC 10012 func264
def u2n(x:d6u):Ht q2i:=zK 10011 x
def u38(g:d6s->Ht d61)(x:d6s):Ht d61:=cond (decide (x.2.2.2<(x.1.length:Int))) (cond (y4o x.2.2.2 x.1.length) ((u85 (rdL u0a x.1 x.2.2.2.toNat,x.2.1)).bind fun y2=>cond (!y2) (cond (y4o x.2.2.1 x.1.length) (g (x.1.set x.2.2.1.toNat (rdL u0a x.1 x.2.2.2.toNat),x.2.1,i64.wrap (x.2.2.1+1),i64.wrap (x.2.2.2+1))) none) (g (x.1,x.2.1,x.2.2.1,i64.wrap (x.2.2.2+1)))) none) (some (.inl (x.1,x.2.2.1)))
def u1j:=lpW _ _ u38
theorem t1c x:u1j x=u38 u1j x:=zW u4c 10011 f192 5 42 x
def u43 (x:d6u):Ht q2i:=(u5m x).bind fun y1=>cond (decide (y1=(- 1:Int))) (some x.1) ((u1j (x.1,x.2,y1,i64.wrap (y1+1))).bind fun|.inl o4=>cond (decide (0<=o4.2)&&decide (o4.2<=(o4.1.length:Int))&&decide ((o4.1.length:Int)<=(o4.1.length:Int))) (cond (decide (0<=(0:Int))&&decide ((0:Int)<=o4.2)&&decide (o4.2<=((o4.1.take o4.2.toNat++List.replicate ((o4.1.length:Int).toNat - o4.2.toNat) u0a.zero++o4.1.drop (o4.2.toNat+((o4.1.length:Int).toNat - o4.2.toNat))).length:Int))) (some ((o4.1.take o4.2.toNat++List.replicate ((o4.1.length:Int).toNat - o4.2.toNat) u0a.zero++o4.1.drop (o4.2.toNat+((o4.1.length:Int).toNat - o4.2.toNat))).take (o4.2.toNat - (0:Int).toNat))) none) none|.inr z5=>none)
theorem t2b:u2n=u43:=zC 10011 func192
def t8w(x:d1n):Ht u8l:=zK 142 x
def q7j (x:d1n):Ht u8l:=(u1y x.1).bind fun y1=>(u2n (y1.2.2.1,x.2)).bind fun y2=>some (y1.1,y1.2.1,y2,y1.2.2.2)
theorem o4g:t8w=q7j:=zC 142 func142
def r7y(x:Z20):Ht j55:=zK 56 x
def p1s (x:Z20):Ht j55:=(((u28 x.1).bind fun y1=>cond (!y1) (some true) ((s2y x.2).bind fun y2=>some (!y2))):La).bind fun j3=>cond j3 ((u1y x.1).bind fun y4=>some (y4,false)) ((u1y x.1).bind fun y5=>cond (decide (x.2.1=1)) ((t33 (x.1,x.2.2.1)).bind fun y6=>(u31 (y6,([]:Lc))).bind fun y7=>((cond (!(decide (x.2.2.1.2.2.2.1=(i64.wrap (x.1.2.2.2.1+1))))) (some true) ((u28 y7).bind fun y8=>some (!y8))):La).bind fun j9=>cond j9 ((u1y x.1).bind fun y10=>some (y10,false)) (some (y7,true))) (cond (decide (x.2.1=2)) (((cond (decide ((x.1.2.2.1.length:Int)<(3:Int))) ((t8z (x.1,x.2.2.1.2.2.2.2.2.2.2)).bind fun y11=>some (decide (y11<0))) (some false)):La).bind fun j12=>(s6v (x.1,x.2.2.1,x.2.2.1.2.2.2.2.2.2.2)).bind fun y13=>(u31 (y13,([]:Lc))).bind fun y14=>((cond (!j12) (some true) ((u28 y14).bind fun y15=>some (!y15))):La).bind fun j16=>cond j16 ((u1y x.1).bind fun y17=>some (y17,false)) (some (y14,true))) (cond (decide (x.2.1=3)) ((t8z (x.1,x.2.2.2.1)).bind fun y18=>((cond (decide (y18>=0)) (some x.2.2.2.2.1) (some false)):La).bind fun j19=>cond j19 (cond (y4o y18 x.1.2.2.1.length) ((t33 (x.1,rdL u0a x.1.2.2.1 y18.toNat)).bind fun y20=>(u31 (y20,([]:Lc))).bind fun y21=>((cond (!(decide (y18>=0))) (some true) ((u28 y21).bind fun y22=>some (!y22))):La).bind fun j23=>cond j23 ((u1y x.1).bind fun y24=>some (y24,false)) (some (y21,true))) none) ((t8w (x.1,x.2.2.2.1)).bind fun y25=>(u31 (y25,([]:Lc))).bind fun y26=>((cond (!(decide (y18>=0))) (some true) ((u28 y26).bind fun y27=>some (!y27))):La).bind fun j28=>cond j28 ((u1y x.1).bind fun y29=>some (y29,false)) (some (y26,true)))) ((u1y x.2.2.2.2.2).bind fun y30=>(u31 (y30,([]:Lc))).bind fun y31=>(((u28 y31).bind fun y32=>some (!y32)):La).bind fun j33=>cond j33 ((u1y x.1).bind fun y34=>some (y34,false)) (some (y31,true))))))
theorem o8t:r7y=p1s:=zC 56 func56
def t8y(x:t0z):Ht j55:=zK 11 x
def t9f(g:Z46->Ht (Z57⊕j55))(x:Z46):Ht (Z57⊕j55):=cond (decide (x.2.2.2.2<x.2.2.2.1)) (cond (y4o x.2.2.2.2 x.2.2.1.length) ((s35 (rdL Ty.str x.2.2.1 x.2.2.2.2.toNat)).bind fun y3=>(r7y (x.2.1,y3.1)).bind fun y4=>((cond (!y3.2) (some true) (some (!y4.2))):La).bind fun j5=>cond j5 (some (.inr ((([]:Lf),([]:Lc),([]:Lc),0,0),false))) (g (x.1,y4.1,x.2.2.1,x.2.2.2.1,i64.wrap (x.2.2.2.2+1)))) none) (some (.inl (x.1,x.2.1)))
def u69:=lpW _ _ t9f
theorem q09 x:u69 x=t9f u69 x:=zW r9v 11 f11 3 40 x
def q7m (x:t0z):Ht j55:=(r3u ()).bind fun y1=>(s91 x).bind fun y2=>(u69 ((([]:Lf),([]:Lc),([]:Lc),0,0),y1,y2,(y2.length:Int),0)).bind fun|.inl o7=>some (o7.2,true)|.inr z8=>some z8
theorem o4j:t8y=q7m:=zC 11 func11
def r7v(x:t0z):La:=zK 152 x
def s1y(g:c3z->Ht d60)(x:c3z):Ht d60:=cond (decide (x.2.2.2<x.2.2.1)) (cond (y4o x.2.2.2 x.2.1.length) (cond (!decide (((rdL Ty.str x.2.1 x.2.2.2.toNat).size:Int)=(64:Int))) (some (.inr false)) (g (x.1,x.2.1,x.2.2.1,i64.wrap (x.2.2.2+1)))) none) (some (.inl x.1))
def s2d:=lpW _ _ s1y
theorem q53 x:s2d x=s1y s2d x:=zW q4u 152 f152 2 50 x
def s1z(g:c30->Ht d60)(x:c30):Ht d60:=cond (decide (x.2.2.2<x.2.2.1)) (cond (y4o x.2.2.2 x.2.1.length) ((((u1c ((rdL q2u x.2.1 x.2.2.2.toNat).1,0,i64.wrap ((x.1.1.length:Int) - (1:Int)))).bind fun y3=>cond (!y3) (some true) (some (!decide (((rdL q2u x.2.1 x.2.2.2.toNat).2.size:Int)=(64:Int))))):La).bind fun j4=>cond j4 (some (.inr false)) (g (x.1,x.2.1,x.2.2.1,i64.wrap (x.2.2.2+1)))) none) (some (.inl x.1))
def s2e:=lpW _ _ s1z
theorem q54 x:s2e x=s1z s2e x:=zW q4v 152 f152 8 50 x
def p1p (x:t0z):La:=(s2d (x,x.1,(x.1.length:Int),0)).bind fun|.inl o2=>((s2e (o2,o2.2,(o2.2.length:Int),0)).bind fun|.inl o6=>((((u1c ((o6.1.length:Int),1,100)).bind fun y7=>cond y7 (some (decide ((o6.2.length:Int)<=(60:Int)))) (some false)):La).bind fun j8=>some j8)|.inr z9=>some z9)|.inr z10=>some z10
theorem o8q:r7v=p1p:=zC 152 func152
def r2l(x:t0z):La:=zK 69 x
def p6v (x:t0z):La:=(t52 (x,0)).bind fun y1=>(t52 (x,1)).bind fun y2=>(((r7v x).bind fun y3=>cond y3 (cond (decide ((x.1.length:Int)=(97:Int))) (cond (decide ((x.2.length:Int)=(0:Int))) (cond y1.2.2 (some y2.2.2) (some false)) (some false)) (some false)) (some false)):La).bind fun j4=>some j4
theorem j1y:r2l=p6v:=zC 69 func69
def s96(x:t0z):Ht t0z:=zK 70 x
def q3d (x:t0z):Ht t0z:=cond (Nat.ble x.1.length z7v) (cond (Nat.ble x.2.length z7v) (some x) none) none
theorem o1g:s96=q3d:=zC 70 func70
def s6w(x:t0z):Ht Z69:=zK 18 x
def r8v (x:t0z):Ht Z69:=(t8y x).bind fun y1=>((cond (!y1.2) (some true) ((r2l x).bind fun y2=>some (!y2))):La).bind fun j3=>cond j3 (some ((((([]:Lf),([]:Lc),([]:Lc),0,0),([]:Lc)),([]:Lh),([]:Ll)),false)) ((s96 x).bind fun y4=>some (((y1.1,([]:Lc)),y4),true))
theorem p8j:s6w=r8v:=zC 18 func18
def t80(x:Unit):Ht d1q:=zK 103 x
def r3i (x:Unit):Ht d1q:=some ((⟨#[97]⟩:Hs),(⟨#[122,122,122]⟩:Hs))
theorem q9b:t80=r3i:=zC 103 func103
def t7v(x:d9e):La:=zK 310 x
def r4l (x:d9e):La:=(t80 ()).bind fun y1=>(t7w (x.2.1,y1,x.1)).bind fun y2=>(t80 ()).bind fun y3=>(t7w (x.2.2,y3,x.1)).bind fun y4=>(u4g (y2,y4)).bind fun y5=>some y5
theorem p5i:t7v=r4l:=zC 310 func310
def u8w(x:(Unit×Int)):Ht q6j:=zK 364 x
def t77 (x:(Unit×Int)):Ht q6j:=cond (decide (x.2<0)) none (cond (decide ((i64.wrap (x.2 - (i64.wrap ((0:Int) - (0:Int)))))>0)) (cond (decide (0<=(0:Int))&&decide ((0:Int)<=(0:Int))&&decide ((0:Int)<=0)) (cond (decide (1<=(i64.wrap (x.2 - (i64.wrap ((0:Int) - (0:Int))))))&&decide ((i64.wrap (x.2 - (i64.wrap ((0:Int) - (0:Int)))))<=1099511627776)) (cond (decide (0<=(0:Int))&&decide ((0:Int)<=(0:Int))&&decide ((0:Int)<=((List.replicate (i64.wrap (x.2 - (i64.wrap ((0:Int) - (0:Int))))).toNat u0d.zero).length:Int))) (some ((List.replicate (i64.wrap (x.2 - (i64.wrap ((0:Int) - (0:Int))))).toNat u0d.zero).take ((0:Int).toNat - (0:Int).toNat))) none) none) none) (some ([]:Lf)))
theorem r05:u8w=t77:=zC 364 func364
def u7y(x:(Hu q6j)):Ht q6j:=zK 311 x
def u3j(g:c3n->Ht (((Hu q6j)×Int)⊕Unit))(x:c3n):Ht (((Hu q6j)×Int)⊕Unit):=cond (decide (x.2.2.2.2<x.2.2.2.1)) (cond (y4o x.2.2.2.2 x.2.2.1.length) (cond (decide ((i64.wrap (x.2.1+((rdL (Ty.sl u0d) x.2.2.1 x.2.2.2.2.toNat).length:Int)))<0)) none (g (x.1,i64.wrap (x.2.1+((rdL (Ty.sl u0d) x.2.2.1 x.2.2.2.2.toNat).length:Int)),x.2.2.1,x.2.2.2.1,i64.wrap (x.2.2.2.2+1)))) none) (some (.inl (x.1,x.2.1)))
def u2k:=lpW _ _ u3j
theorem t1p x:u2k x=u3j u2k x:=zW t1l 311 f311 3 36 x
def u26(g:c38->Ht j81)(x:c38):Ht j81:=cond (decide (x.2.2.2<x.2.2.1)) (cond (y4o x.2.2.2 x.2.1.length) (cond (Nat.ble (x.1.length+(rdL (Ty.sl u0d) x.2.1 x.2.2.2.toNat).length) z7v) (g (x.1++(rdL (Ty.sl u0d) x.2.1 x.2.2.2.toNat),x.2.1,x.2.2.1,i64.wrap (x.2.2.2+1))) none) none) (some (.inl x.1))
def u2f:=lpW _ _ u26
theorem t1b x:u2f x=u26 u2f x:=zW t02 311 f311 11 36 x
def t45 (x:(Hu q6j)):Ht q6j:=(u2k (x,0,x,(x.length:Int),0)).bind fun|.inl o2=>((u8w ((),o2.2)).bind fun y3=>(u2f (y3,o2.1,(o2.1.length:Int),0)).bind fun|.inl o5=>some o5|.inr z6=>none)|.inr z7=>none
theorem s8g:u7y=t45:=zC 311 func311
def s93(x:d7q):La:=zK 190 x
def t6o(g:c3d->Ht (d9e⊕Bool))(x:c3d):Ht (d9e⊕Bool):=cond (decide (x.2.2.2.2<x.2.2.2.1)) (cond (y4o x.2.2.2.2 x.2.2.1.length) (cond (decide ((rdL u0d x.2.2.1 x.2.2.2.2.toNat).2.2.2>x.1)) ((t7v ((rdL u0d x.2.2.1 x.2.2.2.2.toNat).2.2.2,x.2.1)).bind fun y2=>cond (!y2) (some (.inr false)) (g (x.1,x.2.1,x.2.2.1,x.2.2.2.1,i64.wrap (x.2.2.2.2+1)))) (g (x.1,x.2.1,x.2.2.1,x.2.2.2.1,i64.wrap (x.2.2.2.2+1)))) none) (some (.inl (x.1,x.2.1)))
def t7g:=lpW _ _ t6o
theorem r6j x:t7g x=t6o t7g x:=zW r5g 190 f190 3 35 x
def q27 (x:d7q):La:=(u7y ([x.1,x.2.1]:Hu q6j)).bind fun y1=>(t7g (x.2.2,(x.1,x.2.1),y1,(y1.length:Int),0)).bind fun|.inl o4=>((t7v o4).bind fun y5=>some y5)|.inr z6=>some z6
theorem o09:s93=q27:=zC 190 func190
def q5k(x:Z78):La:=zK 189 x
def q3h (x:Z78):La:=(t34 x.1).bind fun y1=>(t34 x.2).bind fun y2=>((cond (y1.2==y2.2) (some (z7n y1.1 y2.1)) (some false)):La).bind fun j3=>some j3
theorem o1k:q5k=q3h:=zC 189 func189
def u1z(x:c3j):La:=zK 10014 x
def u1r(g:c25->Ht r04)(x:c25):Ht r04:=cond (decide (x.2.2.2.2<x.2.2.2.1)) (cond (y4o x.2.2.2.2 x.2.2.1.length) (cond (y4o x.2.2.2.2 x.1.length) ((q5k (rdL u0a x.2.2.1 x.2.2.2.2.toNat,rdL u0a x.1 x.2.2.2.2.toNat)).bind fun y1=>cond (!y1) (some (.inr false)) (g (x.1,(),x.2.2.1,x.2.2.2.1,i64.wrap (x.2.2.2.2+1)))) none) none) (some (.inl ()))
def u1s:=lpW _ _ u1r
theorem u5a x:u1s x=u1r u1s x:=zW u46 10014 f188 4 32 x
def u5y (x:c3j):La:=cond (!decide ((x.1.length:Int)=(x.2.1.length:Int))) (some false) ((u1s (x.2.1,(),x.1,(x.1.length:Int),0)).bind fun|.inl o3=>some true|.inr z4=>some z4)
theorem t4b:u1z=u5y:=zC 10014 func188
def s2x(x:Z57):La:=zK 94 x
def q22 (x:Z57):La:=cond (decide (x.1.2.2.2.1=x.2.2.2.2.1)) ((u1z (x.1.2.1,x.2.2.1,())).bind fun y1=>cond y1 ((u1z (x.1.2.2.1,x.2.2.2.1,())).bind fun y2=>cond y2 ((s93 (x.1.1,x.2.1,x.1.2.2.2.1)).bind fun y3=>some y3) (some false)) (some false)) (some false)
theorem o04:s2x=q22:=zC 94 func94
def s90(x:s8d):La:=zK 187 x
def t6k(g:Z65->Ht r04)(x:Z65):Ht r04:=cond (decide (x.2.2.2<x.2.2.1)) (cond (y4o x.2.2.2 x.2.1.length) ((((u9q (rdL u0a x.2.1 x.2.2.2.toNat)).bind fun y4=>cond (!y4) (some true) (cond (!decide ((rdL u0a x.2.1 x.2.2.2.toNat).2.1=1)) (some true) (cond (decide ((rdL u0a x.2.1 x.2.2.2.toNat).2.2.1>x.1.1.2.2.2.1)) (some true) (cond (decide (x.2.2.2>0)) (cond (y4o (i64.wrap (x.2.2.2 - 1)) x.1.2.length) (some (decide ((rdL u0a x.1.2 (i64.wrap (x.2.2.2 - 1)).toNat).1>=(rdL u0a x.2.1 x.2.2.2.toNat).1))) none) (some false))))):La).bind fun j5=>cond j5 (some (.inr false)) (g (x.1,x.2.1,x.2.2.1,i64.wrap (x.2.2.2+1)))) none) (some (.inl ()))
def t7d:=lpW _ _ t6k
theorem r6f x:t7d x=t6k t7d x:=zW r5c 187 f187 4 73 x
def q21 (x:s8d):La:=(u28 x.1).bind fun y1=>cond (!y1) (some false) (cond (decide ((x.2.length:Int)>(4:Int))) (some false) ((u4f ([x.1.2.1,x.1.2.2.1,x.2]:Hu q2i)).bind fun y2=>(t3t (y2,x.1.2.2.2.2)).bind fun y3=>cond (!y3) (some false) ((t7d (x,x.2,(x.2.length:Int),0)).bind fun|.inl o7=>some true|.inr z8=>some z8)))
theorem o03:s90=q21:=zC 187 func187
def r3x(x:Z75):La:=zK 93 x
def q7r (x:Z75):La:=(t8y x.2).bind fun y1=>(((s90 x.1).bind fun y2=>cond y2 ((r2l x.2).bind fun y3=>cond y3 (cond y1.2 ((u31 (x.1.1,([]:Lc))).bind fun y4=>(s2x (y1.1,y4)).bind fun y5=>some y5) (some false)) (some false)) (some false)):La).bind fun j6=>some j6
theorem o4o:r3x=q7r:=zC 93 func93
def t3r(x:Z45):La:=zK 38 x
def r8q (x:Z45):La:=(s6w x.1.2).bind fun y1=>((cond y1.2 ((r3x x.1).bind fun y2=>cond y2 ((u31 (x.1.1.1,([]:Lc))).bind fun y3=>(s2x (y1.1.1.1,y3)).bind fun y4=>some y4) (some false)) (some false)):La).bind fun j5=>some j5
theorem p8e:t3r=r8q:=zC 38 func38
def t3s(x:Z45):La:=zK 40 x
def t4i(g:Z23->Ht (Z38⊕Bool))(x:Z23):Ht (Z38⊕Bool):=cond (decide (x.2.2.2.2<x.2.2.2.1)) (cond (y4o x.2.2.2.2 x.2.2.1.length) ((((u9r (rdL u0a x.2.2.1 x.2.2.2.2.toNat)).bind fun y1=>cond (!y1) (some true) (cond (decide (x.2.2.2.2>0)) (cond (y4o (i64.wrap (x.2.2.2.2 - 1)) x.1.2.1.length) (some (decide ((rdL u0a x.1.2.1 (i64.wrap (x.2.2.2.2 - 1)).toNat).2.2.2.1>=(rdL u0a x.2.2.1 x.2.2.2.2.toNat).2.2.2.1))) none) (some false))):La).bind fun j2=>cond j2 (some (.inr false)) ((s43 (x.2.1,rdL u0a x.2.2.1 x.2.2.2.2.toNat)).bind fun y3=>g (x.1,y3,x.2.2.1,x.2.2.2.1,i64.wrap (x.2.2.2.2+1)))) none) (some (.inl (x.1,x.2.1)))
def u4z:=lpW _ _ t4i
theorem r2x x:u4z x=t4i u4z x:=zW r1t 40 f40 3 52 x
def r8s (x:Z45):La:=(u4z (x,([]:Lg),x.2.1,(x.2.1.length:Int),0)).bind fun|.inl o5=>((t80 ()).bind fun y6=>(s8l (o5.2,y6)).bind fun y7=>(t80 ()).bind fun y8=>(t7w (o5.1.1.1.1.1,y8,o5.1.1.1.1.2.2.2.1)).bind fun y9=>(u4g (y7,y9)).bind fun y10=>some y10)|.inr z11=>some z11
theorem p8g:t3s=r8s:=zC 40 func40
def s38(x:s8d):Ht s8d:=zK 159 x
def r4p (x:s8d):Ht s8d:=(u1y x.1).bind fun y1=>(t54 x.2).bind fun y2=>some (y1,y2)
theorem p5m:s38=r4p:=zC 159 func159
def p04(x:u8l):La:=zK 208 x
def o0o (x:u8l):La:=((cond (decide ((x.2.1.length:Int)>=(12:Int))) (some true) (cond (decide ((x.1.length:Int)>(100:Int))) (some true) (some (decide (x.2.2.2.1>=9999))))):La).bind fun j1=>some j1
theorem j45:p04=o0o:=zC 208 func208
def r7w(x:Z84):Ht Z15:=zK 112 x
def p1q (x:Z84):Ht Z15:=(s38 x.1).bind fun y1=>(t8z (x.1.1,x.2.1)).bind fun y2=>cond (decide (y2<0)) (some (y1,(0,(0,0,0,0,([]:Lg),([]:Li),false,(⟨#[]⟩:Hs)),(⟨#[]⟩:Hs),false,([]:Lf),([]:Lc),([]:Lc),0,0),1)) (((cond x.2.2 ((p04 x.1.1).bind fun y3=>some y3) (some false)):La).bind fun j4=>cond j4 (some (y1,(0,(0,0,0,0,([]:Lg),([]:Li),false,(⟨#[]⟩:Hs)),(⟨#[]⟩:Hs),false,([]:Lf),([]:Lc),([]:Lc),0,0),3)) (cond x.2.2 (cond (y4o y2 x.1.1.2.2.1.length) ((t33 (x.1.1,rdL u0a x.1.1.2.2.1 y2.toNat)).bind fun y5=>(u31 (y5,x.1.2)).bind fun y6=>some ((y6,y1.2),(3,(0,0,0,0,([]:Lg),([]:Li),false,(⟨#[]⟩:Hs)),x.2.1,x.2.2,([]:Lf),([]:Lc),([]:Lc),0,0),0)) none) ((t8w (x.1.1,x.2.1)).bind fun y7=>(u31 (y7,x.1.2)).bind fun y8=>some ((y8,y1.2),(3,(0,0,0,0,([]:Lg),([]:Li),false,(⟨#[]⟩:Hs)),x.2.1,x.2.2,([]:Lf),([]:Lc),([]:Lc),0,0),0))))
theorem o8r:r7w=p1q:=zC 112 func112
def t2g(x:Z19):La:=zK 111 x
def s87 (x:Z19):La:=(r7w (((x.2.1,x.2.2.1,x.2.2.2.1,x.2.2.2.2.1,x.2.2.2.2.2.1),x.2.2.2.2.2.2.1),x.1.2.2.2.2.2.2.2,true)).bind fun y1=>((cond (!decide (y1.2.2=0)) (some (!decide (y1.2.2=3))) (some false)):La).bind fun j2=>some j2
theorem p0k:t2g=s87:=zC 111 func111
def u4h(x:Z31):Lj:=zK 10002 x
def u3q(g:Z27->Ht o31)(x:Z27):Ht o31:=cond (decide (x.2.2.2<x.2.2.1)) (cond (y4o x.2.2.2 x.1.length) ((t2g (rdL u0a x.1 x.2.2.2.toNat,x.2.1)).bind fun y1=>cond y1 (some (.inr x.2.2.2)) (g (x.1,x.2.1,x.2.2.1,i64.wrap (x.2.2.2+1)))) none) (some (.inl ()))
def u1b:=lpW _ _ u3q
theorem u95 x:u1b x=u3q u1b x:=zW u3t 10002 f264 2 19 x
def u4b (x:Z31):Lj:=(u1b (x.1,x.2,(x.1.length:Int),0)).bind fun|.inl o3=>some (- 1:Int)|.inr z4=>some z4
theorem t01:u4h=u4b:=zC 10002 func264
def u3n(x:Z31):La:=zK 10001 x
def u3l (x:Z31):La:=(u4h x).bind fun y1=>some (decide (y1>=0))
theorem u9m:u3n=u3l:=zC 10001 func207
def t3u(x:Z32):La:=zK 10000 x
def t3j (x:Z32):La:=(u3n (x.1,x.2.1.1.1.1,x.2.1.1.1.2.1,x.2.1.1.1.2.2.1,x.2.1.1.1.2.2.2.1,x.2.1.1.1.2.2.2.2,x.2.1.1.2,x.2.1.2.1,x.2.1.2.2,x.2.2)).bind fun y1=>some y1
theorem s6u:t3u=t3j:=zC 10000 func110
def t03(x:Z45):La:=zK 42 x
def r4h (x:Z45):La:=(t3u (x.1.1.1.2.2.1,x)).bind fun y1=>some (!y1)
theorem p5e:t03=r4h:=zC 42 func42
def t05(x:Z45):La:=zK 34 x
def r4n (x:Z45):La:=(((s2z x).bind fun y1=>cond y1 ((t3r x).bind fun y2=>cond y2 ((t3s x).bind fun y3=>cond y3 ((t03 x).bind fun y4=>some y4) (some false)) (some false)) (some false)):La).bind fun j5=>some j5
theorem p5k:t05=r4n:=zC 34 func34
def s47(x:d8x):Ht p9o:=zK 105 x
def t90(g:Z82->Ht (Z85⊕Unit))(x:Z82):Ht (Z85⊕Unit):=cond (decide (x.2.2.2.2.2<(x.2.1.length:Int))) (cond (y4o x.2.2.2.2.2 x.2.1.length) (cond (y3b (rdL s0f x.2.1 x.2.2.2.2.2.toNat).1 x.2.2.2.1.1) (cond (y4o x.2.2.2.2.2 x.2.1.length) (cond (Nat.ble (x.2.2.2.2.1.length+([(rdL s0f x.2.1 x.2.2.2.2.2.toNat)]:Lg).length) z7v) (g (x.1,x.2.1,x.2.2.1,x.2.2.2.1,x.2.2.2.2.1++([(rdL s0f x.2.1 x.2.2.2.2.2.toNat)]:Lg),i64.wrap (x.2.2.2.2.2+1))) none) none) (g (x.1,x.2.1,x.2.2.1,x.2.2.2.1,x.2.2.2.2.1,i64.wrap (x.2.2.2.2.2+1)))) none) (some (.inl (x.1,x.2.1,x.2.2.1,x.2.2.2.1,x.2.2.2.2.1)))
def t29:=lpW _ _ t90
theorem q1t x:t29 x=t90 t29 x:=zW q0k 105 f105 8 82 x
def t6x(g:Z82->Ht (c2r⊕Unit))(x:Z82):Ht (c2r⊕Unit):=cond (decide (x.2.2.2.2.2<(x.2.1.length:Int))) (cond (y4o x.2.2.2.2.2 x.2.1.length) (cond (!(y3b (rdL s0f x.2.1 x.2.2.2.2.2.toNat).1 x.2.2.2.1.1||z7n (rdL s0f x.2.1 x.2.2.2.2.2.toNat).1 x.2.2.2.1.1)) (cond (y4o x.2.2.2.2.2 x.2.1.length) (cond (Nat.ble (x.2.2.2.2.1.length+([(rdL s0f x.2.1 x.2.2.2.2.2.toNat)]:Lg).length) z7v) (g (x.1,x.2.1,x.2.2.1,x.2.2.2.1,x.2.2.2.2.1++([(rdL s0f x.2.1 x.2.2.2.2.2.toNat)]:Lg),i64.wrap (x.2.2.2.2.2+1))) none) none) (g (x.1,x.2.1,x.2.2.1,x.2.2.2.1,x.2.2.2.2.1,i64.wrap (x.2.2.2.2.2+1)))) none) (some (.inl (x.1,x.2.2.1,x.2.2.2.2.1)))
def u8g:=lpW _ _ t6x
theorem r6s x:u8g x=t6x u8g x:=zW r5p 105 f105 15 82 x
def t9z(g:c2p->Ht j62)(x:c2p):Ht j62:=cond (decide (x.2.2<(x.1.2.2.2.2.2.1.length:Int))) (cond (y4o x.2.2 x.1.2.2.2.2.2.1.length) ((t29 (x.1,x.2.1,x.2.2,rdL u2r x.1.2.2.2.2.2.1 x.2.2.toNat,([]:Lg),0)).bind fun|.inl o2=>cond (!o2.2.2.2.1.2.2) (cond (Nat.ble (o2.2.2.2.2.length+([(o2.2.2.2.1.1,o2.2.2.2.1.2.1)]:Lg).length) z7v) ((u8g (o2.1,o2.2.1,o2.2.2.1,o2.2.2.2.1,o2.2.2.2.2++([(o2.2.2.2.1.1,o2.2.2.2.1.2.1)]:Lg),0)).bind fun|.inl o4=>g (o4.1,o4.2.2,i64.wrap (o4.2.1+1))|.inr z5=>some (.inr ())) none) ((u8g (o2.1,o2.2.1,o2.2.2.1,o2.2.2.2.1,o2.2.2.2.2,0)).bind fun|.inl o7=>g (o7.1,o7.2.2,i64.wrap (o7.2.1+1))|.inr z8=>some (.inr ()))|.inr z9=>some (.inr ())) none) (some (.inl x.2.1))
def s0o:=lpW _ _ t9z
theorem q1s x:s0o x=t9z s0o x:=zW q0j 105 f105 3 82 x
def q79 (x:d8x):Ht p9o:=cond (Nat.ble (([]:Lg).length+x.1.length) z7v) ((s0o (x.2,([]:Lg)++x.1,0)).bind fun|.inl o11=>some o11|.inr z12=>none) none
theorem o46:s47=q79:=zC 105 func105
def u6q(x:(p9o×p9o)):La:=zK 106 x
def t7a(g:c45->Ht r04)(x:c45):Ht r04:=cond (decide (x.2.2<(x.1.length:Int))) (cond (y4o x.2.2 x.1.length) (cond (y4o x.2.2 x.2.1.length) (cond (!(z7n (rdL s0f x.1 x.2.2.toNat).1 (rdL s0f x.2.1 x.2.2.toNat).1&&(z7n (rdL s0f x.1 x.2.2.toNat).2 (rdL s0f x.2.1 x.2.2.toNat).2&&true))) (some (.inr false)) (g (x.1,x.2.1,i64.wrap (x.2.2+1)))) none) none) (some (.inl ()))
def t7r:=lpW _ _ t7a
theorem r65 x:t7r x=t7a t7r x:=zW r52 106 f106 4 26 x
def q35 (x:(p9o×p9o)):La:=cond (!decide ((x.1.length:Int)=(x.2.length:Int))) (some false) ((t7r (x.1,x.2,0)).bind fun|.inl o2=>some true|.inr z3=>some z3)
theorem o2g:u6q=q35:=zC 106 func106
def s8s(x:d9j):Ht p9o:=zK 107 x
def s2a(g:c31->Ht j62)(x:c31):Ht j62:=cond (decide (x.2.2.2<(x.1.length:Int))) (cond (y4o x.2.2.2 x.1.length) ((t82 (x.2.1,(rdL s0f x.1 x.2.2.2.toNat).1)).bind fun y1=>cond y1 (cond (y4o x.2.2.2 x.1.length) (cond (y4o x.2.2.2 x.1.length) (cond (Nat.ble (x.2.2.1.length+([(rdL s0f x.1 x.2.2.2.toNat)]:Lg).length) z7v) (g (x.1,x.2.1,x.2.2.1++([(rdL s0f x.1 x.2.2.2.toNat)]:Lg),i64.wrap (x.2.2.2+1))) none) none) none) (g (x.1,x.2.1,x.2.2.1,i64.wrap (x.2.2.2+1)))) none) (some (.inl x.2.2.1))
def s2n:=lpW _ _ s2a
theorem q6h x:s2n x=s2a s2n x:=zW q48 107 f107 3 36 x
def p2k (x:d9j):Ht p9o:=(s2n (x.1,x.2,([]:Lg),0)).bind fun|.inl o3=>some o3|.inr z4=>none
theorem o9j:s8s=p2k:=zC 107 func107
def u34(x:d9b):Ht p9o:=zK 109 x
def s18(g:c3s->Ht j62)(x:c3s):Ht j62:=cond (decide (x.2.2.2.2<(x.2.2.2.1.length:Int))) (cond (y4o x.2.2.2.2 x.2.2.2.1.length) ((s8r (x.1,rdL Ty.str x.2.2.2.1 x.2.2.2.2.toNat,x.2.1)).bind fun y2=>cond y2.2 (cond (y4o x.2.2.2.2 x.2.2.2.1.length) (cond (Nat.ble (x.2.2.1.length+([(rdL Ty.str x.2.2.2.1 x.2.2.2.2.toNat,y2.1)]:Lg).length) z7v) (g (x.1,x.2.1,x.2.2.1++([(rdL Ty.str x.2.2.2.1 x.2.2.2.2.toNat,y2.1)]:Lg),x.2.2.2.1,i64.wrap (x.2.2.2.2+1))) none) none) (g (x.1,x.2.1,x.2.2.1,x.2.2.2.1,i64.wrap (x.2.2.2.2+1)))) none) (some (.inl x.2.2.1))
def s2l:=lpW _ _ s18
theorem q6f x:s2l x=s18 s2l x:=zW q46 109 f109 4 43 x
def p2f (x:d9b):Ht p9o:=(s5e (x.1,x.2.1)).bind fun y1=>(s2l (x.1,x.2.2,([]:Lg),y1,0)).bind fun|.inl o4=>some o4|.inr z5=>none
theorem o9e:u34=p2f:=zC 109 func109
def s8n(x:Z78):La:=zK 308 x
def p15 (x:Z78):La:=((cond (decide (x.1.1=x.2.1)) (some true) (cond (!decide (x.1.2.1=3)) (some true) (some (!decide (x.2.2.1=3))))):La).bind fun j1=>cond j1 (some false) (((cond (decide (x.1.2.2.2.1<=x.2.2.2.1)) ((t84 (x.2.2.2.2.2.1,x.1.2.2.2.2.2.1)).bind fun y2=>some y2) (some false)):La).bind fun j3=>cond j3 (some true) (((cond (decide (x.1.2.2.2.1<x.2.2.2.2.1)) ((s57 (x.1.2.2.2.2.2.1,x.2.2.2.2.2.2.1)).bind fun y4=>some y4) (some false)):La).bind fun j5=>cond j5 (some true) (((cond (decide (x.2.2.2.2.1>x.1.2.2.1)) ((t84 (x.1.2.2.2.2.1,x.2.2.2.2.2.2.1)).bind fun y6=>some y6) (some false)):La).bind fun j7=>some j7)))
theorem o84:s8n=p15:=zC 308 func308
def s3d(x:q2i):Ht d1r:=zK 185 x
def t0e(g:c4b->Ht (c4s⊕Unit))(x:c4b):Ht (c4s⊕Unit):=cond (decide (x.2.2<(x.2.1.length:Int))) (cond (y4o x.2.2 x.2.1.length) (g (x.1,x.2.1.set x.2.2.toNat true,i64.wrap (x.2.2+1))) none) (some (.inl (x.1,x.2.1)))
def u5d:=lpW _ _ t0e
theorem s76 x:u5d x=t0e u5d x:=zW s7o 185 f185 3 87 x
def u6f(g:c27->Ht (c3c⊕Unit))(x:c27):Ht (c3c⊕Unit):=((cond (decide (x.2.2.2.2.2.2<(x.1.length:Int))) (some x.2.2.2.2.2.1) (some false)):La).bind fun j4=>cond j4 (((cond (y4o x.2.2.2.2.2.2 x.2.1.length) (cond (!(rdL Ty.bool x.2.1 x.2.2.2.2.2.2.toNat)) (some true) (cond (decide (x.2.2.2.2.2.2=x.2.2.2.2.1)) (some true) (cond (y4o x.2.2.2.2.2.2 x.1.length) (cond (y4o x.2.2.2.2.1 x.1.length) ((s8n (rdL u0a x.1 x.2.2.2.2.2.2.toNat,rdL u0a x.1 x.2.2.2.2.1.toNat)).bind fun y5=>some (!y5)) none) none))) none):La).bind fun j6=>g (x.1,x.2.1,x.2.2.1,x.2.2.2.1,x.2.2.2.2.1,j6,i64.wrap (x.2.2.2.2.2.2+1))) (some (.inl (x.1,x.2.1,x.2.2.1,x.2.2.2.1,x.2.2.2.2.1,x.2.2.2.2.2.1)))
def u6j:=lpW _ _ u6f
theorem t6g x:u6j x=u6f u6j x:=zW s51 185 f185 14 87 x
def u6e(g:c3l->Ht (c3x⊕Unit))(x:c3l):Ht (c3x⊕Unit):=((cond (decide (x.2.2.2.2<(x.1.length:Int))) (some (decide (x.2.2.2.1<0))) (some false)):La).bind fun j3=>cond j3 (cond (y4o x.2.2.2.2 x.2.1.length) ((u6j (x.1,x.2.1,x.2.2.1,x.2.2.2.1,x.2.2.2.2,rdL Ty.bool x.2.1 x.2.2.2.2.toNat,0)).bind fun|.inl o8=>cond o8.2.2.2.2.2 (g (o8.1,o8.2.1,o8.2.2.1,o8.2.2.2.2.1,i64.wrap (o8.2.2.2.2.1+1))) (g (o8.1,o8.2.1,o8.2.2.1,o8.2.2.2.1,i64.wrap (o8.2.2.2.2.1+1)))|.inr z9=>some (.inr ())) none) (some (.inl (x.1,x.2.1,x.2.2.1,x.2.2.2.1)))
def u4a:=lpW _ _ u6e
theorem t6f x:u4a x=u6e u4a x:=zW s50 185 f185 10 87 x
def t0f(g:c37->Ht (r8i⊕d1r))(x:c37):Ht (r8i⊕d1r):=cond (decide ((x.2.2.length:Int)<(x.1.length:Int))) ((u4a (x.1,x.2.1,x.2.2,(- 1:Int),0)).bind fun|.inl o11=>cond (decide (o11.2.2.2<0)) (some (.inr (([]:Ld),false))) (cond (y4o o11.2.2.2 o11.2.1.length) (cond (Nat.ble (o11.2.2.1.length+([o11.2.2.2]:Ld).length) z7v) (g (o11.1,o11.2.1.set o11.2.2.2.toNat false,o11.2.2.1++([o11.2.2.2]:Ld))) none) none)|.inr z12=>none) (some (.inl x.2.2))
def u5e:=lpW _ _ t0f
theorem s77 x:u5e x=t0f u5e x:=zW s7p 185 f185 7 87 x
def r1g (x:q2i):Ht d1r:=cond (decide (0<=(x.length:Int))&&decide ((x.length:Int)<=1099511627776)) ((u5d (x,List.replicate (x.length:Int).toNat Ty.bool.zero,0)).bind fun|.inl o2=>((u5e (o2.1,o2.2,([]:Ld))).bind fun|.inl o14=>some (o14,true)|.inr z15=>some z15)|.inr z16=>none) none
theorem p3m:s3d=r1g:=zC 185 func185
def s3l(x:q2i):Ht q6j:=zK 186 x
def t0h(g:c32->Ht j81)(x:c32):Ht j81:=cond (decide (x.2.2<(x.1.length:Int))) (cond (y4o x.2.2 x.1.length) (cond (y4o x.2.2 x.1.length) ((u65 (x.2.1,(rdL u0a x.1 x.2.2.toNat).2.2.2.2.2.1,(rdL u0a x.1 x.2.2.toNat).2.2.2.1)).bind fun y1=>g (x.1,y1,i64.wrap (x.2.2+1))) none) none) (some (.inl x.2.1))
def t0k:=lpW _ _ t0h
theorem s79 x:t0k x=t0h t0k x:=zW s7t 186 f186 3 25 x
def r1n (x:q2i):Ht q6j:=(t0k (x,([]:Lf),0)).bind fun|.inl o3=>some o3|.inr z4=>none
theorem p3v:s3l=r1n:=zC 186 func186
def s3e(x:q2i):La:=zK 92 x
def u9e(g:Z68->Ht (Z74⊕Bool))(x:Z68):Ht (Z74⊕Bool):=cond (decide (x.2.2.2.2.2.2<(x.2.2.2.2.2.1.2.2.2.2.1.length:Int))) (cond (y4o x.2.2.2.2.2.2 x.2.2.2.2.2.1.2.2.2.2.1.length) ((s8s (x.2.2.2.1,rdL s0f x.2.2.2.2.2.1.2.2.2.2.1 x.2.2.2.2.2.2.toNat)).bind fun y3=>cond (y4o x.2.2.2.2.2.2 x.2.2.2.2.2.1.2.2.2.2.1.length) ((u34 (x.2.2.1,rdL s0f x.2.2.2.2.2.1.2.2.2.2.1 x.2.2.2.2.2.2.toNat,x.2.2.2.2.2.1.2.2.1)).bind fun y4=>(u6q (y3,y4)).bind fun y5=>cond (!y5) (some (.inr false)) (g (x.1,x.2.1,x.2.2.1,x.2.2.2.1,x.2.2.2.2.1,x.2.2.2.2.2.1,i64.wrap (x.2.2.2.2.2.2+1)))) none) none) (some (.inl (x.1,x.2.1,x.2.2.1,x.2.2.2.1,x.2.2.2.2.1,x.2.2.2.2.2.1)))
def u6k:=lpW _ _ u9e
theorem s6i x:u6k x=u9e u6k x:=zW s52 92 f92 11 61 x
def t0g(g:c24->Ht r04)(x:c24):Ht r04:=cond (decide (x.2.2.2.2<(x.2.1.length:Int))) (cond (y4o x.2.2.2.2 x.2.1.length) (cond (y4o (rdL (Ty.int .i64) x.2.1 x.2.2.2.2.toNat) x.1.length) ((u6k (x.1,x.2.1,x.2.2.1,x.2.2.2.1,x.2.2.2.2,rdL u0a x.1 (rdL (Ty.int .i64) x.2.1 x.2.2.2.2.toNat).toNat,0)).bind fun|.inl o7=>((s47 (o7.2.2.2.1,o7.2.2.2.2.2)).bind fun y8=>g (o7.1,o7.2.1,o7.2.2.1,y8,i64.wrap (o7.2.2.2.2.1+1)))|.inr z9=>some (.inr z9)) none) none) (some (.inl ()))
def u3d:=lpW _ _ t0g
theorem s78 x:u3d x=t0g u3d x:=zW s7q 92 f92 7 61 x
def r1h (x:q2i):La:=(s3d x).bind fun y1=>cond (!y1.2) (some false) ((s3l x).bind fun y2=>(u3d (x,y1.1,y2,([]:Lg),0)).bind fun|.inl o11=>some true|.inr z12=>some z12)
theorem p3n:s3e=r1h:=zC 92 func92
def s3c(x:Z45):La:=zK 37 x
def p2i (x:Z45):La:=(s3e x.2.1).bind fun y1=>some y1
theorem o9h:s3c=p2i:=zC 37 func37
def s3k(x:c1c):La:=zK 196 x
def t7b(g:d83->Ht r04)(x:d83):Ht r04:=cond (decide (x.2.2<(x.1.length:Int))) (cond (y4o x.2.2 x.1.length) ((t39 (rdL u0a x.1 x.2.2.toNat)).bind fun y1=>cond (y4o x.2.2 x.2.1.length) ((t39 (rdL u0a x.2.1 x.2.2.toNat)).bind fun y2=>((cond (!(y1.2==y2.2)) (some true) (some (!z7n y1.1 y2.1))):La).bind fun j3=>cond j3 (some (.inr false)) (g (x.1,x.2.1,i64.wrap (x.2.2+1)))) none) none) (some (.inl ()))
def t7s:=lpW _ _ t7b
theorem r66 x:t7s x=t7b t7s x:=zW r53 196 f196 4 45 x
def q39 (x:c1c):La:=cond (!decide ((x.1.length:Int)=(x.2.length:Int))) (some false) ((t7s (x.1,x.2,0)).bind fun|.inl o5=>some true|.inr z6=>some z6)
theorem o2k:s3k=q39:=zC 196 func196
def s8w(x:Unit):Ht d1q:=zK 108 x
def r7m (x:Unit):Ht d1q:=some ((⟨#[97]⟩:Hs),(⟨#[122,122,122]⟩:Hs))
theorem p3q:s8w=r7m:=zC 108 func108
def r0e(x:d7q):La:=zK 197 x
def t63(g:c3h->Ht r04)(x:c3h):Ht r04:=cond (decide (x.2.2.2.2<(i64.wrap ((x.1.length:Int)+(x.2.1.length:Int))))) (cond (decide (x.2.2.2.2<(x.1.length:Int))) (cond (y4o x.2.2.2.2 x.1.length) (((cond (decide ((rdL u0d x.1 x.2.2.2.2.toNat).2.2.2>x.2.2.1)) ((u34 (x.1,x.2.2.2.1,(rdL u0d x.1 x.2.2.2.2.toNat).2.2.2)).bind fun y5=>(u34 (x.2.1,x.2.2.2.1,(rdL u0d x.1 x.2.2.2.2.toNat).2.2.2)).bind fun y6=>(u6q (y5,y6)).bind fun y7=>some (!y7)) (some false)):La).bind fun j8=>cond j8 (some (.inr false)) (g (x.1,x.2.1,x.2.2.1,x.2.2.2.1,i64.wrap (x.2.2.2.2+1)))) none) (cond (y4o (i64.wrap (x.2.2.2.2 - (x.1.length:Int))) x.2.1.length) (((cond (decide ((rdL u0d x.2.1 (i64.wrap (x.2.2.2.2 - (x.1.length:Int))).toNat).2.2.2>x.2.2.1)) ((u34 (x.1,x.2.2.2.1,(rdL u0d x.2.1 (i64.wrap (x.2.2.2.2 - (x.1.length:Int))).toNat).2.2.2)).bind fun y9=>(u34 (x.2.1,x.2.2.2.1,(rdL u0d x.2.1 (i64.wrap (x.2.2.2.2 - (x.1.length:Int))).toNat).2.2.2)).bind fun y10=>(u6q (y9,y10)).bind fun y11=>some (!y11)) (some false)):La).bind fun j12=>cond j12 (some (.inr false)) (g (x.1,x.2.1,x.2.2.1,x.2.2.2.1,i64.wrap (x.2.2.2.2+1)))) none)) (some (.inl ()))
def t7o:=lpW _ _ t63
theorem r6y x:t7o x=t63 t7o x:=zW r5v 197 f197 5 62 x
def q3u (x:d7q):La:=(s8w ()).bind fun y1=>(u34 (x.1,y1,x.2.2)).bind fun y2=>(u34 (x.2.1,y1,x.2.2)).bind fun y3=>(u6q (y2,y3)).bind fun y4=>cond (!y4) (some false) ((t7o (x.1,x.2.1,x.2.2,y1,0)).bind fun|.inl o14=>some true|.inr z15=>some z15)
theorem o1x:r0e=q3u:=zC 197 func197
def s27(x:Z57):La:=zK 97 x
def q3m (x:Z57):La:=((cond (decide (x.1.2.2.2.1=x.2.2.2.2.1)) ((s3k (x.1.2.1,x.2.2.1)).bind fun y1=>cond y1 ((s3k (x.1.2.2.1,x.2.2.2.1)).bind fun y2=>cond y2 ((r0e (x.1.1,x.2.1,x.1.2.2.2.1)).bind fun y3=>some y3) (some false)) (some false)) (some false)):La).bind fun j4=>some j4
theorem o1p:s27=q3m:=zC 97 func97
def r37(x:Z75):La:=zK 96 x
def q8f (x:Z75):La:=(((s26 x.1).bind fun y1=>cond (!y1) (some true) ((s1s x.2).bind fun y2=>some (!y2))):La).bind fun j3=>cond j3 (some false) ((t38 x.2).bind fun y4=>cond y4.2 ((u9u (x.1.1,([]:Lc))).bind fun y5=>(s27 (y4.1,y5)).bind fun y6=>some y6) (some false))
theorem o5c:r37=q8f:=zC 96 func96
def t3v(x:Z45):La:=zK 39 x
def r89 (x:Z45):La:=(r37 x.1).bind fun y1=>cond (!y1) (some false) ((u5q x.1.2).bind fun y2=>cond y2.2 ((u9u (x.1.1.1,([]:Lc))).bind fun y3=>(s27 (y2.1.1.1,y3)).bind fun y4=>some y4) (some false))
theorem p8y:t3v=r89:=zC 39 func39
def t3w(x:Z45):La:=zK 41 x
def t4r(g:Z34->Ht (Z38⊕Bool))(x:Z34):Ht (Z38⊕Bool):=cond (decide (x.2.2<(x.1.2.1.length:Int))) (((cond (y4o x.2.2 x.1.2.1.length) (cond (!decide ((rdL u0a x.1.2.1 x.2.2.toNat).2.1=3)) (some true) (cond (decide (x.2.2>0)) (cond (y4o (i64.wrap (x.2.2 - 1)) x.1.2.1.length) (cond (y4o x.2.2 x.1.2.1.length) (some (decide ((rdL u0a x.1.2.1 (i64.wrap (x.2.2 - 1)).toNat).2.2.2.1>=(rdL u0a x.1.2.1 x.2.2.toNat).2.2.2.1))) none) none) (some false))) none):La).bind fun j1=>cond j1 (some (.inr false)) (cond (y4o x.2.2 x.1.2.1.length) ((s47 (x.2.1,rdL u0a x.1.2.1 x.2.2.toNat)).bind fun y2=>g (x.1,y2,i64.wrap (x.2.2+1))) none)) (some (.inl (x.1,x.2.1)))
def u40:=lpW _ _ t4r
theorem r27 x:u40 x=t4r u40 x:=zW r2b 41 f41 3 62 x
def r9b (x:Z45):La:=(u40 (x,([]:Lg),0)).bind fun|.inl o4=>((s8w ()).bind fun y5=>(s8s (o4.2,y5)).bind fun y6=>(s8w ()).bind fun y7=>(u34 (o4.1.1.1.1.1,y7,o4.1.1.1.1.2.2.2.1)).bind fun y8=>(u6q (y6,y8)).bind fun y9=>some y9)|.inr z10=>some z10
theorem p80:t3w=r9b:=zC 41 func41
def t09(x:Z45):La:=zK 43 x
def t1v(g:Z44->Ht r04)(x:Z44):Ht r04:=cond (decide (x.2<(x.1.1.1.1.2.2.1.length:Int))) (cond (y4o x.2 x.1.1.1.1.2.2.1.length) ((t2i (x.1.1.1,(rdL u0a x.1.1.1.1.2.2.1 x.2.toNat).2.2.2.2.2.2.2,true)).bind fun y1=>((cond (!decide (y1.2.2=0)) (some (!decide (y1.2.2=3))) (some false)):La).bind fun j2=>cond j2 (some (.inr false)) (g (x.1,i64.wrap (x.2+1)))) none) (some (.inl ()))
def u8n:=lpW _ _ t1v
theorem r0u x:u8n x=t1v u8n x:=zW s9o 43 f43 2 40 x
def r4s (x:Z45):La:=(u8n (x,0)).bind fun|.inl o4=>some true|.inr z5=>some z5
theorem p5p:t09=r4s:=zC 43 func43
def s4b(x:Z45):La:=zK 35 x
def r4x (x:Z45):La:=(((s3c x).bind fun y1=>cond y1 ((t3v x).bind fun y2=>cond y2 ((t3w x).bind fun y3=>cond y3 ((t09 x).bind fun y4=>some y4) (some false)) (some false)) (some false)):La).bind fun j5=>some j5
theorem p5u:s4b=r4x:=zC 35 func35
def q04(x:Unit):Ht s8d:=zK 213 x
def r8p (x:Unit):Ht s8d:=(r3u ()).bind fun y1=>some (y1,([]:Lc))
theorem p8c:q04=r8p:=zC 213 func213
def s65(x:j0s):Ht Hs:=zK 368 x
theorem p9f:∀(x:j0s),s65 x=y8l x:=y6e (P:=Tryz.prog) (A:=A) (f:=368) (F:=y8l) rfl
def q9y(x:Int):Ht p22:=zK 319 x
def s6o(g:d8z->Ht d39)(x:d8z):Ht d39:=cond (decide (x.2.2.2<x.1)) ((s65 ((⟨#[0]⟩:Hs),64)).bind fun y2=>cond (Nat.ble (x.2.2.1.1.length+([y2]:Lh).length) z7v) (g (x.1,x.2.1,(x.2.2.1.1++([y2]:Lh),x.2.2.1.2),i64.wrap (x.2.2.2+1))) none) (some (.inl (x.2.1,x.2.2.1)))
def t2y:=lpW _ _ s6o
theorem q08 x:t2y x=s6o t2y x:=zW r9u 319 f319 5 22 x
def q7i (x:Int):Ht p22:=(u1c (x,1,100)).bind fun y1=>cond (!y1) (some ((([]:Lh),([]:Ll)),false)) ((t2y (x,(([]:Lh),([]:Ll)),(([]:Lh),([]:Ll)),0)).bind fun|.inl o4=>some (o4.2,true)|.inr z5=>none)
theorem o4f:q9y=q7i:=zC 319 func319
def r7x(x:Unit):Ht t0z:=zK 214 x
def p1r (x:Unit):Ht t0z:=(q9y (97:Int)).bind fun y1=>some y1.1
theorem o8s:r7x=p1r:=zC 214 func214
def q5j(x:Unit):Ht Z75:=zK 114 x
def q28 (x:Unit):Ht Z75:=(q04 ()).bind fun y1=>(r7x ()).bind fun y2=>some (y1,y2)
theorem o1a:q5j=q28:=zC 114 func114
def s22(x:Unit):Ht Z45:=zK 44 x
def q3a (x:Unit):Ht Z45:=(q5j ()).bind fun y1=>some (y1,([]:Lc),([]:Ld),([]:Lh))
theorem o1d:s22=q3a:=zC 44 func44
def q05(x:r8i):La:=zK 7 x
def r83 (x:r8i):La:=(o7c x).bind fun y1=>cond y1 (some true) ((t56 x).bind fun y2=>(((t05 y2).bind fun y3=>(s4b y2).bind fun y4=>cond (y3==y4) ((s2z y2).bind fun y5=>(s3c y2).bind fun y6=>cond (y5==y6) ((t3r y2).bind fun y7=>(t3v y2).bind fun y8=>cond (y7==y8) ((t3s y2).bind fun y9=>(t3w y2).bind fun y10=>cond (y9==y10) ((t03 y2).bind fun y11=>(t09 y2).bind fun y12=>cond (y11==y12) ((s22 ()).bind fun y13=>(t05 y13).bind fun y14=>some y14) (some false)) (some false)) (some false)) (some false)) (some false)):La).bind fun j15=>some j15)
theorem p8s:q05=r83:=zC 7 func7
end
end Go.Proofs.YtkphhjdbdnoekaaGreat.Ab
