import Derived.Test.YtkphhjdbdnoekaaGreatDoorAbRefusedG1
namespace Go.Proofs.YtkphhjdbdnoekaaGreatDoor.Ab
open Go Tryz Go.IntKind
set_option linter.unusedVariables false
noncomputable section
set_option maxRecDepth 100000
def r2i(x:j9x):Ht Hs:=zK 130 x
def t9f(g:c5k->Ht d7x)(x:c5k):Ht d7x:=cond (decide (x.2.2<(x.1.length:Int))) (cond (decide (x.2.2>0)) (cond (decide (x.2.1.size+(⟨#[44]⟩:Hs).size<=140737488355328)) (cond (y4v x.2.2 x.1.length) (cond (decide ((x.2.1++(⟨#[44]⟩:Hs)).size+(rdL r0f x.1 x.2.2.toNat).1.size<=140737488355328)) (cond (decide (((x.2.1++(⟨#[44]⟩:Hs))++(rdL r0f x.1 x.2.2.toNat).1).size+(⟨#[61]⟩:Hs).size<=140737488355328)) (cond (y4v x.2.2 x.1.length) (cond (decide ((((x.2.1++(⟨#[44]⟩:Hs))++(rdL r0f x.1 x.2.2.toNat).1)++(⟨#[61]⟩:Hs)).size+(rdL r0f x.1 x.2.2.toNat).2.size<=140737488355328)) (g (x.1,(((x.2.1++(⟨#[44]⟩:Hs))++(rdL r0f x.1 x.2.2.toNat).1)++(⟨#[61]⟩:Hs))++(rdL r0f x.1 x.2.2.toNat).2,i64.wrap (x.2.2+1))) none) none) none) none) none) none) (cond (y4v x.2.2 x.1.length) (cond (decide (x.2.1.size+(rdL r0f x.1 x.2.2.toNat).1.size<=140737488355328)) (cond (decide ((x.2.1++(rdL r0f x.1 x.2.2.toNat).1).size+(⟨#[61]⟩:Hs).size<=140737488355328)) (cond (y4v x.2.2 x.1.length) (cond (decide (((x.2.1++(rdL r0f x.1 x.2.2.toNat).1)++(⟨#[61]⟩:Hs)).size+(rdL r0f x.1 x.2.2.toNat).2.size<=140737488355328)) (g (x.1,((x.2.1++(rdL r0f x.1 x.2.2.toNat).1)++(⟨#[61]⟩:Hs))++(rdL r0f x.1 x.2.2.toNat).2,i64.wrap (x.2.2+1))) none) none) none) none) none)) (some (.inl x.2.1))
def t2g:=lpW _ _ t9f
theorem r87 x:t2g x=t9f t2g x:=zW r77 130 f130 3 30 x
def q55(x:j9x):Ht Hs:=(t2g (x,(⟨#[]⟩:Hs),0)).bind fun|.inl o2=>some o2|.inr z3=>none
theorem o3u:r2i=q55:=zC 130 func130
def r2c(x:c0g):Ht j1u:=zK 276 x
def t84(g:d98->Ht (c4j⊕Unit))(x:d98):Ht (c4j⊕Unit):=cond (decide (x.2.2.2<(x.1.length:Int))) (cond (y4v x.2.2.2 x.1.length) (cond (y3i (rdL u12 x.1 x.2.2.2.toNat).1 x.2.1.1) (cond (y4v x.2.2.2 x.1.length) (cond (Nat.ble (x.2.2.1.length+([(rdL u12 x.1 x.2.2.2.toNat)]:Lh).length) z7z) (g (x.1,x.2.1,x.2.2.1++([(rdL u12 x.1 x.2.2.2.toNat)]:Lh),i64.wrap (x.2.2.2+1))) none) none) (g (x.1,x.2.1,x.2.2.1,i64.wrap (x.2.2.2+1)))) none) (some (.inl (x.1,x.2.1,x.2.2.1)))
def t9s:=lpW _ _ t84
theorem r8w x:t9s x=t84 t9s x:=zW r7v 276 f276 3 56 x
def t85(g:d98->Ht (j1u⊕Unit))(x:d98):Ht (j1u⊕Unit):=cond (decide (x.2.2.2<(x.1.length:Int))) (cond (y4v x.2.2.2 x.1.length) (cond (!(y3i (rdL u12 x.1 x.2.2.2.toNat).1 x.2.1.1||z7q (rdL u12 x.1 x.2.2.2.toNat).1 x.2.1.1)) (cond (y4v x.2.2.2 x.1.length) (cond (Nat.ble (x.2.2.1.length+([(rdL u12 x.1 x.2.2.2.toNat)]:Lh).length) z7z) (g (x.1,x.2.1,x.2.2.1++([(rdL u12 x.1 x.2.2.2.toNat)]:Lh),i64.wrap (x.2.2.2+1))) none) none) (g (x.1,x.2.1,x.2.2.1,i64.wrap (x.2.2.2+1)))) none) (some (.inl x.2.2.1))
def t9t:=lpW _ _ t85
theorem r8x x:t9t x=t85 t9t x:=zW r7w 276 f276 9 56 x
def q5n(x:c0g):Ht j1u:=(t9s (x.1,x.2,([]:Lh),0)).bind fun|.inl o2=>cond (Nat.ble (o2.2.2.length+([o2.2.1]:Lh).length) z7z) ((t9t (o2.1,o2.2.1,o2.2.2++([o2.2.1]:Lh),0)).bind fun|.inl o4=>some o4|.inr z5=>none) none|.inr z6=>none
theorem o3d:r2c=q5n:=zC 276 func276
def r2h(x:d90):Ht d2n:=zK 207 x
def q5x(x:d90):Ht d2n:=(u05 x.1).bind fun y1=>(((u9i x.1).bind fun y2=>cond (!y2) (some true) (cond (!decide (x.1.2.1=1)) (some true) ((s06 x.2).bind fun y3=>some (!y3)))):La).bind fun j4=>cond j4 (some (y1,false)) ((r2c (x.1.2.2.2.2.2.1,x.2)).bind fun y5=>(s5c y5).bind fun y6=>cond (!y6) ((u05 x.1).bind fun y7=>some (y7,false)) (some ((y1.1,y1.2.1,y1.2.2.1,y1.2.2.2.1,y1.2.2.2.2.1,y5,y1.2.2.2.2.2.2),true)))
theorem o3m:r2h=q5x:=zC 207 func207
def s97(x:Z70):Ht Z94:=zK 131 x
def p3m(x:Z70):Ht Z94:=(u0s x.1).bind fun y1=>(u7o (x.1,x.2.1)).bind fun y2=>cond (decide (y2<0)) (some (y1,1)) ((s06 x.2.2).bind fun y3=>cond (!y3) (some (y1,2)) (cond (y4v y2 x.1.2.length) ((r2h (rdL u0a x.1.2 y2.toNat,x.2.2)).bind fun y4=>cond (!y4.2) (some (y1,3)) (cond (y4v y2 y1.2.length) (some ((y1.1,y1.2.set y2.toNat y4.1),0)) none)) none))
theorem j0q:s97=p3m:=zC 131 func131
def t1g(x:Z24):Ht Z34:=zK 71 x
def p0l(x:Z24):Ht Z34:=cond (decide (x.2.1=1)) ((q6z x.1.1.1).bind fun y1=>cond (!decide (y1.2.2=0)) (some (y1.2.2,(⟨#[]⟩:Hs),(y1.1,x.1.1.2),x.1.2)) ((r54 y1.2.1).bind fun y2=>some (0,y2,(y1.1,x.1.1.2),x.1.2))) (cond (decide (x.2.1=2)) ((r97 (x.1.1.1,x.2.2.1,x.2.2.2.1)).bind fun y3=>((cond (decide (y3.2.2.2=0)) (some (!y3.2.2.1)) (some false)):La).bind fun j4=>cond j4 (some (y3.2.2.2,(⟨#[45]⟩:Hs),(y3.1,x.1.1.2),x.1.2)) (some (y3.2.2.2,y3.2.1,(y3.1,x.1.1.2),x.1.2))) (cond (decide (x.2.1=3)) ((r2e (x.1.1.1,x.2.2.1,x.2.2.2.1,x.2.2.2.2.1)).bind fun y5=>(r2i y5.2.1).bind fun y6=>some (y5.2.2,y6,(y5.1,x.1.1.2),x.1.2)) (cond (decide (x.2.1=4)) ((s97 (x.1.1.1,x.2.2.1,x.2.2.2.1,x.2.2.2.2.1,false)).bind fun y7=>some (y7.2,(⟨#[]⟩:Hs),(y7.1,x.1.1.2),x.1.2)) ((s97 (x.1.1.1,x.2.2.1,x.2.2.2.1,(⟨#[]⟩:Hs),true)).bind fun y8=>some (y8.2,(⟨#[]⟩:Hs),(y8.1,x.1.1.2),x.1.2)))))
theorem o7b:t1g=p0l:=zC 71 func71
def u0x(x:u8l):Ht u8l:=zK 124 x
def q97(x:u8l):Ht u8l:=cond (Nat.ble (([]:Lg).length+x.1.length) z7z) (cond (Nat.ble (([]:Ll).length+x.2.length) z7z) (some (([]:Lg)++x.1,([]:Ll)++x.2)) none) none
theorem o6x:u0x=q97:=zC 124 func124
def s7e(x:Z73):Ht Z73:=zK 69 x
def p0i(x:Z73):Ht Z73:=(u0s x.1).bind fun y1=>(u0x x.2).bind fun y2=>some (y1,y2)
theorem o68:s7e=p0i:=zC 69 func69
def r52(x:Unit):Ht u9r:=zK 210 x
def r5e(x:Unit):Ht u9r:=some (([]:Lf),([]:Lc),([]:Lc),0,1)
theorem p0r:r52=r5e:=zC 210 func210
def t0k(x:Int):Lj:=zK 294 x
def q1d(x:Int):Lj:=(u0q (x,0,1)).bind fun y1=>cond (!y1) (some (0:Int)) (some (i64.wrap ((1:Int)+(i64.wrap (x*48)))))
theorem p94:t0k=q1d:=zC 294 func294
def u9o(x:o48):Ht r0d:=zK 363 x
def t3p(g:c45->Ht (c5d⊕r0d))(x:c45):Ht (c5d⊕r0d):=cond (decide (x.2.2>=0)) (cond (y4v x.2.2 x.2.1.2.length) (cond (decide ((rdL s5n x.2.1.2 x.2.2.toNat).1=x.1)) (cond (y4v x.2.2 x.2.1.2.length) (some (.inr ((rdL s5n x.2.1.2 x.2.2.toNat).2,true))) none) (g (x.1,x.2.1,i64.wrap (x.2.2 - 1)))) none) (some (.inl (x.1,x.2.1)))
def t3y:=lpW _ _ t3p
theorem r2v x:t3y x=t3p t3y x:=zW r1c 363 f363 4 41 x
def r6y(x:o48):Ht r0d:=(u0q (x.2,0,i64.wrap ((x.1.1.length:Int) - (1:Int)))).bind fun y1=>cond (!y1) (some ((⟨#[]⟩:Hs),false)) ((t3y (x.2,x.1,i64.wrap ((x.1.2.length:Int) - (1:Int)))).bind fun|.inl o3=>cond (y4v o3.1 o3.2.1.length) (some (rdL Ty.str o3.2.1 o3.1.toNat,true)) none|.inr z4=>some z4)
theorem p6p:u9o=r6y:=zC 363 func363
def s07(x:o48):Lj:=zK 297 x
def q98(x:o48):Lj:=(u9o x).bind fun y1=>((cond (!y1.2) (some true) (some (z7q y1.1 (⟨#[]⟩:Hs)))):La).bind fun j2=>cond j2 (some (0:Int)) (cond (y4v (0:Int) y1.1.size) (some (i64.wrap ((y1.1.data.toList.getD (0:Int).toNat 0).toNat:Int))) none)
theorem o6y:s07=q98:=zC 297 func297
def t5w(x:o48):Lj:=zK 223 x
def q9m(x:o48):Lj:=(u0q (x.2,0,1)).bind fun y1=>cond (!y1) (some (0:Int)) ((t0k x.2).bind fun y2=>(s07 (x.1,y2)).bind fun y3=>some y3)
theorem o6d:t5w=q9m:=zC 223 func223
def s55(x:d22):Ht r0d:=zK 293 x
def t3q(g:c4p->Ht (Hs⊕r0d))(x:c4p):Ht (Hs⊕r0d):=cond (decide (x.2.2.2.2<x.2.1)) (((cond (decide (x.1<0)) (some true) (some (decide (x.1>(x.2.2.1.1.length:Int))))):La).bind fun j2=>cond j2 (some (.inr ((⟨#[]⟩:Hs),false))) ((u9o (x.2.2.1,i64.wrap (x.1+x.2.2.2.2))).bind fun y3=>cond (!y3.2) (some (.inr ((⟨#[]⟩:Hs),false))) (cond (decide (x.2.2.2.1.size+y3.1.size<=140737488355328)) (g (x.1,x.2.1,x.2.2.1,x.2.2.2.1++y3.1,i64.wrap (x.2.2.2.2+1))) none))) (some (.inl x.2.2.2.1))
def t3z:=lpW _ _ t3q
theorem r2w x:t3z x=t3q t3z x:=zW r1d 293 f293 5 43 x
def r60(x:d22):Ht r0d:=(u0q (x.2.2,0,100)).bind fun y1=>cond (!y1) (some ((⟨#[]⟩:Hs),false)) ((t3z (x.2.1,x.2.2,x.1,(⟨#[]⟩:Hs),0)).bind fun|.inl o5=>some (o5,true)|.inr z6=>some z6)
theorem p6r:s55=r60:=zC 293 func293
def u2c(x:Int):Ht Hs:=zK 298 x
def q4h(g:d5i->Ht (d5i⊕Unit))(x:d5i):Ht (d5i⊕Unit):=cond (decide (x.1>127)) (cond (Nat.ble (x.2.length+([(u8.wrap (i64.wrap ((Int.tmod x.1 (128:Int))+128)))]:Ld).length) z7z) (g (i64.wrap (Int.tdiv x.1 (128:Int)),x.2++([(u8.wrap (i64.wrap ((Int.tmod x.1 (128:Int))+128)))]:Ld))) none) (some (.inl x))
def s4l:=lpW _ _ q4h
theorem o46 x:s4l x=q4h s4l x:=zW q6t 298 f298 2 22 x
def p3s(x:Int):Ht Hs:=(s4l (x,([]:Ld))).bind fun|.inl o2=>cond (Nat.ble (o2.2.length+([(u8.wrap o2.1)]:Ld).length) z7z) (some (y7s (o2.2++([(u8.wrap o2.1)]:Ld)))) none|.inr z3=>none
theorem j0w:u2c=p3s:=zC 298 func298
def s67(x:j5h):Ht d5j:=zK 364 x
def s11(g:c5h->Ht (Unit⊕d5j))(x:c5h):Ht (Unit⊕d5j):=((cond (decide (x.2.2.2.2<(x.1.size:Int))) (some (decide (x.2.2.2.2<(i64.wrap (x.2.1+5))))) (some false)):La).bind fun j2=>cond j2 (cond (y4v x.2.2.2.2 x.1.size) (cond (y4v x.2.2.2.2 x.1.size) (cond (decide (((x.1.data.toList.getD x.2.2.2.2.toNat 0).toNat:Int)<(128:Int))) (((cond (decide ((i64.wrap (x.2.2.1+(i64.wrap ((Int.tmod (i64.wrap ((x.1.data.toList.getD x.2.2.2.2.toNat 0).toNat:Int)) (128:Int))*x.2.2.2.1))))>1000000000)) (some true) ((u2c (i64.wrap (x.2.2.1+(i64.wrap ((Int.tmod (i64.wrap ((x.1.data.toList.getD x.2.2.2.2.toNat 0).toNat:Int)) (128:Int))*x.2.2.2.1))))).bind fun y3=>cond (decide (0<=x.2.1)&&decide (x.2.1<=(i64.wrap (x.2.2.2.2+1)))&&decide ((i64.wrap (x.2.2.2.2+1))<=(x.1.size:Int))) (some (!z7q y3 (x.1.extract x.2.1.toNat (i64.wrap (x.2.2.2.2+1)).toNat))) none)):La).bind fun j4=>cond j4 (some (.inr (0,0,false))) (some (.inr (i64.wrap (x.2.2.1+(i64.wrap ((Int.tmod (i64.wrap ((x.1.data.toList.getD x.2.2.2.2.toNat 0).toNat:Int)) (128:Int))*x.2.2.2.1))),i64.wrap (x.2.2.2.2+1),true)))) (g (x.1,x.2.1,i64.wrap (x.2.2.1+(i64.wrap ((Int.tmod (i64.wrap ((x.1.data.toList.getD x.2.2.2.2.toNat 0).toNat:Int)) (128:Int))*x.2.2.2.1))),i64.wrap (x.2.2.2.1*128),i64.wrap (x.2.2.2.2+1)))) none) none) (some (.inl ()))
def s2j:=lpW _ _ s11
theorem q3r x:s2j x=s11 s2j x:=zW q2o 364 f364 6 58 x
def q9v(x:j5h):Ht d5j:=(u0q (x.2,0,(x.1.size:Int))).bind fun y1=>cond (!y1) (some (0,0,false)) ((s2j (x.1,x.2,0,1,x.2)).bind fun|.inl o6=>some (0,0,false)|.inr z7=>some z7)
theorem o6m:s67=q9v:=zC 364 func364
def s20(x:j5h):Ht p2o:=zK 295 x
def q1l(x:j5h):Ht p2o:=(s67 x).bind fun y1=>((cond (!y1.2.2) (some true) (cond (decide (y1.1>20000)) (some true) (some (decide (y1.1>(i64.wrap ((x.1.size:Int) - y1.2.1))))))):La).bind fun j2=>cond j2 (some ((⟨#[]⟩:Hs),0,false)) (cond (decide (0<=y1.2.1)&&decide (y1.2.1<=(i64.wrap (y1.2.1+y1.1)))&&decide ((i64.wrap (y1.2.1+y1.1))<=(x.1.size:Int))) (some (x.1.extract y1.2.1.toNat (i64.wrap (y1.2.1+y1.1)).toNat,i64.wrap (y1.2.1+y1.1),true)) none)
theorem o0c:s20=q1l:=zC 295 func295
def t2u(x:o48):Ht (p5r×d62):=zK 216 x
def t6o(g:c32->Ht c0x)(x:c32):Ht c0x:=(t5w (x.2.1,x.1)).bind fun y4=>cond (decide (x.2.2.2.2.2.2<y4)) ((s20 (x.2.2.2.1,x.2.2.2.2.2.1)).bind fun y5=>((cond (!y5.2.2) (some true) (some (z7q y5.1 (⟨#[]⟩:Hs)))):La).bind fun j6=>cond j6 (some (.inr (x.2.2.1,0,false))) (cond (Nat.ble (x.2.2.2.2.1.length+([y5.1]:Lg).length) z7z) (g (x.1,x.2.1,x.2.2.1,x.2.2.2.1,x.2.2.2.2.1++([y5.1]:Lg),y5.2.1,i64.wrap (x.2.2.2.2.2.2+1))) none)) (some (.inl (x.2.2.2.2.1,x.2.2.2.2.2.1)))
def t6z:=lpW _ _ t6o
theorem r45 x:t6z x=t6o t6z x:=zW r39 216 f216 10 61 x
def q5o(x:o48):Ht (p5r×d62):=(u0q (x.2,0,1)).bind fun y1=>cond (!y1) (some (([]:Lg),0,false)) ((t0k x.2).bind fun y2=>(s55 (x.1,i64.wrap (y2+1),47)).bind fun y3=>cond (!y3.2) (some (([]:Lg),0,false)) ((t6z (x.2,x.1,([]:Lg),y3.1,([]:Lg),0,0)).bind fun|.inl o8=>some (o8.1,o8.2,true)|.inr z9=>some z9))
theorem o3e:t2u=q5o:=zC 216 func216
def t2t(x:u8l):Lj:=zK 218 x
def q5h(x:u8l):Lj:=(s07 (x,0)).bind fun y1=>some (Int.tmod y1 (2:Int))
theorem o26:t2t=q5h:=zC 218 func218
def t8a(x:u8l):Ht p5r:=zK 211 x
def q5l(x:u8l):Ht p5r:=(t2t x).bind fun y1=>(t2u (x,y1)).bind fun y2=>some y2.1
theorem o3b:t8a=q5l:=zC 211 func211
def s5f(x:t0x):La:=zK 353 x
def q53(x:t0x):La:=((cond (decide (x.1=0)) (cond (decide (x.2.1=0)) (cond (decide (x.2.2.1=0)) (cond (decide (x.2.2.2.1=0)) (cond (decide ((x.2.2.2.2.1.length:Int)=(0:Int))) (cond (decide ((x.2.2.2.2.2.1.length:Int)=(0:Int))) (cond (!x.2.2.2.2.2.2.1) (some (z7q x.2.2.2.2.2.2.2 (⟨#[]⟩:Hs))) (some false)) (some false)) (some false)) (some false)) (some false)) (some false)) (some false)):La).bind fun j1=>some j1
theorem o3s:s5f=q53:=zC 353 func353
def s8w(x:u9r):La:=zK 354 x
def q1q(x:u9r):La:=((cond (decide (x.2.2.2.1=0)) (cond (decide (x.2.2.2.2=0)) (cond (decide ((x.1.length:Int)=(0:Int))) (cond (decide ((x.2.1.length:Int)=(0:Int))) (some (decide ((x.2.2.1.length:Int)=(0:Int)))) (some false)) (some false)) (some false)) (some false)):La).bind fun j1=>some j1
theorem o0h:s8w=q1q:=zC 354 func354
def s49(x:Z54):La:=zK 278 x
def q5q(x:Z54):La:=(u0q (x.1,1,4)).bind fun y1=>cond (!y1) (some false) (((cond (decide (x.1=1)) (some true) (some (decide (x.1=2)))):La).bind fun j2=>((cond j2 ((u9i x.2.1).bind fun y3=>cond (!y3) (some true) (cond (!j2) ((s5f x.2.1).bind fun y4=>cond (!y4) (some true) (cond (decide (x.1=1)) (cond (!decide (x.2.1.2.1=3)) (some true) (cond (decide (x.1=2)) (some (!decide (x.2.1.2.1=2))) (some false))) (cond (decide (x.1=2)) (some (!decide (x.2.1.2.1=2))) (some false)))) (cond (decide (x.1=1)) (cond (!decide (x.2.1.2.1=3)) (some true) (cond (decide (x.1=2)) (some (!decide (x.2.1.2.1=2))) (some false))) (cond (decide (x.1=2)) (some (!decide (x.2.1.2.1=2))) (some false))))) (cond (!j2) ((s5f x.2.1).bind fun y5=>cond (!y5) (some true) (cond (decide (x.1=1)) (cond (!decide (x.2.1.2.1=3)) (some true) (cond (decide (x.1=2)) (some (!decide (x.2.1.2.1=2))) (some false))) (cond (decide (x.1=2)) (some (!decide (x.2.1.2.1=2))) (some false)))) (cond (decide (x.1=1)) (cond (!decide (x.2.1.2.1=3)) (some true) (cond (decide (x.1=2)) (some (!decide (x.2.1.2.1=2))) (some false))) (cond (decide (x.1=2)) (some (!decide (x.2.1.2.1=2))) (some false))))):La).bind fun j6=>cond j6 (some false) (((cond (decide (x.1=3)) ((u9g x.2.2.1).bind fun y7=>cond (!y7) (some true) (cond (!decide (x.1=3)) (cond (!z7q x.2.2.1 (⟨#[]⟩:Hs)) (some true) (some x.2.2.2.1)) (some false))) (cond (!decide (x.1=3)) (cond (!z7q x.2.2.1 (⟨#[]⟩:Hs)) (some true) (some x.2.2.2.1)) (some false))):La).bind fun j8=>cond j8 (some false) (cond (decide (x.1=4)) ((t02 x.2.2.2.2).bind fun y9=>some y9) ((s8w x.2.2.2.2).bind fun y10=>some y10))))
theorem o3g:s49=q5q:=zC 278 func278
def s69(x:Int):Ht Hs:=zK 355 x
def q96(x:Int):Ht Hs:=some (y7s ([u8.wrap (Int.fdiv x (2^(min (24:Int).toNat u32.bits))),u8.wrap (Int.fdiv x (2^(min (16:Int).toNat u32.bits))),u8.wrap (Int.fdiv x (2^(min (8:Int).toNat u32.bits))),u8.wrap x]:Ld))
theorem p0v:s69=q96:=zC 355 func355
def r57(x:c03):Lj:=zK 388 x
def q0j(g:c0y->Ht (d5k⊕Unit))(x:c0y):Ht (d5k⊕Unit):=cond (decide (x.2.2.2<8)) (cond (decide ((Int.tmod x.1 (2:Int))=1)) (g (u32.wrap ((BitVec.ofInt u32.bits (u32.wrap (Int.tdiv x.1 (2:Int)))^^^BitVec.ofInt u32.bits (3558460437:Int)).toNat:Int),x.2.1,x.2.2.1,i64.wrap (x.2.2.2+1))) (g (u32.wrap (Int.tdiv x.1 (2:Int)),x.2.1,x.2.2.1,i64.wrap (x.2.2.2+1)))) (some (.inl (x.1,x.2.1,x.2.2.1)))
def s2l:=lpW _ _ q0j
theorem o0p x:s2l x=q0j s2l x:=zW q2r 388 f388 6 33 x
def s12(g:d5k->Ht j8i)(x:d5k):Ht j8i:=cond (decide (x.2.2<(x.2.1.size:Int))) (cond (y4v x.2.2 x.2.1.size) ((s2l (u32.wrap ((BitVec.ofInt u32.bits x.1^^^BitVec.ofInt u32.bits (u32.wrap ((x.2.1.data.toList.getD x.2.2.toNat 0).toNat:Int))).toNat:Int),x.2.1,x.2.2,0)).bind fun|.inl o2=>g (o2.1,o2.2.1,i64.wrap (o2.2.2+1))|.inr z3=>some (.inr ())) none) (some (.inl x.1))
def s2k:=lpW _ _ s12
theorem q3t x:s2k x=s12 s2k x:=zW q2q 388 f388 2 33 x
def q9x(x:c03):Lj:=(s2k (x.1,x.2,0)).bind fun|.inl o5=>some o5|.inr z6=>none
theorem o6o:r57=q9x:=zC 388 func388
def r4k(x:Hs):Lj:=zK 356 x
def q5u(x:Hs):Lj:=(r57 (4294967295,x)).bind fun y1=>some y1
theorem p8e:r4k=q5u:=zC 356 func356
def s5b(x:Hs):Ht r0d:=zK 279 x
def p3o(x:Hs):Ht r0d:=cond (decide ((x.size:Int)>(20000:Int))) (some ((⟨#[]⟩:Hs),false)) ((r4k x).bind fun y1=>(s69 y1).bind fun y2=>cond (decide (x.size+y2.size<=140737488355328)) (some (x++y2,true)) none)
theorem j0s:s5b=p3o:=zC 279 func279
def u4g(x:Hs):Ht Hs:=zK 280 x
def q52(x:Hs):Ht Hs:=(u2c (x.size:Int)).bind fun y1=>cond (decide (y1.size+x.size<=140737488355328)) (some (y1++x)) none
theorem o3r:u4g=q52:=zC 280 func280
def t96(x:Bool):Ht Hs:=zK 281 x
def p3u(x:Bool):Ht Hs:=cond x (some (⟨#[1]⟩:Hs)) (some (⟨#[0]⟩:Hs))
theorem j0y:t96=p3u:=zC 281 func281
def s68(x:t0x):Ht r0d:=zK 283 x
def s16(g:d94->Ht (d0u⊕Unit))(x:d94):Ht (d0u⊕Unit):=cond (decide (x.2.2<(x.1.2.2.2.2.1.length:Int))) (cond (y4v x.2.2 x.1.2.2.2.2.1.length) ((u4g (rdL r0f x.1.2.2.2.2.1 x.2.2.toNat).1).bind fun y7=>cond (decide (x.2.1.size+y7.size<=140737488355328)) (cond (y4v x.2.2 x.1.2.2.2.2.1.length) ((u4g (rdL r0f x.1.2.2.2.2.1 x.2.2.toNat).2).bind fun y8=>cond (decide ((x.2.1++y7).size+y8.size<=140737488355328)) (g (x.1,(x.2.1++y7)++y8,i64.wrap (x.2.2+1))) none) none) none) none) (some (.inl (x.1,x.2.1)))
def t43:=lpW _ _ s16
theorem q3x x:t43 x=s16 t43 x:=zW q2v 283 f283 5 101 x
def t9c(g:d94->Ht (d0u⊕Unit))(x:d94):Ht (d0u⊕Unit):=cond (decide (x.2.2<(x.1.2.2.2.2.2.1.length:Int))) (cond (y4v x.2.2 x.1.2.2.2.2.2.1.length) ((u4g (rdL u12 x.1.2.2.2.2.2.1 x.2.2.toNat).1).bind fun y12=>cond (decide (x.2.1.size+y12.size<=140737488355328)) (cond (y4v x.2.2 x.1.2.2.2.2.2.1.length) ((u4g (rdL u12 x.1.2.2.2.2.2.1 x.2.2.toNat).2.1).bind fun y13=>cond (decide ((x.2.1++y12).size+y13.size<=140737488355328)) (cond (y4v x.2.2 x.1.2.2.2.2.2.1.length) ((t96 (rdL u12 x.1.2.2.2.2.2.1 x.2.2.toNat).2.2).bind fun y14=>cond (decide (((x.2.1++y12)++y13).size+y14.size<=140737488355328)) (g (x.1,((x.2.1++y12)++y13)++y14,i64.wrap (x.2.2+1))) none) none) none) none) none) none) (some (.inl (x.1,x.2.1)))
def t2e:=lpW _ _ t9c
theorem r84 x:t2e x=t9c t2e x:=zW r74 283 f283 10 101 x
def q91(x:t0x):Ht r0d:=(u9i x).bind fun y1=>cond (!y1) (some ((⟨#[]⟩:Hs),false)) ((u2c x.1).bind fun y2=>(u2c x.2.1).bind fun y3=>cond (decide (y2.size+y3.size<=140737488355328)) ((u2c x.2.2.1).bind fun y4=>cond (decide ((y2++y3).size+y4.size<=140737488355328)) ((u2c x.2.2.2.1).bind fun y5=>cond (decide (((y2++y3)++y4).size+y5.size<=140737488355328)) ((u2c (x.2.2.2.2.1.length:Int)).bind fun y6=>cond (decide ((((y2++y3)++y4)++y5).size+y6.size<=140737488355328)) ((t43 (x,(((y2++y3)++y4)++y5)++y6,0)).bind fun|.inl o10=>((u2c (o10.1.2.2.2.2.2.1.length:Int)).bind fun y11=>cond (decide (o10.2.size+y11.size<=140737488355328)) ((t2e (o10.1,o10.2++y11,0)).bind fun|.inl o16=>((t96 o16.1.2.2.2.2.2.2.1).bind fun y17=>cond (decide (o16.2.size+y17.size<=140737488355328)) ((u4g o16.1.2.2.2.2.2.2.2).bind fun y18=>cond (decide ((o16.2++y17).size+y18.size<=140737488355328)) (some ((o16.2++y17)++y18,true)) none) none)|.inr z19=>none) none)|.inr z20=>none) none) none) none) none)
theorem o6s:s68=q91:=zC 283 func283
def s7c(x:p1v):Ht Hs:=zK 357 x
def s2b(g:c4z->Ht d7x)(x:c4z):Ht d7x:=cond (decide (x.2.2<(x.1.length:Int))) (cond (y4v x.2.2 x.1.length) ((s68 (rdL u0a x.1 x.2.2.toNat)).bind fun y2=>cond (decide (x.2.1.size+y2.1.size<=140737488355328)) (g (x.1,x.2.1++y2.1,i64.wrap (x.2.2+1))) none) none) (some (.inl x.2.1))
def t47:=lpW _ _ s2b
theorem q31 x:t47 x=s2b t47 x:=zW q21 357 f357 3 28 x
def p0f(x:p1v):Ht Hs:=(u2c (x.length:Int)).bind fun y1=>(t47 (x,y1,0)).bind fun|.inl o4=>some o4|.inr z5=>none
theorem o65:s7c=p0f:=zC 357 func357
def r19(x:u9r):Ht r0d:=zK 282 x
def t81(g:c3u->Ht (d2m⊕Unit))(x:c3u):Ht (d2m⊕Unit):=cond (decide (x.2.2<(x.1.1.length:Int))) (cond (y4v x.2.2 x.1.1.length) ((u4g (rdL u0h x.1.1 x.2.2.toNat).1).bind fun y5=>cond (decide (x.2.1.size+y5.size<=140737488355328)) ((u4g (rdL u0h x.1.1 x.2.2.toNat).2.1).bind fun y6=>cond (decide ((x.2.1++y5).size+y6.size<=140737488355328)) ((t96 (rdL u0h x.1.1 x.2.2.toNat).2.2.1).bind fun y7=>cond (decide (((x.2.1++y5)++y6).size+y7.size<=140737488355328)) ((u2c (rdL u0h x.1.1 x.2.2.toNat).2.2.2).bind fun y8=>cond (decide ((((x.2.1++y5)++y6)++y7).size+y8.size<=140737488355328)) (g (x.1,(((x.2.1++y5)++y6)++y7)++y8,i64.wrap (x.2.2+1))) none) none) none) none) none) (some (.inl (x.1,x.2.1)))
def t19:=lpW _ _ t81
theorem r8t x:t19 x=t81 t19 x:=zW r7s 282 f282 5 60 x
def q5i(x:u9r):Ht r0d:=(t02 x).bind fun y1=>cond (!y1) (some ((⟨#[]⟩:Hs),false)) ((u2c x.2.2.2.1).bind fun y2=>(u2c x.2.2.2.2).bind fun y3=>cond (decide (y2.size+y3.size<=140737488355328)) ((u2c (x.1.length:Int)).bind fun y4=>cond (decide ((y2++y3).size+y4.size<=140737488355328)) ((t19 (x,(y2++y3)++y4,0)).bind fun|.inl o10=>((s7c o10.1.2.1).bind fun y11=>cond (decide (o10.2.size+y11.size<=140737488355328)) ((s7c o10.1.2.2.1).bind fun y12=>cond (decide ((o10.2++y11).size+y12.size<=140737488355328)) (some ((o10.2++y11)++y12,true)) none) none)|.inr z13=>none) none) none)
theorem o27:r19=q5i:=zC 282 func282
def u45(x:Z54):Ht r0d:=zK 208 x
def r6z(x:Z54):Ht r0d:=(s49 x).bind fun y1=>cond (!y1) (some ((⟨#[]⟩:Hs),false)) (cond (decide (x.1=3)) ((u4g x.2.2.1).bind fun y2=>cond (decide ((y7s ([(u8.wrap x.1)]:Ld)).size+y2.size<=140737488355328)) ((t96 x.2.2.2.1).bind fun y3=>cond (decide (((y7s ([(u8.wrap x.1)]:Ld))++y2).size+y3.size<=140737488355328)) ((s5b (((y7s ([(u8.wrap x.1)]:Ld))++y2)++y3)).bind fun y4=>some y4) none) none) (cond (decide (x.1=4)) ((r19 x.2.2.2.2).bind fun y5=>cond (decide ((y7s ([(u8.wrap x.1)]:Ld)).size+y5.1.size<=140737488355328)) ((s5b ((y7s ([(u8.wrap x.1)]:Ld))++y5.1)).bind fun y6=>some y6) none) ((s68 x.2.1).bind fun y7=>cond (decide ((y7s ([(u8.wrap x.1)]:Ld)).size+y7.1.size<=140737488355328)) ((s5b ((y7s ([(u8.wrap x.1)]:Ld))++y7.1)).bind fun y8=>some y8) none)))
theorem p6q:u45=r6z:=zC 208 func208
def r2f(x:Hs):Ht r0d:=zK 286 x
def q5v(x:Hs):Ht r0d:=((cond (decide ((i64.wrap ((x.size:Int) - (4:Int)))<0)) (some true) (cond (decide ((i64.wrap ((x.size:Int) - (4:Int)))>20000)) (some true) (cond (decide (0<=(i64.wrap ((x.size:Int) - (4:Int))))&&decide ((i64.wrap ((x.size:Int) - (4:Int)))<=(x.size:Int))&&decide ((x.size:Int)<=(x.size:Int))) (cond (decide (0<=(0:Int))&&decide ((0:Int)<=(i64.wrap ((x.size:Int) - (4:Int))))&&decide ((i64.wrap ((x.size:Int) - (4:Int)))<=(x.size:Int))) ((r4k (x.extract (0:Int).toNat (i64.wrap ((x.size:Int) - (4:Int))).toNat)).bind fun y1=>(s69 y1).bind fun y2=>some (!z7q (x.extract (i64.wrap ((x.size:Int) - (4:Int))).toNat (x.size:Int).toNat) y2)) none) none))):La).bind fun j3=>cond j3 (some ((⟨#[]⟩:Hs),false)) (cond (decide (0<=(0:Int))&&decide ((0:Int)<=(i64.wrap ((x.size:Int) - (4:Int))))&&decide ((i64.wrap ((x.size:Int) - (4:Int)))<=(x.size:Int))) (some (x.extract (0:Int).toNat (i64.wrap ((x.size:Int) - (4:Int))).toNat,true)) none)
theorem o3k:r2f=q5v:=zC 286 func286
def u2g(x:p2o):Ht c0n:=zK 287 x
def r0x(x:p2o):Ht c0n:=(s20 (x.1,x.2.1)).bind fun y1=>((cond x.2.2 (some true) (some (!y1.2.2))):La).bind fun j2=>cond j2 (some ((⟨#[]⟩:Hs),x.1,x.2.1,true)) (some (y1.1,x.1,y1.2.1,x.2.2))
theorem p13:u2g=r0x:=zC 287 func287
def u9q(x:p2o):Ht (Bool×p2o):=zK 288 x
def r64(x:p2o):Ht (Bool×p2o):=((cond x.2.2 (some true) (cond (decide (x.2.1>=(x.1.size:Int))) (some true) (cond (y4v x.2.1 x.1.size) (some (decide (((x.1.data.toList.getD x.2.1.toNat 0).toNat:Int)>(1:Int)))) none))):La).bind fun j1=>cond j1 (some (false,x.1,x.2.1,true)) (cond (y4v (i64.wrap ((i64.wrap (x.2.1+1)) - 1)) x.1.size) (some (decide (((x.1.data.toList.getD (i64.wrap ((i64.wrap (x.2.1+1)) - 1)).toNat 0).toNat:Int)=(1:Int)),x.1,i64.wrap (x.2.1+1),x.2.2)) none)
theorem p6v:u9q=r64:=zC 288 func288
def u3n(x:p2o):Ht (Int×p2o):=zK 359 x
def p3v(x:p2o):Ht (Int×p2o):=(s67 (x.1,x.2.1)).bind fun y1=>((cond x.2.2 (some true) (some (!y1.2.2))):La).bind fun j2=>cond j2 (some (0,x.1,x.2.1,true)) (some (y1.1,x.1,y1.2.1,x.2.2))
theorem j0z:u3n=p3v:=zC 359 func359
def s66(x:j5h):Ht c37:=zK 290 x
def s10(g:Z55->Ht (Z60⊕Unit))(x:Z55):Ht (Z60⊕Unit):=((cond (decide (x.2.2.2.2<x.2.2.2.1)) (cond (decide (x.2.2.2.2<10)) (some (!x.2.1.2.2)) (some false)) (some false)):La).bind fun j6=>cond j6 ((u2g x.2.1).bind fun y7=>(u2g y7.2).bind fun y8=>cond (Nat.ble (x.2.2.1.2.2.2.2.1.length+([(y7.1,y8.1)]:Li).length) z7z) (g (x.1,y8.2,(x.2.2.1.1,x.2.2.1.2.1,x.2.2.1.2.2.1,x.2.2.1.2.2.2.1,x.2.2.1.2.2.2.2.1++([(y7.1,y8.1)]:Li),x.2.2.1.2.2.2.2.2),x.2.2.2.1,i64.wrap (x.2.2.2.2+1))) none) (some (.inl (x.1,x.2.1,x.2.2.1)))
def t4z:=lpW _ _ s10
theorem q3q x:t4z x=s10 t4z x:=zW q2n 290 f290 8 115 x
def t87(g:Z55->Ht (Z60⊕Unit))(x:Z55):Ht (Z60⊕Unit):=((cond (decide (x.2.2.2.2<x.2.2.2.1)) (cond (decide (x.2.2.2.2<10)) (some (!x.2.1.2.2)) (some false)) (some false)):La).bind fun j12=>cond j12 ((u2g x.2.1).bind fun y13=>(u2g y13.2).bind fun y14=>(u9q y14.2).bind fun y15=>cond (Nat.ble (x.2.2.1.2.2.2.2.2.1.length+([(y13.1,y14.1,y15.1)]:Lh).length) z7z) (g (x.1,y15.2,(x.2.2.1.1,x.2.2.1.2.1,x.2.2.1.2.2.1,x.2.2.1.2.2.2.1,x.2.2.1.2.2.2.2.1,x.2.2.1.2.2.2.2.2.1++([(y13.1,y14.1,y15.1)]:Lh),x.2.2.1.2.2.2.2.2.2),x.2.2.2.1,i64.wrap (x.2.2.2.2+1))) none) (some (.inl (x.1,x.2.1,x.2.2.1)))
def t2b:=lpW _ _ t87
theorem r8z x:t2b x=t87 t2b x:=zW r7y 290 f290 15 115 x
def q9u(x:j5h):Ht c37:=(u3n (x.1,x.2,false)).bind fun y1=>(u3n y1.2).bind fun y2=>(u3n y2.2).bind fun y3=>(u3n y3.2).bind fun y4=>(u3n y4.2).bind fun y5=>(t4z ((0,0,0,0,([]:Li),([]:Lh),false,(⟨#[]⟩:Hs)),y5.2,(y1.1,y2.1,y3.1,y4.1,([]:Li),([]:Lh),false,(⟨#[]⟩:Hs)),y5.1,0)).bind fun|.inl o10=>((u3n o10.2.1).bind fun y11=>(t2b (o10.1,y11.2,o10.2.2,y11.1,0)).bind fun|.inl o17=>((u9q o17.2.1).bind fun y18=>(u2g y18.2).bind fun y19=>((cond y19.2.2.2 (some true) ((u9i (o17.2.2.1,o17.2.2.2.1,o17.2.2.2.2.1,o17.2.2.2.2.2.1,o17.2.2.2.2.2.2.1,o17.2.2.2.2.2.2.2.1,y18.1,y19.1)).bind fun y20=>some (!y20))):La).bind fun j21=>cond j21 (some ((0,0,0,0,([]:Li),([]:Lh),false,(⟨#[]⟩:Hs)),0,false)) (some ((o17.2.2.1,o17.2.2.2.1,o17.2.2.2.2.1,o17.2.2.2.2.2.1,o17.2.2.2.2.2.2.1,o17.2.2.2.2.2.2.2.1,y18.1,y19.1),y19.2.2.1,true)))|.inr z22=>none)|.inr z23=>none
theorem o6l:s66=q9u:=zC 290 func290
def t7c(x:(p2o×Int)):Ht c4q:=zK 360 x
def u6e(g:c4f->Ht (c0e⊕c0e))(x:c4f):Ht (c0e⊕c0e):=((cond (decide (x.2.2.2.2<x.2.2.2.1)) (cond (decide (x.2.2.2.2<=x.2.1)) (some (!x.1.2.2)) (some false)) (some false)):La).bind fun j2=>cond j2 ((s66 (x.1.1,x.1.2.1)).bind fun y3=>cond (!y3.2.2) (some (.inr ((x.1.1,x.1.2.1,true),x.2.2.1))) (cond (Nat.ble (x.2.2.1.length+([y3.1]:Lc).length) z7z) (g ((x.1.1,y3.2.1,x.1.2.2),x.2.1,x.2.2.1++([y3.1]:Lc),x.2.2.2.1,i64.wrap (x.2.2.2.2+1))) none)) (some (.inl (x.1,x.2.2.1)))
def u8x:=lpW _ _ u6e
theorem t12 x:u8x x=u6e u8x x:=zW s9g 360 f360 4 59 x
def r3n(x:(p2o×Int)):Ht c4q:=(u3n x.1).bind fun y1=>(u8x (y1.2,x.2,([]:Lc),y1.1,0)).bind fun|.inl o5=>some (o5.2,o5.1)|.inr z6=>some (z6.2,z6.1)
theorem p4m:t7c=r3n:=zC 360 func360
def r2d(x:j5h):Ht c3v:=zK 289 x
def t86(g:Z38->Ht (Z47⊕Unit))(x:Z38):Ht (Z47⊕Unit):=((cond (decide (x.2.2.2.2<x.2.2.2.1)) (cond (decide (x.2.2.2.2<130)) (some (!x.2.1.2.2)) (some false)) (some false)):La).bind fun j4=>cond j4 ((u2g x.2.1).bind fun y5=>(u2g y5.2).bind fun y6=>(u9q y6.2).bind fun y7=>(u3n y7.2).bind fun y8=>cond (Nat.ble (x.2.2.1.1.length+([(y5.1,y6.1,y7.1,y8.1)]:Lf).length) z7z) (g (x.1,y8.2,(x.2.2.1.1++([(y5.1,y6.1,y7.1,y8.1)]:Lf),x.2.2.1.2),x.2.2.2.1,i64.wrap (x.2.2.2.2+1))) none) (some (.inl (x.1,x.2.1,x.2.2.1)))
def t2a:=lpW _ _ t86
theorem r8y x:t2a x=t86 t2a x:=zW r7x 289 f289 6 79 x
def q5p(x:j5h):Ht c3v:=(u3n (x.1,x.2,false)).bind fun y1=>(u3n y1.2).bind fun y2=>(u3n y2.2).bind fun y3=>(t2a ((([]:Lf),([]:Lc),([]:Lc),0,0),y3.2,(([]:Lf),([]:Lc),([]:Lc),y1.1,y2.1),y3.1,0)).bind fun|.inl o10=>((t7c (o10.2.1,12)).bind fun y11=>(t7c (y11.2,3)).bind fun y12=>((cond y12.2.2.2 (some true) ((t02 (o10.2.2.1,y11.1,y12.1,o10.2.2.2.2.2)).bind fun y13=>some (!y13))):La).bind fun j14=>cond j14 (some ((([]:Lf),([]:Lc),([]:Lc),0,0),0,false)) (some ((o10.2.2.1,y11.1,y12.1,o10.2.2.2.2.2),y12.2.2.1,true)))|.inr z15=>none
theorem o3f:r2d=q5p:=zC 289 func289
def s54(x:Hs):Ht Z51:=zK 212 x
def r6x(x:Hs):Ht Z51:=(r2f x).bind fun y1=>((cond (!y1.2) (some true) (some (z7q y1.1 (⟨#[]⟩:Hs)))):La).bind fun j2=>cond j2 (some ((0,(0,0,0,0,([]:Li),([]:Lh),false,(⟨#[]⟩:Hs)),(⟨#[]⟩:Hs),false,([]:Lf),([]:Lc),([]:Lc),0,0),false)) (cond (y4v (0:Int) y1.1.size) (cond (decide ((i64.wrap ((y1.1.data.toList.getD (0:Int).toNat 0).toNat:Int))=3)) ((u2g (y1.1,1,false)).bind fun y3=>(u9q y3.2).bind fun y4=>(u45 (i64.wrap ((y1.1.data.toList.getD (0:Int).toNat 0).toNat:Int),(0,0,0,0,([]:Li),([]:Lh),false,(⟨#[]⟩:Hs)),y3.1,y4.1,([]:Lf),([]:Lc),([]:Lc),0,0)).bind fun y5=>((cond (!y5.2) (some true) (some (!z7q y5.1 x))):La).bind fun j6=>cond j6 (some ((0,(0,0,0,0,([]:Li),([]:Lh),false,(⟨#[]⟩:Hs)),(⟨#[]⟩:Hs),false,([]:Lf),([]:Lc),([]:Lc),0,0),false)) (some ((i64.wrap ((y1.1.data.toList.getD (0:Int).toNat 0).toNat:Int),(0,0,0,0,([]:Li),([]:Lh),false,(⟨#[]⟩:Hs)),y3.1,y4.1,([]:Lf),([]:Lc),([]:Lc),0,0),true))) (cond (decide ((i64.wrap ((y1.1.data.toList.getD (0:Int).toNat 0).toNat:Int))=4)) ((r2d (y1.1,1)).bind fun y7=>(u45 (i64.wrap ((y1.1.data.toList.getD (0:Int).toNat 0).toNat:Int),(0,0,0,0,([]:Li),([]:Lh),false,(⟨#[]⟩:Hs)),(⟨#[]⟩:Hs),false,y7.1)).bind fun y8=>((cond (!y8.2) (some true) (some (!z7q y8.1 x))):La).bind fun j9=>cond j9 (some ((0,(0,0,0,0,([]:Li),([]:Lh),false,(⟨#[]⟩:Hs)),(⟨#[]⟩:Hs),false,([]:Lf),([]:Lc),([]:Lc),0,0),false)) (some ((i64.wrap ((y1.1.data.toList.getD (0:Int).toNat 0).toNat:Int),(0,0,0,0,([]:Li),([]:Lh),false,(⟨#[]⟩:Hs)),(⟨#[]⟩:Hs),false,y7.1),true))) ((s66 (y1.1,1)).bind fun y10=>(u45 (i64.wrap ((y1.1.data.toList.getD (0:Int).toNat 0).toNat:Int),y10.1,(⟨#[]⟩:Hs),false,([]:Lf),([]:Lc),([]:Lc),0,0)).bind fun y11=>((cond (!y11.2) (some true) (some (!z7q y11.1 x))):La).bind fun j12=>cond j12 (some ((0,(0,0,0,0,([]:Li),([]:Lh),false,(⟨#[]⟩:Hs)),(⟨#[]⟩:Hs),false,([]:Lf),([]:Lc),([]:Lc),0,0),false)) (some ((i64.wrap ((y1.1.data.toList.getD (0:Int).toNat 0).toNat:Int),y10.1,(⟨#[]⟩:Hs),false,([]:Lf),([]:Lc),([]:Lc),0,0),true))))) none)
theorem p6o:s54=r6x:=zC 212 func212
def u2f(x:d2m):Lj:=zK 142 x
def t4l(g:c3t->Ht r6g)(x:c3t):Ht r6g:=cond (decide (x.2.2<(x.2.1.2.2.1.length:Int))) (cond (y4v x.2.2 x.2.1.2.2.1.length) (cond (z7q (rdL u0a x.2.1.2.2.1 x.2.2.toNat).2.2.2.2.2.2.2 x.1) (some (.inr x.2.2)) (g (x.1,x.2.1,i64.wrap (x.2.2+1)))) none) (some (.inl ()))
def t40:=lpW _ _ t4l
theorem q3s x:t40 x=t4l t40 x:=zW q2p 142 f142 2 22 x
def q9w(x:d2m):Lj:=(t40 (x.2,x.1,0)).bind fun|.inl o2=>some (- 1:Int)|.inr z3=>some z3
theorem o6n:u2f=q9w:=zC 142 func142
def r94(x:Z76):La:=zK 390 x
def p3d(x:Z76):La:=cond (decide (x.1.1=x.2.1)) (some false) (((cond (decide (x.1.2.1=3)) (cond (decide (x.1.2.2.2.1<=x.2.2.2.1)) (some true) (cond (decide (x.2.2.1=3)) (some (decide (x.2.2.2.2.1<=x.1.2.2.1))) (some false))) (cond (decide (x.2.2.1=3)) (some (decide (x.2.2.2.2.1<=x.1.2.2.1))) (some false))):La).bind fun j1=>cond j1 (some false) (some true))
theorem j0h:r94=p3d:=zC 390 func390
def r58(x:c0o):La:=zK 391 x
def s14(g:c43->Ht (c0k⊕Bool))(x:c43):Ht (c0k⊕Bool):=cond (decide (x.2.2.2<(x.2.1.length:Int))) (cond (y4v x.2.2.1 x.1.length) (cond (y4v x.2.2.2 x.2.1.length) ((s65 (rdL r0f x.1 x.2.2.1.toNat,(rdL u12 x.2.1 x.2.2.2.toNat).1)).bind fun y1=>cond y1 (some (.inr true)) (g (x.1,x.2.1,x.2.2.1,i64.wrap (x.2.2.2+1)))) none) none) (some (.inl (x.1,x.2.1,x.2.2.1)))
def t41:=lpW _ _ s14
theorem q3v x:t41 x=s14 t41 x:=zW q2t 391 f391 5 29 x
def s13(g:c0k->Ht r0k)(x:c0k):Ht r0k:=cond (decide (x.2.2<(x.1.length:Int))) ((t41 (x.1,x.2.1,x.2.2,0)).bind fun|.inl o3=>g (o3.1,o3.2.1,i64.wrap (o3.2.2+1))|.inr z4=>some (.inr z4)) (some (.inl ()))
def s2m:=lpW _ _ s13
theorem q3u x:s2m x=s13 s2m x:=zW q2s 391 f391 2 29 x
def q9z(x:c0o):La:=(s2m (x.1,x.2,0)).bind fun|.inl o6=>some false|.inr z7=>some z7
theorem o6q:r58=q9z:=zC 391 func391
def u39(x:Z76):La:=zK 370 x
def p7v(x:Z76):La:=(((r94 x).bind fun y1=>cond y1 ((r58 (x.1.2.2.2.2.1,x.2.2.2.2.2.2.1)).bind fun y2=>some y2) (some false)):La).bind fun j3=>some j3
theorem j3o:u39=p7v:=zC 370 func370
def s72(x:o1q):La:=zK 368 x
def s6j(g:d2l->Ht r0k)(x:d2l):Ht r0k:=cond (decide (x.2.2<(x.1.length:Int))) (((cond (y4v x.2.2 x.1.length) (cond (decide ((rdL u0a x.1 x.2.2.toNat).2.1=3)) (cond (y4v x.2.2 x.1.length) ((u39 (x.2.1,rdL u0a x.1 x.2.2.toNat)).bind fun y1=>some y1) none) (some false)) none):La).bind fun j2=>cond j2 (some (.inr true)) (g (x.1,x.2.1,i64.wrap (x.2.2+1)))) (some (.inl ()))
def s6r:=lpW _ _ s6j
theorem p1r x:s6r x=s6j s6r x:=zW p08 368 f368 2 26 x
def p72(x:o1q):La:=(s6r (x.2,x.1,0)).bind fun|.inl o4=>some false|.inr z5=>some z5
theorem j3v:s72=p72:=zC 368 func368
def t7a(x:c0j):Ht o01:=zK 369 x
def t1v(g:d9y->Ht (d9y⊕Unit))(x:d9y):Ht (d9y⊕Unit):=((cond (decide (x.2.2.2.2.2.2<(x.2.2.1.length:Int))) (cond (y4v x.2.2.2.2.2.2 x.2.2.1.length) (cond (y3i (rdL u0h x.2.2.1 x.2.2.2.2.2.2.toNat).1 x.2.2.2.2.1.1) (some true) (cond (y4v x.2.2.2.2.2.2 x.2.2.1.length) (cond (z7q (rdL u0h x.2.2.1 x.2.2.2.2.2.2.toNat).1 x.2.2.2.2.1.1) (cond (y4v x.2.2.2.2.2.2 x.2.2.1.length) (some (decide ((rdL u0h x.2.2.1 x.2.2.2.2.2.2.toNat).2.2.2<=x.2.2.2.2.1.2.2.2))) none) (some false)) none)) none) (some false)):La).bind fun j1=>cond j1 (cond (y4v x.2.2.2.2.2.2 x.2.2.1.length) (cond (Nat.ble (x.2.2.2.2.2.1.length+([(rdL u0h x.2.2.1 x.2.2.2.2.2.2.toNat)]:Lf).length) z7z) (g (x.1,x.2.1,x.2.2.1,x.2.2.2.1,x.2.2.2.2.1,x.2.2.2.2.2.1++([(rdL u0h x.2.2.1 x.2.2.2.2.2.2.toNat)]:Lf),i64.wrap (x.2.2.2.2.2.2+1))) none) none) (some (.inl x))
def u8v:=lpW _ _ t1v
theorem s9n x:u8v x=t1v u8v x:=zW s9e 369 f369 8 93 x
def t1u(g:c4y->Ht d5f)(x:c4y):Ht d5f:=cond (decide (x.2.2.2<(x.1.length:Int))) (cond (y4v x.2.2.2 x.1.length) (cond (y4v x.2.2.2 x.1.length) (cond (y4v x.2.2.2 x.1.length) ((u8v (x.1,x.2.1,x.2.2.1,x.2.2.2,((rdL u12 x.1 x.2.2.2.toNat).1,(rdL u12 x.1 x.2.2.2.toNat).2.1,(rdL u12 x.1 x.2.2.2.toNat).2.2,x.2.1),([]:Lf),0)).bind fun|.inl o3=>cond (Nat.ble (o3.2.2.2.2.2.1.length+([o3.2.2.2.2.1]:Lf).length) z7z) (cond (decide (0<=o3.2.2.2.2.2.2)&&decide (o3.2.2.2.2.2.2<=(o3.2.2.1.length:Int))&&decide ((o3.2.2.1.length:Int)<=(o3.2.2.1.length:Int))) (cond (Nat.ble ((o3.2.2.2.2.2.1++([o3.2.2.2.2.1]:Lf)).length+((o3.2.2.1.take (o3.2.2.1.length:Int).toNat).drop o3.2.2.2.2.2.2.toNat).length) z7z) (g (o3.1,o3.2.1,(o3.2.2.2.2.2.1++([o3.2.2.2.2.1]:Lf))++((o3.2.2.1.take (o3.2.2.1.length:Int).toNat).drop o3.2.2.2.2.2.2.toNat),i64.wrap (o3.2.2.2.1+1))) none) none) none|.inr z4=>some (.inr ())) none) none) none) (some (.inl x.2.2.1))
def t1y:=lpW _ _ t1u
theorem s9m x:t1y x=t1u t1y x:=zW s9d 369 f369 3 93 x
def r3j(x:c0j):Ht o01:=cond (Nat.ble (([]:Lf).length+x.1.length) z7z) ((t1y (x.2.1,x.2.2,([]:Lf)++x.1,0)).bind fun|.inl o6=>some o6|.inr z7=>none) none
theorem p4i:t7a=r3j:=zC 369 func369
def u9h(x:Z63):Ht u9r:=zK 302 x
def t89(g:Z5->Ht (Z23⊕Unit))(x:Z5):Ht (Z23⊕Unit):=cond (decide (x.2.2.2.2.2<(x.1.2.2.1.length:Int))) (cond (y4v x.2.2.2.2.2 x.1.2.2.1.length) ((u05 (rdL u0a x.1.2.2.1 x.2.2.2.2.2.toNat)).bind fun y4=>cond (decide (y4.1=x.2.1.1)) (g (x.1,x.2.1,x.2.2.1,x.2.2.2.1,x.2.2.2.2.1,i64.wrap (x.2.2.2.2.2+1))) ((u39 (y4,x.2.2.2.2.1)).bind fun y5=>cond y5 (cond (Nat.ble (x.2.2.2.1.2.2.1.length+([(y4.1,y4.2.1,y4.2.2.1,y4.2.2.2.1,y4.2.2.2.2.1,y4.2.2.2.2.2.1,true,y4.2.2.2.2.2.2.2)]:Lc).length) z7z) (g (x.1,x.2.1,x.2.2.1,(x.2.2.2.1.1,x.2.2.2.1.2.1,x.2.2.2.1.2.2.1++([(y4.1,y4.2.1,y4.2.2.1,y4.2.2.2.1,y4.2.2.2.2.1,y4.2.2.2.2.2.1,true,y4.2.2.2.2.2.2.2)]:Lc),x.2.2.2.1.2.2.2),x.2.2.2.2.1,i64.wrap (x.2.2.2.2.2+1))) none) (cond (Nat.ble (x.2.2.2.1.2.2.1.length+([y4]:Lc).length) z7z) (g (x.1,x.2.1,x.2.2.1,(x.2.2.2.1.1,x.2.2.2.1.2.1,x.2.2.2.1.2.2.1++([y4]:Lc),x.2.2.2.1.2.2.2),x.2.2.2.2.1,i64.wrap (x.2.2.2.2.2+1))) none))) none) (some (.inl (x.2.1,x.2.2.1,x.2.2.2.1)))
def u9m:=lpW _ _ t89
theorem r81 x:u9m x=t89 u9m x:=zW r70 302 f302 12 85 x
def q9y(x:Z63):Ht u9r:=(u4h x.1).bind fun y1=>(u05 x.2).bind fun y2=>cond x.2.2.2.2.2.2.2.1 ((t7a (x.1.1,y2.2.2.2.2.2.1,i64.wrap (x.1.2.2.2.1+1))).bind fun y3=>cond (Nat.ble (y1.2.1.length+([(y2.1,3,y2.2.2.1,i64.wrap (x.1.2.2.2.1+1),y2.2.2.2.2.1,y2.2.2.2.2.2.1,true,(⟨#[]⟩:Hs))]:Lc).length) z7z) ((u9m (x.1,x.2,(([]:Lf),([]:Lc),([]:Lc),0,0),(y3,y1.2.1++([(y2.1,3,y2.2.2.1,i64.wrap (x.1.2.2.2.1+1),y2.2.2.2.2.1,y2.2.2.2.2.2.1,true,(⟨#[]⟩:Hs))]:Lc),([]:Lc),i64.wrap (x.1.2.2.2.1+1),y1.2.2.2.2),(y2.1,3,y2.2.2.1,i64.wrap (x.1.2.2.2.1+1),y2.2.2.2.2.1,y2.2.2.2.2.2.1,true,(⟨#[]⟩:Hs)),0)).bind fun|.inl o7=>cond (decide (o7.1.1>=o7.2.2.2.2.2.2)) (some (o7.2.2.1,o7.2.2.2.1,o7.2.2.2.2.1,o7.2.2.2.2.2.1,i64.wrap (o7.1.1+1))) (some o7.2.2)|.inr z8=>none) none) ((s72 (x.2,x.1.2.1)).bind fun y9=>(t7a (x.1.1,y2.2.2.2.2.2.1,i64.wrap (x.1.2.2.2.1+1))).bind fun y10=>cond (Nat.ble (y1.2.1.length+([(y2.1,3,y2.2.2.1,i64.wrap (x.1.2.2.2.1+1),y2.2.2.2.2.1,y2.2.2.2.2.2.1,y9,(⟨#[]⟩:Hs))]:Lc).length) z7z) ((u9m (x.1,x.2,(([]:Lf),([]:Lc),([]:Lc),0,0),(y10,y1.2.1++([(y2.1,3,y2.2.2.1,i64.wrap (x.1.2.2.2.1+1),y2.2.2.2.2.1,y2.2.2.2.2.2.1,y9,(⟨#[]⟩:Hs))]:Lc),([]:Lc),i64.wrap (x.1.2.2.2.1+1),y1.2.2.2.2),(y2.1,3,y2.2.2.1,i64.wrap (x.1.2.2.2.1+1),y2.2.2.2.2.1,y2.2.2.2.2.2.1,y9,(⟨#[]⟩:Hs)),0)).bind fun|.inl o14=>cond (decide (o14.1.1>=o14.2.2.2.2.2.2)) (some (o14.2.2.1,o14.2.2.2.1,o14.2.2.2.2.1,o14.2.2.2.2.2.1,i64.wrap (o14.1.1+1))) (some o14.2.2)|.inr z15=>none) none)
theorem o6p:u9h=q9y:=zC 302 func302
def u8r(x:Z59):Ht u9r:=zK 305 x
def t6n(g:Z3->Ht (Z4⊕Unit))(x:Z3):Ht (Z4⊕Unit):=cond (decide (x.2.2.2.2.2.2<(x.2.1.2.2.1.length:Int))) (cond (y4v x.2.2.2.2.2.2 x.2.1.2.2.1.length) (cond (y3i (rdL u0a x.2.1.2.2.1 x.2.2.2.2.2.2.toNat).2.2.2.2.2.2.2 x.1) (cond (y4v x.2.2.2.2.2.2 x.2.1.2.2.1.length) ((u05 (rdL u0a x.2.1.2.2.1 x.2.2.2.2.2.2.toNat)).bind fun y3=>cond (Nat.ble (x.2.2.2.2.1.2.2.1.length+([y3]:Lc).length) z7z) (g (x.1,x.2.1,x.2.2.1,x.2.2.2.1,(x.2.2.2.2.1.1,x.2.2.2.2.1.2.1,x.2.2.2.2.1.2.2.1++([y3]:Lc),x.2.2.2.2.1.2.2.2),x.2.2.2.2.2.1,i64.wrap (x.2.2.2.2.2.2+1))) none) none) (g (x.1,x.2.1,x.2.2.1,x.2.2.2.1,x.2.2.2.2.1,x.2.2.2.2.2.1,i64.wrap (x.2.2.2.2.2.2+1)))) none) (some (.inl (x.1,x.2.1,x.2.2.1,x.2.2.2.1,x.2.2.2.2.1,x.2.2.2.2.2.1)))
def u8a:=lpW _ _ t6n
theorem r44 x:u8a x=t6n u8a x:=zW r38 305 f305 8 97 x
def t3o(g:Z10->Ht (Z23⊕Unit))(x:Z10):Ht (Z23⊕Unit):=cond (decide (x.2.2.2.2.2<(x.2.1.2.2.1.length:Int))) (cond (y4v x.2.2.2.2.2 x.2.1.2.2.1.length) (cond (!y3i (rdL u0a x.2.1.2.2.1 x.2.2.2.2.2.toNat).2.2.2.2.2.2.2 x.1) (cond (y4v x.2.2.2.2.2 x.2.1.2.2.1.length) ((u05 (rdL u0a x.2.1.2.2.1 x.2.2.2.2.2.toNat)).bind fun y6=>cond (Nat.ble (x.2.2.2.2.1.2.2.1.length+([y6]:Lc).length) z7z) (g (x.1,x.2.1,x.2.2.1,x.2.2.2.1,(x.2.2.2.2.1.1,x.2.2.2.2.1.2.1,x.2.2.2.2.1.2.2.1++([y6]:Lc),x.2.2.2.2.1.2.2.2),i64.wrap (x.2.2.2.2.2+1))) none) none) (g (x.1,x.2.1,x.2.2.1,x.2.2.2.1,x.2.2.2.2.1,i64.wrap (x.2.2.2.2.2+1)))) none) (some (.inl (x.2.2.1,x.2.2.2.1,x.2.2.2.2.1)))
def u7g:=lpW _ _ t3o
theorem r2u x:u7g x=t3o u7g x:=zW r1b 305 f305 14 97 x
def q1i(x:Z59):Ht u9r:=(u4h x.1).bind fun y1=>(u05 x.2.1).bind fun y2=>cond x.2.1.2.2.2.2.2.2.1 ((u8a (x.2.2,x.1,x.2.1,(([]:Lf),([]:Lc),([]:Lc),0,0),(y1.1,y1.2.1,([]:Lc),y1.2.2.2),(y2.1,2,y2.2.2.1,y2.2.2.2.1,y2.2.2.2.2.1,y2.2.2.2.2.2.1,true,x.2.2),0)).bind fun|.inl o5=>cond (Nat.ble (o5.2.2.2.2.1.2.2.1.length+([o5.2.2.2.2.2]:Lc).length) z7z) ((u7g (o5.1,o5.2.1,o5.2.2.1,o5.2.2.2.1,(o5.2.2.2.2.1.1,o5.2.2.2.2.1.2.1,o5.2.2.2.2.1.2.2.1++([o5.2.2.2.2.2]:Lc),o5.2.2.2.2.1.2.2.2),0)).bind fun|.inl o8=>cond (decide (o8.1.1>=o8.2.2.2.2.2.2)) (some (o8.2.2.1,o8.2.2.2.1,o8.2.2.2.2.1,o8.2.2.2.2.2.1,i64.wrap (o8.1.1+1))) (some o8.2.2)|.inr z9=>none) none|.inr z10=>none) ((s72 (x.2.1,x.1.2.1)).bind fun y11=>(u8a (x.2.2,x.1,x.2.1,(([]:Lf),([]:Lc),([]:Lc),0,0),(y1.1,y1.2.1,([]:Lc),y1.2.2.2),(y2.1,2,y2.2.2.1,y2.2.2.2.1,y2.2.2.2.2.1,y2.2.2.2.2.2.1,y11,x.2.2),0)).bind fun|.inl o14=>cond (Nat.ble (o14.2.2.2.2.1.2.2.1.length+([o14.2.2.2.2.2]:Lc).length) z7z) ((u7g (o14.1,o14.2.1,o14.2.2.1,o14.2.2.2.1,(o14.2.2.2.2.1.1,o14.2.2.2.2.1.2.1,o14.2.2.2.2.1.2.2.1++([o14.2.2.2.2.2]:Lc),o14.2.2.2.2.1.2.2.2),0)).bind fun|.inl o17=>cond (decide (o17.1.1>=o17.2.2.2.2.2.2)) (some (o17.2.2.1,o17.2.2.2.1,o17.2.2.2.2.1,o17.2.2.2.2.2.1,i64.wrap (o17.1.1+1))) (some o17.2.2)|.inr z18=>none) none|.inr z19=>none)
theorem p99:u8r=q1i:=zC 305 func305
def s64(x:d2m):Ht u9r:=zK 307 x
def s1w(g:Z17->Ht (Z56⊕Unit))(x:Z17):Ht (Z56⊕Unit):=cond (decide (x.2.2.2.2<(x.2.1.2.2.1.length:Int))) (cond (y4v x.2.2.2.2 x.2.1.2.2.1.length) (cond (!z7q (rdL u0a x.2.1.2.2.1 x.2.2.2.2.toNat).2.2.2.2.2.2.2 x.1) (cond (y4v x.2.2.2.2 x.2.1.2.2.1.length) ((u05 (rdL u0a x.2.1.2.2.1 x.2.2.2.2.toNat)).bind fun y2=>cond (Nat.ble (x.2.2.2.1.2.2.1.length+([y2]:Lc).length) z7z) (g (x.1,x.2.1,x.2.2.1,(x.2.2.2.1.1,x.2.2.2.1.2.1,x.2.2.2.1.2.2.1++([y2]:Lc),x.2.2.2.1.2.2.2),i64.wrap (x.2.2.2.2+1))) none) none) (g (x.1,x.2.1,x.2.2.1,x.2.2.2.1,i64.wrap (x.2.2.2.2+1)))) none) (some (.inl (x.2.2.1,x.2.2.2.1)))
def t4x:=lpW _ _ s1w
theorem q3m x:t4x x=s1w t4x x:=zW q2j 307 f307 4 38 x
def q9o(x:d2m):Ht u9r:=(u4h x.1).bind fun y1=>(t4x (x.2,x.1,(([]:Lf),([]:Lc),([]:Lc),0,0),(y1.1,y1.2.1,([]:Lc),y1.2.2.2),0)).bind fun|.inl o4=>some o4.2|.inr z5=>none
theorem o6f:s64=q9o:=zC 307 func307
def r6c(x:Z21):Ht j7i:=zK 291 x
def p0e(x:Z21):Ht j7i:=cond (decide (x.2.1=1)) (cond (!decide (x.2.2.1.2.2.2.1=(i64.wrap (x.1.2.2.2.1+1)))) (some (x.1,false)) ((u9h (x.1,x.2.2.1)).bind fun y1=>some (y1,true))) (cond (decide (x.2.1=2)) (((cond (decide ((x.1.2.2.1.length:Int)>=(3:Int))) (some true) ((u2f (x.1,x.2.2.1.2.2.2.2.2.2.2)).bind fun y2=>some (decide (y2>=0)))):La).bind fun j3=>cond j3 (some (x.1,false)) ((u8r (x.1,x.2.2.1,x.2.2.1.2.2.2.2.2.2.2)).bind fun y4=>some (y4,true))) (cond (decide (x.2.1=3)) ((u2f (x.1,x.2.2.2.1)).bind fun y5=>cond (decide (y5<0)) (some (x.1,false)) (cond x.2.2.2.2.1 (cond (y4v y5 x.1.2.2.1.length) ((u9h (x.1,rdL u0a x.1.2.2.1 y5.toNat)).bind fun y6=>some (y6,true)) none) ((s64 (x.1,x.2.2.2.1)).bind fun y7=>some (y7,true)))) ((u4h x.2.2.2.2.2).bind fun y8=>some (y8,true))))
theorem o64:r6c=p0e:=zC 291 func291
def r2b(x:s88):Lj:=zK 361 x
def t83(g:d7p->Ht j8i)(x:d7p):Ht j8i:=cond (decide (x.2.2<(x.1.length:Int))) (cond (y4v x.2.2 x.1.length) (cond (decide ((rdL u0a x.1 x.2.2.toNat).2.2.1<x.2.1)) (cond (y4v x.2.2 x.1.length) (g (x.1,(rdL u0a x.1 x.2.2.toNat).2.2.1,i64.wrap (x.2.2+1))) none) (g (x.1,x.2.1,i64.wrap (x.2.2+1)))) none) (some (.inl x.2.1))
def t9r:=lpW _ _ t83
theorem r8v x:t9r x=t83 t9r x:=zW r7u 361 f361 3 28 x
def q5m(x:s88):Lj:=(t9r (x.2,x.1.2.2.2.1,0)).bind fun|.inl o2=>some o2|.inr z3=>none
theorem o3c:r2b=q5m:=zC 361 func361
def r59(x:d73):Ht o01:=zK 362 x
def s15(g:c4t->Ht c0z)(x:c4t):Ht c0z:=cond (decide (x.2.2.2<(x.1.length:Int))) (cond (y4v x.2.2.2 x.1.length) ((r4l (x.1,(rdL u0h x.1 x.2.2.2.toNat).1,x.2.1)).bind fun y1=>((cond (y4v x.2.2.2 x.1.length) (cond (decide ((rdL u0h x.1 x.2.2.2.toNat).2.2.2>x.2.1)) (some true) (some (decide (y1=x.2.2.2)))) none):La).bind fun j2=>cond j2 (cond (y4v x.2.2.2 x.1.length) (cond (Nat.ble (x.2.2.1.length+([(rdL u0h x.1 x.2.2.2.toNat)]:Lf).length) z7z) (g (x.1,x.2.1,x.2.2.1++([(rdL u0h x.1 x.2.2.2.toNat)]:Lf),i64.wrap (x.2.2.2+1))) none) none) (g (x.1,x.2.1,x.2.2.1,i64.wrap (x.2.2.2+1)))) none) (some (.inl (x.2.1,x.2.2.1)))
def t42:=lpW _ _ s15
theorem q3w x:t42 x=s15 t42 x:=zW q2u 362 f362 3 99 x
def t9b(g:c4o->Ht (c2k⊕Unit))(x:c4o):Ht (c2k⊕Unit):=cond (decide (x.2.2.2.2.2<(x.2.1.length:Int))) (cond (y4v x.2.2.2.2.2 x.2.1.length) (cond (y4v x.2.2.2.1 x.2.1.length) (cond (z7q (rdL u0h x.2.1 x.2.2.2.2.2.toNat).1 (rdL u0h x.2.1 x.2.2.2.1.toNat).1) (g (x.1,x.2.1,x.2.2.1,x.2.2.2.1,i64.wrap (x.2.2.2.2.1+1),i64.wrap (x.2.2.2.2.2+1))) (g (x.1,x.2.1,x.2.2.1,x.2.2.2.1,x.2.2.2.2.1,i64.wrap (x.2.2.2.2.2+1)))) none) none) (some (.inl (x.1,x.2.1,x.2.2.1,x.2.2.2.1,x.2.2.2.2.1)))
def t2d:=lpW _ _ t9b
theorem r83 x:t2d x=t9b t2d x:=zW r72 362 f362 14 99 x
def t9a(g:c4u->Ht d5f)(x:c4u):Ht d5f:=cond (decide (x.2.2.2<(x.2.1.length:Int))) ((t2d (x.1,x.2.1,x.2.2.1,x.2.2.2,0,0)).bind fun|.inl o6=>(((cond (y4v o6.2.2.2.1 o6.2.1.length) (cond (!(rdL u0h o6.2.1 o6.2.2.2.1.toNat).2.2.1) (some true) (cond (y4v o6.2.2.2.1 o6.2.1.length) (cond (decide ((rdL u0h o6.2.1 o6.2.2.2.1.toNat).2.2.2>o6.1)) (some true) (some (decide (o6.2.2.2.2>1)))) none)) none):La).bind fun j7=>cond j7 (cond (y4v o6.2.2.2.1 o6.2.1.length) (cond (Nat.ble (o6.2.2.1.length+([(rdL u0h o6.2.1 o6.2.2.2.1.toNat)]:Lf).length) z7z) (g (o6.1,o6.2.1,o6.2.2.1++([(rdL u0h o6.2.1 o6.2.2.2.1.toNat)]:Lf),i64.wrap (o6.2.2.2.1+1))) none) none) (g (o6.1,o6.2.1,o6.2.2.1,i64.wrap (o6.2.2.2.1+1))))|.inr z8=>some (.inr ())) (some (.inl x.2.2.1))
def t9u:=lpW _ _ t9a
theorem r82 x:t9u x=t9a t9u x:=zW r71 362 f362 10 99 x
def q90(x:d73):Ht o01:=(t42 (x.1,x.2,([]:Lf),0)).bind fun|.inl o4=>((t9u (o4.1,o4.2,([]:Lf),0)).bind fun|.inl o10=>some o10|.inr z11=>none)|.inr z12=>none
theorem o6r:r59=q90:=zC 362 func362
def t94(x:s88):Ht u9r:=zK 292 x
def s4a(g:Z18->Ht (Z20⊕Unit))(x:Z18):Ht (Z20⊕Unit):=cond (decide (x.2.2.2.2<(x.1.2.1.length:Int))) (cond (y4v x.2.2.2.2 x.1.2.1.length) (cond (decide ((rdL u0a x.1.2.1 x.2.2.2.2.toNat).2.2.2.1>x.2.2.2.1)) (cond (y4v x.2.2.2.2 x.1.2.1.length) ((u05 (rdL u0a x.1.2.1 x.2.2.2.2.toNat)).bind fun y3=>cond (Nat.ble (x.2.2.1.2.1.length+([y3]:Lc).length) z7z) (g (x.1,x.2.1,(x.2.2.1.1,x.2.2.1.2.1++([y3]:Lc),x.2.2.1.2.2),x.2.2.2.1,i64.wrap (x.2.2.2.2+1))) none) none) (g (x.1,x.2.1,x.2.2.1,x.2.2.2.1,i64.wrap (x.2.2.2.2+1)))) none) (some (.inl (x.1,x.2.1,x.2.2.1,x.2.2.2.1)))
def s4k:=lpW _ _ s4a
theorem q7w x:s4k x=s4a s4k x:=zW q6r 292 f292 5 47 x
def p3q(x:s88):Ht u9r:=(u4h x.1).bind fun y1=>(r2b x).bind fun y2=>(s4k (x.1,(([]:Lf),([]:Lc),([]:Lc),0,0),(y1.1,([]:Lc),y1.2.2),y2,0)).bind fun|.inl o5=>((r59 (o5.1.1,o5.2.2.2)).bind fun y6=>some (y6,o5.2.2.1.2))|.inr z7=>none
theorem j0u:t94=p3q:=zC 292 func292
def r99(x:Z21):Ht j7i:=zK 213 x
def p3l(x:Z21):Ht j7i:=(((t02 x.1).bind fun y1=>cond (!y1) (some true) ((s49 x.2).bind fun y2=>some (!y2))):La).bind fun j3=>cond j3 ((u4h x.1).bind fun y4=>some (y4,false)) ((r6c x).bind fun y5=>cond (!y5.2) ((u4h x.1).bind fun y6=>some (y6,false)) ((t94 (y5.1,([]:Lc))).bind fun y7=>(t02 y7).bind fun y8=>cond (!y8) ((u4h x.1).bind fun y9=>some (y9,false)) (some (y7,true))))
theorem j0p:r99=p3l:=zC 213 func213
def s04(x:u8l):Ht j7i:=zK 133 x
def s1z(g:Z48->Ht (Z56⊕j7i))(x:Z48):Ht (Z56⊕j7i):=cond (decide (x.2.2.2<(x.2.2.1.length:Int))) (cond (y4v x.2.2.2 x.2.2.1.length) ((s54 (rdL Ty.str x.2.2.1 x.2.2.2.toNat)).bind fun y3=>(r99 (x.2.1,y3.1)).bind fun y4=>((cond (!y3.2) (some true) (some (!y4.2))):La).bind fun j5=>cond j5 (some (.inr ((([]:Lf),([]:Lc),([]:Lc),0,0),false))) (g (x.1,y4.1,x.2.2.1,i64.wrap (x.2.2.2+1)))) none) (some (.inl (x.1,x.2.1)))
def u8j:=lpW _ _ s1z
theorem q3p x:u8j x=s1z u8j x:=zW q2m 133 f133 4 43 x
def q9r(x:u8l):Ht j7i:=(r52 ()).bind fun y1=>(t8a x).bind fun y2=>(u8j ((([]:Lf),([]:Lc),([]:Lc),0,0),y1,y2,0)).bind fun|.inl o7=>some (o7.2,true)|.inr z8=>some z8
theorem o6i:s04=q9r:=zC 133 func133
def t4a(x:u8l):La:=zK 214 x
def s37(g:o48->Ht d70)(x:o48):Ht d70:=cond (decide (x.2<(x.1.1.length:Int))) (cond (y4v x.2 x.1.1.length) (cond (!decide (((rdL Ty.str x.1.1 x.2.toNat).size:Int)=(64:Int))) (some (.inr false)) (g (x.1,i64.wrap (x.2+1)))) none) (some (.inl x.1))
def s4g:=lpW _ _ s37
theorem q7r x:s4g x=s37 s4g x:=zW q6m 214 f214 4 59 x
def s38(g:o48->Ht r0k)(x:o48):Ht r0k:=cond (decide (x.2<(x.1.2.length:Int))) (((cond (y4v x.2 x.1.2.length) ((u0q ((rdL s5n x.1.2 x.2.toNat).1,0,i64.wrap ((x.1.1.length:Int) - (1:Int)))).bind fun y5=>cond (!y5) (some true) (cond (y4v x.2 x.1.2.length) (some (!decide (((rdL s5n x.1.2 x.2.toNat).2.size:Int)=(64:Int)))) none)) none):La).bind fun j6=>cond j6 (some (.inr false)) (g (x.1,i64.wrap (x.2+1)))) (some (.inl ()))
def s4h:=lpW _ _ s38
theorem q7s x:s4h x=s38 s4h x:=zW q6n 214 f214 9 59 x
def p3g(x:u8l):La:=(((u0q ((x.1.length:Int),1,100)).bind fun y1=>cond (!y1) (some true) (some (decide ((x.2.length:Int)>(60:Int))))):La).bind fun j2=>cond j2 (some false) ((s4g (x,0)).bind fun|.inl o4=>((s4h (o4,0)).bind fun|.inl o8=>some true|.inr z9=>some z9)|.inr z10=>some z10)
theorem j0k:t4a=p3g:=zC 214 func214
def u9p(x:Unit):Lj:=zK 215 x
def p53(x:Unit):Lj:=some (97:Int)
theorem s5x:u9p=p53:=zC 215 func215
def s71(x:u8l):La:=zK 134 x
def p70(x:u8l):La:=(((t4a x).bind fun y1=>cond (!y1) (some true) ((u9p ()).bind fun y2=>cond (!decide ((x.1.length:Int)=y2)) (some true) (some (decide ((x.2.length:Int)>(0:Int)))))):La).bind fun j3=>cond j3 (some false) ((t2u (x,0)).bind fun y4=>(t2u (x,1)).bind fun y5=>((cond y4.2.2 (some y5.2.2) (some false)):La).bind fun j6=>some j6)
theorem j3t:s71=p70:=zC 134 func134
def u8q(x:u8l):Ht u8l:=zK 222 x
def t6m(g:d91->Ht d2r)(x:d91):Ht d2r:=cond (decide (x.2.2.2<(x.1.2.length:Int))) (cond (y4v x.2.2.2 x.1.2.length) (cond (y4v x.2.2.2 x.1.2.length) (cond (y4v (rdL s5n x.1.2 x.2.2.2.toNat).1 x.2.2.1.1.length) (g (x.1,x.2.1,(x.2.2.1.1.set ((rdL s5n x.1.2 x.2.2.2.toNat).1).toNat (rdL s5n x.1.2 x.2.2.2.toNat).2,x.2.2.1.2),i64.wrap (x.2.2.2+1))) none) none) none) (some (.inl (x.2.1,x.2.2.1)))
def t6y:=lpW _ _ t6m
theorem r43 x:t6y x=t6m t6y x:=zW r37 222 f222 5 36 x
def q1h(x:u8l):Ht u8l:=(u0x x).bind fun y1=>(t4a x).bind fun y2=>cond (!y2) (some y1) ((t6y (x,(([]:Lg),([]:Ll)),y1,0)).bind fun|.inl o4=>some (o4.2.1,([]:Ll))|.inr z5=>none)
theorem p98:u8q=q1h:=zC 222 func222
def t7b(x:j7j):Ht r6f:=zK 365 x
def r3l(x:j7j):Ht r6f:=(u0x x.1).bind fun y1=>(((t4a x.1).bind fun y2=>cond (!y2) (some true) ((u0q (x.2.1,0,i64.wrap ((x.1.1.length:Int) - (1:Int)))).bind fun y3=>cond (!y3) (some true) (cond (!decide ((x.2.2.size:Int)=(64:Int))) (some true) (some (decide ((x.1.2.length:Int)>=(60:Int))))))):La).bind fun j4=>cond j4 (some (y1,false)) (cond (Nat.ble (y1.2.length+([x.2]:Ll).length) z7z) (some ((y1.1,y1.2++([x.2]:Ll)),true)) none)
theorem p4k:t7b=r3l:=zC 365 func365
def t2v(x:c0d):Ht r6f:=zK 299 x
def s29(g:Z98->Ht d71)(x:Z98):Ht d71:=cond (decide (x.2.2.2.2.2.2<(x.2.2.1.size:Int))) (cond (decide ((i64.wrap ((64:Int) - (Int.tmod (i64.wrap (x.2.1+x.2.2.2.2.2.2)) (64:Int))))>(i64.wrap ((x.2.2.1.size:Int) - x.2.2.2.2.2.2)))) ((u9o (x.2.2.2.2.2.1,i64.wrap (x.1+(i64.wrap (Int.tdiv (i64.wrap (x.2.1+x.2.2.2.2.2.2)) (64:Int)))))).bind fun y6=>((cond (!y6.2) (some true) (some (!decide ((y6.1.size:Int)=(64:Int))))):La).bind fun j7=>cond j7 ((u0x x.2.2.2.1).bind fun y8=>some (.inr (y8,false))) (cond (decide (0<=(0:Int))&&decide ((0:Int)<=(Int.tmod (i64.wrap (x.2.1+x.2.2.2.2.2.2)) (64:Int)))&&decide ((Int.tmod (i64.wrap (x.2.1+x.2.2.2.2.2.2)) (64:Int))<=(y6.1.size:Int))) (cond (decide (0<=x.2.2.2.2.2.2)&&decide (x.2.2.2.2.2.2<=(i64.wrap (x.2.2.2.2.2.2+(i64.wrap ((x.2.2.1.size:Int) - x.2.2.2.2.2.2)))))&&decide ((i64.wrap (x.2.2.2.2.2.2+(i64.wrap ((x.2.2.1.size:Int) - x.2.2.2.2.2.2))))<=(x.2.2.1.size:Int))) (cond (decide ((y6.1.extract (0:Int).toNat (Int.tmod (i64.wrap (x.2.1+x.2.2.2.2.2.2)) (64:Int)).toNat).size+(x.2.2.1.extract x.2.2.2.2.2.2.toNat (i64.wrap (x.2.2.2.2.2.2+(i64.wrap ((x.2.2.1.size:Int) - x.2.2.2.2.2.2)))).toNat).size<=140737488355328)) (cond (decide (0<=(i64.wrap ((Int.tmod (i64.wrap (x.2.1+x.2.2.2.2.2.2)) (64:Int))+(i64.wrap ((x.2.2.1.size:Int) - x.2.2.2.2.2.2)))))&&decide ((i64.wrap ((Int.tmod (i64.wrap (x.2.1+x.2.2.2.2.2.2)) (64:Int))+(i64.wrap ((x.2.2.1.size:Int) - x.2.2.2.2.2.2))))<=(y6.1.size:Int))&&decide ((y6.1.size:Int)<=(y6.1.size:Int))) (cond (decide (((y6.1.extract (0:Int).toNat (Int.tmod (i64.wrap (x.2.1+x.2.2.2.2.2.2)) (64:Int)).toNat)++(x.2.2.1.extract x.2.2.2.2.2.2.toNat (i64.wrap (x.2.2.2.2.2.2+(i64.wrap ((x.2.2.1.size:Int) - x.2.2.2.2.2.2)))).toNat)).size+(y6.1.extract (i64.wrap ((Int.tmod (i64.wrap (x.2.1+x.2.2.2.2.2.2)) (64:Int))+(i64.wrap ((x.2.2.1.size:Int) - x.2.2.2.2.2.2)))).toNat (y6.1.size:Int).toNat).size<=140737488355328)) ((t7b (x.2.2.2.2.2.1,i64.wrap (x.1+(i64.wrap (Int.tdiv (i64.wrap (x.2.1+x.2.2.2.2.2.2)) (64:Int)))),((y6.1.extract (0:Int).toNat (Int.tmod (i64.wrap (x.2.1+x.2.2.2.2.2.2)) (64:Int)).toNat)++(x.2.2.1.extract x.2.2.2.2.2.2.toNat (i64.wrap (x.2.2.2.2.2.2+(i64.wrap ((x.2.2.1.size:Int) - x.2.2.2.2.2.2)))).toNat))++(y6.1.extract (i64.wrap ((Int.tmod (i64.wrap (x.2.1+x.2.2.2.2.2.2)) (64:Int))+(i64.wrap ((x.2.2.1.size:Int) - x.2.2.2.2.2.2)))).toNat (y6.1.size:Int).toNat))).bind fun y9=>cond (!y9.2) ((u0x x.2.2.2.1).bind fun y10=>some (.inr (y10,false))) (g (x.1,x.2.1,x.2.2.1,x.2.2.2.1,x.2.2.2.2.1,y9.1,i64.wrap (x.2.2.2.2.2.2+(i64.wrap ((x.2.2.1.size:Int) - x.2.2.2.2.2.2)))))) none) none) none) none) none)) ((u9o (x.2.2.2.2.2.1,i64.wrap (x.1+(i64.wrap (Int.tdiv (i64.wrap (x.2.1+x.2.2.2.2.2.2)) (64:Int)))))).bind fun y11=>((cond (!y11.2) (some true) (some (!decide ((y11.1.size:Int)=(64:Int))))):La).bind fun j12=>cond j12 ((u0x x.2.2.2.1).bind fun y13=>some (.inr (y13,false))) (cond (decide (0<=(0:Int))&&decide ((0:Int)<=(Int.tmod (i64.wrap (x.2.1+x.2.2.2.2.2.2)) (64:Int)))&&decide ((Int.tmod (i64.wrap (x.2.1+x.2.2.2.2.2.2)) (64:Int))<=(y11.1.size:Int))) (cond (decide (0<=x.2.2.2.2.2.2)&&decide (x.2.2.2.2.2.2<=(i64.wrap (x.2.2.2.2.2.2+(i64.wrap ((64:Int) - (Int.tmod (i64.wrap (x.2.1+x.2.2.2.2.2.2)) (64:Int)))))))&&decide ((i64.wrap (x.2.2.2.2.2.2+(i64.wrap ((64:Int) - (Int.tmod (i64.wrap (x.2.1+x.2.2.2.2.2.2)) (64:Int))))))<=(x.2.2.1.size:Int))) (cond (decide ((y11.1.extract (0:Int).toNat (Int.tmod (i64.wrap (x.2.1+x.2.2.2.2.2.2)) (64:Int)).toNat).size+(x.2.2.1.extract x.2.2.2.2.2.2.toNat (i64.wrap (x.2.2.2.2.2.2+(i64.wrap ((64:Int) - (Int.tmod (i64.wrap (x.2.1+x.2.2.2.2.2.2)) (64:Int)))))).toNat).size<=140737488355328)) (cond (decide (0<=(i64.wrap ((Int.tmod (i64.wrap (x.2.1+x.2.2.2.2.2.2)) (64:Int))+(i64.wrap ((64:Int) - (Int.tmod (i64.wrap (x.2.1+x.2.2.2.2.2.2)) (64:Int)))))))&&decide ((i64.wrap ((Int.tmod (i64.wrap (x.2.1+x.2.2.2.2.2.2)) (64:Int))+(i64.wrap ((64:Int) - (Int.tmod (i64.wrap (x.2.1+x.2.2.2.2.2.2)) (64:Int))))))<=(y11.1.size:Int))&&decide ((y11.1.size:Int)<=(y11.1.size:Int))) (cond (decide (((y11.1.extract (0:Int).toNat (Int.tmod (i64.wrap (x.2.1+x.2.2.2.2.2.2)) (64:Int)).toNat)++(x.2.2.1.extract x.2.2.2.2.2.2.toNat (i64.wrap (x.2.2.2.2.2.2+(i64.wrap ((64:Int) - (Int.tmod (i64.wrap (x.2.1+x.2.2.2.2.2.2)) (64:Int)))))).toNat)).size+(y11.1.extract (i64.wrap ((Int.tmod (i64.wrap (x.2.1+x.2.2.2.2.2.2)) (64:Int))+(i64.wrap ((64:Int) - (Int.tmod (i64.wrap (x.2.1+x.2.2.2.2.2.2)) (64:Int)))))).toNat (y11.1.size:Int).toNat).size<=140737488355328)) ((t7b (x.2.2.2.2.2.1,i64.wrap (x.1+(i64.wrap (Int.tdiv (i64.wrap (x.2.1+x.2.2.2.2.2.2)) (64:Int)))),((y11.1.extract (0:Int).toNat (Int.tmod (i64.wrap (x.2.1+x.2.2.2.2.2.2)) (64:Int)).toNat)++(x.2.2.1.extract x.2.2.2.2.2.2.toNat (i64.wrap (x.2.2.2.2.2.2+(i64.wrap ((64:Int) - (Int.tmod (i64.wrap (x.2.1+x.2.2.2.2.2.2)) (64:Int)))))).toNat))++(y11.1.extract (i64.wrap ((Int.tmod (i64.wrap (x.2.1+x.2.2.2.2.2.2)) (64:Int))+(i64.wrap ((64:Int) - (Int.tmod (i64.wrap (x.2.1+x.2.2.2.2.2.2)) (64:Int)))))).toNat (y11.1.size:Int).toNat))).bind fun y14=>cond (!y14.2) ((u0x x.2.2.2.1).bind fun y15=>some (.inr (y15,false))) (g (x.1,x.2.1,x.2.2.1,x.2.2.2.1,x.2.2.2.2.1,y14.1,i64.wrap (x.2.2.2.2.2.2+(i64.wrap ((64:Int) - (Int.tmod (i64.wrap (x.2.1+x.2.2.2.2.2.2)) (64:Int)))))))) none) none) none) none) none))) (some (.inl (x.2.2.2.2.1,x.2.2.2.2.2.1)))
def u7h:=lpW _ _ s29
theorem p2m x:u7h x=s29 u7h x:=zW r1f 299 f299 5 111 x
def r62(x:c0d):Ht r6f:=(u0x x.1).bind fun y1=>(((u0q (x.2.2.1,0,6400)).bind fun y2=>cond (!y2) (some true) ((u0q (x.2.1,0,i64.wrap ((x.1.1.length:Int) - (1:Int)))).bind fun y3=>cond (!y3) (some true) ((t4a x.1).bind fun y4=>some (!y4)))):La).bind fun j5=>cond j5 (some (y1,false)) ((u7h (x.2.1,x.2.2.1,x.2.2.2,x.1,(([]:Lg),([]:Ll)),y1,0)).bind fun|.inl o17=>some (o17.2,true)|.inr z18=>some z18)
theorem p6t:t2v=r62:=zC 299 func299
def s5e(x:Int):Ht Hs:=zK 300 x
def o9o(x:Int):Ht Hs:=some (y7s ([(u8.wrap x)]:Ld))
theorem p4l:s5e=o9o:=zC 300 func300
def t8b(x:d22):Ht r6f:=zK 221 x
def q51(x:d22):Ht r6f:=(t0k x.2.1).bind fun y1=>(s5e x.2.2).bind fun y2=>(t2v (x.1,y1,0,y2)).bind fun y3=>some y3
theorem o3q:t8b=q51:=zC 221 func221
def s5d(x:j7j):Ht r6f:=zK 219 x
def q50(x:j7j):Ht r6f:=(t2u (x.1,x.2.1)).bind fun y1=>((cond (!y1.2.2) (some true) (cond (z7q x.2.2 (⟨#[]⟩:Hs)) (some true) (cond (decide ((x.2.2.size:Int)>(3008:Int))) (some true) ((t5w (x.1,x.2.1)).bind fun y2=>some (decide (y2>=255)))))):La).bind fun j3=>cond j3 ((u0x x.1).bind fun y4=>some (y4,false)) ((u2c (x.2.2.size:Int)).bind fun y5=>cond (decide (y5.size+x.2.2.size<=140737488355328)) (cond (decide (((y5++x.2.2).size:Int)>(i64.wrap ((3008:Int) - y1.2.1)))) ((u0x x.1).bind fun y6=>some (y6,false)) ((t0k x.2.1).bind fun y7=>(t2v (x.1,i64.wrap (y7+1),y1.2.1,y5++x.2.2)).bind fun y8=>some y8)) none)
theorem o3p:s5d=q50:=zC 219 func219
def r0a(x:j7j):Ht r6f:=zK 358 x
def p3t(x:j7j):Ht r6f:=(s5d x).bind fun y1=>cond (!y1.2) (some (y1.1,false)) ((u8q y1.1).bind fun y2=>(t5w (x.1,x.2.1)).bind fun y3=>(t8b (y2,x.2.1,i64.wrap (y3+1))).bind fun y4=>(u8q y4.1).bind fun y5=>some (y5,y4.2))
theorem j0x:r0a=p3t:=zC 358 func358
def r6a(x:d4z):Ht r6f:=zK 284 x
def t4m(g:c30->Ht (c4h⊕Unit))(x:c30):Ht (c4h⊕Unit):=((cond (decide (x.2.2.2.2.2<(x.1.length:Int))) (some x.2.2.2.2.1) (some false)):La).bind fun j4=>cond j4 (cond (y4v x.2.2.2.2.2 x.1.length) ((r0a (x.2.2.2.1,x.2.2.1,rdL Ty.str x.1 x.2.2.2.2.2.toNat)).bind fun y5=>g (x.1,x.2.1,x.2.2.1,y5.1,y5.2,i64.wrap (x.2.2.2.2.2+1))) none) (some (.inl (x.2.1,x.2.2.2.1,x.2.2.2.2.1)))
def t44:=lpW _ _ t4m
theorem s8z x:t44 x=t4m t44 x:=zW q2x 284 f284 5 42 x
def q99(x:d4z):Ht r6f:=(t2t x.1).bind fun y1=>(t8b (x.1,i64.wrap ((1:Int) - y1),0)).bind fun y2=>(u8q y2.1).bind fun y3=>(t44 (x.2,(([]:Lg),([]:Ll)),i64.wrap ((1:Int) - y1),y3,y2.2,0)).bind fun|.inl o7=>some o7.2|.inr z8=>none
theorem o6z:r6a=q99:=zC 284 func284
def r6b(x:u8l):Ht r6f:=zK 285 x
def p0a(x:u8l):Ht r6f:=(s07 (x,0)).bind fun y1=>(s5e (i64.wrap (y1+1))).bind fun y2=>(t2v (x,0,0,y2)).bind fun y3=>some y3
theorem o60:r6b=p0a:=zC 285 func285
def s8v(x:d4z):Ht r6f:=zK 209 x
def q1o(x:d4z):Ht r6f:=(s71 x.1).bind fun y1=>cond (!y1) ((u0x x.1).bind fun y2=>some (y2,false)) ((r6a x).bind fun y3=>cond (!y3.2) ((u0x x.1).bind fun y4=>some (y4,false)) ((r6b y3.1).bind fun y5=>cond (!y5.2) ((u0x x.1).bind fun y6=>some (y6,false)) ((u8q y5.1).bind fun y7=>some (y7,true))))
theorem o0f:s8v=q1o:=zC 209 func209
def s5g(x:u8l):Ht r6f:=zK 132 x
def q54(x:u8l):Ht r6f:=(s04 x).bind fun y1=>(u45 (4,(0,0,0,0,([]:Li),([]:Lh),false,(⟨#[]⟩:Hs)),(⟨#[]⟩:Hs),false,y1.1)).bind fun y2=>((cond (!y1.2) (some true) (some (!y2.2))):La).bind fun j3=>cond j3 ((u0x x).bind fun y4=>some (y4,false)) ((s8v (x,([y2.1]:Lg))).bind fun y5=>some y5)
theorem o3t:s5g=q54:=zC 132 func132
def u9z(x:Z73):Ht Z66:=zK 72 x
def q5k(x:Z73):Ht Z66:=(s7e x).bind fun y1=>(s5g x.2).bind fun y2=>cond y2.2 (some ((y1.1,y2.1),y2.2)) (some (y1,y2.2))
theorem o3a:u9z=q5k:=zC 72 func72
def u8t(x:u8l):Ht Z66:=zK 73 x
def q1m(x:u8l):Ht Z66:=(s04 x).bind fun y1=>(((s71 x).bind fun y2=>cond (!y2) (some true) (some (!y1.2))):La).bind fun j3=>cond j3 (some ((((([]:Lf),([]:Lc),([]:Lc),0,0),([]:Lc)),([]:Lg),([]:Ll)),false)) ((u0x x).bind fun y4=>some (((y1.1,([]:Lc)),y4),true))
theorem o0d:u8t=q1m:=zC 73 func73
def s8t(x:j7j):Ht r6f:=zK 296 x
def q1j(x:j7j):Ht r6f:=(((s71 x.1).bind fun y1=>cond (!y1) (some true) ((u0q (x.2.1,0,1)).bind fun y2=>some (!y2))):La).bind fun j3=>cond j3 ((u0x x.1).bind fun y4=>some (y4,false)) ((r0a x).bind fun y5=>cond (!y5.2) ((u0x x.1).bind fun y6=>some (y6,false)) (some (y5.1,true)))
theorem o0a:s8t=q1j:=zC 296 func296
def t5q(x:c0i):Ht r6f:=zK 217 x
def q1c(x:c0i):Ht r6f:=(t2t x.1).bind fun y1=>(s8t (x.1,y1,x.2)).bind fun y2=>some y2
theorem p93:t5q=q1c:=zC 217 func217
def s2y(x:d8o):Ht u8l:=zK 220 x
def t6j(g:Z96->Ht (d9v⊕Unit))(x:Z96):Ht (d9v⊕Unit):=((cond (decide (x.2.2.2.2.2.2<(x.2.2.1.2.length:Int))) (some (decide (x.2.2.2.2.2.2<(x.1.length:Int)))) (some false)):La).bind fun j3=>cond j3 (cond (y4v x.2.2.2.2.2.2 x.1.length) (cond (!decide ((Int.tmod (rdL (Ty.int .i64) x.1 x.2.2.2.2.2.2.toNat) (2:Int))=0)) (g (x.1,x.2.1,x.2.2.1,x.2.2.2.1,x.2.2.2.2.1,x.2.2.2.2.2.2,i64.wrap (x.2.2.2.2.2.2+1))) (g (x.1,x.2.1,x.2.2.1,x.2.2.2.1,x.2.2.2.2.1,x.2.2.2.2.2.1,i64.wrap (x.2.2.2.2.2.2+1)))) none) (some (.inl (x.1,x.2.1,x.2.2.1,x.2.2.2.1,x.2.2.2.2.1,x.2.2.2.2.2.1)))
def u78:=lpW _ _ t6j
theorem r40 x:u78 x=t6j u78 x:=zW r33 220 f220 6 93 x
def t3n(g:Z97->Ht d2r)(x:Z97):Ht d2r:=cond (decide (x.2.2.2.2.2.2<=x.2.2.2.2.1)) (cond (y4v x.2.2.2.2.2.2 x.1.length) (cond (decide ((Int.tmod (rdL (Ty.int .i64) x.1 x.2.2.2.2.2.2.toNat) (2:Int))=0)) (g (x.1,x.2.1,x.2.2.1,x.2.2.2.1,x.2.2.2.2.1,x.2.2.2.2.2.1,i64.wrap (x.2.2.2.2.2.2+1))) (cond (y4v x.2.2.2.2.2.2 x.2.1.2.length) (cond (decide (x.2.2.2.2.2.2=x.2.2.2.2.1)) (cond (decide (0<=(0:Int))&&decide ((0:Int)<=x.2.2.2.2.2.1)&&decide (x.2.2.2.2.2.1<=((rdL s5n x.2.1.2 x.2.2.2.2.2.2.toNat).2.size:Int))) (cond (y4v (rdL s5n x.2.1.2 x.2.2.2.2.2.2.toNat).1 x.2.2.2.1.1.length) (cond (decide (0<=x.2.2.2.2.2.1)&&decide (x.2.2.2.2.2.1<=((rdL Ty.str x.2.2.2.1.1 ((rdL s5n x.2.1.2 x.2.2.2.2.2.2.toNat).1).toNat).size:Int))&&decide (((rdL Ty.str x.2.2.2.1.1 ((rdL s5n x.2.1.2 x.2.2.2.2.2.2.toNat).1).toNat).size:Int)<=((rdL Ty.str x.2.2.2.1.1 ((rdL s5n x.2.1.2 x.2.2.2.2.2.2.toNat).1).toNat).size:Int))) (cond (decide (((rdL s5n x.2.1.2 x.2.2.2.2.2.2.toNat).2.extract (0:Int).toNat x.2.2.2.2.2.1.toNat).size+((rdL Ty.str x.2.2.2.1.1 ((rdL s5n x.2.1.2 x.2.2.2.2.2.2.toNat).1).toNat).extract x.2.2.2.2.2.1.toNat ((rdL Ty.str x.2.2.2.1.1 ((rdL s5n x.2.1.2 x.2.2.2.2.2.2.toNat).1).toNat).size:Int).toNat).size<=140737488355328)) (cond (y4v (rdL s5n x.2.1.2 x.2.2.2.2.2.2.toNat).1 x.2.2.2.1.1.length) (g (x.1,x.2.1,x.2.2.1,(x.2.2.2.1.1.set ((rdL s5n x.2.1.2 x.2.2.2.2.2.2.toNat).1).toNat (((rdL s5n x.2.1.2 x.2.2.2.2.2.2.toNat).2.extract (0:Int).toNat x.2.2.2.2.2.1.toNat)++((rdL Ty.str x.2.2.2.1.1 ((rdL s5n x.2.1.2 x.2.2.2.2.2.2.toNat).1).toNat).extract x.2.2.2.2.2.1.toNat ((rdL Ty.str x.2.2.2.1.1 ((rdL s5n x.2.1.2 x.2.2.2.2.2.2.toNat).1).toNat).size:Int).toNat)),x.2.2.2.1.2),x.2.2.2.2.1,x.2.2.2.2.2.1,i64.wrap (x.2.2.2.2.2.2+1))) none) none) none) none) none) (cond (y4v (rdL s5n x.2.1.2 x.2.2.2.2.2.2.toNat).1 x.2.2.2.1.1.length) (g (x.1,x.2.1,x.2.2.1,(x.2.2.2.1.1.set ((rdL s5n x.2.1.2 x.2.2.2.2.2.2.toNat).1).toNat (rdL s5n x.2.1.2 x.2.2.2.2.2.2.toNat).2,x.2.2.2.1.2),x.2.2.2.2.1,x.2.2.2.2.2.1,i64.wrap (x.2.2.2.2.2.2+1))) none)) none)) none) (some (.inl (x.2.2.1,x.2.2.2.1)))
def u7f:=lpW _ _ t3n
theorem r2t x:u7f x=t3n u7f x:=zW r1a 220 f220 14 93 x
def q1e(x:d8o):Ht u8l:=(u0x x.1).bind fun y1=>(t4a x.1).bind fun y2=>cond (!y2) (some y1) ((u78 (x.2.1,x.2.2,x.1,(([]:Lg),([]:Ll)),y1,(- 1:Int),0)).bind fun|.inl o5=>cond (decide ((Int.tmod o5.2.1 (65:Int))<0)) ((u7f (o5.1,o5.2.2.1,o5.2.2.2.1,o5.2.2.2.2.1,o5.2.2.2.2.2,i64.wrap ((i64.wrap ((Int.tmod o5.2.1 (65:Int))+64))+1),0)).bind fun|.inl o7=>some (o7.2.1,([]:Ll))|.inr z8=>none) ((u7f (o5.1,o5.2.2.1,o5.2.2.2.1,o5.2.2.2.2.1,o5.2.2.2.2.2,Int.tmod o5.2.1 (65:Int),0)).bind fun|.inl o10=>some (o10.2.1,([]:Ll))|.inr z11=>none)|.inr z12=>none)
theorem p95:s2y=q1e:=zC 220 func220
def s8s(x:c0b):Ht u8l:=zK 135 x
def q1f(x:c0b):Ht u8l:=(t5q (x.1,x.2.1)).bind fun y1=>cond (!y1.2) ((u0x x.1).bind fun y2=>some y2) ((t2t x.1).bind fun y3=>(s5d (x.1,y3,x.2.1)).bind fun y4=>cond (decide (x.2.2.1=0)) ((s2y (y4.1,x.2.2.2)).bind fun y5=>some y5) (cond (decide (x.2.2.1=1)) ((u8q y4.1).bind fun y6=>(t5w (x.1,y3)).bind fun y7=>(t8b (y6,y3,i64.wrap (y7+1))).bind fun y8=>(s2y (y8.1,x.2.2.2)).bind fun y9=>some y9) (some y1.1)))
theorem p96:s8s=q1f:=zC 135 func135
def s8u(x:d21):La:=zK 136 x
def t6r(g:c0l->Ht r0k)(x:c0l):Ht r0k:=cond (decide (x.2.2<(x.1.length:Int))) (cond (y4v x.2.2 x.1.length) (cond (y4v x.2.2 x.2.1.length) (cond (!z7q (rdL Ty.str x.1 x.2.2.toNat) (rdL Ty.str x.2.1 x.2.2.toNat)) (some (.inr false)) (g (x.1,x.2.1,i64.wrap (x.2.2+1)))) none) none) (some (.inl ()))
def t60:=lpW _ _ t6r
theorem r48 x:t60 x=t6r t60 x:=zW r4c 136 f136 6 32 x
def q1n(x:d21):La:=(t8a x.1).bind fun y1=>(t8a x.2).bind fun y2=>cond (!decide ((y1.length:Int)=(y2.length:Int))) (some false) ((t60 (y1,y2,0)).bind fun|.inl o4=>some true|.inr z5=>some z5)
theorem o0e:s8u=q1n:=zC 136 func136
def t1f(x:c4a):Ht u8l:=zK 74 x
def p0k(x:c4a):Ht u8l:=(s8s (x.1,(⟨#[120]⟩:Hs),0,x.2.2.2.2.2,x.2.2.1)).bind fun y1=>(s8u (y1,x.1)).bind fun y2=>cond (!y2) ((u0x x.1).bind fun y3=>some y3) (some y1)
theorem o7a:t1f=p0k:=zC 74 func74
def u1m(x:Z94):Ht s88:=zK 226 x
def s4b(g:Z65->Ht (Z74⊕Unit))(x:Z65):Ht (Z74⊕Unit):=cond (decide (x.2.2.2<(x.1.2.length:Int))) (cond (y4v x.2.2.2 x.1.2.length) (cond (!decide ((rdL u0a x.1.2 x.2.2.2.toNat).1=x.2.1)) (cond (y4v x.2.2.2 x.1.2.length) (cond (Nat.ble (x.2.2.1.length+([(rdL u0a x.1.2 x.2.2.2.toNat)]:Lc).length) z7z) (g (x.1,x.2.1,x.2.2.1++([(rdL u0a x.1.2 x.2.2.2.toNat)]:Lc),i64.wrap (x.2.2.2+1))) none) none) (g (x.1,x.2.1,x.2.2.1,i64.wrap (x.2.2.2+1)))) none) (some (.inl (x.1,x.2.2.1)))
def t7t:=lpW _ _ s4b
theorem q7x x:t7t x=s4b t7t x:=zW q6u 226 f226 2 49 x
def p3x(x:Z94):Ht s88:=(t7t (x.1,x.2,([]:Lc),0)).bind fun|.inl o2=>((t94 (o2.1.1,o2.2)).bind fun y3=>some (y3,o2.2))|.inr z4=>none
theorem j01:u1m=p3x:=zC 226 func226
def t97(x:u9r):Ht p1v:=zK 304 x
def p3w(x:u9r):Ht p1v:=cond (Nat.ble (([]:Lc).length+x.2.1.length) z7z) (cond (Nat.ble ((([]:Lc)++x.2.1).length+x.2.2.1.length) z7z) (some ((([]:Lc)++x.2.1)++x.2.2.1)) none) none
theorem j00:t97=p3w:=zC 304 func304
def s7d(x:u9r):La:=zK 306 x
def p0h(x:u9r):La:=((cond (decide ((x.2.1.length:Int)>=(12:Int))) (some true) (cond (decide ((x.1.length:Int)>(100:Int))) (some true) (some (decide (x.2.2.2.1>=9999))))):La).bind fun j1=>some j1
theorem o67:s7d=p0h:=zC 306 func306
def r4j(x:d7s):La:=zK 389 x
def s6i(g:d40->Ht (d7r⊕Bool))(x:d40):Ht (d7r⊕Bool):=cond (decide (x.2.2.2<(x.2.1.length:Int))) (cond (y4v x.2.2.1 x.1.length) (cond (y4v x.2.2.2 x.2.1.length) (cond (z7q (rdL u12 x.1 x.2.2.1.toNat).1 (rdL u12 x.2.1 x.2.2.2.toNat).1) (some (.inr true)) (g (x.1,x.2.1,x.2.2.1,i64.wrap (x.2.2.2+1)))) none) none) (some (.inl (x.1,x.2.1,x.2.2.1)))
def s0r:=lpW _ _ s6i
theorem p1q x:s0r x=s6i s0r x:=zW p07 389 f389 5 30 x
def s6h(g:d7r->Ht r0k)(x:d7r):Ht r0k:=cond (decide (x.2.2<(x.1.length:Int))) ((s0r (x.1,x.2.1,x.2.2,0)).bind fun|.inl o2=>g (o2.1,o2.2.1,i64.wrap (o2.2.2+1))|.inr z3=>some (.inr z3)) (some (.inl ()))
def s6q:=lpW _ _ s6h
theorem p1p x:s6q x=s6h s6q x:=zW p06 389 f389 2 30 x
def p71(x:d7s):La:=(s6q (x.1,x.2,0)).bind fun|.inl o5=>some false|.inr z6=>some z6
theorem j3u:r4j=p71:=zC 389 func389
def r53(x:o1q):La:=zK 366 x
def s1t(g:d2l->Ht r0k)(x:d2l):Ht r0k:=cond (decide (x.2.2<(x.1.length:Int))) (cond (y4v x.2.2 x.1.length) (((cond (!decide ((rdL u0a x.1 x.2.2.toNat).1=x.2.1.1)) (cond (decide ((rdL u0a x.1 x.2.2.toNat).2.1=2)) ((r4j ((rdL u0a x.1 x.2.2.toNat).2.2.2.2.2.1,x.2.1.2.2.2.2.2.1)).bind fun y1=>some y1) (cond (decide ((rdL u0a x.1 x.2.2.toNat).2.1=3)) (cond (decide ((rdL u0a x.1 x.2.2.toNat).2.2.2.1>x.2.1.2.2.1)) ((r4j ((rdL u0a x.1 x.2.2.toNat).2.2.2.2.2.1,x.2.1.2.2.2.2.2.1)).bind fun y2=>some y2) (some false)) (some false))) (some false)):La).bind fun j3=>cond j3 (some (.inr true)) (g (x.1,x.2.1,i64.wrap (x.2.2+1)))) none) (some (.inl ()))
def t4w:=lpW _ _ s1t
theorem q3k x:t4w x=s1t t4w x:=zW q2f 366 f366 2 46 x
def q9l(x:o1q):La:=(t4w (x.2,x.1,0)).bind fun|.inl o5=>some false|.inr z6=>some z6
theorem o6c:r53=q9l:=zC 366 func366
def r98(x:o1q):La:=zK 371 x
def s9r(g:d2l->Ht r0k)(x:d2l):Ht r0k:=cond (decide (x.2.2<(x.1.length:Int))) (((cond (y4v x.2.2 x.1.length) (cond (decide ((rdL u0a x.1 x.2.2.toNat).2.1=2)) (cond (y4v x.2.2 x.1.length) ((u39 (rdL u0a x.1 x.2.2.toNat,x.2.1)).bind fun y1=>some y1) none) (cond (y4v x.2.2 x.1.length) (cond (decide ((rdL u0a x.1 x.2.2.toNat).2.1=3)) (cond (y4v x.2.2 x.1.length) ((u39 (rdL u0a x.1 x.2.2.toNat,x.2.1)).bind fun y2=>some y2) none) (some false)) none)) none):La).bind fun j3=>cond j3 (some (.inr true)) (g (x.1,x.2.1,i64.wrap (x.2.2+1)))) (some (.inl ()))
def s4i:=lpW _ _ s9r
theorem p5i x:s4i x=s9r s4i x:=zW p4s 371 f371 2 34 x
def o1p(x:o1q):La:=(s4i (x.2,x.1,0)).bind fun|.inl o5=>some false|.inr z6=>some z6
theorem j6h:r98=o1p:=zC 371 func371
def s94(x:o1q):La:=zK 367 x
def t4k(g:Z52->Ht (d2l⊕Bool))(x:Z52):Ht (d2l⊕Bool):=((cond (decide (x.2.2.2.2<(x.1.length:Int))) (cond (decide (x.2.2.2.1.2.1=2)) ((u39 (x.2.2.2.1,x.2.1)).bind fun y10=>some y10) (some false)) (some false)):La).bind fun j11=>cond j11 (cond (y4v x.2.2.2.2 x.1.length) (((cond (decide ((rdL u0a x.1 x.2.2.2.2.toNat).2.1=2)) (cond (!decide ((rdL u0a x.1 x.2.2.2.2.toNat).1=x.2.1.1)) ((u39 (rdL u0a x.1 x.2.2.2.2.toNat,x.2.2.2.1)).bind fun y12=>some y12) (some false)) (some false)):La).bind fun j13=>cond j13 (some (.inr true)) (g (x.1,x.2.1,x.2.2.1,x.2.2.2.1,i64.wrap (x.2.2.2.2+1)))) none) (some (.inl (x.1,x.2.1,x.2.2.1)))
def t0d:=lpW _ _ t4k
theorem s8y x:t0d x=t4k t0d x:=zW q2g 367 f367 12 92 x
def s36(g:d2l->Ht r0k)(x:d2l):Ht r0k:=cond (decide (x.2.2<(x.1.length:Int))) (cond (y4v x.2.2 x.1.length) (((cond (decide ((rdL u0a x.1 x.2.2.toNat).2.1=2)) (cond (rdL u0a x.1 x.2.2.toNat).2.2.2.2.2.2.1 ((u39 (x.2.1,rdL u0a x.1 x.2.2.toNat)).bind fun y4=>some y4) (some false)) (cond (decide ((rdL u0a x.1 x.2.2.toNat).2.1=3)) (cond (rdL u0a x.1 x.2.2.toNat).2.2.2.2.2.2.1 ((u39 (x.2.1,rdL u0a x.1 x.2.2.toNat)).bind fun y5=>some y5) (some false)) (some false))):La).bind fun j6=>cond j6 (some (.inr true)) (((cond (decide ((rdL u0a x.1 x.2.2.toNat).2.1=2)) ((u39 (rdL u0a x.1 x.2.2.toNat,x.2.1)).bind fun y7=>cond y7 ((u39 (x.2.1,rdL u0a x.1 x.2.2.toNat)).bind fun y8=>some y8) (some false)) (some false)):La).bind fun j9=>cond j9 (some (.inr true)) ((t0d (x.1,x.2.1,x.2.2,rdL u0a x.1 x.2.2.toNat,0)).bind fun|.inl o15=>g (o15.1,o15.2.1,i64.wrap (o15.2.2+1))|.inr z16=>some (.inr z16)))) none) (some (.inl ()))
def t7p:=lpW _ _ s36
theorem q7q x:t7p x=s36 t7p x:=zW q6l 367 f367 4 92 x
def p3f(x:o1q):La:=(((r98 x).bind fun y1=>cond y1 ((s72 x).bind fun y2=>some y2) (some false)):La).bind fun j3=>cond j3 (some true) ((t7p (x.2,x.1,0)).bind fun|.inl o18=>some false|.inr z19=>some z19)
theorem j0j:s94=p3f:=zC 367 func367
def r4i(x:Z94):Lj:=zK 301 x
def p7x(x:Z94):Lj:=(u7o x).bind fun y1=>cond (decide (y1<0)) (some (1:Int)) ((t97 x.1.1).bind fun y2=>cond (y4v y1 x.1.2.length) ((r53 (rdL u0a x.1.2 y1.toNat,y2)).bind fun y3=>cond y3 (some (4:Int)) (cond (y4v y1 x.1.2.length) ((s94 (rdL u0a x.1.2 y1.toNat,y2)).bind fun y4=>cond y4 (some (5:Int)) ((s7d x.1.1).bind fun y5=>cond y5 (some (3:Int)) (some (0:Int)))) none)) none)
theorem j3q:r4i=p7x:=zC 301 func301
def r95(x:Z94):Ht Z14:=zK 224 x
def p3e(x:Z94):Ht Z14:=(u0s x.1).bind fun y1=>(r4i x).bind fun y2=>cond (decide (y2=1)) (some (y1,(0,(0,0,0,0,([]:Li),([]:Lh),false,(⟨#[]⟩:Hs)),(⟨#[]⟩:Hs),false,([]:Lf),([]:Lc),([]:Lc),0,0),y2)) (cond (!decide (y2=0)) ((u1m (y1,x.2)).bind fun y3=>some (y3,(0,(0,0,0,0,([]:Li),([]:Lh),false,(⟨#[]⟩:Hs)),(⟨#[]⟩:Hs),false,([]:Lf),([]:Lc),([]:Lc),0,0),y2)) ((u7o x).bind fun y4=>cond (y4v y4 x.1.2.length) ((u9h (x.1.1,rdL u0a x.1.2 y4.toNat)).bind fun y5=>cond (y4v (i64.wrap ((y5.2.1.length:Int) - (1:Int))) y5.2.1.length) ((u05 (rdL u0a y5.2.1 (i64.wrap ((y5.2.1.length:Int) - (1:Int))).toNat)).bind fun y6=>(u1m ((y5,y1.2),x.2)).bind fun y7=>some (y7,(1,y6,(⟨#[]⟩:Hs),false,([]:Lf),([]:Lc),([]:Lc),0,0),0)) none) none))
theorem j0i:r95=p3e:=zC 224 func224
def s08(x:Z8):Ht Z40:=zK 225 x
def p0j(x:Z8):Ht Z40:=(u45 x.2).bind fun y1=>cond (!y1.2) (some (false,x.1)) ((t5q (x.1.1.2,y1.1)).bind fun y2=>cond (!y2.2) ((s5g x.1.1.2).bind fun y3=>cond (!y3.2) (some (false,x.1)) ((t5q (y3.1,y1.1)).bind fun y4=>cond y4.2 (some (y4.2,(x.1.1.1,y4.1),x.1.2)) (some (y4.2,x.1)))) (cond y2.2 (some (y2.2,(x.1.1.1,y2.1),x.1.2)) (some (y2.2,x.1))))
theorem o69:s08=p0j:=zC 225 func225
def s23(x:Z41):Ht Z42:=zK 138 x
def q1r(x:Z41):Ht Z42:=(r95 (x.1.1.1,x.2)).bind fun y1=>cond (decide (y1.2.2=0)) ((s08 (x.1,y1.2.1)).bind fun y2=>cond (!y2.1) ((u0s y2.2.1.1).bind fun y3=>(u1m (y3,x.2)).bind fun y4=>some (3,(y4,y2.2.1.2),y2.2.2)) (some (y1.2.2,(y1.1,y2.2.1.2),y2.2.2))) (some (y1.2.2,(y1.1,x.1.1.2),x.1.2))
theorem o0i:s23=q1r:=zC 138 func138
def u46(x:Z16):Ht Z43:=zK 139 x
def r66(x:Z16):Ht Z43:=cond (!decide (x.1.1.1.1.2.2.2.1=(i64.wrap (x.2.1+1)))) (some x.1) ((u05 x.2.2).bind fun y1=>cond (Nat.ble (([]:Lc).length+x.1.2.1.length) z7z) (cond (Nat.ble ((([]:Lc)++x.1.2.1).length+([(y1.1,3,y1.2.2.1,x.1.1.1.1.2.2.2.1,y1.2.2.2.2.1,y1.2.2.2.2.2.1,y1.2.2.2.2.2.2.1,(⟨#[]⟩:Hs))]:Lc).length) z7z) (some (x.1.1,(([]:Lc)++x.1.2.1)++([(y1.1,3,y1.2.2.1,x.1.1.1.1.2.2.2.1,y1.2.2.2.2.1,y1.2.2.2.2.2.1,y1.2.2.2.2.2.2.1,(⟨#[]⟩:Hs))]:Lc),x.1.2.2)) none) none)
theorem p6x:u46=r66:=zC 139 func139
def q60(x:Z94):Ht Z94:=zK 140 x
def p7z(x:Z94):Ht Z94:=(u0s x.1).bind fun y1=>(u7o x).bind fun y2=>cond (decide (y2<0)) (some (y1,1)) ((u1m (y1,x.2)).bind fun y3=>some (y3,0))
theorem j3s:q60=p7z:=zC 140 func140
def s48(x:o1q):La:=zK 303 x
def t0p(g:Z50->Ht (d9w⊕Bool))(x:Z50):Ht (d9w⊕Bool):=cond (decide (x.2.2.2.2.2<(x.1.length:Int))) (((cond (y4v x.2.2.2.2.2 x.1.length) (cond (decide ((rdL u0a x.1 x.2.2.2.2.2.toNat).2.1=2)) (cond (y4v x.2.2.2.2.2 x.1.length) (cond (!decide ((rdL u0a x.1 x.2.2.2.2.2.toNat).1=x.2.1.1)) (cond (y4v x.2.2.2.2.2 x.1.length) ((u39 (x.2.2.2.2.1,rdL u0a x.1 x.2.2.2.2.2.toNat)).bind fun y5=>some y5) none) (some false)) none) (some false)) none):La).bind fun j6=>cond j6 (some (.inr true)) (g (x.1,x.2.1,x.2.2.1,x.2.2.2.1,x.2.2.2.2.1,i64.wrap (x.2.2.2.2.2+1)))) (some (.inl (x.1,x.2.1,x.2.2.1,x.2.2.2.1)))
def u7q:=lpW _ _ t0p
theorem s8b x:u7q x=t0p u7q x:=zW s7s 303 f303 12 65 x
def t1w(g:d9w->Ht r0k)(x:d9w):Ht r0k:=cond (decide (x.2.2.2<(x.1.length:Int))) (cond (y4v x.2.2.2 x.1.length) (((cond (!decide ((rdL u0a x.1 x.2.2.2.toNat).2.1=2)) (some true) ((u39 (x.2.1,rdL u0a x.1 x.2.2.2.toNat)).bind fun y3=>some (!y3))):La).bind fun j4=>cond j4 (g (x.1,x.2.1,x.2.2.1,i64.wrap (x.2.2.2+1))) (cond x.2.2.1 (some (.inr true)) ((u7q (x.1,x.2.1,x.2.2.1,x.2.2.2,rdL u0a x.1 x.2.2.2.toNat,0)).bind fun|.inl o8=>g (o8.1,o8.2.1,o8.2.2.1,i64.wrap (o8.2.2.2+1))|.inr z9=>some (.inr z9)))) none) (some (.inl ()))
def u8w:=lpW _ _ t1w
theorem s9o x:u8w x=t1w u8w x:=zW s9f 303 f303 5 65 x
def r3k(x:o1q):La:=(s94 x).bind fun y1=>cond y1 (some true) ((r98 x).bind fun y2=>(u8w (x.2,x.1,y2,0)).bind fun|.inl o11=>some false|.inr z12=>some z12)
theorem p4j:s48=r3k:=zC 303 func303
def r56(x:Z81):Ht Z14:=zK 227 x
def q9s(x:Z81):Ht Z14:=(u0s x.1).bind fun y1=>(u7o (x.1,x.2.1)).bind fun y2=>cond (decide (y2<0)) (some (y1,(0,(0,0,0,0,([]:Li),([]:Lh),false,(⟨#[]⟩:Hs)),(⟨#[]⟩:Hs),false,([]:Lf),([]:Lc),([]:Lc),0,0),1)) ((u9g x.2.2).bind fun y3=>cond (!y3) (some (y1,(0,(0,0,0,0,([]:Li),([]:Lh),false,(⟨#[]⟩:Hs)),(⟨#[]⟩:Hs),false,([]:Lf),([]:Lc),([]:Lc),0,0),2)) ((u2f (x.1.1,x.2.2)).bind fun y4=>cond (decide (y4>=0)) (some (y1,(0,(0,0,0,0,([]:Li),([]:Lh),false,(⟨#[]⟩:Hs)),(⟨#[]⟩:Hs),false,([]:Lf),([]:Lc),([]:Lc),0,0),6)) ((r4i (x.1,x.2.1)).bind fun y5=>((cond (decide (y5=0)) (cond (y4v y2 x.1.2.length) ((t97 x.1.1).bind fun y6=>(s48 (rdL u0a x.1.2 y2.toNat,y6)).bind fun y7=>some y7) none) (some false)):La).bind fun j8=>cond j8 (((cond (decide ((5:Int)=(0:Int))) (some (decide ((x.1.1.2.2.1.length:Int)>=(3:Int)))) (some false)):La).bind fun j9=>cond j9 (cond (!decide ((3:Int)=(0:Int))) ((u1m (y1,x.2.1)).bind fun y10=>some (y10,(0,(0,0,0,0,([]:Li),([]:Lh),false,(⟨#[]⟩:Hs)),(⟨#[]⟩:Hs),false,([]:Lf),([]:Lc),([]:Lc),0,0),3)) (cond (y4v y2 x.1.2.length) ((u8r (x.1.1,rdL u0a x.1.2 y2.toNat,x.2.2)).bind fun y11=>(u2f (y11,x.2.2)).bind fun y12=>cond (y4v y12 y11.2.2.1.length) ((u05 (rdL u0a y11.2.2.1 y12.toNat)).bind fun y13=>(u1m ((y11,y1.2),x.2.1)).bind fun y14=>some (y14,(2,y13,(⟨#[]⟩:Hs),false,([]:Lf),([]:Lc),([]:Lc),0,0),0)) none) none)) (cond (!decide ((5:Int)=(0:Int))) ((u1m (y1,x.2.1)).bind fun y15=>some (y15,(0,(0,0,0,0,([]:Li),([]:Lh),false,(⟨#[]⟩:Hs)),(⟨#[]⟩:Hs),false,([]:Lf),([]:Lc),([]:Lc),0,0),5)) (cond (y4v y2 x.1.2.length) ((u8r (x.1.1,rdL u0a x.1.2 y2.toNat,x.2.2)).bind fun y16=>(u2f (y16,x.2.2)).bind fun y17=>cond (y4v y17 y16.2.2.1.length) ((u05 (rdL u0a y16.2.2.1 y17.toNat)).bind fun y18=>(u1m ((y16,y1.2),x.2.1)).bind fun y19=>some (y19,(2,y18,(⟨#[]⟩:Hs),false,([]:Lf),([]:Lc),([]:Lc),0,0),0)) none) none))) (((cond (decide (y5=0)) (some (decide ((x.1.1.2.2.1.length:Int)>=(3:Int)))) (some false)):La).bind fun j20=>cond j20 (cond (!decide ((3:Int)=(0:Int))) ((u1m (y1,x.2.1)).bind fun y21=>some (y21,(0,(0,0,0,0,([]:Li),([]:Lh),false,(⟨#[]⟩:Hs)),(⟨#[]⟩:Hs),false,([]:Lf),([]:Lc),([]:Lc),0,0),3)) (cond (y4v y2 x.1.2.length) ((u8r (x.1.1,rdL u0a x.1.2 y2.toNat,x.2.2)).bind fun y22=>(u2f (y22,x.2.2)).bind fun y23=>cond (y4v y23 y22.2.2.1.length) ((u05 (rdL u0a y22.2.2.1 y23.toNat)).bind fun y24=>(u1m ((y22,y1.2),x.2.1)).bind fun y25=>some (y25,(2,y24,(⟨#[]⟩:Hs),false,([]:Lf),([]:Lc),([]:Lc),0,0),0)) none) none)) (cond (!decide (y5=0)) ((u1m (y1,x.2.1)).bind fun y26=>some (y26,(0,(0,0,0,0,([]:Li),([]:Lh),false,(⟨#[]⟩:Hs)),(⟨#[]⟩:Hs),false,([]:Lf),([]:Lc),([]:Lc),0,0),y5)) (cond (y4v y2 x.1.2.length) ((u8r (x.1.1,rdL u0a x.1.2 y2.toNat,x.2.2)).bind fun y27=>(u2f (y27,x.2.2)).bind fun y28=>cond (y4v y28 y27.2.2.1.length) ((u05 (rdL u0a y27.2.2.1 y28.toNat)).bind fun y29=>(u1m ((y27,y1.2),x.2.1)).bind fun y30=>some (y30,(2,y29,(⟨#[]⟩:Hs),false,([]:Lf),([]:Lc),([]:Lc),0,0),0)) none) none))))))
theorem o6j:r56=q9s:=zC 227 func227
def s57(x:Z35):Ht Z42:=zK 141 x
def r65(x:Z35):Ht Z42:=(r56 (x.1.1.1,x.2)).bind fun y1=>cond (decide (y1.2.2=0)) ((s08 (x.1,y1.2.1)).bind fun y2=>cond (!y2.1) ((u0s y2.2.1.1).bind fun y3=>(u1m (y3,x.2.1)).bind fun y4=>some (3,(y4,y2.2.1.2),y2.2.2)) (some (y1.2.2,(y1.1,y2.2.1.2),y2.2.2))) (some (y1.2.2,(y1.1,x.1.1.2),x.1.2))
theorem p6w:s57=r65:=zC 141 func141
def r96(x:Z80):Ht Z14:=zK 228 x
def p3h(x:Z80):Ht Z14:=(u0s x.1).bind fun y1=>(u2f (x.1.1,x.2.1)).bind fun y2=>cond (decide (y2<0)) (some (y1,(0,(0,0,0,0,([]:Li),([]:Lh),false,(⟨#[]⟩:Hs)),(⟨#[]⟩:Hs),false,([]:Lf),([]:Lc),([]:Lc),0,0),1)) (((cond x.2.2 ((s7d x.1.1).bind fun y3=>some y3) (some false)):La).bind fun j4=>cond j4 (some (y1,(0,(0,0,0,0,([]:Li),([]:Lh),false,(⟨#[]⟩:Hs)),(⟨#[]⟩:Hs),false,([]:Lf),([]:Lc),([]:Lc),0,0),3)) (cond x.2.2 (cond (y4v y2 x.1.1.2.2.1.length) ((u9h (x.1.1,rdL u0a x.1.1.2.2.1 y2.toNat)).bind fun y5=>(t94 (y5,y1.2)).bind fun y6=>some ((y6,y1.2),(3,(0,0,0,0,([]:Li),([]:Lh),false,(⟨#[]⟩:Hs)),x.2.1,x.2.2,([]:Lf),([]:Lc),([]:Lc),0,0),0)) none) ((s64 (x.1.1,x.2.1)).bind fun y7=>(t94 (y7,y1.2)).bind fun y8=>some ((y8,y1.2),(3,(0,0,0,0,([]:Li),([]:Lh),false,(⟨#[]⟩:Hs)),x.2.1,x.2.2,([]:Lf),([]:Lc),([]:Lc),0,0),0))))
theorem j0l:r96=p3h:=zC 228 func228
def t0l(x:Z32):Ht Z42:=zK 143 x
def q1s(x:Z32):Ht Z42:=(r96 (x.1.1.1,x.2)).bind fun y1=>cond (decide (y1.2.2=0)) ((s08 (x.1,y1.2.1)).bind fun y2=>cond (!y2.1) (some (3,y2.2)) (some (y1.2.2,(y1.1,y2.2.1.2),y2.2.2))) (some (y1.2.2,(y1.1,x.1.1.2),x.1.2))
theorem o0j:t0l=q1s:=zC 143 func143
def t4c(x:Z24):Ht Z42:=zK 75 x
def p3y(x:Z24):Ht Z42:=cond (decide (x.2.1=6)) ((u7o (x.1.1.1,x.2.2.1)).bind fun y1=>cond (decide (y1>=0)) (cond (y4v y1 x.1.1.1.2.length) ((s23 (x.1,x.2.2.1)).bind fun y2=>(u46 (y2.2,x.1.1.1.1.2.2.2.1,rdL u0a x.1.1.1.2 y1.toNat)).bind fun y3=>some (y2.1,y3)) none) ((s23 (x.1,x.2.2.1)).bind fun y4=>(u46 (y4.2,x.1.1.1.1.2.2.2.1,0,0,0,0,([]:Li),([]:Lh),false,(⟨#[]⟩:Hs))).bind fun y5=>some (y4.1,y5))) (cond (decide (x.2.1=7)) ((q60 (x.1.1.1,x.2.2.1)).bind fun y6=>some (y6.2,(y6.1,x.1.1.2),x.1.2)) (cond (decide (x.2.1=8)) ((s57 (x.1,x.2.2.1,x.2.2.2.1)).bind fun y7=>some y7) ((u2f (x.1.1.1.1,x.2.2.2.1)).bind fun y8=>cond (decide (y8>=0)) (cond (y4v y8 x.1.1.1.1.2.2.1.length) ((t0l (x.1,x.2.2.2.1,decide (x.2.1=9))).bind fun y9=>(u46 (y9.2,x.1.1.1.1.2.2.2.1,rdL u0a x.1.1.1.1.2.2.1 y8.toNat)).bind fun y10=>some (y9.1,y10)) none) ((t0l (x.1,x.2.2.2.1,decide (x.2.1=9))).bind fun y11=>(u46 (y11.2,x.1.1.1.1.2.2.2.1,0,0,0,0,([]:Li),([]:Lh),false,(⟨#[]⟩:Hs))).bind fun y12=>some (y11.1,y12)))))
theorem j02:t4c=p3y:=zC 75 func75
def s73(x:Z24):Ht Z34:=zK 35 x
def p75(x:Z24):Ht Z34:=cond (decide (x.2.1=1)) (cond (decide (x.2.1=1)) ((t1g x).bind fun y1=>some y1) (cond (decide (x.2.1=11)) ((u9z x.1.1).bind fun y2=>cond (!y2.2) (some (3,(⟨#[]⟩:Hs),y2.1,x.1.2)) (some (0,(⟨#[]⟩:Hs),y2.1,x.1.2))) (cond (decide (x.2.1=12)) ((t1f (x.1.1.2,x.2)).bind fun y3=>(u8t y3).bind fun y4=>cond (!y4.2) (some (1,(⟨#[]⟩:Hs),x.1)) (some (0,(⟨#[]⟩:Hs),y4.1,x.1.2))) ((t4c x).bind fun y5=>some (y5.1,(⟨#[]⟩:Hs),y5.2))))) (cond (decide (x.2.1=2)) (cond (decide (x.2.1=2)) ((t1g x).bind fun y6=>some y6) (cond (decide (x.2.1=11)) ((u9z x.1.1).bind fun y7=>cond (!y7.2) (some (3,(⟨#[]⟩:Hs),y7.1,x.1.2)) (some (0,(⟨#[]⟩:Hs),y7.1,x.1.2))) (cond (decide (x.2.1=12)) ((t1f (x.1.1.2,x.2)).bind fun y8=>(u8t y8).bind fun y9=>cond (!y9.2) (some (1,(⟨#[]⟩:Hs),x.1)) (some (0,(⟨#[]⟩:Hs),y9.1,x.1.2))) ((t4c x).bind fun y10=>some (y10.1,(⟨#[]⟩:Hs),y10.2))))) (cond (decide (x.2.1=3)) (cond (decide (x.2.1=3)) ((t1g x).bind fun y11=>some y11) (cond (decide (x.2.1=11)) ((u9z x.1.1).bind fun y12=>cond (!y12.2) (some (3,(⟨#[]⟩:Hs),y12.1,x.1.2)) (some (0,(⟨#[]⟩:Hs),y12.1,x.1.2))) (cond (decide (x.2.1=12)) ((t1f (x.1.1.2,x.2)).bind fun y13=>(u8t y13).bind fun y14=>cond (!y14.2) (some (1,(⟨#[]⟩:Hs),x.1)) (some (0,(⟨#[]⟩:Hs),y14.1,x.1.2))) ((t4c x).bind fun y15=>some (y15.1,(⟨#[]⟩:Hs),y15.2))))) (cond (decide (x.2.1=4)) (cond (decide (x.2.1=4)) ((t1g x).bind fun y16=>some y16) (cond (decide (x.2.1=11)) ((u9z x.1.1).bind fun y17=>cond (!y17.2) (some (3,(⟨#[]⟩:Hs),y17.1,x.1.2)) (some (0,(⟨#[]⟩:Hs),y17.1,x.1.2))) (cond (decide (x.2.1=12)) ((t1f (x.1.1.2,x.2)).bind fun y18=>(u8t y18).bind fun y19=>cond (!y19.2) (some (1,(⟨#[]⟩:Hs),x.1)) (some (0,(⟨#[]⟩:Hs),y19.1,x.1.2))) ((t4c x).bind fun y20=>some (y20.1,(⟨#[]⟩:Hs),y20.2))))) (cond (decide (x.2.1=5)) ((t1g x).bind fun y21=>some y21) (cond (decide (x.2.1=11)) ((u9z x.1.1).bind fun y22=>cond (!y22.2) (some (3,(⟨#[]⟩:Hs),y22.1,x.1.2)) (some (0,(⟨#[]⟩:Hs),y22.1,x.1.2))) (cond (decide (x.2.1=12)) ((t1f (x.1.1.2,x.2)).bind fun y23=>(u8t y23).bind fun y24=>cond (!y24.2) (some (1,(⟨#[]⟩:Hs),x.1)) (some (0,(⟨#[]⟩:Hs),y24.1,x.1.2))) ((t4c x).bind fun y25=>some (y25.1,(⟨#[]⟩:Hs),y25.2))))))))
theorem j3y:s73=p75:=zC 35 func35
def q23(x:Unit):Ht s88:=zK 148 x
def q1g(x:Unit):Ht s88:=(r52 ()).bind fun y1=>some (y1,([]:Lc))
theorem p97:q23=q1g:=zC 148 func148
def p1e(x:d63):Ht Hs:=zK 42 x
def s17(g:(Int×(Int×d74))->Ht d5g)(x:(Int×(Int×d74))):Ht d5g:=cond (decide (x.2.2.2<x.1)) (cond (y4v x.2.2.2 x.2.2.1.length) (g (x.1,x.2.1,x.2.2.1.set x.2.2.2.toNat x.2.1,i64.wrap (x.2.2.2+1))) none) (some (.inl x.2.2.1))
def u8k:=lpW _ _ s17
theorem s25 x:u8k x=s17 u8k x:=zW q2w 42 f42 3 20 x
def r5h(x:d63):Ht Hs:=cond (decide (0<=x.1)&&decide (x.1<=1099511627776)) ((u8k (x.1,x.2,List.replicate x.1.toNat (Ty.int .u8).zero,0)).bind fun|.inl o2=>some (y7s o2)|.inr z3=>none) none
theorem p0u:p1e=r5h:=zC 42 func42
def s7a(x:Unit):Ht Hs:=zK 311 x
def r5i(x:Unit):Ht Hs:=(p1e (64,0)).bind fun y1=>some y1
theorem p0w:s7a=r5i:=zC 311 func311
def p1d(x:Int):Ht r6f:=zK 231 x
def s1v(g:c4c->Ht d2r)(x:c4c):Ht d2r:=cond (decide (x.2.2.2<x.1)) ((s7a ()).bind fun y2=>cond (Nat.ble (x.2.2.1.1.length+([y2]:Lg).length) z7z) (g (x.1,x.2.1,(x.2.2.1.1++([y2]:Lg),x.2.2.1.2),i64.wrap (x.2.2.2+1))) none) (some (.inl (x.2.1,x.2.2.1)))
def u8i:=lpW _ _ s1v
theorem s24 x:u8i x=s1v u8i x:=zW q2i 231 f231 5 23 x
def r5f(x:Int):Ht r6f:=(u0q (x,1,100)).bind fun y1=>cond (!y1) (some ((([]:Lg),([]:Ll)),false)) ((u8i (x,(([]:Lg),([]:Ll)),(([]:Lg),([]:Ll)),0)).bind fun|.inl o4=>some (o4.2,true)|.inr z5=>none)
theorem p0s:p1d=r5f:=zC 231 func231
def s95(x:Unit):Ht u8l:=zK 149 x
def r9k(x:Unit):Ht u8l:=(u9p ()).bind fun y1=>(p1d y1).bind fun y2=>some y2.1
theorem p4h:s95=r9k:=zC 149 func149
def q61(x:Unit):Ht Z73:=zK 82 x
def q5t(x:Unit):Ht Z73:=(q23 ()).bind fun y1=>(s95 ()).bind fun y2=>some (y1,y2)
theorem o3j:q61=q5t:=zC 82 func82
def r2g(x:Unit):Ht Z43:=zK 41 x
def q5w(x:Unit):Ht Z43:=(q61 ()).bind fun y1=>some (y1,([]:Lc),([]:Ld),([]:Lg))
theorem o3l:r2g=q5w:=zC 41 func41
def s5a(x:d7w):Ht Z39:=zK 18 x
def t88(g:Z27->Ht (Z30⊕Unit))(x:Z27):Ht (Z30⊕Unit):=((cond (decide (x.2.2.2<(x.1.length:Int))) (some x.2.2.1) (some false)):La).bind fun j1=>cond j1 (cond (y4v x.2.2.2 x.1.length) ((s03 (rdL t08 x.1 x.2.2.2.toNat)).bind fun y2=>g (x.1,x.2.1,y2,i64.wrap (x.2.2.2+1))) none) (some (.inl (x.1,x.2.1,x.2.2.1)))
def t2c:=lpW _ _ t88
theorem r80 x:t2c x=t88 t2c x:=zW r7z 18 f18 3 58 x
def t6q(g:Z2->Ht (Z6⊕Unit))(x:Z2):Ht (Z6⊕Unit):=cond (decide (x.2.2.2<(x.1.length:Int))) (cond (y4v x.2.2.2 x.1.length) ((s73 (x.2.2.1,rdL t08 x.1 x.2.2.2.toNat)).bind fun y6=>cond (Nat.ble (y6.2.2.2.2.1.length+([y6.1]:Ld).length) z7z) (cond (Nat.ble (y6.2.2.2.2.2.length+([y6.2.1]:Lg).length) z7z) (g (x.1,x.2.1,(y6.2.2.1,y6.2.2.2.1,y6.2.2.2.2.1++([y6.1]:Ld),y6.2.2.2.2.2++([y6.2.1]:Lg)),i64.wrap (x.2.2.2+1))) none) none) none) (some (.inl (x.2.1,x.2.2.1)))
def t0w:=lpW _ _ t6q
theorem r47 x:t0w x=t6q t0w x:=zW r4b 18 f18 10 58 x
def q5r(x:d7w):Ht Z39:=(t2c (x,((((([]:Lf),([]:Lc),([]:Lc),0,0),([]:Lc)),([]:Lg),([]:Ll)),([]:Lc),([]:Ld),([]:Lg)),decide ((x.length:Int)<=(90:Int)),0)).bind fun|.inl o4=>cond (!o4.2.2) (some (((((([]:Lf),([]:Lc),([]:Lc),0,0),([]:Lc)),([]:Lg),([]:Ll)),([]:Lc),([]:Ld),([]:Lg)),false)) ((r2g ()).bind fun y5=>(t0w (o4.1,o4.2.1,y5,0)).bind fun|.inl o8=>some (o8.2,true)|.inr z9=>none)|.inr z10=>none
theorem o3h:s5a=q5r:=zC 18 func18
def s99(x:q4b):Ht j9w:=zK 22 x
def t7l(g:j9w->Ht (d74⊕Unit))(x:j9w):Ht (d74⊕Unit):=((cond (decide (x.2.2<(x.1.length:Int))) (some (decide (x.2.2<4000))) (some false)):La).bind fun j1=>cond j1 (cond (y4v x.2.2 x.1.length) (g (x.1,i64.wrap ((BitVec.ofInt i64.bits (i64.wrap ((i64.wrap ((i64.wrap (x.2.1*131))+(i64.wrap (rdL (Ty.int .u8) x.1 x.2.2.toNat))))+7))&&&BitVec.ofInt i64.bits (1073741823:Int)).toNat:Int),i64.wrap (x.2.2+1))) none) (some (.inl (x.1,x.2.1)))
def t7s:=lpW _ _ t7l
theorem r2y x:t7s x=t7l t7s x:=zW q6s 22 f22 3 32 x
def p3r(x:q4b):Ht j9w:=(t7s (x,i64.wrap ((77601:Int)+(x.length:Int)),0)).bind fun|.inl o3=>some (o3.1,0,o3.2)|.inr z4=>none
theorem j0v:s99=p3r:=zC 22 func22
def t1d(x:j9w):Ht d75:=zK 45 x
def q93(x:j9w):Ht d75:=cond (decide (x.2.1<(x.1.length:Int))) (cond (y4v x.2.1 x.1.length) (some (i64.wrap ((BitVec.ofInt i64.bits (i64.wrap ((i64.wrap ((BitVec.ofInt i64.bits (i64.wrap ((BitVec.ofInt i64.bits (Int.fdiv (i64.wrap ((i64.wrap (x.2.2*6364136223846793005))+1442695040888963407)) (2^(min (33:Int).toNat i64.bits)))^^^BitVec.ofInt i64.bits (Int.fdiv (i64.wrap ((i64.wrap (x.2.2*6364136223846793005))+1442695040888963407)) (2^(min (45:Int).toNat i64.bits)))).toNat:Int))&&&BitVec.ofInt i64.bits (255:Int)).toNat:Int))+(i64.wrap (rdL (Ty.int .u8) x.1 x.2.1.toNat))))&&&BitVec.ofInt i64.bits (255:Int)).toNat:Int),x.1,i64.wrap (x.2.1+1),i64.wrap ((i64.wrap (x.2.2*6364136223846793005))+1442695040888963407))) none) (some (i64.wrap ((BitVec.ofInt i64.bits (i64.wrap ((BitVec.ofInt i64.bits (Int.fdiv (i64.wrap ((i64.wrap (x.2.2*6364136223846793005))+1442695040888963407)) (2^(min (33:Int).toNat i64.bits)))^^^BitVec.ofInt i64.bits (Int.fdiv (i64.wrap ((i64.wrap (x.2.2*6364136223846793005))+1442695040888963407)) (2^(min (45:Int).toNat i64.bits)))).toNat:Int))&&&BitVec.ofInt i64.bits (255:Int)).toNat:Int),x.1,x.2.1,i64.wrap ((i64.wrap (x.2.2*6364136223846793005))+1442695040888963407)))
theorem o6u:t1d=q93:=zC 45 func45
def u2x(x:(j9w×Int)):Ht d75:=zK 23 x
def q5z(x:(j9w×Int)):Ht d75:=cond (decide (x.2<=0)) (some (0,x.1)) (cond (decide (x.2<=256)) ((t1d x.1).bind fun y1=>cond (!decide (x.2=0)) (some (Int.tmod y1.1 x.2,y1.2)) none) ((t1d x.1).bind fun y2=>(t1d y2.2).bind fun y3=>(t1d y3.2).bind fun y4=>(t1d y4.2).bind fun y5=>cond (!decide (x.2=0)) (some (Int.tmod (i64.wrap ((i64.wrap ((i64.wrap ((i64.wrap (y2.1*16777216))+(i64.wrap (y3.1*65536))))+(i64.wrap (y4.1*256))))+y5.1)) x.2,y5.2)) none))
theorem o3o:u2x=q5z:=zC 23 func23
def t1e(x:(j9w×Int)):Ht (Bool×j9w):=zK 25 x
def q94(x:(j9w×Int)):Ht (Bool×j9w):=(u2x x).bind fun y1=>some (decide (y1.1=0),y1.2)
theorem o6v:t1e=q94:=zC 25 func25
def u18(x:c48):Ht c5j:=zK 46 x
def q95(x:c48):Ht c5j:=(u2x (x.1,(x.2.length:Int))).bind fun y1=>cond (y4v y1.1 x.2.length) (some (rdL Ty.str x.2 y1.1.toNat,y1.2)) none
theorem o6w:u18=q95:=zC 46 func46
def t95(x:c5i):Ht d75:=zK 47 x
def r63(x:c5i):Ht d75:=(u2x (x.1,(x.2.length:Int))).bind fun y1=>cond (y4v y1.1 x.2.length) (some (rdL (Ty.int .i64) x.2 y1.1.toNat,y1.2)) none
theorem p6u:t95=r63:=zC 47 func47
def s8x(x:q4b):Ht d7w:=zK 24 x
def t3s(g:c33->Ht (d99⊕Unit))(x:c33):Ht (d99⊕Unit):=cond (decide (x.2.2.2.2.2.2.2<(x.2.2.2.2.1.length:Int))) (cond (y4v x.2.2.2.2.2.2.2 x.2.2.2.2.1.length) (cond (!decide ((rdL (Ty.int .i64) x.2.2.2.2.1 x.2.2.2.2.2.2.2.toNat)=x.2.2.2.2.2.1)) (cond (y4v x.2.2.2.2.2.2.2 x.2.2.2.2.1.length) (cond (Nat.ble (x.2.2.2.2.2.2.1.length+([(rdL (Ty.int .i64) x.2.2.2.2.1 x.2.2.2.2.2.2.2.toNat)]:Ld).length) z7z) (g (x.1,x.2.1,x.2.2.1,x.2.2.2.1,x.2.2.2.2.1,x.2.2.2.2.2.1,x.2.2.2.2.2.2.1++([(rdL (Ty.int .i64) x.2.2.2.2.1 x.2.2.2.2.2.2.2.toNat)]:Ld),i64.wrap (x.2.2.2.2.2.2.2+1))) none) none) (g (x.1,x.2.1,x.2.2.1,x.2.2.2.1,x.2.2.2.2.1,x.2.2.2.2.2.1,x.2.2.2.2.2.2.1,i64.wrap (x.2.2.2.2.2.2.2+1)))) none) (some (.inl (x.1,x.2.1,x.2.2.1,x.2.2.2.1,x.2.2.2.2.2.2.1)))
def u2r:=lpW _ _ t3s
theorem r2z x:u2r x=t3s u2r x:=zW r1g 24 f24 34 189 x
def t6s(g:d99->Ht (d7w⊕Unit))(x:d99):Ht (d7w⊕Unit):=cond (decide ((x.2.2.1.length:Int)<x.2.1)) ((u2x (x.1,18)).bind fun y2=>cond (decide ((x.2.2.2.2.length:Int)>(0:Int))) ((u2x (y2.2,(x.2.2.2.2.length:Int))).bind fun y3=>cond (y4v y3.1 x.2.2.2.2.length) ((u18 (y3.2,([(⟨#[97]⟩:Hs),(⟨#[98]⟩:Hs),(⟨#[99]⟩:Hs)]:Lg))).bind fun y4=>((cond (decide ((x.2.2.2.2.length:Int)=(0:Int))) (some true) (cond (decide (y2.1<3)) (some (decide ((x.2.2.2.2.length:Int)<(4:Int)))) (some false))):La).bind fun j5=>cond j5 (cond (Nat.ble (x.2.2.1.length+([(1,0,(⟨#[]⟩:Hs),(⟨#[]⟩:Hs),([]:Ld))]:Lk).length) z7z) (cond (Nat.ble (([]:Ld).length+x.2.2.2.2.length) z7z) (cond (Nat.ble ((([]:Ld)++x.2.2.2.2).length+([x.2.2.2.1]:Ld).length) z7z) (g (y4.2,x.2.1,x.2.2.1++([(1,0,(⟨#[]⟩:Hs),(⟨#[]⟩:Hs),([]:Ld))]:Lk),i64.wrap (x.2.2.2.1+1),(([]:Ld)++x.2.2.2.2)++([x.2.2.2.1]:Ld))) none) none) none) (cond (decide (y2.1<6)) (cond (Nat.ble (x.2.2.1.length+([(2,rdL (Ty.int .i64) x.2.2.2.2 y3.1.toNat,y4.1,(⟨#[]⟩:Hs),([]:Ld))]:Lk).length) z7z) (g (y4.2,x.2.1,x.2.2.1++([(2,rdL (Ty.int .i64) x.2.2.2.2 y3.1.toNat,y4.1,(⟨#[]⟩:Hs),([]:Ld))]:Lk),x.2.2.2)) none) (cond (decide (y2.1=6)) (cond (Nat.ble (x.2.2.1.length+([(3,rdL (Ty.int .i64) x.2.2.2.2 y3.1.toNat,(⟨#[97]⟩:Hs),y4.1,([]:Ld))]:Lk).length) z7z) (g (y4.2,x.2.1,x.2.2.1++([(3,rdL (Ty.int .i64) x.2.2.2.2 y3.1.toNat,(⟨#[97]⟩:Hs),y4.1,([]:Ld))]:Lk),x.2.2.2)) none) (cond (decide (y2.1<10)) ((u18 (y4.2,([(⟨#[111,110,101]⟩:Hs),(⟨#[116,119,111]⟩:Hs),(⟨#[116,104,114,101,101]⟩:Hs)]:Lg))).bind fun y6=>cond (Nat.ble (x.2.2.1.length+([(4,rdL (Ty.int .i64) x.2.2.2.2 y3.1.toNat,y4.1,y6.1,([]:Ld))]:Lk).length) z7z) (g (y6.2,x.2.1,x.2.2.1++([(4,rdL (Ty.int .i64) x.2.2.2.2 y3.1.toNat,y4.1,y6.1,([]:Ld))]:Lk),x.2.2.2)) none) (cond (decide (y2.1=10)) (cond (Nat.ble (x.2.2.1.length+([(5,rdL (Ty.int .i64) x.2.2.2.2 y3.1.toNat,y4.1,(⟨#[]⟩:Hs),([]:Ld))]:Lk).length) z7z) (g (y4.2,x.2.1,x.2.2.1++([(5,rdL (Ty.int .i64) x.2.2.2.2 y3.1.toNat,y4.1,(⟨#[]⟩:Hs),([]:Ld))]:Lk),x.2.2.2)) none) (cond (decide (y2.1<14)) (cond (decide (y2.1=13)) ((u18 (y4.2,([(⟨#[112]⟩:Hs),(⟨#[113]⟩:Hs),(⟨#[114]⟩:Hs)]:Lg))).bind fun y7=>cond (Nat.ble (x.2.2.1.length+([(8,rdL (Ty.int .i64) x.2.2.2.2 y3.1.toNat,y7.1,(⟨#[]⟩:Hs),([]:Ld))]:Lk).length) z7z) ((u2r (y7.2,x.2.1,x.2.2.1++([(8,rdL (Ty.int .i64) x.2.2.2.2 y3.1.toNat,y7.1,(⟨#[]⟩:Hs),([]:Ld))]:Lk),x.2.2.2.1,x.2.2.2.2,rdL (Ty.int .i64) x.2.2.2.2 y3.1.toNat,([]:Ld),0)).bind fun|.inl o9=>g o9|.inr z10=>some (.inr ())) none) ((u18 (y4.2,([(⟨#[112]⟩:Hs),(⟨#[113]⟩:Hs),(⟨#[114]⟩:Hs)]:Lg))).bind fun y11=>cond (Nat.ble (x.2.2.1.length+([(6,rdL (Ty.int .i64) x.2.2.2.2 y3.1.toNat,y11.1,(⟨#[]⟩:Hs),([]:Ld))]:Lk).length) z7z) ((u2r (y11.2,x.2.1,x.2.2.1++([(6,rdL (Ty.int .i64) x.2.2.2.2 y3.1.toNat,y11.1,(⟨#[]⟩:Hs),([]:Ld))]:Lk),x.2.2.2.1,x.2.2.2.2,rdL (Ty.int .i64) x.2.2.2.2 y3.1.toNat,([]:Ld),0)).bind fun|.inl o13=>g o13|.inr z14=>some (.inr ())) none)) (cond (decide (y2.1=14)) ((t95 (y4.2,([(9:Int),10,(9:Int)]:Ld))).bind fun y15=>(u18 (y15.2,([(⟨#[112]⟩:Hs),(⟨#[113]⟩:Hs),(⟨#[114]⟩:Hs)]:Lg))).bind fun y16=>cond (Nat.ble (x.2.2.1.length+([(y15.1,0,y16.1,(⟨#[]⟩:Hs),([]:Ld))]:Lk).length) z7z) (g (y16.2,x.2.1,x.2.2.1++([(y15.1,0,y16.1,(⟨#[]⟩:Hs),([]:Ld))]:Lk),x.2.2.2)) none) (cond (decide (y2.1=15)) (cond (Nat.ble (x.2.2.1.length+([(11,0,(⟨#[]⟩:Hs),(⟨#[]⟩:Hs),([]:Ld))]:Lk).length) z7z) (g (y4.2,x.2.1,x.2.2.1++([(11,0,(⟨#[]⟩:Hs),(⟨#[]⟩:Hs),([]:Ld))]:Lk),x.2.2.2)) none) (cond (decide (y2.1=16)) ((t1e (y4.2,3)).bind fun y17=>cond y17.1 ((u2x (y17.2,70)).bind fun y18=>(u2x (y18.2,2)).bind fun y19=>cond (Nat.ble (x.2.2.1.length+([(12,y18.1,(⟨#[]⟩:Hs),(⟨#[]⟩:Hs),([(1:Int),y19.1]:Ld))]:Lk).length) z7z) (g (y19.2,x.2.1,x.2.2.1++([(12,y18.1,(⟨#[]⟩:Hs),(⟨#[]⟩:Hs),([(1:Int),y19.1]:Ld))]:Lk),x.2.2.2.1,([]:Ld))) none) (cond (Nat.ble (x.2.2.1.length+([(7,rdL (Ty.int .i64) x.2.2.2.2 y3.1.toNat,(⟨#[]⟩:Hs),(⟨#[]⟩:Hs),([]:Ld))]:Lk).length) z7z) (g (y17.2,x.2.1,x.2.2.1++([(7,rdL (Ty.int .i64) x.2.2.2.2 y3.1.toNat,(⟨#[]⟩:Hs),(⟨#[]⟩:Hs),([]:Ld))]:Lk),x.2.2.2)) none)) (cond (Nat.ble (x.2.2.1.length+([(2,99,y4.1,(⟨#[]⟩:Hs),([]:Ld))]:Lk).length) z7z) (g (y4.2,x.2.1,x.2.2.1++([(2,99,y4.1,(⟨#[]⟩:Hs),([]:Ld))]:Lk),x.2.2.2)) none)))))))))) none) ((u18 (y2.2,([(⟨#[97]⟩:Hs),(⟨#[98]⟩:Hs),(⟨#[99]⟩:Hs)]:Lg))).bind fun y20=>((cond (decide ((x.2.2.2.2.length:Int)=(0:Int))) (some true) (cond (decide (y2.1<3)) (some (decide ((x.2.2.2.2.length:Int)<(4:Int)))) (some false))):La).bind fun j21=>cond j21 (cond (Nat.ble (x.2.2.1.length+([(1,0,(⟨#[]⟩:Hs),(⟨#[]⟩:Hs),([]:Ld))]:Lk).length) z7z) (cond (Nat.ble (([]:Ld).length+x.2.2.2.2.length) z7z) (cond (Nat.ble ((([]:Ld)++x.2.2.2.2).length+([x.2.2.2.1]:Ld).length) z7z) (g (y20.2,x.2.1,x.2.2.1++([(1,0,(⟨#[]⟩:Hs),(⟨#[]⟩:Hs),([]:Ld))]:Lk),i64.wrap (x.2.2.2.1+1),(([]:Ld)++x.2.2.2.2)++([x.2.2.2.1]:Ld))) none) none) none) (cond (decide (y2.1<6)) (cond (Nat.ble (x.2.2.1.length+([(2,x.2.2.2.1,y20.1,(⟨#[]⟩:Hs),([]:Ld))]:Lk).length) z7z) (g (y20.2,x.2.1,x.2.2.1++([(2,x.2.2.2.1,y20.1,(⟨#[]⟩:Hs),([]:Ld))]:Lk),x.2.2.2)) none) (cond (decide (y2.1=6)) (cond (Nat.ble (x.2.2.1.length+([(3,x.2.2.2.1,(⟨#[97]⟩:Hs),y20.1,([]:Ld))]:Lk).length) z7z) (g (y20.2,x.2.1,x.2.2.1++([(3,x.2.2.2.1,(⟨#[97]⟩:Hs),y20.1,([]:Ld))]:Lk),x.2.2.2)) none) (cond (decide (y2.1<10)) ((u18 (y20.2,([(⟨#[111,110,101]⟩:Hs),(⟨#[116,119,111]⟩:Hs),(⟨#[116,104,114,101,101]⟩:Hs)]:Lg))).bind fun y22=>cond (Nat.ble (x.2.2.1.length+([(4,x.2.2.2.1,y20.1,y22.1,([]:Ld))]:Lk).length) z7z) (g (y22.2,x.2.1,x.2.2.1++([(4,x.2.2.2.1,y20.1,y22.1,([]:Ld))]:Lk),x.2.2.2)) none) (cond (decide (y2.1=10)) (cond (Nat.ble (x.2.2.1.length+([(5,x.2.2.2.1,y20.1,(⟨#[]⟩:Hs),([]:Ld))]:Lk).length) z7z) (g (y20.2,x.2.1,x.2.2.1++([(5,x.2.2.2.1,y20.1,(⟨#[]⟩:Hs),([]:Ld))]:Lk),x.2.2.2)) none) (cond (decide (y2.1<14)) (cond (decide (y2.1=13)) ((u18 (y20.2,([(⟨#[112]⟩:Hs),(⟨#[113]⟩:Hs),(⟨#[114]⟩:Hs)]:Lg))).bind fun y23=>cond (Nat.ble (x.2.2.1.length+([(8,x.2.2.2.1,y23.1,(⟨#[]⟩:Hs),([]:Ld))]:Lk).length) z7z) ((u2r (y23.2,x.2.1,x.2.2.1++([(8,x.2.2.2.1,y23.1,(⟨#[]⟩:Hs),([]:Ld))]:Lk),x.2.2.2.1,x.2.2.2.2,x.2.2.2.1,([]:Ld),0)).bind fun|.inl o25=>g o25|.inr z26=>some (.inr ())) none) ((u18 (y20.2,([(⟨#[112]⟩:Hs),(⟨#[113]⟩:Hs),(⟨#[114]⟩:Hs)]:Lg))).bind fun y27=>cond (Nat.ble (x.2.2.1.length+([(6,x.2.2.2.1,y27.1,(⟨#[]⟩:Hs),([]:Ld))]:Lk).length) z7z) ((u2r (y27.2,x.2.1,x.2.2.1++([(6,x.2.2.2.1,y27.1,(⟨#[]⟩:Hs),([]:Ld))]:Lk),x.2.2.2.1,x.2.2.2.2,x.2.2.2.1,([]:Ld),0)).bind fun|.inl o29=>g o29|.inr z30=>some (.inr ())) none)) (cond (decide (y2.1=14)) ((t95 (y20.2,([(9:Int),10,(9:Int)]:Ld))).bind fun y31=>(u18 (y31.2,([(⟨#[112]⟩:Hs),(⟨#[113]⟩:Hs),(⟨#[114]⟩:Hs)]:Lg))).bind fun y32=>cond (Nat.ble (x.2.2.1.length+([(y31.1,0,y32.1,(⟨#[]⟩:Hs),([]:Ld))]:Lk).length) z7z) (g (y32.2,x.2.1,x.2.2.1++([(y31.1,0,y32.1,(⟨#[]⟩:Hs),([]:Ld))]:Lk),x.2.2.2)) none) (cond (decide (y2.1=15)) (cond (Nat.ble (x.2.2.1.length+([(11,0,(⟨#[]⟩:Hs),(⟨#[]⟩:Hs),([]:Ld))]:Lk).length) z7z) (g (y20.2,x.2.1,x.2.2.1++([(11,0,(⟨#[]⟩:Hs),(⟨#[]⟩:Hs),([]:Ld))]:Lk),x.2.2.2)) none) (cond (decide (y2.1=16)) ((t1e (y20.2,3)).bind fun y33=>cond y33.1 ((u2x (y33.2,70)).bind fun y34=>(u2x (y34.2,2)).bind fun y35=>cond (Nat.ble (x.2.2.1.length+([(12,y34.1,(⟨#[]⟩:Hs),(⟨#[]⟩:Hs),([(1:Int),y35.1]:Ld))]:Lk).length) z7z) (g (y35.2,x.2.1,x.2.2.1++([(12,y34.1,(⟨#[]⟩:Hs),(⟨#[]⟩:Hs),([(1:Int),y35.1]:Ld))]:Lk),x.2.2.2.1,([]:Ld))) none) (cond (Nat.ble (x.2.2.1.length+([(7,x.2.2.2.1,(⟨#[]⟩:Hs),(⟨#[]⟩:Hs),([]:Ld))]:Lk).length) z7z) (g (y33.2,x.2.1,x.2.2.1++([(7,x.2.2.2.1,(⟨#[]⟩:Hs),(⟨#[]⟩:Hs),([]:Ld))]:Lk),x.2.2.2)) none)) (cond (Nat.ble (x.2.2.1.length+([(2,99,y20.1,(⟨#[]⟩:Hs),([]:Ld))]:Lk).length) z7z) (g (y20.2,x.2.1,x.2.2.1++([(2,99,y20.1,(⟨#[]⟩:Hs),([]:Ld))]:Lk),x.2.2.2)) none))))))))))) (some (.inl x.2.2.1))
def u31:=lpW _ _ t6s
theorem r49 x:u31 x=t6s u31 x:=zW r4d 24 f24 8 189 x
def q1t(x:q4b):Ht d7w:=(s99 x).bind fun y1=>cond (decide ((i64.wrap ((16:Int)+(i64.wrap (Int.tdiv (x.length:Int) (3:Int)))))>74)) ((u31 (y1,74,([]:Lk),1,([]:Ld))).bind fun|.inl o37=>some o37|.inr z38=>none) ((u31 (y1,i64.wrap ((16:Int)+(i64.wrap (Int.tdiv (x.length:Int) (3:Int)))),([]:Lk),1,([]:Ld))).bind fun|.inl o74=>some o74|.inr z75=>none)
theorem o0k:s8x=q1t:=zC 24 func24
def s0l(x:q4b):Ht Z24:=zK 6 x
def s87(x:q4b):Ht Z24:=(s99 x).bind fun y1=>(u2x (y1,60)).bind fun y2=>(s8x x).bind fun y3=>cond (decide ((y3.length:Int)>(14:Int))) (cond (decide (0<=(0:Int))&&decide ((0:Int)<=(14:Int))&&decide ((14:Int)<=(y3.length:Int))) ((s5a ((y3.drop (0:Int).toNat).take ((14:Int).toNat - (0:Int).toNat))).bind fun y4=>cond (!decide ((y3.length:Int)=0)) (cond (y4v (Int.tmod y2.1 (y3.length:Int)) y3.length) ((t1e (y2.2,12)).bind fun y5=>cond y5.1 (some (y4.1,0,(rdL t08 y3 (Int.tmod y2.1 (y3.length:Int)).toNat).2)) (some (y4.1,rdL t08 y3 (Int.tmod y2.1 (y3.length:Int)).toNat))) none) none) none) ((s5a y3).bind fun y6=>cond (!decide ((y3.length:Int)=0)) (cond (y4v (Int.tmod y2.1 (y3.length:Int)) y3.length) ((t1e (y2.2,12)).bind fun y7=>cond y7.1 (some (y6.1,0,(rdL t08 y3 (Int.tmod y2.1 (y3.length:Int)).toNat).2)) (some (y6.1,rdL t08 y3 (Int.tmod y2.1 (y3.length:Int)).toNat))) none) none)
theorem q8l:s0l=s87:=zC 6 func6
def u03(x:d72):La:=zK 43 x
def s9s(x:d72):La:=((cond (decide (x.1>=x.2.1)) (some (decide (x.1<=x.2.2))) (some false)):La).bind fun j1=>some j1
theorem r9p:u03=s9s:=zC 43 func43
def s6x(x:d7o):La:=zK 20 x
def r5d(x:d7o):La:=(((u03 (x.1,1,12)).bind fun y1=>cond y1 (cond (decide (x.2.1>=0)) (cond (decide ((x.2.2.1.size:Int)<=(6:Int))) (cond (decide ((x.2.2.2.1.size:Int)<=(20:Int))) (cond (decide ((x.2.2.2.2.length:Int)<=(10:Int))) (cond (decide (x.1=12)) (some true) (some (decide ((x.2.2.2.2.length:Int)=(0:Int))))) (some false)) (some false)) (some false)) (some false)) (some false)):La).bind fun j2=>some j2
theorem p0q:s6x=r5d:=zC 20 func20
def u2n(x:t0x):Ht t0x:=zK 84 x
def q9h(x:t0x):Ht t0x:=cond (Nat.ble x.2.2.2.2.1.length z7z) (cond (Nat.ble x.2.2.2.2.2.1.length z7z) (some x) none) none
theorem o56:u2n=q9h:=zC 84 func84
def t2r(x:p1v):Ht p1v:=zK 49 x
def t8w(g:c2g->Ht d7y)(x:c2g):Ht d7y:=cond (decide (x.2.2.2<x.2.2.1)) (cond (y4v x.2.2.2 x.2.1.length) ((u2n (rdL u0a x.2.1 x.2.2.2.toNat)).bind fun y1=>cond (Nat.ble (x.1.length+([y1]:Lc).length) z7z) (g (x.1++([y1]:Lc),x.2.1,x.2.2.1,i64.wrap (x.2.2.2+1))) none) none) (some (.inl x.1))
def t9n:=lpW _ _ t8w
theorem r8o x:t9n x=t8w t9n x:=zW r7n 49 f49 3 19 x
def q49(x:p1v):Ht p1v:=(t9n (([]:Lc),x,(x.length:Int),0)).bind fun|.inl o3=>some o3|.inr z4=>none
theorem o2w:t2r=q49:=zC 49 func49
def u14(x:u9r):Ht u9r:=zK 85 x
def q47(x:u9r):Ht u9r:=cond (Nat.ble x.1.length z7z) ((t2r x.2.1).bind fun y1=>(t2r x.2.2.1).bind fun y2=>some (x.1,y1,y2,x.2.2.2)) none
theorem o2u:u14=q47:=zC 85 func85
def u11(x:s88):Ht s88:=zK 50 x
def r6s(x:s88):Ht s88:=(u14 x.1).bind fun y1=>(t2r x.2).bind fun y2=>some (y1,y2)
theorem p6j:u11=r6s:=zC 50 func50
def u06(x:u8l):Ht u8l:=zK 83 x
def q48(x:u8l):Ht u8l:=cond (Nat.ble x.1.length z7z) (cond (Nat.ble x.2.length z7z) (some x) none) none
theorem o2v:u06=q48:=zC 83 func83
def u4j(x:Z73):Ht Z73:=zK 48 x
def q00(x:Z73):Ht Z73:=(u11 x.1).bind fun y1=>(u06 x.2).bind fun y2=>some (y1,y2)
theorem p9q:u4j=q00:=zC 48 func48
def s8o(x:Z43):Ht Z43:=zK 26 x
def q01(x:Z43):Ht Z43:=(u4j x.1).bind fun y1=>(t2r x.2.1).bind fun y2=>cond (Nat.ble x.2.2.1.length z7z) (cond (Nat.ble x.2.2.2.length z7z) (some (y1,y2,x.2.2)) none) none
theorem p9r:s8o=q01:=zC 26 func26
def s44(x:Z76):La:=zK 154 x
def p28(x:Z76):La:=some (decide (x.1.1=x.2.1))
theorem p4d:s44=p28:=zC 154 func154
def u5s(x:s9t):Lj:=zK 10002 x
def u4k(g:j1x->Ht r6g)(x:j1x):Ht r6g:=cond (decide (x.2.2.2<x.2.2.1)) (cond (y4v x.2.2.2 x.1.length) ((s44 (rdL u0a x.1 x.2.2.2.toNat,x.2.1)).bind fun y1=>cond y1 (some (.inr x.2.2.2)) (g (x.1,x.2.1,x.2.2.1,i64.wrap (x.2.2.2+1)))) none) (some (.inl ()))
def u1e:=lpW _ _ u4k
theorem t1s x:u1e x=u4k u1e x:=zW u4o 10002 f99 2 19 x
def u5i(x:s9t):Lj:=(u1e (x.1,x.2,(x.1.length:Int),0)).bind fun|.inl o3=>some (- 1:Int)|.inr z4=>some z4
theorem t23:u5s=u5i:=zC 10002 func99
def u4f(x:s9t):La:=zK 10001 x
def u4a(x:s9t):La:=(u5s x).bind fun y1=>some (decide (y1>=0))
theorem t09:u4f=u4a:=zC 10001 func233
def u85(x:s9t):La:=zK 10000 x
def t61(x:s9t):La:=(u4f x).bind fun y1=>some y1
theorem s9v:u85=t61:=zC 10000 func153
def t5n(x:j56):La:=zK 87 x
def t6g(g:c38->Ht r0k)(x:c38):Ht r0k:=cond (decide (x.2.2.2.2<x.2.2.2.1)) (cond (y4v x.2.2.2.2 x.2.2.1.length) (cond (decide ((rdL u0a x.2.2.1 x.2.2.2.2.toNat).1>=x.2.1)) (some (.inr false)) (cond (decide (0<=(0:Int))&&decide ((0:Int)<=x.2.2.2.2)&&decide (x.2.2.2.2<=(x.1.length:Int))) ((u85 ((x.1.take x.2.2.2.2.toNat).drop (0:Int).toNat,rdL u0a x.2.2.1 x.2.2.2.2.toNat)).bind fun y1=>cond y1 (some (.inr false)) (g (x.1,x.2.1,x.2.2.1,x.2.2.2.1,i64.wrap (x.2.2.2.2+1)))) none)) none) (some (.inl ()))
def t6v:=lpW _ _ t6g
theorem r4x x:t6v x=t6g t6v x:=zW r3z 87 f87 2 26 x
def q05(x:j56):La:=(t6v (x.1,x.2,x.1,(x.1.length:Int),0)).bind fun|.inl o3=>some true|.inr z4=>some z4
theorem p9v:t5n=q05:=zC 87 func87
def t58(x:(Unit×Int)):Ht p1v:=zK 155 x
def s5p(x:(Unit×Int)):Ht p1v:=cond (decide (x.2<0)) none (cond (decide ((i64.wrap (x.2 - (i64.wrap ((0:Int) - (0:Int)))))>0)) (cond (decide (0<=(0:Int))&&decide ((0:Int)<=(0:Int))&&decide ((0:Int)<=0)) (cond (decide (1<=(i64.wrap (x.2 - (i64.wrap ((0:Int) - (0:Int))))))&&decide ((i64.wrap (x.2 - (i64.wrap ((0:Int) - (0:Int)))))<=1099511627776)) (cond (decide (0<=(0:Int))&&decide ((0:Int)<=(0:Int))&&decide ((0:Int)<=((List.replicate (i64.wrap (x.2 - (i64.wrap ((0:Int) - (0:Int))))).toNat u0a.zero).length:Int))) (some ((List.replicate (i64.wrap (x.2 - (i64.wrap ((0:Int) - (0:Int))))).toNat u0a.zero).take ((0:Int).toNat - (0:Int).toNat))) none) none) none) (some ([]:Lc)))
theorem q37:t58=s5p:=zC 155 func155
def u24(x:d41):Ht p1v:=zK 88 x
def u6z(g:c35->Ht (c47⊕Unit))(x:c35):Ht (c47⊕Unit):=cond (decide (x.2.2.2.2<x.2.2.2.1)) (cond (y4v x.2.2.2.2 x.2.2.1.length) (cond (decide ((i64.wrap (x.2.1+((rdL (Ty.sl u0a) x.2.2.1 x.2.2.2.2.toNat).length:Int)))<0)) none (g (x.1,i64.wrap (x.2.1+((rdL (Ty.sl u0a) x.2.2.1 x.2.2.2.2.toNat).length:Int)),x.2.2.1,x.2.2.2.1,i64.wrap (x.2.2.2.2+1)))) none) (some (.inl (x.1,x.2.1)))
def u3o:=lpW _ _ u6z
theorem s0e x:u3o x=u6z u3o x:=zW s0b 88 f88 3 36 x
def u5t(g:c39->Ht d7y)(x:c39):Ht d7y:=cond (decide (x.2.2.2<x.2.2.1)) (cond (y4v x.2.2.2 x.2.1.length) (cond (Nat.ble (x.1.length+(rdL (Ty.sl u0a) x.2.1 x.2.2.2.toNat).length) z7z) (g (x.1++(rdL (Ty.sl u0a) x.2.1 x.2.2.2.toNat),x.2.1,x.2.2.1,i64.wrap (x.2.2.2+1))) none) none) (some (.inl x.1))
def u29:=lpW _ _ u5t
theorem t8j x:u29 x=u5t u29 x:=zW t73 88 f88 11 36 x
def s3m(x:d41):Ht p1v:=(u3o (x,0,x,(x.length:Int),0)).bind fun|.inl o2=>((t58 ((),o2.2)).bind fun y3=>(u29 (y3,o2.1,(o2.1.length:Int),0)).bind fun|.inl o5=>some o5|.inr z6=>none)|.inr z7=>none
theorem r7b:u24=s3m:=zC 88 func88
def u9d(x:Hs):La:=zK 92 x
def s6c(g:j5h->Ht c00)(x:j5h):Ht c00:=cond (decide (x.2<(x.1.size:Int))) (((cond (y4v x.2 x.1.size) (cond (decide (((x.1.data.toList.getD x.2.toNat 0).toNat:Int)<(97:Int))) (some true) (cond (y4v x.2 x.1.size) (some (decide (((x.1.data.toList.getD x.2.toNat 0).toNat:Int)>(122:Int)))) none)) none):La).bind fun j1=>cond j1 (some (.inr false)) (g (x.1,i64.wrap (x.2+1)))) (some (.inl x.1))
def s6m:=lpW _ _ s6c
theorem p1k x:s6m x=s6c s6m x:=zW p01 92 f92 2 23 x
def p7l(x:Hs):La:=(s6m (x,0)).bind fun|.inl o3=>((u03 ((o3.size:Int),1,3)).bind fun y4=>some y4)|.inr z5=>some z5
theorem j3e:u9d=p7l:=zC 92 func92
def s00(x:d5d):La:=zK 94 x
def q87(x:d5d):La:=(((u9d x.1).bind fun y1=>cond y1 ((u9d x.2).bind fun y2=>cond y2 (some (y3i x.1 x.2||z7q x.1 x.2)) (some false)) (some false)):La).bind fun j3=>some j3
theorem o5w:s00=q87:=zC 94 func94
def s01(x:c01):La:=zK 57 x
def q9g(x:c01):La:=(((u9d x.1).bind fun y1=>cond y1 (cond (decide ((x.2.1.size:Int)<=(12:Int))) (cond (!x.2.2) (some true) (some (z7q x.2.1 (⟨#[]⟩:Hs)))) (some false)) (some false)):La).bind fun j2=>some j2
theorem o55:s01=q9g:=zC 57 func57
def r1t(x:j1u):La:=zK 156 x
def t8v(g:d40->Ht (j1u⊕Bool))(x:d40):Ht (j1u⊕Bool):=cond (decide (x.2.2.2<x.2.2.1)) (cond (y4v x.2.2.2 x.2.1.length) ((((s01 (rdL u12 x.2.1 x.2.2.2.toNat)).bind fun y1=>cond (!y1) (some true) (cond (decide (x.2.2.2>0)) (cond (y4v (i64.wrap (x.2.2.2 - 1)) x.1.length) (some (!y3i (rdL u12 x.1 (i64.wrap (x.2.2.2 - 1)).toNat).1 (rdL u12 x.2.1 x.2.2.2.toNat).1)) none) (some false))):La).bind fun j2=>cond j2 (some (.inr false)) (g (x.1,x.2.1,x.2.2.1,i64.wrap (x.2.2.2+1)))) none) (some (.inl x.1))
def t9m:=lpW _ _ t8v
theorem r8n x:t9m x=t8v t9m x:=zW r7m 156 f156 2 34 x
def q46(x:j1u):La:=(t9m (x,x,(x.length:Int),0)).bind fun|.inl o4=>some (decide ((o4.length:Int)<=(8:Int)))|.inr z5=>some z5
theorem o2t:r1t=q46:=zC 156 func156
def u6q(x:t0x):La:=zK 89 x
def s6f(g:c3z->Ht (t0x⊕Bool))(x:c3z):Ht (t0x⊕Bool):=cond (decide (x.2.2.2<x.2.2.1)) (cond (y4v x.2.2.2 x.2.1.length) ((s00 (rdL r0f x.2.1 x.2.2.2.toNat)).bind fun y1=>cond (!y1) (some (.inr false)) (g (x.1,x.2.1,x.2.2.1,i64.wrap (x.2.2.2+1)))) none) (some (.inl x.1))
def s6o:=lpW _ _ s6f
theorem p1n x:s6o x=s6f s6o x:=zW p04 89 f89 2 93 x
def p7r(x:t0x):La:=(s6o (x,x.2.2.2.2.1,(x.2.2.2.2.1.length:Int),0)).bind fun|.inl o3=>((((u03 (o3.1,1,9999)).bind fun y4=>cond (!y4) (some true) ((u03 (o3.2.1,1,3)).bind fun y5=>cond (!y5) (some true) ((u03 (o3.2.2.1,0,9999)).bind fun y6=>cond (!y6) (some true) (cond (decide ((o3.2.2.2.2.1.length:Int)>(8:Int))) (some true) ((r1t o3.2.2.2.2.2.1).bind fun y7=>cond (!y7) (some true) (cond o3.2.2.2.2.2.2.1 (some (decide (o3.2.1=1))) (some false))))))):La).bind fun j8=>cond j8 (some false) (((cond (decide (o3.2.1=3)) ((u03 (o3.2.2.2.1,i64.wrap (o3.2.2.1+1),9999)).bind fun y9=>cond (!y9) (some true) (cond (!decide (o3.2.1=3)) (some (!decide (o3.2.2.2.1=0))) (some false))) (cond (!decide (o3.2.1=3)) (some (!decide (o3.2.2.2.1=0))) (some false))):La).bind fun j10=>cond j10 (some false) (((cond (decide (o3.2.1=2)) ((u9d o3.2.2.2.2.2.2.2).bind fun y11=>cond y11 (some true) (cond (!decide (o3.2.1=2)) (some (z7q o3.2.2.2.2.2.2.2 (⟨#[]⟩:Hs))) (some false))) (cond (!decide (o3.2.1=2)) (some (z7q o3.2.2.2.2.2.2.2 (⟨#[]⟩:Hs))) (some false))):La).bind fun j12=>some j12)))|.inr z13=>some z13
theorem j3k:u6q=p7r:=zC 89 func89
def t65(x:Hs):La:=zK 375 x
def r27(x:Hs):La:=some (!z7q x x)
theorem p35:t65=r27:=zC 375 func375
def s0j(x:d5d):Lj:=zK 312 x
def s81(x:d5d):Lj:=(t65 x.1).bind fun y1=>(t65 x.2).bind fun y2=>cond y1 (cond y2 (some (0:Int)) (some (- 1:Int))) (cond y2 (some (1:Int)) (cond (y3i x.1 x.2) (some (- 1:Int)) (cond (!(y3i x.1 x.2||z7q x.1 x.2)) (some (1:Int)) (some (0:Int)))))
theorem q8f:s0j=s81:=zC 312 func312
def s4v(x:Int):La:=zK 376 x
def q4p(x:Int):La:=some (!decide (x=x))
theorem o2b:s4v=q4p:=zC 376 func376
def s5y(x:d63):Lj:=zK 313 x
def r6i(x:d63):Lj:=(s4v x.1).bind fun y1=>(s4v x.2).bind fun y2=>cond y1 (cond y2 (some (0:Int)) (some (- 1:Int))) (cond y2 (some (1:Int)) (cond (decide (x.1<x.2)) (some (- 1:Int)) (cond (decide (x.1>x.2)) (some (1:Int)) (some (0:Int)))))
theorem p59:s5y=r6i:=zC 313 func313
def u7v(x:d96):Lj:=zK 232 x
def t7u(x:d96):Lj:=(s0j (x.1.1,x.2.1)).bind fun y1=>cond (!decide (y1=0)) (some y1) ((s5y (x.1.2.2.2,x.2.2.2.2)).bind fun y2=>some y2)
theorem s7m:u7v=t7u:=zC 232 func232
def s51(x:o01):La:=zK 150 x
def t3l(g:c0f->Ht (o01⊕Bool))(x:c0f):Ht (o01⊕Bool):=cond (decide (x.2.2.2<x.2.2.1)) (cond (y4v x.2.2.2 x.2.1.length) ((((u9d (rdL u0h x.2.1 x.2.2.2.toNat).1).bind fun y1=>cond (!y1) (some true) (cond (decide (((rdL u0h x.2.1 x.2.2.2.toNat).2.1.size:Int)>(12:Int))) (some true) (cond (rdL u0h x.2.1 x.2.2.2.toNat).2.2.1 (cond (!z7q (rdL u0h x.2.1 x.2.2.2.toNat).2.1 (⟨#[]⟩:Hs)) (some true) ((u03 ((rdL u0h x.2.1 x.2.2.2.toNat).2.2.2,1,9999)).bind fun y2=>cond (!y2) (some true) (cond (decide (x.2.2.2>0)) (cond (y4v (i64.wrap (x.2.2.2 - 1)) x.1.length) ((u7v (rdL u0h x.1 (i64.wrap (x.2.2.2 - 1)).toNat,rdL u0h x.2.1 x.2.2.2.toNat)).bind fun y3=>some (decide (y3>=0))) none) (some false)))) ((u03 ((rdL u0h x.2.1 x.2.2.2.toNat).2.2.2,1,9999)).bind fun y4=>cond (!y4) (some true) (cond (decide (x.2.2.2>0)) (cond (y4v (i64.wrap (x.2.2.2 - 1)) x.1.length) ((u7v (rdL u0h x.1 (i64.wrap (x.2.2.2 - 1)).toNat,rdL u0h x.2.1 x.2.2.2.toNat)).bind fun y5=>some (decide (y5>=0))) none) (some false)))))):La).bind fun j6=>cond j6 (some (.inr false)) (g (x.1,x.2.1,x.2.2.1,i64.wrap (x.2.2.2+1)))) none) (some (.inl x.1))
def t3v:=lpW _ _ t3l
theorem r2r x:t3v x=t3l t3v x:=zW r07 150 f150 2 55 x
def r6p(x:o01):La:=(t3v (x,x,(x.length:Int),0)).bind fun|.inl o8=>some (decide ((o8.length:Int)<=(120:Int)))|.inr z9=>some z9
theorem p6g:s51=r6p:=zC 150 func150
def t01(x:t0x):La:=zK 151 x
def s4m(x:t0x):La:=some (decide (x.2.1=3))
theorem s4r:t01=s4m:=zC 151 func151
def u4c(x:t0x):La:=zK 152 x
def o5j(x:t0x):La:=some (decide (x.2.1=2))
theorem o57:u4c=o5j:=zC 152 func152
def u3m(x:u9r):La:=zK 86 x
def s30(g:c3k->Ht d5e)(x:c3k):Ht d5e:=cond (decide (x.2.2.2<x.2.2.1)) (cond (y4v x.2.2.2 x.2.1.length) (cond (decide ((rdL u0h x.2.1 x.2.2.2.toNat).2.2.2>x.1.2.2.2.1)) (some (.inr false)) (g (x.1,x.2.1,x.2.2.1,i64.wrap (x.2.2.2+1)))) none) (some (.inl x.1))
def t7m:=lpW _ _ s30
theorem q7k x:t7m x=s30 t7m x:=zW q6f 86 f86 4 139 x
def s1d(g:Z86->Ht d5e)(x:Z86):Ht d5e:=cond (decide (x.2.2.2<x.2.2.1)) (cond (y4v x.2.2.2 x.2.1.length) ((((u6q (rdL u0a x.2.1 x.2.2.2.toNat)).bind fun y7=>cond (!y7) (some true) ((t01 (rdL u0a x.2.1 x.2.2.2.toNat)).bind fun y8=>cond (!y8) (some true) (cond (decide ((rdL u0a x.2.1 x.2.2.2.toNat).2.2.2.1>x.1.2.2.2.1)) (some true) (cond (decide (x.2.2.2>0)) (cond (y4v (i64.wrap (x.2.2.2 - 1)) x.1.2.1.length) (some (decide ((rdL u0a x.1.2.1 (i64.wrap (x.2.2.2 - 1)).toNat).2.2.2.1>=(rdL u0a x.2.1 x.2.2.2.toNat).2.2.2.1))) none) (some false))))):La).bind fun j9=>cond j9 (some (.inr false)) (g (x.1,x.2.1,x.2.2.1,i64.wrap (x.2.2.2+1)))) none) (some (.inl x.1))
def t4n:=lpW _ _ s1d
theorem q24 x:t4n x=s1d t4n x:=zW q1x 86 f86 10 139 x
def s1e(g:Z86->Ht d5e)(x:Z86):Ht d5e:=cond (decide (x.2.2.2<x.2.2.1)) (cond (y4v x.2.2.2 x.2.1.length) ((((u6q (rdL u0a x.2.1 x.2.2.2.toNat)).bind fun y12=>cond (!y12) (some true) ((u4c (rdL u0a x.2.1 x.2.2.2.toNat)).bind fun y13=>cond (!y13) (some true) (cond (decide ((rdL u0a x.2.1 x.2.2.2.toNat).2.2.1>x.1.2.2.2.1)) (some true) (cond (decide (x.2.2.2>0)) (cond (y4v (i64.wrap (x.2.2.2 - 1)) x.1.2.2.1.length) (some (!y3i (rdL u0a x.1.2.2.1 (i64.wrap (x.2.2.2 - 1)).toNat).2.2.2.2.2.2.2 (rdL u0a x.2.1 x.2.2.2.toNat).2.2.2.2.2.2.2)) none) (some false))))):La).bind fun j14=>cond j14 (some (.inr false)) (g (x.1,x.2.1,x.2.2.1,i64.wrap (x.2.2.2+1)))) none) (some (.inl x.1))
def t4o:=lpW _ _ s1e
theorem q25 x:t4o x=s1e t4o x:=zW q1y 86 f86 16 139 x
def p2t(x:u9r):La:=(((s51 x.1).bind fun y1=>cond (!y1) (some true) (cond (decide ((x.2.1.length:Int)>(12:Int))) (some true) (cond (decide ((x.2.2.1.length:Int)>(3:Int))) (some true) ((u03 (x.2.2.2.1,0,9999)).bind fun y2=>cond (!y2) (some true) ((u03 (x.2.2.2.2,1,9999)).bind fun y3=>some (!y3)))))):La).bind fun j4=>cond j4 (some false) ((t7m (x,x.1,(x.1.length:Int),0)).bind fun|.inl o6=>((t4n (o6,o6.2.1,(o6.2.1.length:Int),0)).bind fun|.inl o11=>((t4o (o11,o11.2.2.1,(o11.2.2.1.length:Int),0)).bind fun|.inl o16=>((u24 ([o16.2.1,o16.2.2.1]:Hu p1v)).bind fun y17=>(t5n (y17,o16.2.2.2.2)).bind fun y18=>some y18)|.inr z19=>some z19)|.inr z20=>some z20)|.inr z21=>some z21)
theorem o9y:u3m=p2t:=zC 86 func86
def r1n(x:s88):La:=zK 51 x
def t8o(g:Z64->Ht r0k)(x:Z64):Ht r0k:=cond (decide (x.2.2.2<x.2.2.1)) (cond (y4v x.2.2.2 x.2.1.length) ((((u6q (rdL u0a x.2.1 x.2.2.2.toNat)).bind fun y4=>cond (!y4) (some true) (cond (!decide ((rdL u0a x.2.1 x.2.2.2.toNat).2.1=1)) (some true) (cond (decide ((rdL u0a x.2.1 x.2.2.2.toNat).2.2.1>x.1.1.2.2.2.1)) (some true) (cond (decide (x.2.2.2>0)) (cond (y4v (i64.wrap (x.2.2.2 - 1)) x.1.2.length) (some (decide ((rdL u0a x.1.2 (i64.wrap (x.2.2.2 - 1)).toNat).1>=(rdL u0a x.2.1 x.2.2.2.toNat).1))) none) (some false))))):La).bind fun j5=>cond j5 (some (.inr false)) (g (x.1,x.2.1,x.2.2.1,i64.wrap (x.2.2.2+1)))) none) (some (.inl ()))
def t9h:=lpW _ _ t8o
theorem r8g x:t9h x=t8o t9h x:=zW r7f 51 f51 4 73 x
def q4v(x:s88):La:=(u3m x.1).bind fun y1=>cond (!y1) (some false) (cond (decide ((x.2.length:Int)>(4:Int))) (some false) ((u24 ([x.1.2.1,x.1.2.2.1,x.2]:Hu p1v)).bind fun y2=>(t5n (y2,x.1.2.2.2.2)).bind fun y3=>cond (!y3) (some false) ((t9h (x,x.2,(x.2.length:Int),0)).bind fun|.inl o7=>some true|.inr z8=>some z8)))
theorem o2h:r1n=q4v:=zC 51 func51
def q6y(x:s88):Ht Z87:=zK 27 x
def p7j(x:s88):Ht Z87:=(u11 x).bind fun y1=>(((r1n x).bind fun y2=>cond (!y2) (some true) (cond (decide ((x.2.length:Int)=(4:Int))) (some true) (some (decide (x.1.2.2.2.2=9999))))):La).bind fun j3=>cond j3 (some (y1,0,3)) (cond (Nat.ble (y1.2.length+([(x.1.2.2.2.2,1,x.1.2.2.2.1,0,([]:Li),([]:Lh),false,(⟨#[]⟩:Hs))]:Lc).length) z7z) (some (((y1.1.1,y1.1.2.1,y1.1.2.2.1,y1.1.2.2.2.1,i64.wrap (y1.1.2.2.2.2+1)),y1.2++([(x.1.2.2.2.2,1,x.1.2.2.2.1,0,([]:Li),([]:Lh),false,(⟨#[]⟩:Hs))]:Lc)),x.1.2.2.2.2,0)) none)
theorem j3c:q6y=p7j:=zC 27 func27
def p1f(x:Int):Ht Hs:=zK 52 x
theorem o7c:∀(x:Int),p1f x=y7k x:=y6p (P:=Tryz.prog) (A:=A) (f:=52) (F:=y7k) rfl
def r5v(x:Int):Ht Hs:=zK 28 x
def q80(x:Int):Ht Hs:=(p1f x).bind fun y1=>some y1
theorem o5p:r5v=q80:=zC 28 func28
def s4z(x:j55):La:=zK 100 x
def q4z(x:j55):La:=some (decide (x.1.1=x.2))
theorem o2l:s4z=q4z:=zC 100 func100
def u7c(x:j56):Lj:=zK 10004 x
def u5w(g:d2o->Ht r6g)(x:d2o):Ht r6g:=cond (decide (x.2.2.2<x.2.2.1)) (cond (y4v x.2.2.2 x.1.length) ((s4z (rdL u0a x.1 x.2.2.2.toNat,x.2.1)).bind fun y1=>cond y1 (some (.inr x.2.2.2)) (g (x.1,x.2.1,x.2.2.1,i64.wrap (x.2.2.2+1)))) none) (some (.inl ()))
def u1y:=lpW _ _ u5w
theorem t4h x:u1y x=u5w u1y x:=zW u56 10004 f99 2 19 x
def u66(x:j56):Lj:=(u1y (x.1,x.2,(x.1.length:Int),0)).bind fun|.inl o3=>some (- 1:Int)|.inr z4=>some z4
theorem t55:u7c=u66:=zC 10004 func99
def u84(x:Z94):Lj:=zK 56 x
def p21(x:Z94):Lj:=(u7c (x.1.2,x.2)).bind fun y1=>some y1
theorem o96:u84=p21:=zC 56 func56
def s02(x:c0m):Lj:=zK 319 x
def u28(g:c4v->Ht r6g)(x:c4v):Ht r6g:=cond (decide (x.2.2.2<x.2.2.1)) (cond (y4v x.2.2.2 x.1.length) (cond (z7q x.2.1.1 (rdL r0f x.1 x.2.2.2.toNat).1&&(z7q x.2.1.2 (rdL r0f x.1 x.2.2.2.toNat).2&&true)) (some (.inr x.2.2.2)) (g (x.1,x.2.1,x.2.2.1,i64.wrap (x.2.2.2+1)))) none) (some (.inl ()))
def u3a:=lpW _ _ u28
theorem t8k x:u3a x=u28 u3a x:=zW t74 319 f319 2 19 x
def s0v(x:c0m):Lj:=(u3a (x.1,x.2,(x.1.length:Int),0)).bind fun|.inl o2=>some (- 1:Int)|.inr z3=>some z3
theorem r5q:s02=s0v:=zC 319 func319
def u86(x:c0m):La:=zK 238 x
def t62(x:c0m):La:=(s02 x).bind fun y1=>some (decide (y1>=0))
theorem s9w:u86=t62:=zC 238 func238
def s8k(x:d92):Ht d2n:=zK 158 x
def q0s(x:d92):Ht d2n:=(u2n x.1).bind fun y1=>(((u6q x.1).bind fun y2=>cond (!y2) (some true) (cond (!decide (x.1.2.1=1)) (some true) ((s00 x.2).bind fun y3=>some (!y3)))):La).bind fun j4=>cond j4 (some (y1,false)) ((u86 (x.1.2.2.2.2.1,x.2)).bind fun y5=>cond y5 (some (y1,true)) (cond (decide ((x.1.2.2.2.2.1.length:Int)=(8:Int))) (some (y1,false)) (cond (Nat.ble (y1.2.2.2.2.1.length+([x.2]:Li).length) z7z) (some ((y1.1,y1.2.1,y1.2.2.1,y1.2.2.2.1,y1.2.2.2.2.1++([x.2]:Li),y1.2.2.2.2.2),true)) none)))
theorem p9h:s8k=q0s:=zC 158 func158
def r4h(x:Z71):Ht Z87:=zK 91 x
def p7u(x:Z71):Ht Z87:=(u11 x.1).bind fun y1=>(u84 (x.1,x.2.1)).bind fun y2=>cond (decide (y2<0)) (some (y1,y2,1)) (cond (!x.2.2.2) (some (y1,y2,2)) (cond (y4v y2 x.1.2.length) ((s8k (rdL u0a x.1.2 y2.toNat,x.2.2.1)).bind fun y3=>cond (!y3.2) (some (y1,y2,3)) (cond (y4v y2 y1.2.length) (some ((y1.1,y1.2.set y2.toNat y3.1),y2,0)) none)) none))
theorem j3n:r4h=p7u:=zC 91 func91
def s62(x:c5c):La:=zK 240 x
def o5k(x:c5c):La:=some (z7q x.1.1 x.2)
theorem o58:s62=o5k:=zC 240 func240
def u6x(x:(j1u×Hs)):Lj:=zK 10003 x
def u5f(g:c5b->Ht r6g)(x:c5b):Ht r6g:=cond (decide (x.2.2.2<x.2.2.1)) (cond (y4v x.2.2.2 x.1.length) ((s62 (rdL u12 x.1 x.2.2.2.toNat,x.2.1)).bind fun y1=>cond y1 (some (.inr x.2.2.2)) (g (x.1,x.2.1,x.2.2.1,i64.wrap (x.2.2.2+1)))) none) (some (.inl ()))
def u1t:=lpW _ _ u5f
theorem t3a x:u1t x=u5f u1t x:=zW u5p 10003 f239 2 19 x
def u6o(x:(j1u×Hs)):Lj:=(u1t (x.1,x.2,(x.1.length:Int),0)).bind fun|.inl o3=>some (- 1:Int)|.inr z4=>some z4
theorem t5g:u6x=u6o:=zC 10003 func239
def p8p(x:d0u):Lj:=zK 159 x
def p7s(x:d0u):Lj:=(u6x (x.1.2.2.2.2.2.1,x.2)).bind fun y1=>some y1
theorem j3l:p8p=p7s:=zC 159 func159
def s93(x:d42):Lj:=zK 241 x
def s34(g:c4g->Ht j8i)(x:c4g):Ht j8i:=cond (decide (x.2.2.2.2.2.2<x.2.2.2.2.2.1)) (cond (y4v x.2.2.2.2.2.2 x.2.2.2.2.1.length) (((cond (z7q (rdL u0h x.2.2.2.2.1 x.2.2.2.2.2.2.toNat).1 x.2.1) (cond (decide ((rdL u0h x.2.2.2.2.1 x.2.2.2.2.2.2.toNat).2.2.2<=x.2.2.1)) (cond (decide (x.2.2.2.1<0)) (some true) (cond (y4v x.2.2.2.1 x.1.length) (some (decide ((rdL u0h x.2.2.2.2.1 x.2.2.2.2.2.2.toNat).2.2.2>(rdL u0h x.1 x.2.2.2.1.toNat).2.2.2))) none)) (some false)) (some false)):La).bind fun j1=>cond j1 (g (x.1,x.2.1,x.2.2.1,x.2.2.2.2.2.2,x.2.2.2.2.1,x.2.2.2.2.2.1,i64.wrap (x.2.2.2.2.2.2+1))) (g (x.1,x.2.1,x.2.2.1,x.2.2.2.1,x.2.2.2.2.1,x.2.2.2.2.2.1,i64.wrap (x.2.2.2.2.2.2+1)))) none) (some (.inl x.2.2.2.1))
def t7n:=lpW _ _ s34
theorem q7o x:t7n x=s34 t7n x:=zW q6j 241 f241 3 44 x
def p3b(x:d42):Lj:=(t7n (x.1,x.2.1,x.2.2,(- 1:Int),x.1,(x.1.length:Int),0)).bind fun|.inl o3=>some o3|.inr z4=>none
theorem j0f:s93=p3b:=zC 241 func241
def r90(x:d42):Ht r0d:=zK 160 x
def p26(x:d42):Ht r0d:=(s93 x).bind fun y1=>((cond (decide (y1<0)) (some true) (cond (y4v y1 x.1.length) (some (rdL u0h x.1 y1.toNat).2.2.1) none)):La).bind fun j2=>cond j2 (some ((⟨#[]⟩:Hs),false)) (cond (y4v y1 x.1.length) (some ((rdL u0h x.1 y1.toNat).2.1,true)) none)
theorem j0b:r90=p26:=zC 160 func160
def s92(x:d9z):Ht r0d:=zK 93 x
def p22(x:d9z):Ht r0d:=(p8p (x.1,x.2.2)).bind fun y1=>cond (decide (y1>=0)) (cond (y4v y1 x.1.2.2.2.2.2.1.length) (cond (rdL u12 x.1.2.2.2.2.2.1 y1.toNat).2.2 (some ((⟨#[]⟩:Hs),false)) (cond (y4v y1 x.1.2.2.2.2.2.1.length) (some ((rdL u12 x.1.2.2.2.2.2.1 y1.toNat).2.1,true)) none)) none) ((r90 (x.2.1,x.2.2,x.1.2.2.1)).bind fun y2=>some y2)
theorem o97:s92=p22:=zC 93 func93
def r9x(x:Z81):Ht Z78:=zK 53 x
def p2z(x:Z81):Ht Z78:=(u9d x.2.2).bind fun y1=>(r4h (x.1,x.2.1,(x.2.2,x.2.2),y1)).bind fun y2=>cond (!decide (y2.2.2=0)) (some (y2.1,(⟨#[]⟩:Hs),false,y2.2.2)) (cond (y4v y2.2.1 x.1.2.length) ((s92 (rdL u0a x.1.2 y2.2.1.toNat,x.1.1.1,x.2.2)).bind fun y3=>some (y2.1,y3.1,y3.2,0)) none)
theorem o94:r9x=p2z:=zC 53 func53
def u9y(x:p5r):Ht p5r:=zK 162 x
theorem t7z:∀(x:p5r),u9y x=y7m x:=y6p (P:=Tryz.prog) (A:=A) (f:=162) (F:=y7m) rfl
def u7y(x:p5r):Ht p5r:=zK 163 x
theorem t3e:∀(x:p5r),u7y x=y0p x:=y6p (P:=Tryz.prog) (A:=A) (f:=163) (F:=y0p) rfl
def r93(x:o01):Ht p5r:=zK 161 x
def s33(g:c40->Ht (p5r⊕Unit))(x:c40):Ht (p5r⊕Unit):=cond (decide (x.2.2.2<x.2.2.1)) (cond (y4v x.2.2.2 x.2.1.length) (cond (Nat.ble (x.1.length+([(rdL u0h x.2.1 x.2.2.2.toNat).1]:Lg).length) z7z) (g (x.1++([(rdL u0h x.2.1 x.2.2.2.toNat).1]:Lg),x.2.1,x.2.2.1,i64.wrap (x.2.2.2+1))) none) none) (some (.inl x.1))
def s4f:=lpW _ _ s33
theorem q7n x:s4f x=s33 s4f x:=zW q6i 161 f161 3 22 x
def p3a(x:o01):Ht p5r:=(s4f (([]:Lg),x,(x.length:Int),0)).bind fun|.inl o2=>((u9y o2).bind fun y3=>(u7y y3).bind fun y4=>some y4)|.inr z5=>none
theorem j0e:r93=p3a:=zC 161 func161
def s6y(x:c0p):La:=zK 164 x
def q82(x:c0p):La:=((cond (!y3i x.2 x.1.1) (some (y3i x.2 x.1.2||z7q x.2 x.1.2)) (some false)):La).bind fun j1=>some j1
theorem o5r:s6y=q82:=zC 164 func164
end
end Go.Proofs.YtkphhjdbdnoekaaGreatDoor.Ab
