import Derived.Test.YtkdpclfhapphhaaGreatAbRecordsG1
namespace Go.Proofs.YtkdpclfhapphhaaGreat.Ab
open Go
set_option linter.unusedVariables false
noncomputable section
set_option maxRecDepth 100000
def u99(x:t8u):Ht Bool:=zK 375 x
def t25(g:q8j→Ht (t8u⊕Bool))(x:q8j):Ht (t8u⊕Bool):=cond (decide (x.2<(x.1.1.length:Int))) (cond (y4q x.2 x.1.1.length) (cond (!decide (((rdL Ty.str x.1.1 x.2.toNat).size:Int)=(64:Int))) (some (.inr false)) (g (x.1,IntKind.i64.wrap (x.2+1)))) none) (some (.inl x.1))
def t3a:=lpW _ _ t25
theorem s8s x:t3a x=t25 t3a x:=zW s71 375 Tryz.f375 4 59 x (by kernel_rfl)
def t26(g:q8j→Ht r2n)(x:q8j):Ht r2n:=cond (decide (x.2<(x.1.2.length:Int))) (((cond (y4q x.2 x.1.2.length) ((u0r ((rdL p1t x.1.2 x.2.toNat).1,0,IntKind.i64.wrap ((x.1.1.length:Int) - (1:Int)))).bind fun y5=>cond (!y5) (some true) (cond (y4q x.2 x.1.2.length) (some (!decide (((rdL p1t x.1.2 x.2.toNat).2.size:Int)=(64:Int)))) none)) none):Ht Bool).bind fun j6=>cond j6 (some (.inr false)) (g (x.1,IntKind.i64.wrap (x.2+1)))) (some (.inl ()))
def t3b:=lpW _ _ t26
theorem s8t x:t3b x=t26 t3b x:=zW s72 375 Tryz.f375 9 59 x (by kernel_rfl)
def r24 (x:t8u):Ht Bool:=(((u0r ((x.1.length:Int),1,100)).bind fun y1=>cond (!y1) (some true) (some (decide ((x.2.length:Int)>(60:Int))))):Ht Bool).bind fun j2=>cond j2 (some false) ((t3a (x,0)).bind fun r3=>match r3 with | .inl o4=>((t3b (o4,0)).bind fun r7=>match r7 with | .inl o8=>some true | .inr z9=>some z9) | .inr z10=>some z10)
theorem q4j:u99=r24:=zC 375 rfl Tryz.func375 (by kernel_rfl)
def t9p(x:t8u):Ht Bool:=zK 303 x
def r6k (x:t8u):Ht Bool:=(((u99 x).bind fun y1=>cond (!y1) (some true) ((u6f ()).bind fun y2=>cond (!decide ((x.1.length:Int)=y2)) (some true) (some (decide ((x.2.length:Int)>(0:Int)))))):Ht Bool).bind fun j3=>cond j3 (some false) ((u6c (x,0)).bind fun y4=>(u6c (x,1)).bind fun y5=>((cond y4.2.2 (some y5.2.2) (some false)):Ht Bool).bind fun j6=>some j6)
theorem q63:t9p=r6k:=zC 303 rfl Tryz.func303 (by kernel_rfl)
def u47(x:t8u):Ht t8u:=zK 351 x
def u74(g:Z94→Ht (p7m⊕Unit))(x:Z94):Ht (p7m⊕Unit):=cond (decide (x.2.2.2<(x.1.2.length:Int))) (cond (y4q x.2.2.2 x.1.2.length) (cond (y4q x.2.2.2 x.1.2.length) (cond (y4q (rdL p1t x.1.2 x.2.2.2.toNat).1 x.2.2.1.1.length) (g (x.1,x.2.1,(x.2.2.1.1.set ((rdL p1t x.1.2 x.2.2.2.toNat).1).toNat (rdL p1t x.1.2 x.2.2.2.toNat).2,x.2.2.1.2),IntKind.i64.wrap (x.2.2.2+1))) none) none) none) (some (.inl (x.2.1,x.2.2.1)))
def u8c:=lpW _ _ u74
theorem t90 x:u8c x=u74 u8c x:=zW t9h 351 Tryz.f351 5 36 x (by kernel_rfl)
def s30 (x:t8u):Ht t8u:=(u04 x).bind fun y1=>(u99 x).bind fun y2=>cond (!y2) (some y1) ((u8c (x,(([]:Hu Hs),([]:Hu p1t.den)),y1,0)).bind fun r3=>match r3 with | .inl o4=>some (o4.2.1,([]:Hu p1t.den)) | .inr z5=>none)
theorem r7q:u47=s30:=zC 351 rfl Tryz.func351 (by kernel_rfl)
def u8j(x:p5o):Ht r46:=zK 352 x
def t87 (x:p5o):Ht r46:=(u04 x.1).bind fun y1=>(((u99 x.1).bind fun y2=>cond (!y2) (some true) ((u0r (x.2.1,0,IntKind.i64.wrap ((x.1.1.length:Int) - (1:Int)))).bind fun y3=>cond (!y3) (some true) (cond (!decide ((x.2.2.size:Int)=(64:Int))) (some true) (some (decide ((x.1.2.length:Int)≥(60:Int))))))):Ht Bool).bind fun j4=>cond j4 (some (y1,false)) (cond (Nat.ble (y1.2.length+([x.2]:Hu p1t.den).length) z7w) (some ((y1.1,y1.2++([x.2]:Hu p1t.den)),true)) none)
theorem r33:u8j=t87:=zC 352 rfl Tryz.func352 (by kernel_rfl)
def u6e(x:o1p):Ht r46:=zK 349 x
def t2j(g:Z61→Ht (p7m⊕r46))(x:Z61):Ht (p7m⊕r46):=cond (decide (x.2.2.2.2.2.2<(x.2.2.1.size:Int))) (cond (decide ((IntKind.i64.wrap ((64:Int) - (Int.tmod (IntKind.i64.wrap (x.2.1+x.2.2.2.2.2.2)) (64:Int))))>(IntKind.i64.wrap ((x.2.2.1.size:Int) - x.2.2.2.2.2.2)))) ((u4p (x.2.2.2.2.2.1,IntKind.i64.wrap (x.1+(IntKind.i64.wrap (Int.tdiv (IntKind.i64.wrap (x.2.1+x.2.2.2.2.2.2)) (64:Int)))))).bind fun y6=>((cond (!y6.2) (some true) (some (!decide ((y6.1.size:Int)=(64:Int))))):Ht Bool).bind fun j7=>cond j7 ((u04 x.2.2.2.1).bind fun y8=>some (.inr (y8,false))) (cond (decide (0≤(0:Int))&&decide ((0:Int)≤(Int.tmod (IntKind.i64.wrap (x.2.1+x.2.2.2.2.2.2)) (64:Int)))&&decide ((Int.tmod (IntKind.i64.wrap (x.2.1+x.2.2.2.2.2.2)) (64:Int))≤(y6.1.size:Int))) (cond (decide (0≤x.2.2.2.2.2.2)&&decide (x.2.2.2.2.2.2≤(IntKind.i64.wrap (x.2.2.2.2.2.2+(IntKind.i64.wrap ((x.2.2.1.size:Int) - x.2.2.2.2.2.2)))))&&decide ((IntKind.i64.wrap (x.2.2.2.2.2.2+(IntKind.i64.wrap ((x.2.2.1.size:Int) - x.2.2.2.2.2.2))))≤(x.2.2.1.size:Int))) (cond (decide ((y6.1.extract (0:Int).toNat (Int.tmod (IntKind.i64.wrap (x.2.1+x.2.2.2.2.2.2)) (64:Int)).toNat).size+(x.2.2.1.extract x.2.2.2.2.2.2.toNat (IntKind.i64.wrap (x.2.2.2.2.2.2+(IntKind.i64.wrap ((x.2.2.1.size:Int) - x.2.2.2.2.2.2)))).toNat).size≤140737488355328)) (cond (decide (0≤(IntKind.i64.wrap ((Int.tmod (IntKind.i64.wrap (x.2.1+x.2.2.2.2.2.2)) (64:Int))+(IntKind.i64.wrap ((x.2.2.1.size:Int) - x.2.2.2.2.2.2)))))&&decide ((IntKind.i64.wrap ((Int.tmod (IntKind.i64.wrap (x.2.1+x.2.2.2.2.2.2)) (64:Int))+(IntKind.i64.wrap ((x.2.2.1.size:Int) - x.2.2.2.2.2.2))))≤(y6.1.size:Int))&&decide ((y6.1.size:Int)≤(y6.1.size:Int))) (cond (decide (((y6.1.extract (0:Int).toNat (Int.tmod (IntKind.i64.wrap (x.2.1+x.2.2.2.2.2.2)) (64:Int)).toNat)++(x.2.2.1.extract x.2.2.2.2.2.2.toNat (IntKind.i64.wrap (x.2.2.2.2.2.2+(IntKind.i64.wrap ((x.2.2.1.size:Int) - x.2.2.2.2.2.2)))).toNat)).size+(y6.1.extract (IntKind.i64.wrap ((Int.tmod (IntKind.i64.wrap (x.2.1+x.2.2.2.2.2.2)) (64:Int))+(IntKind.i64.wrap ((x.2.2.1.size:Int) - x.2.2.2.2.2.2)))).toNat (y6.1.size:Int).toNat).size≤140737488355328)) ((u8j (x.2.2.2.2.2.1,IntKind.i64.wrap (x.1+(IntKind.i64.wrap (Int.tdiv (IntKind.i64.wrap (x.2.1+x.2.2.2.2.2.2)) (64:Int)))),((y6.1.extract (0:Int).toNat (Int.tmod (IntKind.i64.wrap (x.2.1+x.2.2.2.2.2.2)) (64:Int)).toNat)++(x.2.2.1.extract x.2.2.2.2.2.2.toNat (IntKind.i64.wrap (x.2.2.2.2.2.2+(IntKind.i64.wrap ((x.2.2.1.size:Int) - x.2.2.2.2.2.2)))).toNat))++(y6.1.extract (IntKind.i64.wrap ((Int.tmod (IntKind.i64.wrap (x.2.1+x.2.2.2.2.2.2)) (64:Int))+(IntKind.i64.wrap ((x.2.2.1.size:Int) - x.2.2.2.2.2.2)))).toNat (y6.1.size:Int).toNat))).bind fun y9=>cond (!y9.2) ((u04 x.2.2.2.1).bind fun y10=>some (.inr (y10,false))) (g (x.1,x.2.1,x.2.2.1,x.2.2.2.1,x.2.2.2.2.1,y9.1,IntKind.i64.wrap (x.2.2.2.2.2.2+(IntKind.i64.wrap ((x.2.2.1.size:Int) - x.2.2.2.2.2.2)))))) none) none) none) none) none)) ((u4p (x.2.2.2.2.2.1,IntKind.i64.wrap (x.1+(IntKind.i64.wrap (Int.tdiv (IntKind.i64.wrap (x.2.1+x.2.2.2.2.2.2)) (64:Int)))))).bind fun y11=>((cond (!y11.2) (some true) (some (!decide ((y11.1.size:Int)=(64:Int))))):Ht Bool).bind fun j12=>cond j12 ((u04 x.2.2.2.1).bind fun y13=>some (.inr (y13,false))) (cond (decide (0≤(0:Int))&&decide ((0:Int)≤(Int.tmod (IntKind.i64.wrap (x.2.1+x.2.2.2.2.2.2)) (64:Int)))&&decide ((Int.tmod (IntKind.i64.wrap (x.2.1+x.2.2.2.2.2.2)) (64:Int))≤(y11.1.size:Int))) (cond (decide (0≤x.2.2.2.2.2.2)&&decide (x.2.2.2.2.2.2≤(IntKind.i64.wrap (x.2.2.2.2.2.2+(IntKind.i64.wrap ((64:Int) - (Int.tmod (IntKind.i64.wrap (x.2.1+x.2.2.2.2.2.2)) (64:Int)))))))&&decide ((IntKind.i64.wrap (x.2.2.2.2.2.2+(IntKind.i64.wrap ((64:Int) - (Int.tmod (IntKind.i64.wrap (x.2.1+x.2.2.2.2.2.2)) (64:Int))))))≤(x.2.2.1.size:Int))) (cond (decide ((y11.1.extract (0:Int).toNat (Int.tmod (IntKind.i64.wrap (x.2.1+x.2.2.2.2.2.2)) (64:Int)).toNat).size+(x.2.2.1.extract x.2.2.2.2.2.2.toNat (IntKind.i64.wrap (x.2.2.2.2.2.2+(IntKind.i64.wrap ((64:Int) - (Int.tmod (IntKind.i64.wrap (x.2.1+x.2.2.2.2.2.2)) (64:Int)))))).toNat).size≤140737488355328)) (cond (decide (0≤(IntKind.i64.wrap ((Int.tmod (IntKind.i64.wrap (x.2.1+x.2.2.2.2.2.2)) (64:Int))+(IntKind.i64.wrap ((64:Int) - (Int.tmod (IntKind.i64.wrap (x.2.1+x.2.2.2.2.2.2)) (64:Int)))))))&&decide ((IntKind.i64.wrap ((Int.tmod (IntKind.i64.wrap (x.2.1+x.2.2.2.2.2.2)) (64:Int))+(IntKind.i64.wrap ((64:Int) - (Int.tmod (IntKind.i64.wrap (x.2.1+x.2.2.2.2.2.2)) (64:Int))))))≤(y11.1.size:Int))&&decide ((y11.1.size:Int)≤(y11.1.size:Int))) (cond (decide (((y11.1.extract (0:Int).toNat (Int.tmod (IntKind.i64.wrap (x.2.1+x.2.2.2.2.2.2)) (64:Int)).toNat)++(x.2.2.1.extract x.2.2.2.2.2.2.toNat (IntKind.i64.wrap (x.2.2.2.2.2.2+(IntKind.i64.wrap ((64:Int) - (Int.tmod (IntKind.i64.wrap (x.2.1+x.2.2.2.2.2.2)) (64:Int)))))).toNat)).size+(y11.1.extract (IntKind.i64.wrap ((Int.tmod (IntKind.i64.wrap (x.2.1+x.2.2.2.2.2.2)) (64:Int))+(IntKind.i64.wrap ((64:Int) - (Int.tmod (IntKind.i64.wrap (x.2.1+x.2.2.2.2.2.2)) (64:Int)))))).toNat (y11.1.size:Int).toNat).size≤140737488355328)) ((u8j (x.2.2.2.2.2.1,IntKind.i64.wrap (x.1+(IntKind.i64.wrap (Int.tdiv (IntKind.i64.wrap (x.2.1+x.2.2.2.2.2.2)) (64:Int)))),((y11.1.extract (0:Int).toNat (Int.tmod (IntKind.i64.wrap (x.2.1+x.2.2.2.2.2.2)) (64:Int)).toNat)++(x.2.2.1.extract x.2.2.2.2.2.2.toNat (IntKind.i64.wrap (x.2.2.2.2.2.2+(IntKind.i64.wrap ((64:Int) - (Int.tmod (IntKind.i64.wrap (x.2.1+x.2.2.2.2.2.2)) (64:Int)))))).toNat))++(y11.1.extract (IntKind.i64.wrap ((Int.tmod (IntKind.i64.wrap (x.2.1+x.2.2.2.2.2.2)) (64:Int))+(IntKind.i64.wrap ((64:Int) - (Int.tmod (IntKind.i64.wrap (x.2.1+x.2.2.2.2.2.2)) (64:Int)))))).toNat (y11.1.size:Int).toNat))).bind fun y14=>cond (!y14.2) ((u04 x.2.2.2.1).bind fun y15=>some (.inr (y15,false))) (g (x.1,x.2.1,x.2.2.1,x.2.2.2.1,x.2.2.2.2.1,y14.1,IntKind.i64.wrap (x.2.2.2.2.2.2+(IntKind.i64.wrap ((64:Int) - (Int.tmod (IntKind.i64.wrap (x.2.1+x.2.2.2.2.2.2)) (64:Int)))))))) none) none) none) none) none))) (some (.inl (x.2.2.2.2.1,x.2.2.2.2.2.1)))
def u27:=lpW _ _ t2j
theorem r2l x:u27 x=t2j u27 x:=zW t7y 349 Tryz.f349 5 111 x (by kernel_rfl)
def s04 (x:o1p):Ht r46:=(u04 x.1).bind fun y1=>(((u0r (x.2.2.1,0,6400)).bind fun y2=>cond (!y2) (some true) ((u0r (x.2.1,0,IntKind.i64.wrap ((x.1.1.length:Int) - (1:Int)))).bind fun y3=>cond (!y3) (some true) ((u99 x.1).bind fun y4=>some (!y4)))):Ht Bool).bind fun j5=>cond j5 (some (y1,false)) ((u27 (x.2.1,x.2.2.1,x.2.2.2,x.1,(([]:Hu Hs),([]:Hu p1t.den)),y1,0)).bind fun r16=>match r16 with | .inl o17=>some (o17.2,true) | .inr z18=>some z18)
theorem r5n:u6e=s04:=zC 349 rfl Tryz.func349 (by kernel_rfl)
def t3v(x:Int):Ht Hs:=zK 350 x
def q32 (x:Int):Ht Hs:=some (y7g ([(IntKind.u8.wrap x)]:Hu Int))
theorem r34:t3v=q32:=zC 350 rfl Tryz.func350 (by kernel_rfl)
def t3u(x:p9c):Ht r46:=zK 379 x
def s7h (x:p9c):Ht r46:=(u46 x.2.1).bind fun y1=>(t3v x.2.2).bind fun y2=>(u6e (x.1,y1,0,y2)).bind fun y3=>some y3
theorem r9o:t3u=s7h:=zC 379 rfl Tryz.func379 (by kernel_rfl)
def t8d(x:p5o):Ht r46:=zK 377 x
def s7g (x:p5o):Ht r46:=(u6c (x.1,x.2.1)).bind fun y1=>((cond (!y1.2.2) (some true) (cond (z7o x.2.2 (⟨#[]⟩:Hs)) (some true) (cond (decide ((x.2.2.size:Int)>(3008:Int))) (some true) ((t0x (x.1,x.2.1)).bind fun y2=>some (decide (y2≥255)))))):Ht Bool).bind fun j3=>cond j3 ((u04 x.1).bind fun y4=>some (y4,false)) ((u1d (x.2.2.size:Int)).bind fun y5=>cond (decide (y5.size+x.2.2.size≤140737488355328)) (cond (decide (((y5++x.2.2).size:Int)>(IntKind.i64.wrap ((3008:Int) - y1.2.1)))) ((u04 x.1).bind fun y6=>some (y6,false)) ((u46 x.2.1).bind fun y7=>(u6e (x.1,IntKind.i64.wrap (y7+1),y1.2.1,y5++x.2.2)).bind fun y8=>some y8)) none)
theorem r9n:t8d=s7g:=zC 377 rfl Tryz.func377 (by kernel_rfl)
def t64(x:p5o):Ht r46:=zK 405 x
def r3h (x:p5o):Ht r46:=(t8d x).bind fun y1=>cond (!y1.2) (some (y1.1,false)) ((u47 y1.1).bind fun y2=>(t0x (x.1,x.2.1)).bind fun y3=>(t3u (y2,x.2.1,IntKind.i64.wrap (y3+1))).bind fun y4=>(u47 y4.1).bind fun y5=>some (y5,y4.2))
theorem q4w:t64=r3h:=zC 405 rfl Tryz.func405 (by kernel_rfl)
def s0k(x:p9a):Ht r46:=zK 353 x
def u67(g:Z99→Ht (o1f⊕Unit))(x:Z99):Ht (o1f⊕Unit):=((cond (decide (x.2.2.2.2.2<(x.1.length:Int))) (some x.2.2.2.2.1) (some false)):Ht Bool).bind fun j4=>cond j4 (cond (y4q x.2.2.2.2.2 x.1.length) ((t64 (x.2.2.2.1,x.2.2.1,rdL Ty.str x.1 x.2.2.2.2.2.toNat)).bind fun y5=>g (x.1,x.2.1,x.2.2.1,y5.1,y5.2,IntKind.i64.wrap (x.2.2.2.2.2+1))) none) (some (.inl (x.2.1,x.2.2.2.1,x.2.2.2.2.1)))
def u7n:=lpW _ _ u67
theorem t6g x:u7n x=u67 u7n x:=zW s49 353 Tryz.f353 5 42 x (by kernel_rfl)
def r0n (x:p9a):Ht r46:=(u84 x.1).bind fun y1=>(t3u (x.1,IntKind.i64.wrap ((1:Int) - y1),0)).bind fun y2=>(u47 y2.1).bind fun y3=>(u7n (x.2,(([]:Hu Hs),([]:Hu p1t.den)),IntKind.i64.wrap ((1:Int) - y1),y3,y2.2,0)).bind fun r6=>match r6 with | .inl o7=>some o7.2 | .inr z8=>none
theorem q1y:s0k=r0n:=zC 353 rfl Tryz.func353 (by kernel_rfl)
def s0l(x:t8u):Ht r46:=zK 354 x
def r0o (x:t8u):Ht r46:=(t00 (x,0)).bind fun y1=>(t3v (IntKind.i64.wrap (y1+1))).bind fun y2=>(u6e (x,0,0,y2)).bind fun y3=>some y3
theorem q1z:s0l=r0o:=zC 354 rfl Tryz.func354 (by kernel_rfl)
def t6b(x:p9a):Ht r46:=zK 262 x
def s35 (x:p9a):Ht r46:=(t9p x.1).bind fun y1=>cond (!y1) ((u04 x.1).bind fun y2=>some (y2,false)) ((s0k x).bind fun y3=>cond (!y3.2) ((u04 x.1).bind fun y4=>some (y4,false)) ((s0l y3.1).bind fun y5=>cond (!y5.2) ((u04 x.1).bind fun y6=>some (y6,false)) ((u47 y5.1).bind fun y7=>some (y7,true))))
theorem r7v:t6b=s35:=zC 262 rfl Tryz.func262 (by kernel_rfl)
def t30(x:t8u):Ht r46:=zK 156 x
def s7k (x:t8u):Ht r46:=(t5c x).bind fun y1=>(u11 (4,(0,0,0,0,([]:Hu q0z.den),([]:Hu u2n.den),false,(⟨#[]⟩:Hs)),(⟨#[]⟩:Hs),false,y1.1)).bind fun y2=>((cond (!y1.2) (some true) (some (!y2.2))):Ht Bool).bind fun j3=>cond j3 ((u04 x).bind fun y4=>some (y4,false)) ((t6b (x,([y2.1]:Hu Hs))).bind fun y5=>some y5)
theorem r9r:t30=s7k:=zC 156 rfl Tryz.func156 (by kernel_rfl)
def u6b(x:Z43):Ht Z38:=zK 52 x
def s62 (x:Z43):Ht Z38:=(s0o x).bind fun y1=>(t30 x.2).bind fun y2=>cond y2.2 (some ((y1.1,y2.1),y2.2)) (some (y1,y2.2))
theorem r9a:u6b=s62:=zC 52 rfl Tryz.func52 (by kernel_rfl)
def t2d(x:o06):Ht p7l:=zK 358 x
def u77(g:Z15→Ht (Z16⊕p7l))(x:Z15):Ht (Z16⊕p7l):=cond (decide (x.2.2.2.2<(x.1.2.2.2.2.1.length:Int))) (cond (y4q x.2.2.2.2 x.1.2.2.2.2.1.length) (cond (z7o (rdL q0z x.1.2.2.2.2.1 x.2.2.2.2.toNat).1 x.2.1.1&&(z7o (rdL q0z x.1.2.2.2.2.1 x.2.2.2.2.toNat).2 x.2.1.2&&true)) (some (.inr (x.2.2.2.1,true))) (g (x.1,x.2.1,x.2.2.1,x.2.2.2.1,IntKind.i64.wrap (x.2.2.2.2+1)))) none) (some (.inl (x.1,x.2.1,x.2.2.1,x.2.2.2.1)))
def u5h:=lpW _ _ u77
theorem t93 x:u5h x=u77 u5h x:=zW t9k 358 Tryz.f358 5 51 x (by kernel_rfl)
def s33 (x:o06):Ht p7l:=(u0t x.1).bind fun y1=>(((u4j x.1).bind fun y2=>cond (!y2) (some true) (cond (!decide (x.1.2.1=1)) (some true) ((t0y x.2).bind fun y3=>some (!y3)))):Ht Bool).bind fun j4=>cond j4 (some (y1,false)) ((u5h (x.1,x.2,(0,0,0,0,([]:Hu q0z.den),([]:Hu u2n.den),false,(⟨#[]⟩:Hs)),y1,0)).bind fun r5=>match r5 with | .inl o6=>cond (decide ((o6.1.2.2.2.2.1.length:Int)≥(8:Int))) (some (o6.2.2.2,false)) (cond (Nat.ble (o6.2.2.2.2.2.2.2.1.length+([o6.2.1]:Hu q0z.den).length) z7w) (some ((o6.2.2.2.1,o6.2.2.2.2.1,o6.2.2.2.2.2.1,o6.2.2.2.2.2.2.1,o6.2.2.2.2.2.2.2.1++([o6.2.1]:Hu q0z.den),o6.2.2.2.2.2.2.2.2),true)) none) | .inr z7=>some z7)
theorem r7t:t2d=s33:=zC 358 rfl Tryz.func358 (by kernel_rfl)
def s29(x:p9g):Ht s3l:=zK 20 x
def r3d (x:p9g):Ht s3l:=(t9s x).bind fun y1=>((cond (decide (y1<0)) (some true) (cond (y4q y1 x.1.length) (some (rdL u0g x.1 y1.toNat).2.2.1) none)):Ht Bool).bind fun j2=>cond j2 (some ((⟨#[]⟩:Hs),false)) (cond (y4q y1 x.1.length) (some ((rdL u0g x.1 y1.toNat).2.1,true)) none)
theorem q4s:s29=r3d:=zC 20 rfl Tryz.func20 (by kernel_rfl)
def t63(x:Z87):Ht s3l:=zK 359 x
def u8o(g:Z77→Ht (Z88⊕s3l))(x:Z77):Ht (Z88⊕s3l):=cond (decide (x.2.2.2<(x.2.2.1.2.2.2.2.2.1.length:Int))) (cond (y4q x.2.2.2 x.2.2.1.2.2.2.2.2.1.length) (cond (z7o (rdL u2n x.2.2.1.2.2.2.2.2.1 x.2.2.2.toNat).1 x.2.1) (cond (y4q x.2.2.2 x.2.2.1.2.2.2.2.2.1.length) (cond (rdL u2n x.2.2.1.2.2.2.2.2.1 x.2.2.2.toNat).2.2 (some (.inr ((⟨#[]⟩:Hs),false))) (cond (y4q x.2.2.2 x.2.2.1.2.2.2.2.2.1.length) (some (.inr ((rdL u2n x.2.2.1.2.2.2.2.2.1 x.2.2.2.toNat).2.1,true))) none)) none) (g (x.1,x.2.1,x.2.2.1,IntKind.i64.wrap (x.2.2.2+1)))) none) (some (.inl (x.1,x.2.1,x.2.2.1)))
def u8v:=lpW _ _ u8o
theorem s8v x:u8v x=u8o u8v x:=zW s74 359 Tryz.f359 2 43 x (by kernel_rfl)
def r29 (x:Z87):Ht s3l:=(u8v (x.2.1,x.2.2,x.1,0)).bind fun r1=>match r1 with | .inl o2=>((s29 (o2.1,o2.2.1,o2.2.2.2.2.1)).bind fun y3=>some y3) | .inr z4=>some z4
theorem q4o:t63=r29:=zC 359 rfl Tryz.func359 (by kernel_rfl)
def t0a(x:Z50):Ht Z47:=zK 269 x
def r26 (x:Z50):Ht Z47:=(u0n x.1).bind fun y1=>(u4d (x.1,x.2.1)).bind fun y2=>cond (decide (y2<0)) (some (y1,(⟨#[]⟩:Hs),false,1)) ((u4h x.2.2).bind fun y3=>cond (!y3) (some (y1,(⟨#[]⟩:Hs),false,2)) (cond (y4q y2 x.1.2.length) ((t2d (rdL u0a x.1.2 y2.toNat,x.2.2,x.2.2)).bind fun y4=>cond (!y4.2) (some (y1,(⟨#[]⟩:Hs),false,3)) (cond (y4q y2 y1.2.length) ((t63 (y4.1,x.1.1.1,x.2.2)).bind fun y5=>some ((y1.1,y1.2.set y2.toNat y4.1),y5.1,y5.2,0)) none)) none))
theorem q4l:t0a=r26:=zC 269 rfl Tryz.func269 (by kernel_rfl)
def u2z(x:s2n):Ht p5q:=zK 270 x
def s2w (x:s2n):Ht p5q:=(u1g (x,([(⟨#[97]⟩:Hs),(⟨#[98]⟩:Hs),(⟨#[99]⟩:Hs),(⟨#[100]⟩:Hs),(⟨#[97,98]⟩:Hs)]:Hu Hs))).bind fun y1=>some y1
theorem r35:u2z=s2w:=zC 270 rfl Tryz.func270 (by kernel_rfl)
def s0m(x:o0j):Ht p3t:=zK 331 x
def t1u(g:p82→Ht (o09⊕Unit))(x:p82):Ht (o09⊕Unit):=cond (decide (x.2.2.2.2.2.2<(x.2.2.1.length:Int))) (cond (y4q x.2.2.2.2.2.2 x.2.2.1.length) (cond (y3c (rdL Ty.str x.2.2.1 x.2.2.2.2.2.2.toNat) x.2.2.2.2.1) (cond (y4q x.2.2.2.2.2.2 x.2.2.1.length) (cond (Nat.ble (x.2.2.2.2.2.1.length+([(rdL Ty.str x.2.2.1 x.2.2.2.2.2.2.toNat)]:Hu Hs).length) z7w) (g (x.1,x.2.1,x.2.2.1,x.2.2.2.1,x.2.2.2.2.1,x.2.2.2.2.2.1++([(rdL Ty.str x.2.2.1 x.2.2.2.2.2.2.toNat)]:Hu Hs),IntKind.i64.wrap (x.2.2.2.2.2.2+1))) none) none) (g (x.1,x.2.1,x.2.2.1,x.2.2.2.1,x.2.2.2.2.1,x.2.2.2.2.2.1,IntKind.i64.wrap (x.2.2.2.2.2.2+1)))) none) (some (.inl (x.1,x.2.1,x.2.2.1,x.2.2.2.1,x.2.2.2.2.1,x.2.2.2.2.2.1)))
def u7o:=lpW _ _ t1u
theorem s56 x:u7o x=t1u u7o x:=zW s5b 331 Tryz.f331 9 72 x (by kernel_rfl)
def u9w(g:p82→Ht (o1h⊕Unit))(x:p82):Ht (o1h⊕Unit):=cond (decide (x.2.2.2.2.2.2<(x.2.2.1.length:Int))) (cond (y4q x.2.2.2.2.2.2 x.2.2.1.length) (cond (!(y3c (rdL Ty.str x.2.2.1 x.2.2.2.2.2.2.toNat) x.2.2.2.2.1||z7o (rdL Ty.str x.2.2.1 x.2.2.2.2.2.2.toNat) x.2.2.2.2.1)) (cond (y4q x.2.2.2.2.2.2 x.2.2.1.length) (cond (Nat.ble (x.2.2.2.2.2.1.length+([(rdL Ty.str x.2.2.1 x.2.2.2.2.2.2.toNat)]:Hu Hs).length) z7w) (g (x.1,x.2.1,x.2.2.1,x.2.2.2.1,x.2.2.2.2.1,x.2.2.2.2.2.1++([(rdL Ty.str x.2.2.1 x.2.2.2.2.2.2.toNat)]:Hu Hs),IntKind.i64.wrap (x.2.2.2.2.2.2+1))) none) none) (g (x.1,x.2.1,x.2.2.1,x.2.2.2.1,x.2.2.2.2.1,x.2.2.2.2.2.1,IntKind.i64.wrap (x.2.2.2.2.2.2+1)))) none) (some (.inl (x.1,x.2.1,x.2.2.2.1,x.2.2.2.2.2.1)))
def u56:=lpW _ _ u9w
theorem s2m x:u56 x=u9w u56 x:=zW s1x 331 Tryz.f331 15 72 x (by kernel_rfl)
def t1t(g:o1i→Ht (p3t⊕Unit))(x:o1i):Ht (p3t⊕Unit):=cond (decide (x.2.2.2<(x.1.length:Int))) (cond (y4q x.2.2.2 x.1.length) ((t5b (x.2.1,(rdL u0g x.1 x.2.2.2.toNat).1)).bind fun y1=>cond (!y1) (g (x.1,x.2.1,x.2.2.1,IntKind.i64.wrap (x.2.2.2+1))) ((u7o (x.1,x.2.1,x.2.2.1,x.2.2.2,(rdL u0g x.1 x.2.2.2.toNat).1,([]:Hu Hs),0)).bind fun r2=>match r2 with | .inl o3=>cond (Nat.ble (o3.2.2.2.2.2.length+([o3.2.2.2.2.1]:Hu Hs).length) z7w) ((u56 (o3.1,o3.2.1,o3.2.2.1,o3.2.2.2.1,o3.2.2.2.2.1,o3.2.2.2.2.2++([o3.2.2.2.2.1]:Hu Hs),0)).bind fun r4=>match r4 with | .inl o5=>g (o5.1,o5.2.1,o5.2.2.2,IntKind.i64.wrap (o5.2.2.1+1)) | .inr z6=>some (.inr ())) none | .inr z7=>some (.inr ()))) none) (some (.inl x.2.2.1))
def t17:=lpW _ _ t1t
theorem s55 x:t17 x=t1t t17 x:=zW s5a 331 Tryz.f331 3 72 x (by kernel_rfl)
def r0p (x:o0j):Ht p3t:=(t17 (x.1,x.2,([]:Hu Hs),0)).bind fun r8=>match r8 with | .inl o9=>some o9 | .inr z10=>none
theorem q10:s0m=r0p:=zC 331 rfl Tryz.func331 (by kernel_rfl)
def s0e(x:Z74):Ht (Hu q0z.den):=zK 360 x
def t1i(g:Z51→Ht (Z58⊕Unit))(x:Z51):Ht (Z58⊕Unit):=cond (decide (x.2.2.2.2<(x.2.1.2.2.2.2.2.1.length:Int))) (cond (y4q x.2.2.2.2 x.2.1.2.2.2.2.2.1.length) (cond (Nat.ble (x.2.2.2.1.length+([((rdL u2n x.2.1.2.2.2.2.2.1 x.2.2.2.2.toNat).1,(⟨#[]⟩:Hs),false,0)]:Hu u0g.den).length) z7w) (g (x.1,x.2.1,x.2.2.1,x.2.2.2.1++([((rdL u2n x.2.1.2.2.2.2.2.1 x.2.2.2.2.toNat).1,(⟨#[]⟩:Hs),false,0)]:Hu u0g.den),IntKind.i64.wrap (x.2.2.2.2+1))) none) none) (some (.inl (x.1,x.2.1,x.2.2.1,x.2.2.2.1)))
def u7h:=lpW _ _ t1i
theorem s5t x:u7h x=t1i u7h x:=zW s4v 360 Tryz.f360 3 65 x (by kernel_rfl)
def t1j(g:Z59→Ht ((Hu q0z.den)⊕Unit))(x:Z59):Ht ((Hu q0z.den)⊕Unit):=cond (decide (x.2.2.2.2<(x.2.2.2.1.length:Int))) (cond (y4q x.2.2.2.2 x.2.2.2.1.length) ((t63 (x.2.1,x.1,rdL Ty.str x.2.2.2.1 x.2.2.2.2.toNat)).bind fun y4=>cond y4.2 (cond (y4q x.2.2.2.2 x.2.2.2.1.length) (cond (Nat.ble (x.2.2.1.length+([(rdL Ty.str x.2.2.2.1 x.2.2.2.2.toNat,y4.1)]:Hu q0z.den).length) z7w) (g (x.1,x.2.1,x.2.2.1++([(rdL Ty.str x.2.2.2.1 x.2.2.2.2.toNat,y4.1)]:Hu q0z.den),x.2.2.2.1,IntKind.i64.wrap (x.2.2.2.2+1))) none) none) (g (x.1,x.2.1,x.2.2.1,x.2.2.2.1,IntKind.i64.wrap (x.2.2.2.2+1)))) none) (some (.inl x.2.2.1))
def t12:=lpW _ _ t1j
theorem s5u x:t12 x=t1j t12 x:=zW s4w 360 Tryz.f360 9 65 x (by kernel_rfl)
def s92 (x:Z74):Ht (Hu q0z.den):=cond (Nat.ble (([]:Hu u0g.den).length+x.2.1.length) z7w) ((u7h (x.2.1,x.1,x.2.2,([]:Hu u0g.den)++x.2.1,0)).bind fun r1=>match r1 with | .inl o2=>((s0m (o2.2.2.2,o2.2.2.1)).bind fun y3=>(t12 (o2.1,o2.2.1,([]:Hu q0z.den),y3,0)).bind fun r5=>match r5 with | .inl o6=>some o6 | .inr z7=>none) | .inr z8=>none) none
theorem q1e:s0e=s92:=zC 360 rfl Tryz.func360 (by kernel_rfl)
def u6d(x:Z45):Ht Z48:=zK 271 x
def s69 (x:Z45):Ht Z48:=(u0n x.1).bind fun y1=>(u4d (x.1,x.2.1)).bind fun y2=>cond (decide (y2<0)) (some (y1,([]:Hu q0z.den),1)) ((t0y x.2.2).bind fun y3=>cond (!y3) (some (y1,([]:Hu q0z.den),2)) (cond (y4q y2 x.1.2.length) ((t2d (rdL u0a x.1.2 y2.toNat,x.2.2)).bind fun y4=>cond (!y4.2) (some (y1,([]:Hu q0z.den),3)) (cond (y4q y2 y1.2.length) ((s0e (y4.1,x.1.1.1,x.2.2)).bind fun y5=>some ((y1.1,y1.2.set y2.toNat y4.1),y5,0)) none)) none))
theorem r9h:u6d=s69:=zC 271 rfl Tryz.func271 (by kernel_rfl)
def u3h(x:s2n):Ht o13:=zK 272 x
def t7l (x:s2n):Ht o13:=(u2z x).bind fun y1=>(u1f (y1.2,2)).bind fun y2=>cond y2.1 (some ((y1.1,y1.1),y2.2)) ((u2z y2.2).bind fun y3=>cond (y3c y3.1 y1.1) (some ((y3.1,y1.1),y3.2)) (some ((y1.1,y3.1),y3.2)))
theorem s7s:u3h=t7l:=zC 272 rfl Tryz.func272 (by kernel_rfl)
def u20(x:s2n):Ht p89:=zK 273 x
def t7m (x:s2n):Ht p89:=(u2z x).bind fun y1=>(u1g (y1.2,([(⟨#[111,110,101]⟩:Hs),(⟨#[116,119,111]⟩:Hs),(⟨#[]⟩:Hs),(⟨#[120,0]⟩:Hs)]:Hu Hs))).bind fun y2=>(u1f (y2.2,5)).bind fun y3=>cond y3.1 (some ((y1.1,(⟨#[]⟩:Hs),true),y3.2)) (some ((y1.1,y2.1,false),y3.2))
theorem s7t:u20=t7m:=zC 273 rfl Tryz.func273 (by kernel_rfl)
def u03(x:Z60):Ht Z63:=zK 363 x
def t29(g:Z36→Ht (Z44⊕Unit))(x:Z36):Ht (Z44⊕Unit):=cond (decide (x.2.2.2<(x.1.2.length:Int))) (cond (y4q x.2.2.2 x.1.2.length) (cond (!decide ((rdL u0a x.1.2 x.2.2.2.toNat).1=x.2.1)) (cond (y4q x.2.2.2 x.1.2.length) (cond (Nat.ble (x.2.2.1.length+([(rdL u0a x.1.2 x.2.2.2.toNat)]:Hu u0a.den).length) z7w) (g (x.1,x.2.1,x.2.2.1++([(rdL u0a x.1.2 x.2.2.2.toNat)]:Hu u0a.den),IntKind.i64.wrap (x.2.2.2+1))) none) none) (g (x.1,x.2.1,x.2.2.1,IntKind.i64.wrap (x.2.2.2+1)))) none) (some (.inl (x.1,x.2.2.1)))
def u8x:=lpW _ _ t29
theorem s8x x:u8x x=t29 u8x x:=zW s78 363 Tryz.f363 2 49 x (by kernel_rfl)
def r3r (x:Z60):Ht Z63:=(u8x (x.1,x.2,([]:Hu u0a.den),0)).bind fun r1=>match r1 with | .inl o2=>((t0e (o2.1.1,o2.2)).bind fun y3=>some (y3,o2.2)) | .inr z4=>none
theorem q46:u03=r3r:=zC 363 rfl Tryz.func363 (by kernel_rfl)
def t5i(x:u8g):Ht Bool:=zK 332 x
def r0w (x:u8g):Ht Bool:=((cond (decide ((x.2.1.length:Int)≥(12:Int))) (some true) (cond (decide ((x.1.length:Int)>(100:Int))) (some true) (some (decide (x.2.2.2.1≥9999))))):Ht Bool).bind fun j1=>some j1
theorem q17:t5i=r0w:=zC 332 rfl Tryz.func332 (by kernel_rfl)
def t0h(x:u8g):Ht q5x:=zK 409 x
def r3q (x:u8g):Ht q5x:=cond (Nat.ble (([]:Hu u0a.den).length+x.2.1.length) z7w) (cond (Nat.ble ((([]:Hu u0a.den)++x.2.1).length+x.2.2.1.length) z7w) (some ((([]:Hu u0a.den)++x.2.1)++x.2.2.1)) none) none
theorem q45:t0h=r3q:=zC 409 rfl Tryz.func409 (by kernel_rfl)
def t9q(x:p9i):Ht Bool:=zK 428 x
def t4t(g:p9b→Ht (p7n⊕Bool))(x:p9b):Ht (p7n⊕Bool):=cond (decide (x.2.2.2<(x.2.1.length:Int))) (cond (y4q x.2.2.1 x.1.length) (cond (y4q x.2.2.2 x.2.1.length) (cond (z7o (rdL u2n x.1 x.2.2.1.toNat).1 (rdL u2n x.2.1 x.2.2.2.toNat).1) (some (.inr true)) (g (x.1,x.2.1,x.2.2.1,IntKind.i64.wrap (x.2.2.2+1)))) none) none) (some (.inl (x.1,x.2.1,x.2.2.1)))
def t0s:=lpW _ _ t4t
theorem r1m x:t0s x=t4t t0s x:=zW r1b 428 Tryz.f428 5 30 x (by kernel_rfl)
def t4s(g:p7n→Ht r2n)(x:p7n):Ht r2n:=cond (decide (x.2.2<(x.1.length:Int))) ((t0s (x.1,x.2.1,x.2.2,0)).bind fun r1=>match r1 with | .inl o2=>g (o2.1,o2.2.1,IntKind.i64.wrap (o2.2.2+1)) | .inr z3=>some (.inr z3)) (some (.inl ()))
def t40:=lpW _ _ t4s
theorem r1l x:t40 x=t4s t40 x:=zW r1a 428 Tryz.f428 2 30 x (by kernel_rfl)
def r6l (x:p9i):Ht Bool:=(t40 (x.1,x.2,0)).bind fun r4=>match r4 with | .inl o5=>some false | .inr z6=>some z6
theorem q64:t9q=r6l:=zC 428 rfl Tryz.func428 (by kernel_rfl)
def s0d(x:Z86):Ht Bool:=zK 433 x
def t1g(g:Z76→Ht r2n)(x:Z76):Ht r2n:=cond (decide (x.2.2<(x.1.length:Int))) (cond (y4q x.2.2 x.1.length) (((cond (!decide ((rdL u0a x.1 x.2.2.toNat).1=x.2.1.1)) (cond (decide ((rdL u0a x.1 x.2.2.toNat).2.1=2)) ((t9q ((rdL u0a x.1 x.2.2.toNat).2.2.2.2.2.1,x.2.1.2.2.2.2.2.1)).bind fun y1=>some y1) (cond (decide ((rdL u0a x.1 x.2.2.toNat).2.1=3)) (cond (decide ((rdL u0a x.1 x.2.2.toNat).2.2.2.1>x.2.1.2.2.1)) ((t9q ((rdL u0a x.1 x.2.2.toNat).2.2.2.2.2.1,x.2.1.2.2.2.2.2.1)).bind fun y2=>some y2) (some false)) (some false))) (some false)):Ht Bool).bind fun j3=>cond j3 (some (.inr true)) (g (x.1,x.2.1,IntKind.i64.wrap (x.2.2+1)))) none) (some (.inl ()))
def u7e:=lpW _ _ t1g
theorem s5q x:u7e x=t1g u7e x:=zW s4r 433 Tryz.f433 2 46 x (by kernel_rfl)
def s9x (x:Z86):Ht Bool:=(u7e (x.2,x.1,0)).bind fun r4=>match r4 with | .inl o5=>some false | .inr z6=>some z6
theorem q09:s0d=s9x:=zC 433 rfl Tryz.func433 (by kernel_rfl)
def s26(x:Z86):Ht Bool:=zK 435 x
def t6x(g:Z76→Ht r2n)(x:Z76):Ht r2n:=cond (decide (x.2.2<(x.1.length:Int))) (((cond (y4q x.2.2 x.1.length) (cond (decide ((rdL u0a x.1 x.2.2.toNat).2.1=2)) (cond (y4q x.2.2 x.1.length) ((u2a (rdL u0a x.1 x.2.2.toNat,x.2.1)).bind fun y1=>some y1) none) (cond (y4q x.2.2 x.1.length) (cond (decide ((rdL u0a x.1 x.2.2.toNat).2.1=3)) (cond (y4q x.2.2 x.1.length) ((u2a (rdL u0a x.1 x.2.2.toNat,x.2.1)).bind fun y2=>some y2) none) (some false)) none)) none):Ht Bool).bind fun j3=>cond j3 (some (.inr true)) (g (x.1,x.2.1,IntKind.i64.wrap (x.2.2+1)))) (some (.inl ()))
def t3c:=lpW _ _ t6x
theorem r4w x:t3c x=t6x t3c x:=zW r4c 435 Tryz.f435 2 34 x (by kernel_rfl)
def r8p (x:Z86):Ht Bool:=(t3c (x.2,x.1,0)).bind fun r4=>match r4 with | .inl o5=>some false | .inr z6=>some z6
theorem q8p:s26=r8p:=zC 435 rfl Tryz.func435 (by kernel_rfl)
def t62(x:Z86):Ht Bool:=zK 434 x
def u64(g:Z25→Ht (Z76⊕Bool))(x:Z25):Ht (Z76⊕Bool):=((cond (decide (x.2.2.2.2<(x.1.length:Int))) (cond (decide (x.2.2.2.1.2.1=2)) ((u2a (x.2.2.2.1,x.2.1)).bind fun y10=>some y10) (some false)) (some false)):Ht Bool).bind fun j11=>cond j11 (cond (y4q x.2.2.2.2 x.1.length) (((cond (decide ((rdL u0a x.1 x.2.2.2.2.toNat).2.1=2)) (cond (!decide ((rdL u0a x.1 x.2.2.2.2.toNat).1=x.2.1.1)) ((u2a (rdL u0a x.1 x.2.2.2.2.toNat,x.2.2.2.1)).bind fun y12=>some y12) (some false)) (some false)):Ht Bool).bind fun j13=>cond j13 (some (.inr true)) (g (x.1,x.2.1,x.2.2.1,x.2.2.2.1,IntKind.i64.wrap (x.2.2.2.2+1)))) none) (some (.inl (x.1,x.2.1,x.2.2.1)))
def u42:=lpW _ _ u64
theorem t6f x:u42 x=u64 u42 x:=zW s4s 434 Tryz.f434 12 92 x (by kernel_rfl)
def t24(g:Z76→Ht r2n)(x:Z76):Ht r2n:=cond (decide (x.2.2<(x.1.length:Int))) (cond (y4q x.2.2 x.1.length) (((cond (decide ((rdL u0a x.1 x.2.2.toNat).2.1=2)) (cond (rdL u0a x.1 x.2.2.toNat).2.2.2.2.2.2.1 ((u2a (x.2.1,rdL u0a x.1 x.2.2.toNat)).bind fun y4=>some y4) (some false)) (cond (decide ((rdL u0a x.1 x.2.2.toNat).2.1=3)) (cond (rdL u0a x.1 x.2.2.toNat).2.2.2.2.2.2.1 ((u2a (x.2.1,rdL u0a x.1 x.2.2.toNat)).bind fun y5=>some y5) (some false)) (some false))):Ht Bool).bind fun j6=>cond j6 (some (.inr true)) (((cond (decide ((rdL u0a x.1 x.2.2.toNat).2.1=2)) ((u2a (rdL u0a x.1 x.2.2.toNat,x.2.1)).bind fun y7=>cond y7 ((u2a (x.2.1,rdL u0a x.1 x.2.2.toNat)).bind fun y8=>some y8) (some false)) (some false)):Ht Bool).bind fun j9=>cond j9 (some (.inr true)) ((u42 (x.1,x.2.1,x.2.2,rdL u0a x.1 x.2.2.toNat,0)).bind fun r14=>match r14 with | .inl o15=>g (o15.1,o15.2.1,IntKind.i64.wrap (o15.2.2+1)) | .inr z16=>some (.inr z16)))) none) (some (.inl ()))
def u8t:=lpW _ _ t24
theorem s8r x:u8t x=t24 u8t x:=zW s70 434 Tryz.f434 4 92 x (by kernel_rfl)
def r23 (x:Z86):Ht Bool:=(((s26 x).bind fun y1=>cond y1 ((t5w x).bind fun y2=>some y2) (some false)):Ht Bool).bind fun j3=>cond j3 (some true) ((u8t (x.2,x.1,0)).bind fun r17=>match r17 with | .inl o18=>some false | .inr z19=>some z19)
theorem q4i:t62=r23:=zC 434 rfl Tryz.func434 (by kernel_rfl)
def t9o(x:Z60):Ht Int:=zK 407 x
def r6h (x:Z60):Ht Int:=(u4d x).bind fun y1=>cond (decide (y1<0)) (some (1:Int)) ((t0h x.1.1).bind fun y2=>cond (y4q y1 x.1.2.length) ((s0d (rdL u0a x.1.2 y1.toNat,y2)).bind fun y3=>cond y3 (some (4:Int)) (cond (y4q y1 x.1.2.length) ((t62 (rdL u0a x.1.2 y1.toNat,y2)).bind fun y4=>cond y4 (some (5:Int)) ((t5i x.1.1).bind fun y5=>cond y5 (some (3:Int)) (some (0:Int)))) none)) none)
theorem q60:t9o=r6h:=zC 407 rfl Tryz.func407 (by kernel_rfl)
def s24(x:Z60):Ht Z9:=zK 361 x
def r22 (x:Z60):Ht Z9:=(u0n x.1).bind fun y1=>(t9o x).bind fun y2=>cond (decide (y2=1)) (some (y1,(0,(0,0,0,0,([]:Hu q0z.den),([]:Hu u2n.den),false,(⟨#[]⟩:Hs)),(⟨#[]⟩:Hs),false,([]:Hu u0g.den),([]:Hu u0a.den),([]:Hu u0a.den),0,0),y2)) (cond (!decide (y2=0)) ((u03 (y1,x.2)).bind fun y3=>some (y3,(0,(0,0,0,0,([]:Hu q0z.den),([]:Hu u2n.den),false,(⟨#[]⟩:Hs)),(⟨#[]⟩:Hs),false,([]:Hu u0g.den),([]:Hu u0a.den),([]:Hu u0a.den),0,0),y2)) ((u4d x).bind fun y4=>cond (y4q y4 x.1.2.length) ((u4i (x.1.1,rdL u0a x.1.2 y4.toNat)).bind fun y5=>cond (y4q (IntKind.i64.wrap ((y5.2.1.length:Int) - (1:Int))) y5.2.1.length) ((u0t (rdL u0a y5.2.1 (IntKind.i64.wrap ((y5.2.1.length:Int) - (1:Int))).toNat)).bind fun y6=>(u03 ((y5,y1.2),x.2)).bind fun y7=>some (y7,(1,y6,(⟨#[]⟩:Hs),false,([]:Hu u0g.den),([]:Hu u0a.den),([]:Hu u0a.den),0,0),0)) none) none))
theorem q4h:s24=r22:=zC 361 rfl Tryz.func361 (by kernel_rfl)
def t6a(x:p5o):Ht r46:=zK 413 x
def s32 (x:p5o):Ht r46:=(((t9p x.1).bind fun y1=>cond (!y1) (some true) ((u0r (x.2.1,0,1)).bind fun y2=>some (!y2))):Ht Bool).bind fun j3=>cond j3 ((u04 x.1).bind fun y4=>some (y4,false)) ((t64 x).bind fun y5=>cond (!y5.2) ((u04 x.1).bind fun y6=>some (y6,false)) (some (y5.1,true)))
theorem r7s:t6a=s32:=zC 413 rfl Tryz.func413 (by kernel_rfl)
def t2c(x:o2d):Ht r46:=zK 376 x
def s3x (x:o2d):Ht r46:=(u84 x.1).bind fun y1=>(t6a (x.1,y1,x.2)).bind fun y2=>some y2
theorem r7n:t2c=s3x:=zC 376 rfl Tryz.func376 (by kernel_rfl)
def t03(x:Z7):Ht Z37:=zK 362 x
def r0y (x:Z7):Ht Z37:=(u11 x.2).bind fun y1=>cond (!y1.2) (some (false,x.1)) ((t2c (x.1.2,y1.1)).bind fun y2=>cond (!y2.2) ((t30 x.1.2).bind fun y3=>cond (!y3.2) (some (false,x.1)) ((t2c (y3.1,y1.1)).bind fun y4=>cond y4.2 (some (y4.2,x.1.1,y4.1)) (some (y4.2,x.1)))) (cond y2.2 (some (y2.2,x.1.1,y2.1)) (some (y2.2,x.1))))
theorem q19:t03=r0y:=zC 362 rfl Tryz.func362 (by kernel_rfl)
def u48(x:Z40):Ht Z39:=zK 274 x
def s4a (x:Z40):Ht Z39:=(s24 (x.1.1,x.2)).bind fun y1=>cond (decide (y1.2.2=0)) ((t03 (x.1,y1.2.1)).bind fun y2=>cond (!y2.1) ((u0n y2.2.1).bind fun y3=>(u03 (y3,x.2)).bind fun y4=>some (3,y4,y2.2.2)) (some (y1.2.2,y1.1,y2.2.2))) (some (y1.2.2,y1.1,x.1.2))
theorem r70:u48=s4a:=zC 274 rfl Tryz.func274 (by kernel_rfl)
def t3r(x:Z86):Ht Bool:=zK 408 x
def u5d(g:Z23→Ht (Z66⊕Bool))(x:Z23):Ht (Z66⊕Bool):=cond (decide (x.2.2.2.2.2<(x.1.length:Int))) (((cond (y4q x.2.2.2.2.2 x.1.length) (cond (decide ((rdL u0a x.1 x.2.2.2.2.2.toNat).2.1=2)) (cond (y4q x.2.2.2.2.2 x.1.length) (cond (!decide ((rdL u0a x.1 x.2.2.2.2.2.toNat).1=x.2.1.1)) (cond (y4q x.2.2.2.2.2 x.1.length) ((u2a (x.2.2.2.2.1,rdL u0a x.1 x.2.2.2.2.2.toNat)).bind fun y5=>some y5) none) (some false)) none) (some false)) none):Ht Bool).bind fun j6=>cond j6 (some (.inr true)) (g (x.1,x.2.1,x.2.2.1,x.2.2.2.1,x.2.2.2.2.1,IntKind.i64.wrap (x.2.2.2.2.2+1)))) (some (.inl (x.1,x.2.1,x.2.2.1,x.2.2.2.1)))
def u3a:=lpW _ _ u5d
theorem t51 x:u3a x=u5d u3a x:=zW t5s 408 Tryz.f408 12 65 x (by kernel_rfl)
def u5s(g:Z66→Ht r2n)(x:Z66):Ht r2n:=cond (decide (x.2.2.2<(x.1.length:Int))) (cond (y4q x.2.2.2 x.1.length) (((cond (!decide ((rdL u0a x.1 x.2.2.2.toNat).2.1=2)) (some true) ((u2a (x.2.1,rdL u0a x.1 x.2.2.2.toNat)).bind fun y3=>some (!y3))):Ht Bool).bind fun j4=>cond j4 (g (x.1,x.2.1,x.2.2.1,IntKind.i64.wrap (x.2.2.2+1))) (cond x.2.2.1 (some (.inr true)) ((u3a (x.1,x.2.1,x.2.2.1,x.2.2.2,rdL u0a x.1 x.2.2.2.toNat,0)).bind fun r7=>match r7 with | .inl o8=>g (o8.1,o8.2.1,o8.2.2.1,IntKind.i64.wrap (o8.2.2.2+1)) | .inr z9=>some (.inr z9)))) none) (some (.inl ()))
def u33:=lpW _ _ u5s
theorem t6w x:u33 x=u5s u33 x:=zW t6n 408 Tryz.f408 5 65 x (by kernel_rfl)
def t86 (x:Z86):Ht Bool:=(t62 x).bind fun y1=>cond y1 (some true) ((s26 x).bind fun y2=>(u33 (x.2,x.1,y2,0)).bind fun r10=>match r10 with | .inl o11=>some false | .inr z12=>some z12)
theorem r32:t3r=t86:=zC 408 rfl Tryz.func408 (by kernel_rfl)
def s0f(x:Z50):Ht Z9:=zK 364 x
def s94 (x:Z50):Ht Z9:=(u0n x.1).bind fun y1=>(u4d (x.1,x.2.1)).bind fun y2=>cond (decide (y2<0)) (some (y1,(0,(0,0,0,0,([]:Hu q0z.den),([]:Hu u2n.den),false,(⟨#[]⟩:Hs)),(⟨#[]⟩:Hs),false,([]:Hu u0g.den),([]:Hu u0a.den),([]:Hu u0a.den),0,0),1)) ((u4h x.2.2).bind fun y3=>cond (!y3) (some (y1,(0,(0,0,0,0,([]:Hu q0z.den),([]:Hu u2n.den),false,(⟨#[]⟩:Hs)),(⟨#[]⟩:Hs),false,([]:Hu u0g.den),([]:Hu u0a.den),([]:Hu u0a.den),0,0),2)) ((u1r (x.1.1,x.2.2)).bind fun y4=>cond (decide (y4≥0)) (some (y1,(0,(0,0,0,0,([]:Hu q0z.den),([]:Hu u2n.den),false,(⟨#[]⟩:Hs)),(⟨#[]⟩:Hs),false,([]:Hu u0g.den),([]:Hu u0a.den),([]:Hu u0a.den),0,0),6)) ((t9o (x.1,x.2.1)).bind fun y5=>((cond (decide (y5=0)) (cond (y4q y2 x.1.2.length) ((t0h x.1.1).bind fun y6=>(t3r (rdL u0a x.1.2 y2.toNat,y6)).bind fun y7=>some y7) none) (some false)):Ht Bool).bind fun j8=>cond j8 (((cond (decide ((5:Int)=(0:Int))) (some (decide ((x.1.1.2.2.1.length:Int)≥(3:Int)))) (some false)):Ht Bool).bind fun j9=>cond j9 (cond (!decide ((3:Int)=(0:Int))) ((u03 (y1,x.2.1)).bind fun y10=>some (y10,(0,(0,0,0,0,([]:Hu q0z.den),([]:Hu u2n.den),false,(⟨#[]⟩:Hs)),(⟨#[]⟩:Hs),false,([]:Hu u0g.den),([]:Hu u0a.den),([]:Hu u0a.den),0,0),3)) (cond (y4q y2 x.1.2.length) ((u3z (x.1.1,rdL u0a x.1.2 y2.toNat,x.2.2)).bind fun y11=>(u1r (y11,x.2.2)).bind fun y12=>cond (y4q y12 y11.2.2.1.length) ((u0t (rdL u0a y11.2.2.1 y12.toNat)).bind fun y13=>(u03 ((y11,y1.2),x.2.1)).bind fun y14=>some (y14,(2,y13,(⟨#[]⟩:Hs),false,([]:Hu u0g.den),([]:Hu u0a.den),([]:Hu u0a.den),0,0),0)) none) none)) (cond (!decide ((5:Int)=(0:Int))) ((u03 (y1,x.2.1)).bind fun y15=>some (y15,(0,(0,0,0,0,([]:Hu q0z.den),([]:Hu u2n.den),false,(⟨#[]⟩:Hs)),(⟨#[]⟩:Hs),false,([]:Hu u0g.den),([]:Hu u0a.den),([]:Hu u0a.den),0,0),5)) (cond (y4q y2 x.1.2.length) ((u3z (x.1.1,rdL u0a x.1.2 y2.toNat,x.2.2)).bind fun y16=>(u1r (y16,x.2.2)).bind fun y17=>cond (y4q y17 y16.2.2.1.length) ((u0t (rdL u0a y16.2.2.1 y17.toNat)).bind fun y18=>(u03 ((y16,y1.2),x.2.1)).bind fun y19=>some (y19,(2,y18,(⟨#[]⟩:Hs),false,([]:Hu u0g.den),([]:Hu u0a.den),([]:Hu u0a.den),0,0),0)) none) none))) (((cond (decide (y5=0)) (some (decide ((x.1.1.2.2.1.length:Int)≥(3:Int)))) (some false)):Ht Bool).bind fun j20=>cond j20 (cond (!decide ((3:Int)=(0:Int))) ((u03 (y1,x.2.1)).bind fun y21=>some (y21,(0,(0,0,0,0,([]:Hu q0z.den),([]:Hu u2n.den),false,(⟨#[]⟩:Hs)),(⟨#[]⟩:Hs),false,([]:Hu u0g.den),([]:Hu u0a.den),([]:Hu u0a.den),0,0),3)) (cond (y4q y2 x.1.2.length) ((u3z (x.1.1,rdL u0a x.1.2 y2.toNat,x.2.2)).bind fun y22=>(u1r (y22,x.2.2)).bind fun y23=>cond (y4q y23 y22.2.2.1.length) ((u0t (rdL u0a y22.2.2.1 y23.toNat)).bind fun y24=>(u03 ((y22,y1.2),x.2.1)).bind fun y25=>some (y25,(2,y24,(⟨#[]⟩:Hs),false,([]:Hu u0g.den),([]:Hu u0a.den),([]:Hu u0a.den),0,0),0)) none) none)) (cond (!decide (y5=0)) ((u03 (y1,x.2.1)).bind fun y26=>some (y26,(0,(0,0,0,0,([]:Hu q0z.den),([]:Hu u2n.den),false,(⟨#[]⟩:Hs)),(⟨#[]⟩:Hs),false,([]:Hu u0g.den),([]:Hu u0a.den),([]:Hu u0a.den),0,0),y5)) (cond (y4q y2 x.1.2.length) ((u3z (x.1.1,rdL u0a x.1.2 y2.toNat,x.2.2)).bind fun y27=>(u1r (y27,x.2.2)).bind fun y28=>cond (y4q y28 y27.2.2.1.length) ((u0t (rdL u0a y27.2.2.1 y28.toNat)).bind fun y29=>(u03 ((y27,y1.2),x.2.1)).bind fun y30=>some (y30,(2,y29,(⟨#[]⟩:Hs),false,([]:Hu u0g.den),([]:Hu u0a.den),([]:Hu u0a.den),0,0),0)) none) none))))))
theorem q1g:s0f=s94:=zC 364 rfl Tryz.func364 (by kernel_rfl)
def u4r(x:Z34):Ht Z39:=zK 275 x
def s06 (x:Z34):Ht Z39:=(s0f (x.1.1,x.2)).bind fun y1=>cond (decide (y1.2.2=0)) ((t03 (x.1,y1.2.1)).bind fun y2=>cond (!y2.1) ((u0n y2.2.1).bind fun y3=>(u03 (y3,x.2.1)).bind fun y4=>some (3,y4,y2.2.2)) (some (y1.2.2,y1.1,y2.2.2))) (some (y1.2.2,y1.1,x.1.2))
theorem r5p:u4r=s06:=zC 275 rfl Tryz.func275 (by kernel_rfl)
def s25(x:Z49):Ht Z9:=zK 250 x
def r25 (x:Z49):Ht Z9:=(u0n x.1).bind fun y1=>(u1r (x.1.1,x.2.1)).bind fun y2=>cond (decide (y2<0)) (some (y1,(0,(0,0,0,0,([]:Hu q0z.den),([]:Hu u2n.den),false,(⟨#[]⟩:Hs)),(⟨#[]⟩:Hs),false,([]:Hu u0g.den),([]:Hu u0a.den),([]:Hu u0a.den),0,0),1)) (((cond x.2.2 ((t5i x.1.1).bind fun y3=>some y3) (some false)):Ht Bool).bind fun j4=>cond j4 (some (y1,(0,(0,0,0,0,([]:Hu q0z.den),([]:Hu u2n.den),false,(⟨#[]⟩:Hs)),(⟨#[]⟩:Hs),false,([]:Hu u0g.den),([]:Hu u0a.den),([]:Hu u0a.den),0,0),3)) (cond x.2.2 (cond (y4q y2 x.1.1.2.2.1.length) ((u4i (x.1.1,rdL u0a x.1.1.2.2.1 y2.toNat)).bind fun y5=>(t0e (y5,y1.2)).bind fun y6=>some ((y6,y1.2),(3,(0,0,0,0,([]:Hu q0z.den),([]:Hu u2n.den),false,(⟨#[]⟩:Hs)),x.2.1,x.2.2,([]:Hu u0g.den),([]:Hu u0a.den),([]:Hu u0a.den),0,0),0)) none) ((t5a (x.1.1,x.2.1)).bind fun y7=>(t0e (y7,y1.2)).bind fun y8=>some ((y8,y1.2),(3,(0,0,0,0,([]:Hu q0z.den),([]:Hu u2n.den),false,(⟨#[]⟩:Hs)),x.2.1,x.2.2,([]:Hu u0g.den),([]:Hu u0a.den),([]:Hu u0a.den),0,0),0))))
theorem q4k:s25=r25:=zC 250 rfl Tryz.func250 (by kernel_rfl)
def u49(x:Z33):Ht Z39:=zK 276 x
def s4b (x:Z33):Ht Z39:=(s25 (x.1.1,x.2)).bind fun y1=>cond (decide (y1.2.2=0)) ((t03 (x.1,y1.2.1)).bind fun y2=>cond (!y2.1) (some (3,y2.2)) (some (y1.2.2,y1.1,y2.2.2))) (some (y1.2.2,y1.1,x.1.2))
theorem r71:u49=s4b:=zC 276 rfl Tryz.func276 (by kernel_rfl)
def t2y(x:Z60):Ht Z60:=zK 277 x
def r6j (x:Z60):Ht Z60:=(u0n x.1).bind fun y1=>(u4d x).bind fun y2=>cond (decide (y2<0)) (some (y1,1)) ((u03 (y1,x.2)).bind fun y3=>some (y3,0))
theorem q62:t2y=r6j:=zC 277 rfl Tryz.func277 (by kernel_rfl)
def s0p(x:Z29):Ht Z29:=zK 161 x
def r0z (x:Z29):Ht Z29:=cond (decide ((x.2.1.2.length:Int)>(0:Int))) ((u0f (x.1,(x.2.1.2.length:Int))).bind fun y1=>cond (y4q y1.1 x.2.1.2.length) ((u0f (y1.2,16)).bind fun y2=>((cond (decide ((rdL u0a x.2.1.2 y1.1.toNat).1=0)) (some true) (some (decide (y2.1<3)))):Ht Bool).bind fun j3=>cond j3 ((t2x x.2.1).bind fun y4=>some (y2.2,y4.1,x.2.2)) (cond (decide (y2.1<6)) ((u2z y2.2).bind fun y5=>(t0a (x.2.1,(rdL u0a x.2.1.2 y1.1.toNat).1,y5.1)).bind fun y6=>some (y5.2,y6.1,x.2.2)) (cond (decide (y2.1<7)) ((u3h y2.2).bind fun y7=>(u6d (x.2.1,(rdL u0a x.2.1.2 y1.1.toNat).1,y7.1)).bind fun y8=>some (y7.2,y8.1,x.2.2)) (cond (decide (y2.1<10)) ((u20 y2.2).bind fun y9=>(t0b (x.2.1,(rdL u0a x.2.1.2 y1.1.toNat).1,y9.1)).bind fun y10=>some (y9.2,y10.1,x.2.2)) (cond (decide (y2.1<13)) ((u48 (x.2,(rdL u0a x.2.1.2 y1.1.toNat).1)).bind fun y11=>some (y2.2,y11.2)) (cond (decide (y2.1=13)) ((u1g (y2.2,([(⟨#[112]⟩:Hs),(⟨#[113]⟩:Hs),(⟨#[114]⟩:Hs)]:Hu Hs))).bind fun y12=>(u4r (x.2,(rdL u0a x.2.1.2 y1.1.toNat).1,y12.1)).bind fun y13=>some (y12.2,y13.2)) (cond (decide (y2.1=14)) ((u1g (y2.2,([(⟨#[112]⟩:Hs),(⟨#[113]⟩:Hs),(⟨#[114]⟩:Hs)]:Hu Hs))).bind fun y14=>(u1f (y14.2,2)).bind fun y15=>(u49 (x.2,y14.1,y15.1)).bind fun y16=>some (y15.2,y16.2)) ((u1f (y2.2,3)).bind fun y17=>cond y17.1 ((u6b x.2).bind fun y18=>some (y17.2,y18.1)) ((t2y (x.2.1,(rdL u0a x.2.1.2 y1.1.toNat).1)).bind fun y19=>some (y17.2,y19.1,x.2.2)))))))))) none) ((u0f (x.1,16)).bind fun y20=>((cond (decide ((0:Int)=(0:Int))) (some true) (some (decide (y20.1<3)))):Ht Bool).bind fun j21=>cond j21 ((t2x x.2.1).bind fun y22=>some (y20.2,y22.1,x.2.2)) (cond (decide (y20.1<6)) ((u2z y20.2).bind fun y23=>(t0a (x.2.1,0,y23.1)).bind fun y24=>some (y23.2,y24.1,x.2.2)) (cond (decide (y20.1<7)) ((u3h y20.2).bind fun y25=>(u6d (x.2.1,0,y25.1)).bind fun y26=>some (y25.2,y26.1,x.2.2)) (cond (decide (y20.1<10)) ((u20 y20.2).bind fun y27=>(t0b (x.2.1,0,y27.1)).bind fun y28=>some (y27.2,y28.1,x.2.2)) (cond (decide (y20.1<13)) ((u48 (x.2,0)).bind fun y29=>some (y20.2,y29.2)) (cond (decide (y20.1=13)) ((u1g (y20.2,([(⟨#[112]⟩:Hs),(⟨#[113]⟩:Hs),(⟨#[114]⟩:Hs)]:Hu Hs))).bind fun y30=>(u4r (x.2,0,y30.1)).bind fun y31=>some (y30.2,y31.2)) (cond (decide (y20.1=14)) ((u1g (y20.2,([(⟨#[112]⟩:Hs),(⟨#[113]⟩:Hs),(⟨#[114]⟩:Hs)]:Hu Hs))).bind fun y32=>(u1f (y32.2,2)).bind fun y33=>(u49 (x.2,y32.1,y33.1)).bind fun y34=>some (y33.2,y34.2)) ((u1f (y20.2,3)).bind fun y35=>cond y35.1 ((u6b x.2).bind fun y36=>some (y35.2,y36.1)) ((t2y (x.2.1,0)).bind fun y37=>some (y35.2,y37.1,x.2.2))))))))))
theorem q2a:s0p=r0z:=zC 161 rfl Tryz.func161 (by kernel_rfl)
def t5j(x:p57):Ht Z30:=zK 56 x
def t53(g:Z6→Ht (Z8⊕Unit))(x:Z6):Ht (Z8⊕Unit):=(u0f (x.1,x.2.1)).bind fun y2=>cond (decide (x.2.2.2.2<(IntKind.i64.wrap ((2:Int)+y2.1)))) ((s0p (y2.2,x.2.2.2.1)).bind fun y3=>g (y3.1,x.2.1,x.2.2.1,y3.2,IntKind.i64.wrap (x.2.2.2.2+1))) (some (.inl (y2.2,x.2.2.1,x.2.2.2.1)))
def u7q:=lpW _ _ t53
theorem r76 x:u7q x=t53 u7q x:=zW s5e 56 Tryz.f56 3 19 x (by kernel_rfl)
def r00 (x:p57):Ht Z30:=(t8b ()).bind fun y1=>(u7q (x.1,x.2,(((([]:Hu u0g.den),([]:Hu u0a.den),([]:Hu u0a.den),0,0),([]:Hu u0a.den)),([]:Hu Hs),([]:Hu p1t.den)),y1,0)).bind fun r4=>match r4 with | .inl o5=>some (o5.2.2,o5.1) | .inr z6=>none
theorem q2b:t5j=r00:=zC 56 rfl Tryz.func56 (by kernel_rfl)
def t01(x:s2n):Ht Z72:=zK 228 x
def r0q (x:s2n):Ht Z72:=(t5j (x,24)).bind fun y1=>some (y1.1.1.1,y1.2)
theorem q11:t01=r0q:=zC 228 rfl Tryz.func228 (by kernel_rfl)
def t6c(x:s2n):Ht o2l:=zK 385 x
def t28(g:o1z→Ht (o2k⊕Unit))(x:o1z):Ht (o2k⊕Unit):=(u0f (x.1,4)).bind fun y1=>cond (decide (x.2.2<y1.1)) ((u3h y1.2).bind fun y2=>cond (Nat.ble (x.2.1.length+([y2.1]:Hu q0z.den).length) z7w) (g (y2.2,x.2.1++([y2.1]:Hu q0z.den),IntKind.i64.wrap (x.2.2+1))) none) (some (.inl (y1.2,x.2.1)))
def u5i:=lpW _ _ t28
theorem r4x x:u5i x=t28 u5i x:=zW t9l 385 Tryz.f385 3 18 x (by kernel_rfl)
def s37 (x:s2n):Ht o2l:=(u5i (x,([]:Hu q0z.den),0)).bind fun r3=>match r3 with | .inl o4=>some (o4.2,o4.1) | .inr z5=>none
theorem r7x:t6c=s37:=zC 385 rfl Tryz.func385 (by kernel_rfl)
def u7s(x:s2n):Ht o2h:=zK 386 x
def u78(g:o1x→Ht (o2g⊕Unit))(x:o1x):Ht (o2g⊕Unit):=(u0f (x.1,4)).bind fun y1=>cond (decide (x.2.2<y1.1)) ((u20 y1.2).bind fun y2=>(t3q (x.2.1,y2.1)).bind fun y3=>g (y2.2,y3,IntKind.i64.wrap (x.2.2+1))) (some (.inl (y1.2,x.2.1)))
def u2w:=lpW _ _ u78
theorem t94 x:u2w x=u78 u2w x:=zW t9m 386 Tryz.f386 3 17 x (by kernel_rfl)
def t55 (x:s2n):Ht o2h:=(u2w (x,([]:Hu u2n.den),0)).bind fun r4=>match r4 with | .inl o5=>some (o5.2,o5.1) | .inr z6=>none
theorem s4d:u7s=t55:=zC 386 rfl Tryz.func386 (by kernel_rfl)
def t3y(x:s2n):Ht Z98:=zK 314 x
def r3m (x:s2n):Ht Z98:=(u0f (x,6)).bind fun y1=>(u0f (y1.2,3)).bind fun y2=>(u0f (y2.2,6)).bind fun y3=>(t6c y3.2).bind fun y4=>(u7s y4.2).bind fun y5=>cond (decide ((IntKind.i64.wrap ((1:Int)+y2.1))=2)) ((u2z y5.2).bind fun y6=>(u1f (y6.2,2)).bind fun y7=>some ((IntKind.i64.wrap ((1:Int)+y1.1),IntKind.i64.wrap ((1:Int)+y2.1),y3.1,0,y4.1,y5.1,y7.1,y6.1),y7.2)) (cond (decide ((IntKind.i64.wrap ((1:Int)+y2.1))=3)) ((u0f (y5.2,4)).bind fun y8=>(u1f (y8.2,2)).bind fun y9=>some ((IntKind.i64.wrap ((1:Int)+y1.1),IntKind.i64.wrap ((1:Int)+y2.1),y3.1,IntKind.i64.wrap ((IntKind.i64.wrap (y3.1+1))+y8.1),y4.1,y5.1,y9.1,(⟨#[]⟩:Hs)),y9.2)) (some ((IntKind.i64.wrap ((1:Int)+y1.1),IntKind.i64.wrap ((1:Int)+y2.1),y3.1,0,y4.1,y5.1,false,(⟨#[]⟩:Hs)),y5.2)))
theorem q41:t3y=r3m:=zC 314 rfl Tryz.func314 (by kernel_rfl)
def t6e(x:s2n):Ht Z18:=zK 207 x
def s39 (x:s2n):Ht Z18:=(u0f (x,4)).bind fun y1=>cond (decide ((IntKind.i64.wrap ((1:Int)+y1.1))=1)) ((t3y y1.2).bind fun y2=>some ((IntKind.i64.wrap ((1:Int)+y1.1),(y2.1.1,3,y2.1.2.2.1,IntKind.i64.wrap (y2.1.2.2.1+1),y2.1.2.2.2.2.1,y2.1.2.2.2.2.2.1,y2.1.2.2.2.2.2.2.1,(⟨#[]⟩:Hs)),(⟨#[]⟩:Hs),false,([]:Hu u0g.den),([]:Hu u0a.den),([]:Hu u0a.den),0,0),y2.2)) (cond (decide ((IntKind.i64.wrap ((1:Int)+y1.1))=2)) ((t3y y1.2).bind fun y3=>some ((IntKind.i64.wrap ((1:Int)+y1.1),(y3.1.1,2,y3.1.2.2.1,0,y3.1.2.2.2.2.1,y3.1.2.2.2.2.2.1,y3.1.2.2.2.2.2.2.1,(⟨#[112]⟩:Hs)),(⟨#[]⟩:Hs),false,([]:Hu u0g.den),([]:Hu u0a.den),([]:Hu u0a.den),0,0),y3.2)) (cond (decide ((IntKind.i64.wrap ((1:Int)+y1.1))=3)) ((u1g (y1.2,([(⟨#[112]⟩:Hs),(⟨#[113]⟩:Hs)]:Hu Hs))).bind fun y4=>(u1f (y4.2,2)).bind fun y5=>some ((IntKind.i64.wrap ((1:Int)+y1.1),(0,0,0,0,([]:Hu q0z.den),([]:Hu u2n.den),false,(⟨#[]⟩:Hs)),y4.1,y5.1,([]:Hu u0g.den),([]:Hu u0a.den),([]:Hu u0a.den),0,0),y5.2)) ((t01 y1.2).bind fun y6=>some ((IntKind.i64.wrap ((1:Int)+y1.1),(0,0,0,0,([]:Hu q0z.den),([]:Hu u2n.den),false,(⟨#[]⟩:Hs)),(⟨#[]⟩:Hs),false,y6.1),y6.2))))
theorem r7z:t6e=s39:=zC 207 rfl Tryz.func207 (by kernel_rfl)
def s3a(x:s2n):Ht p89:=zK 315 x
def r3i (x:s2n):Ht p89:=(u20 x).bind fun y1=>(u0f (y1.2,8)).bind fun y2=>cond (decide (y2.1=0)) ((u1g (y2.2,([(⟨#[]⟩:Hs),(⟨#[65]⟩:Hs),(⟨#[97,98,99,100]⟩:Hs),(⟨#[97,98,99]⟩:Hs)]:Hu Hs))).bind fun y3=>some ((y3.1,y1.1.2),y3.2)) (cond (decide (y2.1=1)) ((u0f (y2.2,2)).bind fun y4=>(u7v (IntKind.i64.wrap ((12:Int)+y4.1),97)).bind fun y5=>some ((y1.1.1,y5,y1.1.2.2),y4.2)) (cond (decide (y2.1=2)) (some ((y1.1.1,y1.1.2.1,true),y2.2)) (some (y1.1,y2.2))))
theorem q4x:s3a=r3i:=zC 315 rfl Tryz.func315 (by kernel_rfl)
def t3x(x:s2n):Ht Z98:=zK 208 x
def r3k (x:s2n):Ht Z98:=(u0f (x,12)).bind fun y1=>(u0f (y1.2,60)).bind fun y2=>(t3y y2.2).bind fun y3=>(u0t y3.1).bind fun y4=>cond (decide (y1.1=0)) (cond (y4q (Int.tmod y2.1 (3:Int)) ([(0:Int),9999,(10000:Int)]:Hu Int).length) (some ((rdL (Ty.int .i64) ([(0:Int),9999,(10000:Int)]:Hu Int) (Int.tmod y2.1 (3:Int)).toNat,y4.2),y3.2)) none) (cond (decide (y1.1=1)) (some ((y4.1,Int.tmod y2.1 (5:Int),y4.2.2),y3.2)) (cond (decide (y1.1=2)) (some ((y4.1,y4.2.1,y4.2.2.1,Int.tmod y2.1 (4:Int),y4.2.2.2.2),y3.2)) (cond (decide (y1.1=3)) (cond (y4q (Int.tmod y2.1 (3:Int)) ([(⟨#[]⟩:Hs),(⟨#[65]⟩:Hs),(⟨#[97,98]⟩:Hs)]:Hu Hs).length) (some ((y4.1,y4.2.1,y4.2.2.1,y4.2.2.2.1,y4.2.2.2.2.1,y4.2.2.2.2.2.1,y4.2.2.2.2.2.2.1,rdL Ty.str ([(⟨#[]⟩:Hs),(⟨#[65]⟩:Hs),(⟨#[97,98]⟩:Hs)]:Hu Hs) (Int.tmod y2.1 (3:Int)).toNat),y3.2)) none) (cond (decide (y1.1=4)) (cond (Nat.ble (y4.2.2.2.2.1.length+([((⟨#[98]⟩:Hs),(⟨#[97]⟩:Hs))]:Hu q0z.den).length) z7w) (some ((y4.1,y4.2.1,y4.2.2.1,y4.2.2.2.1,y4.2.2.2.2.1++([((⟨#[98]⟩:Hs),(⟨#[97]⟩:Hs))]:Hu q0z.den),y4.2.2.2.2.2),y3.2)) none) (cond (decide (y1.1=5)) ((s3a y3.2).bind fun y5=>cond (Nat.ble (y4.2.2.2.2.2.1.length+([y5.1]:Hu u2n.den).length) z7w) (some ((y4.1,y4.2.1,y4.2.2.1,y4.2.2.2.1,y4.2.2.2.2.1,y4.2.2.2.2.2.1++([y5.1]:Hu u2n.den),y4.2.2.2.2.2.2),y5.2)) none) (cond (decide (y1.1=6)) (some ((y4.1,y4.2.1,y4.2.2.1,y4.2.2.2.1,y4.2.2.2.2.1,y4.2.2.2.2.2.1,true,y4.2.2.2.2.2.2.2),y3.2)) (some (y4,y3.2))))))))
theorem q4z:t3x=r3k:=zC 208 rfl Tryz.func208 (by kernel_rfl)
def t66(x:s2n):Ht Z18:=zK 96 x
def r3p (x:s2n):Ht Z18:=(u0f (x,10)).bind fun y1=>(u0f (y1.2,60)).bind fun y2=>(t6e y2.2).bind fun y3=>cond (decide (y1.1=0)) (some ((Int.tmod y2.1 (6:Int),y3.1.2),y3.2)) (cond (decide (y1.1=1)) (cond (y4q (Int.tmod y2.1 (3:Int)) ([(⟨#[]⟩:Hs),(⟨#[65]⟩:Hs),(⟨#[112]⟩:Hs)]:Hu Hs).length) (some ((y3.1.1,y3.1.2.1,rdL Ty.str ([(⟨#[]⟩:Hs),(⟨#[65]⟩:Hs),(⟨#[112]⟩:Hs)]:Hu Hs) (Int.tmod y2.1 (3:Int)).toNat,y3.1.2.2.2),y3.2)) none) (cond (decide (y1.1=2)) ((t3x y3.2).bind fun y4=>some ((y3.1.1,y4.1,y3.1.2.2),y4.2)) (cond (decide (y1.1=3)) (some ((y3.1.1,y3.1.2.1,y3.1.2.2.1,true,y3.1.2.2.2.2),y3.2)) (some y3))))
theorem q44:t66=r3p:=zC 96 rfl Tryz.func96 (by kernel_rfl)
def u87(x:s8y):Ht Z26:=zK 29 x
def t5p (x:s8y):Ht Z26:=(t0f x).bind fun y1=>(t66 y1).bind fun y2=>some y2.1
theorem s7r:u87=t5p:=zC 29 rfl Tryz.func29 (by kernel_rfl)
def u1p(x:p7r):Ht Bool:=zK 212 x
def r2z (x:p7r):Ht Bool:=((cond (decide (x.1≥x.2.1)) (some (decide (x.1≤x.2.2))) (some false)):Ht Bool).bind fun j1=>some j1
theorem q4e:u1p=r2z:=zC 212 rfl Tryz.func212 (by kernel_rfl)
def u7u(x:Int):Ht s3l:=zK 231 x
def s3o(g:p58→Ht (p58⊕Unit))(x:p58):Ht (p58⊕Unit):=cond (decide (x.1>127)) (cond (Nat.ble (x.2.length+([(IntKind.u8.wrap (IntKind.i64.wrap ((Int.tmod x.1 (128:Int))+128)))]:Hu Int).length) z7w) (g (IntKind.i64.wrap (Int.tdiv x.1 (128:Int)),x.2++([(IntKind.u8.wrap (IntKind.i64.wrap ((Int.tmod x.1 (128:Int))+128)))]:Hu Int))) none) (some (.inl x))
def t11:=lpW _ _ s3o
theorem r74 x:t11 x=s3o t11 x:=zW s4l 231 Tryz.f231 4 25 x (by kernel_rfl)
def s9t (x:Int):Ht s3l:=(u1p (x,0,1000000000)).bind fun y1=>cond (!y1) (some ((⟨#[]⟩:Hs),false)) ((t11 (x,([]:Hu Int))).bind fun r2=>match r2 with | .inl o3=>cond (Nat.ble (o3.2.length+([(IntKind.u8.wrap o3.1)]:Hu Int).length) z7w) (some (y7g (o3.2++([(IntKind.u8.wrap o3.1)]:Hu Int)),true)) none | .inr z4=>none)
theorem q05:u7u=s9t:=zC 231 rfl Tryz.func231 (by kernel_rfl)
def t2a(x:Hs):Ht s3l:=zK 209 x
def s3r (x:Hs):Ht s3l:=cond (decide ((x.size:Int)>(20000:Int))) (some ((⟨#[]⟩:Hs),false)) ((u7u (x.size:Int)).bind fun y1=>cond (decide (y1.1.size+x.size≤140737488355328)) (some (y1.1++x,true)) none)
theorem r7h:t2a=s3r:=zC 209 rfl Tryz.func209 (by kernel_rfl)
def u3y(x:(s8y×p3t)):Ht s8y:=zK 97 x
def u71(g:o2j→Ht p54)(x:o2j):Ht p54:=cond (decide (x.2.2.2<x.2.2.1)) (cond (y4q x.2.2.2 x.2.1.length) ((t2a (rdL Ty.str x.2.1 x.2.2.2.toNat)).bind fun y1=>cond (Nat.ble (x.1.length+(z7t y1.1).length) z7w) (g (x.1++(z7t y1.1),x.2.1,x.2.2.1,IntKind.i64.wrap (x.2.2.2+1))) none) none) (some (.inl x.1))
def u8b:=lpW _ _ u71
theorem t9x x:u8b x=u71 u8b x:=zW t9e 97 Tryz.f97 1 29 x (by kernel_rfl)
def s3v (x:(s8y×p3t)):Ht s8y:=(u8b (x.1,x.2,(x.2.length:Int),0)).bind fun r2=>match r2 with | .inl o3=>some o3 | .inr z4=>none
theorem r7l:u3y=s3v:=zC 97 rfl Tryz.func97 (by kernel_rfl)
def u45(x:(s8y×Bool)):Ht s8y:=zK 98 x
def s3u (x:(s8y×Bool)):Ht s8y:=cond x.2 (cond (Nat.ble (x.1.length+([(1:Int)]:Hu Int).length) z7w) (some (x.1++([(1:Int)]:Hu Int))) none) (cond (Nat.ble (x.1.length+([(0:Int)]:Hu Int).length) z7w) (some (x.1++([(0:Int)]:Hu Int))) none)
theorem r7k:u45=s3u:=zC 98 rfl Tryz.func98 (by kernel_rfl)
def u3g(x:(s8y×s8y)):Ht s8y:=zK 116 x
def u9i(g:o2o→Ht p54)(x:o2o):Ht p54:=cond (decide (x.2.2.2<x.2.2.1)) (cond (y4q x.2.2.2 x.2.1.length) ((u7u (rdL (Ty.int .i64) x.2.1 x.2.2.2.toNat)).bind fun y1=>cond (Nat.ble (x.1.length+(z7t y1.1).length) z7w) (g (x.1++(z7t y1.1),x.2.1,x.2.2.1,IntKind.i64.wrap (x.2.2.2+1))) none) none) (some (.inl x.1))
def u9y:=lpW _ _ u9i
theorem s18 x:u9y x=u9i u9y x:=zW s1j 116 Tryz.f116 1 29 x (by kernel_rfl)
def s6w (x:(s8y×s8y)):Ht s8y:=(u9y (x.1,x.2,(x.2.length:Int),0)).bind fun r2=>match r2 with | .inl o3=>some o3 | .inr z4=>none
theorem r84:u3g=s6w:=zC 116 rfl Tryz.func116 (by kernel_rfl)
def u6j(x:Hs):Ht Bool:=zK 129 x
def t4p(g:q2l→Ht p9s)(x:q2l):Ht p9s:=cond (decide (x.2<(x.1.size:Int))) (((cond (y4q x.2 x.1.size) (cond (decide (((x.1.data.toList.getD x.2.toNat 0).toNat:Int)<(97:Int))) (some true) (cond (y4q x.2 x.1.size) (some (decide (((x.1.data.toList.getD x.2.toNat 0).toNat:Int)>(122:Int)))) none)) none):Ht Bool).bind fun j1=>cond j1 (some (.inr false)) (g (x.1,IntKind.i64.wrap (x.2+1)))) (some (.inl x.1))
def t4x:=lpW _ _ t4p
theorem r1i x:t4x x=t4p t4x x:=zW r07 129 Tryz.f129 2 23 x (by kernel_rfl)
def r6c (x:Hs):Ht Bool:=(t4x (x,0)).bind fun r2=>match r2 with | .inl o3=>((u1p ((o3.size:Int),1,3)).bind fun y4=>some y4) | .inr z5=>some z5
theorem q6v:u6j=r6c:=zC 129 rfl Tryz.func129 (by kernel_rfl)
def t99(x:p7p):Ht Bool:=zK 236 x
def s9p (x:p7p):Ht Bool:=(((u6j x.1).bind fun y1=>cond y1 ((u6j x.2).bind fun y2=>cond y2 (some (y3c x.1 x.2||z7o x.1 x.2)) (some false)) (some false)):Ht Bool).bind fun j3=>some j3
theorem q01:t99=s9p:=zC 236 rfl Tryz.func236 (by kernel_rfl)
def s0b(x:p9t):Ht Bool:=zK 321 x
def s9u (x:p9t):Ht Bool:=(((u6j x.1).bind fun y1=>cond y1 (cond (decide ((x.2.1.size:Int)≤(12:Int))) (cond (!x.2.2) (some true) (some (z7o x.2.1 (⟨#[]⟩:Hs)))) (some false)) (some false)):Ht Bool).bind fun j2=>some j2
theorem q06:s0b=s9u:=zC 321 rfl Tryz.func321 (by kernel_rfl)
def t74(x:p0g):Ht Bool:=zK 237 x
def u9h(g:p9b→Ht (p0g⊕Bool))(x:p9b):Ht (p0g⊕Bool):=cond (decide (x.2.2.2<x.2.2.1)) (cond (y4q x.2.2.2 x.2.1.length) ((((s0b (rdL u2n x.2.1 x.2.2.2.toNat)).bind fun y1=>cond (!y1) (some true) (cond (decide (x.2.2.2>0)) (cond (y4q (IntKind.i64.wrap (x.2.2.2 - 1)) x.1.length) (some (!y3c (rdL u2n x.1 (IntKind.i64.wrap (x.2.2.2 - 1)).toNat).1 (rdL u2n x.2.1 x.2.2.2.toNat).1)) none) (some false))):Ht Bool).bind fun j2=>cond j2 (some (.inr false)) (g (x.1,x.2.1,x.2.2.1,IntKind.i64.wrap (x.2.2.2+1)))) none) (some (.inl x.1))
def u9x:=lpW _ _ u9h
theorem s17 x:u9x x=u9h u9x x:=zW s1i 237 Tryz.f237 2 34 x (by kernel_rfl)
def s6u (x:p0g):Ht Bool:=(u9x (x,x,(x.length:Int),0)).bind fun r3=>match r3 with | .inl o4=>some (decide ((o4.length:Int)≤(8:Int))) | .inr z5=>some z5
theorem r82:t74=s6u:=zC 237 rfl Tryz.func237 (by kernel_rfl)
def u6k(x:u95):Ht Bool:=zK 127 x
def t4q(g:Z93→Ht (u95⊕Bool))(x:Z93):Ht (u95⊕Bool):=cond (decide (x.2.2.2<x.2.2.1)) (cond (y4q x.2.2.2 x.2.1.length) ((t99 (rdL q0z x.2.1 x.2.2.2.toNat)).bind fun y1=>cond (!y1) (some (.inr false)) (g (x.1,x.2.1,x.2.2.1,IntKind.i64.wrap (x.2.2.2+1)))) none) (some (.inl x.1))
def t4y:=lpW _ _ t4q
theorem r1j x:t4y x=t4q t4y x:=zW r08 127 Tryz.f127 2 93 x (by kernel_rfl)
def r6e (x:u95):Ht Bool:=(t4y (x,x.2.2.2.2.1,(x.2.2.2.2.1.length:Int),0)).bind fun r2=>match r2 with | .inl o3=>((((u1p (o3.1,1,9999)).bind fun y4=>cond (!y4) (some true) ((u1p (o3.2.1,1,3)).bind fun y5=>cond (!y5) (some true) ((u1p (o3.2.2.1,0,9999)).bind fun y6=>cond (!y6) (some true) (cond (decide ((o3.2.2.2.2.1.length:Int)>(8:Int))) (some true) ((t74 o3.2.2.2.2.2.1).bind fun y7=>cond (!y7) (some true) (cond o3.2.2.2.2.2.2.1 (some (decide (o3.2.1=1))) (some false))))))):Ht Bool).bind fun j8=>cond j8 (some false) (((cond (decide (o3.2.1=3)) ((u1p (o3.2.2.2.1,IntKind.i64.wrap (o3.2.2.1+1),9999)).bind fun y9=>cond (!y9) (some true) (cond (!decide (o3.2.1=3)) (some (!decide (o3.2.2.2.1=0))) (some false))) (cond (!decide (o3.2.1=3)) (some (!decide (o3.2.2.2.1=0))) (some false))):Ht Bool).bind fun j10=>cond j10 (some false) (((cond (decide (o3.2.1=2)) ((u6j o3.2.2.2.2.2.2.2).bind fun y11=>cond y11 (some true) (cond (!decide (o3.2.1=2)) (some (z7o o3.2.2.2.2.2.2.2 (⟨#[]⟩:Hs))) (some false))) (cond (!decide (o3.2.1=2)) (some (z7o o3.2.2.2.2.2.2.2 (⟨#[]⟩:Hs))) (some false))):Ht Bool).bind fun j12=>some j12))) | .inr z13=>some z13
theorem q6x:u6k=r6e:=zC 127 rfl Tryz.func127 (by kernel_rfl)
def t47(x:u95):Ht s3l:=zK 99 x
def t1a(g:Z75→Ht (p84⊕Unit))(x:Z75):Ht (p84⊕Unit):=cond (decide (x.2.2.2.2<x.2.2.2.1)) (cond (y4q x.2.2.2.2 x.2.2.1.length) ((u3y (x.2.1,([(rdL q0z x.2.2.1 x.2.2.2.2.toNat).1,(rdL q0z x.2.2.1 x.2.2.2.2.toNat).2]:Hu Hs))).bind fun y3=>g (x.1,y3,x.2.2.1,x.2.2.2.1,IntKind.i64.wrap (x.2.2.2.2+1))) none) (some (.inl (x.1,x.2.1)))
def u7a:=lpW _ _ t1a
theorem s5k x:u7a x=t1a u7a x:=zW s4k 99 Tryz.f99 6 82 x (by kernel_rfl)
def u9g(g:Z73→Ht (p84⊕Unit))(x:Z73):Ht (p84⊕Unit):=cond (decide (x.2.2.2.2<x.2.2.2.1)) (cond (y4q x.2.2.2.2 x.2.2.1.length) ((u3y (x.2.1,([(rdL u2n x.2.2.1 x.2.2.2.2.toNat).1,(rdL u2n x.2.2.1 x.2.2.2.2.toNat).2.1]:Hu Hs))).bind fun y7=>(u45 (y7,(rdL u2n x.2.2.1 x.2.2.2.2.toNat).2.2)).bind fun y8=>g (x.1,y8,x.2.2.1,x.2.2.2.1,IntKind.i64.wrap (x.2.2.2.2+1))) none) (some (.inl (x.1,x.2.1)))
def u50:=lpW _ _ u9g
theorem s16 x:u50 x=u9g u50 x:=zW s1h 99 Tryz.f99 12 82 x (by kernel_rfl)
def s9s (x:u95):Ht s3l:=(u6k x).bind fun y1=>cond (!y1) (some ((⟨#[]⟩:Hs),false)) ((u3g (([]:Hu Int),([x.1,x.2.1,x.2.2.1,x.2.2.2.1,(x.2.2.2.2.1.length:Int)]:Hu Int))).bind fun y2=>(u7a (x,y2,x.2.2.2.2.1,(x.2.2.2.2.1.length:Int),0)).bind fun r4=>match r4 with | .inl o5=>((u3g (o5.2,([(o5.1.2.2.2.2.2.1.length:Int)]:Hu Int))).bind fun y6=>(u50 (o5.1,y6,o5.1.2.2.2.2.2.1,(o5.1.2.2.2.2.2.1.length:Int),0)).bind fun r9=>match r9 with | .inl o10=>((u45 (o10.2,o10.1.2.2.2.2.2.2.1)).bind fun y11=>(u3y (y11,([o10.1.2.2.2.2.2.2.2]:Hu Hs))).bind fun y12=>some (y7g y12,true)) | .inr z13=>none) | .inr z14=>none)
theorem q04:t47=s9s:=zC 99 rfl Tryz.func99 (by kernel_rfl)
def t61(x:u95):Ht Bool:=zK 91 x
def q31 (x:u95):Ht Bool:=some (decide (x.2.1=3))
theorem q4d:t61=q31:=zC 91 rfl Tryz.func91 (by kernel_rfl)
def t48(x:u95):Ht Bool:=zK 128 x
def q00 (x:u95):Ht Bool:=some (decide (x.2.1=2))
theorem q07:t48=q00:=zC 128 rfl Tryz.func128 (by kernel_rfl)
def t3o(x:Z46):Ht Bool:=zK 290 x
def r2y (x:Z46):Ht Bool:=some (decide (x.1.1=x.2.1))
theorem r3x:t3o=r2y:=zC 290 rfl Tryz.func290 (by kernel_rfl)
def u2u(x:Z83):Ht Int:=zK 10002 x
def u2m(g:Z69→Ht p7q)(x:Z69):Ht p7q:=cond (decide (x.2.2.2<x.2.2.1)) (cond (y4q x.2.2.2 x.1.length) ((t3o (rdL u0a x.1 x.2.2.2.toNat,x.2.1)).bind fun y1=>cond y1 (some (.inr x.2.2.2)) (g (x.1,x.2.1,x.2.2.1,IntKind.i64.wrap (x.2.2.2+1)))) none) (some (.inl ()))
def u0y:=lpW _ _ u2m
theorem u5p x:u0y x=u2m u0y x:=zW u2o 10002 Tryz.f287 2 19 x (by kernel_rfl)
def u2t (x:Z83):Ht Int:=(u0y (x.1,x.2,(x.1.length:Int),0)).bind fun r2=>match r2 with | .inl o3=>some (- 1:Int) | .inr z4=>some z4
theorem u6g:u2u=u2t:=zC 10002 rfl Tryz.func287 (by kernel_rfl)
def u2i(x:Z83):Ht Bool:=zK 10001 x
def u2c (x:Z83):Ht Bool:=(u2u x).bind fun y1=>some (decide (y1≥0))
theorem u5o:u2i=u2c:=zC 10001 rfl Tryz.func204 (by kernel_rfl)
def u4c(x:Z83):Ht Bool:=zK 10000 x
def u8e (x:Z83):Ht Bool:=(u2i x).bind fun y1=>some y1
theorem t6z:u4c=u8e:=zC 10000 rfl Tryz.func93 (by kernel_rfl)
def t2b(x:p9f):Ht Bool:=zK 170 x
def u70(g:o1b→Ht r2n)(x:o1b):Ht r2n:=cond (decide (x.2.2.2.2<x.2.2.2.1)) (cond (y4q x.2.2.2.2 x.2.2.1.length) (cond (decide ((rdL u0a x.2.2.1 x.2.2.2.2.toNat).1≥x.2.1)) (some (.inr false)) (cond (decide (0≤(0:Int))&&decide ((0:Int)≤x.2.2.2.2)&&decide (x.2.2.2.2≤(x.1.length:Int))) ((u4c ((x.1.take x.2.2.2.2.toNat).drop (0:Int).toNat,rdL u0a x.2.2.1 x.2.2.2.2.toNat)).bind fun y1=>cond y1 (some (.inr false)) (g (x.1,x.2.1,x.2.2.1,x.2.2.2.1,IntKind.i64.wrap (x.2.2.2.2+1)))) none)) none) (some (.inl ()))
def u8a:=lpW _ _ u70
theorem t9w x:u8a x=u70 u8a x:=zW t9d 170 Tryz.f170 2 26 x (by kernel_rfl)
def s3t (x:p9f):Ht Bool:=(u8a (x.1,x.2,x.1,(x.1.length:Int),0)).bind fun r2=>match r2 with | .inl o3=>some true | .inr z4=>some z4
theorem r7j:t2b=s3t:=zC 170 rfl Tryz.func170 (by kernel_rfl)
def u7x(x:(Unit×Int)):Ht q5x:=zK 291 x
def t36 (x:(Unit×Int)):Ht q5x:=cond (decide (x.2<0)) none (cond (decide ((IntKind.i64.wrap (x.2 - (IntKind.i64.wrap ((0:Int) - (0:Int)))))>0)) (cond (decide (0≤(0:Int))&&decide ((0:Int)≤(0:Int))&&decide ((0:Int)≤0)) (cond (decide (1≤(IntKind.i64.wrap (x.2 - (IntKind.i64.wrap ((0:Int) - (0:Int))))))&&decide ((IntKind.i64.wrap (x.2 - (IntKind.i64.wrap ((0:Int) - (0:Int)))))≤1099511627776)) (cond (decide (0≤(0:Int))&&decide ((0:Int)≤(0:Int))&&decide ((0:Int)≤((List.replicate (IntKind.i64.wrap (x.2 - (IntKind.i64.wrap ((0:Int) - (0:Int))))).toNat u0a.zero).length:Int))) (some ((List.replicate (IntKind.i64.wrap (x.2 - (IntKind.i64.wrap ((0:Int) - (0:Int))))).toNat u0a.zero).take ((0:Int).toNat - (0:Int).toNat))) none) none) none) (some ([]:Hu u0a.den)))
theorem s6e:u7x=t36:=zC 291 rfl Tryz.func291 (by kernel_rfl)
def u3q(x:p5p):Ht q5x:=zK 171 x
def u24(g:o08→Ht (o2e⊕Unit))(x:o08):Ht (o2e⊕Unit):=cond (decide (x.2.2.2.2<x.2.2.2.1)) (cond (y4q x.2.2.2.2 x.2.2.1.length) (cond (decide ((IntKind.i64.wrap (x.2.1+((rdL (Ty.sl u0a) x.2.2.1 x.2.2.2.2.toNat).length:Int)))<0)) none (g (x.1,IntKind.i64.wrap (x.2.1+((rdL (Ty.sl u0a) x.2.2.1 x.2.2.2.2.toNat).length:Int)),x.2.2.1,x.2.2.2.1,IntKind.i64.wrap (x.2.2.2.2+1)))) none) (some (.inl (x.1,x.2.1)))
def u14:=lpW _ _ u24
theorem t0k x:u14 x=u24 u14 x:=zW t0j 171 Tryz.f171 3 36 x (by kernel_rfl)
def u2v(g:o1c→Ht (q5x⊕Unit))(x:o1c):Ht (q5x⊕Unit):=cond (decide (x.2.2.2<x.2.2.1)) (cond (y4q x.2.2.2 x.2.1.length) (cond (Nat.ble (x.1.length+(rdL (Ty.sl u0a) x.2.1 x.2.2.2.toNat).length) z7w) (g (x.1++(rdL (Ty.sl u0a) x.2.1 x.2.2.2.toNat),x.2.1,x.2.2.1,IntKind.i64.wrap (x.2.2.2+1))) none) none) (some (.inl x.1))
def u1w:=lpW _ _ u2v
theorem u9c x:u1w x=u2v u1w x:=zW u81 171 Tryz.f171 11 36 x (by kernel_rfl)
def t2w (x:p5p):Ht q5x:=(u14 (x,0,x,(x.length:Int),0)).bind fun r1=>match r1 with | .inl o2=>((u7x ((),o2.2)).bind fun y3=>(u1w (y3,o2.1,(o2.1.length:Int),0)).bind fun r4=>match r4 with | .inl o5=>some o5 | .inr z6=>none) | .inr z7=>none
theorem s1a:u3q=t2w:=zC 171 rfl Tryz.func171 (by kernel_rfl)
def u8h(x:Hs):Ht Bool:=zK 380 x
def t81 (x:Hs):Ht Bool:=some (!z7o x x)
theorem r3w:u8h=t81:=zC 380 rfl Tryz.func380 (by kernel_rfl)
def t0q(x:p7p):Ht Int:=zK 308 x
def t6h (x:p7p):Ht Int:=(u8h x.1).bind fun y1=>(u8h x.2).bind fun y2=>cond y1 (cond y2 (some (0:Int)) (some (- 1:Int))) (cond y2 (some (1:Int)) (cond (y3c x.1 x.2) (some (- 1:Int)) (cond (!(y3c x.1 x.2||z7o x.1 x.2)) (some (1:Int)) (some (0:Int)))))
theorem s9e:t0q=t6h:=zC 308 rfl Tryz.func308 (by kernel_rfl)
def t3k(x:Int):Ht Bool:=zK 381 x
def s6p (x:Int):Ht Bool:=some (!decide (x=x))
theorem r8x:t3k=s6p:=zC 381 rfl Tryz.func381 (by kernel_rfl)
def t4c(x:p7a):Ht Int:=zK 309 x
def s0r (x:p7a):Ht Int:=(t3k x.1).bind fun y1=>(t3k x.2).bind fun y2=>cond y1 (cond y2 (some (0:Int)) (some (- 1:Int))) (cond y2 (some (1:Int)) (cond (decide (x.1<x.2)) (some (- 1:Int)) (cond (decide (x.1>x.2)) (some (1:Int)) (some (0:Int)))))
theorem r5a:t4c=s0r:=zC 309 rfl Tryz.func309 (by kernel_rfl)
def u5k(x:o1g):Ht Int:=zK 199 x
def t5n (x:o1g):Ht Int:=(t0q (x.1.1,x.2.1)).bind fun y1=>cond (!decide (y1=0)) (some y1) ((t4c (x.1.2.2.2,x.2.2.2.2)).bind fun y2=>some y2)
theorem s7p:u5k=t5n:=zC 199 rfl Tryz.func199 (by kernel_rfl)
def t4d(x:q0u):Ht Bool:=zK 230 x
def u6l(g:o0h→Ht (q0u⊕Bool))(x:o0h):Ht (q0u⊕Bool):=cond (decide (x.2.2.2<x.2.2.1)) (cond (y4q x.2.2.2 x.2.1.length) ((((u6j (rdL u0g x.2.1 x.2.2.2.toNat).1).bind fun y1=>cond (!y1) (some true) (cond (decide (((rdL u0g x.2.1 x.2.2.2.toNat).2.1.size:Int)>(12:Int))) (some true) (cond (rdL u0g x.2.1 x.2.2.2.toNat).2.2.1 (cond (!z7o (rdL u0g x.2.1 x.2.2.2.toNat).2.1 (⟨#[]⟩:Hs)) (some true) ((u1p ((rdL u0g x.2.1 x.2.2.2.toNat).2.2.2,1,9999)).bind fun y2=>cond (!y2) (some true) (cond (decide (x.2.2.2>0)) (cond (y4q (IntKind.i64.wrap (x.2.2.2 - 1)) x.1.length) ((u5k (rdL u0g x.1 (IntKind.i64.wrap (x.2.2.2 - 1)).toNat,rdL u0g x.2.1 x.2.2.2.toNat)).bind fun y3=>some (decide (y3≥0))) none) (some false)))) ((u1p ((rdL u0g x.2.1 x.2.2.2.toNat).2.2.2,1,9999)).bind fun y4=>cond (!y4) (some true) (cond (decide (x.2.2.2>0)) (cond (y4q (IntKind.i64.wrap (x.2.2.2 - 1)) x.1.length) ((u5k (rdL u0g x.1 (IntKind.i64.wrap (x.2.2.2 - 1)).toNat,rdL u0g x.2.1 x.2.2.2.toNat)).bind fun y5=>some (decide (y5≥0))) none) (some false)))))):Ht Bool).bind fun j6=>cond j6 (some (.inr false)) (g (x.1,x.2.1,x.2.2.1,IntKind.i64.wrap (x.2.2.2+1)))) none) (some (.inl x.1))
def u6r:=lpW _ _ u6l
theorem t8m x:u6r x=u6l u6r x:=zW t7s 230 Tryz.f230 2 55 x (by kernel_rfl)
def s0u (x:q0u):Ht Bool:=(u6r (x,x,(x.length:Int),0)).bind fun r7=>match r7 with | .inl o8=>some (decide ((o8.length:Int)≤(120:Int))) | .inr z9=>some z9
theorem r5d:t4d=s0u:=zC 230 rfl Tryz.func230 (by kernel_rfl)
def t3l(x:u8g):Ht Bool:=zK 115 x
def t22(g:Z65→Ht p55)(x:Z65):Ht p55:=cond (decide (x.2.2.2<x.2.2.1)) (cond (y4q x.2.2.2 x.2.1.length) (cond (decide ((rdL u0g x.2.1 x.2.2.2.toNat).2.2.2>x.1.2.2.2.1)) (some (.inr false)) (g (x.1,x.2.1,x.2.2.1,IntKind.i64.wrap (x.2.2.2+1)))) none) (some (.inl x.1))
def u8q:=lpW _ _ t22
theorem s8p x:u8q x=t22 u8q x:=zW s7y 115 Tryz.f115 4 139 x (by kernel_rfl)
def t06(g:Z55→Ht p55)(x:Z55):Ht p55:=cond (decide (x.2.2.2<x.2.2.1)) (cond (y4q x.2.2.2 x.2.1.length) ((((u6k (rdL u0a x.2.1 x.2.2.2.toNat)).bind fun y7=>cond (!y7) (some true) ((t61 (rdL u0a x.2.1 x.2.2.2.toNat)).bind fun y8=>cond (!y8) (some true) (cond (decide ((rdL u0a x.2.1 x.2.2.2.toNat).2.2.2.1>x.1.2.2.2.1)) (some true) (cond (decide (x.2.2.2>0)) (cond (y4q (IntKind.i64.wrap (x.2.2.2 - 1)) x.1.2.1.length) (some (decide ((rdL u0a x.1.2.1 (IntKind.i64.wrap (x.2.2.2 - 1)).toNat).2.2.2.1≥(rdL u0a x.2.1 x.2.2.2.toNat).2.2.2.1))) none) (some false))))):Ht Bool).bind fun j9=>cond j9 (some (.inr false)) (g (x.1,x.2.1,x.2.2.1,IntKind.i64.wrap (x.2.2.2+1)))) none) (some (.inl x.1))
def u68:=lpW _ _ t06
theorem s5g x:u68 x=t06 u68 x:=zW s4f 115 Tryz.f115 10 139 x (by kernel_rfl)
def t07(g:Z55→Ht p55)(x:Z55):Ht p55:=cond (decide (x.2.2.2<x.2.2.1)) (cond (y4q x.2.2.2 x.2.1.length) ((((u6k (rdL u0a x.2.1 x.2.2.2.toNat)).bind fun y12=>cond (!y12) (some true) ((t48 (rdL u0a x.2.1 x.2.2.2.toNat)).bind fun y13=>cond (!y13) (some true) (cond (decide ((rdL u0a x.2.1 x.2.2.2.toNat).2.2.1>x.1.2.2.2.1)) (some true) (cond (decide (x.2.2.2>0)) (cond (y4q (IntKind.i64.wrap (x.2.2.2 - 1)) x.1.2.2.1.length) (some (!y3c (rdL u0a x.1.2.2.1 (IntKind.i64.wrap (x.2.2.2 - 1)).toNat).2.2.2.2.2.2.2 (rdL u0a x.2.1 x.2.2.2.toNat).2.2.2.2.2.2.2)) none) (some false))))):Ht Bool).bind fun j14=>cond j14 (some (.inr false)) (g (x.1,x.2.1,x.2.2.1,IntKind.i64.wrap (x.2.2.2+1)))) none) (some (.inl x.1))
def u69:=lpW _ _ t07
theorem s5h x:u69 x=t07 u69 x:=zW s4g 115 Tryz.f115 16 139 x (by kernel_rfl)
def r2w (x:u8g):Ht Bool:=(((t4d x.1).bind fun y1=>cond (!y1) (some true) (cond (decide ((x.2.1.length:Int)>(12:Int))) (some true) (cond (decide ((x.2.2.1.length:Int)>(3:Int))) (some true) ((u1p (x.2.2.2.1,0,9999)).bind fun y2=>cond (!y2) (some true) ((u1p (x.2.2.2.2,1,9999)).bind fun y3=>some (!y3)))))):Ht Bool).bind fun j4=>cond j4 (some false) ((u8q (x,x.1,(x.1.length:Int),0)).bind fun r5=>match r5 with | .inl o6=>((u68 (o6,o6.2.1,(o6.2.1.length:Int),0)).bind fun r10=>match r10 with | .inl o11=>((u69 (o11,o11.2.2.1,(o11.2.2.1.length:Int),0)).bind fun r15=>match r15 with | .inl o16=>((u3q ([o16.2.1,o16.2.2.1]:Hu q5x)).bind fun y17=>(t2b (y17,o16.2.2.2.2)).bind fun y18=>some y18) | .inr z19=>some z19) | .inr z20=>some z20) | .inr z21=>some z21)
theorem q4b:t3l=r2w:=zC 115 rfl Tryz.func115 (by kernel_rfl)
def u83(x:u8g):Ht s3l:=zK 35 x
def u9f(g:Z57→Ht (Z89⊕Unit))(x:Z57):Ht (Z89⊕Unit):=cond (decide (x.2.2.2.2<x.2.2.2.1)) (cond (y4q x.2.2.2.2 x.2.2.1.length) ((u3y (x.2.1,([(rdL u0g x.2.2.1 x.2.2.2.2.toNat).1,(rdL u0g x.2.2.1 x.2.2.2.2.toNat).2.1]:Hu Hs))).bind fun y3=>(u45 (y3,(rdL u0g x.2.2.1 x.2.2.2.2.toNat).2.2.1)).bind fun y4=>(u3g (y4,([(rdL u0g x.2.2.1 x.2.2.2.2.toNat).2.2.2]:Hu Int))).bind fun y5=>g (x.1,y5,x.2.2.1,x.2.2.2.1,IntKind.i64.wrap (x.2.2.2.2+1))) none) (some (.inl (x.1,x.2.1)))
def u5z:=lpW _ _ u9f
theorem s15 x:u5z x=u9f u5z x:=zW s1g 35 Tryz.f35 6 94 x (by kernel_rfl)
def u7z(g:Z90→Ht (p87⊕Unit))(x:Z90):Ht (p87⊕Unit):=cond (decide (x.2.2.2.2.2.2<x.2.2.2.2.2.1)) (cond (y4q x.2.2.2.2.2.2 x.2.2.2.2.1.length) ((t47 (rdL u0a x.2.2.2.2.1 x.2.2.2.2.2.2.toNat)).bind fun y9=>cond (Nat.ble (x.1.length+(z7t y9.1).length) z7w) (g (x.1++(z7t y9.1),x.2.1,x.2.2.1,x.2.2.2.1,x.2.2.2.2.1,x.2.2.2.2.2.1,IntKind.i64.wrap (x.2.2.2.2.2.2+1))) none) none) (some (.inl (x.1,x.2.1,x.2.2.1,x.2.2.2.1)))
def u5e:=lpW _ _ u7z
theorem t9v x:u5e x=u7z u5e x:=zW t9c 35 Tryz.f35 17 94 x (by kernel_rfl)
def u5b(g:p87→Ht p54)(x:p87):Ht p54:=cond (decide (x.2.2.2<x.2.2.1)) (cond (y4q x.2.2.2 x.2.1.length) ((u3g (x.1,([((rdL (Ty.sl u0a) x.2.1 x.2.2.2.toNat).length:Int)]:Hu Int))).bind fun y8=>(u5e (y8,x.2.1,x.2.2.1,x.2.2.2,rdL (Ty.sl u0a) x.2.1 x.2.2.2.toNat,((rdL (Ty.sl u0a) x.2.1 x.2.2.2.toNat).length:Int),0)).bind fun r10=>match r10 with | .inl o11=>g (o11.1,o11.2.1,o11.2.2.1,IntKind.i64.wrap (o11.2.2.2+1)) | .inr z12=>some (.inr ())) none) (some (.inl x.1))
def u79:=lpW _ _ u5b
theorem t34 x:u79 x=u5b u79 x:=zW t9b 35 Tryz.f35 13 94 x (by kernel_rfl)
def s6q (x:u8g):Ht s3l:=(t3l x).bind fun y1=>cond (!y1) (some ((⟨#[]⟩:Hs),false)) ((u3g (([]:Hu Int),([x.2.2.2.1,x.2.2.2.2,(x.1.length:Int)]:Hu Int))).bind fun y2=>(u5z (x,y2,x.1,(x.1.length:Int),0)).bind fun r6=>match r6 with | .inl o7=>((u79 (o7.2,([o7.1.2.1,o7.1.2.2.1]:Hu q5x),(([o7.1.2.1,o7.1.2.2.1]:Hu q5x).length:Int),0)).bind fun r13=>match r13 with | .inl o14=>some (y7g o14,true) | .inr z15=>none) | .inr z16=>none)
theorem r8y:u83=s6q:=zC 35 rfl Tryz.func35 (by kernel_rfl)
def t75(x:u95):Ht Bool:=zK 125 x
def s6v (x:u95):Ht Bool:=((cond (decide (x.1=0)) (cond (decide (x.2.1=0)) (cond (decide (x.2.2.1=0)) (cond (decide (x.2.2.2.1=0)) (cond (decide ((x.2.2.2.2.1.length:Int)=(0:Int))) (cond (decide ((x.2.2.2.2.2.1.length:Int)=(0:Int))) (cond (!x.2.2.2.2.2.2.1) (some (z7o x.2.2.2.2.2.2.2 (⟨#[]⟩:Hs))) (some false)) (some false)) (some false)) (some false)) (some false)) (some false)) (some false)):Ht Bool).bind fun j1=>some j1
theorem r83:t75=s6v:=zC 125 rfl Tryz.func125 (by kernel_rfl)
def t58(x:u8g):Ht Bool:=zK 126 x
def s3s (x:u8g):Ht Bool:=((cond (decide ((x.1.length:Int)=(0:Int))) (cond (decide ((x.2.1.length:Int)=(0:Int))) (cond (decide ((x.2.2.1.length:Int)=(0:Int))) (cond (decide (x.2.2.2.1=0)) (some (decide (x.2.2.2.2=0))) (some false)) (some false)) (some false)) (some false)):Ht Bool).bind fun j1=>some j1
theorem r7i:t58=s3s:=zC 126 rfl Tryz.func126 (by kernel_rfl)
def t3n(x:Z26):Ht Bool:=zK 40 x
def s6s (x:Z26):Ht Bool:=(t75 x.2.1).bind fun y1=>(t58 x.2.2.2.2).bind fun y2=>cond (decide (x.1=1)) ((((u6k x.2.1).bind fun y3=>cond y3 ((t61 x.2.1).bind fun y4=>some y4) (some false)):Ht Bool).bind fun j5=>((cond j5 (cond (z7o x.2.2.1 (⟨#[]⟩:Hs)) (cond y2 (cond (!x.2.2.2.1) (some true) (some (decide (x.1=3)))) (some false)) (some false)) (some false)):Ht Bool).bind fun j6=>some j6) (cond (decide (x.1=2)) ((((u6k x.2.1).bind fun y7=>cond y7 ((t48 x.2.1).bind fun y8=>some y8) (some false)):Ht Bool).bind fun j9=>((cond j9 (cond (z7o x.2.2.1 (⟨#[]⟩:Hs)) (cond y2 (cond (!x.2.2.2.1) (some true) (some (decide (x.1=3)))) (some false)) (some false)) (some false)):Ht Bool).bind fun j10=>some j10) (cond (decide (x.1=3)) ((u6j x.2.2.1).bind fun y11=>((cond y1 (cond y11 (cond y2 (cond (!x.2.2.2.1) (some true) (some (decide (x.1=3)))) (some false)) (some false)) (some false)):Ht Bool).bind fun j12=>some j12) (cond (decide (x.1=4)) ((t3l x.2.2.2.2).bind fun y13=>((cond y1 (cond (z7o x.2.2.1 (⟨#[]⟩:Hs)) (cond y13 (cond (!x.2.2.2.1) (some true) (some (decide (x.1=3)))) (some false)) (some false)) (some false)):Ht Bool).bind fun j14=>some j14) (some false))))
theorem r80:t3n=s6s:=zC 40 rfl Tryz.func40 (by kernel_rfl)
def s0a(x:p9u):Ht Int:=zK 316 x
def s3n(g:p9q→Ht (p59⊕Unit))(x:p9q):Ht (p59⊕Unit):=cond (decide (x.2.2.2<8)) (cond (decide ((Int.tmod x.1 (2:Int))=1)) (g (IntKind.u32.wrap ((BitVec.ofInt IntKind.u32.bits (IntKind.u32.wrap (Int.tdiv x.1 (2:Int)))^^^BitVec.ofInt IntKind.u32.bits (3558460437:Int)).toNat:Int),x.2.1,x.2.2.1,IntKind.i64.wrap (x.2.2.2+1))) (g (IntKind.u32.wrap (Int.tdiv x.1 (2:Int)),x.2.1,x.2.2.1,IntKind.i64.wrap (x.2.2.2+1)))) (some (.inl (x.1,x.2.1,x.2.2.1)))
def t1z:=lpW _ _ s3n
theorem r73 x:t1z x=s3n t1z x:=zW s4j 316 Tryz.f316 6 33 x (by kernel_rfl)
def t09(g:p59→Ht p56)(x:p59):Ht p56:=cond (decide (x.2.2<(x.2.1.size:Int))) (cond (y4q x.2.2 x.2.1.size) ((t1z (IntKind.u32.wrap ((BitVec.ofInt IntKind.u32.bits x.1^^^BitVec.ofInt IntKind.u32.bits (IntKind.u32.wrap ((x.2.1.data.toList.getD x.2.2.toNat 0).toNat:Int))).toNat:Int),x.2.1,x.2.2,0)).bind fun r1=>match r1 with | .inl o2=>g (o2.1,o2.2.1,IntKind.i64.wrap (o2.2.2+1)) | .inr z3=>some (.inr ())) none) (some (.inl x.1))
def t1y:=lpW _ _ t09
theorem s5j x:t1y x=t09 t1y x:=zW s4i 316 Tryz.f316 2 33 x (by kernel_rfl)
def s9r (x:p9u):Ht Int:=(t1y (x.1,x.2,0)).bind fun r4=>match r4 with | .inl o5=>some o5 | .inr z6=>none
theorem q03:s0a=s9r:=zC 316 rfl Tryz.func316 (by kernel_rfl)
def r60(x:Hs):Ht Int:=zK 210 x
def r6d (x:Hs):Ht Int:=(s0a (4294967295,x)).bind fun y1=>some y1
theorem q6w:r60=r6d:=zC 210 rfl Tryz.func210 (by kernel_rfl)
def u98(x:Hs):Ht s3l:=zK 100 x
def r2x (x:Hs):Ht s3l:=cond (decide ((x.size:Int)>(20000:Int))) (some ((⟨#[]⟩:Hs),false)) ((r60 x).bind fun y1=>cond (decide (x.size+(y7g ([IntKind.u8.wrap (Int.fdiv y1 (2^(min (24:Int).toNat IntKind.u32.bits))),IntKind.u8.wrap (Int.fdiv y1 (2^(min (16:Int).toNat IntKind.u32.bits))),IntKind.u8.wrap (Int.fdiv y1 (2^(min (8:Int).toNat IntKind.u32.bits))),IntKind.u8.wrap y1]:Hu Int)).size≤140737488355328)) (some (x++(y7g ([IntKind.u8.wrap (Int.fdiv y1 (2^(min (24:Int).toNat IntKind.u32.bits))),IntKind.u8.wrap (Int.fdiv y1 (2^(min (16:Int).toNat IntKind.u32.bits))),IntKind.u8.wrap (Int.fdiv y1 (2^(min (8:Int).toNat IntKind.u32.bits))),IntKind.u8.wrap y1]:Hu Int)),true)) none)
theorem q4c:u98=r2x:=zC 100 rfl Tryz.func100 (by kernel_rfl)
def u29(x:Z26):Ht s3l:=zK 30 x
def s0t (x:Z26):Ht s3l:=(t3n x).bind fun y1=>cond (!y1) (some ((⟨#[]⟩:Hs),false)) (cond (decide (x.1=3)) ((u3y (([(IntKind.u8.wrap x.1)]:Hu Int),([x.2.2.1]:Hu Hs))).bind fun y2=>(u45 (y2,x.2.2.2.1)).bind fun y3=>(u98 (y7g y3)).bind fun y4=>some y4) (cond (decide (x.1=4)) ((u83 x.2.2.2.2).bind fun y5=>cond (Nat.ble (([(IntKind.u8.wrap x.1)]:Hu Int).length+(z7t y5.1).length) z7w) ((u98 (y7g (([(IntKind.u8.wrap x.1)]:Hu Int)++(z7t y5.1)))).bind fun y6=>some y6) none) ((t47 x.2.1).bind fun y7=>cond (Nat.ble (([(IntKind.u8.wrap x.1)]:Hu Int).length+(z7t y7.1).length) z7w) ((u98 (y7g (([(IntKind.u8.wrap x.1)]:Hu Int)++(z7t y7.1)))).bind fun y8=>some y8) none)))
theorem r5c:u29=s0t:=zC 30 rfl Tryz.func30 (by kernel_rfl)
def t73(x:Hs):Ht s3l:=zK 101 x
def s6t (x:Hs):Ht s3l:=cond (decide ((x.size:Int)<(4:Int))) (some ((⟨#[]⟩:Hs),false)) (cond (decide (0≤(0:Int))&&decide ((0:Int)≤(IntKind.i64.wrap ((x.size:Int) - (4:Int))))&&decide ((IntKind.i64.wrap ((x.size:Int) - (4:Int)))≤(x.size:Int))) ((u98 (x.extract (0:Int).toNat (IntKind.i64.wrap ((x.size:Int) - (4:Int))).toNat)).bind fun y1=>((cond (!y1.2) (some true) (some (!z7o y1.1 x))):Ht Bool).bind fun j2=>cond j2 (some ((⟨#[]⟩:Hs),false)) (some (x.extract (0:Int).toNat (IntKind.i64.wrap ((x.size:Int) - (4:Int))).toNat,true))) none)
theorem r81:t73=s6t:=zC 101 rfl Tryz.func101 (by kernel_rfl)
def t46(x:q2l):Ht p53:=zK 317 x
def t08(g:(Hs×p7r)→Ht (Unit⊕p53))(x:(Hs×p7r)):Ht (Unit⊕p53):=((cond (decide (x.2.2.2<5)) (some (decide ((IntKind.i64.wrap (x.2.1+x.2.2.2))<(x.1.size:Int)))) (some false)):Ht Bool).bind fun j2=>cond j2 (cond (y4q (IntKind.i64.wrap (x.2.1+x.2.2.2)) x.1.size) (cond (decide (0≤(IntKind.i64.wrap ((7:Int)*x.2.2.2)))) (cond (decide ((IntKind.i64.wrap ((x.1.data.toList.getD (IntKind.i64.wrap (x.2.1+x.2.2.2)).toNat 0).toNat:Int))<128)) ((u7u (IntKind.i64.wrap (x.2.2.1+(IntKind.i64.wrap ((Int.tmod (IntKind.i64.wrap ((x.1.data.toList.getD (IntKind.i64.wrap (x.2.1+x.2.2.2)).toNat 0).toNat:Int)) (128:Int))*2^(min (IntKind.i64.wrap ((7:Int)*x.2.2.2)).toNat IntKind.i64.bits)))))).bind fun y3=>((cond (!y3.2) (some true) (some (!decide ((y3.1.size:Int)=(IntKind.i64.wrap (x.2.2.2+1)))))):Ht Bool).bind fun j4=>cond j4 (some (.inr (0,0,false))) (some (.inr (IntKind.i64.wrap (x.2.2.1+(IntKind.i64.wrap ((Int.tmod (IntKind.i64.wrap ((x.1.data.toList.getD (IntKind.i64.wrap (x.2.1+x.2.2.2)).toNat 0).toNat:Int)) (128:Int))*2^(min (IntKind.i64.wrap ((7:Int)*x.2.2.2)).toNat IntKind.i64.bits)))),IntKind.i64.wrap ((IntKind.i64.wrap (x.2.1+x.2.2.2))+1),true)))) (g (x.1,x.2.1,IntKind.i64.wrap (x.2.2.1+(IntKind.i64.wrap ((Int.tmod (IntKind.i64.wrap ((x.1.data.toList.getD (IntKind.i64.wrap (x.2.1+x.2.2.2)).toNat 0).toNat:Int)) (128:Int))*2^(min (IntKind.i64.wrap ((7:Int)*x.2.2.2)).toNat IntKind.i64.bits)))),IntKind.i64.wrap (x.2.2.2+1)))) none) none) (some (.inl ()))
def t1x:=lpW _ _ t08
theorem s5i x:t1x x=t08 t1x x:=zW s4h 317 Tryz.f317 5 63 x (by kernel_rfl)
def s9q (x:q2l):Ht p53:=(u1p (x.2,0,(x.1.size:Int))).bind fun y1=>cond (!y1) (some (0,0,false)) ((t1x (x.1,x.2,0,0)).bind fun r5=>match r5 with | .inl o6=>some (0,0,false) | .inr z7=>some z7)
theorem q02:t46=s9q:=zC 317 rfl Tryz.func317 (by kernel_rfl)
def t57(x:q2l):Ht r2m:=zK 211 x
def s3q (x:q2l):Ht r2m:=(t46 x).bind fun y1=>((cond (!y1.2.2) (some true) (cond (decide (y1.1>20000)) (some true) (some (decide (y1.1>(IntKind.i64.wrap ((x.1.size:Int) - y1.2.1))))))):Ht Bool).bind fun j2=>cond j2 (some ((⟨#[]⟩:Hs),0,false)) (cond (decide (0≤y1.2.1)&&decide (y1.2.1≤(IntKind.i64.wrap (y1.2.1+y1.1)))&&decide ((IntKind.i64.wrap (y1.2.1+y1.1))≤(x.1.size:Int))) (some (x.1.extract y1.2.1.toNat (IntKind.i64.wrap (y1.2.1+y1.1)).toNat,IntKind.i64.wrap (y1.2.1+y1.1),true)) none)
theorem r7g:t57=s3q:=zC 211 rfl Tryz.func211 (by kernel_rfl)
def u1m(x:r2m):Ht p9h:=zK 102 x
def t84 (x:r2m):Ht p9h:=(t57 (x.1,x.2.1)).bind fun y1=>((cond x.2.2 (some true) (some (!y1.2.2))):Ht Bool).bind fun j2=>cond j2 (some ((⟨#[]⟩:Hs),x.1,x.2.1,true)) (some (y1.1,x.1,y1.2.1,x.2.2))
theorem r30:u1m=t84:=zC 102 rfl Tryz.func102 (by kernel_rfl)
def u3p(x:r2m):Ht (Bool×r2m):=zK 103 x
def t83 (x:r2m):Ht (Bool×r2m):=((cond x.2.2 (some true) ((u1p (x.2.1,0,IntKind.i64.wrap ((x.1.size:Int) - (1:Int)))).bind fun y1=>cond (!y1) (some true) (cond (y4q x.2.1 x.1.size) (some (decide (((x.1.data.toList.getD x.2.1.toNat 0).toNat:Int)>(1:Int)))) none))):Ht Bool).bind fun j2=>cond j2 (some (false,x.1,x.2.1,true)) (cond (y4q (IntKind.i64.wrap ((IntKind.i64.wrap (x.2.1+1)) - 1)) x.1.size) (some (decide (((x.1.data.toList.getD (IntKind.i64.wrap ((IntKind.i64.wrap (x.2.1+1)) - 1)).toNat 0).toNat:Int)=(1:Int)),x.1,IntKind.i64.wrap (x.2.1+1),x.2.2)) none)
theorem r3z:u3p=t83:=zC 103 rfl Tryz.func103 (by kernel_rfl)
def u02(x:r2m):Ht (Int×r2m):=zK 213 x
def s0v (x:r2m):Ht (Int×r2m):=(t46 (x.1,x.2.1)).bind fun y1=>((cond x.2.2 (some true) (some (!y1.2.2))):Ht Bool).bind fun j2=>cond j2 (some (0,x.1,x.2.1,true)) (some (y1.1,x.1,y1.2.1,x.2.2))
theorem r5e:u02=s0v:=zC 213 rfl Tryz.func213 (by kernel_rfl)
def t6q(x:Z70):Ht Z70:=zK 215 x
def t6i (x:Z70):Ht Z70:=(u1m x.1).bind fun y1=>(u1m y1.2).bind fun y2=>(u3p y2.2).bind fun y3=>(u02 y3.2).bind fun y4=>cond (Nat.ble (x.2.1.length+([(y1.1,y2.1,y3.1,y4.1)]:Hu u0g.den).length) z7w) (some (y4.2,x.2.1++([(y1.1,y2.1,y3.1,y4.1)]:Hu u0g.den),x.2.2)) none
theorem s9f:t6q=t6i:=zC 215 rfl Tryz.func215 (by kernel_rfl)
def u15(x:Z62):Ht Z62:=zK 10003 x
def u08(g:Z52→Ht (Z62⊕Unit))(x:Z52):Ht (Z62⊕Unit):=((cond (decide (x.2.2.2<x.2.2.1)) (some (!x.1.2.2)) (some false)):Ht Bool).bind fun j2=>cond j2 ((t6q (x.1,x.2.1.2)).bind fun y3=>g (y3.1,((),y3.2),x.2.2.1,IntKind.i64.wrap (x.2.2.2+1))) (some (.inl (x.1,(),x.2.1.2)))
def u0v:=lpW _ _ u08
theorem u3i x:u0v x=u08 u0v x:=zW u3d 10003 Tryz.f214 2 22 x (by kernel_rfl)
def u36 (x:Z62):Ht Z62:=(u02 x.1).bind fun y1=>(u0v (y1.2,((),x.2.2),y1.1,0)).bind fun r4=>match r4 with | .inl o5=>some (o5.1,(),o5.2.2) | .inr z6=>none
theorem t0m:u15=u36:=zC 10003 rfl Tryz.func214 (by kernel_rfl)
def t76(x:Z96):Ht Z96:=zK 218 x
def t7g (x:Z96):Ht Z96:=(u1m x.2).bind fun y1=>(u1m y1.2).bind fun y2=>cond (Nat.ble (x.1.2.2.2.2.1.length+([(y1.1,y2.1)]:Hu q0z.den).length) z7w) (some ((x.1.1,x.1.2.1,x.1.2.2.1,x.1.2.2.2.1,x.1.2.2.2.2.1++([(y1.1,y2.1)]:Hu q0z.den),x.1.2.2.2.2.2),y2.2)) none
theorem r1x:t76=t7g:=zC 218 rfl Tryz.func218 (by kernel_rfl)
def u2g(x:Z84):Ht Z84:=zK 10005 x
def u1i(g:Z67→Ht (Z84⊕Unit))(x:Z67):Ht (Z84⊕Unit):=((cond (decide (x.2.2.2<x.2.2.1)) (some (!x.1.2.2)) (some false)):Ht Bool).bind fun j2=>cond j2 ((t76 (x.2.1.1,x.1)).bind fun y3=>g (y3.2,(y3.1,()),x.2.2.1,IntKind.i64.wrap (x.2.2.2+1))) (some (.inl (x.1,x.2.1.1,())))
def u00:=lpW _ _ u1i
theorem u3t x:u00 x=u1i u00 x:=zW u3n 10005 Tryz.f214 2 22 x (by kernel_rfl)
def u4f (x:Z84):Ht Z84:=(u02 x.1).bind fun y1=>(u00 (y1.2,(x.2.1,()),y1.1,0)).bind fun r4=>match r4 with | .inl o5=>some (o5.1,o5.2.1,()) | .inr z6=>none
theorem t0u:u2g=u4f:=zC 10005 rfl Tryz.func214 (by kernel_rfl)
def t77(x:Z97):Ht Z97:=zK 219 x
def t7h (x:Z97):Ht Z97:=(u1m x.1).bind fun y1=>(u1m y1.2).bind fun y2=>(u3p y2.2).bind fun y3=>cond (Nat.ble (x.2.2.2.2.2.2.1.length+([(y1.1,y2.1,y3.1)]:Hu u2n.den).length) z7w) (some (y3.2,x.2.1,x.2.2.1,x.2.2.2.1,x.2.2.2.2.1,x.2.2.2.2.2.1,x.2.2.2.2.2.2.1++([(y1.1,y2.1,y3.1)]:Hu u2n.den),x.2.2.2.2.2.2.2)) none
theorem r1y:t77=t7h:=zC 219 rfl Tryz.func219 (by kernel_rfl)
def u2h(x:Z82):Ht Z82:=zK 10006 x
def u1j(g:Z68→Ht (Z82⊕Unit))(x:Z68):Ht (Z82⊕Unit):=((cond (decide (x.2.2.2<x.2.2.1)) (some (!x.1.2.2)) (some false)):Ht Bool).bind fun j2=>cond j2 ((t77 (x.1,x.2.1.2)).bind fun y3=>g (y3.1,((),y3.2),x.2.2.1,IntKind.i64.wrap (x.2.2.2+1))) (some (.inl (x.1,(),x.2.1.2)))
def u01:=lpW _ _ u1j
theorem u3u x:u01 x=u1j u01 x:=zW u3o 10006 Tryz.f214 2 22 x (by kernel_rfl)
def u4g (x:Z82):Ht Z82:=(u02 x.1).bind fun y1=>(u01 (y1.2,((),x.2.2),y1.1,0)).bind fun r4=>match r4 with | .inl o5=>some (o5.1,(),o5.2.2) | .inr z6=>none
theorem t0v:u2h=u4g:=zC 10006 rfl Tryz.func214 (by kernel_rfl)
def u6a(x:r2m):Ht Z96:=zK 105 x
def s0w (x:r2m):Ht Z96:=(u02 x).bind fun y1=>(u02 y1.2).bind fun y2=>(u02 y2.2).bind fun y3=>(u02 y3.2).bind fun y4=>(u2g (y4.2,(y1.1,y2.1,y3.1,y4.1,([]:Hu q0z.den),([]:Hu u2n.den),false,(⟨#[]⟩:Hs)),())).bind fun y5=>(u2h (y5.1,(),y5.2.1)).bind fun y6=>(u3p y6.1).bind fun y7=>(u1m y7.2).bind fun y8=>cond y8.2.2.2 (some ((y6.2.2.1,y6.2.2.2.1,y6.2.2.2.2.1,y6.2.2.2.2.2.1,y6.2.2.2.2.2.2.1,y6.2.2.2.2.2.2.2.1,y7.1,y8.1),y8.2.1,y8.2.2.1,true)) ((u6k (y6.2.2.1,y6.2.2.2.1,y6.2.2.2.2.1,y6.2.2.2.2.2.1,y6.2.2.2.2.2.2.1,y6.2.2.2.2.2.2.2.1,y7.1,y8.1)).bind fun y9=>some ((y6.2.2.1,y6.2.2.2.1,y6.2.2.2.2.1,y6.2.2.2.2.2.1,y6.2.2.2.2.2.2.1,y6.2.2.2.2.2.2.2.1,y7.1,y8.1),y8.2.1,y8.2.2.1,!y9))
theorem r5f:u6a=s0w:=zC 105 rfl Tryz.func105 (by kernel_rfl)
def t6r(x:Z71):Ht Z71:=zK 216 x
def t6j (x:Z71):Ht Z71:=(u6a x.2).bind fun y1=>cond (Nat.ble (x.1.2.1.length+([y1.1]:Hu u0a.den).length) z7w) (some ((x.1.1,x.1.2.1++([y1.1]:Hu u0a.den),x.1.2.2),y1.2)) none
theorem s9g:t6r=t6j:=zC 216 rfl Tryz.func216 (by kernel_rfl)
def u16(x:Z64):Ht Z64:=zK 10004 x
def u09(g:Z53→Ht (Z64⊕Unit))(x:Z53):Ht (Z64⊕Unit):=((cond (decide (x.2.2.2<x.2.2.1)) (some (!x.1.2.2)) (some false)):Ht Bool).bind fun j2=>cond j2 ((t6r (x.2.1.1,x.1)).bind fun y3=>g (y3.2,(y3.1,()),x.2.2.1,IntKind.i64.wrap (x.2.2.2+1))) (some (.inl (x.1,x.2.1.1,())))
def u0w:=lpW _ _ u09
theorem u3j x:u0w x=u09 u0w x:=zW u3e 10004 Tryz.f214 2 22 x (by kernel_rfl)
def u37 (x:Z64):Ht Z64:=(u02 x.1).bind fun y1=>(u0w (y1.2,(x.2.1,()),y1.1,0)).bind fun r4=>match r4 with | .inl o5=>some (o5.1,o5.2.1,()) | .inr z6=>none
theorem t0n:u16=u37:=zC 10004 rfl Tryz.func214 (by kernel_rfl)
def t6s(x:Z71):Ht Z71:=zK 217 x
def t6k (x:Z71):Ht Z71:=(u6a x.2).bind fun y1=>cond (Nat.ble (x.1.2.2.1.length+([y1.1]:Hu u0a.den).length) z7w) (some ((x.1.1,x.1.2.1,x.1.2.2.1++([y1.1]:Hu u0a.den),x.1.2.2.2),y1.2)) none
theorem s9h:t6s=t6k:=zC 217 rfl Tryz.func217 (by kernel_rfl)
def u17(x:Z64):Ht Z64:=zK 10007 x
def u1a(g:Z53→Ht (Z64⊕Unit))(x:Z53):Ht (Z64⊕Unit):=((cond (decide (x.2.2.2<x.2.2.1)) (some (!x.1.2.2)) (some false)):Ht Bool).bind fun j2=>cond j2 ((t6s (x.2.1.1,x.1)).bind fun y3=>g (y3.2,(y3.1,()),x.2.2.1,IntKind.i64.wrap (x.2.2.2+1))) (some (.inl (x.1,x.2.1.1,())))
def u0x:=lpW _ _ u1a
theorem u3k x:u0x x=u1a u0x x:=zW u3f 10007 Tryz.f214 2 22 x (by kernel_rfl)
def u38 (x:Z64):Ht Z64:=(u02 x.1).bind fun y1=>(u0x (y1.2,(x.2.1,()),y1.1,0)).bind fun r4=>match r4 with | .inl o5=>some (o5.1,o5.2.1,()) | .inr z6=>none
theorem t0o:u17=u38:=zC 10007 rfl Tryz.func214 (by kernel_rfl)
def u8i(x:r2m):Ht Z71:=zK 104 x
def t82 (x:r2m):Ht Z71:=(u02 x).bind fun y1=>(u02 y1.2).bind fun y2=>(u15 (y2.2,(),([]:Hu u0g.den),([]:Hu u0a.den),([]:Hu u0a.den),y1.1,y2.1)).bind fun y3=>(u16 (y3.1,y3.2.2,())).bind fun y4=>(u17 (y4.1,y4.2.1,())).bind fun y5=>cond y5.1.2.2 (some (y5.2.1,y5.1.1,y5.1.2.1,true)) ((t3l y5.2.1).bind fun y6=>some (y5.2.1,y5.1.1,y5.1.2.1,!y6))
theorem r3y:u8i=t82:=zC 104 rfl Tryz.func104 (by kernel_rfl)
def u97(x:Hs):Ht Z24:=zK 31 x
def s0s (x:Hs):Ht Z24:=(t73 x).bind fun y1=>((cond (!y1.2) (some true) (some (z7o y1.1 (⟨#[]⟩:Hs)))):Ht Bool).bind fun j2=>cond j2 (some ((0,(0,0,0,0,([]:Hu q0z.den),([]:Hu u2n.den),false,(⟨#[]⟩:Hs)),(⟨#[]⟩:Hs),false,([]:Hu u0g.den),([]:Hu u0a.den),([]:Hu u0a.den),0,0),false)) (cond (y4q (0:Int) y1.1.size) (cond (decide ((IntKind.i64.wrap ((y1.1.data.toList.getD (0:Int).toNat 0).toNat:Int))=3)) ((u1m (y1.1,1,false)).bind fun y3=>(u3p y3.2).bind fun y4=>(u29 (IntKind.i64.wrap ((y1.1.data.toList.getD (0:Int).toNat 0).toNat:Int),(0,0,0,0,([]:Hu q0z.den),([]:Hu u2n.den),false,(⟨#[]⟩:Hs)),y3.1,y4.1,([]:Hu u0g.den),([]:Hu u0a.den),([]:Hu u0a.den),0,0)).bind fun y5=>((cond y4.2.2.2 (some true) (cond (!y5.2) (some true) (some (!z7o y5.1 x)))):Ht Bool).bind fun j6=>cond j6 (some ((0,(0,0,0,0,([]:Hu q0z.den),([]:Hu u2n.den),false,(⟨#[]⟩:Hs)),(⟨#[]⟩:Hs),false,([]:Hu u0g.den),([]:Hu u0a.den),([]:Hu u0a.den),0,0),false)) (some ((IntKind.i64.wrap ((y1.1.data.toList.getD (0:Int).toNat 0).toNat:Int),(0,0,0,0,([]:Hu q0z.den),([]:Hu u2n.den),false,(⟨#[]⟩:Hs)),y3.1,y4.1,([]:Hu u0g.den),([]:Hu u0a.den),([]:Hu u0a.den),0,0),true))) (cond (decide ((IntKind.i64.wrap ((y1.1.data.toList.getD (0:Int).toNat 0).toNat:Int))=4)) ((u8i (y1.1,1,false)).bind fun y7=>(u29 (IntKind.i64.wrap ((y1.1.data.toList.getD (0:Int).toNat 0).toNat:Int),(0,0,0,0,([]:Hu q0z.den),([]:Hu u2n.den),false,(⟨#[]⟩:Hs)),(⟨#[]⟩:Hs),false,y7.1)).bind fun y8=>((cond y7.2.2.2 (some true) (cond (!y8.2) (some true) (some (!z7o y8.1 x)))):Ht Bool).bind fun j9=>cond j9 (some ((0,(0,0,0,0,([]:Hu q0z.den),([]:Hu u2n.den),false,(⟨#[]⟩:Hs)),(⟨#[]⟩:Hs),false,([]:Hu u0g.den),([]:Hu u0a.den),([]:Hu u0a.den),0,0),false)) (some ((IntKind.i64.wrap ((y1.1.data.toList.getD (0:Int).toNat 0).toNat:Int),(0,0,0,0,([]:Hu q0z.den),([]:Hu u2n.den),false,(⟨#[]⟩:Hs)),(⟨#[]⟩:Hs),false,y7.1),true))) ((u6a (y1.1,1,false)).bind fun y10=>(u29 (IntKind.i64.wrap ((y1.1.data.toList.getD (0:Int).toNat 0).toNat:Int),y10.1,(⟨#[]⟩:Hs),false,([]:Hu u0g.den),([]:Hu u0a.den),([]:Hu u0a.den),0,0)).bind fun y11=>((cond y10.2.2.2 (some true) (cond (!y11.2) (some true) (some (!z7o y11.1 x)))):Ht Bool).bind fun j12=>cond j12 (some ((0,(0,0,0,0,([]:Hu q0z.den),([]:Hu u2n.den),false,(⟨#[]⟩:Hs)),(⟨#[]⟩:Hs),false,([]:Hu u0g.den),([]:Hu u0a.den),([]:Hu u0a.den),0,0),false)) (some ((IntKind.i64.wrap ((y1.1.data.toList.getD (0:Int).toNat 0).toNat:Int),y10.1,(⟨#[]⟩:Hs),false,([]:Hu u0g.den),([]:Hu u0a.den),([]:Hu u0a.den),0,0),true))))) none)
theorem r5b:u97=s0s:=zC 31 rfl Tryz.func31 (by kernel_rfl)
def u4l(x:p57):Ht p5q:=zK 226 x
def t1s(g:o1v→Ht (o2p⊕Unit))(x:o1v):Ht (o2p⊕Unit):=cond (decide (x.2.2.2<x.2.1)) ((u4k x.1).bind fun y1=>cond (Nat.ble (x.2.2.1.length+([(IntKind.u8.wrap y1.1)]:Hu Int).length) z7w) (g (y1.2,x.2.1,x.2.2.1++([(IntKind.u8.wrap y1.1)]:Hu Int),IntKind.i64.wrap (x.2.2.2+1))) none) (some (.inl (x.1,x.2.2.1)))
def u43:=lpW _ _ t1s
theorem s54 x:u43 x=t1s u43 x:=zW s48 226 Tryz.f226 5 23 x (by kernel_rfl)
def r0i (x:p57):Ht p5q:=cond (decide (x.2>5000)) ((u43 (x.1,5000,([]:Hu Int),0)).bind fun r2=>match r2 with | .inl o3=>some (y7g o3.2,o3.1) | .inr z4=>none) ((u43 (x.1,x.2,([]:Hu Int),0)).bind fun r6=>match r6 with | .inl o7=>some (y7g o7.2,o7.1) | .inr z8=>none)
theorem q1u:u4l=r0i:=zC 226 rfl Tryz.func226 (by kernel_rfl)
def t2f(x:o2r):Ht p5q:=zK 110 x
def s36 (x:o2r):Ht p5q:=(u0f (x.1,12)).bind fun y1=>cond (decide (y1.1=0)) ((u4l (y1.2,1)).bind fun y2=>cond (decide (x.2.size+y2.1.size≤140737488355328)) (some (x.2++y2.1,y2.2)) none) (cond (decide (y1.1=1)) ((u0f (y1.2,IntKind.i64.wrap ((x.2.size:Int)+(1:Int)))).bind fun y3=>cond (decide (0≤(0:Int))&&decide ((0:Int)≤y3.1)&&decide (y3.1≤(x.2.size:Int))) (some (x.2.extract (0:Int).toNat y3.1.toNat,y3.2)) none) (cond (decide (y1.1=2)) (cond (decide (y1.1=2)) (cond (decide ((x.2.size:Int)>(0:Int))) ((u0f (y1.2,(x.2.size:Int))).bind fun y4=>cond (decide (0≤(0:Int))&&decide ((0:Int)≤y4.1)&&decide (y4.1≤(x.2.size:Int))) ((u4l (y4.2,1)).bind fun y5=>cond (decide ((x.2.extract (0:Int).toNat y4.1.toNat).size+y5.1.size≤140737488355328)) (cond (decide (0≤(IntKind.i64.wrap (y4.1+1)))&&decide ((IntKind.i64.wrap (y4.1+1))≤(x.2.size:Int))&&decide ((x.2.size:Int)≤(x.2.size:Int))) (cond (decide (((x.2.extract (0:Int).toNat y4.1.toNat)++y5.1).size+(x.2.extract (IntKind.i64.wrap (y4.1+1)).toNat (x.2.size:Int).toNat).size≤140737488355328)) (some (((x.2.extract (0:Int).toNat y4.1.toNat)++y5.1)++(x.2.extract (IntKind.i64.wrap (y4.1+1)).toNat (x.2.size:Int).toNat),y5.2)) none) none) none) none) (some (x.2,y1.2))) (some (x.2,y1.2))) (cond (decide (y1.1=3)) (cond (decide ((x.2.size:Int)>(0:Int))) ((u0f (y1.2,(x.2.size:Int))).bind fun y6=>cond (decide (0≤(0:Int))&&decide ((0:Int)≤y6.1)&&decide (y6.1≤(x.2.size:Int))) ((u4l (y6.2,1)).bind fun y7=>cond (decide ((x.2.extract (0:Int).toNat y6.1.toNat).size+y7.1.size≤140737488355328)) (cond (decide (0≤(IntKind.i64.wrap (y6.1+1)))&&decide ((IntKind.i64.wrap (y6.1+1))≤(x.2.size:Int))&&decide ((x.2.size:Int)≤(x.2.size:Int))) (cond (decide (((x.2.extract (0:Int).toNat y6.1.toNat)++y7.1).size+(x.2.extract (IntKind.i64.wrap (y6.1+1)).toNat (x.2.size:Int).toNat).size≤140737488355328)) (some (((x.2.extract (0:Int).toNat y6.1.toNat)++y7.1)++(x.2.extract (IntKind.i64.wrap (y6.1+1)).toNat (x.2.size:Int).toNat),y7.2)) none) none) none) none) (some (x.2,y1.2))) (some (x.2,y1.2)))))
theorem r7w:t2f=s36:=zC 110 rfl Tryz.func110 (by kernel_rfl)
def u86(x:s8y):Ht Hs:=zK 32 x
def t5o (x:s8y):Ht Hs:=(t0f x).bind fun y1=>(u0f (y1,3)).bind fun y2=>(t66 y2.2).bind fun y3=>(u11 y3.1).bind fun y4=>cond (decide (y2.1=0)) ((t3s y4.1).bind fun y5=>cond y5.2 ((t2f (y3.2,y5.1)).bind fun y6=>(t0d y6.1).bind fun y7=>some y7.1) (some y4.1)) (some y4.1)
theorem s7q:u86=t5o:=zC 32 rfl Tryz.func32 (by kernel_rfl)
def t3w(x:s2n):Ht p9d:=zK 319 x
def t0l(g:o1s→Ht (o2c⊕Unit))(x:o1s):Ht (o2c⊕Unit):=(u0f (x.1,8)).bind fun y1=>cond (decide (x.2.2<y1.1)) ((u7s y1.2).bind fun y2=>(u5l (x.2.1,y2.1,IntKind.i64.wrap (x.2.2+1))).bind fun y3=>g (y2.2,y3,IntKind.i64.wrap (x.2.2+1))) (some (.inl (y1.2,x.2.1)))
def u34:=lpW _ _ t0l
theorem s9j x:u34 x=t0l u34 x:=zW t6o 319 Tryz.f319 3 19 x (by kernel_rfl)
def t88 (x:s2n):Ht p9d:=(u34 (x,([]:Hu u0g.den),0)).bind fun r4=>match r4 with | .inl o5=>some (o5.2,o5.1) | .inr z6=>none
theorem r36:t3w=t88:=zC 319 rfl Tryz.func319 (by kernel_rfl)
def s3b(x:s2n):Ht p9d:=zK 229 x
def r3j (x:s2n):Ht p9d:=(u0f (x,10)).bind fun y1=>(u0f (y1.2,60)).bind fun y2=>(t3w y2.2).bind fun y3=>cond (Nat.ble (([]:Hu u0g.den).length+y3.1.length) z7w) (cond (decide (((([]:Hu u0g.den)++y3.1).length:Int)>(0:Int))) (cond (!decide (((([]:Hu u0g.den)++y3.1).length:Int)=0)) (cond (decide (y1.1=0)) (cond (y4q (Int.tmod y2.1 (4:Int)) ([(0:Int),9999,10000,(3:Int)]:Hu Int).length) (cond (y4q (Int.tmod y2.1 ((([]:Hu u0g.den)++y3.1).length:Int)) (([]:Hu u0g.den)++y3.1).length) (some ((([]:Hu u0g.den)++y3.1).set (Int.tmod y2.1 ((([]:Hu u0g.den)++y3.1).length:Int)).toNat ((rdL u0g (([]:Hu u0g.den)++y3.1) (Int.tmod y2.1 ((([]:Hu u0g.den)++y3.1).length:Int)).toNat).1,(rdL u0g (([]:Hu u0g.den)++y3.1) (Int.tmod y2.1 ((([]:Hu u0g.den)++y3.1).length:Int)).toNat).2.1,(rdL u0g (([]:Hu u0g.den)++y3.1) (Int.tmod y2.1 ((([]:Hu u0g.den)++y3.1).length:Int)).toNat).2.2.1,rdL (Ty.int .i64) ([(0:Int),9999,10000,(3:Int)]:Hu Int) (Int.tmod y2.1 (4:Int)).toNat),y3.2)) none) none) (cond (decide (y1.1=1)) (cond (y4q (Int.tmod y2.1 (3:Int)) ([(⟨#[]⟩:Hs),(⟨#[65]⟩:Hs),(⟨#[122]⟩:Hs)]:Hu Hs).length) (cond (y4q (Int.tmod y2.1 ((([]:Hu u0g.den)++y3.1).length:Int)) (([]:Hu u0g.den)++y3.1).length) (some ((([]:Hu u0g.den)++y3.1).set (Int.tmod y2.1 ((([]:Hu u0g.den)++y3.1).length:Int)).toNat (rdL Ty.str ([(⟨#[]⟩:Hs),(⟨#[65]⟩:Hs),(⟨#[122]⟩:Hs)]:Hu Hs) (Int.tmod y2.1 (3:Int)).toNat,(rdL u0g (([]:Hu u0g.den)++y3.1) (Int.tmod y2.1 ((([]:Hu u0g.den)++y3.1).length:Int)).toNat).2),y3.2)) none) none) (cond (decide (y1.1=2)) (cond (y4q (Int.tmod y2.1 ((([]:Hu u0g.den)++y3.1).length:Int)) (([]:Hu u0g.den)++y3.1).length) (some ((([]:Hu u0g.den)++y3.1).set (Int.tmod y2.1 ((([]:Hu u0g.den)++y3.1).length:Int)).toNat ((rdL u0g (([]:Hu u0g.den)++y3.1) (Int.tmod y2.1 ((([]:Hu u0g.den)++y3.1).length:Int)).toNat).1,(rdL u0g (([]:Hu u0g.den)++y3.1) (Int.tmod y2.1 ((([]:Hu u0g.den)++y3.1).length:Int)).toNat).2.1,true,(rdL u0g (([]:Hu u0g.den)++y3.1) (Int.tmod y2.1 ((([]:Hu u0g.den)++y3.1).length:Int)).toNat).2.2.2),y3.2)) none) (cond (decide (y1.1=3)) ((u7v (13,97)).bind fun y4=>cond (y4q (Int.tmod y2.1 ((([]:Hu u0g.den)++y3.1).length:Int)) (([]:Hu u0g.den)++y3.1).length) (some ((([]:Hu u0g.den)++y3.1).set (Int.tmod y2.1 ((([]:Hu u0g.den)++y3.1).length:Int)).toNat ((rdL u0g (([]:Hu u0g.den)++y3.1) (Int.tmod y2.1 ((([]:Hu u0g.den)++y3.1).length:Int)).toNat).1,y4,(rdL u0g (([]:Hu u0g.den)++y3.1) (Int.tmod y2.1 ((([]:Hu u0g.den)++y3.1).length:Int)).toNat).2.2),y3.2)) none) (some (([]:Hu u0g.den)++y3.1,y3.2)))))) none) (some (([]:Hu u0g.den)++y3.1,y3.2))) none
theorem q4y:s3b=r3j:=zC 229 rfl Tryz.func229 (by kernel_rfl)
def t65(x:s2n):Ht Z72:=zK 114 x
def r3o (x:s2n):Ht Z72:=(u0f (x,14)).bind fun y1=>(u0f (y1.2,60)).bind fun y2=>(t01 y2.2).bind fun y3=>(u1z y3.1).bind fun y4=>cond (decide (y1.1=0)) (cond (y4q (Int.tmod y2.1 (4:Int)) ([(0:Int),1,9999,(10000:Int)]:Hu Int).length) (some ((y4.1,y4.2.1,y4.2.2.1,rdL (Ty.int .i64) ([(0:Int),1,9999,(10000:Int)]:Hu Int) (Int.tmod y2.1 (4:Int)).toNat,y4.2.2.2.2),y3.2)) none) (cond (decide (y1.1=1)) (some ((y4.1,y4.2.1,y4.2.2.1,y4.2.2.2.1,Int.tmod y2.1 (4:Int)),y3.2)) (cond (decide (y1.1=2)) ((t3x y3.2).bind fun y5=>cond (Nat.ble (y4.2.1.length+([y5.1]:Hu u0a.den).length) z7w) (some ((y4.1,y4.2.1++([y5.1]:Hu u0a.den),y4.2.2),y5.2)) none) (cond (decide (y1.1=3)) ((t3x y3.2).bind fun y6=>cond (Nat.ble (y4.2.2.1.length+([y6.1]:Hu u0a.den).length) z7w) (some ((y4.1,y4.2.1,y4.2.2.1++([y6.1]:Hu u0a.den),y4.2.2.2),y6.2)) none) (cond (decide (y1.1=4)) ((s3b y3.2).bind fun y7=>some ((y7.1,y4.2),y7.2)) (some (y4,y3.2))))))
theorem q43:t65=r3o:=zC 114 rfl Tryz.func114 (by kernel_rfl)
def t2n(x:s8y):Ht u8g:=zK 34 x
def t7j (x:s8y):Ht u8g:=(t0f x).bind fun y1=>(t65 y1).bind fun y2=>some y2.1
theorem r12:t2n=t7j:=zC 34 rfl Tryz.func34 (by kernel_rfl)
def t3m(x:q2l):Ht Z85:=zK 36 x
def s6r (x:q2l):Ht Z85:=(u8i (x.1,x.2,false)).bind fun y1=>cond y1.2.2.2 (some ((([]:Hu u0g.den),([]:Hu u0a.den),([]:Hu u0a.den),0,0),0,false)) (some (y1.1,y1.2.2.1,true))
theorem r8z:t3m=s6r:=zC 36 rfl Tryz.func36 (by kernel_rfl)
def t2o(x:s8y):Ht q2l:=zK 37 x
def t7k (x:s8y):Ht q2l:=(t0f x).bind fun y1=>(u0f (y1,4)).bind fun y2=>(t65 y2.2).bind fun y3=>(u85 y3.1).bind fun y4=>cond (decide (y2.1=0)) ((t2f (y3.2,y4.1)).bind fun y5=>some (y5.1,0)) (cond (decide (y2.1=1)) (cond (decide ((⟨#[120]⟩:Hs).size+y4.1.size≤140737488355328)) (some ((⟨#[120]⟩:Hs)++y4.1,1)) none) (cond (decide (y4.1.size+(⟨#[109,111,114,101]⟩:Hs).size≤140737488355328)) (some (y4.1++(⟨#[109,111,114,101]⟩:Hs),0)) none))
theorem r19:t2o=t7k:=zC 37 rfl Tryz.func37 (by kernel_rfl)
def t2m(x:o2n):Ht Bool:=zK 132 x
def u5c(g:o0i→Ht r2n)(x:o0i):Ht r2n:=cond (decide (x.2.2<(x.1.length:Int))) (cond (y4q x.2.2 x.1.length) (cond (y4q x.2.2 x.2.1.length) (cond (!(z7o (rdL u0g x.1 x.2.2.toNat).1 (rdL u0g x.2.1 x.2.2.toNat).1&&(z7o (rdL u0g x.1 x.2.2.toNat).2.1 (rdL u0g x.2.1 x.2.2.toNat).2.1&&(((rdL u0g x.1 x.2.2.toNat).2.2.1==(rdL u0g x.2.1 x.2.2.toNat).2.2.1)&&(decide ((rdL u0g x.1 x.2.2.toNat).2.2.2=(rdL u0g x.2.1 x.2.2.toNat).2.2.2)&&true))))) (some (.inr false)) (g (x.1,x.2.1,IntKind.i64.wrap (x.2.2+1)))) none) none) (some (.inl ()))
def u5f:=lpW _ _ u5c
theorem t50 x:u5f x=u5c u5f x:=zW t5r 132 Tryz.f132 4 26 x (by kernel_rfl)
def t7i (x:o2n):Ht Bool:=cond (!decide ((x.1.length:Int)=(x.2.length:Int))) (some false) ((u5f (x.1,x.2,0)).bind fun r1=>match r1 with | .inl o2=>some true | .inr z3=>some z3)
theorem r1z:t2m=t7i:=zC 132 rfl Tryz.func132 (by kernel_rfl)
def t4f(x:p9i):Ht Bool:=zK 238 x
def u6m(g:p7n→Ht r2n)(x:p7n):Ht r2n:=cond (decide (x.2.2<(x.1.length:Int))) (cond (y4q x.2.2 x.1.length) (cond (y4q x.2.2 x.2.1.length) (cond (!(z7o (rdL u2n x.1 x.2.2.toNat).1 (rdL u2n x.2.1 x.2.2.toNat).1&&(z7o (rdL u2n x.1 x.2.2.toNat).2.1 (rdL u2n x.2.1 x.2.2.toNat).2.1&&(((rdL u2n x.1 x.2.2.toNat).2.2==(rdL u2n x.2.1 x.2.2.toNat).2.2)&&true)))) (some (.inr false)) (g (x.1,x.2.1,IntKind.i64.wrap (x.2.2+1)))) none) none) (some (.inl ()))
def u6s:=lpW _ _ u6m
theorem t8n x:u6s x=u6m u6s x:=zW t7t 238 Tryz.f238 4 26 x (by kernel_rfl)
def s0y (x:p9i):Ht Bool:=cond (!decide ((x.1.length:Int)=(x.2.length:Int))) (some false) ((u6s (x.1,x.2,0)).bind fun r1=>match r1 with | .inl o2=>some true | .inr z3=>some z3)
theorem r5h:t4f=s0y:=zC 238 rfl Tryz.func238 (by kernel_rfl)
def t49(x:Z46):Ht Bool:=zK 130 x
def t1b(g:Z42→Ht r2n)(x:Z42):Ht r2n:=cond (decide (x.2.2<(x.1.2.2.2.2.1.length:Int))) (cond (y4q x.2.2 x.1.2.2.2.2.1.length) (cond (y4q x.2.2 x.2.1.2.2.2.2.1.length) (cond (!(z7o (rdL q0z x.1.2.2.2.2.1 x.2.2.toNat).1 (rdL q0z x.2.1.2.2.2.2.1 x.2.2.toNat).1&&(z7o (rdL q0z x.1.2.2.2.2.1 x.2.2.toNat).2 (rdL q0z x.2.1.2.2.2.2.1 x.2.2.toNat).2&&true))) (some (.inr false)) (g (x.1,x.2.1,IntKind.i64.wrap (x.2.2+1)))) none) none) (some (.inl ()))
def u7b:=lpW _ _ t1b
theorem s5l x:u7b x=t1b u7b x:=zW s4m 130 Tryz.f130 4 81 x (by kernel_rfl)
def s9v (x:Z46):Ht Bool:=((cond (!decide (x.1.1=x.2.1)) (some true) (cond (!decide (x.1.2.1=x.2.2.1)) (some true) (cond (!decide (x.1.2.2.1=x.2.2.2.1)) (some true) (cond (!decide (x.1.2.2.2.1=x.2.2.2.2.1)) (some true) (cond (!(x.1.2.2.2.2.2.2.1==x.2.2.2.2.2.2.2.1)) (some true) (cond (!z7o x.1.2.2.2.2.2.2.2 x.2.2.2.2.2.2.2.2) (some true) (cond (!decide ((x.1.2.2.2.2.1.length:Int)=(x.2.2.2.2.2.1.length:Int))) (some true) ((t4f (x.1.2.2.2.2.2.1,x.2.2.2.2.2.2.1)).bind fun y1=>some (!y1))))))))):Ht Bool).bind fun j2=>cond j2 (some false) ((u7b (x.1,x.2,0)).bind fun r3=>match r3 with | .inl o4=>some true | .inr z5=>some z5)
theorem q08:t49=s9v:=zC 130 rfl Tryz.func130 (by kernel_rfl)
def t3p(x:o1l):Ht Bool:=zK 133 x
def u9j(g:p86→Ht r2n)(x:p86):Ht r2n:=cond (decide (x.2.2<(x.1.length:Int))) (cond (y4q x.2.2 x.1.length) (cond (y4q x.2.2 x.2.1.length) ((t49 (rdL u0a x.1 x.2.2.toNat,rdL u0a x.2.1 x.2.2.toNat)).bind fun y1=>cond (!y1) (some (.inr false)) (g (x.1,x.2.1,IntKind.i64.wrap (x.2.2+1)))) none) none) (some (.inl ()))
def u9z:=lpW _ _ u9j
theorem s19 x:u9z x=u9j u9z x:=zW s1k 133 Tryz.f133 4 27 x (by kernel_rfl)
def s6y (x:o1l):Ht Bool:=cond (!decide ((x.1.length:Int)=(x.2.length:Int))) (some false) ((u9z (x.1,x.2,0)).bind fun r2=>match r2 with | .inl o3=>some true | .inr z4=>some z4)
theorem r86:t3p=s6y:=zC 133 rfl Tryz.func133 (by kernel_rfl)
def u06(x:Z28):Ht Bool:=zK 43 x
def s6x (x:Z28):Ht Bool:=(((t2m (x.1.1,x.2.1)).bind fun y1=>cond y1 ((t3p (x.1.2.1,x.2.2.1)).bind fun y2=>cond y2 ((t3p (x.1.2.2.1,x.2.2.2.1)).bind fun y3=>cond y3 (cond (decide (x.1.2.2.2.1=x.2.2.2.2.1)) (some (decide (x.1.2.2.2.2=x.2.2.2.2.2))) (some false)) (some false)) (some false)) (some false)):Ht Bool).bind fun j4=>some j4
theorem r85:u06=s6x:=zC 43 rfl Tryz.func43 (by kernel_rfl)
def t4e(x:Z4):Ht Bool:=zK 41 x
def s0x (x:Z4):Ht Bool:=((cond (decide (x.1.1=x.2.1)) ((t49 (x.1.2.1,x.2.2.1)).bind fun y1=>cond y1 (cond (z7o x.1.2.2.1 x.2.2.2.1) (cond (x.1.2.2.2.1==x.2.2.2.2.1) ((u06 (x.1.2.2.2.2,x.2.2.2.2.2)).bind fun y2=>some y2) (some false)) (some false)) (some false)) (some false)):Ht Bool).bind fun j3=>some j3
theorem r5g:t4e=s0x:=zC 41 rfl Tryz.func41 (by kernel_rfl)
def s5f(x:s8y):Ht Bool:=zK 5 x
def s3w (x:s8y):Ht Bool:=(q28 x).bind fun y1=>cond y1 (some true) ((u87 x).bind fun y2=>(u29 y2).bind fun y3=>(u97 y3.1).bind fun y4=>(u86 x).bind fun y5=>(u97 y5).bind fun y6=>(t0c y5).bind fun y7=>(u29 y6.1).bind fun y8=>(t2n x).bind fun y9=>(u83 y9).bind fun y10=>cond (decide ((⟨#[120]⟩:Hs).size+y10.1.size≤140737488355328)) (cond (decide (((⟨#[120]⟩:Hs)++y10.1).size+(⟨#[121]⟩:Hs).size≤140737488355328)) ((t3m (((⟨#[120]⟩:Hs)++y10.1)++(⟨#[121]⟩:Hs),1)).bind fun y11=>(t2o x).bind fun y12=>(t3m y12).bind fun y13=>(u88 y12).bind fun y14=>(((u89 y2).bind fun y15=>cond (y3.2==y15) ((t3n y2).bind fun y16=>cond (y16==y3.2) (cond (!y3.2) (cond (y6.2==y7.2) (cond (!y6.2) ((u2l y9).bind fun y17=>cond (y10.2==y17) (cond (!y10.2) (cond (y13.2.2==y14.2.2) (cond (decide (y13.2.1=y14.2.1)) ((u06 (y13.1,y14.1)).bind fun y18=>some y18) (some false)) (some false)) (cond y11.2.2 ((u06 (y11.1,y9)).bind fun y19=>cond y19 (cond (decide (y11.2.1=(IntKind.i64.wrap ((1:Int)+(y10.1.size:Int))))) (cond (y13.2.2==y14.2.2) (cond (decide (y13.2.1=y14.2.1)) ((u06 (y13.1,y14.1)).bind fun y20=>some y20) (some false)) (some false)) (some false)) (some false)) (some false))) (some false)) (cond (z7o y8.1 y5) ((u2l y9).bind fun y21=>cond (y10.2==y21) (cond (!y10.2) (cond (y13.2.2==y14.2.2) (cond (decide (y13.2.1=y14.2.1)) ((u06 (y13.1,y14.1)).bind fun y22=>some y22) (some false)) (some false)) (cond y11.2.2 ((u06 (y11.1,y9)).bind fun y23=>cond y23 (cond (decide (y11.2.1=(IntKind.i64.wrap ((1:Int)+(y10.1.size:Int))))) (cond (y13.2.2==y14.2.2) (cond (decide (y13.2.1=y14.2.1)) ((u06 (y13.1,y14.1)).bind fun y24=>some y24) (some false)) (some false)) (some false)) (some false)) (some false))) (some false)) (some false))) (some false)) (cond y4.2 ((t4e (y4.1,y2)).bind fun y25=>cond y25 (cond (y6.2==y7.2) (cond (!y6.2) ((u2l y9).bind fun y26=>cond (y10.2==y26) (cond (!y10.2) (cond (y13.2.2==y14.2.2) (cond (decide (y13.2.1=y14.2.1)) ((u06 (y13.1,y14.1)).bind fun y27=>some y27) (some false)) (some false)) (cond y11.2.2 ((u06 (y11.1,y9)).bind fun y28=>cond y28 (cond (decide (y11.2.1=(IntKind.i64.wrap ((1:Int)+(y10.1.size:Int))))) (cond (y13.2.2==y14.2.2) (cond (decide (y13.2.1=y14.2.1)) ((u06 (y13.1,y14.1)).bind fun y29=>some y29) (some false)) (some false)) (some false)) (some false)) (some false))) (some false)) (cond (z7o y8.1 y5) ((u2l y9).bind fun y30=>cond (y10.2==y30) (cond (!y10.2) (cond (y13.2.2==y14.2.2) (cond (decide (y13.2.1=y14.2.1)) ((u06 (y13.1,y14.1)).bind fun y31=>some y31) (some false)) (some false)) (cond y11.2.2 ((u06 (y11.1,y9)).bind fun y32=>cond y32 (cond (decide (y11.2.1=(IntKind.i64.wrap ((1:Int)+(y10.1.size:Int))))) (cond (y13.2.2==y14.2.2) (cond (decide (y13.2.1=y14.2.1)) ((u06 (y13.1,y14.1)).bind fun y33=>some y33) (some false)) (some false)) (some false)) (some false)) (some false))) (some false)) (some false))) (some false)) (some false)) (some false))) (some false)) (some false)):Ht Bool).bind fun j34=>some j34) none) none)
theorem r7m:s5f=s3w:=zC 5 rfl Tryz.func5 (by kernel_rfl)
end
end Go.Proofs.YtkdpclfhapphhaaGreat.Ab
