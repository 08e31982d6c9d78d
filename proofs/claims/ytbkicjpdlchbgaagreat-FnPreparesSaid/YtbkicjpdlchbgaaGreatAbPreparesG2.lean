import Derived.Test.YtbkicjpdlchbgaaGreatAbPreparesG1
namespace Go.Proofs.YtbkicjpdlchbgaaGreat.Ab
open Go
set_option linter.unusedVariables false
noncomputable section
set_option maxRecDepth 100000
def u6q(x:p0x):Option r8j:=zK 417 x
def u9j(g:o4y→Option (o43⊕r8j))(x:o4y):Option (o43⊕r8j):=(bif (decide (x.2.2≥0)) then(bif (y4q x.2.2 x.2.1.2.length) then(bif (decide ((rdL p4o x.2.1.2 (x.2.2).toNat).1=x.1)) then(bif (y4q x.2.2 x.2.1.2.length) then(some (.inr ((rdL p4o x.2.1.2 (x.2.2).toNat).2,true))) else none) else(g (x.1,(x.2.1,(IntKind.i64.wrap (x.2.2 - 1)))))) else none) else(some (.inl (x.1,x.2.1))))
def u9m:=lpW _ _ u9j
theorem s06 x:u9m x=u9j u9m x:=zW s0i 417 Tryz.f417 4 41 x (by kernel_rfl)
def s3g (x:p0x):Option r8j:=((u0n (x.2,(0,(IntKind.i64.wrap ((x.1.1.length:Int) - (1:Int)))))).bind fun y1=>(bif (!y1) then(some ((⟨#[]⟩:ByteArray),false)) else((u9m (x.2,(x.1,(IntKind.i64.wrap ((x.1.2.length:Int) - (1:Int)))))).bind fun r2=>match r2 with | .inl o3=>(bif (y4q o3.1 o3.2.1.length) then(some ((rdL Ty.str o3.2.1 (o3.1).toNat),true)) else none) | .inr z4=>(some z4))))
theorem r6n:u6q=s3g:=zC 417 rfl Tryz.func417 (by kernel_rfl)
def t7j(x:o2a):Option r8j:=zK 344 x
def u9k(g:o4i→Option (ByteArray⊕r8j))(x:o4i):Option (ByteArray⊕r8j):=(bif (decide (x.2.2.2.2<x.2.1)) then(((bif (decide (x.1<0)) then(some true) else(some (decide (x.1 >(x.2.2.1.1.length:Int))))):Option Bool).bind fun j2=>(bif j2 then(some (.inr ((⟨#[]⟩:ByteArray),false))) else((u6q (x.2.2.1,(IntKind.i64.wrap (x.1+x.2.2.2.2)))).bind fun y3=>(bif (!y3.2) then(some (.inr ((⟨#[]⟩:ByteArray),false))) else(bif (decide (x.2.2.2.1.size+y3.1.size≤140737488355328)) then(g (x.1,(x.2.1,(x.2.2.1,((x.2.2.2.1++y3.1),(IntKind.i64.wrap (x.2.2.2.2+1))))))) else none))))) else(some (.inl x.2.2.2.1)))
def u9n:=lpW _ _ u9k
theorem s07 x:u9n x=u9k u9n x:=zW s0j 344 Tryz.f344 5 43 x (by kernel_rfl)
def s3i (x:o2a):Option r8j:=((u0n (x.2.2,(0,100))).bind fun y1=>(bif (!y1) then(some ((⟨#[]⟩:ByteArray),false)) else((u9n (x.2.1,(x.2.2,(x.1,((⟨#[]⟩:ByteArray),0))))).bind fun r4=>match r4 with | .inl o5=>(some (o5,true)) | .inr z6=>(some z6))))
theorem r6p:t7j=s3i:=zC 344 rfl Tryz.func344 (by kernel_rfl)
def u7h(x:Int):Option Int:=zK 345 x
def s52 (x:Int):Option Int:=((u0n (x,(0,1))).bind fun y1=>(bif (!y1) then(some (0:Int)) else(some (IntKind.i64.wrap ((1:Int)+(IntKind.i64.wrap (x*48)))))))
theorem r86:u7h=s52:=zC 345 rfl Tryz.func345 (by kernel_rfl)
def t4b(x:p0x):Option Int:=zK 347 x
def r2h (x:p0x):Option Int:=((u6q x).bind fun y1=>(((bif (!y1.2) then(some true) else(some (z7o y1.1 (⟨#[]⟩:ByteArray)))):Option Bool).bind fun j2=>(bif j2 then(some (0:Int)) else(bif (y4q (0:Int) y1.1.size) then(some (IntKind.i64.wrap ((y1.1.data.toList.getD ((0:Int)).toNat 0).toNat:Int))) else none))))
theorem q3k:t4b=r2h:=zC 347 rfl Tryz.func347 (by kernel_rfl)
def t38(x:p0x):Option Int:=zK 346 x
def r1l (x:p0x):Option Int:=((u0n (x.2,(0,1))).bind fun y1=>(bif (!y1) then(some (0:Int)) else((u7h x.2).bind fun y2=>((t4b (x.1,y2)).bind fun y3=>(some y3)))))
theorem q2x:t38=r1l:=zC 346 rfl Tryz.func346 (by kernel_rfl)
def u8v(x:p0x):Option (p4r×p8j):=zK 227 x
def t1k(g:Z98→Option ((p4r×Int)⊕(p4r×p8j)))(x:Z98):Option ((p4r×Int)⊕(p4r×p8j)):=((t38 (x.2.1,x.1)).bind fun y4=>(bif (decide (x.2.2.2.2.2.2<y4)) then((t5f (x.2.2.2.1,x.2.2.2.2.2.1)).bind fun y5=>(((bif (!y5.2.2) then(some true) else(some (z7o y5.1 (⟨#[]⟩:ByteArray)))):Option Bool).bind fun j6=>(bif j6 then(some (.inr (x.2.2.1,(0,false)))) else(bif (Nat.ble (x.2.2.2.2.1.length+([y5.1] :List ByteArray).length) z7w) then(g (x.1,(x.2.1,(x.2.2.1,(x.2.2.2.1,((x.2.2.2.2.1++([y5.1] :List ByteArray)),(y5.2.1,(IntKind.i64.wrap (x.2.2.2.2.2.2+1))))))))) else none)))) else(some (.inl (x.2.2.2.2.1,x.2.2.2.2.2.1)))))
def t1o:=lpW _ _ t1k
theorem s2h x:t1o x=t1k t1o x:=zW s10 227 Tryz.f227 10 61 x (by kernel_rfl)
def s8w (x:p0x):Option (p4r×p8j):=((u0n (x.2,(0,1))).bind fun y1=>(bif (!y1) then(some (([] :List ByteArray),(0,false))) else((u7h x.2).bind fun y2=>((t7j (x.1,((IntKind.i64.wrap (y2+1)),47))).bind fun y3=>(bif (!y3.2) then(some (([] :List ByteArray),(0,false))) else((t1o (x.2,(x.1,(([] :List ByteArray),(y3.1,(([] :List ByteArray),(0,0))))))).bind fun r7=>match r7 with | .inl o8=>(some (o8.1,(o8.2,true))) | .inr z9=>(some z9)))))))
theorem q01:u8v=s8w:=zC 227 rfl Tryz.func227 (by kernel_rfl)
def t2i(x:s1b):Option Int:=zK 228 x
def s8p (x:s1b):Option Int:=((t4b (x,0)).bind fun y1=>(some (Int.tmod y1 (2:Int))))
theorem q0u:t2i=s8p:=zC 228 rfl Tryz.func228 (by kernel_rfl)
def s0r(x:s1b):Option p4r:=zK 91 x
def s8t (x:s1b):Option p4r:=((t2i x).bind fun y1=>((u8v (x,y1)).bind fun y2=>(some y2.1)))
theorem q0y:s0r=s8t:=zC 91 rfl Tryz.func91 (by kernel_rfl)
def t8a(x:s1b):Option Z92:=zK 88 x
def t4r(g:Z29→Option (Z37⊕Z92))(x:Z29):Option (Z37⊕Z92):=(bif (decide (x.2.2.2<(x.2.2.1.length:Int))) then(bif (y4q x.2.2.2 x.2.2.1.length) then((t7i (rdL Ty.str x.2.2.1 (x.2.2.2).toNat)).bind fun y3=>((s5r (x.2.1,y3.1)).bind fun y4=>(((bif (!y3.2) then(some true) else(some (!y4.2))):Option Bool).bind fun j5=>(bif j5 then(some (.inr ((([] :List u0i.den),(([] :List u0a.den),(([] :List u0a.den),(0,0)))),false))) else(g (x.1,(y4.1,(x.2.2.1,(IntKind.i64.wrap (x.2.2.2+1)))))))))) else none) else(some (.inl (x.1,x.2.1))))
def u58:=lpW _ _ t4r
theorem s7n x:u58 x=t4r u58 x:=zW s6t 88 Tryz.f88 4 43 x (by kernel_rfl)
def r1q (x:s1b):Option Z92:=((s2t ()).bind fun y1=>((s0r x).bind fun y2=>((u58 ((([] :List u0i.den),(([] :List u0a.den),(([] :List u0a.den),(0,0)))),(y1,(y2,0)))).bind fun r6=>match r6 with | .inl o7=>(some (o7.2,true)) | .inr z8=>(some z8))))
theorem q22:t8a=r1q:=zC 88 rfl Tryz.func88 (by kernel_rfl)
def t3i(x:s1b):Option Bool:=zK 329 x
def t54(g:p0x→Option (s1b⊕Bool))(x:p0x):Option (s1b⊕Bool):=(bif (decide (x.2<(x.1.1.length:Int))) then(bif (y4q x.2 x.1.1.length) then(bif (!decide (((rdL Ty.str x.1.1 (x.2).toNat).size:Int)=(64:Int))) then(some (.inr false)) else(g (x.1,(IntKind.i64.wrap (x.2+1))))) else none) else(some (.inl x.1)))
def t6a:=lpW _ _ t54
theorem r0e x:t6a x=t54 t6a x:=zW s9n 329 Tryz.f329 4 59 x (by kernel_rfl)
def t55(g:p0x→Option r8k)(x:p0x):Option r8k:=(bif (decide (x.2<(x.1.2.length:Int))) then(((bif (y4q x.2 x.1.2.length) then((u0n ((rdL p4o x.1.2 (x.2).toNat).1,(0,(IntKind.i64.wrap ((x.1.1.length:Int) - (1:Int)))))).bind fun y5=>(bif (!y5) then(some true) else(bif (y4q x.2 x.1.2.length) then(some (!decide (((rdL p4o x.1.2 (x.2).toNat).2.size:Int)=(64:Int)))) else none))) else none):Option Bool).bind fun j6=>(bif j6 then(some (.inr false)) else(g (x.1,(IntKind.i64.wrap (x.2+1)))))) else(some (.inl ())))
def t6b:=lpW _ _ t55
theorem r0f x:t6b x=t55 t6b x:=zW s9o 329 Tryz.f329 9 59 x (by kernel_rfl)
def r4p (x:s1b):Option Bool:=((((u0n ((x.1.length:Int),(1,100))).bind fun y1=>(bif (!y1) then(some true) else(some (decide ((x.2.length:Int) >(60:Int)))))):Option Bool).bind fun j2=>(bif j2 then(some false) else((t6a (x,0)).bind fun r3=>match r3 with | .inl o4=>((t6b (o4,0)).bind fun r7=>match r7 with | .inl o8=>(some true) | .inr z9=>(some z9)) | .inr z10=>(some z10))))
theorem q6d:t3i=r4p:=zC 329 rfl Tryz.func329 (by kernel_rfl)
def s15(x:s1b):Option Bool:=zK 212 x
def r7v (x:s1b):Option Bool:=((((t3i x).bind fun y1=>(bif (!y1) then(some true) else((u8y ()).bind fun y2=>(bif (!decide ((x.1.length:Int)=y2)) then(some true) else(some (decide ((x.2.length:Int) >(0:Int)))))))):Option Bool).bind fun j3=>(bif j3 then(some false) else((u8v (x,0)).bind fun y4=>((u8v (x,1)).bind fun y5=>(((bif y4.2.2 then(some y5.2.2) else(some false)):Option Bool).bind fun j6=>(some j6))))))
theorem q8v:s15=r7v:=zC 212 rfl Tryz.func212 (by kernel_rfl)
def u7i(x:s1b):Option s1b:=zK 413 x
def t1i(g:Z91→Option (p99⊕Unit))(x:Z91):Option (p99⊕Unit):=(bif (decide (x.2.2.2<(x.1.2.length:Int))) then(bif (y4q x.2.2.2 x.1.2.length) then(bif (y4q x.2.2.2 x.1.2.length) then(bif (y4q (rdL p4o x.1.2 (x.2.2.2).toNat).1 x.2.2.1.1.length) then(g (x.1,(x.2.1,(((x.2.2.1.1.set ((rdL p4o x.1.2 (x.2.2.2).toNat).1).toNat (rdL p4o x.1.2 (x.2.2.2).toNat).2),x.2.2.1.2),(IntKind.i64.wrap (x.2.2.2+1)))))) else none) else none) else none) else(some (.inl (x.2.1,x.2.2.1))))
def t1n:=lpW _ _ t1i
theorem s2f x:t1n x=t1i t1n x:=zW s1y 413 Tryz.f413 5 36 x (by kernel_rfl)
def s54 (x:s1b):Option s1b:=((u04 x).bind fun y1=>((t3i x).bind fun y2=>(bif (!y2) then(some y1) else((t1n (x,((([] :List ByteArray),([] :List p4o.den)),(y1,0)))).bind fun r3=>match r3 with | .inl o4=>(some (o4.2.1,([] :List p4o.den))) | .inr z5=>none))))
theorem r88:u7i=s54:=zC 413 rfl Tryz.func413 (by kernel_rfl)
def t1s(x:p8p):Option r6b:=zK 414 x
def s1p (x:p8p):Option r6b:=((u04 x.1).bind fun y1=>((((t3i x.1).bind fun y2=>(bif (!y2) then(some true) else((u0n (x.2.1,(0,(IntKind.i64.wrap ((x.1.1.length:Int) - (1:Int)))))).bind fun y3=>(bif (!y3) then(some true) else(bif (!decide ((x.2.2.size:Int)=(64:Int))) then(some true) else(some (decide ((x.1.2.length:Int)≥(60:Int))))))))):Option Bool).bind fun j4=>(bif j4 then(some (y1,false)) else(bif (Nat.ble (y1.2.length+([x.2] :List p4o.den).length) z7w) then(some ((y1.1,(y1.2++([x.2] :List p4o.den))),true)) else none))))
theorem r5k:t1s=s1p:=zC 414 rfl Tryz.func414 (by kernel_rfl)
def u8x(x:o4j):Option r6b:=zK 411 x
def t5h(g:Z70→Option (p99⊕r6b))(x:Z70):Option (p99⊕r6b):=(bif (decide (x.2.2.2.2.2.2<(x.2.2.1.size:Int))) then(bif (decide ((IntKind.i64.wrap ((64:Int) - (Int.tmod (IntKind.i64.wrap (x.2.1+x.2.2.2.2.2.2)) (64:Int)))) >(IntKind.i64.wrap ((x.2.2.1.size:Int) - x.2.2.2.2.2.2)))) then((u6q (x.2.2.2.2.2.1,(IntKind.i64.wrap (x.1+(IntKind.i64.wrap (Int.tdiv (IntKind.i64.wrap (x.2.1+x.2.2.2.2.2.2)) (64:Int))))))).bind fun y6=>(((bif (!y6.2) then(some true) else(some (!decide ((y6.1.size:Int)=(64:Int))))):Option Bool).bind fun j7=>(bif j7 then((u04 x.2.2.2.1).bind fun y8=>(some (.inr (y8,false)))) else(bif (decide (0≤(0:Int))&&decide ((0:Int)≤(Int.tmod (IntKind.i64.wrap (x.2.1+x.2.2.2.2.2.2)) (64:Int)))&&decide ((Int.tmod (IntKind.i64.wrap (x.2.1+x.2.2.2.2.2.2)) (64:Int))≤(y6.1.size:Int))) then(bif (decide (0≤x.2.2.2.2.2.2)&&decide (x.2.2.2.2.2.2≤(IntKind.i64.wrap (x.2.2.2.2.2.2+(IntKind.i64.wrap ((x.2.2.1.size:Int) - x.2.2.2.2.2.2)))))&&decide ((IntKind.i64.wrap (x.2.2.2.2.2.2+(IntKind.i64.wrap ((x.2.2.1.size:Int) - x.2.2.2.2.2.2))))≤(x.2.2.1.size:Int))) then(bif (decide ((y6.1.extract ((0:Int)).toNat ((Int.tmod (IntKind.i64.wrap (x.2.1+x.2.2.2.2.2.2)) (64:Int))).toNat).size+(x.2.2.1.extract (x.2.2.2.2.2.2).toNat ((IntKind.i64.wrap (x.2.2.2.2.2.2+(IntKind.i64.wrap ((x.2.2.1.size:Int) - x.2.2.2.2.2.2))))).toNat).size≤140737488355328)) then(bif (decide (0≤(IntKind.i64.wrap ((Int.tmod (IntKind.i64.wrap (x.2.1+x.2.2.2.2.2.2)) (64:Int))+(IntKind.i64.wrap ((x.2.2.1.size:Int) - x.2.2.2.2.2.2)))))&&decide ((IntKind.i64.wrap ((Int.tmod (IntKind.i64.wrap (x.2.1+x.2.2.2.2.2.2)) (64:Int))+(IntKind.i64.wrap ((x.2.2.1.size:Int) - x.2.2.2.2.2.2))))≤(y6.1.size:Int))&&decide ((y6.1.size:Int)≤(y6.1.size:Int))) then(bif (decide (((y6.1.extract ((0:Int)).toNat ((Int.tmod (IntKind.i64.wrap (x.2.1+x.2.2.2.2.2.2)) (64:Int))).toNat)++(x.2.2.1.extract (x.2.2.2.2.2.2).toNat ((IntKind.i64.wrap (x.2.2.2.2.2.2+(IntKind.i64.wrap ((x.2.2.1.size:Int) - x.2.2.2.2.2.2))))).toNat)).size+(y6.1.extract ((IntKind.i64.wrap ((Int.tmod (IntKind.i64.wrap (x.2.1+x.2.2.2.2.2.2)) (64:Int))+(IntKind.i64.wrap ((x.2.2.1.size:Int) - x.2.2.2.2.2.2))))).toNat ((y6.1.size:Int)).toNat).size≤140737488355328)) then((t1s (x.2.2.2.2.2.1,((IntKind.i64.wrap (x.1+(IntKind.i64.wrap (Int.tdiv (IntKind.i64.wrap (x.2.1+x.2.2.2.2.2.2)) (64:Int))))),(((y6.1.extract ((0:Int)).toNat ((Int.tmod (IntKind.i64.wrap (x.2.1+x.2.2.2.2.2.2)) (64:Int))).toNat)++(x.2.2.1.extract (x.2.2.2.2.2.2).toNat ((IntKind.i64.wrap (x.2.2.2.2.2.2+(IntKind.i64.wrap ((x.2.2.1.size:Int) - x.2.2.2.2.2.2))))).toNat))++(y6.1.extract ((IntKind.i64.wrap ((Int.tmod (IntKind.i64.wrap (x.2.1+x.2.2.2.2.2.2)) (64:Int))+(IntKind.i64.wrap ((x.2.2.1.size:Int) - x.2.2.2.2.2.2))))).toNat ((y6.1.size:Int)).toNat))))).bind fun y9=>(bif (!y9.2) then((u04 x.2.2.2.1).bind fun y10=>(some (.inr (y10,false)))) else(g (x.1,(x.2.1,(x.2.2.1,(x.2.2.2.1,(x.2.2.2.2.1,(y9.1,(IntKind.i64.wrap (x.2.2.2.2.2.2+(IntKind.i64.wrap ((x.2.2.1.size:Int) - x.2.2.2.2.2.2))))))))))))) else none) else none) else none) else none) else none)))) else((u6q (x.2.2.2.2.2.1,(IntKind.i64.wrap (x.1+(IntKind.i64.wrap (Int.tdiv (IntKind.i64.wrap (x.2.1+x.2.2.2.2.2.2)) (64:Int))))))).bind fun y11=>(((bif (!y11.2) then(some true) else(some (!decide ((y11.1.size:Int)=(64:Int))))):Option Bool).bind fun j12=>(bif j12 then((u04 x.2.2.2.1).bind fun y13=>(some (.inr (y13,false)))) else(bif (decide (0≤(0:Int))&&decide ((0:Int)≤(Int.tmod (IntKind.i64.wrap (x.2.1+x.2.2.2.2.2.2)) (64:Int)))&&decide ((Int.tmod (IntKind.i64.wrap (x.2.1+x.2.2.2.2.2.2)) (64:Int))≤(y11.1.size:Int))) then(bif (decide (0≤x.2.2.2.2.2.2)&&decide (x.2.2.2.2.2.2≤(IntKind.i64.wrap (x.2.2.2.2.2.2+(IntKind.i64.wrap ((64:Int) - (Int.tmod (IntKind.i64.wrap (x.2.1+x.2.2.2.2.2.2)) (64:Int)))))))&&decide ((IntKind.i64.wrap (x.2.2.2.2.2.2+(IntKind.i64.wrap ((64:Int) - (Int.tmod (IntKind.i64.wrap (x.2.1+x.2.2.2.2.2.2)) (64:Int))))))≤(x.2.2.1.size:Int))) then(bif (decide ((y11.1.extract ((0:Int)).toNat ((Int.tmod (IntKind.i64.wrap (x.2.1+x.2.2.2.2.2.2)) (64:Int))).toNat).size+(x.2.2.1.extract (x.2.2.2.2.2.2).toNat ((IntKind.i64.wrap (x.2.2.2.2.2.2+(IntKind.i64.wrap ((64:Int) - (Int.tmod (IntKind.i64.wrap (x.2.1+x.2.2.2.2.2.2)) (64:Int))))))).toNat).size≤140737488355328)) then(bif (decide (0≤(IntKind.i64.wrap ((Int.tmod (IntKind.i64.wrap (x.2.1+x.2.2.2.2.2.2)) (64:Int))+(IntKind.i64.wrap ((64:Int) - (Int.tmod (IntKind.i64.wrap (x.2.1+x.2.2.2.2.2.2)) (64:Int)))))))&&decide ((IntKind.i64.wrap ((Int.tmod (IntKind.i64.wrap (x.2.1+x.2.2.2.2.2.2)) (64:Int))+(IntKind.i64.wrap ((64:Int) - (Int.tmod (IntKind.i64.wrap (x.2.1+x.2.2.2.2.2.2)) (64:Int))))))≤(y11.1.size:Int))&&decide ((y11.1.size:Int)≤(y11.1.size:Int))) then(bif (decide (((y11.1.extract ((0:Int)).toNat ((Int.tmod (IntKind.i64.wrap (x.2.1+x.2.2.2.2.2.2)) (64:Int))).toNat)++(x.2.2.1.extract (x.2.2.2.2.2.2).toNat ((IntKind.i64.wrap (x.2.2.2.2.2.2+(IntKind.i64.wrap ((64:Int) - (Int.tmod (IntKind.i64.wrap (x.2.1+x.2.2.2.2.2.2)) (64:Int))))))).toNat)).size+(y11.1.extract ((IntKind.i64.wrap ((Int.tmod (IntKind.i64.wrap (x.2.1+x.2.2.2.2.2.2)) (64:Int))+(IntKind.i64.wrap ((64:Int) - (Int.tmod (IntKind.i64.wrap (x.2.1+x.2.2.2.2.2.2)) (64:Int))))))).toNat ((y11.1.size:Int)).toNat).size≤140737488355328)) then((t1s (x.2.2.2.2.2.1,((IntKind.i64.wrap (x.1+(IntKind.i64.wrap (Int.tdiv (IntKind.i64.wrap (x.2.1+x.2.2.2.2.2.2)) (64:Int))))),(((y11.1.extract ((0:Int)).toNat ((Int.tmod (IntKind.i64.wrap (x.2.1+x.2.2.2.2.2.2)) (64:Int))).toNat)++(x.2.2.1.extract (x.2.2.2.2.2.2).toNat ((IntKind.i64.wrap (x.2.2.2.2.2.2+(IntKind.i64.wrap ((64:Int) - (Int.tmod (IntKind.i64.wrap (x.2.1+x.2.2.2.2.2.2)) (64:Int))))))).toNat))++(y11.1.extract ((IntKind.i64.wrap ((Int.tmod (IntKind.i64.wrap (x.2.1+x.2.2.2.2.2.2)) (64:Int))+(IntKind.i64.wrap ((64:Int) - (Int.tmod (IntKind.i64.wrap (x.2.1+x.2.2.2.2.2.2)) (64:Int))))))).toNat ((y11.1.size:Int)).toNat))))).bind fun y14=>(bif (!y14.2) then((u04 x.2.2.2.1).bind fun y15=>(some (.inr (y15,false)))) else(g (x.1,(x.2.1,(x.2.2.1,(x.2.2.2.1,(x.2.2.2.2.1,(y14.1,(IntKind.i64.wrap (x.2.2.2.2.2.2+(IntKind.i64.wrap ((64:Int) - (Int.tmod (IntKind.i64.wrap (x.2.1+x.2.2.2.2.2.2)) (64:Int))))))))))))))) else none) else none) else none) else none) else none))))) else(some (.inl (x.2.2.2.2.1,x.2.2.2.2.2.1))))
def u5k:=lpW _ _ t5h
theorem r37 x:u5k x=t5h u5k x:=zW s0l 411 Tryz.f411 5 111 x (by kernel_rfl)
def s3k (x:o4j):Option r6b:=((u04 x.1).bind fun y1=>((((u0n (x.2.2.1,(0,6400))).bind fun y2=>(bif (!y2) then(some true) else((u0n (x.2.1,(0,(IntKind.i64.wrap ((x.1.1.length:Int) - (1:Int)))))).bind fun y3=>(bif (!y3) then(some true) else((t3i x.1).bind fun y4=>(some (!y4))))))):Option Bool).bind fun j5=>(bif j5 then(some (y1,false)) else((u5k (x.2.1,(x.2.2.1,(x.2.2.2,(x.1,((([] :List ByteArray),([] :List p4o.den)),(y1,0))))))).bind fun r16=>match r16 with | .inl o17=>(some (o17.2,true)) | .inr z18=>(some z18)))))
theorem r6r:u8x=s3k:=zC 411 rfl Tryz.func411 (by kernel_rfl)
def t60(x:Int):Option ByteArray:=zK 412 x
def q5s (x:Int):Option ByteArray:=(some (y7g ([(IntKind.u8.wrap x)] :List Int)))
theorem r5l:t60=q5s:=zC 412 rfl Tryz.func412 (by kernel_rfl)
def t6z(x:o2a):Option r6b:=zK 432 x
def s87 (x:o2a):Option r6b:=((u7h x.2.1).bind fun y1=>((t60 x.2.2).bind fun y2=>((u8x (x.1,(y1,(0,y2)))).bind fun y3=>(some y3))))
theorem q1b:t6z=s87:=zC 432 rfl Tryz.func432 (by kernel_rfl)
def s0y(x:p8p):Option r6b:=zK 430 x
def s86 (x:p8p):Option r6b:=((u8v (x.1,x.2.1)).bind fun y1=>(((bif (!y1.2.2) then(some true) else(bif (z7o x.2.2 (⟨#[]⟩:ByteArray)) then(some true) else(bif (decide ((x.2.2.size:Int) >(3008:Int))) then(some true) else((t38 (x.1,x.2.1)).bind fun y2=>(some (decide (y2≥255))))))):Option Bool).bind fun j3=>(bif j3 then((u04 x.1).bind fun y4=>(some (y4,false))) else((u1s (x.2.2.size:Int)).bind fun y5=>(bif (decide (y5.size+x.2.2.size≤140737488355328)) then(bif (decide (((y5++x.2.2).size:Int) >(IntKind.i64.wrap ((3008:Int) - y1.2.1)))) then((u04 x.1).bind fun y6=>(some (y6,false))) else((u7h x.2.1).bind fun y7=>((u8x (x.1,((IntKind.i64.wrap (y7+1)),(y1.2.1,(y5++x.2.2))))).bind fun y8=>(some y8)))) else none)))))
theorem q1a:s0y=s86:=zC 430 rfl Tryz.func430 (by kernel_rfl)
def t95(x:p8p):Option r6b:=zK 463 x
def r43 (x:p8p):Option r6b:=((s0y x).bind fun y1=>(bif (!y1.2) then(some (y1.1,false)) else((u7i y1.1).bind fun y2=>((t38 (x.1,x.2.1)).bind fun y3=>((t6z (y2,(x.2.1,(IntKind.i64.wrap (y3+1))))).bind fun y4=>((u7i y4.1).bind fun y5=>(some (y5,y4.2))))))))
theorem q6r:t95=r43:=zC 463 rfl Tryz.func463 (by kernel_rfl)
def s21(x:o1z):Option r6b:=zK 415 x
def u98(g:Z93→Option (o4a⊕Unit))(x:Z93):Option (o4a⊕Unit):=(((bif (decide (x.2.2.2.2.2<(x.1.length:Int))) then(some x.2.2.2.2.1) else(some false)):Option Bool).bind fun j4=>(bif j4 then(bif (y4q x.2.2.2.2.2 x.1.length) then((t95 (x.2.2.2.1,(x.2.2.1,(rdL Ty.str x.1 (x.2.2.2.2.2).toNat)))).bind fun y5=>(g (x.1,(x.2.1,(x.2.2.1,(y5.1,(y5.2,(IntKind.i64.wrap (x.2.2.2.2.2+1))))))))) else none) else(some (.inl (x.2.1,(x.2.2.2.1,x.2.2.2.2.1))))))
def t0n:=lpW _ _ u98
theorem t9d x:t0n x=u98 t0n x:=zW s64 415 Tryz.f415 5 42 x (by kernel_rfl)
def r2i (x:o1z):Option r6b:=((t2i x.1).bind fun y1=>((t6z (x.1,((IntKind.i64.wrap ((1:Int) - y1)),0))).bind fun y2=>((u7i y2.1).bind fun y3=>((t0n (x.2,((([] :List ByteArray),([] :List p4o.den)),((IntKind.i64.wrap ((1:Int) - y1)),(y3,(y2.2,0)))))).bind fun r6=>match r6 with | .inl o7=>(some o7.2) | .inr z8=>none))))
theorem q3l:s21=r2i:=zC 415 rfl Tryz.func415 (by kernel_rfl)
def s22(x:s1b):Option r6b:=zK 416 x
def r2j (x:s1b):Option r6b:=((t4b (x,0)).bind fun y1=>((t60 (IntKind.i64.wrap (y1+1))).bind fun y2=>((u8x (x,(0,(0,y2)))).bind fun y3=>(some y3))))
theorem q3m:s22=r2j:=zC 416 rfl Tryz.func416 (by kernel_rfl)
def t89(x:o1z):Option r6b:=zK 343 x
def s59 (x:o1z):Option r6b:=((s15 x.1).bind fun y1=>(bif (!y1) then((u04 x.1).bind fun y2=>(some (y2,false))) else((s21 x).bind fun y3=>(bif (!y3.2) then((u04 x.1).bind fun y4=>(some (y4,false))) else((s22 y3.1).bind fun y5=>(bif (!y5.2) then((u04 x.1).bind fun y6=>(some (y6,false))) else((u7i y5.1).bind fun y7=>(some (y7,true)))))))))
theorem r9d:t89=s59:=zC 343 rfl Tryz.func343 (by kernel_rfl)
def t62(x:s1b):Option r6b:=zK 226 x
def s9c (x:s1b):Option r6b:=((t8a x).bind fun y1=>((u3m (4,((0,(0,(0,(0,(([] :List q5p.den),(([] :List u2f.den),(false,(⟨#[]⟩:ByteArray)))))))),((⟨#[]⟩:ByteArray),(false,y1.1))))).bind fun y2=>(((bif (!y1.2) then(some true) else(some (!y2.2))):Option Bool).bind fun j3=>(bif j3 then((u04 x).bind fun y4=>(some (y4,false))) else((t89 (x,([y2.1] :List ByteArray))).bind fun y5=>(some y5))))))
theorem q1g:t62=s9c:=zC 226 rfl Tryz.func226 (by kernel_rfl)
def u8u(x:Z53):Option Z48:=zK 90 x
def s8s (x:Z53):Option Z48:=((s24 x).bind fun y1=>((t62 x.2).bind fun y2=>(bif y2.2 then(some ((y1.1,y2.1),y2.2)) else(some (y1,y2.2)))))
theorem q0x:u8u=s8s:=zC 90 rfl Tryz.func90 (by kernel_rfl)
def u12(x:o42):Option o2f:=zK 245 x
def r2d (x:o42):Option o2f:=((u2c (x.1,(x.2.length:Int))).bind fun y1=>(bif (y4q y1.1 x.2.length) then(some ((rdL Ty.str x.2 (y1.1).toNat),y1.2)) else none))
theorem q3h:u12=r2d:=zC 245 rfl Tryz.func245 (by kernel_rfl)
def u2d(x:o0k):Option (Bool×q39):=zK 247 x
def r2c (x:o0k):Option (Bool×q39):=((u2c x).bind fun y1=>(some ((decide (y1.1=0)),y1.2)))
theorem q3g:u2d=r2c:=zC 247 rfl Tryz.func247 (by kernel_rfl)
def u6j(x:q39):Option o2f:=zK 351 x
def r44 (x:q39):Option o2f:=((u12 (x,([(⟨#[97]⟩:ByteArray),(⟨#[98]⟩:ByteArray),(⟨#[99]⟩:ByteArray),(⟨#[100]⟩:ByteArray),(⟨#[97,98]⟩:ByteArray)] :List ByteArray))).bind fun y1=>(some y1))
theorem q6s:u6j=r44:=zC 351 rfl Tryz.func351 (by kernel_rfl)
def u80(x:q39):Option o4n:=zK 322 x
def s89 (x:q39):Option o4n:=((u6j x).bind fun y1=>((u12 (y1.2,([(⟨#[111,110,101]⟩:ByteArray),(⟨#[116,119,111]⟩:ByteArray),(⟨#[]⟩:ByteArray),(⟨#[120,0]⟩:ByteArray)] :List ByteArray))).bind fun y2=>((u2d (y2.2,5)).bind fun y3=>(bif y3.1 then(some ((y1.1,((⟨#[]⟩:ByteArray),true)),y3.2)) else(some ((y1.1,(y2.1,false)),y3.2))))))
theorem q1d:u80=s89:=zC 322 rfl Tryz.func322 (by kernel_rfl)
def t5e(x:Z95):Option p98:=zK 419 x
def t1l(g:Z21→Option (Z22⊕p98))(x:Z21):Option (Z22⊕p98):=(bif (decide (x.2.2.2.2<(x.1.2.2.2.2.1.length:Int))) then(bif (y4q x.2.2.2.2 x.1.2.2.2.2.1.length) then(bif (z7o (rdL q5p x.1.2.2.2.2.1 (x.2.2.2.2).toNat).1 x.2.1.1&&(z7o (rdL q5p x.1.2.2.2.2.1 (x.2.2.2.2).toNat).2 x.2.1.2&&true)) then(some (.inr (x.2.2.2.1,true))) else(g (x.1,(x.2.1,(x.2.2.1,(x.2.2.2.1,(IntKind.i64.wrap (x.2.2.2.2+1)))))))) else none) else(some (.inl (x.1,(x.2.1,(x.2.2.1,x.2.2.2.1))))))
def u7o:=lpW _ _ t1l
theorem s2i x:u7o x=t1l u7o x:=zW s11 419 Tryz.f419 5 51 x (by kernel_rfl)
def s57 (x:Z95):Option p98:=((u05 x.1).bind fun y1=>((((u6n x.1).bind fun y2=>(bif (!y2) then(some true) else(bif (!decide (x.1.2.1=1)) then(some true) else((t39 x.2).bind fun y3=>(some (!y3)))))):Option Bool).bind fun j4=>(bif j4 then(some (y1,false)) else((u7o (x.1,(x.2,((0,(0,(0,(0,(([] :List q5p.den),(([] :List u2f.den),(false,(⟨#[]⟩:ByteArray)))))))),(y1,0))))).bind fun r5=>match r5 with | .inl o6=>(bif (decide ((o6.1.2.2.2.2.1.length:Int)≥(8:Int))) then(some (o6.2.2.2,false)) else(bif (Nat.ble (o6.2.2.2.2.2.2.2.1.length+([o6.2.1] :List q5p.den).length) z7w) then(some ((o6.2.2.2.1,(o6.2.2.2.2.1,(o6.2.2.2.2.2.1,(o6.2.2.2.2.2.2.1,((o6.2.2.2.2.2.2.2.1++([o6.2.1] :List q5p.den)),o6.2.2.2.2.2.2.2.2))))),true)) else none)) | .inr z7=>(some z7)))))
theorem r9b:t5e=s57:=zC 419 rfl Tryz.func419 (by kernel_rfl)
def t94(x:o0e):Option r8j:=zK 27 x
def r4z (x:o0e):Option r8j:=((s18 x).bind fun y1=>(((bif (decide (y1<0)) then(some true) else(bif (y4q y1 x.1.length) then(some (rdL u0i x.1 (y1).toNat).2.2.1) else none)):Option Bool).bind fun j2=>(bif j2 then(some ((⟨#[]⟩:ByteArray),false)) else(bif (y4q y1 x.1.length) then(some ((rdL u0i x.1 (y1).toNat).2.1,true)) else none))))
theorem q6n:t94=r4z:=zC 27 rfl Tryz.func27 (by kernel_rfl)
def t93(x:Z88):Option r8j:=zK 420 x
def t1y(g:Z78→Option (Z85⊕r8j))(x:Z78):Option (Z85⊕r8j):=(bif (decide (x.2.2.2<(x.2.2.1.2.2.2.2.2.1.length:Int))) then(bif (y4q x.2.2.2 x.2.2.1.2.2.2.2.2.1.length) then(bif (z7o (rdL u2f x.2.2.1.2.2.2.2.2.1 (x.2.2.2).toNat).1 x.2.1) then(bif (y4q x.2.2.2 x.2.2.1.2.2.2.2.2.1.length) then(bif (rdL u2f x.2.2.1.2.2.2.2.2.1 (x.2.2.2).toNat).2.2 then(some (.inr ((⟨#[]⟩:ByteArray),false))) else(bif (y4q x.2.2.2 x.2.2.1.2.2.2.2.2.1.length) then(some (.inr ((rdL u2f x.2.2.1.2.2.2.2.2.1 (x.2.2.2).toNat).2.1,true))) else none)) else none) else(g (x.1,(x.2.1,(x.2.2.1,(IntKind.i64.wrap (x.2.2.2+1))))))) else none) else(some (.inl (x.1,(x.2.1,x.2.2.1)))))
def t15:=lpW _ _ t1y
theorem r0h x:t15 x=t1y t15 x:=zW s9q 420 Tryz.f420 2 43 x (by kernel_rfl)
def r4u (x:Z88):Option r8j:=((t15 (x.2.1,(x.2.2,(x.1,0)))).bind fun r1=>match r1 with | .inl o2=>((t94 (o2.1,(o2.2.1,o2.2.2.2.2.1))).bind fun y3=>(some y3)) | .inr z4=>(some z4))
theorem q6i:t93=r4u:=zC 420 rfl Tryz.func420 (by kernel_rfl)
def t3j(x:Z62):Option Z59:=zK 350 x
def r4r (x:Z62):Option Z59:=((u0l x.1).bind fun y1=>((u6i (x.1,x.2.1)).bind fun y2=>(bif (decide (y2<0)) then(some (y1,((⟨#[]⟩:ByteArray),(false,1)))) else((u6l x.2.2).bind fun y3=>(bif (!y3) then(some (y1,((⟨#[]⟩:ByteArray),(false,2)))) else(bif (y4q y2 x.1.2.length) then((t5e ((rdL u0a x.1.2 (y2).toNat),(x.2.2,x.2.2))).bind fun y4=>(bif (!y4.2) then(some (y1,((⟨#[]⟩:ByteArray),(false,3)))) else(bif (y4q y2 y1.2.length) then((t93 (y4.1,(x.1.1.1,x.2.2))).bind fun y5=>(some ((y1.1,(y1.2.set (y2).toNat y4.1)),(y5.1,(y5.2,0))))) else none))) else none))))))
theorem q6f:t3j=r4r:=zC 350 rfl Tryz.func350 (by kernel_rfl)
def t8f(x:o3b):Option p4r:=zK 153 x
def t40(g:Z97→Option (o32⊕Unit))(x:Z97):Option (o32⊕Unit):=(bif (decide (x.2.2.2.2.2.2<(x.2.2.1.length:Int))) then(bif (y4q x.2.2.2.2.2.2 x.2.2.1.length) then(bif (y3c (rdL Ty.str x.2.2.1 (x.2.2.2.2.2.2).toNat) x.2.2.2.2.1) then(bif (y4q x.2.2.2.2.2.2 x.2.2.1.length) then(bif (Nat.ble (x.2.2.2.2.2.1.length+([(rdL Ty.str x.2.2.1 (x.2.2.2.2.2.2).toNat)] :List ByteArray).length) z7w) then(g (x.1,(x.2.1,(x.2.2.1,(x.2.2.2.1,(x.2.2.2.2.1,((x.2.2.2.2.2.1++([(rdL Ty.str x.2.2.1 (x.2.2.2.2.2.2).toNat)] :List ByteArray)),(IntKind.i64.wrap (x.2.2.2.2.2.2+1))))))))) else none) else none) else(g (x.1,(x.2.1,(x.2.2.1,(x.2.2.2.1,(x.2.2.2.2.1,(x.2.2.2.2.2.1,(IntKind.i64.wrap (x.2.2.2.2.2.2+1)))))))))) else none) else(some (.inl (x.1,(x.2.1,(x.2.2.1,(x.2.2.2.1,(x.2.2.2.2.1,x.2.2.2.2.2.1))))))))
def t0o:=lpW _ _ t40
theorem s7y x:t0o x=t40 t0o x:=zW s66 153 Tryz.f153 9 72 x (by kernel_rfl)
def t26(g:Z97→Option (o4f⊕Unit))(x:Z97):Option (o4f⊕Unit):=(bif (decide (x.2.2.2.2.2.2<(x.2.2.1.length:Int))) then(bif (y4q x.2.2.2.2.2.2 x.2.2.1.length) then(bif (!(y3c (rdL Ty.str x.2.2.1 (x.2.2.2.2.2.2).toNat) x.2.2.2.2.1 || z7o (rdL Ty.str x.2.2.1 (x.2.2.2.2.2.2).toNat) x.2.2.2.2.1)) then(bif (y4q x.2.2.2.2.2.2 x.2.2.1.length) then(bif (Nat.ble (x.2.2.2.2.2.1.length+([(rdL Ty.str x.2.2.1 (x.2.2.2.2.2.2).toNat)] :List ByteArray).length) z7w) then(g (x.1,(x.2.1,(x.2.2.1,(x.2.2.2.1,(x.2.2.2.2.1,((x.2.2.2.2.2.1++([(rdL Ty.str x.2.2.1 (x.2.2.2.2.2.2).toNat)] :List ByteArray)),(IntKind.i64.wrap (x.2.2.2.2.2.2+1))))))))) else none) else none) else(g (x.1,(x.2.1,(x.2.2.1,(x.2.2.2.1,(x.2.2.2.2.1,(x.2.2.2.2.2.1,(IntKind.i64.wrap (x.2.2.2.2.2.2+1)))))))))) else none) else(some (.inl (x.1,(x.2.1,(x.2.2.2.1,x.2.2.2.2.2.1))))))
def u8o:=lpW _ _ t26
theorem s4x x:u8o x=t26 u8o x:=zW s39 153 Tryz.f153 15 72 x (by kernel_rfl)
def t4z(g:o4e→Option (p4r⊕Unit))(x:o4e):Option (p4r⊕Unit):=(bif (decide (x.2.2.2<(x.1.length:Int))) then(bif (y4q x.2.2.2 x.1.length) then((t79 (x.2.1,(rdL u0i x.1 (x.2.2.2).toNat).1)).bind fun y1=>(bif (!y1) then(g (x.1,(x.2.1,(x.2.2.1,(IntKind.i64.wrap (x.2.2.2+1)))))) else((t0o (x.1,(x.2.1,(x.2.2.1,(x.2.2.2,((rdL u0i x.1 (x.2.2.2).toNat).1,(([] :List ByteArray),0))))))).bind fun r2=>match r2 with | .inl o3=>(bif (Nat.ble (o3.2.2.2.2.2.length+([o3.2.2.2.2.1] :List ByteArray).length) z7w) then((u8o (o3.1,(o3.2.1,(o3.2.2.1,(o3.2.2.2.1,(o3.2.2.2.2.1,((o3.2.2.2.2.2++([o3.2.2.2.2.1] :List ByteArray)),0))))))).bind fun r4=>match r4 with | .inl o5=>(g (o5.1,(o5.2.1,(o5.2.2.2,(IntKind.i64.wrap (o5.2.2.1+1)))))) | .inr z6=>(some (.inr ()))) else none) | .inr z7=>(some (.inr ()))))) else none) else(some (.inl x.2.2.1)))
def t49:=lpW _ _ t4z
theorem s7x x:t49 x=t4z t49 x:=zW s65 153 Tryz.f153 3 72 x (by kernel_rfl)
def r2k (x:o3b):Option p4r:=((t49 (x.1,(x.2,(([] :List ByteArray),0)))).bind fun r8=>match r8 with | .inl o9=>(some o9) | .inr z10=>none)
theorem q3n:t8f=r2k:=zC 153 rfl Tryz.func153 (by kernel_rfl)
def s2v(x:Z75):Option p4s:=zK 421 x
def t4p(g:Z63→Option (Z67⊕Unit))(x:Z63):Option (Z67⊕Unit):=(bif (decide (x.2.2.2.2<(x.2.1.2.2.2.2.2.1.length:Int))) then(bif (y4q x.2.2.2.2 x.2.1.2.2.2.2.2.1.length) then(bif (Nat.ble (x.2.2.2.1.length+([((rdL u2f x.2.1.2.2.2.2.2.1 (x.2.2.2.2).toNat).1,((⟨#[]⟩:ByteArray),(false,0)))] :List u0i.den).length) z7w) then(g (x.1,(x.2.1,(x.2.2.1,((x.2.2.2.1++([((rdL u2f x.2.1.2.2.2.2.2.1 (x.2.2.2.2).toNat).1,((⟨#[]⟩:ByteArray),(false,0)))] :List u0i.den)),(IntKind.i64.wrap (x.2.2.2.2+1))))))) else none) else none) else(some (.inl (x.1,(x.2.1,(x.2.2.1,x.2.2.2.1))))))
def t0g:=lpW _ _ t4p
theorem s7l x:t0g x=t4p t0g x:=zW s6r 421 Tryz.f421 3 65 x (by kernel_rfl)
def t4q(g:Z68→Option (p4s⊕Unit))(x:Z68):Option (p4s⊕Unit):=(bif (decide (x.2.2.2.2<(x.2.2.2.1.length:Int))) then(bif (y4q x.2.2.2.2 x.2.2.2.1.length) then((t93 (x.2.1,(x.1,(rdL Ty.str x.2.2.2.1 (x.2.2.2.2).toNat)))).bind fun y4=>(bif y4.2 then(bif (y4q x.2.2.2.2 x.2.2.2.1.length) then(bif (Nat.ble (x.2.2.1.length+([((rdL Ty.str x.2.2.2.1 (x.2.2.2.2).toNat),y4.1)] :List q5p.den).length) z7w) then(g (x.1,(x.2.1,((x.2.2.1++([((rdL Ty.str x.2.2.2.1 (x.2.2.2.2).toNat),y4.1)] :List q5p.den)),(x.2.2.2.1,(IntKind.i64.wrap (x.2.2.2.2+1))))))) else none) else none) else(g (x.1,(x.2.1,(x.2.2.1,(x.2.2.2.1,(IntKind.i64.wrap (x.2.2.2.2+1))))))))) else none) else(some (.inl x.2.2.1)))
def t44:=lpW _ _ t4q
theorem s7m x:t44 x=t4q t44 x:=zW s6s 421 Tryz.f421 9 65 x (by kernel_rfl)
def r1p (x:Z75):Option p4s:=(bif (Nat.ble (([] :List u0i.den).length+x.2.1.length) z7w) then((t0g (x.2.1,(x.1,(x.2.2,((([] :List u0i.den)++x.2.1),0))))).bind fun r1=>match r1 with | .inl o2=>((t8f (o2.2.2.2,o2.2.2.1)).bind fun y3=>((t44 (o2.1,(o2.2.1,(([] :List q5p.den),(y3,0))))).bind fun r5=>match r5 with | .inl o6=>(some o6) | .inr z7=>none)) | .inr z8=>none) else none)
theorem q21:s2v=r1p:=zC 421 rfl Tryz.func421 (by kernel_rfl)
def u8w(x:Z55):Option Z60:=zK 352 x
def s8z (x:Z55):Option Z60:=((u0l x.1).bind fun y1=>((u6i (x.1,x.2.1)).bind fun y2=>(bif (decide (y2<0)) then(some (y1,(([] :List q5p.den),1))) else((t39 x.2.2).bind fun y3=>(bif (!y3) then(some (y1,(([] :List q5p.den),2))) else(bif (y4q y2 x.1.2.length) then((t5e ((rdL u0a x.1.2 (y2).toNat),x.2.2)).bind fun y4=>(bif (!y4.2) then(some (y1,(([] :List q5p.den),3))) else(bif (y4q y2 y1.2.length) then((s2v (y4.1,(x.1.1.1,x.2.2))).bind fun y5=>(some ((y1.1,(y1.2.set (y2).toNat y4.1)),(y5,0)))) else none))) else none))))))
theorem q04:u8w=s8z:=zC 352 rfl Tryz.func352 (by kernel_rfl)
def u8z(x:q39):Option o4w:=zK 353 x
def s88 (x:q39):Option o4w:=((u6j x).bind fun y1=>((u2d (y1.2,2)).bind fun y2=>(bif y2.1 then(some ((y1.1,y1.1),y2.2)) else((u6j y2.2).bind fun y3=>(bif (y3c y3.1 y1.1) then(some ((y3.1,y1.1),y3.2)) else(some ((y1.1,y3.1),y3.2)))))))
theorem q1c:u8z=s88:=zC 353 rfl Tryz.func353 (by kernel_rfl)
def u03(x:Z69):Option Z71:=zK 424 x
def t58(g:Z47→Option (Z54⊕Unit))(x:Z47):Option (Z54⊕Unit):=(bif (decide (x.2.2.2<(x.1.2.length:Int))) then(bif (y4q x.2.2.2 x.1.2.length) then(bif (!decide ((rdL u0a x.1.2 (x.2.2.2).toNat).1=x.2.1)) then(bif (y4q x.2.2.2 x.1.2.length) then(bif (Nat.ble (x.2.2.1.length+([(rdL u0a x.1.2 (x.2.2.2).toNat)] :List u0a.den).length) z7w) then(g (x.1,(x.2.1,((x.2.2.1++([(rdL u0a x.1.2 (x.2.2.2).toNat)] :List u0a.den)),(IntKind.i64.wrap (x.2.2.2+1)))))) else none) else none) else(g (x.1,(x.2.1,(x.2.2.1,(IntKind.i64.wrap (x.2.2.2+1))))))) else none) else(some (.inl (x.1,x.2.2.1))))
def t17:=lpW _ _ t58
theorem r0k x:t17 x=t58 t17 x:=zW s9v 424 Tryz.f424 2 49 x (by kernel_rfl)
def r48 (x:Z69):Option Z71:=((t17 (x.1,(x.2,(([] :List u0a.den),0)))).bind fun r1=>match r1 with | .inl o2=>((t3l (o2.1.1,o2.2)).bind fun y3=>(some (y3,o2.2))) | .inr z4=>none)
theorem q6w:u03=r48:=zC 424 rfl Tryz.func424 (by kernel_rfl)
def s16(x:o2g):Option Bool:=zK 159 x
def t7v(g:o0b→Option (o2d⊕Bool))(x:o0b):Option (o2d⊕Bool):=(bif (decide (x.2.2.2<(x.2.1.length:Int))) then(bif (y4q x.2.2.1 x.1.length) then(bif (y4q x.2.2.2 x.2.1.length) then(bif (z7o (rdL u2f x.1 (x.2.2.1).toNat).1 (rdL u2f x.2.1 (x.2.2.2).toNat).1) then(some (.inr true)) else(g (x.1,(x.2.1,(x.2.2.1,(IntKind.i64.wrap (x.2.2.2+1))))))) else none) else none) else(some (.inl (x.1,(x.2.1,x.2.2.1)))))
def t31:=lpW _ _ t7v
theorem r3m x:t31 x=t7v t31 x:=zW r27 159 Tryz.f159 5 30 x (by kernel_rfl)
def t7u(g:o2d→Option r8k)(x:o2d):Option r8k:=(bif (decide (x.2.2<(x.1.length:Int))) then((t31 (x.1,(x.2.1,(x.2.2,0)))).bind fun r1=>match r1 with | .inl o2=>(g (o2.1,(o2.2.1,(IntKind.i64.wrap (o2.2.2+1))))) | .inr z3=>(some (.inr z3))) else(some (.inl ())))
def t72:=lpW _ _ t7u
theorem r3l x:t72 x=t7u t72 x:=zW r26 159 Tryz.f159 2 30 x (by kernel_rfl)
def r7w (x:o2g):Option Bool:=((t72 (x.1,(x.2,0))).bind fun r4=>match r4 with | .inl o5=>(some false) | .inr z6=>(some z6))
theorem q8w:s16=r7w:=zC 159 rfl Tryz.func159 (by kernel_rfl)
def s2u(x:Z83):Option Bool:=zK 53 x
def t4n(g:Z76→Option r8k)(x:Z76):Option r8k:=(bif (decide (x.2.2<(x.1.length:Int))) then(bif (y4q x.2.2 x.1.length) then(((bif (!decide ((rdL u0a x.1 (x.2.2).toNat).1=x.2.1.1)) then(bif (decide ((rdL u0a x.1 (x.2.2).toNat).2.1=2)) then((s16 ((rdL u0a x.1 (x.2.2).toNat).2.2.2.2.2.1,x.2.1.2.2.2.2.2.1)).bind fun y1=>(some y1)) else(bif (decide ((rdL u0a x.1 (x.2.2).toNat).2.1=3)) then(bif (decide ((rdL u0a x.1 (x.2.2).toNat).2.2.2.1 >x.2.1.2.2.1)) then((s16 ((rdL u0a x.1 (x.2.2).toNat).2.2.2.2.2.1,x.2.1.2.2.2.2.2.1)).bind fun y2=>(some y2)) else(some false)) else(some false))) else(some false)):Option Bool).bind fun j3=>(bif j3 then(some (.inr true)) else(g (x.1,(x.2.1,(IntKind.i64.wrap (x.2.2+1))))))) else none) else(some (.inl ())))
def t0d:=lpW _ _ t4n
theorem s7i x:t0d x=t4n t0d x:=zW s6n 53 Tryz.f53 2 46 x (by kernel_rfl)
def r1k (x:Z83):Option Bool:=((t0d (x.2,(x.1,0))).bind fun r4=>match r4 with | .inl o5=>(some false) | .inr z6=>(some z6))
theorem q2w:s2u=r1k:=zC 53 rfl Tryz.func53 (by kernel_rfl)
def s5p(x:Z83):Option Bool:=zK 160 x
def t9u(g:Z76→Option r8k)(x:Z76):Option r8k:=(bif (decide (x.2.2<(x.1.length:Int))) then(((bif (y4q x.2.2 x.1.length) then(bif (decide ((rdL u0a x.1 (x.2.2).toNat).2.1=2)) then(bif (y4q x.2.2 x.1.length) then((u2w ((rdL u0a x.1 (x.2.2).toNat),x.2.1)).bind fun y1=>(some y1)) else none) else(bif (y4q x.2.2 x.1.length) then(bif (decide ((rdL u0a x.1 (x.2.2).toNat).2.1=3)) then(bif (y4q x.2.2 x.1.length) then((u2w ((rdL u0a x.1 (x.2.2).toNat),x.2.1)).bind fun y2=>(some y2)) else none) else(some false)) else none)) else none):Option Bool).bind fun j3=>(bif j3 then(some (.inr true)) else(g (x.1,(x.2.1,(IntKind.i64.wrap (x.2.2+1))))))) else(some (.inl ())))
def t6c:=lpW _ _ t9u
theorem r56 x:t6c x=t9u t6c x:=zW r5r 160 Tryz.f160 2 34 x (by kernel_rfl)
def q0a (x:Z83):Option Bool:=((t6c (x.2,(x.1,0))).bind fun r4=>match r4 with | .inl o5=>(some false) | .inr z6=>(some z6))
theorem p05:s5p=q0a:=zC 160 rfl Tryz.func160 (by kernel_rfl)
def t92(x:Z83):Option Bool:=zK 54 x
def u96(g:Z33→Option (Z76⊕Bool))(x:Z33):Option (Z76⊕Bool):=(((bif (decide (x.2.2.2.2<(x.1.length:Int))) then(bif (decide (x.2.2.2.1.2.1=2)) then((u2w (x.2.2.2.1,x.2.1)).bind fun y10=>(some y10)) else(some false)) else(some false)):Option Bool).bind fun j11=>(bif j11 then(bif (y4q x.2.2.2.2 x.1.length) then(((bif (decide ((rdL u0a x.1 (x.2.2.2.2).toNat).2.1=2)) then(bif (!decide ((rdL u0a x.1 (x.2.2.2.2).toNat).1=x.2.1.1)) then((u2w ((rdL u0a x.1 (x.2.2.2.2).toNat),x.2.2.2.1)).bind fun y12=>(some y12)) else(some false)) else(some false)):Option Bool).bind fun j13=>(bif j13 then(some (.inr true)) else(g (x.1,(x.2.1,(x.2.2.1,(x.2.2.2.1,(IntKind.i64.wrap (x.2.2.2.2+1))))))))) else none) else(some (.inl (x.1,(x.2.1,x.2.2.1))))))
def u7a:=lpW _ _ u96
theorem t9c x:u7a x=u96 u7a x:=zW s6o 54 Tryz.f54 12 92 x (by kernel_rfl)
def t53(g:Z76→Option r8k)(x:Z76):Option r8k:=(bif (decide (x.2.2<(x.1.length:Int))) then(bif (y4q x.2.2 x.1.length) then(((bif (decide ((rdL u0a x.1 (x.2.2).toNat).2.1=2)) then(bif (rdL u0a x.1 (x.2.2).toNat).2.2.2.2.2.2.1 then((u2w (x.2.1,(rdL u0a x.1 (x.2.2).toNat))).bind fun y4=>(some y4)) else(some false)) else(bif (decide ((rdL u0a x.1 (x.2.2).toNat).2.1=3)) then(bif (rdL u0a x.1 (x.2.2).toNat).2.2.2.2.2.2.1 then((u2w (x.2.1,(rdL u0a x.1 (x.2.2).toNat))).bind fun y5=>(some y5)) else(some false)) else(some false))):Option Bool).bind fun j6=>(bif j6 then(some (.inr true)) else(((bif (decide ((rdL u0a x.1 (x.2.2).toNat).2.1=2)) then((u2w ((rdL u0a x.1 (x.2.2).toNat),x.2.1)).bind fun y7=>(bif y7 then((u2w (x.2.1,(rdL u0a x.1 (x.2.2).toNat))).bind fun y8=>(some y8)) else(some false))) else(some false)):Option Bool).bind fun j9=>(bif j9 then(some (.inr true)) else((u7a (x.1,(x.2.1,(x.2.2,((rdL u0a x.1 (x.2.2).toNat),0))))).bind fun r14=>match r14 with | .inl o15=>(g (o15.1,(o15.2.1,(IntKind.i64.wrap (o15.2.2+1))))) | .inr z16=>(some (.inr z16))))))) else none) else(some (.inl ())))
def t13:=lpW _ _ t53
theorem r0d x:t13 x=t53 t13 x:=zW s9m 54 Tryz.f54 4 92 x (by kernel_rfl)
def r4o (x:Z83):Option Bool:=((((s5p x).bind fun y1=>(bif y1 then((t8v x).bind fun y2=>(some y2)) else(some false))):Option Bool).bind fun j3=>(bif j3 then(some true) else((t13 (x.2,(x.1,0))).bind fun r17=>match r17 with | .inl o18=>(some false) | .inr z19=>(some z19))))
theorem q6c:t92=r4o:=zC 54 rfl Tryz.func54 (by kernel_rfl)
def t8h(x:Z99):Option Bool:=zK 406 x
def r2r (x:Z99):Option Bool:=(((bif (decide ((x.2.1.length:Int)≥(12:Int))) then(some true) else(bif (decide ((x.1.length:Int) >(100:Int))) then(some true) else(some (decide (x.2.2.2.1≥9999))))):Option Bool).bind fun j1=>(some j1))
theorem q3u:t8h=r2r:=zC 406 rfl Tryz.func406 (by kernel_rfl)
def t3n(x:Z99):Option r57:=zK 467 x
def r47 (x:Z99):Option r57:=(bif (Nat.ble (([] :List u0a.den).length+x.2.1.length) z7w) then(bif (Nat.ble ((([] :List u0a.den)++x.2.1).length+x.2.2.1.length) z7w) then(some ((([] :List u0a.den)++x.2.1)++x.2.2.1)) else none) else none)
theorem q6v:t3n=r47:=zC 467 rfl Tryz.func467 (by kernel_rfl)
def s14(x:Z69):Option Int:=zK 465 x
def r7s (x:Z69):Option Int:=((u6i x).bind fun y1=>(bif (decide (y1<0)) then(some (1:Int)) else((t3n x.1.1).bind fun y2=>(bif (y4q y1 x.1.2.length) then((s2u ((rdL u0a x.1.2 (y1).toNat),y2)).bind fun y3=>(bif y3 then(some (4:Int)) else(bif (y4q y1 x.1.2.length) then((t92 ((rdL u0a x.1.2 (y1).toNat),y2)).bind fun y4=>(bif y4 then(some (5:Int)) else((t8h x.1.1).bind fun y5=>(bif y5 then(some (3:Int)) else(some (0:Int)))))) else none))) else none))))
theorem q8s:s14=r7s:=zC 465 rfl Tryz.func465 (by kernel_rfl)
def s5n(x:Z69):Option Z13:=zK 422 x
def r4n (x:Z69):Option Z13:=((u0l x.1).bind fun y1=>((s14 x).bind fun y2=>(bif (decide (y2=1)) then(some (y1,((0,((0,(0,(0,(0,(([] :List q5p.den),(([] :List u2f.den),(false,(⟨#[]⟩:ByteArray)))))))),((⟨#[]⟩:ByteArray),(false,(([] :List u0i.den),(([] :List u0a.den),(([] :List u0a.den),(0,0)))))))),y2))) else(bif (!decide (y2=0)) then((u03 (y1,x.2)).bind fun y3=>(some (y3,((0,((0,(0,(0,(0,(([] :List q5p.den),(([] :List u2f.den),(false,(⟨#[]⟩:ByteArray)))))))),((⟨#[]⟩:ByteArray),(false,(([] :List u0i.den),(([] :List u0a.den),(([] :List u0a.den),(0,0)))))))),y2)))) else((u6i x).bind fun y4=>(bif (y4q y4 x.1.2.length) then((u6m (x.1.1,(rdL u0a x.1.2 (y4).toNat))).bind fun y5=>(bif (y4q (IntKind.i64.wrap ((y5.2.1.length:Int) - (1:Int))) y5.2.1.length) then((u05 (rdL u0a y5.2.1 ((IntKind.i64.wrap ((y5.2.1.length:Int) - (1:Int)))).toNat)).bind fun y6=>((u03 ((y5,y1.2),x.2)).bind fun y7=>(some (y7,((1,(y6,((⟨#[]⟩:ByteArray),(false,(([] :List u0i.den),(([] :List u0a.den),(([] :List u0a.den),(0,0)))))))),0))))) else none)) else none))))))
theorem q6b:s5n=r4n:=zC 422 rfl Tryz.func422 (by kernel_rfl)
def t88(x:p8p):Option r6b:=zK 469 x
def s56 (x:p8p):Option r6b:=((((s15 x.1).bind fun y1=>(bif (!y1) then(some true) else((u0n (x.2.1,(0,1))).bind fun y2=>(some (!y2))))):Option Bool).bind fun j3=>(bif j3 then((u04 x.1).bind fun y4=>(some (y4,false))) else((t95 x).bind fun y5=>(bif (!y5.2) then((u04 x.1).bind fun y6=>(some (y6,false))) else(some (y5.1,true))))))
theorem r9a:t88=s56:=zC 469 rfl Tryz.func469 (by kernel_rfl)
def t5d(x:o40):Option r6b:=zK 429 x
def s51 (x:o40):Option r6b:=((t2i x.1).bind fun y1=>((t88 (x.1,(y1,x.2))).bind fun y2=>(some y2)))
theorem r85:t5d=s51:=zC 429 rfl Tryz.func429 (by kernel_rfl)
def t4d(x:Z9):Option Z49:=zK 423 x
def r2t (x:Z9):Option Z49:=((u3m x.2).bind fun y1=>(bif (!y1.2) then(some (false,x.1)) else((t5d (x.1.2,y1.1)).bind fun y2=>(bif (!y2.2) then((t62 x.1.2).bind fun y3=>(bif (!y3.2) then(some (false,x.1)) else((t5d (y3.1,y1.1)).bind fun y4=>(bif y4.2 then(some (y4.2,(x.1.1,y4.1))) else(some (y4.2,x.1)))))) else(bif y2.2 then(some (y2.2,(x.1.1,y2.1))) else(some (y2.2,x.1)))))))
theorem q3w:t4d=r2t:=zC 423 rfl Tryz.func423 (by kernel_rfl)
def u7j(x:Z51):Option Z50:=zK 354 x
def s6c (x:Z51):Option Z50:=((s5n (x.1.1,x.2)).bind fun y1=>(bif (decide (y1.2.2=0)) then((t4d (x.1,y1.2.1)).bind fun y2=>(bif (!y2.1) then((u0l y2.2.1).bind fun y3=>((u03 (y3,x.2)).bind fun y4=>(some (3,(y4,y2.2.2))))) else(some (y1.2.2,(y1.1,y2.2.2))))) else(some (y1.2.2,(y1.1,x.1.2)))))
theorem r9g:u7j=s6c:=zC 354 rfl Tryz.func354 (by kernel_rfl)
def t6u(x:Z83):Option Bool:=zK 466 x
def u7l(g:Z31→Option (Z72⊕Bool))(x:Z31):Option (Z72⊕Bool):=(bif (decide (x.2.2.2.2.2<(x.1.length:Int))) then(((bif (y4q x.2.2.2.2.2 x.1.length) then(bif (decide ((rdL u0a x.1 (x.2.2.2.2.2).toNat).2.1=2)) then(bif (y4q x.2.2.2.2.2 x.1.length) then(bif (!decide ((rdL u0a x.1 (x.2.2.2.2.2).toNat).1=x.2.1.1)) then(bif (y4q x.2.2.2.2.2 x.1.length) then((u2w (x.2.2.2.2.1,(rdL u0a x.1 (x.2.2.2.2.2).toNat))).bind fun y5=>(some y5)) else none) else(some false)) else none) else(some false)) else none):Option Bool).bind fun j6=>(bif j6 then(some (.inr true)) else(g (x.1,(x.2.1,(x.2.2.1,(x.2.2.2.1,(x.2.2.2.2.1,(IntKind.i64.wrap (x.2.2.2.2.2+1)))))))))) else(some (.inl (x.1,(x.2.1,(x.2.2.1,x.2.2.2.1))))))
def u5v:=lpW _ _ u7l
theorem t8z x:u5v x=u7l u5v x:=zW t8p 466 Tryz.f466 12 65 x (by kernel_rfl)
def u8c(g:Z72→Option r8k)(x:Z72):Option r8k:=(bif (decide (x.2.2.2<(x.1.length:Int))) then(bif (y4q x.2.2.2 x.1.length) then(((bif (!decide ((rdL u0a x.1 (x.2.2.2).toNat).2.1=2)) then(some true) else((u2w (x.2.1,(rdL u0a x.1 (x.2.2.2).toNat))).bind fun y3=>(some (!y3)))):Option Bool).bind fun j4=>(bif j4 then(g (x.1,(x.2.1,(x.2.2.1,(IntKind.i64.wrap (x.2.2.2+1)))))) else(bif x.2.2.1 then(some (.inr true)) else((u5v (x.1,(x.2.1,(x.2.2.1,(x.2.2.2,((rdL u0a x.1 (x.2.2.2).toNat),0)))))).bind fun r7=>match r7 with | .inl o8=>(g (o8.1,(o8.2.1,(o8.2.2.1,(IntKind.i64.wrap (o8.2.2.2+1)))))) | .inr z9=>(some (.inr z9)))))) else none) else(some (.inl ())))
def u6c:=lpW _ _ u8c
theorem t9t x:u6c x=u8c u6c x:=zW t9o 466 Tryz.f466 5 65 x (by kernel_rfl)
def s1o (x:Z83):Option Bool:=((t92 x).bind fun y1=>(bif y1 then(some true) else((s5p x).bind fun y2=>((u6c (x.2,(x.1,(y2,0)))).bind fun r10=>match r10 with | .inl o11=>(some false) | .inr z12=>(some z12)))))
theorem r5j:t6u=s1o:=zC 466 rfl Tryz.func466 (by kernel_rfl)
def s2w(x:Z62):Option Z13:=zK 425 x
def r1r (x:Z62):Option Z13:=((u0l x.1).bind fun y1=>((u6i (x.1,x.2.1)).bind fun y2=>(bif (decide (y2<0)) then(some (y1,((0,((0,(0,(0,(0,(([] :List q5p.den),(([] :List u2f.den),(false,(⟨#[]⟩:ByteArray)))))))),((⟨#[]⟩:ByteArray),(false,(([] :List u0i.den),(([] :List u0a.den),(([] :List u0a.den),(0,0)))))))),1))) else((u6l x.2.2).bind fun y3=>(bif (!y3) then(some (y1,((0,((0,(0,(0,(0,(([] :List q5p.den),(([] :List u2f.den),(false,(⟨#[]⟩:ByteArray)))))))),((⟨#[]⟩:ByteArray),(false,(([] :List u0i.den),(([] :List u0a.den),(([] :List u0a.den),(0,0)))))))),2))) else((u11 (x.1.1,x.2.2)).bind fun y4=>(bif (decide (y4≥0)) then(some (y1,((0,((0,(0,(0,(0,(([] :List q5p.den),(([] :List u2f.den),(false,(⟨#[]⟩:ByteArray)))))))),((⟨#[]⟩:ByteArray),(false,(([] :List u0i.den),(([] :List u0a.den),(([] :List u0a.den),(0,0)))))))),6))) else((s14 (x.1,x.2.1)).bind fun y5=>(((bif (decide (y5=0)) then(bif (y4q y2 x.1.2.length) then((t3n x.1.1).bind fun y6=>((t6u ((rdL u0a x.1.2 (y2).toNat),y6)).bind fun y7=>(some y7))) else none) else(some false)):Option Bool).bind fun j8=>(bif j8 then(((bif (decide ((5:Int)=(0:Int))) then(some (decide ((x.1.1.2.2.1.length:Int)≥(3:Int)))) else(some false)):Option Bool).bind fun j9=>(bif j9 then(bif (!decide ((3:Int)=(0:Int))) then((u03 (y1,x.2.1)).bind fun y10=>(some (y10,((0,((0,(0,(0,(0,(([] :List q5p.den),(([] :List u2f.den),(false,(⟨#[]⟩:ByteArray)))))))),((⟨#[]⟩:ByteArray),(false,(([] :List u0i.den),(([] :List u0a.den),(([] :List u0a.den),(0,0)))))))),3)))) else(bif (y4q y2 x.1.2.length) then((u59 (x.1.1,((rdL u0a x.1.2 (y2).toNat),x.2.2))).bind fun y11=>((u11 (y11,x.2.2)).bind fun y12=>(bif (y4q y12 y11.2.2.1.length) then((u05 (rdL u0a y11.2.2.1 (y12).toNat)).bind fun y13=>((u03 ((y11,y1.2),x.2.1)).bind fun y14=>(some (y14,((2,(y13,((⟨#[]⟩:ByteArray),(false,(([] :List u0i.den),(([] :List u0a.den),(([] :List u0a.den),(0,0)))))))),0))))) else none))) else none)) else(bif (!decide ((5:Int)=(0:Int))) then((u03 (y1,x.2.1)).bind fun y15=>(some (y15,((0,((0,(0,(0,(0,(([] :List q5p.den),(([] :List u2f.den),(false,(⟨#[]⟩:ByteArray)))))))),((⟨#[]⟩:ByteArray),(false,(([] :List u0i.den),(([] :List u0a.den),(([] :List u0a.den),(0,0)))))))),5)))) else(bif (y4q y2 x.1.2.length) then((u59 (x.1.1,((rdL u0a x.1.2 (y2).toNat),x.2.2))).bind fun y16=>((u11 (y16,x.2.2)).bind fun y17=>(bif (y4q y17 y16.2.2.1.length) then((u05 (rdL u0a y16.2.2.1 (y17).toNat)).bind fun y18=>((u03 ((y16,y1.2),x.2.1)).bind fun y19=>(some (y19,((2,(y18,((⟨#[]⟩:ByteArray),(false,(([] :List u0i.den),(([] :List u0a.den),(([] :List u0a.den),(0,0)))))))),0))))) else none))) else none)))) else(((bif (decide (y5=0)) then(some (decide ((x.1.1.2.2.1.length:Int)≥(3:Int)))) else(some false)):Option Bool).bind fun j20=>(bif j20 then(bif (!decide ((3:Int)=(0:Int))) then((u03 (y1,x.2.1)).bind fun y21=>(some (y21,((0,((0,(0,(0,(0,(([] :List q5p.den),(([] :List u2f.den),(false,(⟨#[]⟩:ByteArray)))))))),((⟨#[]⟩:ByteArray),(false,(([] :List u0i.den),(([] :List u0a.den),(([] :List u0a.den),(0,0)))))))),3)))) else(bif (y4q y2 x.1.2.length) then((u59 (x.1.1,((rdL u0a x.1.2 (y2).toNat),x.2.2))).bind fun y22=>((u11 (y22,x.2.2)).bind fun y23=>(bif (y4q y23 y22.2.2.1.length) then((u05 (rdL u0a y22.2.2.1 (y23).toNat)).bind fun y24=>((u03 ((y22,y1.2),x.2.1)).bind fun y25=>(some (y25,((2,(y24,((⟨#[]⟩:ByteArray),(false,(([] :List u0i.den),(([] :List u0a.den),(([] :List u0a.den),(0,0)))))))),0))))) else none))) else none)) else(bif (!decide (y5=0)) then((u03 (y1,x.2.1)).bind fun y26=>(some (y26,((0,((0,(0,(0,(0,(([] :List q5p.den),(([] :List u2f.den),(false,(⟨#[]⟩:ByteArray)))))))),((⟨#[]⟩:ByteArray),(false,(([] :List u0i.den),(([] :List u0a.den),(([] :List u0a.den),(0,0)))))))),y5)))) else(bif (y4q y2 x.1.2.length) then((u59 (x.1.1,((rdL u0a x.1.2 (y2).toNat),x.2.2))).bind fun y27=>((u11 (y27,x.2.2)).bind fun y28=>(bif (y4q y28 y27.2.2.1.length) then((u05 (rdL u0a y27.2.2.1 (y28).toNat)).bind fun y29=>((u03 ((y27,y1.2),x.2.1)).bind fun y30=>(some (y30,((2,(y29,((⟨#[]⟩:ByteArray),(false,(([] :List u0i.den),(([] :List u0a.den),(([] :List u0a.den),(0,0)))))))),0))))) else none))) else none))))))))))))))
theorem q23:s2w=r1r:=zC 425 rfl Tryz.func425 (by kernel_rfl)
def u6s(x:Z45):Option Z50:=zK 355 x
def s3m (x:Z45):Option Z50:=((s2w (x.1.1,x.2)).bind fun y1=>(bif (decide (y1.2.2=0)) then((t4d (x.1,y1.2.1)).bind fun y2=>(bif (!y2.1) then((u0l y2.2.1).bind fun y3=>((u03 (y3,x.2.1)).bind fun y4=>(some (3,(y4,y2.2.2))))) else(some (y1.2.2,(y1.1,y2.2.2))))) else(some (y1.2.2,(y1.1,x.1.2)))))
theorem r6t:u6s=s3m:=zC 355 rfl Tryz.func355 (by kernel_rfl)
def s5o(x:Z61):Option Z13:=zK 339 x
def r4q (x:Z61):Option Z13:=((u0l x.1).bind fun y1=>((u11 (x.1.1,x.2.1)).bind fun y2=>(bif (decide (y2<0)) then(some (y1,((0,((0,(0,(0,(0,(([] :List q5p.den),(([] :List u2f.den),(false,(⟨#[]⟩:ByteArray)))))))),((⟨#[]⟩:ByteArray),(false,(([] :List u0i.den),(([] :List u0a.den),(([] :List u0a.den),(0,0)))))))),1))) else(((bif x.2.2 then((t8h x.1.1).bind fun y3=>(some y3)) else(some false)):Option Bool).bind fun j4=>(bif j4 then(some (y1,((0,((0,(0,(0,(0,(([] :List q5p.den),(([] :List u2f.den),(false,(⟨#[]⟩:ByteArray)))))))),((⟨#[]⟩:ByteArray),(false,(([] :List u0i.den),(([] :List u0a.den),(([] :List u0a.den),(0,0)))))))),3))) else(bif x.2.2 then(bif (y4q y2 x.1.1.2.2.1.length) then((u6m (x.1.1,(rdL u0a x.1.1.2.2.1 (y2).toNat))).bind fun y5=>((t3l (y5,y1.2)).bind fun y6=>(some ((y6,y1.2),((3,((0,(0,(0,(0,(([] :List q5p.den),(([] :List u2f.den),(false,(⟨#[]⟩:ByteArray)))))))),(x.2.1,(x.2.2,(([] :List u0i.den),(([] :List u0a.den),(([] :List u0a.den),(0,0)))))))),0))))) else none) else((t78 (x.1.1,x.2.1)).bind fun y7=>((t3l (y7,y1.2)).bind fun y8=>(some ((y8,y1.2),((3,((0,(0,(0,(0,(([] :List q5p.den),(([] :List u2f.den),(false,(⟨#[]⟩:ByteArray)))))))),(x.2.1,(x.2.2,(([] :List u0i.den),(([] :List u0a.den),(([] :List u0a.den),(0,0)))))))),0)))))))))))
theorem q6e:s5o=r4q:=zC 339 rfl Tryz.func339 (by kernel_rfl)
def u7k(x:Z44):Option Z50:=zK 356 x
def s6d (x:Z44):Option Z50:=((s5o (x.1.1,x.2)).bind fun y1=>(bif (decide (y1.2.2=0)) then((t4d (x.1,y1.2.1)).bind fun y2=>(bif (!y2.1) then(some (3,y2.2)) else(some (y1.2.2,(y1.1,y2.2.2))))) else(some (y1.2.2,(y1.1,x.1.2)))))
theorem r9h:u7k=s6d:=zC 356 rfl Tryz.func356 (by kernel_rfl)
def t5t(x:Z69):Option Z69:=zK 357 x
def r7u (x:Z69):Option Z69:=((u0l x.1).bind fun y1=>((u6i x).bind fun y2=>(bif (decide (y2<0)) then(some (y1,1)) else((u03 (y1,x.2)).bind fun y3=>(some (y3,0))))))
theorem q8u:t5t=r7u:=zC 357 rfl Tryz.func357 (by kernel_rfl)
def s25(x:Z41):Option Z41:=zK 231 x
def r2u (x:Z41):Option Z41:=(bif (decide ((x.2.1.2.length:Int) >(0:Int))) then((u2c (x.1,(x.2.1.2.length:Int))).bind fun y1=>(bif (y4q y1.1 x.2.1.2.length) then((u2c (y1.2,16)).bind fun y2=>(((bif (decide ((rdL u0a x.2.1.2 (y1.1).toNat).1=0)) then(some true) else(some (decide (y2.1<3)))):Option Bool).bind fun j3=>(bif j3 then((t2j x.2.1).bind fun y4=>(some (y2.2,(y4.1,x.2.2)))) else(bif (decide (y2.1<6)) then((u6j y2.2).bind fun y5=>((t3j (x.2.1,((rdL u0a x.2.1.2 (y1.1).toNat).1,y5.1))).bind fun y6=>(some (y5.2,(y6.1,x.2.2))))) else(bif (decide (y2.1<7)) then((u8z y2.2).bind fun y7=>((u8w (x.2.1,((rdL u0a x.2.1.2 (y1.1).toNat).1,y7.1))).bind fun y8=>(some (y7.2,(y8.1,x.2.2))))) else(bif (decide (y2.1<10)) then((u80 y2.2).bind fun y9=>((t3k (x.2.1,((rdL u0a x.2.1.2 (y1.1).toNat).1,y9.1))).bind fun y10=>(some (y9.2,(y10.1,x.2.2))))) else(bif (decide (y2.1<13)) then((u7j (x.2,(rdL u0a x.2.1.2 (y1.1).toNat).1)).bind fun y11=>(some (y2.2,y11.2))) else(bif (decide (y2.1=13)) then((u12 (y2.2,([(⟨#[112]⟩:ByteArray),(⟨#[113]⟩:ByteArray),(⟨#[114]⟩:ByteArray)] :List ByteArray))).bind fun y12=>((u6s (x.2,((rdL u0a x.2.1.2 (y1.1).toNat).1,y12.1))).bind fun y13=>(some (y12.2,y13.2)))) else(bif (decide (y2.1=14)) then((u12 (y2.2,([(⟨#[112]⟩:ByteArray),(⟨#[113]⟩:ByteArray),(⟨#[114]⟩:ByteArray)] :List ByteArray))).bind fun y14=>((u2d (y14.2,2)).bind fun y15=>((u7k (x.2,(y14.1,y15.1))).bind fun y16=>(some (y15.2,y16.2))))) else((u2d (y2.2,3)).bind fun y17=>(bif y17.1 then((u8u x.2).bind fun y18=>(some (y17.2,y18.1))) else((t5t (x.2.1,(rdL u0a x.2.1.2 (y1.1).toNat).1)).bind fun y19=>(some (y17.2,(y19.1,x.2.2))))))))))))))) else none)) else((u2c (x.1,16)).bind fun y20=>(((bif (decide ((0:Int)=(0:Int))) then(some true) else(some (decide (y20.1<3)))):Option Bool).bind fun j21=>(bif j21 then((t2j x.2.1).bind fun y22=>(some (y20.2,(y22.1,x.2.2)))) else(bif (decide (y20.1<6)) then((u6j y20.2).bind fun y23=>((t3j (x.2.1,(0,y23.1))).bind fun y24=>(some (y23.2,(y24.1,x.2.2))))) else(bif (decide (y20.1<7)) then((u8z y20.2).bind fun y25=>((u8w (x.2.1,(0,y25.1))).bind fun y26=>(some (y25.2,(y26.1,x.2.2))))) else(bif (decide (y20.1<10)) then((u80 y20.2).bind fun y27=>((t3k (x.2.1,(0,y27.1))).bind fun y28=>(some (y27.2,(y28.1,x.2.2))))) else(bif (decide (y20.1<13)) then((u7j (x.2,0)).bind fun y29=>(some (y20.2,y29.2))) else(bif (decide (y20.1=13)) then((u12 (y20.2,([(⟨#[112]⟩:ByteArray),(⟨#[113]⟩:ByteArray),(⟨#[114]⟩:ByteArray)] :List ByteArray))).bind fun y30=>((u6s (x.2,(0,y30.1))).bind fun y31=>(some (y30.2,y31.2)))) else(bif (decide (y20.1=14)) then((u12 (y20.2,([(⟨#[112]⟩:ByteArray),(⟨#[113]⟩:ByteArray),(⟨#[114]⟩:ByteArray)] :List ByteArray))).bind fun y32=>((u2d (y32.2,2)).bind fun y33=>((u7k (x.2,(y32.1,y33.1))).bind fun y34=>(some (y33.2,y34.2))))) else((u2d (y20.2,3)).bind fun y35=>(bif y35.1 then((u8u x.2).bind fun y36=>(some (y35.2,y36.1))) else((t5t (x.2.1,0)).bind fun y37=>(some (y35.2,(y37.1,x.2.2))))))))))))))))
theorem q3x:s25=r2u:=zC 231 rfl Tryz.func231 (by kernel_rfl)
def t8i(x:o0k):Option Z40:=zK 94 x
def t82(g:Z10→Option (Z12⊕Unit))(x:Z10):Option (Z12⊕Unit):=((u2c (x.1,x.2.1)).bind fun y2=>(bif (decide (x.2.2.2.2<(IntKind.i64.wrap ((2:Int)+y2.1)))) then((s25 (y2.2,x.2.2.2.1)).bind fun y3=>(g (y3.1,(x.2.1,(x.2.2.1,(y3.2,(IntKind.i64.wrap (x.2.2.2.2+1)))))))) else(some (.inl (y2.2,(x.2.2.1,x.2.2.2.1))))))
def t0q:=lpW _ _ t82
theorem r9m x:t0q x=t82 t0q x:=zW s69 94 Tryz.f94 3 19 x (by kernel_rfl)
def r2v (x:o0k):Option Z40:=((s0v ()).bind fun y1=>((t0q (x.1,(x.2,((((([] :List u0i.den),(([] :List u0a.den),(([] :List u0a.den),(0,0)))),([] :List u0a.den)),(([] :List ByteArray),([] :List p4o.den))),(y1,0))))).bind fun r4=>match r4 with | .inl o5=>(some (o5.2.2,o5.1)) | .inr z6=>none))
theorem q3y:t8i=r2v:=zC 94 rfl Tryz.func94 (by kernel_rfl)
def t9b(x:q39):Option Z58:=zK 139 x
def s6b (x:q39):Option Z58:=((t8i (x,22)).bind fun y1=>(some (y1.1.1,y1.2)))
theorem r9f:t9b=s6b:=zC 139 rfl Tryz.func139 (by kernel_rfl)
def t7h(x:q7j):Option Z69:=zK 40 x
def s3e (x:q7j):Option Z69:=((s5s x).bind fun y1=>((t9b y1).bind fun y2=>(bif (decide ((y2.1.2.length:Int)=(0:Int))) then((t2j y2.1).bind fun y3=>((u2c (y2.2,(y3.1.2.length:Int))).bind fun y4=>(bif (y4q y4.1 y3.1.2.length) then(some (y3.1,(rdL u0a y3.1.2 (y4.1).toNat).1)) else none))) else((u2c (y2.2,(y2.1.2.length:Int))).bind fun y5=>(bif (y4q y5.1 y2.1.2.length) then(some (y2.1,(rdL u0a y2.1.2 (y5.1).toNat).1)) else none)))))
theorem r6l:t7h=s3e:=zC 40 rfl Tryz.func40 (by kernel_rfl)
def t5c(x:p62):Option Bool:=zK 149 x
def s5y (x:p62):Option Bool:=(some (z7o x.1.2.2.2.2.2.2.2 x.2))
theorem r80:t5c=s5y:=zC 149 rfl Tryz.func149 (by kernel_rfl)
def u42(x:o0c):Option Int:=zK 10010 x
def u3s(g:o0a→Option s8a)(x:o0a):Option s8a:=(bif (decide (x.2.2.2<x.2.2.1)) then(bif (y4q x.2.2.2 x.1.length) then((t5c ((rdL u0a x.1 (x.2.2.2).toNat),x.2.1)).bind fun y1=>(bif y1 then(some (.inr x.2.2.2)) else(g (x.1,(x.2.1,(x.2.2.1,(IntKind.i64.wrap (x.2.2.2+1)))))))) else none) else(some (.inl ())))
def u09:=lpW _ _ u3s
theorem u9a x:u09 x=u3s u09 x:=zW u30 10010 Tryz.f148 2 19 x (by kernel_rfl)
def u4v (x:o0c):Option Int:=((u09 (x.1,(x.2,((x.1.length:Int),0)))).bind fun r2=>match r2 with | .inl o3=>(some (-1:Int)) | .inr z4=>(some z4))
theorem t0x:u42=u4v:=zC 10010 rfl Tryz.func148 (by kernel_rfl)
def u1v(x:Z90):Option Int:=zK 42 x
def r1d (x:Z90):Option Int:=((u42 (x.1.2.2.1,x.2)).bind fun y1=>(some y1))
theorem q2p:u1v=r1d:=zC 42 rfl Tryz.func42 (by kernel_rfl)
def t6q(x:p0w):Option Bool:=zK 156 x
def s8m (x:p0w):Option Bool:=(some (decide (x.1.1=x.2)))
theorem q0q:t6q=s8m:=zC 156 rfl Tryz.func156 (by kernel_rfl)
def u5g(x:p3d):Option Int:=zK 10013 x
def u4a(g:p6p→Option s8a)(x:p6p):Option s8a:=(bif (decide (x.2.2.2<x.2.2.1)) then(bif (y4q x.2.2.2 x.1.length) then((t6q ((rdL u0a x.1 (x.2.2.2).toNat),x.2.1)).bind fun y1=>(bif y1 then(some (.inr x.2.2.2)) else(g (x.1,(x.2.1,(x.2.2.1,(IntKind.i64.wrap (x.2.2.2+1)))))))) else none) else(some (.inl ())))
def u1f:=lpW _ _ u4a
theorem u93 x:u1f x=u4a u1f x:=zW u4k 10013 Tryz.f148 2 19 x (by kernel_rfl)
def u5b (x:p3d):Option Int:=((u1f (x.1,(x.2,((x.1.length:Int),0)))).bind fun r2=>match r2 with | .inl o3=>(some (-1:Int)) | .inr z4=>(some z4))
theorem t09:u5g=u5b:=zC 10013 rfl Tryz.func148 (by kernel_rfl)
def t3h(x:Z69):Option Int:=zK 50 x
def r4h (x:Z69):Option Int:=((u5g (x.1.2,x.2)).bind fun y1=>(some y1))
theorem q55:t3h=r4h:=zC 50 rfl Tryz.func50 (by kernel_rfl)
def t1b(x:(Unit×Int)):Option r57:=zK 290 x
def t69 (x:(Unit×Int)):Option r57:=(bif (decide (x.2<0)) then none else(bif (decide ((IntKind.i64.wrap (x.2 - (IntKind.i64.wrap ((0:Int) - (0:Int))))) >0)) then(bif (decide (0≤(0:Int))&&decide ((0:Int)≤(0:Int))&&decide ((0:Int)≤0)) then(bif (decide (1≤(IntKind.i64.wrap (x.2 - (IntKind.i64.wrap ((0:Int) - (0:Int))))))&&decide ((IntKind.i64.wrap (x.2 - (IntKind.i64.wrap ((0:Int) - (0:Int)))))≤1099511627776)) then(bif (decide (0≤(0:Int))&&decide ((0:Int)≤(0:Int))&&decide ((0:Int)≤((List.replicate ((IntKind.i64.wrap (x.2 - (IntKind.i64.wrap ((0:Int) - (0:Int)))))).toNat (u0a).zero).length:Int))) then(some ((List.replicate ((IntKind.i64.wrap (x.2 - (IntKind.i64.wrap ((0:Int) - (0:Int)))))).toNat (u0a).zero).take (((0:Int)).toNat - ((0:Int)).toNat))) else none) else none) else none) else(some ([] :List u0a.den))))
theorem s75:t1b=t69:=zC 290 rfl Tryz.func290 (by kernel_rfl)
def u8t(x:o0d):Option r57:=zK 164 x
def u47(g:o31→Option (o41⊕Unit))(x:o31):Option (o41⊕Unit):=(bif (decide (x.2.2.2.2<x.2.2.2.1)) then(bif (y4q x.2.2.2.2 x.2.2.1.length) then(bif (decide ((IntKind.i64.wrap (x.2.1+((rdL (Ty.sl u0a) x.2.2.1 (x.2.2.2.2).toNat).length:Int)))<0)) then none else(g (x.1,((IntKind.i64.wrap (x.2.1+((rdL (Ty.sl u0a) x.2.2.1 (x.2.2.2.2).toNat).length:Int))),(x.2.2.1,(x.2.2.2.1,(IntKind.i64.wrap (x.2.2.2.2+1)))))))) else none) else(some (.inl (x.1,x.2.1))))
def u2k:=lpW _ _ u47
theorem t3t x:u2k x=u47 u2k x:=zW t3r 164 Tryz.f164 3 36 x (by kernel_rfl)
def u37(g:o34→Option o0i)(x:o34):Option o0i:=(bif (decide (x.2.2.2<x.2.2.1)) then(bif (y4q x.2.2.2 x.2.1.length) then(bif (Nat.ble (x.1.length+(rdL (Ty.sl u0a) x.2.1 (x.2.2.2).toNat).length) z7w) then(g ((x.1++(rdL (Ty.sl u0a) x.2.1 (x.2.2.2).toNat)),(x.2.1,(x.2.2.1,(IntKind.i64.wrap (x.2.2.2+1)))))) else none) else none) else(some (.inl x.1)))
def u19:=lpW _ _ u37
theorem t2o x:u19 x=u37 u19 x:=zW t2c 164 Tryz.f164 11 36 x (by kernel_rfl)
def t5q (x:o0d):Option r57:=((u2k (x,(0,(x,((x.length:Int),0))))).bind fun r1=>match r1 with | .inl o2=>((t1b ((),o2.2)).bind fun y3=>((u19 (y3,(o2.1,((o2.1.length:Int),0)))).bind fun r4=>match r4 with | .inl o5=>(some o5) | .inr z6=>none)) | .inr z7=>none)
theorem s3p:u8t=t5q:=zC 164 rfl Tryz.func164 (by kernel_rfl)
def t8u(x:Z71):Option r57:=zK 144 x
def r7p (x:Z71):Option r57:=((u8t ([x.1.2.1,x.1.2.2.1] :List r57)).bind fun y1=>(some y1))
theorem q8p:t8u=r7p:=zC 144 rfl Tryz.func144 (by kernel_rfl)
def s5k(x:Z99):Option Bool:=zK 151 x
def r99 (x:Z99):Option Bool:=(((bif (decide ((x.2.1.length:Int)≥(12:Int))) then(some true) else(bif (decide ((x.1.length:Int) >(100:Int))) then(some true) else(some (decide (x.2.2.2.1≥9999))))):Option Bool).bind fun j1=>(some j1))
theorem p04:s5k=r99:=zC 151 rfl Tryz.func151 (by kernel_rfl)
def t6s(x:t3v):Option Bool:=zK 125 x
def t6g (x:t3v):Option Bool:=(some (decide (x.2.1=3)))
theorem t9w:t6s=t6g:=zC 125 rfl Tryz.func125 (by kernel_rfl)
def u5s(x:t3v):Option Bool:=zK 195 x
def q2j (x:t3v):Option Bool:=(some (decide (x.2.1=2)))
theorem q2u:u5s=q2j:=zC 195 rfl Tryz.func195 (by kernel_rfl)
def s13(x:o2g):Option Bool:=zK 253 x
def t7s(g:Z87→Option (o0b⊕Bool))(x:Z87):Option (o0b⊕Bool):=(bif (decide (x.2.2.2.2.2.2.2<x.2.2.2.2.2.2.1)) then(bif (y4q x.2.2.2.2.2.2.2 x.2.2.2.2.2.1.length) then(bif (z7o x.2.1.1 (rdL u2f x.2.2.2.2.2.1 (x.2.2.2.2.2.2.2).toNat).1) then(some (.inr true)) else(g (x.1,(x.2.1,(x.2.2.1,(x.2.2.2.1,(x.2.2.2.2.1,(x.2.2.2.2.2.1,(x.2.2.2.2.2.2.1,(IntKind.i64.wrap (x.2.2.2.2.2.2.2+1))))))))))) else none) else(some (.inl (x.1,(x.2.2.1,(x.2.2.2.1,x.2.2.2.2.1))))))
def t30:=lpW _ _ t7s
theorem r3j x:t30 x=t7s t30 x:=zW r24 253 Tryz.f253 5 28 x (by kernel_rfl)
def t7r(g:o0b→Option r8k)(x:o0b):Option r8k:=(bif (decide (x.2.2.2<x.2.2.1)) then(bif (y4q x.2.2.2 x.2.1.length) then((t30 (x.1,((rdL u2f x.2.1 (x.2.2.2).toNat),(x.2.1,(x.2.2.1,(x.2.2.2,(x.1,((x.1.length:Int),0)))))))).bind fun r1=>match r1 with | .inl o2=>(g (o2.1,(o2.2.1,(o2.2.2.1,(IntKind.i64.wrap (o2.2.2.2+1)))))) | .inr z3=>(some (.inr z3))) else none) else(some (.inl ())))
def t70:=lpW _ _ t7r
theorem r3i x:t70 x=t7r t70 x:=zW r23 253 Tryz.f253 2 28 x (by kernel_rfl)
def r7n (x:o2g):Option Bool:=((t70 (x.2,(x.1,((x.1.length:Int),0)))).bind fun r4=>match r4 with | .inl o5=>(some false) | .inr z6=>(some z6))
theorem q8n:s13=r7n:=zC 253 rfl Tryz.func253 (by kernel_rfl)
def t5b(x:Z56):Option Bool:=zK 282 x
def s5w (x:Z56):Option Bool:=(((bif (!decide (x.1.1=x.2.1)) then((u5s x.1).bind fun y1=>(bif y1 then((s13 (x.1.2.2.2.2.2.1,x.2.2.2.2.2.2.1)).bind fun y2=>(some y2)) else((t6s x.1).bind fun y3=>(bif y3 then(bif (decide (x.1.2.2.2.1 >x.2.2.2.1)) then((s13 (x.1.2.2.2.2.2.1,x.2.2.2.2.2.2.1)).bind fun y4=>(some y4)) else(some false)) else(some false))))) else(some false)):Option Bool).bind fun j5=>(some j5))
theorem r8x:t5b=s5w:=zC 282 rfl Tryz.func282 (by kernel_rfl)
def u40(x:Z84):Option Int:=zK 10028 x
def u3q(g:Z73→Option s8a)(x:Z73):Option s8a:=(bif (decide (x.2.2.2<x.2.2.1)) then(bif (y4q x.2.2.2 x.1.length) then((t5b ((rdL u0a x.1 (x.2.2.2).toNat),x.2.1)).bind fun y1=>(bif y1 then(some (.inr x.2.2.2)) else(g (x.1,(x.2.1,(x.2.2.1,(IntKind.i64.wrap (x.2.2.2+1)))))))) else none) else(some (.inl ())))
def u07:=lpW _ _ u3q
theorem u88 x:u07 x=u3q u07 x:=zW u3y 10028 Tryz.f148 2 19 x (by kernel_rfl)
def u4t (x:Z84):Option Int:=((u07 (x.1,(x.2,((x.1.length:Int),0)))).bind fun r2=>match r2 with | .inl o3=>(some (-1:Int)) | .inr z4=>(some z4))
theorem t0v:u40=u4t:=zC 10028 rfl Tryz.func148 (by kernel_rfl)
def u3l(x:Z84):Option Bool:=zK 10027 x
def u3d (x:Z84):Option Bool:=((u40 x).bind fun y1=>(some (decide (y1≥0))))
theorem u8p:u3l=u3d:=zC 10027 rfl Tryz.func261 (by kernel_rfl)
def t3s(x:Z84):Option Bool:=zK 10026 x
def t3q (x:Z84):Option Bool:=((u3l x).bind fun y1=>(some y1))
theorem s1d:t3s=t3q:=zC 10026 rfl Tryz.func127 (by kernel_rfl)
def s2o(x:Z83):Option Bool:=zK 154 x
def r08 (x:Z83):Option Bool:=((t3s (x.2,x.1)).bind fun y1=>(some y1))
theorem q2k:s2o=r08:=zC 154 rfl Tryz.func154 (by kernel_rfl)
def s2q(x:o2h):Option Bool:=zK 258 x
def r1a (x:o2h):Option Bool:=(((bif (!y3c x.2 x.1.1) then(some (y3c x.2 x.1.2 || z7o x.2 x.1.2)) else(some false)):Option Bool).bind fun j1=>(some j1))
theorem q2m:s2q=r1a:=zC 258 rfl Tryz.func258 (by kernel_rfl)
def s2r(x:o2i):Option Bool:=zK 252 x
def t4h(g:Z96→Option (o13⊕Bool))(x:Z96):Option (o13⊕Bool):=(bif (decide (x.2.2.2.2.2.2.2<x.2.2.2.2.2.2.1)) then(bif (y4q x.2.2.2.2.2.2.2 x.2.2.2.2.2.1.length) then((s2q (x.2.1,(rdL u2f x.2.2.2.2.2.1 (x.2.2.2.2.2.2.2).toNat).1)).bind fun y1=>(bif y1 then(some (.inr true)) else(g (x.1,(x.2.1,(x.2.2.1,(x.2.2.2.1,(x.2.2.2.2.1,(x.2.2.2.2.2.1,(x.2.2.2.2.2.2.1,(IntKind.i64.wrap (x.2.2.2.2.2.2.2+1)))))))))))) else none) else(some (.inl (x.1,(x.2.2.1,(x.2.2.2.1,x.2.2.2.2.1))))))
def u99:=lpW _ _ t4h
theorem s7c x:u99 x=t4h u99 x:=zW s6h 252 Tryz.f252 5 27 x (by kernel_rfl)
def t4g(g:o13→Option r8k)(x:o13):Option r8k:=(bif (decide (x.2.2.2<x.2.2.1)) then(bif (y4q x.2.2.2 x.2.1.length) then((u99 (x.1,((rdL q5p x.2.1 (x.2.2.2).toNat),(x.2.1,(x.2.2.1,(x.2.2.2,(x.1,((x.1.length:Int),0)))))))).bind fun r2=>match r2 with | .inl o3=>(g (o3.1,(o3.2.1,(o3.2.2.1,(IntKind.i64.wrap (o3.2.2.2+1)))))) | .inr z4=>(some (.inr z4))) else none) else(some (.inl ())))
def t43:=lpW _ _ t4g
theorem s7b x:t43 x=t4g t43 x:=zW s6g 252 Tryz.f252 2 27 x (by kernel_rfl)
def r1f (x:o2i):Option Bool:=((t43 (x.2,(x.1,((x.1.length:Int),0)))).bind fun r5=>match r5 with | .inl o6=>(some false) | .inr z7=>(some z7))
theorem q2r:s2r=r1f:=zC 252 rfl Tryz.func252 (by kernel_rfl)
def s0n(x:Z56):Option Bool:=zK 442 x
def s8i (x:Z56):Option Bool:=(((bif (decide (x.1.2.1=3)) then(some (decide (x.1.2.2.2.1≤x.2.2.2.1))) else(some false)):Option Bool).bind fun j1=>(some j1))
theorem q0m:s0n=s8i:=zC 442 rfl Tryz.func442 (by kernel_rfl)
def s5h(x:Z56):Option Bool:=zK 384 x
def r4c (x:Z56):Option Bool:=(bif (!decide (x.1.1=x.2.1)) then((s0n x).bind fun y1=>(bif (!y1) then((s0n (x.2,x.1)).bind fun y2=>(some (!y2))) else(some false))) else(some false))
theorem q50:s5h=r4c:=zC 384 rfl Tryz.func384 (by kernel_rfl)
def u3j(x:Z56):Option Bool:=zK 273 x
def r7j (x:Z56):Option Bool:=((((s5h x).bind fun y1=>(bif y1 then((s2r (x.1.2.2.2.2.1,x.2.2.2.2.2.2.1)).bind fun y2=>(some y2)) else(some false))):Option Bool).bind fun j3=>(some j3))
theorem q8j:u3j=r7j:=zC 273 rfl Tryz.func273 (by kernel_rfl)
def t90(x:Z56):Option Bool:=zK 385 x
def r4g (x:Z56):Option Bool:=((((u5s x.1).bind fun y1=>(bif y1 then((u3j x).bind fun y2=>(some y2)) else((t6s x.1).bind fun y3=>(bif y3 then((u3j x).bind fun y4=>(some y4)) else(some false))))):Option Bool).bind fun j5=>(some j5))
theorem q54:t90=r4g:=zC 385 rfl Tryz.func385 (by kernel_rfl)
def u51(x:Z84):Option Int:=zK 10016 x
def u48(g:Z73→Option s8a)(x:Z73):Option s8a:=(bif (decide (x.2.2.2<x.2.2.1)) then(bif (y4q x.2.2.2 x.1.length) then((t90 ((rdL u0a x.1 (x.2.2.2).toNat),x.2.1)).bind fun y1=>(bif y1 then(some (.inr x.2.2.2)) else(g (x.1,(x.2.1,(x.2.2.1,(IntKind.i64.wrap (x.2.2.2+1)))))))) else none) else(some (.inl ())))
def u1m:=lpW _ _ u48
theorem t1c x:u1m x=u48 u1m x:=zW u5d 10016 Tryz.f148 2 19 x (by kernel_rfl)
def u5w (x:Z84):Option Int:=((u1m (x.1,(x.2,((x.1.length:Int),0)))).bind fun r2=>match r2 with | .inl o3=>(some (-1:Int)) | .inr z4=>(some z4))
theorem t2a:u51=u5w:=zC 10016 rfl Tryz.func148 (by kernel_rfl)
def u4z(x:Z84):Option Bool:=zK 10015 x
def u4r (x:Z84):Option Bool:=((u51 x).bind fun y1=>(some (decide (y1≥0))))
theorem t0t:u4z=u4r:=zC 10015 rfl Tryz.func261 (by kernel_rfl)
def t6t(x:Z84):Option Bool:=zK 10014 x
def t6h (x:Z84):Option Bool:=((u4z x).bind fun y1=>(some y1))
theorem s5a:t6t=t6h:=zC 10014 rfl Tryz.func127 (by kernel_rfl)
def s5j(x:Z83):Option Bool:=zK 274 x
def r97 (x:Z83):Option Bool:=((t6t (x.2,x.1)).bind fun y1=>(some y1))
theorem p03:s5j=r97:=zC 274 rfl Tryz.func274 (by kernel_rfl)
def t77(x:Z56):Option Bool:=zK 386 x
def r1b (x:Z56):Option Bool:=((((t6s x.1).bind fun y1=>(bif y1 then((u3j (x.2,x.1)).bind fun y2=>(some y2)) else(some false))):Option Bool).bind fun j3=>(some j3))
theorem q2n:t77=r1b:=zC 386 rfl Tryz.func386 (by kernel_rfl)
def u5p(x:Z84):Option Int:=zK 10005 x
def u4q(g:Z73→Option s8a)(x:Z73):Option s8a:=(bif (decide (x.2.2.2<x.2.2.1)) then(bif (y4q x.2.2.2 x.1.length) then((t77 ((rdL u0a x.1 (x.2.2.2).toNat),x.2.1)).bind fun y1=>(bif y1 then(some (.inr x.2.2.2)) else(g (x.1,(x.2.1,(x.2.2.1,(IntKind.i64.wrap (x.2.2.2+1)))))))) else none) else(some (.inl ())))
def u1j:=lpW _ _ u4q
theorem t03 x:u1j x=u4q u1j x:=zW u4y 10005 Tryz.f148 2 19 x (by kernel_rfl)
def u5n (x:Z84):Option Int:=((u1j (x.1,(x.2,((x.1.length:Int),0)))).bind fun r2=>match r2 with | .inl o3=>(some (-1:Int)) | .inr z4=>(some z4))
theorem t1v:u5p=u5n:=zC 10005 rfl Tryz.func148 (by kernel_rfl)
def u4m(x:Z84):Option Bool:=zK 10004 x
def u4c (x:Z84):Option Bool:=((u5p x).bind fun y1=>(some (decide (y1≥0))))
theorem u9p:u4m=u4c:=zC 10004 rfl Tryz.func261 (by kernel_rfl)
def t5s(x:Z84):Option Bool:=zK 10003 x
def t5p (x:Z84):Option Bool:=((u4m x).bind fun y1=>(some y1))
theorem s3o:t5s=t5p:=zC 10003 rfl Tryz.func127 (by kernel_rfl)
def t8s(x:Z83):Option Bool:=zK 278 x
def r7o (x:Z83):Option Bool:=((t5s (x.2,x.1)).bind fun y1=>(some y1))
theorem q8o:t8s=r7o:=zC 278 rfl Tryz.func278 (by kernel_rfl)
def t6o(x:Z56):Option Bool:=zK 283 x
def s8j (x:Z56):Option Bool:=((((u5s x.1).bind fun y1=>(bif y1 then(bif x.1.2.2.2.2.2.2.1 then((u3j (x.2,x.1)).bind fun y2=>(some y2)) else(some false)) else((t6s x.1).bind fun y3=>(bif y3 then(bif x.1.2.2.2.2.2.2.1 then((u3j (x.2,x.1)).bind fun y4=>(some y4)) else(some false)) else(some false))))):Option Bool).bind fun j5=>(some j5))
theorem q0n:t6o=s8j:=zC 283 rfl Tryz.func283 (by kernel_rfl)
def u5e(x:Z84):Option Int:=zK 10019 x
def u38(g:Z73→Option s8a)(x:Z73):Option s8a:=(bif (decide (x.2.2.2<x.2.2.1)) then(bif (y4q x.2.2.2 x.1.length) then((t6o ((rdL u0a x.1 (x.2.2.2).toNat),x.2.1)).bind fun y1=>(bif y1 then(some (.inr x.2.2.2)) else(g (x.1,(x.2.1,(x.2.2.1,(IntKind.i64.wrap (x.2.2.2+1)))))))) else none) else(some (.inl ())))
def u1d:=lpW _ _ u38
theorem u91 x:u1d x=u38 u1d x:=zW u4i 10019 Tryz.f148 2 19 x (by kernel_rfl)
def u49 (x:Z84):Option Int:=((u1d (x.1,(x.2,((x.1.length:Int),0)))).bind fun r2=>match r2 with | .inl o3=>(some (-1:Int)) | .inr z4=>(some z4))
theorem t07:u5e=u49:=zC 10019 rfl Tryz.func148 (by kernel_rfl)
def u34(x:Z84):Option Bool:=zK 10018 x
def u3v (x:Z84):Option Bool:=((u5e x).bind fun y1=>(some (decide (y1≥0))))
theorem u85:u34=u3v:=zC 10018 rfl Tryz.func261 (by kernel_rfl)
def u7y(x:Z84):Option Bool:=zK 10017 x
def t33 (x:Z84):Option Bool:=((u34 x).bind fun y1=>(some y1))
theorem s2l:u7y=t33:=zC 10017 rfl Tryz.func127 (by kernel_rfl)
def t3g(x:Z56):Option Bool:=zK 285 x
def s3b (x:Z56):Option Bool:=((((u5s x.1).bind fun y1=>(bif y1 then((u3j x).bind fun y2=>(some y2)) else(some false))):Option Bool).bind fun j3=>(some j3))
theorem r6i:t3g=s3b:=zC 285 rfl Tryz.func285 (by kernel_rfl)
def u4n(x:Z84):Option Int:=zK 10025 x
def u3c(g:Z73→Option s8a)(x:Z73):Option s8a:=(bif (decide (x.2.2.2<x.2.2.1)) then(bif (y4q x.2.2.2 x.1.length) then((t3g ((rdL u0a x.1 (x.2.2.2).toNat),x.2.1)).bind fun y1=>(bif y1 then(some (.inr x.2.2.2)) else(g (x.1,(x.2.1,(x.2.2.1,(IntKind.i64.wrap (x.2.2.2+1)))))))) else none) else(some (.inl ())))
def u02:=lpW _ _ u3c
theorem u84 x:u02 x=u3c u02 x:=zW u3i 10025 Tryz.f148 2 19 x (by kernel_rfl)
def u4g (x:Z84):Option Int:=((u02 (x.1,(x.2,((x.1.length:Int),0)))).bind fun r2=>match r2 with | .inl o3=>(some (-1:Int)) | .inr z4=>(some z4))
theorem u9t:u4n=u4g:=zC 10025 rfl Tryz.func148 (by kernel_rfl)
def u24(x:Z84):Option Bool:=zK 10024 x
def u21 (x:Z84):Option Bool:=((u4n x).bind fun y1=>(some (decide (y1≥0))))
theorem u74:u24=u21:=zC 10024 rfl Tryz.func261 (by kernel_rfl)
def u6y(x:Z84):Option Bool:=zK 10023 x
def t18 (x:Z84):Option Bool:=((u24 x).bind fun y1=>(some y1))
theorem s0f:u6y=t18:=zC 10023 rfl Tryz.func127 (by kernel_rfl)
def t6p(x:Z39):Option Bool:=zK 284 x
def s8k (x:Z39):Option Bool:=((((u5s x.1).bind fun y1=>(bif (!y1) then(some true) else((u3j (x.1,x.2.1)).bind fun y2=>(some (!y2))))):Option Bool).bind fun j3=>(bif j3 then(some false) else((u3j (x.2.1,x.1)).bind fun y4=>(bif y4 then(some true) else((u6y (x.2.2,x.1)).bind fun y5=>(some y5))))))
theorem q0o:t6p=s8k:=zC 284 rfl Tryz.func284 (by kernel_rfl)
def u5f(x:Z64):Option Int:=zK 10022 x
def u39(g:Z57→Option s8a)(x:Z57):Option s8a:=(bif (decide (x.2.2.2<x.2.2.1)) then(bif (y4q x.2.2.2 x.1.length) then((t6p ((rdL u0a x.1 (x.2.2.2).toNat),x.2.1)).bind fun y1=>(bif y1 then(some (.inr x.2.2.2)) else(g (x.1,(x.2.1,(x.2.2.1,(IntKind.i64.wrap (x.2.2.2+1)))))))) else none) else(some (.inl ())))
def u1e:=lpW _ _ u39
theorem u92 x:u1e x=u39 u1e x:=zW u4j 10022 Tryz.f148 2 19 x (by kernel_rfl)
def u5a (x:Z64):Option Int:=((u1e (x.1,(x.2,((x.1.length:Int),0)))).bind fun r2=>match r2 with | .inl o3=>(some (-1:Int)) | .inr z4=>(some z4))
theorem t08:u5f=u5a:=zC 10022 rfl Tryz.func148 (by kernel_rfl)
def u35(x:Z64):Option Bool:=zK 10021 x
def u3w (x:Z64):Option Bool:=((u5f x).bind fun y1=>(some (decide (y1≥0))))
theorem u86:u35=u3w:=zC 10021 rfl Tryz.func261 (by kernel_rfl)
def u7z(x:Z64):Option Bool:=zK 10020 x
def t34 (x:Z64):Option Bool:=((u35 x).bind fun y1=>(some y1))
theorem s2m:u7z=t34:=zC 10020 rfl Tryz.func127 (by kernel_rfl)
def t9z(x:Z83):Option Bool:=zK 155 x
def r4e (x:Z83):Option Bool:=((((s5j x).bind fun y1=>(bif y1 then((t8s x).bind fun y2=>(some y2)) else(some false))):Option Bool).bind fun j3=>(bif j3 then(some true) else((u7y (x.2,x.1)).bind fun y4=>(bif y4 then(some true) else((u7z (x.2,x)).bind fun y5=>(some y5))))))
theorem q52:t9z=r4e:=zC 155 rfl Tryz.func155 (by kernel_rfl)
def s12(x:Z69):Option Int:=zK 48 x
def r7k (x:Z69):Option Int:=((t3h x).bind fun y1=>(bif (decide (y1<0)) then(some (1:Int)) else(bif (y4q y1 x.1.2.length) then((t8u x.1).bind fun y2=>((s2o ((rdL u0a x.1.2 (y1).toNat),y2)).bind fun y3=>(bif y3 then(some (4:Int)) else(bif (y4q y1 x.1.2.length) then((t8u x.1).bind fun y4=>((t9z ((rdL u0a x.1.2 (y1).toNat),y4)).bind fun y5=>(bif y5 then(some (5:Int)) else((s5k x.1.1).bind fun y6=>(bif y6 then(some (3:Int)) else(some (0:Int))))))) else none)))) else none)))
theorem q8k:s12=r7k:=zC 48 rfl Tryz.func48 (by kernel_rfl)
def u36(x:t3v):Option t3v:=zK 147 x
def r1h (x:t3v):Option t3v:=(bif (Nat.ble x.2.2.2.2.1.length z7w) then(bif (Nat.ble x.2.2.2.2.2.1.length z7w) then(some x) else none) else none)
theorem q2t:u36=r1h:=zC 147 rfl Tryz.func147 (by kernel_rfl)
def t2h(x:r57):Option r57:=zK 271 x
def t2t(g:o28→Option o0i)(x:o28):Option o0i:=(bif (decide (x.2.2.2<x.2.2.1)) then(bif (y4q x.2.2.2 x.2.1.length) then((u36 (rdL u0a x.2.1 (x.2.2.2).toNat)).bind fun y1=>(bif (Nat.ble (x.1.length+([y1] :List u0a.den).length) z7w) then(g ((x.1++([y1] :List u0a.den)),(x.2.1,(x.2.2.1,(IntKind.i64.wrap (x.2.2.2+1)))))) else none)) else none) else(some (.inl x.1)))
def t29:=lpW _ _ t2t
theorem s4k x:t29 x=t2t t29 x:=zW s3w 271 Tryz.f271 3 19 x (by kernel_rfl)
def s8o (x:r57):Option r57:=((t29 (([] :List u0a.den),(x,((x.length:Int),0)))).bind fun r2=>match r2 with | .inl o3=>(some o3) | .inr z4=>none)
theorem q0t:t2h=s8o:=zC 271 rfl Tryz.func271 (by kernel_rfl)
def u6x(x:Z99):Option Z99:=zK 200 x
def s8n (x:Z99):Option Z99:=(bif (Nat.ble x.1.length z7w) then((t2h x.2.1).bind fun y1=>((t2h x.2.2.1).bind fun y2=>(some (x.1,(y1,(y2,x.2.2.2)))))) else none)
theorem q0s:u6x=s8n:=zC 200 rfl Tryz.func200 (by kernel_rfl)
def s0o(x:Z71):Option Int:=zK 235 x
def t2r(g:o3a→Option p4t)(x:o3a):Option p4t:=(bif (decide (x.2.2.2<x.2.2.1)) then(bif (y4q x.2.2.2 x.2.1.length) then(g ((y8i x.1 (rdL u0a x.2.1 (x.2.2.2).toNat).2.2.1),(x.2.1,(x.2.2.1,(IntKind.i64.wrap (x.2.2.2+1)))))) else none) else(some (.inl x.1)))
def t27:=lpW _ _ t2r
theorem s4i x:t27 x=t2r t27 x:=zW s3u 235 Tryz.f235 3 22 x (by kernel_rfl)
def s8l (x:Z71):Option Int:=((t27 (x.1.2.2.2.1,(x.2,((x.2.length:Int),0)))).bind fun r1=>match r1 with | .inl o2=>(some o2) | .inr z3=>none)
theorem q0p:s0o=s8l:=zC 235 rfl Tryz.func235 (by kernel_rfl)
def s5l(x:o0e):Option Int:=zK 363 x
def t51(g:o39→Option p4t)(x:o39):Option p4t:=(bif (decide (x.2.2.2.2.2.2<x.2.2.2.2.2.1)) then(bif (y4q x.2.2.2.2.2.2 x.2.2.2.2.1.length) then(((bif (z7o (rdL u0i x.2.2.2.2.1 (x.2.2.2.2.2.2).toNat).1 x.2.1) then(bif (decide ((rdL u0i x.2.2.2.2.1 (x.2.2.2.2.2.2).toNat).2.2.2≤x.2.2.1)) then(bif (decide (x.2.2.2.1<0)) then(some true) else(bif (y4q x.2.2.2.1 x.1.length) then(some (decide ((rdL u0i x.2.2.2.2.1 (x.2.2.2.2.2.2).toNat).2.2.2 >(rdL u0i x.1 (x.2.2.2.1).toNat).2.2.2))) else none)) else(some false)) else(some false)):Option Bool).bind fun j1=>(bif j1 then(g (x.1,(x.2.1,(x.2.2.1,(x.2.2.2.2.2.2,(x.2.2.2.2.1,(x.2.2.2.2.2.1,(IntKind.i64.wrap (x.2.2.2.2.2.2+1))))))))) else(g (x.1,(x.2.1,(x.2.2.1,(x.2.2.2.1,(x.2.2.2.2.1,(x.2.2.2.2.2.1,(IntKind.i64.wrap (x.2.2.2.2.2.2+1))))))))))) else none) else(some (.inl x.2.2.2.1)))
def t11:=lpW _ _ t51
theorem r0b x:t11 x=t51 t11 x:=zW s9k 363 Tryz.f363 3 44 x (by kernel_rfl)
def r4j (x:o0e):Option Int:=((t11 (x.1,(x.2.1,(x.2.2,((-1:Int),(x.1,((x.1.length:Int),0))))))).bind fun r2=>match r2 with | .inl o3=>(some o3) | .inr z4=>none)
theorem q57:s5l=r4j:=zC 363 rfl Tryz.func363 (by kernel_rfl)
def t85(x:(ByteArray×q7n)):Option Int:=zK 364 x
def t1e(g:o4t→Option p4t)(x:o4t):Option p4t:=(bif (decide (x.2.2.2.2<x.2.2.2.1)) then(bif (y4q x.2.2.2.2 x.2.2.1.length) then(bif (z7o (rdL u0i x.2.2.1 (x.2.2.2.2).toNat).1 x.1) then(g (x.1,((IntKind.i64.wrap (x.2.1+1)),(x.2.2.1,(x.2.2.2.1,(IntKind.i64.wrap (x.2.2.2.2+1))))))) else(g (x.1,(x.2.1,(x.2.2.1,(x.2.2.2.1,(IntKind.i64.wrap (x.2.2.2.2+1)))))))) else none) else(some (.inl x.2.1)))
def u7m:=lpW _ _ t1e
theorem s2b x:u7m x=t1e u7m x:=zW s1u 364 Tryz.f364 3 21 x (by kernel_rfl)
def s5z (x:(ByteArray×q7n)):Option Int:=((u7m (x.1,(0,(x.2,((x.2.length:Int),0))))).bind fun r1=>match r1 with | .inl o2=>(some o2) | .inr z3=>none)
theorem r82:t85=s5z:=zC 364 rfl Tryz.func364 (by kernel_rfl)
def s2s(x:o0j):Option q7n:=zK 238 x
def t4i(g:o36→Option o2n)(x:o36):Option o2n:=(bif (decide (x.2.2.2.2.2<x.2.2.2.2.1)) then(bif (y4q x.2.2.2.2.2 x.2.2.2.1.length) then(((bif (decide ((rdL u0i x.2.2.2.1 (x.2.2.2.2.2).toNat).2.2.2 >x.2.1)) then(some true) else((s5l (x.1,((rdL u0i x.2.2.2.1 (x.2.2.2.2.2).toNat).1,x.2.1))).bind fun y1=>(some (decide (y1=x.2.2.2.2.2))))):Option Bool).bind fun j2=>(bif j2 then(bif (Nat.ble (x.2.2.1.length+([(rdL u0i x.2.2.2.1 (x.2.2.2.2.2).toNat)] :List u0i.den).length) z7w) then(g (x.1,(x.2.1,((x.2.2.1++([(rdL u0i x.2.2.2.1 (x.2.2.2.2.2).toNat)] :List u0i.den)),(x.2.2.2.1,(x.2.2.2.2.1,(IntKind.i64.wrap (x.2.2.2.2.2+1)))))))) else none) else(g (x.1,(x.2.1,(x.2.2.1,(x.2.2.2.1,(x.2.2.2.2.1,(IntKind.i64.wrap (x.2.2.2.2.2+1)))))))))) else none) else(some (.inl (x.2.1,x.2.2.1))))
def t0a:=lpW _ _ t4i
theorem s7d x:t0a x=t4i t0a x:=zW s6i 238 Tryz.f238 3 66 x (by kernel_rfl)
def t2s(g:o37→Option p8z)(x:o37):Option p8z:=(bif (decide (x.2.2.2.2.2<x.2.2.2.2.1)) then(bif (y4q x.2.2.2.2.2 x.2.2.2.1.length) then(bif (decide ((rdL u0i x.2.2.2.1 (x.2.2.2.2.2).toNat).2.2.2 >x.1)) then(bif (Nat.ble (x.2.2.1.length+([(rdL u0i x.2.2.2.1 (x.2.2.2.2.2).toNat)] :List u0i.den).length) z7w) then(g (x.1,(x.2.1,((x.2.2.1++([(rdL u0i x.2.2.2.1 (x.2.2.2.2.2).toNat)] :List u0i.den)),(x.2.2.2.1,(x.2.2.2.2.1,(IntKind.i64.wrap (x.2.2.2.2.2+1)))))))) else none) else(bif (!(rdL u0i x.2.2.2.1 (x.2.2.2.2.2).toNat).2.2.1) then(bif (Nat.ble (x.2.2.1.length+([(rdL u0i x.2.2.2.1 (x.2.2.2.2.2).toNat)] :List u0i.den).length) z7w) then(g (x.1,(x.2.1,((x.2.2.1++([(rdL u0i x.2.2.2.1 (x.2.2.2.2.2).toNat)] :List u0i.den)),(x.2.2.2.1,(x.2.2.2.2.1,(IntKind.i64.wrap (x.2.2.2.2.2+1)))))))) else none) else((t85 ((rdL u0i x.2.2.2.1 (x.2.2.2.2.2).toNat).1,x.2.1)).bind fun y5=>(bif (decide (y5 >1)) then(bif (Nat.ble (x.2.2.1.length+([(rdL u0i x.2.2.2.1 (x.2.2.2.2.2).toNat)] :List u0i.den).length) z7w) then(g (x.1,(x.2.1,((x.2.2.1++([(rdL u0i x.2.2.2.1 (x.2.2.2.2.2).toNat)] :List u0i.den)),(x.2.2.2.1,(x.2.2.2.2.1,(IntKind.i64.wrap (x.2.2.2.2.2+1)))))))) else none) else(g (x.1,(x.2.1,(x.2.2.1,(x.2.2.2.1,(x.2.2.2.2.1,(IntKind.i64.wrap (x.2.2.2.2.2+1)))))))))))) else none) else(some (.inl x.2.2.1)))
def t28:=lpW _ _ t2s
theorem s4j x:t28 x=t2s t28 x:=zW s3v 238 Tryz.f238 11 66 x (by kernel_rfl)
def r1g (x:o0j):Option q7n:=((t0a (x.1,(x.2,(([] :List u0i.den),(x.1,((x.1.length:Int),0)))))).bind fun r3=>match r3 with | .inl o4=>((t28 (o4.1,(o4.2,(([] :List u0i.den),(o4.2,((o4.2.length:Int),0)))))).bind fun r6=>match r6 with | .inl o7=>(some o7) | .inr z8=>none) | .inr z9=>none)
theorem q2s:s2s=r1g:=zC 238 rfl Tryz.func238 (by kernel_rfl)
def u8r(x:p0w):Option Bool:=zK 237 x
def r98 (x:p0w):Option Bool:=(some (decide (x.1.2.2.2.1≤x.2)))
theorem q0r:u8r=r98:=zC 237 rfl Tryz.func237 (by kernel_rfl)
def u5h(x:p3d):Option Int:=zK 10001 x
def u4b(g:p6p→Option s8a)(x:p6p):Option s8a:=(bif (decide (x.2.2.2<x.2.2.1)) then(bif (y4q x.2.2.2 x.1.length) then((u8r ((rdL u0a x.1 (x.2.2.2).toNat),x.2.1)).bind fun y1=>(bif y1 then(some (.inr x.2.2.2)) else(g (x.1,(x.2.1,(x.2.2.1,(IntKind.i64.wrap (x.2.2.2+1)))))))) else none) else(some (.inl ())))
def u1g:=lpW _ _ u4b
theorem u94 x:u1g x=u4b u1g x:=zW u4l 10001 Tryz.f148 2 19 x (by kernel_rfl)
def u5c (x:p3d):Option Int:=((u1g (x.1,(x.2,((x.1.length:Int),0)))).bind fun r2=>match r2 with | .inl o3=>(some (-1:Int)) | .inr z4=>(some z4))
theorem t1a:u5h=u5c:=zC 10001 rfl Tryz.func148 (by kernel_rfl)
def u10(x:p3d):Option r57:=zK 10000 x
def u3p(g:p6p→Option p80)(x:p6p):Option p80:=(bif (decide (x.2.2.2<(x.1.length:Int))) then(bif (y4q x.2.2.2 x.1.length) then((u8r ((rdL u0a x.1 (x.2.2.2).toNat),x.2.1)).bind fun y2=>(bif (!y2) then(bif (y4q x.2.2.1 x.1.length) then(g ((x.1.set (x.2.2.1).toNat (rdL u0a x.1 (x.2.2.2).toNat)),(x.2.1,((IntKind.i64.wrap (x.2.2.1+1)),(IntKind.i64.wrap (x.2.2.2+1)))))) else none) else(g (x.1,(x.2.1,(x.2.2.1,(IntKind.i64.wrap (x.2.2.2+1)))))))) else none) else(some (.inl (x.1,x.2.2.1))))
def u06:=lpW _ _ u3p
theorem u87 x:u06 x=u3p u06 x:=zW u3x 10000 Tryz.f236 5 42 x (by kernel_rfl)
def u4s (x:p3d):Option r57:=((u5h x).bind fun y1=>(bif (decide (y1=(-1:Int))) then(some x.1) else((u06 (x.1,(x.2,(y1,(IntKind.i64.wrap (y1+1)))))).bind fun r3=>match r3 with | .inl o4=>(bif (decide (0≤o4.2)&&decide (o4.2≤(o4.1.length:Int))&&decide ((o4.1.length:Int)≤(o4.1.length:Int))) then(bif (decide (0≤(0:Int))&&decide ((0:Int)≤o4.2)&&decide (o4.2≤((o4.1.take (o4.2).toNat++List.replicate (((o4.1.length:Int)).toNat - (o4.2).toNat) (u0a).zero++o4.1.drop ((o4.2).toNat+(((o4.1.length:Int)).toNat - (o4.2).toNat))).length:Int))) then(some ((o4.1.take (o4.2).toNat++List.replicate (((o4.1.length:Int)).toNat - (o4.2).toNat) (u0a).zero++o4.1.drop ((o4.2).toNat+(((o4.1.length:Int)).toNat - (o4.2).toNat))).take ((o4.2).toNat - ((0:Int)).toNat))) else none) else none) | .inr z5=>none)))
theorem t0u:u10=u4s:=zC 10000 rfl Tryz.func236 (by kernel_rfl)
def u5r(x:Z71):Option Z99:=zK 100 x
def r4i (x:Z71):Option Z99:=((u6x x.1).bind fun y1=>((s0o x).bind fun y2=>((u10 (y1.2.1,y2)).bind fun y3=>((s2s (x.1.1,y2)).bind fun y4=>(some (y4,(y3,y1.2.2)))))))
theorem q56:u5r=r4i:=zC 100 rfl Tryz.func100 (by kernel_rfl)
def u3k(x:Z71):Option Z71:=zK 141 x
def s3c (x:Z71):Option Z71:=((u6x x.1).bind fun y1=>((t2h x.2).bind fun y2=>(some (y1,y2))))
theorem r6j:u3k=s3c:=zC 141 rfl Tryz.func141 (by kernel_rfl)
def u7g(x:p0w):Option Bool:=zK 277 x
def r8v (x:p0w):Option Bool:=(some (decide (x.1.1=x.2)))
theorem r83:u7g=r8v:=zC 277 rfl Tryz.func277 (by kernel_rfl)
def u44(x:p3d):Option Int:=zK 10012 x
def u3u(g:p6p→Option s8a)(x:p6p):Option s8a:=(bif (decide (x.2.2.2<x.2.2.1)) then(bif (y4q x.2.2.2 x.1.length) then((u7g ((rdL u0a x.1 (x.2.2.2).toNat),x.2.1)).bind fun y1=>(bif y1 then(some (.inr x.2.2.2)) else(g (x.1,(x.2.1,(x.2.2.1,(IntKind.i64.wrap (x.2.2.2+1)))))))) else none) else(some (.inl ())))
def u1b:=lpW _ _ u3u
theorem u9c x:u1b x=u3u u1b x:=zW u33 10012 Tryz.f148 2 19 x (by kernel_rfl)
def u4x (x:p3d):Option Int:=((u1b (x.1,(x.2,((x.1.length:Int),0)))).bind fun r2=>match r2 with | .inl o3=>(some (-1:Int)) | .inr z4=>(some z4))
theorem t0z:u44=u4x:=zC 10012 rfl Tryz.func148 (by kernel_rfl)
def u1y(x:p3d):Option r57:=zK 10011 x
def u3b(g:p6p→Option p80)(x:p6p):Option p80:=(bif (decide (x.2.2.2<(x.1.length:Int))) then(bif (y4q x.2.2.2 x.1.length) then((u7g ((rdL u0a x.1 (x.2.2.2).toNat),x.2.1)).bind fun y2=>(bif (!y2) then(bif (y4q x.2.2.1 x.1.length) then(g ((x.1.set (x.2.2.1).toNat (rdL u0a x.1 (x.2.2.2).toNat)),(x.2.1,((IntKind.i64.wrap (x.2.2.1+1)),(IntKind.i64.wrap (x.2.2.2+1)))))) else none) else(g (x.1,(x.2.1,(x.2.2.1,(IntKind.i64.wrap (x.2.2.2+1)))))))) else none) else(some (.inl (x.1,x.2.2.1))))
def u01:=lpW _ _ u3b
theorem u83 x:u01 x=u3b u01 x:=zW u3h 10011 Tryz.f236 5 42 x (by kernel_rfl)
def u4f (x:p3d):Option r57:=((u44 x).bind fun y1=>(bif (decide (y1=(-1:Int))) then(some x.1) else((u01 (x.1,(x.2,(y1,(IntKind.i64.wrap (y1+1)))))).bind fun r3=>match r3 with | .inl o4=>(bif (decide (0≤o4.2)&&decide (o4.2≤(o4.1.length:Int))&&decide ((o4.1.length:Int)≤(o4.1.length:Int))) then(bif (decide (0≤(0:Int))&&decide ((0:Int)≤o4.2)&&decide (o4.2≤((o4.1.take (o4.2).toNat++List.replicate (((o4.1.length:Int)).toNat - (o4.2).toNat) (u0a).zero++o4.1.drop ((o4.2).toNat+(((o4.1.length:Int)).toNat - (o4.2).toNat))).length:Int))) then(some ((o4.1.take (o4.2).toNat++List.replicate (((o4.1.length:Int)).toNat - (o4.2).toNat) (u0a).zero++o4.1.drop ((o4.2).toNat+(((o4.1.length:Int)).toNat - (o4.2).toNat))).take ((o4.2).toNat - ((0:Int)).toNat))) else none) else none) | .inr z5=>none)))
theorem u9s:u1y=u4f:=zC 10011 rfl Tryz.func236 (by kernel_rfl)
def u6k(x:Z69):Option Z71:=zK 145 x
def r1i (x:Z69):Option Z71:=((u3k x.1).bind fun y1=>((u1y (y1.2,x.2)).bind fun y2=>(some (y1.1,y2))))
theorem q2v:u6k=r1i:=zC 145 rfl Tryz.func145 (by kernel_rfl)
def t2g(x:Z69):Option Z69:=zK 77 x
def r7m (x:Z69):Option Z69:=((u6k x).bind fun y1=>((t3h x).bind fun y2=>(bif (decide (y2<0)) then(some (y1,1)) else((u5r y1).bind fun y3=>(some ((y3,y1.2),0))))))
theorem q8m:t2g=r7m:=zC 77 rfl Tryz.func77 (by kernel_rfl)
def t91(x:(Int×p6n)):Option Bool:=zK 205 x
def r4k (x:(Int×p6n)):Option Bool:=(((bif (decide (x.1≥x.2.1)) then(some (decide (x.1≤x.2.2))) else(some false)):Option Bool).bind fun j1=>(some j1))
theorem q58:t91=r4k:=zC 205 rfl Tryz.func205 (by kernel_rfl)
def s9z(x:ByteArray):Option Bool:=zK 142 x
def t7q(g:p0d→Option o2o)(x:p0d):Option o2o:=(bif (decide (x.2<(x.1.size:Int))) then(((bif (y4q x.2 x.1.size) then(bif (decide (((x.1.data.toList.getD (x.2).toNat 0).toNat:Int)<(97:Int))) then(some true) else(bif (y4q x.2 x.1.size) then(some (decide (((x.1.data.toList.getD (x.2).toNat 0).toNat:Int) >(122:Int)))) else none)) else none):Option Bool).bind fun j1=>(bif j1 then(some (.inr false)) else(g (x.1,(IntKind.i64.wrap (x.2+1)))))) else(some (.inl x.1)))
def t7z:=lpW _ _ t7q
theorem r3h x:t7z x=t7q t7z x:=zW r22 142 Tryz.f142 2 23 x (by kernel_rfl)
def r7l (x:ByteArray):Option Bool:=((t7z (x,0)).bind fun r2=>match r2 with | .inl o3=>((t91 ((o3.size:Int),(1,3))).bind fun y4=>(some y4)) | .inr z5=>(some z5))
theorem q8l:s9z=r7l:=zC 142 rfl Tryz.func142 (by kernel_rfl)
def u6g(x:Z56):Option Bool:=zK 272 x
def t3u (x:Z56):Option Bool:=((((u5s x.1).bind fun y1=>(bif y1 then((u3j (x.2,x.1)).bind fun y2=>(some y2)) else(some false))):Option Bool).bind fun j3=>(some j3))
theorem t9k:u6g=t3u:=zC 272 rfl Tryz.func272 (by kernel_rfl)
def u25(x:Z84):Option Int:=zK 10031 x
def u2p(g:Z73→Option s8a)(x:Z73):Option s8a:=(bif (decide (x.2.2.2<x.2.2.1)) then(bif (y4q x.2.2.2 x.1.length) then((u6g ((rdL u0a x.1 (x.2.2.2).toNat),x.2.1)).bind fun y1=>(bif y1 then(some (.inr x.2.2.2)) else(g (x.1,(x.2.1,(x.2.2.1,(IntKind.i64.wrap (x.2.2.2+1)))))))) else none) else(some (.inl ())))
def u0v:=lpW _ _ u2p
theorem u7t x:u0v x=u2p u0v x:=zW u2s 10031 Tryz.f148 2 19 x (by kernel_rfl)
def u22 (x:Z84):Option Int:=((u0v (x.1,(x.2,((x.1.length:Int),0)))).bind fun r2=>match r2 with | .inl o3=>(some (-1:Int)) | .inr z4=>(some z4))
theorem u75:u25=u22:=zC 10031 rfl Tryz.func148 (by kernel_rfl)
def u2n(x:Z84):Option Bool:=zK 10030 x
def u2l (x:Z84):Option Bool:=((u25 x).bind fun y1=>(some (decide (y1≥0))))
theorem u64:u2n=u2l:=zC 10030 rfl Tryz.func261 (by kernel_rfl)
def u5z(x:Z84):Option Bool:=zK 10029 x
def u9d (x:Z84):Option Bool:=((u2n x).bind fun y1=>(some y1))
theorem t8n:u5z=u9d:=zC 10029 rfl Tryz.func127 (by kernel_rfl)
def u61(x:Z23):Option Bool:=zK 276 x
def t68 (x:Z23):Option Bool:=((((u5s x.1).bind fun y1=>(bif y1 then(bif (!decide (x.1.1=x.2.1.1)) then((u3j (x.2.2,x.1)).bind fun y2=>(some y2)) else(some false)) else(some false))):Option Bool).bind fun j3=>(some j3))
theorem s74:u61=t68:=zC 276 rfl Tryz.func276 (by kernel_rfl)
def u2v(x:Z38):Option Int:=zK 10037 x
def u2e(g:Z34→Option s8a)(x:Z34):Option s8a:=(bif (decide (x.2.2.2<x.2.2.1)) then(bif (y4q x.2.2.2 x.1.length) then((u61 ((rdL u0a x.1 (x.2.2.2).toNat),x.2.1)).bind fun y1=>(bif y1 then(some (.inr x.2.2.2)) else(g (x.1,(x.2.1,(x.2.2.1,(IntKind.i64.wrap (x.2.2.2+1)))))))) else none) else(some (.inl ())))
def u0u:=lpW _ _ u2e
theorem u63 x:u0u x=u2e u0u x:=zW u2h 10037 Tryz.f148 2 19 x (by kernel_rfl)
def u2r (x:Z38):Option Int:=((u0u (x.1,(x.2,((x.1.length:Int),0)))).bind fun r2=>match r2 with | .inl o3=>(some (-1:Int)) | .inr z4=>(some z4))
theorem u7q:u2v=u2r:=zC 10037 rfl Tryz.func148 (by kernel_rfl)
def u2b(x:Z38):Option Bool:=zK 10036 x
def u2a (x:Z38):Option Bool:=((u2v x).bind fun y1=>(some (decide (y1≥0))))
theorem u6v:u2b=u2a:=zC 10036 rfl Tryz.func261 (by kernel_rfl)
def u46(x:Z38):Option Bool:=zK 10035 x
def u72 (x:Z38):Option Bool:=((u2b x).bind fun y1=>(some y1))
theorem t67:u46=u72:=zC 10035 rfl Tryz.func127 (by kernel_rfl)
def u8f(x:Z20):Option Bool:=zK 275 x
def t9h (x:Z20):Option Bool:=((u6g (x.1,x.2.1)).bind fun y1=>(bif y1 then((u46 (x.2.2.1,(x.2.2.2,x.1))).bind fun y2=>(some y2)) else(some false)))
theorem r00:u8f=t9h:=zC 275 rfl Tryz.func275 (by kernel_rfl)
def u26(x:Z26):Option Int:=zK 10034 x
def u2q(g:Z24→Option s8a)(x:Z24):Option s8a:=(bif (decide (x.2.2.2<x.2.2.1)) then(bif (y4q x.2.2.2 x.1.length) then((u8f ((rdL u0a x.1 (x.2.2.2).toNat),x.2.1)).bind fun y1=>(bif y1 then(some (.inr x.2.2.2)) else(g (x.1,(x.2.1,(x.2.2.1,(IntKind.i64.wrap (x.2.2.2+1)))))))) else none) else(some (.inl ())))
def u0w:=lpW _ _ u2q
theorem u7u x:u0w x=u2q u0w x:=zW u2t 10034 Tryz.f148 2 19 x (by kernel_rfl)
def u23 (x:Z26):Option Int:=((u0w (x.1,(x.2,((x.1.length:Int),0)))).bind fun r2=>match r2 with | .inl o3=>(some (-1:Int)) | .inr z4=>(some z4))
theorem u76:u26=u23:=zC 10034 rfl Tryz.func148 (by kernel_rfl)
def u2o(x:Z26):Option Bool:=zK 10033 x
def u2m (x:Z26):Option Bool:=((u26 x).bind fun y1=>(some (decide (y1≥0))))
theorem u65:u2o=u2m:=zC 10033 rfl Tryz.func261 (by kernel_rfl)
def u2u(x:Z26):Option Bool:=zK 10032 x
def u9e (x:Z26):Option Bool:=((u2o x).bind fun y1=>(some y1))
theorem t8o:u2u=u9e:=zC 10032 rfl Tryz.func127 (by kernel_rfl)
def t6r(x:Z83):Option Bool:=zK 143 x
def s1m (x:Z83):Option Bool:=((t9z x).bind fun y1=>(bif y1 then(some true) else((s5j x).bind fun y2=>(bif y2 then((u5z (x.2,x.1)).bind fun y3=>(bif y3 then(some true) else((u2u (x.2,(x.1,(x.2,x.1)))).bind fun y4=>(some y4)))) else((u2u (x.2,(x.1,(x.2,x.1)))).bind fun y5=>(some y5))))))
theorem r5h:t6r=s1m:=zC 143 rfl Tryz.func143 (by kernel_rfl)
def u7e(x:Z42):Option Z99:=zK 146 x
def t1d(g:Z5→Option (Z6⊕Unit))(x:Z5):Option (Z6⊕Unit):=(bif (decide (x.2.2.2.2.2.2.2.2.2<x.2.2.2.2.2.2.2.2.1)) then(bif (y4q x.2.2.2.2.2.2.2.2.2 x.2.2.2.1.2.2.1.length) then(bif (y3c (rdL u0a x.2.2.2.1.2.2.1 (x.2.2.2.2.2.2.2.2.2).toNat).2.2.2.2.2.2.2 x.1) then(bif (Nat.ble (x.2.2.2.2.2.1.length+([(rdL u0a x.2.2.2.1.2.2.1 (x.2.2.2.2.2.2.2.2.2).toNat)] :List u0a.den).length) z7w) then(g (x.1,(x.2.1,(x.2.2.1,(x.2.2.2.1,(x.2.2.2.2.1,((x.2.2.2.2.2.1++([(rdL u0a x.2.2.2.1.2.2.1 (x.2.2.2.2.2.2.2.2.2).toNat)] :List u0a.den)),(x.2.2.2.2.2.2.1,((),(x.2.2.2.2.2.2.2.2.1,(IntKind.i64.wrap (x.2.2.2.2.2.2.2.2.2+1)))))))))))) else none) else(bif (Nat.ble (x.2.2.2.2.2.2.1.length+([(rdL u0a x.2.2.2.1.2.2.1 (x.2.2.2.2.2.2.2.2.2).toNat)] :List u0a.den).length) z7w) then(g (x.1,(x.2.1,(x.2.2.1,(x.2.2.2.1,(x.2.2.2.2.1,(x.2.2.2.2.2.1,((x.2.2.2.2.2.2.1++([(rdL u0a x.2.2.2.1.2.2.1 (x.2.2.2.2.2.2.2.2.2).toNat)] :List u0a.den)),((),(x.2.2.2.2.2.2.2.2.1,(IntKind.i64.wrap (x.2.2.2.2.2.2.2.2.2+1)))))))))))) else none)) else none) else(some (.inl (x.2.1,(x.2.2.1,(x.2.2.2.1,(x.2.2.2.2.1,(x.2.2.2.2.2.1,x.2.2.2.2.2.2.1))))))))
def u53:=lpW _ _ t1d
theorem s2a x:u53 x=t1d u53 x:=zW s1t 146 Tryz.f146 6 64 x (by kernel_rfl)
def s5x (x:Z42):Option Z99:=((u6x x.1).bind fun y1=>((u36 x.2.1).bind fun y2=>(bif x.2.1.2.2.2.2.2.2.1 then((u53 (x.2.2,(x.2.1,((([] :List u0i.den),(([] :List u0a.den),(([] :List u0a.den),(0,0)))),(y1,((y2.1,(2,(y2.2.2.1,(y2.2.2.2.1,(y2.2.2.2.2.1,(y2.2.2.2.2.2.1,(true,x.2.2))))))),(([] :List u0a.den),(([] :List u0a.den),((),((y1.2.2.1.length:Int),0)))))))))).bind fun r3=>match r3 with | .inl o4=>(bif (Nat.ble (o4.2.2.2.2.1.length+([o4.2.2.2.1] :List u0a.den).length) z7w) then(bif (Nat.ble ((o4.2.2.2.2.1++([o4.2.2.2.1] :List u0a.den)).length+o4.2.2.2.2.2.length) z7w) then(some (o4.2.2.1.1,(o4.2.2.1.2.1,(((o4.2.2.2.2.1++([o4.2.2.2.1] :List u0a.den))++o4.2.2.2.2.2),(o4.2.2.1.2.2.2.1,(y8h o4.2.2.1.2.2.2.2 (IntKind.i64.wrap (o4.1.1+1)))))))) else none) else none) | .inr z5=>none) else((t8s (x.2.1,x.1.2.1)).bind fun y6=>((u53 (x.2.2,(x.2.1,((([] :List u0i.den),(([] :List u0a.den),(([] :List u0a.den),(0,0)))),(y1,((y2.1,(2,(y2.2.2.1,(y2.2.2.2.1,(y2.2.2.2.2.1,(y2.2.2.2.2.2.1,(y6,x.2.2))))))),(([] :List u0a.den),(([] :List u0a.den),((),((y1.2.2.1.length:Int),0)))))))))).bind fun r7=>match r7 with | .inl o8=>(bif (Nat.ble (o8.2.2.2.2.1.length+([o8.2.2.2.1] :List u0a.den).length) z7w) then(bif (Nat.ble ((o8.2.2.2.2.1++([o8.2.2.2.1] :List u0a.den)).length+o8.2.2.2.2.2.length) z7w) then(some (o8.2.2.1.1,(o8.2.2.1.2.1,(((o8.2.2.2.2.1++([o8.2.2.2.1] :List u0a.den))++o8.2.2.2.2.2),(o8.2.2.1.2.2.2.1,(y8h o8.2.2.1.2.2.2.2 (IntKind.i64.wrap (o8.1.1+1)))))))) else none) else none) | .inr z9=>none)))))
theorem r8z:u7e=s5x:=zC 146 rfl Tryz.func146 (by kernel_rfl)
def t36(x:Z62):Option Z13:=zK 41 x
def r1c (x:Z62):Option Z13:=((t3h (x.1,x.2.1)).bind fun y1=>(bif (decide (y1<0)) then((u3k x.1).bind fun y2=>(some (y2,((0,((0,(0,(0,(0,(([] :List q5p.den),(([] :List u2f.den),(false,(⟨#[]⟩:ByteArray)))))))),((⟨#[]⟩:ByteArray),(false,(([] :List u0i.den),(([] :List u0a.den),(([] :List u0a.den),(0,0)))))))),1)))) else((s9z x.2.2).bind fun y3=>(bif (!y3) then((u3k x.1).bind fun y4=>(some (y4,((0,((0,(0,(0,(0,(([] :List q5p.den),(([] :List u2f.den),(false,(⟨#[]⟩:ByteArray)))))))),((⟨#[]⟩:ByteArray),(false,(([] :List u0i.den),(([] :List u0a.den),(([] :List u0a.den),(0,0)))))))),2)))) else((u1v (x.1.1,x.2.2)).bind fun y5=>(bif (decide (y5≥0)) then((u3k x.1).bind fun y6=>(some (y6,((0,((0,(0,(0,(0,(([] :List q5p.den),(([] :List u2f.den),(false,(⟨#[]⟩:ByteArray)))))))),((⟨#[]⟩:ByteArray),(false,(([] :List u0i.den),(([] :List u0a.den),(([] :List u0a.den),(0,0)))))))),6)))) else((s12 (x.1,x.2.1)).bind fun y7=>(((bif (decide (y7=0)) then(bif (y4q y1 x.1.2.length) then((t8u x.1).bind fun y8=>((t6r ((rdL u0a x.1.2 (y1).toNat),y8)).bind fun y9=>(some y9))) else none) else(some false)):Option Bool).bind fun j10=>(bif j10 then(((bif (decide ((5:Int)=(0:Int))) then(some (decide ((x.1.1.2.2.1.length:Int)≥(3:Int)))) else(some false)):Option Bool).bind fun j11=>(bif j11 then(bif (!decide ((3:Int)=(0:Int))) then((t2g (x.1,x.2.1)).bind fun y12=>(some (y12.1,((0,((0,(0,(0,(0,(([] :List q5p.den),(([] :List u2f.den),(false,(⟨#[]⟩:ByteArray)))))))),((⟨#[]⟩:ByteArray),(false,(([] :List u0i.den),(([] :List u0a.den),(([] :List u0a.den),(0,0)))))))),3)))) else((u6k (x.1,x.2.1)).bind fun y13=>(bif (y4q y1 x.1.2.length) then((u7e (y13.1,((rdL u0a x.1.2 (y1).toNat),x.2.2))).bind fun y14=>((u1v (y14,x.2.2)).bind fun y15=>(bif (y4q y15 y14.2.2.1.length) then((u36 (rdL u0a y14.2.2.1 (y15).toNat)).bind fun y16=>((u5r (y14,y13.2)).bind fun y17=>(some ((y17,y13.2),((2,(y16,((⟨#[]⟩:ByteArray),(false,(([] :List u0i.den),(([] :List u0a.den),(([] :List u0a.den),(0,0)))))))),0))))) else none))) else none))) else(bif (!decide ((5:Int)=(0:Int))) then((t2g (x.1,x.2.1)).bind fun y18=>(some (y18.1,((0,((0,(0,(0,(0,(([] :List q5p.den),(([] :List u2f.den),(false,(⟨#[]⟩:ByteArray)))))))),((⟨#[]⟩:ByteArray),(false,(([] :List u0i.den),(([] :List u0a.den),(([] :List u0a.den),(0,0)))))))),5)))) else((u6k (x.1,x.2.1)).bind fun y19=>(bif (y4q y1 x.1.2.length) then((u7e (y19.1,((rdL u0a x.1.2 (y1).toNat),x.2.2))).bind fun y20=>((u1v (y20,x.2.2)).bind fun y21=>(bif (y4q y21 y20.2.2.1.length) then((u36 (rdL u0a y20.2.2.1 (y21).toNat)).bind fun y22=>((u5r (y20,y19.2)).bind fun y23=>(some ((y23,y19.2),((2,(y22,((⟨#[]⟩:ByteArray),(false,(([] :List u0i.den),(([] :List u0a.den),(([] :List u0a.den),(0,0)))))))),0))))) else none))) else none))))) else(((bif (decide (y7=0)) then(some (decide ((x.1.1.2.2.1.length:Int)≥(3:Int)))) else(some false)):Option Bool).bind fun j24=>(bif j24 then(bif (!decide ((3:Int)=(0:Int))) then((t2g (x.1,x.2.1)).bind fun y25=>(some (y25.1,((0,((0,(0,(0,(0,(([] :List q5p.den),(([] :List u2f.den),(false,(⟨#[]⟩:ByteArray)))))))),((⟨#[]⟩:ByteArray),(false,(([] :List u0i.den),(([] :List u0a.den),(([] :List u0a.den),(0,0)))))))),3)))) else((u6k (x.1,x.2.1)).bind fun y26=>(bif (y4q y1 x.1.2.length) then((u7e (y26.1,((rdL u0a x.1.2 (y1).toNat),x.2.2))).bind fun y27=>((u1v (y27,x.2.2)).bind fun y28=>(bif (y4q y28 y27.2.2.1.length) then((u36 (rdL u0a y27.2.2.1 (y28).toNat)).bind fun y29=>((u5r (y27,y26.2)).bind fun y30=>(some ((y30,y26.2),((2,(y29,((⟨#[]⟩:ByteArray),(false,(([] :List u0i.den),(([] :List u0a.den),(([] :List u0a.den),(0,0)))))))),0))))) else none))) else none))) else(bif (!decide (y7=0)) then((t2g (x.1,x.2.1)).bind fun y31=>(some (y31.1,((0,((0,(0,(0,(0,(([] :List q5p.den),(([] :List u2f.den),(false,(⟨#[]⟩:ByteArray)))))))),((⟨#[]⟩:ByteArray),(false,(([] :List u0i.den),(([] :List u0a.den),(([] :List u0a.den),(0,0)))))))),y7)))) else((u6k (x.1,x.2.1)).bind fun y32=>(bif (y4q y1 x.1.2.length) then((u7e (y32.1,((rdL u0a x.1.2 (y1).toNat),x.2.2))).bind fun y33=>((u1v (y33,x.2.2)).bind fun y34=>(bif (y4q y34 y33.2.2.1.length) then((u36 (rdL u0a y33.2.2.1 (y34).toNat)).bind fun y35=>((u5r (y33,y32.2)).bind fun y36=>(some ((y36,y32.2),((2,(y35,((⟨#[]⟩:ByteArray),(false,(([] :List u0i.den),(([] :List u0a.den),(([] :List u0a.den),(0,0)))))))),0))))) else none))) else none))))))))))))))
theorem q2o:t36=r1c:=zC 41 rfl Tryz.func41 (by kernel_rfl)
def u3n(x:o4z):Option q7n:=zK 257 x
theorem t9x:∀(x:o4z),u3n x=y2q u0i x:=y6f (P:=Tryz.prog) (A:=A) (f:=257) (F:=y2q u0i) rfl
def t1p(x:ByteArray):Option Bool:=zK 433 x
def s1k (x:ByteArray):Option Bool:=(some (!z7o x x))
theorem r5f:t1p=s1k:=zC 433 rfl Tryz.func433 (by kernel_rfl)
def t3x(x:o0h):Option Int:=zK 372 x
def t9f (x:o0h):Option Int:=((t1p x.1).bind fun y1=>((t1p x.2).bind fun y2=>(bif y1 then(bif y2 then(some (0:Int)) else(some (-1:Int))) else(bif y2 then(some (1:Int)) else(bif (y3c x.1 x.2) then(some (-1:Int)) else(bif (!(y3c x.1 x.2 || z7o x.1 x.2)) then(some (1:Int)) else(some (0:Int))))))))
theorem r0y:t3x=t9f:=zC 372 rfl Tryz.func372 (by kernel_rfl)
def t6n(x:Int):Option Bool:=zK 434 x
def s8h (x:Int):Option Bool:=(some (!decide (x=x)))
theorem q0l:t6n=s8h:=zC 434 rfl Tryz.func434 (by kernel_rfl)
def t7g(x:p6n):Option Int:=zK 373 x
def s3a (x:p6n):Option Int:=((t6n x.1).bind fun y1=>((t6n x.2).bind fun y2=>(bif y1 then(bif y2 then(some (0:Int)) else(some (-1:Int))) else(bif y2 then(some (1:Int)) else(bif (decide (x.1<x.2)) then(some (-1:Int)) else(bif (decide (x.1 >x.2)) then(some (1:Int)) else(some (0:Int))))))))
theorem r6h:t7g=s3a:=zC 373 rfl Tryz.func373 (by kernel_rfl)
def t8t(x:o1w):Option Int:=zK 256 x
def t8l (x:o1w):Option Int:=((t3x (x.1.1,x.2.1)).bind fun y1=>(bif (!decide (y1=0)) then(some y1) else((t7g (x.1.2.2.2,x.2.2.2.2)).bind fun y2=>(some y2))))
theorem s9i:t8t=t8l:=zC 256 rfl Tryz.func256 (by kernel_rfl)
def t3y(x:o1w):Option Bool:=zK 255 x
def t9g (x:o1w):Option Bool:=((t8t x).bind fun y1=>(some (decide (y1 >0))))
theorem r0z:t3y=t9g:=zC 255 rfl Tryz.func255 (by kernel_rfl)
def u1p(x:o4m):Option Int:=zK 10002 x
def u0r(g:o4c→Option s8a)(x:o4c):Option s8a:=(bif (decide (x.2.2.2<x.2.2.1)) then(bif (y4q x.2.2.2 x.1.length) then((t3y ((rdL u0i x.1 (x.2.2.2).toNat),x.2.1)).bind fun y1=>(bif y1 then(some (.inr x.2.2.2)) else(g (x.1,(x.2.1,(x.2.2.1,(IntKind.i64.wrap (x.2.2.2+1)))))))) else none) else(some (.inl ())))
def u0s:=lpW _ _ u0r
theorem u18 x:u0s x=u0r u0s x:=zW u17 10002 Tryz.f254 2 19 x (by kernel_rfl)
def u2g (x:o4m):Option Int:=((u0s (x.1,(x.2,((x.1.length:Int),0)))).bind fun r2=>match r2 with | .inl o3=>(some (-1:Int)) | .inr z4=>(some z4))
theorem u62:u1p=u2g:=zC 10002 rfl Tryz.func254 (by kernel_rfl)
def t1q(x:o2c):Option q7n:=zK 120 x
def u79(g:o4l→Option p8z)(x:o4l):Option p8z:=(bif (decide (x.2.2.2.2<x.2.2.2.1)) then(bif (y4q x.2.2.2.2 x.2.2.1.length) then((u1p (x.2.1,((rdL u2f x.2.2.1 (x.2.2.2.2).toNat).1,((rdL u2f x.2.2.1 (x.2.2.2.2).toNat).2.1,((rdL u2f x.2.2.1 (x.2.2.2.2).toNat).2.2,x.1))))).bind fun y1=>(bif (decide (y1<0)) then((u3n (x.2.1,((x.2.1.length:Int),([((rdL u2f x.2.2.1 (x.2.2.2.2).toNat).1,((rdL u2f x.2.2.1 (x.2.2.2.2).toNat).2.1,((rdL u2f x.2.2.1 (x.2.2.2.2).toNat).2.2,x.1)))] :List u0i.den)))).bind fun y2=>(g (x.1,(y2,(x.2.2.1,(x.2.2.2.1,(IntKind.i64.wrap (x.2.2.2.2+1)))))))) else((u3n (x.2.1,(y1,([((rdL u2f x.2.2.1 (x.2.2.2.2).toNat).1,((rdL u2f x.2.2.1 (x.2.2.2.2).toNat).2.1,((rdL u2f x.2.2.1 (x.2.2.2.2).toNat).2.2,x.1)))] :List u0i.den)))).bind fun y3=>(g (x.1,(y3,(x.2.2.1,(x.2.2.2.1,(IntKind.i64.wrap (x.2.2.2.2+1)))))))))) else none) else(some (.inl x.2.1)))
def u8d:=lpW _ _ u79
theorem t9q x:u8d x=u79 u8d x:=zW t9l 120 Tryz.f120 3 42 x (by kernel_rfl)
def s1l (x:o2c):Option q7n:=(bif (Nat.ble x.1.length z7w) then((u8d (x.2.2,(x.1,(x.2.1,((x.2.1.length:Int),0))))).bind fun r4=>match r4 with | .inl o5=>(some o5) | .inr z6=>none) else none)
theorem r5g:t1q=s1l:=zC 120 rfl Tryz.func120 (by kernel_rfl)
def u7f(x:Z56):Option Bool:=zK 279 x
def r8u (x:Z56):Option Bool:=(some (decide (x.1.1=x.2.1)))
theorem r81:u7f=r8u:=zC 279 rfl Tryz.func279 (by kernel_rfl)
def u43(x:Z84):Option Int:=zK 10007 x
def u3t(g:Z73→Option s8a)(x:Z73):Option s8a:=(bif (decide (x.2.2.2<x.2.2.1)) then(bif (y4q x.2.2.2 x.1.length) then((u7f ((rdL u0a x.1 (x.2.2.2).toNat),x.2.1)).bind fun y1=>(bif y1 then(some (.inr x.2.2.2)) else(g (x.1,(x.2.1,(x.2.2.1,(IntKind.i64.wrap (x.2.2.2+1)))))))) else none) else(some (.inl ())))
def u1a:=lpW _ _ u3t
theorem u9b x:u1a x=u3t u1a x:=zW u31 10007 Tryz.f148 2 19 x (by kernel_rfl)
def u4w (x:Z84):Option Int:=((u1a (x.1,(x.2,((x.1.length:Int),0)))).bind fun r2=>match r2 with | .inl o3=>(some (-1:Int)) | .inr z4=>(some z4))
theorem t0y:u43=u4w:=zC 10007 rfl Tryz.func148 (by kernel_rfl)
def u1h(x:Z84):Option r57:=zK 10006 x
def u3a(g:Z73→Option p80)(x:Z73):Option p80:=(bif (decide (x.2.2.2<(x.1.length:Int))) then(bif (y4q x.2.2.2 x.1.length) then((u7f ((rdL u0a x.1 (x.2.2.2).toNat),x.2.1)).bind fun y2=>(bif (!y2) then(bif (y4q x.2.2.1 x.1.length) then(g ((x.1.set (x.2.2.1).toNat (rdL u0a x.1 (x.2.2.2).toNat)),(x.2.1,((IntKind.i64.wrap (x.2.2.1+1)),(IntKind.i64.wrap (x.2.2.2+1)))))) else none) else(g (x.1,(x.2.1,(x.2.2.1,(IntKind.i64.wrap (x.2.2.2+1)))))))) else none) else(some (.inl (x.1,x.2.2.1))))
def u00:=lpW _ _ u3a
theorem u82 x:u00 x=u3a u00 x:=zW u3g 10006 Tryz.f236 5 42 x (by kernel_rfl)
def u4e (x:Z84):Option r57:=((u43 x).bind fun y1=>(bif (decide (y1=(-1:Int))) then(some x.1) else((u00 (x.1,(x.2,(y1,(IntKind.i64.wrap (y1+1)))))).bind fun r3=>match r3 with | .inl o4=>(bif (decide (0≤o4.2)&&decide (o4.2≤(o4.1.length:Int))&&decide ((o4.1.length:Int)≤(o4.1.length:Int))) then(bif (decide (0≤(0:Int))&&decide ((0:Int)≤o4.2)&&decide (o4.2≤((o4.1.take (o4.2).toNat++List.replicate (((o4.1.length:Int)).toNat - (o4.2).toNat) (u0a).zero++o4.1.drop ((o4.2).toNat+(((o4.1.length:Int)).toNat - (o4.2).toNat))).length:Int))) then(some ((o4.1.take (o4.2).toNat++List.replicate (((o4.1.length:Int)).toNat - (o4.2).toNat) (u0a).zero++o4.1.drop ((o4.2).toNat+(((o4.1.length:Int)).toNat - (o4.2).toNat))).take ((o4.2).toNat - ((0:Int)).toNat))) else none) else none) | .inr z5=>none)))
theorem u9r:u1h=u4e:=zC 10006 rfl Tryz.func236 (by kernel_rfl)
def t37(x:Z46):Option Z99:=zK 150 x
def t4f(g:Z8→Option (Z11⊕Unit))(x:Z8):Option (Z11⊕Unit):=(bif (decide (x.2.2.2.2.2.2<x.2.2.2.2.2.1)) then(bif (y4q x.2.2.2.2.2.2 x.2.2.1.2.2.1.length) then(bif (rdL u0a x.2.2.1.2.2.1 (x.2.2.2.2.2.2).toNat).2.2.2.2.2.2.1 then(bif (y4q x.2.2.2.2.2.2 x.2.2.1.2.2.1.length) then(g (x.1,(x.2.1,((x.2.2.1.1,(x.2.2.1.2.1,((x.2.2.1.2.2.1.set (x.2.2.2.2.2.2).toNat ((rdL u0a x.2.2.1.2.2.1 (x.2.2.2.2.2.2).toNat).1,((rdL u0a x.2.2.1.2.2.1 (x.2.2.2.2.2.2).toNat).2.1,((rdL u0a x.2.2.1.2.2.1 (x.2.2.2.2.2.2).toNat).2.2.1,((rdL u0a x.2.2.1.2.2.1 (x.2.2.2.2.2.2).toNat).2.2.2.1,((rdL u0a x.2.2.1.2.2.1 (x.2.2.2.2.2.2).toNat).2.2.2.2.1,((rdL u0a x.2.2.1.2.2.1 (x.2.2.2.2.2.2).toNat).2.2.2.2.2.1,(true,(rdL u0a x.2.2.1.2.2.1 (x.2.2.2.2.2.2).toNat).2.2.2.2.2.2.2)))))))),x.2.2.1.2.2.2))),(x.2.2.2.1,((),(x.2.2.2.2.2.1,(IntKind.i64.wrap (x.2.2.2.2.2.2+1))))))))) else none) else((u3j ((rdL u0a x.2.2.1.2.2.1 (x.2.2.2.2.2.2).toNat),x.2.2.2.1)).bind fun y5=>(bif (y4q x.2.2.2.2.2.2 x.2.2.1.2.2.1.length) then(g (x.1,(x.2.1,((x.2.2.1.1,(x.2.2.1.2.1,((x.2.2.1.2.2.1.set (x.2.2.2.2.2.2).toNat ((rdL u0a x.2.2.1.2.2.1 (x.2.2.2.2.2.2).toNat).1,((rdL u0a x.2.2.1.2.2.1 (x.2.2.2.2.2.2).toNat).2.1,((rdL u0a x.2.2.1.2.2.1 (x.2.2.2.2.2.2).toNat).2.2.1,((rdL u0a x.2.2.1.2.2.1 (x.2.2.2.2.2.2).toNat).2.2.2.1,((rdL u0a x.2.2.1.2.2.1 (x.2.2.2.2.2.2).toNat).2.2.2.2.1,((rdL u0a x.2.2.1.2.2.1 (x.2.2.2.2.2.2).toNat).2.2.2.2.2.1,(y5,(rdL u0a x.2.2.1.2.2.1 (x.2.2.2.2.2.2).toNat).2.2.2.2.2.2.2)))))))),x.2.2.1.2.2.2))),(x.2.2.2.1,((),(x.2.2.2.2.2.1,(IntKind.i64.wrap (x.2.2.2.2.2.2+1))))))))) else none))) else none) else(some (.inl (x.1,(x.2.1,(x.2.2.1,x.2.2.2.1))))))
def u67:=lpW _ _ t4f
theorem s7a x:u67 x=t4f u67 x:=zW s6f 150 Tryz.f150 9 80 x (by kernel_rfl)
def r1e (x:Z46):Option Z99:=((u6x x.1).bind fun y1=>((u36 x.2).bind fun y2=>(bif x.2.2.2.2.2.2.2.1 then((t1q (x.1.1,(x.2.2.2.2.2.2.1,(IntKind.i64.wrap (y1.2.2.2.1+1))))).bind fun y3=>((u1h (y1.2.2.1,x.2)).bind fun y4=>((u67 (x.2,((([] :List u0i.den),(([] :List u0a.den),(([] :List u0a.den),(0,0)))),((y3,(y1.2.1,(y4,((IntKind.i64.wrap (y1.2.2.2.1+1)),y1.2.2.2.2)))),((y2.1,(3,(y2.2.2.1,((IntKind.i64.wrap (x.1.2.2.2.1+1)),(y2.2.2.2.2.1,(y2.2.2.2.2.2.1,(true,(⟨#[]⟩:ByteArray)))))))),((),((y4.length:Int),0))))))).bind fun r6=>match r6 with | .inl o7=>(bif (Nat.ble (o7.2.2.1.2.1.length+([o7.2.2.2] :List u0a.den).length) z7w) then(some (o7.2.2.1.1,((o7.2.2.1.2.1++([o7.2.2.2] :List u0a.den)),(o7.2.2.1.2.2.1,(o7.2.2.1.2.2.2.1,(y8h o7.2.2.1.2.2.2.2 (IntKind.i64.wrap (o7.1.1+1)))))))) else none) | .inr z8=>none))) else((t8s (x.2,x.1.2.1)).bind fun y9=>((t1q (x.1.1,(x.2.2.2.2.2.2.1,(IntKind.i64.wrap (y1.2.2.2.1+1))))).bind fun y10=>((u1h (y1.2.2.1,x.2)).bind fun y11=>((u67 (x.2,((([] :List u0i.den),(([] :List u0a.den),(([] :List u0a.den),(0,0)))),((y10,(y1.2.1,(y11,((IntKind.i64.wrap (y1.2.2.2.1+1)),y1.2.2.2.2)))),((y2.1,(3,(y2.2.2.1,((IntKind.i64.wrap (x.1.2.2.2.1+1)),(y2.2.2.2.2.1,(y2.2.2.2.2.2.1,(y9,(⟨#[]⟩:ByteArray)))))))),((),((y11.length:Int),0))))))).bind fun r13=>match r13 with | .inl o14=>(bif (Nat.ble (o14.2.2.1.2.1.length+([o14.2.2.2] :List u0a.den).length) z7w) then(some (o14.2.2.1.1,((o14.2.2.1.2.1++([o14.2.2.2] :List u0a.den)),(o14.2.2.1.2.2.1,(o14.2.2.1.2.2.2.1,(y8h o14.2.2.1.2.2.2.2 (IntKind.i64.wrap (o14.1.1+1)))))))) else none) | .inr z15=>none)))))))
theorem q2q:t37=r1e:=zC 150 rfl Tryz.func150 (by kernel_rfl)
def s5i(x:Z69):Option Z13:=zK 43 x
def r4d (x:Z69):Option Z13:=((s12 x).bind fun y1=>(bif (!decide (y1=0)) then((t2g x).bind fun y2=>(some (y2.1,((0,((0,(0,(0,(0,(([] :List q5p.den),(([] :List u2f.den),(false,(⟨#[]⟩:ByteArray)))))))),((⟨#[]⟩:ByteArray),(false,(([] :List u0i.den),(([] :List u0a.den),(([] :List u0a.den),(0,0)))))))),y1)))) else((t3h x).bind fun y3=>(bif (y4q y3 x.1.2.length) then((u6k x).bind fun y4=>((t37 (y4.1,(rdL u0a x.1.2 (y3).toNat))).bind fun y5=>(bif (y4q (IntKind.i64.wrap ((y5.2.1.length:Int) - (1:Int))) y5.2.1.length) then((u36 (rdL u0a y5.2.1 ((IntKind.i64.wrap ((y5.2.1.length:Int) - (1:Int)))).toNat)).bind fun y6=>((u5r (y5,y4.2)).bind fun y7=>(some ((y7,y4.2),((1,(y6,((⟨#[]⟩:ByteArray),(false,(([] :List u0i.den),(([] :List u0a.den),(([] :List u0a.den),(0,0)))))))),0))))) else none))) else none))))
theorem q51:s5i=r4d:=zC 43 rfl Tryz.func43 (by kernel_rfl)
def u7d(x:p62):Option Bool:=zK 280 x
def r8t (x:p62):Option Bool:=(some (z7o x.1.2.2.2.2.2.2.2 x.2))
theorem r8y:u7d=r8t:=zC 280 rfl Tryz.func280 (by kernel_rfl)
def u41(x:o0c):Option Int:=zK 10009 x
def u3r(g:o0a→Option s8a)(x:o0a):Option s8a:=(bif (decide (x.2.2.2<x.2.2.1)) then(bif (y4q x.2.2.2 x.1.length) then((u7d ((rdL u0a x.1 (x.2.2.2).toNat),x.2.1)).bind fun y1=>(bif y1 then(some (.inr x.2.2.2)) else(g (x.1,(x.2.1,(x.2.2.1,(IntKind.i64.wrap (x.2.2.2+1)))))))) else none) else(some (.inl ())))
def u08:=lpW _ _ u3r
theorem u89 x:u08 x=u3r u08 x:=zW u3z 10009 Tryz.f148 2 19 x (by kernel_rfl)
def u4u (x:o0c):Option Int:=((u08 (x.1,(x.2,((x.1.length:Int),0)))).bind fun r2=>match r2 with | .inl o3=>(some (-1:Int)) | .inr z4=>(some z4))
theorem t0w:u41=u4u:=zC 10009 rfl Tryz.func148 (by kernel_rfl)
def u1x(x:o0c):Option r57:=zK 10008 x
def u29(g:o0a→Option p80)(x:o0a):Option p80:=(bif (decide (x.2.2.2<(x.1.length:Int))) then(bif (y4q x.2.2.2 x.1.length) then((u7d ((rdL u0a x.1 (x.2.2.2).toNat),x.2.1)).bind fun y2=>(bif (!y2) then(bif (y4q x.2.2.1 x.1.length) then(g ((x.1.set (x.2.2.1).toNat (rdL u0a x.1 (x.2.2.2).toNat)),(x.2.1,((IntKind.i64.wrap (x.2.2.1+1)),(IntKind.i64.wrap (x.2.2.2+1)))))) else none) else(g (x.1,(x.2.1,(x.2.2.1,(IntKind.i64.wrap (x.2.2.2+1)))))))) else none) else(some (.inl (x.1,x.2.2.1))))
def u0z:=lpW _ _ u29
theorem u81 x:u0z x=u29 u0z x:=zW u3f 10008 Tryz.f236 5 42 x (by kernel_rfl)
def u4d (x:o0c):Option r57:=((u41 x).bind fun y1=>(bif (decide (y1=(-1:Int))) then(some x.1) else((u0z (x.1,(x.2,(y1,(IntKind.i64.wrap (y1+1)))))).bind fun r3=>match r3 with | .inl o4=>(bif (decide (0≤o4.2)&&decide (o4.2≤(o4.1.length:Int))&&decide ((o4.1.length:Int)≤(o4.1.length:Int))) then(bif (decide (0≤(0:Int))&&decide ((0:Int)≤o4.2)&&decide (o4.2≤((o4.1.take (o4.2).toNat++List.replicate (((o4.1.length:Int)).toNat - (o4.2).toNat) (u0a).zero++o4.1.drop ((o4.2).toNat+(((o4.1.length:Int)).toNat - (o4.2).toNat))).length:Int))) then(some ((o4.1.take (o4.2).toNat++List.replicate (((o4.1.length:Int)).toNat - (o4.2).toNat) (u0a).zero++o4.1.drop ((o4.2).toNat+(((o4.1.length:Int)).toNat - (o4.2).toNat))).take ((o4.2).toNat - ((0:Int)).toNat))) else none) else none) | .inr z5=>none)))
theorem u9q:u1x=u4d:=zC 10008 rfl Tryz.func236 (by kernel_rfl)
def s2p(x:Z90):Option Z99:=zK 152 x
def r09 (x:Z90):Option Z99:=((u6x x.1).bind fun y1=>((u1x (y1.2.2.1,x.2)).bind fun y2=>(some (y1.1,(y1.2.1,(y2,y1.2.2.2))))))
theorem q2l:s2p=r09:=zC 152 rfl Tryz.func152 (by kernel_rfl)
def u7r(x:Z61):Option Z13:=zK 44 x
def r4f (x:Z61):Option Z13:=((u3k x.1).bind fun y1=>((u1v (x.1.1,x.2.1)).bind fun y2=>(bif (decide (y2<0)) then(some (y1,((0,((0,(0,(0,(0,(([] :List q5p.den),(([] :List u2f.den),(false,(⟨#[]⟩:ByteArray)))))))),((⟨#[]⟩:ByteArray),(false,(([] :List u0i.den),(([] :List u0a.den),(([] :List u0a.den),(0,0)))))))),1))) else(((bif x.2.2 then((s5k x.1.1).bind fun y3=>(some y3)) else(some false)):Option Bool).bind fun j4=>(bif j4 then(some (y1,((0,((0,(0,(0,(0,(([] :List q5p.den),(([] :List u2f.den),(false,(⟨#[]⟩:ByteArray)))))))),((⟨#[]⟩:ByteArray),(false,(([] :List u0i.den),(([] :List u0a.den),(([] :List u0a.den),(0,0)))))))),3))) else(bif x.2.2 then(bif (y4q y2 x.1.1.2.2.1.length) then((t37 (x.1.1,(rdL u0a x.1.1.2.2.1 (y2).toNat))).bind fun y5=>((u5r (y5,x.1.2)).bind fun y6=>(some ((y6,y1.2),((3,((0,(0,(0,(0,(([] :List q5p.den),(([] :List u2f.den),(false,(⟨#[]⟩:ByteArray)))))))),(x.2.1,(x.2.2,(([] :List u0i.den),(([] :List u0a.den),(([] :List u0a.den),(0,0)))))))),0))))) else none) else((s2p (x.1.1,x.2.1)).bind fun y7=>((u5r (y7,x.1.2)).bind fun y8=>(some ((y8,y1.2),((3,((0,(0,(0,(0,(([] :List q5p.den),(([] :List u2f.den),(false,(⟨#[]⟩:ByteArray)))))))),(x.2.1,(x.2.2,(([] :List u0i.den),(([] :List u0a.den),(([] :List u0a.den),(0,0)))))))),0)))))))))))
theorem q53:u7r=r4f:=zC 44 rfl Tryz.func44 (by kernel_rfl)
def t86(x:(p4s×p4s)):Option Bool:=zK 45 x
def t1f(g:o44→Option r8k)(x:o44):Option r8k:=(bif (decide (x.2.2<(x.1.length:Int))) then(bif (y4q x.2.2 x.1.length) then(bif (y4q x.2.2 x.2.1.length) then(bif (!(z7o (rdL q5p x.1 (x.2.2).toNat).1 (rdL q5p x.2.1 (x.2.2).toNat).1&&(z7o (rdL q5p x.1 (x.2.2).toNat).2 (rdL q5p x.2.1 (x.2.2).toNat).2&&true))) then(some (.inr false)) else(g (x.1,(x.2.1,(IntKind.i64.wrap (x.2.2+1)))))) else none) else none) else(some (.inl ())))
def t1m:=lpW _ _ t1f
theorem s2c x:t1m x=t1f t1m x:=zW s1v 45 Tryz.f45 4 26 x (by kernel_rfl)
def s50 (x:(p4s×p4s)):Option Bool:=(bif (!decide ((x.1.length:Int)=(x.2.length:Int))) then(some false) else((t1m (x.1,(x.2,0))).bind fun r1=>match r1 with | .inl o2=>(some true) | .inr z3=>(some z3)))
theorem r84:t86=s50:=zC 45 rfl Tryz.func45 (by kernel_rfl)
def t6w(x:o4u):Option p4s:=zK 46 x
def t56(g:o4g→Option (p4s⊕Unit))(x:o4g):Option (p4s⊕Unit):=(bif (decide (x.2.2.2.2<(x.2.2.2.1.length:Int))) then(bif (y4q x.2.2.2.2 x.2.2.2.1.length) then((t94 (x.1,((rdL Ty.str x.2.2.2.1 (x.2.2.2.2).toNat),x.2.1))).bind fun y2=>(bif y2.2 then(bif (y4q x.2.2.2.2 x.2.2.2.1.length) then(bif (Nat.ble (x.2.2.1.length+([((rdL Ty.str x.2.2.2.1 (x.2.2.2.2).toNat),y2.1)] :List q5p.den).length) z7w) then(g (x.1,(x.2.1,((x.2.2.1++([((rdL Ty.str x.2.2.2.1 (x.2.2.2.2).toNat),y2.1)] :List q5p.den)),(x.2.2.2.1,(IntKind.i64.wrap (x.2.2.2.2+1))))))) else none) else none) else(g (x.1,(x.2.1,(x.2.2.1,(x.2.2.2.1,(IntKind.i64.wrap (x.2.2.2.2+1))))))))) else none) else(some (.inl x.2.2.1)))
def t6d:=lpW _ _ t56
theorem r0i x:t6d x=t56 t6d x:=zW s9r 46 Tryz.f46 4 43 x (by kernel_rfl)
def r4x (x:o4u):Option p4s:=((t8f (x.1,x.2.1)).bind fun y1=>((t6d (x.1,(x.2.2,(([] :List q5p.den),(y1,0))))).bind fun r3=>match r3 with | .inl o4=>(some o4) | .inr z5=>none))
theorem q6l:t6w=r4x:=zC 46 rfl Tryz.func46 (by kernel_rfl)
def r0q(x:Unit):Option o0h:=zK 47 x
def p3c (x:Unit):Option o0h:=(some ((⟨#[97]⟩:ByteArray),(⟨#[122,122,122]⟩:ByteArray)))
theorem p3k:r0q=p3c:=zC 47 rfl Tryz.func47 (by kernel_rfl)
def s4b(x:q7j):Option Bool:=zK 6 x
def u9h(g:Z1→Option (Z14⊕Unit))(x:Z1):Option (Z14⊕Unit):=(bif (decide (x.2.2.2.2<(x.1.2.length:Int))) then(bif (y4q x.2.2.2.2 x.1.2.length) then(bif (!decide ((rdL u0a x.1.2 (x.2.2.2.2).toNat).1=x.2.1)) then(bif (y4q x.2.2.2.2 x.1.2.length) then((s5i (x.2.2.1,(rdL u0a x.1.2 (x.2.2.2.2).toNat).1)).bind fun y6=>(g (x.1,(x.2.1,(y6.1,(x.2.2.2.1,(IntKind.i64.wrap (x.2.2.2.2+1)))))))) else none) else(g (x.1,(x.2.1,(x.2.2.1,(x.2.2.2.1,(IntKind.i64.wrap (x.2.2.2.2+1)))))))) else none) else(some (.inl (x.2.2.1,x.2.2.2.1))))
def u6u:=lpW _ _ u9h
theorem s04 x:u6u x=u9h u6u x:=zW s0g 6 Tryz.f6 8 178 x (by kernel_rfl)
def s3d (x:q7j):Option Bool:=((q4y x).bind fun y1=>(bif y1 then(some true) else((t7h x).bind fun y2=>((t36 (y2.1,(y2.2,(⟨#[122,122]⟩:ByteArray)))).bind fun y3=>(bif (!decide (y3.2.2=0)) then((((u1v (y3.1.1,(⟨#[122,122]⟩:ByteArray))).bind fun y4=>(bif (decide (y4=(-1:Int))) then(bif (decide (y3.2.1.1=0)) then(some (decide (y3.1.1.2.2.2.1=y2.1.1.2.2.2.1))) else(some false)) else(some false))):Option Bool).bind fun j5=>(some j5)) else((u6u (y2.1,(y2.2,(y3.1,(y3.2.1,0))))).bind fun r7=>match r7 with | .inl o8=>((u7r (o8.1,((⟨#[122,122]⟩:ByteArray),true))).bind fun y9=>((u7r (o8.1,((⟨#[122,122]⟩:ByteArray),false))).bind fun y10=>((u7r (y10.1,((⟨#[122,122]⟩:ByteArray),true))).bind fun y11=>(bif (decide (y9.2.2=3)) then(((bif (decide ((o8.1.1.2.1.length:Int)≥(12:Int))) then(some true) else(some (decide ((o8.1.1.1.length:Int) >(100:Int))))):Option Bool).bind fun j12=>(some j12)) else(((bif (decide (o8.2.1=2)) then(bif (decide (y9.2.2=0)) then(bif (decide (y9.1.1.2.2.2.1=(IntKind.i64.wrap (o8.1.1.2.2.2.1+1)))) then(bif y9.2.1.2.2.2.1 then(bif (z7o y9.2.1.2.2.1 (⟨#[122,122]⟩:ByteArray)) then(bif (decide (y10.2.2=0)) then(bif (!y10.2.1.2.2.2.1) then(bif (decide (y10.1.1.2.2.2.1=o8.1.1.2.2.2.1)) then(bif (decide (y11.2.2=1)) then((r0q ()).bind fun y13=>((t6w (y10.1.1.1,(y13,y10.1.1.2.2.2.1))).bind fun y14=>((r0q ()).bind fun y15=>((t6w (o8.1.1.1,(y15,o8.1.1.2.2.2.1))).bind fun y16=>((t86 (y14,y16)).bind fun y17=>(some y17)))))) else(some false)) else(some false)) else(some false)) else(some false)) else(some false)) else(some false)) else(some false)) else(some false)) else(some false)):Option Bool).bind fun j18=>(some j18)))))) | .inr z19=>none))))))
theorem r6k:s4b=s3d:=zC 6 rfl Tryz.func6 (by kernel_rfl)
end
end Go.Proofs.YtbkicjpdlchbgaaGreat.Ab
