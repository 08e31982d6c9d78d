import Derived.Test.YtbkicjpdlchbgaaGreatAbPlayedG1
namespace Go.Proofs.YtbkicjpdlchbgaaGreat.Ab
open Go
set_option linter.unusedVariables false
noncomputable section
set_option maxRecDepth 100000
def t1g(x:q8x):Option Int:=zK 346 x
def s9m (x:q8x):Option Int:=((u0r (x.2,(0,1))).bind fun y1=>(bif (!y1) then(some (0:Int)) else((u5g x.2).bind fun y2=>((t1j (x.1,y2)).bind fun y3=>(some y3)))))
theorem q1b:t1g=s9m:=zC 346 rfl Tryz.func346 (by kernel_rfl)
def u6p(x:q8x):Option (p18×p53):=zK 227 x
def u8z(g:Z91→Option ((p18×Int)⊕(p18×p53)))(x:Z91):Option ((p18×Int)⊕(p18×p53)):=((t1g (x.2.1,x.1)).bind fun y4=>(bif (decide (x.2.2.2.2.2.2<y4)) then((t2s (x.2.2.2.1,x.2.2.2.2.2.1)).bind fun y5=>(((bif (!y5.2.2) then(some true) else(some (z7o y5.1 (⟨#[]⟩:ByteArray)))):Option Bool).bind fun j6=>(bif j6 then(some (.inr (x.2.2.1,(0,false)))) else(bif (Nat.ble (x.2.2.2.2.1.length+([y5.1] :List ByteArray).length) z7w) then(g (x.1,(x.2.1,(x.2.2.1,(x.2.2.2.1,((x.2.2.2.2.1++([y5.1] :List ByteArray)),(y5.2.1,(IntKind.i64.wrap (x.2.2.2.2.2.2+1))))))))) else none)))) else(some (.inl (x.2.2.2.2.1,x.2.2.2.2.2.1)))))
def u84:=lpW _ _ u8z
theorem s0c x:u84 x=u8z u84 x:=zW t9q 227 Tryz.f227 10 61 x (by kernel_rfl)
def s6y (x:q8x):Option (p18×p53):=((u0r (x.2,(0,1))).bind fun y1=>(bif (!y1) then(some (([] :List ByteArray),(0,false))) else((u5g x.2).bind fun y2=>((t42 (x.1,((IntKind.i64.wrap (y2+1)),47))).bind fun y3=>(bif (!y3.2) then(some (([] :List ByteArray),(0,false))) else((u84 (x.2,(x.1,(([] :List ByteArray),(y3.1,(([] :List ByteArray),(0,0))))))).bind fun r7=>match r7 with | .inl o8=>(some (o8.1,(o8.2,true))) | .inr z9=>(some z9)))))))
theorem r87:u6p=s6y:=zC 227 rfl Tryz.func227 (by kernel_rfl)
def u9v(x:t84):Option Int:=zK 228 x
def s6q (x:t84):Option Int:=((t1j (x,0)).bind fun y1=>(some (Int.tmod y1 (2:Int))))
theorem r8z:u9v=s6q:=zC 228 rfl Tryz.func228 (by kernel_rfl)
def t8h(x:t84):Option p18:=zK 91 x
def s6v (x:t84):Option p18:=((u9v x).bind fun y1=>((u6p (x,y1)).bind fun y2=>(some y2.1)))
theorem r84:t8h=s6v:=zC 91 rfl Tryz.func91 (by kernel_rfl)
def t5u(x:t84):Option Z84:=zK 88 x
def t13(g:Z24→Option (Z31⊕Z84))(x:Z24):Option (Z31⊕Z84):=(bif (decide (x.2.2.2<(x.2.2.1.length:Int))) then(bif (y4q x.2.2.2 x.2.2.1.length) then((t41 (rdL Ty.str x.2.2.1 (x.2.2.2).toNat)).bind fun y3=>((t7j (x.2.1,y3.1)).bind fun y4=>(((bif (!y3.2) then(some true) else(some (!y4.2))):Option Bool).bind fun j5=>(bif j5 then(some (.inr ((([] :List u0e.den),(([] :List u0a.den),(([] :List u0a.den),(0,0)))),false))) else(g (x.1,(y4.1,(x.2.2.1,(IntKind.i64.wrap (x.2.2.2+1)))))))))) else none) else(some (.inl (x.1,x.2.1))))
def u4f:=lpW _ _ t13
theorem s5r x:u4f x=t13 u4f x:=zW s4u 88 Tryz.f88 4 43 x (by kernel_rfl)
def s9r (x:t84):Option Z84:=((s0o ()).bind fun y1=>((t8h x).bind fun y2=>((u4f ((([] :List u0e.den),(([] :List u0a.den),(([] :List u0a.den),(0,0)))),(y1,(y2,0)))).bind fun r6=>match r6 with | .inl o7=>(some (o7.2,true)) | .inr z8=>(some z8))))
theorem q1g:t5u=s9r:=zC 88 rfl Tryz.func88 (by kernel_rfl)
def t0u(x:t84):Option Bool:=zK 329 x
def t3o(g:q8x→Option (t84⊕Bool))(x:q8x):Option (t84⊕Bool):=(bif (decide (x.2<(x.1.1.length:Int))) then(bif (y4q x.2 x.1.1.length) then(bif (!decide (((rdL Ty.str x.1.1 (x.2).toNat).size:Int)=(64:Int))) then(some (.inr false)) else(g (x.1,(IntKind.i64.wrap (x.2+1))))) else none) else(some (.inl x.1)))
def t3t:=lpW _ _ t3o
theorem s8f x:t3t x=t3o t3t x:=zW s7o 329 Tryz.f329 4 59 x (by kernel_rfl)
def t3p(g:q8x→Option r1i)(x:q8x):Option r1i:=(bif (decide (x.2<(x.1.2.length:Int))) then(((bif (y4q x.2 x.1.2.length) then((u0r ((rdL p14 x.1.2 (x.2).toNat).1,(0,(IntKind.i64.wrap ((x.1.1.length:Int) - (1:Int)))))).bind fun y5=>(bif (!y5) then(some true) else(bif (y4q x.2 x.1.2.length) then(some (!decide (((rdL p14 x.1.2 (x.2).toNat).2.size:Int)=(64:Int)))) else none))) else none):Option Bool).bind fun j6=>(bif j6 then(some (.inr false)) else(g (x.1,(IntKind.i64.wrap (x.2+1)))))) else(some (.inl ())))
def t3u:=lpW _ _ t3p
theorem s8g x:t3u x=t3p t3u x:=zW s7p 329 Tryz.f329 9 59 x (by kernel_rfl)
def r2p (x:t84):Option Bool:=((((u0r ((x.1.length:Int),(1,100))).bind fun y1=>(bif (!y1) then(some true) else(some (decide ((x.2.length:Int) >(60:Int)))))):Option Bool).bind fun j2=>(bif j2 then(some false) else((t3t (x,0)).bind fun r3=>match r3 with | .inl o4=>((t3u (o4,0)).bind fun r7=>match r7 with | .inl o8=>(some true) | .inr z9=>(some z9)) | .inr z10=>(some z10))))
theorem q4p:t0u=r2p:=zC 329 rfl Tryz.func329 (by kernel_rfl)
def t9z(x:t84):Option Bool:=zK 212 x
def r55 (x:t84):Option Bool:=((((t0u x).bind fun y1=>(bif (!y1) then(some true) else((u6s ()).bind fun y2=>(bif (!decide ((x.1.length:Int)=y2)) then(some true) else(some (decide ((x.2.length:Int) >(0:Int)))))))):Option Bool).bind fun j3=>(bif j3 then(some false) else((u6p (x,0)).bind fun y4=>((u6p (x,1)).bind fun y5=>(((bif y4.2.2 then(some y5.2.2) else(some false)):Option Bool).bind fun j6=>(some j6))))))
theorem q64:t9z=r55:=zC 212 rfl Tryz.func212 (by kernel_rfl)
def u5h(x:t84):Option t84:=zK 413 x
def u8x(g:Z83→Option (p7x⊕Unit))(x:Z83):Option (p7x⊕Unit):=(bif (decide (x.2.2.2<(x.1.2.length:Int))) then(bif (y4q x.2.2.2 x.1.2.length) then(bif (y4q x.2.2.2 x.1.2.length) then(bif (y4q (rdL p14 x.1.2 (x.2.2.2).toNat).1 x.2.2.1.1.length) then(g (x.1,(x.2.1,(((x.2.2.1.1.set ((rdL p14 x.1.2 (x.2.2.2).toNat).1).toNat (rdL p14 x.1.2 (x.2.2.2).toNat).2),x.2.2.1.2),(IntKind.i64.wrap (x.2.2.2+1)))))) else none) else none) else none) else(some (.inl (x.2.1,x.2.2.1))))
def u83:=lpW _ _ u8x
theorem s0a x:u83 x=u8x u83 x:=zW t9o 413 Tryz.f413 5 36 x (by kernel_rfl)
def s30 (x:t84):Option t84:=((u03 x).bind fun y1=>((t0u x).bind fun y2=>(bif (!y2) then(some y1) else((u83 (x,((([] :List ByteArray),([] :List p14.den)),(y1,0)))).bind fun r3=>match r3 with | .inl o4=>(some (o4.2.1,([] :List p14.den))) | .inr z5=>none))))
theorem r7b:u5h=s30:=zC 413 rfl Tryz.func413 (by kernel_rfl)
def u88(x:p6c):Option r4p:=zK 414 x
def t9e (x:p6c):Option r4p:=((u03 x.1).bind fun y1=>((((t0u x.1).bind fun y2=>(bif (!y2) then(some true) else((u0r (x.2.1,(0,(IntKind.i64.wrap ((x.1.1.length:Int) - (1:Int)))))).bind fun y3=>(bif (!y3) then(some true) else(bif (!decide ((x.2.2.size:Int)=(64:Int))) then(some true) else(some (decide ((x.1.2.length:Int)≥(60:Int))))))))):Option Bool).bind fun j4=>(bif j4 then(some (y1,false)) else(bif (Nat.ble (y1.2.length+([x.2] :List p14.den).length) z7w) then(some ((y1.1,(y1.2++([x.2] :List p14.den))),true)) else none))))
theorem r3p:u88=t9e:=zC 414 rfl Tryz.func414 (by kernel_rfl)
def u6r(x:o2c):Option r4p:=zK 411 x
def t2w(g:Z61→Option (p7x⊕r4p))(x:Z61):Option (p7x⊕r4p):=(bif (decide (x.2.2.2.2.2.2<(x.2.2.1.size:Int))) then(bif (decide ((IntKind.i64.wrap ((64:Int) - (Int.tmod (IntKind.i64.wrap (x.2.1+x.2.2.2.2.2.2)) (64:Int)))) >(IntKind.i64.wrap ((x.2.2.1.size:Int) - x.2.2.2.2.2.2)))) then((u4y (x.2.2.2.2.2.1,(IntKind.i64.wrap (x.1+(IntKind.i64.wrap (Int.tdiv (IntKind.i64.wrap (x.2.1+x.2.2.2.2.2.2)) (64:Int))))))).bind fun y6=>(((bif (!y6.2) then(some true) else(some (!decide ((y6.1.size:Int)=(64:Int))))):Option Bool).bind fun j7=>(bif j7 then((u03 x.2.2.2.1).bind fun y8=>(some (.inr (y8,false)))) else(bif (decide (0≤(0:Int))&&decide ((0:Int)≤(Int.tmod (IntKind.i64.wrap (x.2.1+x.2.2.2.2.2.2)) (64:Int)))&&decide ((Int.tmod (IntKind.i64.wrap (x.2.1+x.2.2.2.2.2.2)) (64:Int))≤(y6.1.size:Int))) then(bif (decide (0≤x.2.2.2.2.2.2)&&decide (x.2.2.2.2.2.2≤(IntKind.i64.wrap (x.2.2.2.2.2.2+(IntKind.i64.wrap ((x.2.2.1.size:Int) - x.2.2.2.2.2.2)))))&&decide ((IntKind.i64.wrap (x.2.2.2.2.2.2+(IntKind.i64.wrap ((x.2.2.1.size:Int) - x.2.2.2.2.2.2))))≤(x.2.2.1.size:Int))) then(bif (decide ((y6.1.extract ((0:Int)).toNat ((Int.tmod (IntKind.i64.wrap (x.2.1+x.2.2.2.2.2.2)) (64:Int))).toNat).size+(x.2.2.1.extract (x.2.2.2.2.2.2).toNat ((IntKind.i64.wrap (x.2.2.2.2.2.2+(IntKind.i64.wrap ((x.2.2.1.size:Int) - x.2.2.2.2.2.2))))).toNat).size≤140737488355328)) then(bif (decide (0≤(IntKind.i64.wrap ((Int.tmod (IntKind.i64.wrap (x.2.1+x.2.2.2.2.2.2)) (64:Int))+(IntKind.i64.wrap ((x.2.2.1.size:Int) - x.2.2.2.2.2.2)))))&&decide ((IntKind.i64.wrap ((Int.tmod (IntKind.i64.wrap (x.2.1+x.2.2.2.2.2.2)) (64:Int))+(IntKind.i64.wrap ((x.2.2.1.size:Int) - x.2.2.2.2.2.2))))≤(y6.1.size:Int))&&decide ((y6.1.size:Int)≤(y6.1.size:Int))) then(bif (decide (((y6.1.extract ((0:Int)).toNat ((Int.tmod (IntKind.i64.wrap (x.2.1+x.2.2.2.2.2.2)) (64:Int))).toNat)++(x.2.2.1.extract (x.2.2.2.2.2.2).toNat ((IntKind.i64.wrap (x.2.2.2.2.2.2+(IntKind.i64.wrap ((x.2.2.1.size:Int) - x.2.2.2.2.2.2))))).toNat)).size+(y6.1.extract ((IntKind.i64.wrap ((Int.tmod (IntKind.i64.wrap (x.2.1+x.2.2.2.2.2.2)) (64:Int))+(IntKind.i64.wrap ((x.2.2.1.size:Int) - x.2.2.2.2.2.2))))).toNat ((y6.1.size:Int)).toNat).size≤140737488355328)) then((u88 (x.2.2.2.2.2.1,((IntKind.i64.wrap (x.1+(IntKind.i64.wrap (Int.tdiv (IntKind.i64.wrap (x.2.1+x.2.2.2.2.2.2)) (64:Int))))),(((y6.1.extract ((0:Int)).toNat ((Int.tmod (IntKind.i64.wrap (x.2.1+x.2.2.2.2.2.2)) (64:Int))).toNat)++(x.2.2.1.extract (x.2.2.2.2.2.2).toNat ((IntKind.i64.wrap (x.2.2.2.2.2.2+(IntKind.i64.wrap ((x.2.2.1.size:Int) - x.2.2.2.2.2.2))))).toNat))++(y6.1.extract ((IntKind.i64.wrap ((Int.tmod (IntKind.i64.wrap (x.2.1+x.2.2.2.2.2.2)) (64:Int))+(IntKind.i64.wrap ((x.2.2.1.size:Int) - x.2.2.2.2.2.2))))).toNat ((y6.1.size:Int)).toNat))))).bind fun y9=>(bif (!y9.2) then((u03 x.2.2.2.1).bind fun y10=>(some (.inr (y10,false)))) else(g (x.1,(x.2.1,(x.2.2.1,(x.2.2.2.1,(x.2.2.2.2.1,(y9.1,(IntKind.i64.wrap (x.2.2.2.2.2.2+(IntKind.i64.wrap ((x.2.2.1.size:Int) - x.2.2.2.2.2.2))))))))))))) else none) else none) else none) else none) else none)))) else((u4y (x.2.2.2.2.2.1,(IntKind.i64.wrap (x.1+(IntKind.i64.wrap (Int.tdiv (IntKind.i64.wrap (x.2.1+x.2.2.2.2.2.2)) (64:Int))))))).bind fun y11=>(((bif (!y11.2) then(some true) else(some (!decide ((y11.1.size:Int)=(64:Int))))):Option Bool).bind fun j12=>(bif j12 then((u03 x.2.2.2.1).bind fun y13=>(some (.inr (y13,false)))) else(bif (decide (0≤(0:Int))&&decide ((0:Int)≤(Int.tmod (IntKind.i64.wrap (x.2.1+x.2.2.2.2.2.2)) (64:Int)))&&decide ((Int.tmod (IntKind.i64.wrap (x.2.1+x.2.2.2.2.2.2)) (64:Int))≤(y11.1.size:Int))) then(bif (decide (0≤x.2.2.2.2.2.2)&&decide (x.2.2.2.2.2.2≤(IntKind.i64.wrap (x.2.2.2.2.2.2+(IntKind.i64.wrap ((64:Int) - (Int.tmod (IntKind.i64.wrap (x.2.1+x.2.2.2.2.2.2)) (64:Int)))))))&&decide ((IntKind.i64.wrap (x.2.2.2.2.2.2+(IntKind.i64.wrap ((64:Int) - (Int.tmod (IntKind.i64.wrap (x.2.1+x.2.2.2.2.2.2)) (64:Int))))))≤(x.2.2.1.size:Int))) then(bif (decide ((y11.1.extract ((0:Int)).toNat ((Int.tmod (IntKind.i64.wrap (x.2.1+x.2.2.2.2.2.2)) (64:Int))).toNat).size+(x.2.2.1.extract (x.2.2.2.2.2.2).toNat ((IntKind.i64.wrap (x.2.2.2.2.2.2+(IntKind.i64.wrap ((64:Int) - (Int.tmod (IntKind.i64.wrap (x.2.1+x.2.2.2.2.2.2)) (64:Int))))))).toNat).size≤140737488355328)) then(bif (decide (0≤(IntKind.i64.wrap ((Int.tmod (IntKind.i64.wrap (x.2.1+x.2.2.2.2.2.2)) (64:Int))+(IntKind.i64.wrap ((64:Int) - (Int.tmod (IntKind.i64.wrap (x.2.1+x.2.2.2.2.2.2)) (64:Int)))))))&&decide ((IntKind.i64.wrap ((Int.tmod (IntKind.i64.wrap (x.2.1+x.2.2.2.2.2.2)) (64:Int))+(IntKind.i64.wrap ((64:Int) - (Int.tmod (IntKind.i64.wrap (x.2.1+x.2.2.2.2.2.2)) (64:Int))))))≤(y11.1.size:Int))&&decide ((y11.1.size:Int)≤(y11.1.size:Int))) then(bif (decide (((y11.1.extract ((0:Int)).toNat ((Int.tmod (IntKind.i64.wrap (x.2.1+x.2.2.2.2.2.2)) (64:Int))).toNat)++(x.2.2.1.extract (x.2.2.2.2.2.2).toNat ((IntKind.i64.wrap (x.2.2.2.2.2.2+(IntKind.i64.wrap ((64:Int) - (Int.tmod (IntKind.i64.wrap (x.2.1+x.2.2.2.2.2.2)) (64:Int))))))).toNat)).size+(y11.1.extract ((IntKind.i64.wrap ((Int.tmod (IntKind.i64.wrap (x.2.1+x.2.2.2.2.2.2)) (64:Int))+(IntKind.i64.wrap ((64:Int) - (Int.tmod (IntKind.i64.wrap (x.2.1+x.2.2.2.2.2.2)) (64:Int))))))).toNat ((y11.1.size:Int)).toNat).size≤140737488355328)) then((u88 (x.2.2.2.2.2.1,((IntKind.i64.wrap (x.1+(IntKind.i64.wrap (Int.tdiv (IntKind.i64.wrap (x.2.1+x.2.2.2.2.2.2)) (64:Int))))),(((y11.1.extract ((0:Int)).toNat ((Int.tmod (IntKind.i64.wrap (x.2.1+x.2.2.2.2.2.2)) (64:Int))).toNat)++(x.2.2.1.extract (x.2.2.2.2.2.2).toNat ((IntKind.i64.wrap (x.2.2.2.2.2.2+(IntKind.i64.wrap ((64:Int) - (Int.tmod (IntKind.i64.wrap (x.2.1+x.2.2.2.2.2.2)) (64:Int))))))).toNat))++(y11.1.extract ((IntKind.i64.wrap ((Int.tmod (IntKind.i64.wrap (x.2.1+x.2.2.2.2.2.2)) (64:Int))+(IntKind.i64.wrap ((64:Int) - (Int.tmod (IntKind.i64.wrap (x.2.1+x.2.2.2.2.2.2)) (64:Int))))))).toNat ((y11.1.size:Int)).toNat))))).bind fun y14=>(bif (!y14.2) then((u03 x.2.2.2.1).bind fun y15=>(some (.inr (y15,false)))) else(g (x.1,(x.2.1,(x.2.2.1,(x.2.2.2.1,(x.2.2.2.2.1,(y14.1,(IntKind.i64.wrap (x.2.2.2.2.2.2+(IntKind.i64.wrap ((64:Int) - (Int.tmod (IntKind.i64.wrap (x.2.1+x.2.2.2.2.2.2)) (64:Int))))))))))))))) else none) else none) else none) else none) else none))))) else(some (.inl (x.2.2.2.2.1,x.2.2.2.2.2.1))))
def u3y:=lpW _ _ t2w
theorem r19 x:u3y x=t2w u3y x:=zW t76 411 Tryz.f411 5 111 x (by kernel_rfl)
def s1e (x:o2c):Option r4p:=((u03 x.1).bind fun y1=>((((u0r (x.2.2.1,(0,6400))).bind fun y2=>(bif (!y2) then(some true) else((u0r (x.2.1,(0,(IntKind.i64.wrap ((x.1.1.length:Int) - (1:Int)))))).bind fun y3=>(bif (!y3) then(some true) else((t0u x.1).bind fun y4=>(some (!y4))))))):Option Bool).bind fun j5=>(bif j5 then(some (y1,false)) else((u3y (x.2.1,(x.2.2.1,(x.2.2.2,(x.1,((([] :List ByteArray),([] :List p14.den)),(y1,0))))))).bind fun r16=>match r16 with | .inl o17=>(some (o17.2,true)) | .inr z18=>(some z18)))))
theorem r46:u6r=s1e:=zC 411 rfl Tryz.func411 (by kernel_rfl)
def t4h(x:Int):Option ByteArray:=zK 412 x
def q37 (x:Int):Option ByteArray:=(some (y7g ([(IntKind.u8.wrap x)] :List Int)))
theorem r3q:t4h=q37:=zC 412 rfl Tryz.func412 (by kernel_rfl)
def t4g(x:p92):Option r4p:=zK 432 x
def s69 (x:p92):Option r4p:=((u5g x.2.1).bind fun y1=>((t4h x.2.2).bind fun y2=>((u6r (x.1,(y1,(0,y2)))).bind fun y3=>(some y3))))
theorem r9h:t4g=s69:=zC 432 rfl Tryz.func432 (by kernel_rfl)
def t8n(x:p6c):Option r4p:=zK 430 x
def s68 (x:p6c):Option r4p:=((u6p (x.1,x.2.1)).bind fun y1=>(((bif (!y1.2.2) then(some true) else(bif (z7o x.2.2 (⟨#[]⟩:ByteArray)) then(some true) else(bif (decide ((x.2.2.size:Int) >(3008:Int))) then(some true) else((t1g (x.1,x.2.1)).bind fun y2=>(some (decide (y2≥255))))))):Option Bool).bind fun j3=>(bif j3 then((u03 x.1).bind fun y4=>(some (y4,false))) else((u1j (x.2.2.size:Int)).bind fun y5=>(bif (decide (y5.size+x.2.2.size≤140737488355328)) then(bif (decide (((y5++x.2.2).size:Int) >(IntKind.i64.wrap ((3008:Int) - y1.2.1)))) then((u03 x.1).bind fun y6=>(some (y6,false))) else((u5g x.2.1).bind fun y7=>((u6r (x.1,((IntKind.i64.wrap (y7+1)),(y1.2.1,(y5++x.2.2))))).bind fun y8=>(some y8)))) else none)))))
theorem r9g:t8n=s68:=zC 430 rfl Tryz.func430 (by kernel_rfl)
def t7k(x:p6c):Option r4p:=zK 463 x
def r22 (x:p6c):Option r4p:=((t8n x).bind fun y1=>(bif (!y1.2) then(some (y1.1,false)) else((u5h y1.1).bind fun y2=>((t1g (x.1,x.2.1)).bind fun y3=>((t4g (y2,(x.2.1,(IntKind.i64.wrap (y3+1))))).bind fun y4=>((u5h y4.1).bind fun y5=>(some (y5,y4.2))))))))
theorem q42:t7k=r22:=zC 463 rfl Tryz.func463 (by kernel_rfl)
def s0w(x:p9z):Option r4p:=zK 415 x
def u7r(g:Z85→Option (o1w⊕Unit))(x:Z85):Option (o1w⊕Unit):=(((bif (decide (x.2.2.2.2.2<(x.1.length:Int))) then(some x.2.2.2.2.1) else(some false)):Option Bool).bind fun j4=>(bif j4 then(bif (y4q x.2.2.2.2.2 x.1.length) then((t7k (x.2.2.2.1,(x.2.2.1,(rdL Ty.str x.1 (x.2.2.2.2.2).toNat)))).bind fun y5=>(g (x.1,(x.2.1,(x.2.2.1,(y5.1,(y5.2,(IntKind.i64.wrap (x.2.2.2.2.2+1))))))))) else none) else(some (.inl (x.2.1,(x.2.2.2.1,x.2.2.2.2.1))))))
def u78:=lpW _ _ u7r
theorem t6x x:u78 x=u7r u78 x:=zW s45 415 Tryz.f415 5 42 x (by kernel_rfl)
def r0a (x:p9z):Option r4p:=((u9v x.1).bind fun y1=>((t4g (x.1,((IntKind.i64.wrap ((1:Int) - y1)),0))).bind fun y2=>((u5h y2.1).bind fun y3=>((u78 (x.2,((([] :List ByteArray),([] :List p14.den)),((IntKind.i64.wrap ((1:Int) - y1)),(y3,(y2.2,0)))))).bind fun r6=>match r6 with | .inl o7=>(some o7.2) | .inr z8=>none))))
theorem q1y:s0w=r0a:=zC 415 rfl Tryz.func415 (by kernel_rfl)
def s0x(x:t84):Option r4p:=zK 416 x
def r0b (x:t84):Option r4p:=((t1j (x,0)).bind fun y1=>((t4h (IntKind.i64.wrap (y1+1))).bind fun y2=>((u6r (x,(0,(0,y2)))).bind fun y3=>(some y3))))
theorem q1z:s0x=r0b:=zC 416 rfl Tryz.func416 (by kernel_rfl)
def t6s(x:p9z):Option r4p:=zK 343 x
def s35 (x:p9z):Option r4p:=((t9z x.1).bind fun y1=>(bif (!y1) then((u03 x.1).bind fun y2=>(some (y2,false))) else((s0w x).bind fun y3=>(bif (!y3.2) then((u03 x.1).bind fun y4=>(some (y4,false))) else((s0x y3.1).bind fun y5=>(bif (!y5.2) then((u03 x.1).bind fun y6=>(some (y6,false))) else((u5h y5.1).bind fun y7=>(some (y7,true)))))))))
theorem r7g:t6s=s35:=zC 343 rfl Tryz.func343 (by kernel_rfl)
def t4m(x:t84):Option r4p:=zK 226 x
def s7c (x:t84):Option r4p:=((t5u x).bind fun y1=>((u2r (4,((0,(0,(0,(0,(([] :List q2t.den),(([] :List u1x.den),(false,(⟨#[]⟩:ByteArray)))))))),((⟨#[]⟩:ByteArray),(false,y1.1))))).bind fun y2=>(((bif (!y1.2) then(some true) else(some (!y2.2))):Option Bool).bind fun j3=>(bif j3 then((u03 x).bind fun y4=>(some (y4,false))) else((t6s (x,([y2.1] :List ByteArray))).bind fun y5=>(some y5))))))
theorem r9k:t4m=s7c:=zC 226 rfl Tryz.func226 (by kernel_rfl)
def u6o(x:Z46):Option Z41:=zK 90 x
def s6u (x:Z46):Option Z41:=((s00 x).bind fun y1=>((t4m x.2).bind fun y2=>(bif y2.2 then(some ((y1.1,y2.1),y2.2)) else(some (y1,y2.2)))))
theorem r83:u6o=s6u:=zC 90 rfl Tryz.func90 (by kernel_rfl)
def u1m(x:o2z):Option p96:=zK 245 x
def s95 (x:o2z):Option p96:=((u0j (x.1,(x.2.length:Int))).bind fun y1=>(bif (y4q y1.1 x.2.length) then(some ((rdL Ty.str x.2 (y1.1).toNat),y1.2)) else none))
theorem q1u:u1m=s95:=zC 245 rfl Tryz.func245 (by kernel_rfl)
def u1l(x:p77):Option (Bool×s2v):=zK 247 x
def s94 (x:p77):Option (Bool×s2v):=((u0j x).bind fun y1=>(some ((decide (y1.1=0)),y1.2)))
theorem q1t:u1l=s94:=zC 247 rfl Tryz.func247 (by kernel_rfl)
def u3e(x:s2v):Option p96:=zK 351 x
def s25 (x:s2v):Option p96:=((u1m (x,([(⟨#[97]⟩:ByteArray),(⟨#[98]⟩:ByteArray),(⟨#[99]⟩:ByteArray),(⟨#[100]⟩:ByteArray),(⟨#[97,98]⟩:ByteArray)] :List ByteArray))).bind fun y1=>(some y1))
theorem r3r:u3e=s25:=zC 351 rfl Tryz.func351 (by kernel_rfl)
def u3f(x:s2v):Option p9v:=zK 322 x
def t7v (x:s2v):Option p9v:=((u3e x).bind fun y1=>((u1m (y1.2,([(⟨#[111,110,101]⟩:ByteArray),(⟨#[116,119,111]⟩:ByteArray),(⟨#[]⟩:ByteArray),(⟨#[120,0]⟩:ByteArray)] :List ByteArray))).bind fun y2=>((u1l (y2.2,5)).bind fun y3=>(bif y3.1 then(some ((y1.1,((⟨#[]⟩:ByteArray),true)),y3.2)) else(some ((y1.1,(y2.1,false)),y3.2))))))
theorem s7h:u3f=t7v:=zC 322 rfl Tryz.func322 (by kernel_rfl)
def t2r(x:Z88):Option Z98:=zK 419 x
def u80(g:Z18→Option (Z19⊕Z98))(x:Z18):Option (Z19⊕Z98):=(bif (decide (x.2.2.2.2<(x.1.2.2.2.2.1.length:Int))) then(bif (y4q x.2.2.2.2 x.1.2.2.2.2.1.length) then(bif (z7o (rdL q2t x.1.2.2.2.2.1 (x.2.2.2.2).toNat).1 x.2.1.1&&(z7o (rdL q2t x.1.2.2.2.2.1 (x.2.2.2.2).toNat).2 x.2.1.2&&true)) then(some (.inr (x.2.2.2.1,true))) else(g (x.1,(x.2.1,(x.2.2.1,(x.2.2.2.1,(IntKind.i64.wrap (x.2.2.2.2+1)))))))) else none) else(some (.inl (x.1,(x.2.1,(x.2.2.1,x.2.2.2.1))))))
def u5r:=lpW _ _ u80
theorem s0d x:u5r x=u80 u5r x:=zW t9r 419 Tryz.f419 5 51 x (by kernel_rfl)
def s33 (x:Z88):Option Z98:=((u0w x.1).bind fun y1=>((((u4v x.1).bind fun y2=>(bif (!y2) then(some true) else(bif (!decide (x.1.2.1=1)) then(some true) else((t1h x.2).bind fun y3=>(some (!y3)))))):Option Bool).bind fun j4=>(bif j4 then(some (y1,false)) else((u5r (x.1,(x.2,((0,(0,(0,(0,(([] :List q2t.den),(([] :List u1x.den),(false,(⟨#[]⟩:ByteArray)))))))),(y1,0))))).bind fun r5=>match r5 with | .inl o6=>(bif (decide ((o6.1.2.2.2.2.1.length:Int)≥(8:Int))) then(some (o6.2.2.2,false)) else(bif (Nat.ble (o6.2.2.2.2.2.2.2.1.length+([o6.2.1] :List q2t.den).length) z7w) then(some ((o6.2.2.2.1,(o6.2.2.2.2.1,(o6.2.2.2.2.2.1,(o6.2.2.2.2.2.2.1,((o6.2.2.2.2.2.2.2.1++([o6.2.1] :List q2t.den)),o6.2.2.2.2.2.2.2.2))))),true)) else none)) | .inr z7=>(some z7)))))
theorem r7e:t2r=s33:=zC 419 rfl Tryz.func419 (by kernel_rfl)
def s3j(x:p72):Option r7q:=zK 27 x
def r2y (x:p72):Option r7q:=((t92 x).bind fun y1=>(((bif (decide (y1<0)) then(some true) else(bif (y4q y1 x.1.length) then(some (rdL u0e x.1 (y1).toNat).2.2.1) else none)):Option Bool).bind fun j2=>(bif j2 then(some ((⟨#[]⟩:ByteArray),false)) else(bif (y4q y1 x.1.length) then(some ((rdL u0e x.1 (y1).toNat).2.1,true)) else none))))
theorem q4y:s3j=r2y:=zC 27 rfl Tryz.func27 (by kernel_rfl)
def t7i(x:Z79):Option r7q:=zK 420 x
def u9d(g:Z70→Option (Z77⊕r7q))(x:Z70):Option (Z77⊕r7q):=(bif (decide (x.2.2.2<(x.2.2.1.2.2.2.2.2.1.length:Int))) then(bif (y4q x.2.2.2 x.2.2.1.2.2.2.2.2.1.length) then(bif (z7o (rdL u1x x.2.2.1.2.2.2.2.2.1 (x.2.2.2).toNat).1 x.2.1) then(bif (y4q x.2.2.2 x.2.2.1.2.2.2.2.2.1.length) then(bif (rdL u1x x.2.2.1.2.2.2.2.2.1 (x.2.2.2).toNat).2.2 then(some (.inr ((⟨#[]⟩:ByteArray),false))) else(bif (y4q x.2.2.2 x.2.2.1.2.2.2.2.2.1.length) then(some (.inr ((rdL u1x x.2.2.1.2.2.2.2.2.1 (x.2.2.2).toNat).2.1,true))) else none)) else none) else(g (x.1,(x.2.1,(x.2.2.1,(IntKind.i64.wrap (x.2.2.2+1))))))) else none) else(some (.inl (x.1,(x.2.1,x.2.2.1)))))
def u9k:=lpW _ _ u9d
theorem s8i x:u9k x=u9d u9k x:=zW s7r 420 Tryz.f420 2 43 x (by kernel_rfl)
def r2u (x:Z79):Option r7q:=((u9k (x.2.1,(x.2.2,(x.1,0)))).bind fun r1=>match r1 with | .inl o2=>((s3j (o2.1,(o2.2.1,o2.2.2.2.2.1))).bind fun y3=>(some y3)) | .inr z4=>(some z4))
theorem q4u:t7i=r2u:=zC 420 rfl Tryz.func420 (by kernel_rfl)
def t0v(x:Z53):Option Z50:=zK 350 x
def r2r (x:Z53):Option Z50:=((u0o x.1).bind fun y1=>((u4r (x.1,x.2.1)).bind fun y2=>(bif (decide (y2<0)) then(some (y1,((⟨#[]⟩:ByteArray),(false,1)))) else((u4t x.2.2).bind fun y3=>(bif (!y3) then(some (y1,((⟨#[]⟩:ByteArray),(false,2)))) else(bif (y4q y2 x.1.2.length) then((t2r ((rdL u0a x.1.2 (y2).toNat),(x.2.2,x.2.2))).bind fun y4=>(bif (!y4.2) then(some (y1,((⟨#[]⟩:ByteArray),(false,3)))) else(bif (y4q y2 y1.2.length) then((t7i (y4.1,(x.1.1.1,x.2.2))).bind fun y5=>(some ((y1.1,(y1.2.set (y2).toNat y4.1)),(y5.1,(y5.2,0))))) else none))) else none))))))
theorem q4r:t0v=r2r:=zC 350 rfl Tryz.func350 (by kernel_rfl)
def s0y(x:o05):Option p18:=zK 153 x
def t2c(g:Z90→Option (Z95⊕Unit))(x:Z90):Option (Z95⊕Unit):=(bif (decide (x.2.2.2.2.2.2<(x.2.2.1.length:Int))) then(bif (y4q x.2.2.2.2.2.2 x.2.2.1.length) then(bif (y3c (rdL Ty.str x.2.2.1 (x.2.2.2.2.2.2).toNat) x.2.2.2.2.1) then(bif (y4q x.2.2.2.2.2.2 x.2.2.1.length) then(bif (Nat.ble (x.2.2.2.2.2.1.length+([(rdL Ty.str x.2.2.1 (x.2.2.2.2.2.2).toNat)] :List ByteArray).length) z7w) then(g (x.1,(x.2.1,(x.2.2.1,(x.2.2.2.1,(x.2.2.2.2.1,((x.2.2.2.2.2.1++([(rdL Ty.str x.2.2.1 (x.2.2.2.2.2.2).toNat)] :List ByteArray)),(IntKind.i64.wrap (x.2.2.2.2.2.2+1))))))))) else none) else none) else(g (x.1,(x.2.1,(x.2.2.1,(x.2.2.2.1,(x.2.2.2.2.1,(x.2.2.2.2.2.1,(IntKind.i64.wrap (x.2.2.2.2.2.2+1)))))))))) else none) else(some (.inl (x.1,(x.2.1,(x.2.2.1,(x.2.2.2.1,(x.2.2.2.2.1,x.2.2.2.2.2.1))))))))
def u79:=lpW _ _ t2c
theorem s51 x:u79 x=t2c u79 x:=zW s47 153 Tryz.f153 9 72 x (by kernel_rfl)
def t0i(g:Z90→Option (o1z⊕Unit))(x:Z90):Option (o1z⊕Unit):=(bif (decide (x.2.2.2.2.2.2<(x.2.2.1.length:Int))) then(bif (y4q x.2.2.2.2.2.2 x.2.2.1.length) then(bif (!(y3c (rdL Ty.str x.2.2.1 (x.2.2.2.2.2.2).toNat) x.2.2.2.2.1 || z7o (rdL Ty.str x.2.2.1 (x.2.2.2.2.2.2).toNat) x.2.2.2.2.1)) then(bif (y4q x.2.2.2.2.2.2 x.2.2.1.length) then(bif (Nat.ble (x.2.2.2.2.2.1.length+([(rdL Ty.str x.2.2.1 (x.2.2.2.2.2.2).toNat)] :List ByteArray).length) z7w) then(g (x.1,(x.2.1,(x.2.2.1,(x.2.2.2.1,(x.2.2.2.2.1,((x.2.2.2.2.2.1++([(rdL Ty.str x.2.2.1 (x.2.2.2.2.2.2).toNat)] :List ByteArray)),(IntKind.i64.wrap (x.2.2.2.2.2.2+1))))))))) else none) else none) else(g (x.1,(x.2.1,(x.2.2.1,(x.2.2.2.1,(x.2.2.2.2.1,(x.2.2.2.2.2.1,(IntKind.i64.wrap (x.2.2.2.2.2.2+1)))))))))) else none) else(some (.inl (x.1,(x.2.1,(x.2.2.2.1,x.2.2.2.2.2.1))))))
def u6k:=lpW _ _ t0i
theorem s2u x:u6k x=t0i u6k x:=zW s16 153 Tryz.f153 15 72 x (by kernel_rfl)
def t2b(g:o13→Option (p18⊕Unit))(x:o13):Option (p18⊕Unit):=(bif (decide (x.2.2.2<(x.1.length:Int))) then(bif (y4q x.2.2.2 x.1.length) then((t5t (x.2.1,(rdL u0e x.1 (x.2.2.2).toNat).1)).bind fun y1=>(bif (!y1) then(g (x.1,(x.2.1,(x.2.2.1,(IntKind.i64.wrap (x.2.2.2+1)))))) else((u79 (x.1,(x.2.1,(x.2.2.1,(x.2.2.2,((rdL u0e x.1 (x.2.2.2).toNat).1,(([] :List ByteArray),0))))))).bind fun r2=>match r2 with | .inl o3=>(bif (Nat.ble (o3.2.2.2.2.2.length+([o3.2.2.2.2.1] :List ByteArray).length) z7w) then((u6k (o3.1,(o3.2.1,(o3.2.2.1,(o3.2.2.2.1,(o3.2.2.2.2.1,((o3.2.2.2.2.2++([o3.2.2.2.2.1] :List ByteArray)),0))))))).bind fun r4=>match r4 with | .inl o5=>(g (o5.1,(o5.2.1,(o5.2.2.2,(IntKind.i64.wrap (o5.2.2.1+1)))))) | .inr z6=>(some (.inr ()))) else none) | .inr z7=>(some (.inr ()))))) else none) else(some (.inl x.2.2.1)))
def t2l:=lpW _ _ t2b
theorem s50 x:t2l x=t2b t2l x:=zW s46 153 Tryz.f153 3 72 x (by kernel_rfl)
def r0c (x:o05):Option p18:=((t2l (x.1,(x.2,(([] :List ByteArray),0)))).bind fun r8=>match r8 with | .inl o9=>(some o9) | .inr z10=>none)
theorem q10:s0y=r0c:=zC 153 rfl Tryz.func153 (by kernel_rfl)
def s0q(x:Z67):Option (List q2t.den):=zK 421 x
def t11(g:Z54→Option (Z58⊕Unit))(x:Z54):Option (Z58⊕Unit):=(bif (decide (x.2.2.2.2<(x.2.1.2.2.2.2.2.1.length:Int))) then(bif (y4q x.2.2.2.2 x.2.1.2.2.2.2.2.1.length) then(bif (Nat.ble (x.2.2.2.1.length+([((rdL u1x x.2.1.2.2.2.2.2.1 (x.2.2.2.2).toNat).1,((⟨#[]⟩:ByteArray),(false,0)))] :List u0e.den).length) z7w) then(g (x.1,(x.2.1,(x.2.2.1,((x.2.2.2.1++([((rdL u1x x.2.1.2.2.2.2.2.1 (x.2.2.2.2).toNat).1,((⟨#[]⟩:ByteArray),(false,0)))] :List u0e.den)),(IntKind.i64.wrap (x.2.2.2.2+1))))))) else none) else none) else(some (.inl (x.1,(x.2.1,(x.2.2.1,x.2.2.2.1))))))
def u72:=lpW _ _ t11
theorem s5p x:u72 x=t11 u72 x:=zW s4s 421 Tryz.f421 3 65 x (by kernel_rfl)
def t12(g:Z59→Option ((List q2t.den)⊕Unit))(x:Z59):Option ((List q2t.den)⊕Unit):=(bif (decide (x.2.2.2.2<(x.2.2.2.1.length:Int))) then(bif (y4q x.2.2.2.2 x.2.2.2.1.length) then((t7i (x.2.1,(x.1,(rdL Ty.str x.2.2.2.1 (x.2.2.2.2).toNat)))).bind fun y4=>(bif y4.2 then(bif (y4q x.2.2.2.2 x.2.2.2.1.length) then(bif (Nat.ble (x.2.2.1.length+([((rdL Ty.str x.2.2.2.1 (x.2.2.2.2).toNat),y4.1)] :List q2t.den).length) z7w) then(g (x.1,(x.2.1,((x.2.2.1++([((rdL Ty.str x.2.2.2.1 (x.2.2.2.2).toNat),y4.1)] :List q2t.den)),(x.2.2.2.1,(IntKind.i64.wrap (x.2.2.2.2+1))))))) else none) else none) else(g (x.1,(x.2.1,(x.2.2.1,(x.2.2.2.1,(IntKind.i64.wrap (x.2.2.2.2+1))))))))) else none) else(some (.inl x.2.2.1)))
def t2g:=lpW _ _ t12
theorem s5q x:t2g x=t12 t2g x:=zW s4t 421 Tryz.f421 9 65 x (by kernel_rfl)
def s9q (x:Z67):Option (List q2t.den):=(bif (Nat.ble (([] :List u0e.den).length+x.2.1.length) z7w) then((u72 (x.2.1,(x.1,(x.2.2,((([] :List u0e.den)++x.2.1),0))))).bind fun r1=>match r1 with | .inl o2=>((s0y (o2.2.2.2,o2.2.2.1)).bind fun y3=>((t2g (o2.1,(o2.2.1,(([] :List q2t.den),(y3,0))))).bind fun r5=>match r5 with | .inl o6=>(some o6) | .inr z7=>none)) | .inr z8=>none) else none)
theorem q1f:s0q=s9q:=zC 421 rfl Tryz.func421 (by kernel_rfl)
def u6q(x:Z48):Option Z51:=zK 352 x
def s61 (x:Z48):Option Z51:=((u0o x.1).bind fun y1=>((u4r (x.1,x.2.1)).bind fun y2=>(bif (decide (y2<0)) then(some (y1,(([] :List q2t.den),1))) else((t1h x.2.2).bind fun y3=>(bif (!y3) then(some (y1,(([] :List q2t.den),2))) else(bif (y4q y2 x.1.2.length) then((t2r ((rdL u0a x.1.2 (y2).toNat),x.2.2)).bind fun y4=>(bif (!y4.2) then(some (y1,(([] :List q2t.den),3))) else(bif (y4q y2 y1.2.length) then((s0q (y4.1,(x.1.1.1,x.2.2))).bind fun y5=>(some ((y1.1,(y1.2.set (y2).toNat y4.1)),(y5,0)))) else none))) else none))))))
theorem r9a:u6q=s61:=zC 352 rfl Tryz.func352 (by kernel_rfl)
def u39(x:s2v):Option o2o:=zK 353 x
def t7u (x:s2v):Option o2o:=((u3e x).bind fun y1=>((u1l (y1.2,2)).bind fun y2=>(bif y2.1 then(some ((y1.1,y1.1),y2.2)) else((u3e y2.2).bind fun y3=>(bif (y3c y3.1 y1.1) then(some ((y3.1,y1.1),y3.2)) else(some ((y1.1,y3.1),y3.2)))))))
theorem s7g:u39=t7u:=zC 353 rfl Tryz.func353 (by kernel_rfl)
def u02(x:Z60):Option Z63:=zK 424 x
def t3s(g:Z39→Option (Z47⊕Unit))(x:Z39):Option (Z47⊕Unit):=(bif (decide (x.2.2.2<(x.1.2.length:Int))) then(bif (y4q x.2.2.2 x.1.2.length) then(bif (!decide ((rdL u0a x.1.2 (x.2.2.2).toNat).1=x.2.1)) then(bif (y4q x.2.2.2 x.1.2.length) then(bif (Nat.ble (x.2.2.1.length+([(rdL u0a x.1.2 (x.2.2.2).toNat)] :List u0a.den).length) z7w) then(g (x.1,(x.2.1,((x.2.2.1++([(rdL u0a x.1.2 (x.2.2.2).toNat)] :List u0a.den)),(IntKind.i64.wrap (x.2.2.2+1)))))) else none) else none) else(g (x.1,(x.2.1,(x.2.2.1,(IntKind.i64.wrap (x.2.2.2+1))))))) else none) else(some (.inl (x.1,x.2.2.1))))
def u9m:=lpW _ _ t3s
theorem s8k x:u9m x=t3s u9m x:=zW s7v 424 Tryz.f424 2 49 x (by kernel_rfl)
def r3c (x:Z60):Option Z63:=((u9m (x.1,(x.2,(([] :List u0a.den),0)))).bind fun r1=>match r1 with | .inl o2=>((t0x (o2.1.1,o2.2)).bind fun y3=>(some (y3,o2.2))) | .inr z4=>none)
theorem q5c:u02=r3c:=zC 424 rfl Tryz.func424 (by kernel_rfl)
def t90(x:p97):Option Bool:=zK 159 x
def t5c(g:p90→Option (p70⊕Bool))(x:p90):Option (p70⊕Bool):=(bif (decide (x.2.2.2<(x.2.1.length:Int))) then(bif (y4q x.2.2.1 x.1.length) then(bif (y4q x.2.2.2 x.2.1.length) then(bif (z7o (rdL u1x x.1 (x.2.2.1).toNat).1 (rdL u1x x.2.1 (x.2.2.2).toNat).1) then(some (.inr true)) else(g (x.1,(x.2.1,(x.2.2.1,(IntKind.i64.wrap (x.2.2.2+1))))))) else none) else none) else(some (.inl (x.1,(x.2.1,x.2.2.1)))))
def t09:=lpW _ _ t5c
theorem r1d x:t09 x=t5c t09 x:=zW r00 159 Tryz.f159 5 30 x (by kernel_rfl)
def t5b(g:p70→Option r1i)(x:p70):Option r1i:=(bif (decide (x.2.2<(x.1.length:Int))) then((t09 (x.1,(x.2.1,(x.2.2,0)))).bind fun r1=>match r1 with | .inl o2=>(g (o2.1,(o2.2.1,(IntKind.i64.wrap (o2.2.2+1))))) | .inr z3=>(some (.inr z3))) else(some (.inl ())))
def t5j:=lpW _ _ t5b
theorem r1c x:t5j x=t5b t5j x:=zW r0z 159 Tryz.f159 2 30 x (by kernel_rfl)
def r56 (x:p97):Option Bool:=((t5j (x.1,(x.2,0))).bind fun r4=>match r4 with | .inl o5=>(some false) | .inr z6=>(some z6))
theorem q65:t90=r56:=zC 159 rfl Tryz.func159 (by kernel_rfl)
def s0p(x:Z74):Option Bool:=zK 53 x
def t1y(g:Z68→Option r1i)(x:Z68):Option r1i:=(bif (decide (x.2.2<(x.1.length:Int))) then(bif (y4q x.2.2 x.1.length) then(((bif (!decide ((rdL u0a x.1 (x.2.2).toNat).1=x.2.1.1)) then(bif (decide ((rdL u0a x.1 (x.2.2).toNat).2.1=2)) then((t90 ((rdL u0a x.1 (x.2.2).toNat).2.2.2.2.2.1,x.2.1.2.2.2.2.2.1)).bind fun y1=>(some y1)) else(bif (decide ((rdL u0a x.1 (x.2.2).toNat).2.1=3)) then(bif (decide ((rdL u0a x.1 (x.2.2).toNat).2.2.2.1 >x.2.1.2.2.1)) then((t90 ((rdL u0a x.1 (x.2.2).toNat).2.2.2.2.2.1,x.2.1.2.2.2.2.2.1)).bind fun y2=>(some y2)) else(some false)) else(some false))) else(some false)):Option Bool).bind fun j3=>(bif j3 then(some (.inr true)) else(g (x.1,(x.2.1,(IntKind.i64.wrap (x.2.2+1))))))) else none) else(some (.inl ())))
def u7z:=lpW _ _ t1y
theorem s5m x:u7z x=t1y u7z x:=zW s4o 53 Tryz.f53 2 46 x (by kernel_rfl)
def s9l (x:Z74):Option Bool:=((u7z (x.2,(x.1,0))).bind fun r4=>match r4 with | .inl o5=>(some false) | .inr z6=>(some z6))
theorem q1a:s0p=s9l:=zC 53 rfl Tryz.func53 (by kernel_rfl)
def s3h(x:Z74):Option Bool:=zK 160 x
def t7a(g:Z68→Option r1i)(x:Z68):Option r1i:=(bif (decide (x.2.2<(x.1.length:Int))) then(((bif (y4q x.2.2 x.1.length) then(bif (decide ((rdL u0a x.1 (x.2.2).toNat).2.1=2)) then(bif (y4q x.2.2 x.1.length) then((u2a ((rdL u0a x.1 (x.2.2).toNat),x.2.1)).bind fun y1=>(some y1)) else none) else(bif (y4q x.2.2 x.1.length) then(bif (decide ((rdL u0a x.1 (x.2.2).toNat).2.1=3)) then(bif (y4q x.2.2 x.1.length) then((u2a ((rdL u0a x.1 (x.2.2).toNat),x.2.1)).bind fun y2=>(some y2)) else none) else(some false)) else none)) else none):Option Bool).bind fun j3=>(bif j3 then(some (.inr true)) else(g (x.1,(x.2.1,(IntKind.i64.wrap (x.2.2+1))))))) else(some (.inl ())))
def t3v:=lpW _ _ t7a
theorem r4h x:t3v x=t7a t3v x:=zW r3y 160 Tryz.f160 2 34 x (by kernel_rfl)
def r8e (x:Z74):Option Bool:=((t3v (x.2,(x.1,0))).bind fun r4=>match r4 with | .inl o5=>(some false) | .inr z6=>(some z6))
theorem q82:s3h=r8e:=zC 160 rfl Tryz.func160 (by kernel_rfl)
def t7h(x:Z74):Option Bool:=zK 54 x
def u7o(g:Z28→Option (Z68⊕Bool))(x:Z28):Option (Z68⊕Bool):=(((bif (decide (x.2.2.2.2<(x.1.length:Int))) then(bif (decide (x.2.2.2.1.2.1=2)) then((u2a (x.2.2.2.1,x.2.1)).bind fun y10=>(some y10)) else(some false)) else(some false)):Option Bool).bind fun j11=>(bif j11 then(bif (y4q x.2.2.2.2 x.1.length) then(((bif (decide ((rdL u0a x.1 (x.2.2.2.2).toNat).2.1=2)) then(bif (!decide ((rdL u0a x.1 (x.2.2.2.2).toNat).1=x.2.1.1)) then((u2a ((rdL u0a x.1 (x.2.2.2.2).toNat),x.2.2.2.1)).bind fun y12=>(some y12)) else(some false)) else(some false)):Option Bool).bind fun j13=>(bif j13 then(some (.inr true)) else(g (x.1,(x.2.1,(x.2.2.1,(x.2.2.2.1,(IntKind.i64.wrap (x.2.2.2.2+1))))))))) else none) else(some (.inl (x.1,(x.2.1,x.2.2.1))))))
def u5c:=lpW _ _ u7o
theorem t6w x:u5c x=u7o u5c x:=zW s4p 54 Tryz.f54 12 92 x (by kernel_rfl)
def t3n(g:Z68→Option r1i)(x:Z68):Option r1i:=(bif (decide (x.2.2<(x.1.length:Int))) then(bif (y4q x.2.2 x.1.length) then(((bif (decide ((rdL u0a x.1 (x.2.2).toNat).2.1=2)) then(bif (rdL u0a x.1 (x.2.2).toNat).2.2.2.2.2.2.1 then((u2a (x.2.1,(rdL u0a x.1 (x.2.2).toNat))).bind fun y4=>(some y4)) else(some false)) else(bif (decide ((rdL u0a x.1 (x.2.2).toNat).2.1=3)) then(bif (rdL u0a x.1 (x.2.2).toNat).2.2.2.2.2.2.1 then((u2a (x.2.1,(rdL u0a x.1 (x.2.2).toNat))).bind fun y5=>(some y5)) else(some false)) else(some false))):Option Bool).bind fun j6=>(bif j6 then(some (.inr true)) else(((bif (decide ((rdL u0a x.1 (x.2.2).toNat).2.1=2)) then((u2a ((rdL u0a x.1 (x.2.2).toNat),x.2.1)).bind fun y7=>(bif y7 then((u2a (x.2.1,(rdL u0a x.1 (x.2.2).toNat))).bind fun y8=>(some y8)) else(some false))) else(some false)):Option Bool).bind fun j9=>(bif j9 then(some (.inr true)) else((u5c (x.1,(x.2.1,(x.2.2,((rdL u0a x.1 (x.2.2).toNat),0))))).bind fun r14=>match r14 with | .inl o15=>(g (o15.1,(o15.2.1,(IntKind.i64.wrap (o15.2.2+1))))) | .inr z16=>(some (.inr z16))))))) else none) else(some (.inl ())))
def u9i:=lpW _ _ t3n
theorem s8e x:u9i x=t3n u9i x:=zW s7n 54 Tryz.f54 4 92 x (by kernel_rfl)
def r2o (x:Z74):Option Bool:=((((s3h x).bind fun y1=>(bif y1 then((t6b x).bind fun y2=>(some y2)) else(some false))):Option Bool).bind fun j3=>(bif j3 then(some true) else((u9i (x.2,(x.1,0))).bind fun r17=>match r17 with | .inl o18=>(some false) | .inr z19=>(some z19))))
theorem q4o:t7h=r2o:=zC 54 rfl Tryz.func54 (by kernel_rfl)
def t51(x:Z92):Option Bool:=zK 406 x
def r0j (x:Z92):Option Bool:=(((bif (decide ((x.2.1.length:Int)≥(12:Int))) then(some true) else(bif (decide ((x.1.length:Int) >(100:Int))) then(some true) else(some (decide (x.2.2.2.1≥9999))))):Option Bool).bind fun j1=>(some j1))
theorem q17:t51=r0j:=zC 406 rfl Tryz.func406 (by kernel_rfl)
def t0z(x:Z92):Option r7y:=zK 467 x
def r3b (x:Z92):Option r7y:=(bif (Nat.ble (([] :List u0a.den).length+x.2.1.length) z7w) then(bif (Nat.ble ((([] :List u0a.den)++x.2.1).length+x.2.2.1.length) z7w) then(some ((([] :List u0a.den)++x.2.1)++x.2.2.1)) else none) else none)
theorem q5b:t0z=r3b:=zC 467 rfl Tryz.func467 (by kernel_rfl)
def t9y(x:Z60):Option Int:=zK 465 x
def r52 (x:Z60):Option Int:=((u4r x).bind fun y1=>(bif (decide (y1<0)) then(some (1:Int)) else((t0z x.1.1).bind fun y2=>(bif (y4q y1 x.1.2.length) then((s0p ((rdL u0a x.1.2 (y1).toNat),y2)).bind fun y3=>(bif y3 then(some (4:Int)) else(bif (y4q y1 x.1.2.length) then((t7h ((rdL u0a x.1.2 (y1).toNat),y2)).bind fun y4=>(bif y4 then(some (5:Int)) else((t51 x.1.1).bind fun y5=>(bif y5 then(some (3:Int)) else(some (0:Int)))))) else none))) else none))))
theorem q61:t9y=r52:=zC 465 rfl Tryz.func465 (by kernel_rfl)
def s3f(x:Z60):Option Z12:=zK 422 x
def r2n (x:Z60):Option Z12:=((u0o x.1).bind fun y1=>((t9y x).bind fun y2=>(bif (decide (y2=1)) then(some (y1,((0,((0,(0,(0,(0,(([] :List q2t.den),(([] :List u1x.den),(false,(⟨#[]⟩:ByteArray)))))))),((⟨#[]⟩:ByteArray),(false,(([] :List u0e.den),(([] :List u0a.den),(([] :List u0a.den),(0,0)))))))),y2))) else(bif (!decide (y2=0)) then((u02 (y1,x.2)).bind fun y3=>(some (y3,((0,((0,(0,(0,(0,(([] :List q2t.den),(([] :List u1x.den),(false,(⟨#[]⟩:ByteArray)))))))),((⟨#[]⟩:ByteArray),(false,(([] :List u0e.den),(([] :List u0a.den),(([] :List u0a.den),(0,0)))))))),y2)))) else((u4r x).bind fun y4=>(bif (y4q y4 x.1.2.length) then((u4u (x.1.1,(rdL u0a x.1.2 (y4).toNat))).bind fun y5=>(bif (y4q (IntKind.i64.wrap ((y5.2.1.length:Int) - (1:Int))) y5.2.1.length) then((u0w (rdL u0a y5.2.1 ((IntKind.i64.wrap ((y5.2.1.length:Int) - (1:Int)))).toNat)).bind fun y6=>((u02 ((y5,y1.2),x.2)).bind fun y7=>(some (y7,((1,(y6,((⟨#[]⟩:ByteArray),(false,(([] :List u0e.den),(([] :List u0a.den),(([] :List u0a.den),(0,0)))))))),0))))) else none)) else none))))))
theorem q4n:s3f=r2n:=zC 422 rfl Tryz.func422 (by kernel_rfl)
def t6r(x:p6c):Option r4p:=zK 469 x
def s32 (x:p6c):Option r4p:=((((t9z x.1).bind fun y1=>(bif (!y1) then(some true) else((u0r (x.2.1,(0,1))).bind fun y2=>(some (!y2))))):Option Bool).bind fun j3=>(bif j3 then((u03 x.1).bind fun y4=>(some (y4,false))) else((t7k x).bind fun y5=>(bif (!y5.2) then((u03 x.1).bind fun y6=>(some (y6,false))) else(some (y5.1,true))))))
theorem r7d:t6r=s32:=zC 469 rfl Tryz.func469 (by kernel_rfl)
def t2q(x:o2w):Option r4p:=zK 429 x
def s3x (x:o2w):Option r4p:=((u9v x.1).bind fun y1=>((t6r (x.1,(y1,x.2))).bind fun y2=>(some y2)))
theorem r68:t2q=s3x:=zC 429 rfl Tryz.func429 (by kernel_rfl)
def t1l(x:Z9):Option Z40:=zK 423 x
def r0l (x:Z9):Option Z40:=((u2r x.2).bind fun y1=>(bif (!y1.2) then(some (false,x.1)) else((t2q (x.1.2,y1.1)).bind fun y2=>(bif (!y2.2) then((t4m x.1.2).bind fun y3=>(bif (!y3.2) then(some (false,x.1)) else((t2q (y3.1,y1.1)).bind fun y4=>(bif y4.2 then(some (y4.2,(x.1.1,y4.1))) else(some (y4.2,x.1)))))) else(bif y2.2 then(some (y2.2,(x.1.1,y2.1))) else(some (y2.2,x.1)))))))
theorem q19:t1l=r0l:=zC 423 rfl Tryz.func423 (by kernel_rfl)
def u5j(x:Z42):Option Z43:=zK 354 x
def s39 (x:Z42):Option Z43:=((s3f (x.1.1,x.2)).bind fun y1=>(bif (decide (y1.2.2=0)) then((t1l (x.1,y1.2.1)).bind fun y2=>(bif (!y2.1) then((u0o y2.2.1).bind fun y3=>((u02 (y3,x.2)).bind fun y4=>(some (3,(y4,y2.2.2))))) else(some (y1.2.2,(y1.1,y2.2.2))))) else(some (y1.2.2,(y1.1,x.1.2)))))
theorem r7k:u5j=s39:=zC 354 rfl Tryz.func354 (by kernel_rfl)
def t4b(x:Z74):Option Bool:=zK 466 x
def u5n(g:Z26→Option (Z64⊕Bool))(x:Z26):Option (Z64⊕Bool):=(bif (decide (x.2.2.2.2.2<(x.1.length:Int))) then(((bif (y4q x.2.2.2.2.2 x.1.length) then(bif (decide ((rdL u0a x.1 (x.2.2.2.2.2).toNat).2.1=2)) then(bif (y4q x.2.2.2.2.2 x.1.length) then(bif (!decide ((rdL u0a x.1 (x.2.2.2.2.2).toNat).1=x.2.1.1)) then(bif (y4q x.2.2.2.2.2 x.1.length) then((u2a (x.2.2.2.2.1,(rdL u0a x.1 (x.2.2.2.2.2).toNat))).bind fun y5=>(some y5)) else none) else(some false)) else none) else(some false)) else none):Option Bool).bind fun j6=>(bif j6 then(some (.inr true)) else(g (x.1,(x.2.1,(x.2.2.1,(x.2.2.2.1,(x.2.2.2.2.1,(IntKind.i64.wrap (x.2.2.2.2.2+1)))))))))) else(some (.inl (x.1,(x.2.1,(x.2.2.1,x.2.2.2.1))))))
def u35:=lpW _ _ u5n
theorem t6g x:u35 x=u5n u35 x:=zW t59 466 Tryz.f466 12 65 x (by kernel_rfl)
def u59(g:Z64→Option r1i)(x:Z64):Option r1i:=(bif (decide (x.2.2.2<(x.1.length:Int))) then(bif (y4q x.2.2.2 x.1.length) then(((bif (!decide ((rdL u0a x.1 (x.2.2.2).toNat).2.1=2)) then(some true) else((u2a (x.2.1,(rdL u0a x.1 (x.2.2.2).toNat))).bind fun y3=>(some (!y3)))):Option Bool).bind fun j4=>(bif j4 then(g (x.1,(x.2.1,(x.2.2.1,(IntKind.i64.wrap (x.2.2.2+1)))))) else(bif x.2.2.1 then(some (.inr true)) else((u35 (x.1,(x.2.1,(x.2.2.1,(x.2.2.2,((rdL u0a x.1 (x.2.2.2).toNat),0)))))).bind fun r7=>match r7 with | .inl o8=>(g (o8.1,(o8.2.1,(o8.2.2.1,(IntKind.i64.wrap (o8.2.2.2+1)))))) | .inr z9=>(some (.inr z9)))))) else none) else(some (.inl ())))
def u4k:=lpW _ _ u59
theorem t69 x:u4k x=u59 u4k x:=zW t63 466 Tryz.f466 5 65 x (by kernel_rfl)
def t9d (x:Z74):Option Bool:=((t7h x).bind fun y1=>(bif y1 then(some true) else((s3h x).bind fun y2=>((u4k (x.2,(x.1,(y2,0)))).bind fun r10=>match r10 with | .inl o11=>(some false) | .inr z12=>(some z12)))))
theorem r3o:t4b=t9d:=zC 466 rfl Tryz.func466 (by kernel_rfl)
def s0r(x:Z53):Option Z12:=zK 425 x
def s9s (x:Z53):Option Z12:=((u0o x.1).bind fun y1=>((u4r (x.1,x.2.1)).bind fun y2=>(bif (decide (y2<0)) then(some (y1,((0,((0,(0,(0,(0,(([] :List q2t.den),(([] :List u1x.den),(false,(⟨#[]⟩:ByteArray)))))))),((⟨#[]⟩:ByteArray),(false,(([] :List u0e.den),(([] :List u0a.den),(([] :List u0a.den),(0,0)))))))),1))) else((u4t x.2.2).bind fun y3=>(bif (!y3) then(some (y1,((0,((0,(0,(0,(0,(([] :List q2t.den),(([] :List u1x.den),(false,(⟨#[]⟩:ByteArray)))))))),((⟨#[]⟩:ByteArray),(false,(([] :List u0e.den),(([] :List u0a.den),(([] :List u0a.den),(0,0)))))))),2))) else((u1u (x.1.1,x.2.2)).bind fun y4=>(bif (decide (y4≥0)) then(some (y1,((0,((0,(0,(0,(0,(([] :List q2t.den),(([] :List u1x.den),(false,(⟨#[]⟩:ByteArray)))))))),((⟨#[]⟩:ByteArray),(false,(([] :List u0e.den),(([] :List u0a.den),(([] :List u0a.den),(0,0)))))))),6))) else((t9y (x.1,x.2.1)).bind fun y5=>(((bif (decide (y5=0)) then(bif (y4q y2 x.1.2.length) then((t0z x.1.1).bind fun y6=>((t4b ((rdL u0a x.1.2 (y2).toNat),y6)).bind fun y7=>(some y7))) else none) else(some false)):Option Bool).bind fun j8=>(bif j8 then(((bif (decide ((5:Int)=(0:Int))) then(some (decide ((x.1.1.2.2.1.length:Int)≥(3:Int)))) else(some false)):Option Bool).bind fun j9=>(bif j9 then(bif (!decide ((3:Int)=(0:Int))) then((u02 (y1,x.2.1)).bind fun y10=>(some (y10,((0,((0,(0,(0,(0,(([] :List q2t.den),(([] :List u1x.den),(false,(⟨#[]⟩:ByteArray)))))))),((⟨#[]⟩:ByteArray),(false,(([] :List u0e.den),(([] :List u0a.den),(([] :List u0a.den),(0,0)))))))),3)))) else(bif (y4q y2 x.1.2.length) then((u4h (x.1.1,((rdL u0a x.1.2 (y2).toNat),x.2.2))).bind fun y11=>((u1u (y11,x.2.2)).bind fun y12=>(bif (y4q y12 y11.2.2.1.length) then((u0w (rdL u0a y11.2.2.1 (y12).toNat)).bind fun y13=>((u02 ((y11,y1.2),x.2.1)).bind fun y14=>(some (y14,((2,(y13,((⟨#[]⟩:ByteArray),(false,(([] :List u0e.den),(([] :List u0a.den),(([] :List u0a.den),(0,0)))))))),0))))) else none))) else none)) else(bif (!decide ((5:Int)=(0:Int))) then((u02 (y1,x.2.1)).bind fun y15=>(some (y15,((0,((0,(0,(0,(0,(([] :List q2t.den),(([] :List u1x.den),(false,(⟨#[]⟩:ByteArray)))))))),((⟨#[]⟩:ByteArray),(false,(([] :List u0e.den),(([] :List u0a.den),(([] :List u0a.den),(0,0)))))))),5)))) else(bif (y4q y2 x.1.2.length) then((u4h (x.1.1,((rdL u0a x.1.2 (y2).toNat),x.2.2))).bind fun y16=>((u1u (y16,x.2.2)).bind fun y17=>(bif (y4q y17 y16.2.2.1.length) then((u0w (rdL u0a y16.2.2.1 (y17).toNat)).bind fun y18=>((u02 ((y16,y1.2),x.2.1)).bind fun y19=>(some (y19,((2,(y18,((⟨#[]⟩:ByteArray),(false,(([] :List u0e.den),(([] :List u0a.den),(([] :List u0a.den),(0,0)))))))),0))))) else none))) else none)))) else(((bif (decide (y5=0)) then(some (decide ((x.1.1.2.2.1.length:Int)≥(3:Int)))) else(some false)):Option Bool).bind fun j20=>(bif j20 then(bif (!decide ((3:Int)=(0:Int))) then((u02 (y1,x.2.1)).bind fun y21=>(some (y21,((0,((0,(0,(0,(0,(([] :List q2t.den),(([] :List u1x.den),(false,(⟨#[]⟩:ByteArray)))))))),((⟨#[]⟩:ByteArray),(false,(([] :List u0e.den),(([] :List u0a.den),(([] :List u0a.den),(0,0)))))))),3)))) else(bif (y4q y2 x.1.2.length) then((u4h (x.1.1,((rdL u0a x.1.2 (y2).toNat),x.2.2))).bind fun y22=>((u1u (y22,x.2.2)).bind fun y23=>(bif (y4q y23 y22.2.2.1.length) then((u0w (rdL u0a y22.2.2.1 (y23).toNat)).bind fun y24=>((u02 ((y22,y1.2),x.2.1)).bind fun y25=>(some (y25,((2,(y24,((⟨#[]⟩:ByteArray),(false,(([] :List u0e.den),(([] :List u0a.den),(([] :List u0a.den),(0,0)))))))),0))))) else none))) else none)) else(bif (!decide (y5=0)) then((u02 (y1,x.2.1)).bind fun y26=>(some (y26,((0,((0,(0,(0,(0,(([] :List q2t.den),(([] :List u1x.den),(false,(⟨#[]⟩:ByteArray)))))))),((⟨#[]⟩:ByteArray),(false,(([] :List u0e.den),(([] :List u0a.den),(([] :List u0a.den),(0,0)))))))),y5)))) else(bif (y4q y2 x.1.2.length) then((u4h (x.1.1,((rdL u0a x.1.2 (y2).toNat),x.2.2))).bind fun y27=>((u1u (y27,x.2.2)).bind fun y28=>(bif (y4q y28 y27.2.2.1.length) then((u0w (rdL u0a y27.2.2.1 (y28).toNat)).bind fun y29=>((u02 ((y27,y1.2),x.2.1)).bind fun y30=>(some (y30,((2,(y29,((⟨#[]⟩:ByteArray),(false,(([] :List u0e.den),(([] :List u0a.den),(([] :List u0a.den),(0,0)))))))),0))))) else none))) else none))))))))))))))
theorem q1h:s0r=s9s:=zC 425 rfl Tryz.func425 (by kernel_rfl)
def u40(x:Z37):Option Z43:=zK 355 x
def s1g (x:Z37):Option Z43:=((s0r (x.1.1,x.2)).bind fun y1=>(bif (decide (y1.2.2=0)) then((t1l (x.1,y1.2.1)).bind fun y2=>(bif (!y2.1) then((u0o y2.2.1).bind fun y3=>((u02 (y3,x.2.1)).bind fun y4=>(some (3,(y4,y2.2.2))))) else(some (y1.2.2,(y1.1,y2.2.2))))) else(some (y1.2.2,(y1.1,x.1.2)))))
theorem r48:u40=s1g:=zC 355 rfl Tryz.func355 (by kernel_rfl)
def s3g(x:Z52):Option Z12:=zK 339 x
def r2q (x:Z52):Option Z12:=((u0o x.1).bind fun y1=>((u1u (x.1.1,x.2.1)).bind fun y2=>(bif (decide (y2<0)) then(some (y1,((0,((0,(0,(0,(0,(([] :List q2t.den),(([] :List u1x.den),(false,(⟨#[]⟩:ByteArray)))))))),((⟨#[]⟩:ByteArray),(false,(([] :List u0e.den),(([] :List u0a.den),(([] :List u0a.den),(0,0)))))))),1))) else(((bif x.2.2 then((t51 x.1.1).bind fun y3=>(some y3)) else(some false)):Option Bool).bind fun j4=>(bif j4 then(some (y1,((0,((0,(0,(0,(0,(([] :List q2t.den),(([] :List u1x.den),(false,(⟨#[]⟩:ByteArray)))))))),((⟨#[]⟩:ByteArray),(false,(([] :List u0e.den),(([] :List u0a.den),(([] :List u0a.den),(0,0)))))))),3))) else(bif x.2.2 then(bif (y4q y2 x.1.1.2.2.1.length) then((u4u (x.1.1,(rdL u0a x.1.1.2.2.1 (y2).toNat))).bind fun y5=>((t0x (y5,y1.2)).bind fun y6=>(some ((y6,y1.2),((3,((0,(0,(0,(0,(([] :List q2t.den),(([] :List u1x.den),(false,(⟨#[]⟩:ByteArray)))))))),(x.2.1,(x.2.2,(([] :List u0e.den),(([] :List u0a.den),(([] :List u0a.den),(0,0)))))))),0))))) else none) else((t5s (x.1.1,x.2.1)).bind fun y7=>((t0x (y7,y1.2)).bind fun y8=>(some ((y8,y1.2),((3,((0,(0,(0,(0,(([] :List q2t.den),(([] :List u1x.den),(false,(⟨#[]⟩:ByteArray)))))))),(x.2.1,(x.2.2,(([] :List u0e.den),(([] :List u0a.den),(([] :List u0a.den),(0,0)))))))),0)))))))))))
theorem q4q:s3g=r2q:=zC 339 rfl Tryz.func339 (by kernel_rfl)
def u5k(x:Z36):Option Z43:=zK 356 x
def s4a (x:Z36):Option Z43:=((s3g (x.1.1,x.2)).bind fun y1=>(bif (decide (y1.2.2=0)) then((t1l (x.1,y1.2.1)).bind fun y2=>(bif (!y2.1) then(some (3,y2.2)) else(some (y1.2.2,(y1.1,y2.2.2))))) else(some (y1.2.2,(y1.1,x.1.2)))))
theorem r7l:u5k=s4a:=zC 356 rfl Tryz.func356 (by kernel_rfl)
def t3e(x:Z60):Option Z60:=zK 357 x
def r54 (x:Z60):Option Z60:=((u0o x.1).bind fun y1=>((u4r x).bind fun y2=>(bif (decide (y2<0)) then(some (y1,1)) else((u02 (y1,x.2)).bind fun y3=>(some (y3,0))))))
theorem q63:t3e=r54:=zC 357 rfl Tryz.func357 (by kernel_rfl)
def s01(x:Z32):Option Z32:=zK 231 x
def r0m (x:Z32):Option Z32:=(bif (decide ((x.2.1.2.length:Int) >(0:Int))) then((u0j (x.1,(x.2.1.2.length:Int))).bind fun y1=>(bif (y4q y1.1 x.2.1.2.length) then((u0j (y1.2,16)).bind fun y2=>(((bif (decide ((rdL u0a x.2.1.2 (y1.1).toNat).1=0)) then(some true) else(some (decide (y2.1<3)))):Option Bool).bind fun j3=>(bif j3 then((t3d x.2.1).bind fun y4=>(some (y2.2,(y4.1,x.2.2)))) else(bif (decide (y2.1<6)) then((u3e y2.2).bind fun y5=>((t0v (x.2.1,((rdL u0a x.2.1.2 (y1.1).toNat).1,y5.1))).bind fun y6=>(some (y5.2,(y6.1,x.2.2))))) else(bif (decide (y2.1<7)) then((u39 y2.2).bind fun y7=>((u6q (x.2.1,((rdL u0a x.2.1.2 (y1.1).toNat).1,y7.1))).bind fun y8=>(some (y7.2,(y8.1,x.2.2))))) else(bif (decide (y2.1<10)) then((u3f y2.2).bind fun y9=>((t0w (x.2.1,((rdL u0a x.2.1.2 (y1.1).toNat).1,y9.1))).bind fun y10=>(some (y9.2,(y10.1,x.2.2))))) else(bif (decide (y2.1<13)) then((u5j (x.2,(rdL u0a x.2.1.2 (y1.1).toNat).1)).bind fun y11=>(some (y2.2,y11.2))) else(bif (decide (y2.1=13)) then((u1m (y2.2,([(⟨#[112]⟩:ByteArray),(⟨#[113]⟩:ByteArray),(⟨#[114]⟩:ByteArray)] :List ByteArray))).bind fun y12=>((u40 (x.2,((rdL u0a x.2.1.2 (y1.1).toNat).1,y12.1))).bind fun y13=>(some (y12.2,y13.2)))) else(bif (decide (y2.1=14)) then((u1m (y2.2,([(⟨#[112]⟩:ByteArray),(⟨#[113]⟩:ByteArray),(⟨#[114]⟩:ByteArray)] :List ByteArray))).bind fun y14=>((u1l (y14.2,2)).bind fun y15=>((u5k (x.2,(y14.1,y15.1))).bind fun y16=>(some (y15.2,y16.2))))) else((u1l (y2.2,3)).bind fun y17=>(bif y17.1 then((u6o x.2).bind fun y18=>(some (y17.2,y18.1))) else((t3e (x.2.1,(rdL u0a x.2.1.2 (y1.1).toNat).1)).bind fun y19=>(some (y17.2,(y19.1,x.2.2))))))))))))))) else none)) else((u0j (x.1,16)).bind fun y20=>(((bif (decide ((0:Int)=(0:Int))) then(some true) else(some (decide (y20.1<3)))):Option Bool).bind fun j21=>(bif j21 then((t3d x.2.1).bind fun y22=>(some (y20.2,(y22.1,x.2.2)))) else(bif (decide (y20.1<6)) then((u3e y20.2).bind fun y23=>((t0v (x.2.1,(0,y23.1))).bind fun y24=>(some (y23.2,(y24.1,x.2.2))))) else(bif (decide (y20.1<7)) then((u39 y20.2).bind fun y25=>((u6q (x.2.1,(0,y25.1))).bind fun y26=>(some (y25.2,(y26.1,x.2.2))))) else(bif (decide (y20.1<10)) then((u3f y20.2).bind fun y27=>((t0w (x.2.1,(0,y27.1))).bind fun y28=>(some (y27.2,(y28.1,x.2.2))))) else(bif (decide (y20.1<13)) then((u5j (x.2,0)).bind fun y29=>(some (y20.2,y29.2))) else(bif (decide (y20.1=13)) then((u1m (y20.2,([(⟨#[112]⟩:ByteArray),(⟨#[113]⟩:ByteArray),(⟨#[114]⟩:ByteArray)] :List ByteArray))).bind fun y30=>((u40 (x.2,(0,y30.1))).bind fun y31=>(some (y30.2,y31.2)))) else(bif (decide (y20.1=14)) then((u1m (y20.2,([(⟨#[112]⟩:ByteArray),(⟨#[113]⟩:ByteArray),(⟨#[114]⟩:ByteArray)] :List ByteArray))).bind fun y32=>((u1l (y32.2,2)).bind fun y33=>((u5k (x.2,(y32.1,y33.1))).bind fun y34=>(some (y33.2,y34.2))))) else((u1l (y20.2,3)).bind fun y35=>(bif y35.1 then((u6o x.2).bind fun y36=>(some (y35.2,y36.1))) else((t3e (x.2.1,0)).bind fun y37=>(some (y35.2,(y37.1,x.2.2))))))))))))))))
theorem q2a:s01=r0m:=zC 231 rfl Tryz.func231 (by kernel_rfl)
def t52(x:p77):Option Z33:=zK 94 x
def t6i(g:Z8→Option (Z11⊕Unit))(x:Z8):Option (Z11⊕Unit):=((u0j (x.1,x.2.1)).bind fun y2=>(bif (decide (x.2.2.2.2<(IntKind.i64.wrap ((2:Int)+y2.1)))) then((s01 (y2.2,x.2.2.2.1)).bind fun y3=>(g (y3.1,(x.2.1,(x.2.2.1,(y3.2,(IntKind.i64.wrap (x.2.2.2.2+1)))))))) else(some (.inl (y2.2,(x.2.2.1,x.2.2.2.1))))))
def u8b:=lpW _ _ t6i
theorem r7p x:u8b x=t6i u8b x:=zW s5a 94 Tryz.f94 3 19 x (by kernel_rfl)
def r0n (x:p77):Option Z33:=((t8k ()).bind fun y1=>((u8b (x.1,(x.2,((((([] :List u0e.den),(([] :List u0a.den),(([] :List u0a.den),(0,0)))),([] :List u0a.den)),(([] :List ByteArray),([] :List p14.den))),(y1,0))))).bind fun r4=>match r4 with | .inl o5=>(some (o5.2.2,o5.1)) | .inr z6=>none))
theorem q2b:t52=r0n:=zC 94 rfl Tryz.func94 (by kernel_rfl)
def u8n(x:s2v):Option Z66:=zK 202 x
def r0d (x:s2v):Option Z66:=((t52 (x,24)).bind fun y1=>(some (y1.1.1.1,y1.2)))
theorem q11:u8n=r0d:=zC 202 rfl Tryz.func202 (by kernel_rfl)
def u5i(x:s2v):Option o2y:=zK 203 x
def u81(g:o2n→Option (o2x⊕Unit))(x:o2n):Option (o2x⊕Unit):=((u0j (x.1,4)).bind fun y1=>(bif (decide (x.2.2<y1.1)) then((u3f y1.2).bind fun y2=>((t4a (x.2.1,y2.1)).bind fun y3=>(g (y2.2,(y3,(IntKind.i64.wrap (x.2.2+1))))))) else(some (.inl (y1.2,x.2.1)))))
def u26:=lpW _ _ u81
theorem s0e x:u26 x=u81 u26 x:=zW t9t 203 Tryz.f203 3 17 x (by kernel_rfl)
def t6k (x:s2v):Option o2y:=((u26 (x,(([] :List u1x.den),0))).bind fun r4=>match r4 with | .inl o5=>(some (o5.2,o5.1)) | .inr z6=>none)
theorem s4c:u5i=t6k:=zC 203 rfl Tryz.func203 (by kernel_rfl)
def t6t(x:s2v):Option o21:=zK 445 x
def t3r(g:o2p→Option (o20⊕Unit))(x:o2p):Option (o20⊕Unit):=((u0j (x.1,4)).bind fun y1=>(bif (decide (x.2.2<y1.1)) then((u39 y1.2).bind fun y2=>(bif (Nat.ble (x.2.1.length+([y2.1] :List q2t.den).length) z7w) then(g (y2.2,((x.2.1++([y2.1] :List q2t.den)),(IntKind.i64.wrap (x.2.2+1))))) else none)) else(some (.inl (y1.2,x.2.1)))))
def u5s:=lpW _ _ t3r
theorem r4i x:u5s x=t3r u5s x:=zW t9s 445 Tryz.f445 3 18 x (by kernel_rfl)
def s36 (x:s2v):Option o21:=((u5s (x,(([] :List q2t.den),0))).bind fun r3=>match r3 with | .inl o4=>(some (o4.2,o4.1)) | .inr z5=>none)
theorem r7h:t6t=s36:=zC 445 rfl Tryz.func445 (by kernel_rfl)
def t4k(x:s2v):Option Z87:=zK 388 x
def r27 (x:s2v):Option Z87:=((u0j (x,6)).bind fun y1=>((u0j (y1.2,3)).bind fun y2=>((u0j (y2.2,6)).bind fun y3=>((t6t y3.2).bind fun y4=>((u5i y4.2).bind fun y5=>(bif (decide ((IntKind.i64.wrap ((1:Int)+y2.1))=2)) then((u3e y5.2).bind fun y6=>((u1l (y6.2,2)).bind fun y7=>(some (((IntKind.i64.wrap ((1:Int)+y1.1)),((IntKind.i64.wrap ((1:Int)+y2.1)),(y3.1,(0,(y4.1,(y5.1,(y7.1,y6.1))))))),y7.2)))) else(bif (decide ((IntKind.i64.wrap ((1:Int)+y2.1))=3)) then((u0j (y5.2,4)).bind fun y8=>((u1l (y8.2,2)).bind fun y9=>(some (((IntKind.i64.wrap ((1:Int)+y1.1)),((IntKind.i64.wrap ((1:Int)+y2.1)),(y3.1,((IntKind.i64.wrap ((IntKind.i64.wrap (y3.1+1))+y8.1)),(y4.1,(y5.1,(y9.1,(⟨#[]⟩:ByteArray)))))))),y9.2)))) else(some (((IntKind.i64.wrap ((1:Int)+y1.1)),((IntKind.i64.wrap ((1:Int)+y2.1)),(y3.1,(0,(y4.1,(y5.1,(false,(⟨#[]⟩:ByteArray)))))))),y5.2)))))))))
theorem q47:t4k=r27:=zC 388 rfl Tryz.func388 (by kernel_rfl)
def t6v(x:s2v):Option Z21:=zK 292 x
def s38 (x:s2v):Option Z21:=((u0j (x,4)).bind fun y1=>(bif (decide ((IntKind.i64.wrap ((1:Int)+y1.1))=1)) then((t4k y1.2).bind fun y2=>(some (((IntKind.i64.wrap ((1:Int)+y1.1)),((y2.1.1,(3,(y2.1.2.2.1,((IntKind.i64.wrap (y2.1.2.2.1+1)),(y2.1.2.2.2.2.1,(y2.1.2.2.2.2.2.1,(y2.1.2.2.2.2.2.2.1,(⟨#[]⟩:ByteArray)))))))),((⟨#[]⟩:ByteArray),(false,(([] :List u0e.den),(([] :List u0a.den),(([] :List u0a.den),(0,0)))))))),y2.2))) else(bif (decide ((IntKind.i64.wrap ((1:Int)+y1.1))=2)) then((t4k y1.2).bind fun y3=>(some (((IntKind.i64.wrap ((1:Int)+y1.1)),((y3.1.1,(2,(y3.1.2.2.1,(0,(y3.1.2.2.2.2.1,(y3.1.2.2.2.2.2.1,(y3.1.2.2.2.2.2.2.1,(⟨#[112]⟩:ByteArray)))))))),((⟨#[]⟩:ByteArray),(false,(([] :List u0e.den),(([] :List u0a.den),(([] :List u0a.den),(0,0)))))))),y3.2))) else(bif (decide ((IntKind.i64.wrap ((1:Int)+y1.1))=3)) then((u1m (y1.2,([(⟨#[112]⟩:ByteArray),(⟨#[113]⟩:ByteArray)] :List ByteArray))).bind fun y4=>((u1l (y4.2,2)).bind fun y5=>(some (((IntKind.i64.wrap ((1:Int)+y1.1)),((0,(0,(0,(0,(([] :List q2t.den),(([] :List u1x.den),(false,(⟨#[]⟩:ByteArray)))))))),(y4.1,(y5.1,(([] :List u0e.den),(([] :List u0a.den),(([] :List u0a.den),(0,0)))))))),y5.2)))) else((u8n y1.2).bind fun y6=>(some (((IntKind.i64.wrap ((1:Int)+y1.1)),((0,(0,(0,(0,(([] :List q2t.den),(([] :List u1x.den),(false,(⟨#[]⟩:ByteArray)))))))),((⟨#[]⟩:ByteArray),(false,y6.1)))),y6.2)))))))
theorem r7j:t6v=s38:=zC 292 rfl Tryz.func292 (by kernel_rfl)
def s3k(x:s2v):Option p9v:=zK 389 x
def r23 (x:s2v):Option p9v:=((u3f x).bind fun y1=>((u0j (y1.2,8)).bind fun y2=>(bif (decide (y2.1=0)) then((u1m (y2.2,([(⟨#[]⟩:ByteArray),(⟨#[65]⟩:ByteArray),(⟨#[97,98,99,100]⟩:ByteArray),(⟨#[97,98,99]⟩:ByteArray)] :List ByteArray))).bind fun y3=>(some ((y3.1,y1.1.2),y3.2))) else(bif (decide (y2.1=1)) then((u0j (y2.2,2)).bind fun y4=>((u8m ((IntKind.i64.wrap ((12:Int)+y4.1)),97)).bind fun y5=>(some ((y1.1.1,(y5,y1.1.2.2)),y4.2)))) else(bif (decide (y2.1=2)) then(some ((y1.1.1,(y1.1.2.1,true)),y2.2)) else(some (y1.1,y2.2)))))))
theorem q43:s3k=r23:=zC 389 rfl Tryz.func389 (by kernel_rfl)
def t4j(x:s2v):Option Z87:=zK 293 x
def r25 (x:s2v):Option Z87:=((u0j (x,12)).bind fun y1=>((u0j (y1.2,60)).bind fun y2=>((t4k y2.2).bind fun y3=>((u0w y3.1).bind fun y4=>(bif (decide (y1.1=0)) then(bif (y4q (Int.tmod y2.1 (3:Int)) ([(0:Int),9999,(10000:Int)] :List Int).length) then(some (((rdL (Ty.int .i64) ([(0:Int),9999,(10000:Int)] :List Int) ((Int.tmod y2.1 (3:Int))).toNat),y4.2),y3.2)) else none) else(bif (decide (y1.1=1)) then(some ((y4.1,((Int.tmod y2.1 (5:Int)),y4.2.2)),y3.2)) else(bif (decide (y1.1=2)) then(some ((y4.1,(y4.2.1,(y4.2.2.1,((Int.tmod y2.1 (4:Int)),y4.2.2.2.2)))),y3.2)) else(bif (decide (y1.1=3)) then(bif (y4q (Int.tmod y2.1 (3:Int)) ([(⟨#[]⟩:ByteArray),(⟨#[65]⟩:ByteArray),(⟨#[97,98]⟩:ByteArray)] :List ByteArray).length) then(some ((y4.1,(y4.2.1,(y4.2.2.1,(y4.2.2.2.1,(y4.2.2.2.2.1,(y4.2.2.2.2.2.1,(y4.2.2.2.2.2.2.1,(rdL Ty.str ([(⟨#[]⟩:ByteArray),(⟨#[65]⟩:ByteArray),(⟨#[97,98]⟩:ByteArray)] :List ByteArray) ((Int.tmod y2.1 (3:Int))).toNat)))))))),y3.2)) else none) else(bif (decide (y1.1=4)) then(bif (Nat.ble (y4.2.2.2.2.1.length+([((⟨#[98]⟩:ByteArray),(⟨#[97]⟩:ByteArray))] :List q2t.den).length) z7w) then(some ((y4.1,(y4.2.1,(y4.2.2.1,(y4.2.2.2.1,((y4.2.2.2.2.1++([((⟨#[98]⟩:ByteArray),(⟨#[97]⟩:ByteArray))] :List q2t.den)),y4.2.2.2.2.2))))),y3.2)) else none) else(bif (decide (y1.1=5)) then((s3k y3.2).bind fun y5=>(bif (Nat.ble (y4.2.2.2.2.2.1.length+([y5.1] :List u1x.den).length) z7w) then(some ((y4.1,(y4.2.1,(y4.2.2.1,(y4.2.2.2.1,(y4.2.2.2.2.1,((y4.2.2.2.2.2.1++([y5.1] :List u1x.den)),y4.2.2.2.2.2.2)))))),y5.2)) else none)) else(bif (decide (y1.1=6)) then(some ((y4.1,(y4.2.1,(y4.2.2.1,(y4.2.2.2.1,(y4.2.2.2.2.1,(y4.2.2.2.2.2.1,(true,y4.2.2.2.2.2.2.2))))))),y3.2)) else(some (y4,y3.2)))))))))))))
theorem q45:t4j=r25:=zC 293 rfl Tryz.func293 (by kernel_rfl)
def s3n(x:s2v):Option Z21:=zK 166 x
def r3a (x:s2v):Option Z21:=((u0j (x,10)).bind fun y1=>((u0j (y1.2,60)).bind fun y2=>((t6v y2.2).bind fun y3=>(bif (decide (y1.1=0)) then(some (((Int.tmod y2.1 (6:Int)),y3.1.2),y3.2)) else(bif (decide (y1.1=1)) then(bif (y4q (Int.tmod y2.1 (3:Int)) ([(⟨#[]⟩:ByteArray),(⟨#[65]⟩:ByteArray),(⟨#[112]⟩:ByteArray)] :List ByteArray).length) then(some ((y3.1.1,(y3.1.2.1,((rdL Ty.str ([(⟨#[]⟩:ByteArray),(⟨#[65]⟩:ByteArray),(⟨#[112]⟩:ByteArray)] :List ByteArray) ((Int.tmod y2.1 (3:Int))).toNat),y3.1.2.2.2))),y3.2)) else none) else(bif (decide (y1.1=2)) then((t4j y3.2).bind fun y4=>(some ((y3.1.1,(y4.1,y3.1.2.2)),y4.2))) else(bif (decide (y1.1=3)) then(some ((y3.1.1,(y3.1.2.1,(y3.1.2.2.1,(true,y3.1.2.2.2.2)))),y3.2)) else(some y3))))))))
theorem q5a:s3n=r3a:=zC 166 rfl Tryz.func166 (by kernel_rfl)
def t4i(x:s2v):Option p93:=zK 393 x
def t04(g:o2i→Option (o2v⊕Unit))(x:o2i):Option (o2v⊕Unit):=((u0j (x.1,8)).bind fun y1=>(bif (decide (x.2.2<y1.1)) then((u5i y1.2).bind fun y2=>((u5w (x.2.1,(y2.1,(IntKind.i64.wrap (x.2.2+1))))).bind fun y3=>(g (y2.2,(y3,(IntKind.i64.wrap (x.2.2+1))))))) else(some (.inl (y1.2,x.2.1)))))
def u4l:=lpW _ _ t04
theorem s83 x:u4l x=t04 u4l x:=zW t64 393 Tryz.f393 3 19 x (by kernel_rfl)
def t9f (x:s2v):Option p93:=((u4l (x,(([] :List u0e.den),0))).bind fun r4=>match r4 with | .inl o5=>(some (o5.2,o5.1)) | .inr z6=>none)
theorem r3s:t4i=t9f:=zC 393 rfl Tryz.func393 (by kernel_rfl)
def s3l(x:s2v):Option p93:=zK 311 x
def r24 (x:s2v):Option p93:=((u0j (x,10)).bind fun y1=>((u0j (y1.2,60)).bind fun y2=>((t4i y2.2).bind fun y3=>(bif (Nat.ble (([] :List u0e.den).length+y3.1.length) z7w) then(bif (decide (((([] :List u0e.den)++y3.1).length:Int) >(0:Int))) then(bif (!decide (((([] :List u0e.den)++y3.1).length:Int)=0)) then(bif (decide (y1.1=0)) then(bif (y4q (Int.tmod y2.1 (4:Int)) ([(0:Int),9999,10000,(3:Int)] :List Int).length) then(bif (y4q (Int.tmod y2.1 ((([] :List u0e.den)++y3.1).length:Int)) (([] :List u0e.den)++y3.1).length) then(some (((([] :List u0e.den)++y3.1).set ((Int.tmod y2.1 ((([] :List u0e.den)++y3.1).length:Int))).toNat ((rdL u0e (([] :List u0e.den)++y3.1) ((Int.tmod y2.1 ((([] :List u0e.den)++y3.1).length:Int))).toNat).1,((rdL u0e (([] :List u0e.den)++y3.1) ((Int.tmod y2.1 ((([] :List u0e.den)++y3.1).length:Int))).toNat).2.1,((rdL u0e (([] :List u0e.den)++y3.1) ((Int.tmod y2.1 ((([] :List u0e.den)++y3.1).length:Int))).toNat).2.2.1,(rdL (Ty.int .i64) ([(0:Int),9999,10000,(3:Int)] :List Int) ((Int.tmod y2.1 (4:Int))).toNat))))),y3.2)) else none) else none) else(bif (decide (y1.1=1)) then(bif (y4q (Int.tmod y2.1 (3:Int)) ([(⟨#[]⟩:ByteArray),(⟨#[65]⟩:ByteArray),(⟨#[122]⟩:ByteArray)] :List ByteArray).length) then(bif (y4q (Int.tmod y2.1 ((([] :List u0e.den)++y3.1).length:Int)) (([] :List u0e.den)++y3.1).length) then(some (((([] :List u0e.den)++y3.1).set ((Int.tmod y2.1 ((([] :List u0e.den)++y3.1).length:Int))).toNat ((rdL Ty.str ([(⟨#[]⟩:ByteArray),(⟨#[65]⟩:ByteArray),(⟨#[122]⟩:ByteArray)] :List ByteArray) ((Int.tmod y2.1 (3:Int))).toNat),(rdL u0e (([] :List u0e.den)++y3.1) ((Int.tmod y2.1 ((([] :List u0e.den)++y3.1).length:Int))).toNat).2)),y3.2)) else none) else none) else(bif (decide (y1.1=2)) then(bif (y4q (Int.tmod y2.1 ((([] :List u0e.den)++y3.1).length:Int)) (([] :List u0e.den)++y3.1).length) then(some (((([] :List u0e.den)++y3.1).set ((Int.tmod y2.1 ((([] :List u0e.den)++y3.1).length:Int))).toNat ((rdL u0e (([] :List u0e.den)++y3.1) ((Int.tmod y2.1 ((([] :List u0e.den)++y3.1).length:Int))).toNat).1,((rdL u0e (([] :List u0e.den)++y3.1) ((Int.tmod y2.1 ((([] :List u0e.den)++y3.1).length:Int))).toNat).2.1,(true,(rdL u0e (([] :List u0e.den)++y3.1) ((Int.tmod y2.1 ((([] :List u0e.den)++y3.1).length:Int))).toNat).2.2.2)))),y3.2)) else none) else(bif (decide (y1.1=3)) then((u8m (13,97)).bind fun y4=>(bif (y4q (Int.tmod y2.1 ((([] :List u0e.den)++y3.1).length:Int)) (([] :List u0e.den)++y3.1).length) then(some (((([] :List u0e.den)++y3.1).set ((Int.tmod y2.1 ((([] :List u0e.den)++y3.1).length:Int))).toNat ((rdL u0e (([] :List u0e.den)++y3.1) ((Int.tmod y2.1 ((([] :List u0e.den)++y3.1).length:Int))).toNat).1,(y4,(rdL u0e (([] :List u0e.den)++y3.1) ((Int.tmod y2.1 ((([] :List u0e.den)++y3.1).length:Int))).toNat).2.2))),y3.2)) else none)) else(some ((([] :List u0e.den)++y3.1),y3.2)))))) else none) else(some ((([] :List u0e.den)++y3.1),y3.2))) else none))))
theorem q44:s3l=r24:=zC 311 rfl Tryz.func311 (by kernel_rfl)
def s3m(x:s2v):Option Z66:=zK 183 x
def r29 (x:s2v):Option Z66:=((u0j (x,14)).bind fun y1=>((u0j (y1.2,60)).bind fun y2=>((u8n y2.2).bind fun y3=>((u13 y3.1).bind fun y4=>(bif (decide (y1.1=0)) then(bif (y4q (Int.tmod y2.1 (4:Int)) ([(0:Int),1,9999,(10000:Int)] :List Int).length) then(some ((y4.1,(y4.2.1,(y4.2.2.1,((rdL (Ty.int .i64) ([(0:Int),1,9999,(10000:Int)] :List Int) ((Int.tmod y2.1 (4:Int))).toNat),y4.2.2.2.2)))),y3.2)) else none) else(bif (decide (y1.1=1)) then(some ((y4.1,(y4.2.1,(y4.2.2.1,(y4.2.2.2.1,(Int.tmod y2.1 (4:Int)))))),y3.2)) else(bif (decide (y1.1=2)) then((t4j y3.2).bind fun y5=>(bif (Nat.ble (y4.2.1.length+([y5.1] :List u0a.den).length) z7w) then(some ((y4.1,((y4.2.1++([y5.1] :List u0a.den)),y4.2.2)),y5.2)) else none)) else(bif (decide (y1.1=3)) then((t4j y3.2).bind fun y6=>(bif (Nat.ble (y4.2.2.1.length+([y6.1] :List u0a.den).length) z7w) then(some ((y4.1,(y4.2.1,((y4.2.2.1++([y6.1] :List u0a.den)),y4.2.2.2))),y6.2)) else none)) else(bif (decide (y1.1=4)) then((s3l y3.2).bind fun y7=>(some ((y7.1,y4.2),y7.2))) else(some (y4,y3.2)))))))))))
theorem q49:s3m=r29:=zC 183 rfl Tryz.func183 (by kernel_rfl)
def t4z(x:q0o):Option Z16:=zK 71 x
def s07 (x:q0o):Option Z16:=((t4f x).bind fun y1=>((u0j (y1,4)).bind fun y2=>((s3n y2.2).bind fun y3=>((s3m y3.2).bind fun y4=>(((bif (decide (y2.1 >0)) then(some (decide (y3.1.1=1))) else(some false)):Option Bool).bind fun j5=>(bif j5 then(((bif (decide (y2.1 >0)) then(some (decide (y3.1.1=2))) else(some false)):Option Bool).bind fun j6=>(bif j6 then(some (y4.1,(y3.1.1,((y4.1.2.2.2.2,(y3.1.2.1.2.1,(y4.1.2.2.2.1,((IntKind.i64.wrap (y4.1.2.2.2.1+1)),y3.1.2.1.2.2.2.2)))),y3.1.2.2)))) else(some (y4.1,(y3.1.1,((y4.1.2.2.2.2,(y3.1.2.1.2.1,(y4.1.2.2.2.1,((IntKind.i64.wrap (y4.1.2.2.2.1+1)),y3.1.2.1.2.2.2.2)))),y3.1.2.2)))))) else(((bif (decide (y2.1 >0)) then(some (decide (y3.1.1=2))) else(some false)):Option Bool).bind fun j7=>(bif j7 then(some (y4.1,(y3.1.1,((y4.1.2.2.2.2,(y3.1.2.1.2.1,(y4.1.2.2.2.1,y3.1.2.1.2.2.2))),y3.1.2.2)))) else(some (y4.1,y3.1))))))))))
theorem r4z:t4z=s07:=zC 71 rfl Tryz.func71 (by kernel_rfl)
def t2o(x:Z97):Option Bool:=zK 149 x
def s3t (x:Z97):Option Bool:=(some (z7o x.1.2.2.2.2.2.2.2 x.2))
theorem r63:t2o=s3t:=zC 149 rfl Tryz.func149 (by kernel_rfl)
def u3p(x:p7z):Option Int:=zK 10011 x
def u2w(g:p7y→Option q55)(x:p7y):Option q55:=(bif (decide (x.2.2.2<x.2.2.1)) then(bif (y4q x.2.2.2 x.1.length) then((t2o ((rdL u0a x.1 (x.2.2.2).toNat),x.2.1)).bind fun y1=>(bif y1 then(some (.inr x.2.2.2)) else(g (x.1,(x.2.1,(x.2.2.1,(IntKind.i64.wrap (x.2.2.2+1)))))))) else none) else(some (.inl ())))
def u07:=lpW _ _ u2w
theorem u6y x:u07 x=u2w u07 x:=zW u21 10011 Tryz.f148 2 19 x (by kernel_rfl)
def u3l (x:p7z):Option Int:=((u07 (x.1,(x.2,((x.1.length:Int),0)))).bind fun r2=>match r2 with | .inl o3=>(some (-1:Int)) | .inr z4=>(some z4))
theorem u8f:u3p=u3l:=zC 10011 rfl Tryz.func148 (by kernel_rfl)
def t5q(x:Z81):Option Int:=zK 42 x
def s9d (x:Z81):Option Int:=((u3p (x.1.2.2.1,x.2)).bind fun y1=>(some y1))
theorem q02:t5q=s9d:=zC 42 rfl Tryz.func42 (by kernel_rfl)
def t37(x:t0t):Option Bool:=zK 125 x
def r2i (x:t0t):Option Bool:=(some (decide (x.2.1=3)))
theorem r3m:t37=r2i:=zC 125 rfl Tryz.func125 (by kernel_rfl)
def t36(x:Z49):Option Bool:=zK 289 x
def r2h (x:Z49):Option Bool:=(some (decide (x.1.1=x.2.1)))
theorem r3l:t36=r2h:=zC 289 rfl Tryz.func289 (by kernel_rfl)
def u23(x:Z76):Option Int:=zK 10002 x
def u2j(g:Z65→Option q55)(x:Z65):Option q55:=(bif (decide (x.2.2.2<x.2.2.1)) then(bif (y4q x.2.2.2 x.1.length) then((t36 ((rdL u0a x.1 (x.2.2.2).toNat),x.2.1)).bind fun y1=>(bif y1 then(some (.inr x.2.2.2)) else(g (x.1,(x.2.1,(x.2.2.1,(IntKind.i64.wrap (x.2.2.2+1)))))))) else none) else(some (.inl ())))
def u0y:=lpW _ _ u2j
theorem u55 x:u0y x=u2j u0y x:=zW u2k 10002 Tryz.f148 2 19 x (by kernel_rfl)
def u2y (x:Z76):Option Int:=((u0y (x.1,(x.2,((x.1.length:Int),0)))).bind fun r2=>match r2 with | .inl o3=>(some (-1:Int)) | .inr z4=>(some z4))
theorem u6v:u23=u2y:=zC 10002 rfl Tryz.func148 (by kernel_rfl)
def u2d(x:Z76):Option Bool:=zK 10001 x
def u2c (x:Z76):Option Bool:=((u23 x).bind fun y1=>(some (decide (y1≥0))))
theorem u5z:u2d=u2c:=zC 10001 rfl Tryz.func261 (by kernel_rfl)
def u4q(x:Z76):Option Bool:=zK 10000 x
def u85 (x:Z76):Option Bool:=((u2d x).bind fun y1=>(some y1))
theorem t7c:u4q=u85:=zC 10000 rfl Tryz.func127 (by kernel_rfl)
def t2p(x:p4n):Option Bool:=zK 163 x
def u8u(g:o1p→Option r1i)(x:o1p):Option r1i:=(bif (decide (x.2.2.2.2<x.2.2.2.1)) then(bif (y4q x.2.2.2.2 x.2.2.1.length) then(bif (decide ((rdL u0a x.2.2.1 (x.2.2.2.2).toNat).1≥x.2.1)) then(some (.inr false)) else(bif (decide (0≤(0:Int))&&decide ((0:Int)≤x.2.2.2.2)&&decide (x.2.2.2.2≤(x.1.length:Int))) then((u4q (((x.1.take (x.2.2.2.2).toNat).drop ((0:Int)).toNat),(rdL u0a x.2.2.1 (x.2.2.2.2).toNat))).bind fun y1=>(bif y1 then(some (.inr false)) else(g (x.1,(x.2.1,(x.2.2.1,(x.2.2.2.1,(IntKind.i64.wrap (x.2.2.2.2+1))))))))) else none)) else none) else(some (.inl ())))
def u82:=lpW _ _ u8u
theorem t97 x:u82 x=u8u u82 x:=zW t9l 163 Tryz.f163 2 26 x (by kernel_rfl)
def s3w (x:p4n):Option Bool:=((u82 (x.1,(x.2,(x.1,((x.1.length:Int),0))))).bind fun r2=>match r2 with | .inl o3=>(some true) | .inr z4=>(some z4))
theorem r67:t2p=s3w:=zC 163 rfl Tryz.func163 (by kernel_rfl)
def u8q(x:(Unit×Int)):Option r7y:=zK 290 x
def t4s (x:(Unit×Int)):Option r7y:=(bif (decide (x.2<0)) then none else(bif (decide ((IntKind.i64.wrap (x.2 - (IntKind.i64.wrap ((0:Int) - (0:Int))))) >0)) then(bif (decide (0≤(0:Int))&&decide ((0:Int)≤(0:Int))&&decide ((0:Int)≤0)) then(bif (decide (1≤(IntKind.i64.wrap (x.2 - (IntKind.i64.wrap ((0:Int) - (0:Int))))))&&decide ((IntKind.i64.wrap (x.2 - (IntKind.i64.wrap ((0:Int) - (0:Int)))))≤1099511627776)) then(bif (decide (0≤(0:Int))&&decide ((0:Int)≤(0:Int))&&decide ((0:Int)≤((List.replicate ((IntKind.i64.wrap (x.2 - (IntKind.i64.wrap ((0:Int) - (0:Int)))))).toNat (u0a).zero).length:Int))) then(some ((List.replicate ((IntKind.i64.wrap (x.2 - (IntKind.i64.wrap ((0:Int) - (0:Int)))))).toNat (u0a).zero).take (((0:Int)).toNat - ((0:Int)).toNat))) else none) else none) else none) else(some ([] :List u0a.den))))
theorem s57:u8q=t4s:=zC 290 rfl Tryz.func290 (by kernel_rfl)
def u4d(x:p71):Option r7y:=zK 164 x
def u3t(g:Z94→Option (o2u⊕Unit))(x:Z94):Option (o2u⊕Unit):=(bif (decide (x.2.2.2.2<x.2.2.2.1)) then(bif (y4q x.2.2.2.2 x.2.2.1.length) then(bif (decide ((IntKind.i64.wrap (x.2.1+((rdL (Ty.sl u0a) x.2.2.1 (x.2.2.2.2).toNat).length:Int)))<0)) then none else(g (x.1,((IntKind.i64.wrap (x.2.1+((rdL (Ty.sl u0a) x.2.2.1 (x.2.2.2.2).toNat).length:Int))),(x.2.2.1,(x.2.2.2.1,(IntKind.i64.wrap (x.2.2.2.2+1)))))))) else none) else(some (.inl (x.1,x.2.1))))
def u17:=lpW _ _ u3t
theorem t03 x:u17 x=u3t u17 x:=zW t02 164 Tryz.f164 3 36 x (by kernel_rfl)
def u24(g:o1q→Option p75)(x:o1q):Option p75:=(bif (decide (x.2.2.2<x.2.2.1)) then(bif (y4q x.2.2.2 x.2.1.length) then(bif (Nat.ble (x.1.length+(rdL (Ty.sl u0a) x.2.1 (x.2.2.2).toNat).length) z7w) then(g ((x.1++(rdL (Ty.sl u0a) x.2.1 (x.2.2.2).toNat)),(x.2.1,(x.2.2.1,(IntKind.i64.wrap (x.2.2.2+1)))))) else none) else none) else(some (.inl x.1)))
def u11:=lpW _ _ u24
theorem u9y x:u11 x=u24 u11 x:=zW u9s 164 Tryz.f164 11 36 x (by kernel_rfl)
def t28 (x:p71):Option r7y:=((u17 (x,(0,(x,((x.length:Int),0))))).bind fun r1=>match r1 with | .inl o2=>((u8q ((),o2.2)).bind fun y3=>((u11 (y3,(o2.1,((o2.1.length:Int),0)))).bind fun r4=>match r4 with | .inl o5=>(some o5) | .inr z6=>none)) | .inr z7=>none)
theorem s1k:u4d=t28:=zC 164 rfl Tryz.func164 (by kernel_rfl)
def u2h(x:(Int×p4a)):Option Bool:=zK 205 x
def r2k (x:(Int×p4a)):Option Bool:=(((bif (decide (x.1≥x.2.1)) then(some (decide (x.1≤x.2.2))) else(some false)):Option Bool).bind fun j1=>(some j1))
theorem q4k:u2h=r2k:=zC 205 rfl Tryz.func205 (by kernel_rfl)
def u60(x:ByteArray):Option Bool:=zK 142 x
def t48(g:q8g→Option o0h)(x:q8g):Option o0h:=(bif (decide (x.2<(x.1.size:Int))) then(((bif (y4q x.2 x.1.size) then(bif (decide (((x.1.data.toList.getD (x.2).toNat 0).toNat:Int)<(97:Int))) then(some true) else(bif (y4q x.2 x.1.size) then(some (decide (((x.1.data.toList.getD (x.2).toNat 0).toNat:Int) >(122:Int)))) else none)) else none):Option Bool).bind fun j1=>(bif j1 then(some (.inr false)) else(g (x.1,(IntKind.i64.wrap (x.2+1)))))) else(some (.inl x.1)))
def t5g:=lpW _ _ t48
theorem r09 x:t5g x=t48 t5g x:=zW r0w 142 Tryz.f142 2 23 x (by kernel_rfl)
def r5x (x:ByteArray):Option Bool:=((t5g (x,0)).bind fun r2=>match r2 with | .inl o3=>((u2h ((o3.size:Int),(1,3))).bind fun y4=>(some y4)) | .inr z5=>(some z5))
theorem q6w:u60=r5x:=zC 142 rfl Tryz.func142 (by kernel_rfl)
def s0j(x:p74):Option Bool:=zK 208 x
def s9c (x:p74):Option Bool:=((((u60 x.1).bind fun y1=>(bif y1 then((u60 x.2).bind fun y2=>(bif y2 then(some (y3c x.1 x.2 || z7o x.1 x.2)) else(some false))) else(some false))):Option Bool).bind fun j3=>(some j3))
theorem q01:s0j=s9c:=zC 208 rfl Tryz.func208 (by kernel_rfl)
def s0m(x:o0i):Option Bool:=zK 157 x
def s9h (x:o0i):Option Bool:=((((u60 x.1).bind fun y1=>(bif y1 then(bif (decide ((x.2.1.size:Int)≤(12:Int))) then(bif (!x.2.2) then(some true) else(some (z7o x.2.1 (⟨#[]⟩:ByteArray)))) else(some false)) else(some false))):Option Bool).bind fun j2=>(some j2))
theorem q06:s0m=s9h:=zC 157 rfl Tryz.func157 (by kernel_rfl)
def t8c(x:q8h):Option Bool:=zK 291 x
def u93(g:p90→Option (q8h⊕Bool))(x:p90):Option (q8h⊕Bool):=(bif (decide (x.2.2.2<x.2.2.1)) then(bif (y4q x.2.2.2 x.2.1.length) then((((s0m (rdL u1x x.2.1 (x.2.2.2).toNat)).bind fun y1=>(bif (!y1) then(some true) else(bif (decide (x.2.2.2 >0)) then(bif (y4q (IntKind.i64.wrap (x.2.2.2 - 1)) x.1.length) then(some (!y3c (rdL u1x x.1 ((IntKind.i64.wrap (x.2.2.2 - 1))).toNat).1 (rdL u1x x.2.1 (x.2.2.2).toNat).1)) else none) else(some false)))):Option Bool).bind fun j2=>(bif j2 then(some (.inr false)) else(g (x.1,(x.2.1,(x.2.2.1,(IntKind.i64.wrap (x.2.2.2+1)))))))) else none) else(some (.inl x.1)))
def t0l:=lpW _ _ u93
theorem s2f x:t0l x=u93 t0l x:=zW s1r 291 Tryz.f291 2 34 x (by kernel_rfl)
def s6j (x:q8h):Option Bool:=((t0l (x,(x,((x.length:Int),0)))).bind fun r3=>match r3 with | .inl o4=>(some (decide ((o4.length:Int)≤(8:Int)))) | .inr z5=>(some z5))
theorem r8s:t8c=s6j:=zC 291 rfl Tryz.func291 (by kernel_rfl)
def t3b(x:t0t):Option Bool:=zK 165 x
def t49(g:Z82→Option (t0t⊕Bool))(x:Z82):Option (t0t⊕Bool):=(bif (decide (x.2.2.2<x.2.2.1)) then(bif (y4q x.2.2.2 x.2.1.length) then((s0j (rdL q2t x.2.1 (x.2.2.2).toNat)).bind fun y1=>(bif (!y1) then(some (.inr false)) else(g (x.1,(x.2.1,(x.2.2.1,(IntKind.i64.wrap (x.2.2.2+1)))))))) else none) else(some (.inl x.1)))
def t5h:=lpW _ _ t49
theorem r1a x:t5h x=t49 t5h x:=zW r0x 165 Tryz.f165 2 93 x (by kernel_rfl)
def r5z (x:t0t):Option Bool:=((t5h (x,(x.2.2.2.2.1,((x.2.2.2.2.1.length:Int),0)))).bind fun r2=>match r2 with | .inl o3=>((((u2h (o3.1,(1,9999))).bind fun y4=>(bif (!y4) then(some true) else((u2h (o3.2.1,(1,3))).bind fun y5=>(bif (!y5) then(some true) else((u2h (o3.2.2.1,(0,9999))).bind fun y6=>(bif (!y6) then(some true) else(bif (decide ((o3.2.2.2.2.1.length:Int) >(8:Int))) then(some true) else((t8c o3.2.2.2.2.2.1).bind fun y7=>(bif (!y7) then(some true) else(bif o3.2.2.2.2.2.2.1 then(some (decide (o3.2.1=1))) else(some false))))))))))):Option Bool).bind fun j8=>(bif j8 then(some false) else(((bif (decide (o3.2.1=3)) then((u2h (o3.2.2.2.1,((IntKind.i64.wrap (o3.2.2.1+1)),9999))).bind fun y9=>(bif (!y9) then(some true) else(bif (!decide (o3.2.1=3)) then(some (!decide (o3.2.2.2.1=0))) else(some false)))) else(bif (!decide (o3.2.1=3)) then(some (!decide (o3.2.2.2.1=0))) else(some false))):Option Bool).bind fun j10=>(bif j10 then(some false) else(((bif (decide (o3.2.1=2)) then((u60 o3.2.2.2.2.2.2.2).bind fun y11=>(bif y11 then(some true) else(bif (!decide (o3.2.1=2)) then(some (z7o o3.2.2.2.2.2.2.2 (⟨#[]⟩:ByteArray))) else(some false)))) else(bif (!decide (o3.2.1=2)) then(some (z7o o3.2.2.2.2.2.2.2 (⟨#[]⟩:ByteArray))) else(some false))):Option Bool).bind fun j12=>(some j12)))))) | .inr z13=>(some z13))
theorem q6y:t3b=r5z:=zC 165 rfl Tryz.func165 (by kernel_rfl)
def t5r(x:t0t):Option Bool:=zK 195 x
def q0x (x:t0t):Option Bool:=(some (decide (x.2.1=2)))
theorem q08:t5r=q0x:=zC 195 rfl Tryz.func195 (by kernel_rfl)
def u86(x:ByteArray):Option Bool:=zK 433 x
def t9a (x:ByteArray):Option Bool:=(some (!z7o x x))
theorem r3j:u86=t9a:=zC 433 rfl Tryz.func433 (by kernel_rfl)
def t06(x:p74):Option Int:=zK 372 x
def t6y (x:p74):Option Int:=((u86 x.1).bind fun y1=>((u86 x.2).bind fun y2=>(bif y1 then(bif y2 then(some (0:Int)) else(some (-1:Int))) else(bif y2 then(some (1:Int)) else(bif (y3c x.1 x.2) then(some (-1:Int)) else(bif (!(y3c x.1 x.2 || z7o x.1 x.2)) then(some (1:Int)) else(some (0:Int))))))))
theorem s8y:t06=t6y:=zC 372 rfl Tryz.func372 (by kernel_rfl)
def t33(x:Int):Option Bool:=zK 434 x
def s6f (x:Int):Option Bool:=(some (!decide (x=x)))
theorem r8n:t33=s6f:=zC 434 rfl Tryz.func434 (by kernel_rfl)
def t4w(x:p4a):Option Int:=zK 373 x
def s04 (x:p4a):Option Int:=((t33 x.1).bind fun y1=>((t33 x.2).bind fun y2=>(bif y1 then(bif y2 then(some (0:Int)) else(some (-1:Int))) else(bif y2 then(some (1:Int)) else(bif (decide (x.1<x.2)) then(some (-1:Int)) else(bif (decide (x.1 >x.2)) then(some (1:Int)) else(some (0:Int))))))))
theorem r4w:t4w=s04:=zC 373 rfl Tryz.func373 (by kernel_rfl)
def u38(x:p9r):Option Int:=zK 256 x
def u9n (x:p9r):Option Int:=((t06 (x.1.1,x.2.1)).bind fun y1=>(bif (!decide (y1=0)) then(some y1) else((t4w (x.1.2.2.2,x.2.2.2.2)).bind fun y2=>(some y2))))
theorem t57:u38=u9n:=zC 256 rfl Tryz.func256 (by kernel_rfl)
def t4x(x:q0s):Option Bool:=zK 204 x
def u61(g:p9x→Option (q0s⊕Bool))(x:p9x):Option (q0s⊕Bool):=(bif (decide (x.2.2.2<x.2.2.1)) then(bif (y4q x.2.2.2 x.2.1.length) then((((u60 (rdL u0e x.2.1 (x.2.2.2).toNat).1).bind fun y1=>(bif (!y1) then(some true) else(bif (decide (((rdL u0e x.2.1 (x.2.2.2).toNat).2.1.size:Int) >(12:Int))) then(some true) else(bif (rdL u0e x.2.1 (x.2.2.2).toNat).2.2.1 then(bif (!z7o (rdL u0e x.2.1 (x.2.2.2).toNat).2.1 (⟨#[]⟩:ByteArray)) then(some true) else((u2h ((rdL u0e x.2.1 (x.2.2.2).toNat).2.2.2,(1,9999))).bind fun y2=>(bif (!y2) then(some true) else(bif (decide (x.2.2.2 >0)) then(bif (y4q (IntKind.i64.wrap (x.2.2.2 - 1)) x.1.length) then((u38 ((rdL u0e x.1 ((IntKind.i64.wrap (x.2.2.2 - 1))).toNat),(rdL u0e x.2.1 (x.2.2.2).toNat))).bind fun y3=>(some (decide (y3≥0)))) else none) else(some false))))) else((u2h ((rdL u0e x.2.1 (x.2.2.2).toNat).2.2.2,(1,9999))).bind fun y4=>(bif (!y4) then(some true) else(bif (decide (x.2.2.2 >0)) then(bif (y4q (IntKind.i64.wrap (x.2.2.2 - 1)) x.1.length) then((u38 ((rdL u0e x.1 ((IntKind.i64.wrap (x.2.2.2 - 1))).toNat),(rdL u0e x.2.1 (x.2.2.2).toNat))).bind fun y5=>(some (decide (y5≥0)))) else none) else(some false)))))))):Option Bool).bind fun j6=>(bif j6 then(some (.inr false)) else(g (x.1,(x.2.1,(x.2.2.1,(IntKind.i64.wrap (x.2.2.2+1)))))))) else none) else(some (.inl x.1)))
def u67:=lpW _ _ u61
theorem t8w x:u67 x=u61 u67 x:=zW t70 204 Tryz.f204 2 55 x (by kernel_rfl)
def s05 (x:q0s):Option Bool:=((u67 (x,(x,((x.length:Int),0)))).bind fun r7=>match r7 with | .inl o8=>(some (decide ((o8.length:Int)≤(120:Int)))) | .inr z9=>(some z9))
theorem r4x:t4x=s05:=zC 204 rfl Tryz.func204 (by kernel_rfl)
def u2g(x:Z92):Option Bool:=zK 76 x
def t3k(g:Z62→Option p6n)(x:Z62):Option p6n:=(bif (decide (x.2.2.2<x.2.2.1)) then(bif (y4q x.2.2.2 x.2.1.length) then(bif (decide ((rdL u0e x.2.1 (x.2.2.2).toNat).2.2.2 >x.1.2.2.2.1)) then(some (.inr false)) else(g (x.1,(x.2.1,(x.2.2.1,(IntKind.i64.wrap (x.2.2.2+1))))))) else none) else(some (.inl x.1)))
def u9f:=lpW _ _ t3k
theorem s8b x:u9f x=t3k u9f x:=zW s7k 76 Tryz.f76 4 139 x (by kernel_rfl)
def t1n(g:Z57→Option p6n)(x:Z57):Option p6n:=(bif (decide (x.2.2.2<x.2.2.1)) then(bif (y4q x.2.2.2 x.2.1.length) then((((t3b (rdL u0a x.2.1 (x.2.2.2).toNat)).bind fun y7=>(bif (!y7) then(some true) else((t37 (rdL u0a x.2.1 (x.2.2.2).toNat)).bind fun y8=>(bif (!y8) then(some true) else(bif (decide ((rdL u0a x.2.1 (x.2.2.2).toNat).2.2.2.1 >x.1.2.2.2.1)) then(some true) else(bif (decide (x.2.2.2 >0)) then(bif (y4q (IntKind.i64.wrap (x.2.2.2 - 1)) x.1.2.1.length) then(some (decide ((rdL u0a x.1.2.1 ((IntKind.i64.wrap (x.2.2.2 - 1))).toNat).2.2.2.1≥(rdL u0a x.2.1 (x.2.2.2).toNat).2.2.2.1))) else none) else(some false))))))):Option Bool).bind fun j9=>(bif j9 then(some (.inr false)) else(g (x.1,(x.2.1,(x.2.2.1,(IntKind.i64.wrap (x.2.2.2+1)))))))) else none) else(some (.inl x.1)))
def u7s:=lpW _ _ t1n
theorem s5b x:u7s x=t1n u7s x:=zW s4d 76 Tryz.f76 10 139 x (by kernel_rfl)
def t1o(g:Z57→Option p6n)(x:Z57):Option p6n:=(bif (decide (x.2.2.2<x.2.2.1)) then(bif (y4q x.2.2.2 x.2.1.length) then((((t3b (rdL u0a x.2.1 (x.2.2.2).toNat)).bind fun y12=>(bif (!y12) then(some true) else((t5r (rdL u0a x.2.1 (x.2.2.2).toNat)).bind fun y13=>(bif (!y13) then(some true) else(bif (decide ((rdL u0a x.2.1 (x.2.2.2).toNat).2.2.1 >x.1.2.2.2.1)) then(some true) else(bif (decide (x.2.2.2 >0)) then(bif (y4q (IntKind.i64.wrap (x.2.2.2 - 1)) x.1.2.2.1.length) then(some (!y3c (rdL u0a x.1.2.2.1 ((IntKind.i64.wrap (x.2.2.2 - 1))).toNat).2.2.2.2.2.2.2 (rdL u0a x.2.1 (x.2.2.2).toNat).2.2.2.2.2.2.2)) else none) else(some false))))))):Option Bool).bind fun j14=>(bif j14 then(some (.inr false)) else(g (x.1,(x.2.1,(x.2.2.1,(IntKind.i64.wrap (x.2.2.2+1)))))))) else none) else(some (.inl x.1)))
def u7t:=lpW _ _ t1o
theorem s5c x:u7t x=t1o u7t x:=zW s4e 76 Tryz.f76 16 139 x (by kernel_rfl)
def r2d (x:Z92):Option Bool:=((((t4x x.1).bind fun y1=>(bif (!y1) then(some true) else(bif (decide ((x.2.1.length:Int) >(12:Int))) then(some true) else(bif (decide ((x.2.2.1.length:Int) >(3:Int))) then(some true) else((u2h (x.2.2.2.1,(0,9999))).bind fun y2=>(bif (!y2) then(some true) else((u2h (x.2.2.2.2,(1,9999))).bind fun y3=>(some (!y3))))))))):Option Bool).bind fun j4=>(bif j4 then(some false) else((u9f (x,(x.1,((x.1.length:Int),0)))).bind fun r5=>match r5 with | .inl o6=>((u7s (o6,(o6.2.1,((o6.2.1.length:Int),0)))).bind fun r10=>match r10 with | .inl o11=>((u7t (o11,(o11.2.2.1,((o11.2.2.1.length:Int),0)))).bind fun r15=>match r15 with | .inl o16=>((u4d ([o16.2.1,o16.2.2.1] :List r7y)).bind fun y17=>((t2p (y17,o16.2.2.2.2)).bind fun y18=>(some y18))) | .inr z19=>(some z19)) | .inr z20=>(some z20)) | .inr z21=>(some z21))))
theorem q4f:u2g=r2d:=zC 76 rfl Tryz.func76 (by kernel_rfl)
def t8d(x:t0t):Option Bool:=zK 193 x
def s6m (x:t0t):Option Bool:=(((bif (decide (x.1=0)) then(bif (decide (x.2.1=0)) then(bif (decide (x.2.2.1=0)) then(bif (decide (x.2.2.2.1=0)) then(bif (decide ((x.2.2.2.2.1.length:Int)=(0:Int))) then(bif (decide ((x.2.2.2.2.2.1.length:Int)=(0:Int))) then(bif (!x.2.2.2.2.2.2.1) then(some (z7o x.2.2.2.2.2.2.2 (⟨#[]⟩:ByteArray))) else(some false)) else(some false)) else(some false)) else(some false)) else(some false)) else(some false)) else(some false)):Option Bool).bind fun j1=>(some j1))
theorem r8v:t8d=s6m:=zC 193 rfl Tryz.func193 (by kernel_rfl)
def t6p(x:Z92):Option Bool:=zK 194 x
def s3v (x:Z92):Option Bool:=(((bif (decide ((x.1.length:Int)=(0:Int))) then(bif (decide ((x.2.1.length:Int)=(0:Int))) then(bif (decide ((x.2.2.1.length:Int)=(0:Int))) then(bif (decide (x.2.2.2.1=0)) then(some (decide (x.2.2.2.2=0))) else(some false)) else(some false)) else(some false)) else(some false)):Option Bool).bind fun j1=>(some j1))
theorem r66:t6p=s3v:=zC 194 rfl Tryz.func194 (by kernel_rfl)
def t8b(x:Z29):Option Bool:=zK 67 x
def s6i (x:Z29):Option Bool:=((t8d x.2.1).bind fun y1=>((t6p x.2.2.2.2).bind fun y2=>(bif (decide (x.1=1)) then((((t3b x.2.1).bind fun y3=>(bif y3 then((t37 x.2.1).bind fun y4=>(some y4)) else(some false))):Option Bool).bind fun j5=>(((bif j5 then(bif (z7o x.2.2.1 (⟨#[]⟩:ByteArray)) then(bif y2 then(bif (!x.2.2.2.1) then(some true) else(some (decide (x.1=3)))) else(some false)) else(some false)) else(some false)):Option Bool).bind fun j6=>(some j6))) else(bif (decide (x.1=2)) then((((t3b x.2.1).bind fun y7=>(bif y7 then((t5r x.2.1).bind fun y8=>(some y8)) else(some false))):Option Bool).bind fun j9=>(((bif j9 then(bif (z7o x.2.2.1 (⟨#[]⟩:ByteArray)) then(bif y2 then(bif (!x.2.2.2.1) then(some true) else(some (decide (x.1=3)))) else(some false)) else(some false)) else(some false)):Option Bool).bind fun j10=>(some j10))) else(bif (decide (x.1=3)) then((u60 x.2.2.1).bind fun y11=>(((bif y1 then(bif y11 then(bif y2 then(bif (!x.2.2.2.1) then(some true) else(some (decide (x.1=3)))) else(some false)) else(some false)) else(some false)):Option Bool).bind fun j12=>(some j12))) else(bif (decide (x.1=4)) then((u2g x.2.2.2.2).bind fun y13=>(((bif y1 then(bif (z7o x.2.2.1 (⟨#[]⟩:ByteArray)) then(bif y13 then(bif (!x.2.2.2.1) then(some true) else(some (decide (x.1=3)))) else(some false)) else(some false)) else(some false)):Option Bool).bind fun j14=>(some j14))) else(some false)))))))
theorem r8q:t8b=s6i:=zC 67 rfl Tryz.func67 (by kernel_rfl)
def t1f(x:t0t):Option t0t:=zK 147 x
def s9i (x:t0t):Option t0t:=(bif (Nat.ble x.2.2.2.2.1.length z7w) then(bif (Nat.ble x.2.2.2.2.2.1.length z7w) then(some x) else none) else none)
theorem q07:t1f=s9i:=zC 147 rfl Tryz.func147 (by kernel_rfl)
def t35(x:r7y):Option r7y:=zK 271 x
def u94(g:o01→Option p75)(x:o01):Option p75:=(bif (decide (x.2.2.2<x.2.2.1)) then(bif (y4q x.2.2.2 x.2.1.length) then((t1f (rdL u0a x.2.1 (x.2.2.2).toNat)).bind fun y1=>(bif (Nat.ble (x.1.length+([y1] :List u0a.den).length) z7w) then(g ((x.1++([y1] :List u0a.den)),(x.2.1,(x.2.2.1,(IntKind.i64.wrap (x.2.2.2+1)))))) else none)) else none) else(some (.inl x.1)))
def t0m:=lpW _ _ u94
theorem s2g x:t0m x=u94 t0m x:=zW s1s 271 Tryz.f271 3 19 x (by kernel_rfl)
def s6l (x:r7y):Option r7y:=((t0m (([] :List u0a.den),(x,((x.length:Int),0)))).bind fun r2=>match r2 with | .inl o3=>(some o3) | .inr z4=>none)
theorem r8u:t35=s6l:=zC 271 rfl Tryz.func271 (by kernel_rfl)
def u1i(x:Z92):Option Z92:=zK 200 x
def s6k (x:Z92):Option Z92:=(bif (Nat.ble x.1.length z7w) then((t35 x.2.1).bind fun y1=>((t35 x.2.2.1).bind fun y2=>(some (x.1,(y1,(y2,x.2.2.2)))))) else none)
theorem r8t:u1i=s6k:=zC 200 rfl Tryz.func200 (by kernel_rfl)
def t8a(x:Z63):Option Int:=zK 235 x
def u91(g:p9w→Option p19)(x:p9w):Option p19:=(bif (decide (x.2.2.2<x.2.2.1)) then(bif (y4q x.2.2.2 x.2.1.length) then(g ((y8i x.1 (rdL u0a x.2.1 (x.2.2.2).toNat).2.2.1),(x.2.1,(x.2.2.1,(IntKind.i64.wrap (x.2.2.2+1)))))) else none) else(some (.inl x.1)))
def t0j:=lpW _ _ u91
theorem s2d x:t0j x=u91 t0j x:=zW s1p 235 Tryz.f235 3 22 x (by kernel_rfl)
def s6h (x:Z63):Option Int:=((t0j (x.1.2.2.2.1,(x.2,((x.2.length:Int),0)))).bind fun r1=>match r1 with | .inl o2=>(some o2) | .inr z3=>none)
theorem r8p:t8a=s6h:=zC 235 rfl Tryz.func235 (by kernel_rfl)
def s3d(x:p72):Option Int:=zK 363 x
def t3l(g:o1v→Option p19)(x:o1v):Option p19:=(bif (decide (x.2.2.2.2.2.2<x.2.2.2.2.2.1)) then(bif (y4q x.2.2.2.2.2.2 x.2.2.2.2.1.length) then(((bif (z7o (rdL u0e x.2.2.2.2.1 (x.2.2.2.2.2.2).toNat).1 x.2.1) then(bif (decide ((rdL u0e x.2.2.2.2.1 (x.2.2.2.2.2.2).toNat).2.2.2≤x.2.2.1)) then(bif (decide (x.2.2.2.1<0)) then(some true) else(bif (y4q x.2.2.2.1 x.1.length) then(some (decide ((rdL u0e x.2.2.2.2.1 (x.2.2.2.2.2.2).toNat).2.2.2 >(rdL u0e x.1 (x.2.2.2.1).toNat).2.2.2))) else none)) else(some false)) else(some false)):Option Bool).bind fun j1=>(bif j1 then(g (x.1,(x.2.1,(x.2.2.1,(x.2.2.2.2.2.2,(x.2.2.2.2.1,(x.2.2.2.2.2.1,(IntKind.i64.wrap (x.2.2.2.2.2.2+1))))))))) else(g (x.1,(x.2.1,(x.2.2.1,(x.2.2.2.1,(x.2.2.2.2.1,(x.2.2.2.2.2.1,(IntKind.i64.wrap (x.2.2.2.2.2.2+1))))))))))) else none) else(some (.inl x.2.2.2.1)))
def u9g:=lpW _ _ t3l
theorem s8c x:u9g x=t3l u9g x:=zW s7l 363 Tryz.f363 3 44 x (by kernel_rfl)
def r2j (x:p72):Option Int:=((u9g (x.1,(x.2.1,(x.2.2,((-1:Int),(x.1,((x.1.length:Int),0))))))).bind fun r2=>match r2 with | .inl o3=>(some o3) | .inr z4=>none)
theorem q4j:s3d=r2j:=zC 363 rfl Tryz.func363 (by kernel_rfl)
def t6o(x:(ByteArray×q0s)):Option Int:=zK 364 x
def u8t(g:o2m→Option p19)(x:o2m):Option p19:=(bif (decide (x.2.2.2.2<x.2.2.2.1)) then(bif (y4q x.2.2.2.2 x.2.2.1.length) then(bif (z7o (rdL u0e x.2.2.1 (x.2.2.2.2).toNat).1 x.1) then(g (x.1,((IntKind.i64.wrap (x.2.1+1)),(x.2.2.1,(x.2.2.2.1,(IntKind.i64.wrap (x.2.2.2.2+1))))))) else(g (x.1,(x.2.1,(x.2.2.1,(x.2.2.2.1,(IntKind.i64.wrap (x.2.2.2.2+1)))))))) else none) else(some (.inl x.2.1)))
def u5o:=lpW _ _ u8t
theorem t96 x:u5o x=u8t u5o x:=zW t9k 364 Tryz.f364 3 21 x (by kernel_rfl)
def s3u (x:(ByteArray×q0s)):Option Int:=((u5o (x.1,(0,(x.2,((x.2.length:Int),0))))).bind fun r1=>match r1 with | .inl o2=>(some o2) | .inr z3=>none)
theorem r65:t6o=s3u:=zC 364 rfl Tryz.func364 (by kernel_rfl)
def s0l(x:p78):Option q0s:=zK 238 x
def t1s(g:o1s→Option o0g)(x:o1s):Option o0g:=(bif (decide (x.2.2.2.2.2<x.2.2.2.2.1)) then(bif (y4q x.2.2.2.2.2 x.2.2.2.1.length) then(((bif (decide ((rdL u0e x.2.2.2.1 (x.2.2.2.2.2).toNat).2.2.2 >x.2.1)) then(some true) else((s3d (x.1,((rdL u0e x.2.2.2.1 (x.2.2.2.2.2).toNat).1,x.2.1))).bind fun y1=>(some (decide (y1=x.2.2.2.2.2))))):Option Bool).bind fun j2=>(bif j2 then(bif (Nat.ble (x.2.2.1.length+([(rdL u0e x.2.2.2.1 (x.2.2.2.2.2).toNat)] :List u0e.den).length) z7w) then(g (x.1,(x.2.1,((x.2.2.1++([(rdL u0e x.2.2.2.1 (x.2.2.2.2.2).toNat)] :List u0e.den)),(x.2.2.2.1,(x.2.2.2.2.1,(IntKind.i64.wrap (x.2.2.2.2.2+1)))))))) else none) else(g (x.1,(x.2.1,(x.2.2.1,(x.2.2.2.1,(x.2.2.2.2.1,(IntKind.i64.wrap (x.2.2.2.2.2+1)))))))))) else none) else(some (.inl (x.2.1,x.2.2.1))))
def u7v:=lpW _ _ t1s
theorem s5g x:u7v x=t1s u7v x:=zW s4i 238 Tryz.f238 3 66 x (by kernel_rfl)
def u92(g:o1t→Option p6m)(x:o1t):Option p6m:=(bif (decide (x.2.2.2.2.2<x.2.2.2.2.1)) then(bif (y4q x.2.2.2.2.2 x.2.2.2.1.length) then(bif (decide ((rdL u0e x.2.2.2.1 (x.2.2.2.2.2).toNat).2.2.2 >x.1)) then(bif (Nat.ble (x.2.2.1.length+([(rdL u0e x.2.2.2.1 (x.2.2.2.2.2).toNat)] :List u0e.den).length) z7w) then(g (x.1,(x.2.1,((x.2.2.1++([(rdL u0e x.2.2.2.1 (x.2.2.2.2.2).toNat)] :List u0e.den)),(x.2.2.2.1,(x.2.2.2.2.1,(IntKind.i64.wrap (x.2.2.2.2.2+1)))))))) else none) else(bif (!(rdL u0e x.2.2.2.1 (x.2.2.2.2.2).toNat).2.2.1) then(bif (Nat.ble (x.2.2.1.length+([(rdL u0e x.2.2.2.1 (x.2.2.2.2.2).toNat)] :List u0e.den).length) z7w) then(g (x.1,(x.2.1,((x.2.2.1++([(rdL u0e x.2.2.2.1 (x.2.2.2.2.2).toNat)] :List u0e.den)),(x.2.2.2.1,(x.2.2.2.2.1,(IntKind.i64.wrap (x.2.2.2.2.2+1)))))))) else none) else((t6o ((rdL u0e x.2.2.2.1 (x.2.2.2.2.2).toNat).1,x.2.1)).bind fun y5=>(bif (decide (y5 >1)) then(bif (Nat.ble (x.2.2.1.length+([(rdL u0e x.2.2.2.1 (x.2.2.2.2.2).toNat)] :List u0e.den).length) z7w) then(g (x.1,(x.2.1,((x.2.2.1++([(rdL u0e x.2.2.2.1 (x.2.2.2.2.2).toNat)] :List u0e.den)),(x.2.2.2.1,(x.2.2.2.2.1,(IntKind.i64.wrap (x.2.2.2.2.2+1)))))))) else none) else(g (x.1,(x.2.1,(x.2.2.1,(x.2.2.2.1,(x.2.2.2.2.1,(IntKind.i64.wrap (x.2.2.2.2.2+1)))))))))))) else none) else(some (.inl x.2.2.1)))
def t0k:=lpW _ _ u92
theorem s2e x:t0k x=u92 t0k x:=zW s1q 238 Tryz.f238 11 66 x (by kernel_rfl)
def s9g (x:p78):Option q0s:=((u7v (x.1,(x.2,(([] :List u0e.den),(x.1,((x.1.length:Int),0)))))).bind fun r3=>match r3 with | .inl o4=>((t0k (o4.1,(o4.2,(([] :List u0e.den),(o4.2,((o4.2.length:Int),0)))))).bind fun r6=>match r6 with | .inl o7=>(some o7) | .inr z8=>none) | .inr z9=>none)
theorem q05:s0l=s9g:=zC 238 rfl Tryz.func238 (by kernel_rfl)
def u6n(x:Z99):Option Bool:=zK 237 x
def r8d (x:Z99):Option Bool:=(some (decide (x.1.2.2.2.1≤x.2)))
theorem r8r:u6n=r8d:=zC 237 rfl Tryz.func237 (by kernel_rfl)
def u3v(x:p4n):Option Int:=zK 10004 x
def u25(g:p9y→Option q55)(x:p9y):Option q55:=(bif (decide (x.2.2.2<x.2.2.1)) then(bif (y4q x.2.2.2 x.1.length) then((u6n ((rdL u0a x.1 (x.2.2.2).toNat),x.2.1)).bind fun y1=>(bif y1 then(some (.inr x.2.2.2)) else(g (x.1,(x.2.1,(x.2.2.1,(IntKind.i64.wrap (x.2.2.2+1)))))))) else none) else(some (.inl ())))
def u1b:=lpW _ _ u25
theorem u7m x:u1b x=u25 u1b x:=zW u3c 10004 Tryz.f148 2 19 x (by kernel_rfl)
def u3u (x:p4n):Option Int:=((u1b (x.1,(x.2,((x.1.length:Int),0)))).bind fun r2=>match r2 with | .inl o3=>(some (-1:Int)) | .inr z4=>(some z4))
theorem u8p:u3v=u3u:=zC 10004 rfl Tryz.func148 (by kernel_rfl)
def u1s(x:p4n):Option r7y:=zK 10003 x
def u2u(g:p9y→Option p76)(x:p9y):Option p76:=(bif (decide (x.2.2.2<(x.1.length:Int))) then(bif (y4q x.2.2.2 x.1.length) then((u6n ((rdL u0a x.1 (x.2.2.2).toNat),x.2.1)).bind fun y2=>(bif (!y2) then(bif (y4q x.2.2.1 x.1.length) then(g ((x.1.set (x.2.2.1).toNat (rdL u0a x.1 (x.2.2.2).toNat)),(x.2.1,((IntKind.i64.wrap (x.2.2.1+1)),(IntKind.i64.wrap (x.2.2.2+1)))))) else none) else(g (x.1,(x.2.1,(x.2.2.1,(IntKind.i64.wrap (x.2.2.2+1)))))))) else none) else(some (.inl (x.1,x.2.2.1))))
def u05:=lpW _ _ u2u
theorem u6w x:u05 x=u2u u05 x:=zW u2z 10003 Tryz.f236 5 42 x (by kernel_rfl)
def u3j (x:p4n):Option r7y:=((u3v x).bind fun y1=>(bif (decide (y1=(-1:Int))) then(some x.1) else((u05 (x.1,(x.2,(y1,(IntKind.i64.wrap (y1+1)))))).bind fun r3=>match r3 with | .inl o4=>(bif (decide (0≤o4.2)&&decide (o4.2≤(o4.1.length:Int))&&decide ((o4.1.length:Int)≤(o4.1.length:Int))) then(bif (decide (0≤(0:Int))&&decide ((0:Int)≤o4.2)&&decide (o4.2≤((o4.1.take (o4.2).toNat++List.replicate (((o4.1.length:Int)).toNat - (o4.2).toNat) (u0a).zero++o4.1.drop ((o4.2).toNat+(((o4.1.length:Int)).toNat - (o4.2).toNat))).length:Int))) then(some ((o4.1.take (o4.2).toNat++List.replicate (((o4.1.length:Int)).toNat - (o4.2).toNat) (u0a).zero++o4.1.drop ((o4.2).toNat+(((o4.1.length:Int)).toNat - (o4.2).toNat))).take ((o4.2).toNat - ((0:Int)).toNat))) else none) else none) | .inr z5=>none)))
theorem u8d:u1s=u3j:=zC 10003 rfl Tryz.func236 (by kernel_rfl)
def u5u(x:Z63):Option Z92:=zK 100 x
def r2g (x:Z63):Option Z92:=((u1i x.1).bind fun y1=>((t8a x).bind fun y2=>((u1s (y1.2.1,y2)).bind fun y3=>((s0l (x.1.1,y2)).bind fun y4=>(some (y4,(y3,y1.2.2)))))))
theorem q4i:u5u=r2g:=zC 100 rfl Tryz.func100 (by kernel_rfl)
def s0i(x:p99):Option Bool:=zK 258 x
def s9a (x:p99):Option Bool:=(((bif (!y3c x.2 x.1.1) then(some (y3c x.2 x.1.2 || z7o x.2 x.1.2)) else(some false)):Option Bool).bind fun j1=>(some j1))
theorem q0z:s0i=s9a:=zC 258 rfl Tryz.func258 (by kernel_rfl)
def s0k(x:p98):Option Bool:=zK 252 x
def t1r(g:Z89→Option (p91⊕Bool))(x:Z89):Option (p91⊕Bool):=(bif (decide (x.2.2.2.2.2.2.2<x.2.2.2.2.2.2.1)) then(bif (y4q x.2.2.2.2.2.2.2 x.2.2.2.2.2.1.length) then((s0i (x.2.1,(rdL u1x x.2.2.2.2.2.1 (x.2.2.2.2.2.2.2).toNat).1)).bind fun y1=>(bif y1 then(some (.inr true)) else(g (x.1,(x.2.1,(x.2.2.1,(x.2.2.2.1,(x.2.2.2.2.1,(x.2.2.2.2.2.1,(x.2.2.2.2.2.2.1,(IntKind.i64.wrap (x.2.2.2.2.2.2.2+1)))))))))))) else none) else(some (.inl (x.1,(x.2.2.1,(x.2.2.2.1,x.2.2.2.2.1))))))
def u7u:=lpW _ _ t1r
theorem s5f x:u7u x=t1r u7u x:=zW s4h 252 Tryz.f252 5 27 x (by kernel_rfl)
def t1q(g:p91→Option r1i)(x:p91):Option r1i:=(bif (decide (x.2.2.2<x.2.2.1)) then(bif (y4q x.2.2.2 x.2.1.length) then((u7u (x.1,((rdL q2t x.2.1 (x.2.2.2).toNat),(x.2.1,(x.2.2.1,(x.2.2.2,(x.1,((x.1.length:Int),0)))))))).bind fun r2=>match r2 with | .inl o3=>(g (o3.1,(o3.2.1,(o3.2.2.1,(IntKind.i64.wrap (o3.2.2.2+1)))))) | .inr z4=>(some (.inr z4))) else none) else(some (.inl ())))
def t2f:=lpW _ _ t1q
theorem s5e x:t2f x=t1q t2f x:=zW s4g 252 Tryz.f252 2 27 x (by kernel_rfl)
def s9f (x:p98):Option Bool:=((t2f (x.2,(x.1,((x.1.length:Int),0)))).bind fun r5=>match r5 with | .inl o6=>(some false) | .inr z7=>(some z7))
theorem q04:s0k=s9f:=zC 252 rfl Tryz.func252 (by kernel_rfl)
def t79(x:Z49):Option Bool:=zK 442 x
def s6g (x:Z49):Option Bool:=(((bif (decide (x.1.2.1=3)) then(some (decide (x.1.2.2.2.1≤x.2.2.2.1))) else(some false)):Option Bool).bind fun j1=>(some j1))
theorem r8o:t79=s6g:=zC 442 rfl Tryz.func442 (by kernel_rfl)
def s3c(x:Z49):Option Bool:=zK 384 x
def r2e (x:Z49):Option Bool:=(bif (!decide (x.1.1=x.2.1)) then((t79 x).bind fun y1=>(bif (!y1) then((t79 (x.2,x.1)).bind fun y2=>(some (!y2))) else(some false))) else(some false))
theorem q4g:s3c=r2e:=zC 384 rfl Tryz.func384 (by kernel_rfl)
def t9w(x:Z49):Option Bool:=zK 273 x
def r5w (x:Z49):Option Bool:=((((s3c x).bind fun y1=>(bif y1 then((s0k (x.1.2.2.2.2.1,x.2.2.2.2.2.2.1)).bind fun y2=>(some y2)) else(some false))):Option Bool).bind fun j3=>(some j3))
theorem q6v:t9w=r5w:=zC 273 rfl Tryz.func273 (by kernel_rfl)
def t5p(x:Z49):Option Bool:=zK 386 x
def s9b (x:Z49):Option Bool:=((((t37 x.1).bind fun y1=>(bif y1 then((t9w (x.2,x.1)).bind fun y2=>(some y2)) else(some false))):Option Bool).bind fun j3=>(some j3))
theorem q00:t5p=s9b:=zC 386 rfl Tryz.func386 (by kernel_rfl)
def u31(x:Z76):Option Int:=zK 10008 x
def u3i(g:Z65→Option q55)(x:Z65):Option q55:=(bif (decide (x.2.2.2<x.2.2.1)) then(bif (y4q x.2.2.2 x.1.length) then((t5p ((rdL u0a x.1 (x.2.2.2).toNat),x.2.1)).bind fun y1=>(bif y1 then(some (.inr x.2.2.2)) else(g (x.1,(x.2.1,(x.2.2.1,(IntKind.i64.wrap (x.2.2.2+1)))))))) else none) else(some (.inl ())))
def u1e:=lpW _ _ u3i
theorem u8k x:u1e x=u3i u1e x:=zW u3n 10008 Tryz.f148 2 19 x (by kernel_rfl)
def u30 (x:Z76):Option Int:=((u1e (x.1,(x.2,((x.1.length:Int),0)))).bind fun r2=>match r2 with | .inl o3=>(some (-1:Int)) | .inr z4=>(some z4))
theorem u9a:u31=u30:=zC 10008 rfl Tryz.func148 (by kernel_rfl)
def u3d(x:Z76):Option Bool:=zK 10007 x
def u27 (x:Z76):Option Bool:=((u31 x).bind fun y1=>(some (decide (y1≥0))))
theorem u7d:u3d=u27:=zC 10007 rfl Tryz.func261 (by kernel_rfl)
def t3c(x:Z76):Option Bool:=zK 10006 x
def t27 (x:Z76):Option Bool:=((u3d x).bind fun y1=>(some y1))
theorem s1j:t3c=t27:=zC 10006 rfl Tryz.func127 (by kernel_rfl)
def t9x(x:Z74):Option Bool:=zK 278 x
def r5y (x:Z74):Option Bool:=((t3c (x.2,x.1)).bind fun y1=>(some y1))
theorem q6x:t9x=r5y:=zC 278 rfl Tryz.func278 (by kernel_rfl)
def t6n(x:Z34):Option Z92:=zK 146 x
def u8r(g:Z4→Option (Z5⊕Unit))(x:Z4):Option (Z5⊕Unit):=(bif (decide (x.2.2.2.2.2.2.2.2.2<x.2.2.2.2.2.2.2.2.1)) then(bif (y4q x.2.2.2.2.2.2.2.2.2 x.2.2.2.1.2.2.1.length) then(bif (y3c (rdL u0a x.2.2.2.1.2.2.1 (x.2.2.2.2.2.2.2.2.2).toNat).2.2.2.2.2.2.2 x.1) then(bif (Nat.ble (x.2.2.2.2.2.1.length+([(rdL u0a x.2.2.2.1.2.2.1 (x.2.2.2.2.2.2.2.2.2).toNat)] :List u0a.den).length) z7w) then(g (x.1,(x.2.1,(x.2.2.1,(x.2.2.2.1,(x.2.2.2.2.1,((x.2.2.2.2.2.1++([(rdL u0a x.2.2.2.1.2.2.1 (x.2.2.2.2.2.2.2.2.2).toNat)] :List u0a.den)),(x.2.2.2.2.2.2.1,((),(x.2.2.2.2.2.2.2.2.1,(IntKind.i64.wrap (x.2.2.2.2.2.2.2.2.2+1)))))))))))) else none) else(bif (Nat.ble (x.2.2.2.2.2.2.1.length+([(rdL u0a x.2.2.2.1.2.2.1 (x.2.2.2.2.2.2.2.2.2).toNat)] :List u0a.den).length) z7w) then(g (x.1,(x.2.1,(x.2.2.1,(x.2.2.2.1,(x.2.2.2.2.1,(x.2.2.2.2.2.1,((x.2.2.2.2.2.2.1++([(rdL u0a x.2.2.2.1.2.2.1 (x.2.2.2.2.2.2.2.2.2).toNat)] :List u0a.den)),((),(x.2.2.2.2.2.2.2.2.1,(IntKind.i64.wrap (x.2.2.2.2.2.2.2.2.2+1)))))))))))) else none)) else none) else(some (.inl (x.2.1,(x.2.2.1,(x.2.2.2.1,(x.2.2.2.2.1,(x.2.2.2.2.2.1,x.2.2.2.2.2.2.1))))))))
def u4a:=lpW _ _ u8r
theorem t95 x:u4a x=u8r u4a x:=zW t9j 146 Tryz.f146 6 64 x (by kernel_rfl)
def s3s (x:Z34):Option Z92:=((u1i x.1).bind fun y1=>((t1f x.2.1).bind fun y2=>(bif x.2.1.2.2.2.2.2.2.1 then((u4a (x.2.2,(x.2.1,((([] :List u0e.den),(([] :List u0a.den),(([] :List u0a.den),(0,0)))),(y1,((y2.1,(2,(y2.2.2.1,(y2.2.2.2.1,(y2.2.2.2.2.1,(y2.2.2.2.2.2.1,(true,x.2.2))))))),(([] :List u0a.den),(([] :List u0a.den),((),((y1.2.2.1.length:Int),0)))))))))).bind fun r3=>match r3 with | .inl o4=>(bif (Nat.ble (o4.2.2.2.2.1.length+([o4.2.2.2.1] :List u0a.den).length) z7w) then(bif (Nat.ble ((o4.2.2.2.2.1++([o4.2.2.2.1] :List u0a.den)).length+o4.2.2.2.2.2.length) z7w) then(some (o4.2.2.1.1,(o4.2.2.1.2.1,(((o4.2.2.2.2.1++([o4.2.2.2.1] :List u0a.den))++o4.2.2.2.2.2),(o4.2.2.1.2.2.2.1,(y8h o4.2.2.1.2.2.2.2 (IntKind.i64.wrap (o4.1.1+1)))))))) else none) else none) | .inr z5=>none) else((t9x (x.2.1,x.1.2.1)).bind fun y6=>((u4a (x.2.2,(x.2.1,((([] :List u0e.den),(([] :List u0a.den),(([] :List u0a.den),(0,0)))),(y1,((y2.1,(2,(y2.2.2.1,(y2.2.2.2.1,(y2.2.2.2.2.1,(y2.2.2.2.2.2.1,(y6,x.2.2))))))),(([] :List u0a.den),(([] :List u0a.den),((),((y1.2.2.1.length:Int),0)))))))))).bind fun r7=>match r7 with | .inl o8=>(bif (Nat.ble (o8.2.2.2.2.1.length+([o8.2.2.2.1] :List u0a.den).length) z7w) then(bif (Nat.ble ((o8.2.2.2.2.1++([o8.2.2.2.1] :List u0a.den)).length+o8.2.2.2.2.2.length) z7w) then(some (o8.2.2.1.1,(o8.2.2.1.2.1,(((o8.2.2.2.2.1++([o8.2.2.2.1] :List u0a.den))++o8.2.2.2.2.2),(o8.2.2.1.2.2.2.1,(y8h o8.2.2.1.2.2.2.2 (IntKind.i64.wrap (o8.1.1+1)))))))) else none) else none) | .inr z9=>none)))))
theorem r62:t6n=s3s:=zC 146 rfl Tryz.func146 (by kernel_rfl)
def u2t(x:o2t):Option q0s:=zK 257 x
theorem t7d:∀(x:o2t),u2t x=y2q u0e x:=y6f (P:=Tryz.prog) (A:=A) (f:=257) (F:=y2q u0e) rfl
def t07(x:p9r):Option Bool:=zK 255 x
def t6z (x:p9r):Option Bool:=((u38 x).bind fun y1=>(some (decide (y1 >0))))
theorem s8z:t07=t6z:=zC 255 rfl Tryz.func255 (by kernel_rfl)
def u1g(x:o2f):Option Int:=zK 10005 x
def u0t(g:o1x→Option q55)(x:o1x):Option q55:=(bif (decide (x.2.2.2<x.2.2.1)) then(bif (y4q x.2.2.2 x.1.length) then((t07 ((rdL u0e x.1 (x.2.2.2).toNat),x.2.1)).bind fun y1=>(bif y1 then(some (.inr x.2.2.2)) else(g (x.1,(x.2.1,(x.2.2.1,(IntKind.i64.wrap (x.2.2.2+1)))))))) else none) else(some (.inl ())))
def u0u:=lpW _ _ u0t
theorem u10 x:u0u x=u0t u0u x:=zW u1y 10005 Tryz.f254 2 19 x (by kernel_rfl)
def u15 (x:o2f):Option Int:=((u0u (x.1,(x.2,((x.1.length:Int),0)))).bind fun r2=>match r2 with | .inl o3=>(some (-1:Int)) | .inr z4=>(some z4))
theorem u47:u1g=u15:=zC 10005 rfl Tryz.func254 (by kernel_rfl)
def u87(x:p94):Option q0s:=zK 120 x
def u56(g:o2e→Option p6m)(x:o2e):Option p6m:=(bif (decide (x.2.2.2.2<x.2.2.2.1)) then(bif (y4q x.2.2.2.2 x.2.2.1.length) then((u1g (x.2.1,((rdL u1x x.2.2.1 (x.2.2.2.2).toNat).1,((rdL u1x x.2.2.1 (x.2.2.2.2).toNat).2.1,((rdL u1x x.2.2.1 (x.2.2.2.2).toNat).2.2,x.1))))).bind fun y1=>(bif (decide (y1<0)) then((u2t (x.2.1,((x.2.1.length:Int),([((rdL u1x x.2.2.1 (x.2.2.2.2).toNat).1,((rdL u1x x.2.2.1 (x.2.2.2.2).toNat).2.1,((rdL u1x x.2.2.1 (x.2.2.2.2).toNat).2.2,x.1)))] :List u0e.den)))).bind fun y2=>(g (x.1,(y2,(x.2.2.1,(x.2.2.2.1,(IntKind.i64.wrap (x.2.2.2.2+1)))))))) else((u2t (x.2.1,(y1,([((rdL u1x x.2.2.1 (x.2.2.2.2).toNat).1,((rdL u1x x.2.2.1 (x.2.2.2.2).toNat).2.1,((rdL u1x x.2.2.1 (x.2.2.2.2).toNat).2.2,x.1)))] :List u0e.den)))).bind fun y3=>(g (x.1,(y3,(x.2.2.1,(x.2.2.2.1,(IntKind.i64.wrap (x.2.2.2.2+1)))))))))) else none) else(some (.inl x.2.1)))
def u6a:=lpW _ _ u56
theorem t66 x:u6a x=u56 u6a x:=zW t60 120 Tryz.f120 3 42 x (by kernel_rfl)
def t9b (x:p94):Option q0s:=(bif (Nat.ble x.1.length z7w) then((u6a (x.2.2,(x.1,(x.2.1,((x.2.1.length:Int),0))))).bind fun r4=>match r4 with | .inl o5=>(some o5) | .inr z6=>none) else none)
theorem r3k:u87=t9b:=zC 120 rfl Tryz.func120 (by kernel_rfl)
def u5f(x:Z49):Option Bool:=zK 279 x
def r6z (x:Z49):Option Bool:=(some (decide (x.1.1=x.2.1)))
theorem r64:u5f=r6z:=zC 279 rfl Tryz.func279 (by kernel_rfl)
def u3q(x:Z76):Option Int:=zK 10010 x
def u2x(g:Z65→Option q55)(x:Z65):Option q55:=(bif (decide (x.2.2.2<x.2.2.1)) then(bif (y4q x.2.2.2 x.1.length) then((u5f ((rdL u0a x.1 (x.2.2.2).toNat),x.2.1)).bind fun y1=>(bif y1 then(some (.inr x.2.2.2)) else(g (x.1,(x.2.1,(x.2.2.1,(IntKind.i64.wrap (x.2.2.2+1)))))))) else none) else(some (.inl ())))
def u08:=lpW _ _ u2x
theorem u6z x:u08 x=u2x u08 x:=zW u22 10010 Tryz.f148 2 19 x (by kernel_rfl)
def u3m (x:Z76):Option Int:=((u08 (x.1,(x.2,((x.1.length:Int),0)))).bind fun r2=>match r2 with | .inl o3=>(some (-1:Int)) | .inr z4=>(some z4))
theorem u8g:u3q=u3m:=zC 10010 rfl Tryz.func148 (by kernel_rfl)
def u1c(x:Z76):Option r7y:=zK 10009 x
def u2n(g:Z65→Option p76)(x:Z65):Option p76:=(bif (decide (x.2.2.2<(x.1.length:Int))) then(bif (y4q x.2.2.2 x.1.length) then((u5f ((rdL u0a x.1 (x.2.2.2).toNat),x.2.1)).bind fun y2=>(bif (!y2) then(bif (y4q x.2.2.1 x.1.length) then(g ((x.1.set (x.2.2.1).toNat (rdL u0a x.1 (x.2.2.2).toNat)),(x.2.1,((IntKind.i64.wrap (x.2.2.1+1)),(IntKind.i64.wrap (x.2.2.2+1)))))) else none) else(g (x.1,(x.2.1,(x.2.2.1,(IntKind.i64.wrap (x.2.2.2+1)))))))) else none) else(some (.inl (x.1,x.2.2.1))))
def u01:=lpW _ _ u2n
theorem u6u x:u01 x=u2n u01 x:=zW u2q 10009 Tryz.f236 5 42 x (by kernel_rfl)
def u29 (x:Z76):Option r7y:=((u3q x).bind fun y1=>(bif (decide (y1=(-1:Int))) then(some x.1) else((u01 (x.1,(x.2,(y1,(IntKind.i64.wrap (y1+1)))))).bind fun r3=>match r3 with | .inl o4=>(bif (decide (0≤o4.2)&&decide (o4.2≤(o4.1.length:Int))&&decide ((o4.1.length:Int)≤(o4.1.length:Int))) then(bif (decide (0≤(0:Int))&&decide ((0:Int)≤o4.2)&&decide (o4.2≤((o4.1.take (o4.2).toNat++List.replicate (((o4.1.length:Int)).toNat - (o4.2).toNat) (u0a).zero++o4.1.drop ((o4.2).toNat+(((o4.1.length:Int)).toNat - (o4.2).toNat))).length:Int))) then(some ((o4.1.take (o4.2).toNat++List.replicate (((o4.1.length:Int)).toNat - (o4.2).toNat) (u0a).zero++o4.1.drop ((o4.2).toNat+(((o4.1.length:Int)).toNat - (o4.2).toNat))).take ((o4.2).toNat - ((0:Int)).toNat))) else none) else none) | .inr z5=>none)))
theorem u7f:u1c=u29:=zC 10009 rfl Tryz.func236 (by kernel_rfl)
def t1e(x:Z38):Option Z92:=zK 150 x
def t1p(g:Z7→Option (Z10⊕Unit))(x:Z7):Option (Z10⊕Unit):=(bif (decide (x.2.2.2.2.2.2<x.2.2.2.2.2.1)) then(bif (y4q x.2.2.2.2.2.2 x.2.2.1.2.2.1.length) then(bif (rdL u0a x.2.2.1.2.2.1 (x.2.2.2.2.2.2).toNat).2.2.2.2.2.2.1 then(bif (y4q x.2.2.2.2.2.2 x.2.2.1.2.2.1.length) then(g (x.1,(x.2.1,((x.2.2.1.1,(x.2.2.1.2.1,((x.2.2.1.2.2.1.set (x.2.2.2.2.2.2).toNat ((rdL u0a x.2.2.1.2.2.1 (x.2.2.2.2.2.2).toNat).1,((rdL u0a x.2.2.1.2.2.1 (x.2.2.2.2.2.2).toNat).2.1,((rdL u0a x.2.2.1.2.2.1 (x.2.2.2.2.2.2).toNat).2.2.1,((rdL u0a x.2.2.1.2.2.1 (x.2.2.2.2.2.2).toNat).2.2.2.1,((rdL u0a x.2.2.1.2.2.1 (x.2.2.2.2.2.2).toNat).2.2.2.2.1,((rdL u0a x.2.2.1.2.2.1 (x.2.2.2.2.2.2).toNat).2.2.2.2.2.1,(true,(rdL u0a x.2.2.1.2.2.1 (x.2.2.2.2.2.2).toNat).2.2.2.2.2.2.2)))))))),x.2.2.1.2.2.2))),(x.2.2.2.1,((),(x.2.2.2.2.2.1,(IntKind.i64.wrap (x.2.2.2.2.2.2+1))))))))) else none) else((t9w ((rdL u0a x.2.2.1.2.2.1 (x.2.2.2.2.2.2).toNat),x.2.2.2.1)).bind fun y5=>(bif (y4q x.2.2.2.2.2.2 x.2.2.1.2.2.1.length) then(g (x.1,(x.2.1,((x.2.2.1.1,(x.2.2.1.2.1,((x.2.2.1.2.2.1.set (x.2.2.2.2.2.2).toNat ((rdL u0a x.2.2.1.2.2.1 (x.2.2.2.2.2.2).toNat).1,((rdL u0a x.2.2.1.2.2.1 (x.2.2.2.2.2.2).toNat).2.1,((rdL u0a x.2.2.1.2.2.1 (x.2.2.2.2.2.2).toNat).2.2.1,((rdL u0a x.2.2.1.2.2.1 (x.2.2.2.2.2.2).toNat).2.2.2.1,((rdL u0a x.2.2.1.2.2.1 (x.2.2.2.2.2.2).toNat).2.2.2.2.1,((rdL u0a x.2.2.1.2.2.1 (x.2.2.2.2.2.2).toNat).2.2.2.2.2.1,(y5,(rdL u0a x.2.2.1.2.2.1 (x.2.2.2.2.2.2).toNat).2.2.2.2.2.2.2)))))))),x.2.2.1.2.2.2))),(x.2.2.2.1,((),(x.2.2.2.2.2.1,(IntKind.i64.wrap (x.2.2.2.2.2.2+1))))))))) else none))) else none) else(some (.inl (x.1,(x.2.1,(x.2.2.1,x.2.2.2.1))))))
def u49:=lpW _ _ t1p
theorem s5d x:u49 x=t1p u49 x:=zW s4f 150 Tryz.f150 9 80 x (by kernel_rfl)
def s9e (x:Z38):Option Z92:=((u1i x.1).bind fun y1=>((t1f x.2).bind fun y2=>(bif x.2.2.2.2.2.2.2.1 then((u87 (x.1.1,(x.2.2.2.2.2.2.1,(IntKind.i64.wrap (y1.2.2.2.1+1))))).bind fun y3=>((u1c (y1.2.2.1,x.2)).bind fun y4=>((u49 (x.2,((([] :List u0e.den),(([] :List u0a.den),(([] :List u0a.den),(0,0)))),((y3,(y1.2.1,(y4,((IntKind.i64.wrap (y1.2.2.2.1+1)),y1.2.2.2.2)))),((y2.1,(3,(y2.2.2.1,((IntKind.i64.wrap (x.1.2.2.2.1+1)),(y2.2.2.2.2.1,(y2.2.2.2.2.2.1,(true,(⟨#[]⟩:ByteArray)))))))),((),((y4.length:Int),0))))))).bind fun r6=>match r6 with | .inl o7=>(bif (Nat.ble (o7.2.2.1.2.1.length+([o7.2.2.2] :List u0a.den).length) z7w) then(some (o7.2.2.1.1,((o7.2.2.1.2.1++([o7.2.2.2] :List u0a.den)),(o7.2.2.1.2.2.1,(o7.2.2.1.2.2.2.1,(y8h o7.2.2.1.2.2.2.2 (IntKind.i64.wrap (o7.1.1+1)))))))) else none) | .inr z8=>none))) else((t9x (x.2,x.1.2.1)).bind fun y9=>((u87 (x.1.1,(x.2.2.2.2.2.2.1,(IntKind.i64.wrap (y1.2.2.2.1+1))))).bind fun y10=>((u1c (y1.2.2.1,x.2)).bind fun y11=>((u49 (x.2,((([] :List u0e.den),(([] :List u0a.den),(([] :List u0a.den),(0,0)))),((y10,(y1.2.1,(y11,((IntKind.i64.wrap (y1.2.2.2.1+1)),y1.2.2.2.2)))),((y2.1,(3,(y2.2.2.1,((IntKind.i64.wrap (x.1.2.2.2.1+1)),(y2.2.2.2.2.1,(y2.2.2.2.2.2.1,(y9,(⟨#[]⟩:ByteArray)))))))),((),((y11.length:Int),0))))))).bind fun r13=>match r13 with | .inl o14=>(bif (Nat.ble (o14.2.2.1.2.1.length+([o14.2.2.2] :List u0a.den).length) z7w) then(some (o14.2.2.1.1,((o14.2.2.1.2.1++([o14.2.2.2] :List u0a.den)),(o14.2.2.1.2.2.1,(o14.2.2.1.2.2.2.1,(y8h o14.2.2.1.2.2.2.2 (IntKind.i64.wrap (o14.1.1+1)))))))) else none) | .inr z15=>none)))))))
theorem q03:t1e=s9e:=zC 150 rfl Tryz.func150 (by kernel_rfl)
def u5e(x:Z97):Option Bool:=zK 280 x
def r6y (x:Z97):Option Bool:=(some (z7o x.1.2.2.2.2.2.2.2 x.2))
theorem r61:u5e=r6y:=zC 280 rfl Tryz.func280 (by kernel_rfl)
def u3o(x:p7z):Option Int:=zK 10013 x
def u2v(g:p7y→Option q55)(x:p7y):Option q55:=(bif (decide (x.2.2.2<x.2.2.1)) then(bif (y4q x.2.2.2 x.1.length) then((u5e ((rdL u0a x.1 (x.2.2.2).toNat),x.2.1)).bind fun y1=>(bif y1 then(some (.inr x.2.2.2)) else(g (x.1,(x.2.1,(x.2.2.1,(IntKind.i64.wrap (x.2.2.2+1)))))))) else none) else(some (.inl ())))
def u06:=lpW _ _ u2v
theorem u6x x:u06 x=u2v u06 x:=zW u20 10013 Tryz.f148 2 19 x (by kernel_rfl)
def u3k (x:p7z):Option Int:=((u06 (x.1,(x.2,((x.1.length:Int),0)))).bind fun r2=>match r2 with | .inl o3=>(some (-1:Int)) | .inr z4=>(some z4))
theorem u8e:u3o=u3k:=zC 10013 rfl Tryz.func148 (by kernel_rfl)
def u1q(x:p7z):Option r7y:=zK 10012 x
def u2m(g:p7y→Option p76)(x:p7y):Option p76:=(bif (decide (x.2.2.2<(x.1.length:Int))) then(bif (y4q x.2.2.2 x.1.length) then((u5e ((rdL u0a x.1 (x.2.2.2).toNat),x.2.1)).bind fun y2=>(bif (!y2) then(bif (y4q x.2.2.1 x.1.length) then(g ((x.1.set (x.2.2.1).toNat (rdL u0a x.1 (x.2.2.2).toNat)),(x.2.1,((IntKind.i64.wrap (x.2.2.1+1)),(IntKind.i64.wrap (x.2.2.2+1)))))) else none) else(g (x.1,(x.2.1,(x.2.2.1,(IntKind.i64.wrap (x.2.2.2+1)))))))) else none) else(some (.inl (x.1,x.2.2.1))))
def u00:=lpW _ _ u2m
theorem u6t x:u00 x=u2m u00 x:=zW u2p 10012 Tryz.f236 5 42 x (by kernel_rfl)
def u28 (x:p7z):Option r7y:=((u3o x).bind fun y1=>(bif (decide (y1=(-1:Int))) then(some x.1) else((u00 (x.1,(x.2,(y1,(IntKind.i64.wrap (y1+1)))))).bind fun r3=>match r3 with | .inl o4=>(bif (decide (0≤o4.2)&&decide (o4.2≤(o4.1.length:Int))&&decide ((o4.1.length:Int)≤(o4.1.length:Int))) then(bif (decide (0≤(0:Int))&&decide ((0:Int)≤o4.2)&&decide (o4.2≤((o4.1.take (o4.2).toNat++List.replicate (((o4.1.length:Int)).toNat - (o4.2).toNat) (u0a).zero++o4.1.drop ((o4.2).toNat+(((o4.1.length:Int)).toNat - (o4.2).toNat))).length:Int))) then(some ((o4.1.take (o4.2).toNat++List.replicate (((o4.1.length:Int)).toNat - (o4.2).toNat) (u0a).zero++o4.1.drop ((o4.2).toNat+(((o4.1.length:Int)).toNat - (o4.2).toNat))).take ((o4.2).toNat - ((0:Int)).toNat))) else none) else none) | .inr z5=>none)))
theorem u7e:u1q=u28:=zC 10012 rfl Tryz.func236 (by kernel_rfl)
def t5o(x:Z81):Option Z92:=zK 152 x
def s89 (x:Z81):Option Z92:=((u1i x.1).bind fun y1=>((u1q (y1.2.2.1,x.2)).bind fun y2=>(some (y1.1,(y1.2.1,(y2,y1.2.2.2))))))
theorem q0y:t5o=s89:=zC 152 rfl Tryz.func152 (by kernel_rfl)
def t34(x:Z16):Option Z84:=zK 72 x
def r2f (x:Z16):Option Z84:=((((u2g x.1).bind fun y1=>(bif (!y1) then(some true) else((t8b x.2).bind fun y2=>(some (!y2))))):Option Bool).bind fun j3=>(bif j3 then((u1i x.1).bind fun y4=>(some (y4,false))) else((u1i x.1).bind fun y5=>(bif (decide (x.2.1=1)) then((t1e (x.1,x.2.2.1)).bind fun y6=>((u5u (y6,([] :List u0a.den))).bind fun y7=>(((bif (!(decide (x.2.2.1.2.2.2.1=(IntKind.i64.wrap (x.1.2.2.2.1+1))))) then(some true) else((u2g y7).bind fun y8=>(some (!y8)))):Option Bool).bind fun j9=>(bif j9 then((u1i x.1).bind fun y10=>(some (y10,false))) else(some (y7,true)))))) else(bif (decide (x.2.1=2)) then(((bif (decide ((x.1.2.2.1.length:Int)<(3:Int))) then((t5q (x.1,x.2.2.1.2.2.2.2.2.2.2)).bind fun y11=>(some (decide (y11<0)))) else(some false)):Option Bool).bind fun j12=>((t6n (x.1,(x.2.2.1,x.2.2.1.2.2.2.2.2.2.2))).bind fun y13=>((u5u (y13,([] :List u0a.den))).bind fun y14=>(((bif (!j12) then(some true) else((u2g y14).bind fun y15=>(some (!y15)))):Option Bool).bind fun j16=>(bif j16 then((u1i x.1).bind fun y17=>(some (y17,false))) else(some (y14,true))))))) else(bif (decide (x.2.1=3)) then((t5q (x.1,x.2.2.2.1)).bind fun y18=>(((bif (decide (y18≥0)) then(some x.2.2.2.2.1) else(some false)):Option Bool).bind fun j19=>(bif j19 then(bif (y4q y18 x.1.2.2.1.length) then((t1e (x.1,(rdL u0a x.1.2.2.1 (y18).toNat))).bind fun y20=>((u5u (y20,([] :List u0a.den))).bind fun y21=>(((bif (!(decide (y18≥0))) then(some true) else((u2g y21).bind fun y22=>(some (!y22)))):Option Bool).bind fun j23=>(bif j23 then((u1i x.1).bind fun y24=>(some (y24,false))) else(some (y21,true)))))) else none) else((t5o (x.1,x.2.2.2.1)).bind fun y25=>((u5u (y25,([] :List u0a.den))).bind fun y26=>(((bif (!(decide (y18≥0))) then(some true) else((u2g y26).bind fun y27=>(some (!y27)))):Option Bool).bind fun j28=>(bif j28 then((u1i x.1).bind fun y29=>(some (y29,false))) else(some (y26,true))))))))) else((u1i x.2.2.2.2.2).bind fun y30=>((u5u (y30,([] :List u0a.den))).bind fun y31=>((((u2g y31).bind fun y32=>(some (!y32))):Option Bool).bind fun j33=>(bif j33 then((u1i x.1).bind fun y34=>(some (y34,false))) else(some (y31,true))))))))))))
theorem q4h:t34=r2f:=zC 72 rfl Tryz.func72 (by kernel_rfl)
def t8f(x:q0o):Option Z92:=zK 74 x
def s6s (x:q0o):Option Z92:=((t4f x).bind fun y1=>((u8n y1).bind fun y2=>(some y2.1)))
theorem r81:t8f=s6s:=zC 74 rfl Tryz.func74 (by kernel_rfl)
def t40(x:q0o):Option q8h:=zK 75 x
def s08 (x:q0o):Option q8h:=((t4f x).bind fun y1=>((u5i y1).bind fun y2=>(some y2.1)))
theorem r40:t40=s08:=zC 75 rfl Tryz.func75 (by kernel_rfl)
def s70(x:q0o):Option Bool:=zK 9 x
def s6n (x:q0o):Option Bool:=((q3e x).bind fun y1=>(bif y1 then(some true) else((t4z x).bind fun y2=>((t34 y2).bind fun y3=>((t7j y2).bind fun y4=>(((bif (!(y3.2==y4.2)) then(some true) else((t38 (y3.1,y4.1)).bind fun y5=>(some (!y5)))):Option Bool).bind fun j6=>(bif j6 then(some false) else((t8f x).bind fun y7=>((t40 x).bind fun y8=>((t34 (y7,(1,((y7.2.2.2.2,(3,(y7.2.2.2.1,((IntKind.i64.wrap (y7.2.2.2.1+1)),(([] :List q2t.den),(y8,(false,(⟨#[]⟩:ByteArray)))))))),((⟨#[]⟩:ByteArray),(false,(([] :List u0e.den),(([] :List u0a.den),(([] :List u0a.den),(0,0)))))))))).bind fun y9=>(((bif y3.2 then(bif y9.2 then(bif (decide (y9.1.2.2.2.1=(IntKind.i64.wrap (y7.2.2.2.1+1)))) then(bif (decide ((y9.1.2.1.length:Int)=(0:Int))) then((u2g y9.1).bind fun y10=>(some y10)) else(some false)) else(some false)) else(some false)) else((t38 (y3.1,y2.1)).bind fun y11=>(bif y11 then(bif y9.2 then(bif (decide (y9.1.2.2.2.1=(IntKind.i64.wrap (y7.2.2.2.1+1)))) then(bif (decide ((y9.1.2.1.length:Int)=(0:Int))) then((u2g y9.1).bind fun y12=>(some y12)) else(some false)) else(some false)) else(some false)) else(some false)))):Option Bool).bind fun j13=>(some j13))))))))))))
theorem r8w:s70=s6n:=zC 9 rfl Tryz.func9 (by kernel_rfl)
end
end Go.Proofs.YtbkicjpdlchbgaaGreat.Ab
