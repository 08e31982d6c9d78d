import Derived.Test.YtbkicjpdlchbgaaGreatAbCommitsG1
namespace Go.Proofs.YtbkicjpdlchbgaaGreat.Ab
open Go
set_option linter.unusedVariables false
noncomputable section
set_option maxRecDepth 100000
def u7p(x:p03):Option (p4x×p8u):=zK 227 x
def u98(g:Z92→Option ((p4x×Int)⊕(p4x×p8u)))(x:Z92):Option ((p4x×Int)⊕(p4x×p8u)):=((t28 (x.2.1,x.1)).bind fun y4=>(bif (decide (x.2.2.2.2.2.2<y4)) then((t4h (x.2.2.2.1,x.2.2.2.2.2.1)).bind fun y5=>(((bif (!y5.2.2) then(some true) else(some (z7o y5.1 (⟨#[]⟩:ByteArray)))):Option Bool).bind fun j6=>(bif j6 then(some (.inr (x.2.2.1,(0,false)))) else(bif (Nat.ble (x.2.2.2.2.1.length+([y5.1] :List ByteArray).length) z7w) then(g (x.1,(x.2.1,(x.2.2.1,(x.2.2.2.1,((x.2.2.2.2.1++([y5.1] :List ByteArray)),(y5.2.1,(IntKind.i64.wrap (x.2.2.2.2.2.2+1))))))))) else none)))) else(some (.inl (x.2.2.2.2.1,x.2.2.2.2.2.1)))))
def t0d:=lpW _ _ u98
theorem s1o x:t0d x=u98 t0d x:=zW s05 227 Tryz.f227 10 61 x (by kernel_rfl)
def s8b (x:p03):Option (p4x×p8u):=((u0o (x.2,(0,1))).bind fun y1=>(bif (!y1) then(some (([] :List ByteArray),(0,false))) else((u6e x.2).bind fun y2=>((t6m (x.1,((IntKind.i64.wrap (y2+1)),47))).bind fun y3=>(bif (!y3.2) then(some (([] :List ByteArray),(0,false))) else((t0d (x.2,(x.1,(([] :List ByteArray),(y3.1,(([] :List ByteArray),(0,0))))))).bind fun r7=>match r7 with | .inl o8=>(some (o8.1,(o8.2,true))) | .inr z9=>(some z9)))))))
theorem q0t:u7p=s8b:=zC 227 rfl Tryz.func227 (by kernel_rfl)
def t1d(x:s0i):Option Int:=zK 228 x
def s74 (x:s0i):Option Int:=((t3b (x,0)).bind fun y1=>(some (Int.tmod y1 (2:Int))))
theorem q0m:t1d=s74:=zC 228 rfl Tryz.func228 (by kernel_rfl)
def t9w(x:s0i):Option p4x:=zK 91 x
def s78 (x:s0i):Option p4x:=((t1d x).bind fun y1=>((u7p (x,y1)).bind fun y2=>(some y2.1)))
theorem q0q:t9w=s78:=zC 91 rfl Tryz.func91 (by kernel_rfl)
def t7k(x:s0i):Option Z86:=zK 88 x
def t3u(g:Z21→Option (Z28⊕Z86))(x:Z21):Option (Z28⊕Z86):=(bif (decide (x.2.2.2<(x.2.2.1.length:Int))) then(bif (y4q x.2.2.2 x.2.2.1.length) then((t6l (rdL Ty.str x.2.2.1 (x.2.2.2).toNat)).bind fun y3=>((s42 (x.2.1,y3.1)).bind fun y4=>(((bif (!y3.2) then(some true) else(some (!y4.2))):Option Bool).bind fun j5=>(bif j5 then(some (.inr ((([] :List u0g.den),(([] :List u0a.den),(([] :List u0a.den),(0,0)))),false))) else(g (x.1,(y4.1,(x.2.2.1,(IntKind.i64.wrap (x.2.2.2+1)))))))))) else none) else(some (.inl (x.1,x.2.1))))
def u5b:=lpW _ _ t3u
theorem s63 x:u5b x=t3u u5b x:=zW s56 88 Tryz.f88 4 43 x (by kernel_rfl)
def r07 (x:s0i):Option Z86:=((s12 ()).bind fun y1=>((t9w x).bind fun y2=>((u5b ((([] :List u0g.den),(([] :List u0a.den),(([] :List u0a.den),(0,0)))),(y1,(y2,0)))).bind fun r6=>match r6 with | .inl o7=>(some (o7.2,true)) | .inr z8=>(some z8))))
theorem q21:t7k=r07:=zC 88 rfl Tryz.func88 (by kernel_rfl)
def t2g(x:s0i):Option Bool:=zK 329 x
def t47(g:p03→Option (s0i⊕Bool))(x:p03):Option (s0i⊕Bool):=(bif (decide (x.2<(x.1.1.length:Int))) then(bif (y4q x.2 x.1.1.length) then(bif (!decide (((rdL Ty.str x.1.1 (x.2).toNat).size:Int)=(64:Int))) then(some (.inr false)) else(g (x.1,(IntKind.i64.wrap (x.2+1))))) else none) else(some (.inl x.1)))
def t5c:=lpW _ _ t47
theorem s9y x:t5c x=t47 t5c x:=zW s84 329 Tryz.f329 4 59 x (by kernel_rfl)
def t48(g:p03→Option r3y)(x:p03):Option r3y:=(bif (decide (x.2<(x.1.2.length:Int))) then(((bif (y4q x.2 x.1.2.length) then((u0o ((rdL p4t x.1.2 (x.2).toNat).1,(0,(IntKind.i64.wrap ((x.1.1.length:Int) - (1:Int)))))).bind fun y5=>(bif (!y5) then(some true) else(bif (y4q x.2 x.1.2.length) then(some (!decide (((rdL p4t x.1.2 (x.2).toNat).2.size:Int)=(64:Int)))) else none))) else none):Option Bool).bind fun j6=>(bif j6 then(some (.inr false)) else(g (x.1,(IntKind.i64.wrap (x.2+1)))))) else(some (.inl ())))
def t5d:=lpW _ _ t48
theorem s9z x:t5d x=t48 t5d x:=zW s85 329 Tryz.f329 9 59 x (by kernel_rfl)
def r4j (x:s0i):Option Bool:=((((u0o ((x.1.length:Int),(1,100))).bind fun y1=>(bif (!y1) then(some true) else(some (decide ((x.2.length:Int) >(60:Int)))))):Option Bool).bind fun j2=>(bif j2 then(some false) else((t5c (x,0)).bind fun r3=>match r3 with | .inl o4=>((t5d (o4,0)).bind fun r7=>match r7 with | .inl o8=>(some true) | .inr z9=>(some z9)) | .inr z10=>(some z10))))
theorem q6j:t2g=r4j:=zC 329 rfl Tryz.func329 (by kernel_rfl)
def s1b(x:s0i):Option Bool:=zK 212 x
def r7r (x:s0i):Option Bool:=((((t2g x).bind fun y1=>(bif (!y1) then(some true) else((u7s ()).bind fun y2=>(bif (!decide ((x.1.length:Int)=y2)) then(some true) else(some (decide ((x.2.length:Int) >(0:Int)))))))):Option Bool).bind fun j3=>(bif j3 then(some false) else((u7p (x,0)).bind fun y4=>((u7p (x,1)).bind fun y5=>(((bif y4.2.2 then(some y5.2.2) else(some false)):Option Bool).bind fun j6=>(some j6))))))
theorem q8y:s1b=r7r:=zC 212 rfl Tryz.func212 (by kernel_rfl)
def u6f(x:s0i):Option s0i:=zK 413 x
def u96(g:Z85→Option (o0n⊕Unit))(x:Z85):Option (o0n⊕Unit):=(bif (decide (x.2.2.2<(x.1.2.length:Int))) then(bif (y4q x.2.2.2 x.1.2.length) then(bif (y4q x.2.2.2 x.1.2.length) then(bif (y4q (rdL p4t x.1.2 (x.2.2.2).toNat).1 x.2.2.1.1.length) then(g (x.1,(x.2.1,(((x.2.2.1.1.set ((rdL p4t x.1.2 (x.2.2.2).toNat).1).toNat (rdL p4t x.1.2 (x.2.2.2).toNat).2),x.2.2.1.2),(IntKind.i64.wrap (x.2.2.2+1)))))) else none) else none) else none) else(some (.inl (x.2.1,x.2.2.1))))
def t0c:=lpW _ _ u96
theorem s1m x:t0c x=u96 t0c x:=zW s03 413 Tryz.f413 5 36 x (by kernel_rfl)
def s5f (x:s0i):Option s0i:=((u01 x).bind fun y1=>((t2g x).bind fun y2=>(bif (!y2) then(some y1) else((t0c (x,((([] :List ByteArray),([] :List p4t.den)),(y1,0)))).bind fun r3=>match r3 with | .inl o4=>(some (o4.2.1,([] :List p4t.den))) | .inr z5=>none))))
theorem r8z:u6f=s5f:=zC 413 rfl Tryz.func413 (by kernel_rfl)
def t0i(x:p83):Option r58:=zK 414 x
def s0u (x:p83):Option r58:=((u01 x.1).bind fun y1=>((((t2g x.1).bind fun y2=>(bif (!y2) then(some true) else((u0o (x.2.1,(0,(IntKind.i64.wrap ((x.1.1.length:Int) - (1:Int)))))).bind fun y3=>(bif (!y3) then(some true) else(bif (!decide ((x.2.2.size:Int)=(64:Int))) then(some true) else(some (decide ((x.1.2.length:Int)≥(60:Int))))))))):Option Bool).bind fun j4=>(bif j4 then(some (y1,false)) else(bif (Nat.ble (y1.2.length+([x.2] :List p4t.den).length) z7w) then(some ((y1.1,(y1.2++([x.2] :List p4t.den))),true)) else none))))
theorem r5e:t0i=s0u:=zC 414 rfl Tryz.func414 (by kernel_rfl)
def u7r(x:o4v):Option r58:=zK 411 x
def t4j(g:Z62→Option (o0n⊕r58))(x:Z62):Option (o0n⊕r58):=(bif (decide (x.2.2.2.2.2.2<(x.2.2.1.size:Int))) then(bif (decide ((IntKind.i64.wrap ((64:Int) - (Int.tmod (IntKind.i64.wrap (x.2.1+x.2.2.2.2.2.2)) (64:Int)))) >(IntKind.i64.wrap ((x.2.2.1.size:Int) - x.2.2.2.2.2.2)))) then((u5t (x.2.2.2.2.2.1,(IntKind.i64.wrap (x.1+(IntKind.i64.wrap (Int.tdiv (IntKind.i64.wrap (x.2.1+x.2.2.2.2.2.2)) (64:Int))))))).bind fun y6=>(((bif (!y6.2) then(some true) else(some (!decide ((y6.1.size:Int)=(64:Int))))):Option Bool).bind fun j7=>(bif j7 then((u01 x.2.2.2.1).bind fun y8=>(some (.inr (y8,false)))) else(bif (decide (0≤(0:Int))&&decide ((0:Int)≤(Int.tmod (IntKind.i64.wrap (x.2.1+x.2.2.2.2.2.2)) (64:Int)))&&decide ((Int.tmod (IntKind.i64.wrap (x.2.1+x.2.2.2.2.2.2)) (64:Int))≤(y6.1.size:Int))) then(bif (decide (0≤x.2.2.2.2.2.2)&&decide (x.2.2.2.2.2.2≤(IntKind.i64.wrap (x.2.2.2.2.2.2+(IntKind.i64.wrap ((x.2.2.1.size:Int) - x.2.2.2.2.2.2)))))&&decide ((IntKind.i64.wrap (x.2.2.2.2.2.2+(IntKind.i64.wrap ((x.2.2.1.size:Int) - x.2.2.2.2.2.2))))≤(x.2.2.1.size:Int))) then(bif (decide ((y6.1.extract ((0:Int)).toNat ((Int.tmod (IntKind.i64.wrap (x.2.1+x.2.2.2.2.2.2)) (64:Int))).toNat).size+(x.2.2.1.extract (x.2.2.2.2.2.2).toNat ((IntKind.i64.wrap (x.2.2.2.2.2.2+(IntKind.i64.wrap ((x.2.2.1.size:Int) - x.2.2.2.2.2.2))))).toNat).size≤140737488355328)) then(bif (decide (0≤(IntKind.i64.wrap ((Int.tmod (IntKind.i64.wrap (x.2.1+x.2.2.2.2.2.2)) (64:Int))+(IntKind.i64.wrap ((x.2.2.1.size:Int) - x.2.2.2.2.2.2)))))&&decide ((IntKind.i64.wrap ((Int.tmod (IntKind.i64.wrap (x.2.1+x.2.2.2.2.2.2)) (64:Int))+(IntKind.i64.wrap ((x.2.2.1.size:Int) - x.2.2.2.2.2.2))))≤(y6.1.size:Int))&&decide ((y6.1.size:Int)≤(y6.1.size:Int))) then(bif (decide (((y6.1.extract ((0:Int)).toNat ((Int.tmod (IntKind.i64.wrap (x.2.1+x.2.2.2.2.2.2)) (64:Int))).toNat)++(x.2.2.1.extract (x.2.2.2.2.2.2).toNat ((IntKind.i64.wrap (x.2.2.2.2.2.2+(IntKind.i64.wrap ((x.2.2.1.size:Int) - x.2.2.2.2.2.2))))).toNat)).size+(y6.1.extract ((IntKind.i64.wrap ((Int.tmod (IntKind.i64.wrap (x.2.1+x.2.2.2.2.2.2)) (64:Int))+(IntKind.i64.wrap ((x.2.2.1.size:Int) - x.2.2.2.2.2.2))))).toNat ((y6.1.size:Int)).toNat).size≤140737488355328)) then((t0i (x.2.2.2.2.2.1,((IntKind.i64.wrap (x.1+(IntKind.i64.wrap (Int.tdiv (IntKind.i64.wrap (x.2.1+x.2.2.2.2.2.2)) (64:Int))))),(((y6.1.extract ((0:Int)).toNat ((Int.tmod (IntKind.i64.wrap (x.2.1+x.2.2.2.2.2.2)) (64:Int))).toNat)++(x.2.2.1.extract (x.2.2.2.2.2.2).toNat ((IntKind.i64.wrap (x.2.2.2.2.2.2+(IntKind.i64.wrap ((x.2.2.1.size:Int) - x.2.2.2.2.2.2))))).toNat))++(y6.1.extract ((IntKind.i64.wrap ((Int.tmod (IntKind.i64.wrap (x.2.1+x.2.2.2.2.2.2)) (64:Int))+(IntKind.i64.wrap ((x.2.2.1.size:Int) - x.2.2.2.2.2.2))))).toNat ((y6.1.size:Int)).toNat))))).bind fun y9=>(bif (!y9.2) then((u01 x.2.2.2.1).bind fun y10=>(some (.inr (y10,false)))) else(g (x.1,(x.2.1,(x.2.2.1,(x.2.2.2.1,(x.2.2.2.2.1,(y9.1,(IntKind.i64.wrap (x.2.2.2.2.2.2+(IntKind.i64.wrap ((x.2.2.1.size:Int) - x.2.2.2.2.2.2))))))))))))) else none) else none) else none) else none) else none)))) else((u5t (x.2.2.2.2.2.1,(IntKind.i64.wrap (x.1+(IntKind.i64.wrap (Int.tdiv (IntKind.i64.wrap (x.2.1+x.2.2.2.2.2.2)) (64:Int))))))).bind fun y11=>(((bif (!y11.2) then(some true) else(some (!decide ((y11.1.size:Int)=(64:Int))))):Option Bool).bind fun j12=>(bif j12 then((u01 x.2.2.2.1).bind fun y13=>(some (.inr (y13,false)))) else(bif (decide (0≤(0:Int))&&decide ((0:Int)≤(Int.tmod (IntKind.i64.wrap (x.2.1+x.2.2.2.2.2.2)) (64:Int)))&&decide ((Int.tmod (IntKind.i64.wrap (x.2.1+x.2.2.2.2.2.2)) (64:Int))≤(y11.1.size:Int))) then(bif (decide (0≤x.2.2.2.2.2.2)&&decide (x.2.2.2.2.2.2≤(IntKind.i64.wrap (x.2.2.2.2.2.2+(IntKind.i64.wrap ((64:Int) - (Int.tmod (IntKind.i64.wrap (x.2.1+x.2.2.2.2.2.2)) (64:Int)))))))&&decide ((IntKind.i64.wrap (x.2.2.2.2.2.2+(IntKind.i64.wrap ((64:Int) - (Int.tmod (IntKind.i64.wrap (x.2.1+x.2.2.2.2.2.2)) (64:Int))))))≤(x.2.2.1.size:Int))) then(bif (decide ((y11.1.extract ((0:Int)).toNat ((Int.tmod (IntKind.i64.wrap (x.2.1+x.2.2.2.2.2.2)) (64:Int))).toNat).size+(x.2.2.1.extract (x.2.2.2.2.2.2).toNat ((IntKind.i64.wrap (x.2.2.2.2.2.2+(IntKind.i64.wrap ((64:Int) - (Int.tmod (IntKind.i64.wrap (x.2.1+x.2.2.2.2.2.2)) (64:Int))))))).toNat).size≤140737488355328)) then(bif (decide (0≤(IntKind.i64.wrap ((Int.tmod (IntKind.i64.wrap (x.2.1+x.2.2.2.2.2.2)) (64:Int))+(IntKind.i64.wrap ((64:Int) - (Int.tmod (IntKind.i64.wrap (x.2.1+x.2.2.2.2.2.2)) (64:Int)))))))&&decide ((IntKind.i64.wrap ((Int.tmod (IntKind.i64.wrap (x.2.1+x.2.2.2.2.2.2)) (64:Int))+(IntKind.i64.wrap ((64:Int) - (Int.tmod (IntKind.i64.wrap (x.2.1+x.2.2.2.2.2.2)) (64:Int))))))≤(y11.1.size:Int))&&decide ((y11.1.size:Int)≤(y11.1.size:Int))) then(bif (decide (((y11.1.extract ((0:Int)).toNat ((Int.tmod (IntKind.i64.wrap (x.2.1+x.2.2.2.2.2.2)) (64:Int))).toNat)++(x.2.2.1.extract (x.2.2.2.2.2.2).toNat ((IntKind.i64.wrap (x.2.2.2.2.2.2+(IntKind.i64.wrap ((64:Int) - (Int.tmod (IntKind.i64.wrap (x.2.1+x.2.2.2.2.2.2)) (64:Int))))))).toNat)).size+(y11.1.extract ((IntKind.i64.wrap ((Int.tmod (IntKind.i64.wrap (x.2.1+x.2.2.2.2.2.2)) (64:Int))+(IntKind.i64.wrap ((64:Int) - (Int.tmod (IntKind.i64.wrap (x.2.1+x.2.2.2.2.2.2)) (64:Int))))))).toNat ((y11.1.size:Int)).toNat).size≤140737488355328)) then((t0i (x.2.2.2.2.2.1,((IntKind.i64.wrap (x.1+(IntKind.i64.wrap (Int.tdiv (IntKind.i64.wrap (x.2.1+x.2.2.2.2.2.2)) (64:Int))))),(((y11.1.extract ((0:Int)).toNat ((Int.tmod (IntKind.i64.wrap (x.2.1+x.2.2.2.2.2.2)) (64:Int))).toNat)++(x.2.2.1.extract (x.2.2.2.2.2.2).toNat ((IntKind.i64.wrap (x.2.2.2.2.2.2+(IntKind.i64.wrap ((64:Int) - (Int.tmod (IntKind.i64.wrap (x.2.1+x.2.2.2.2.2.2)) (64:Int))))))).toNat))++(y11.1.extract ((IntKind.i64.wrap ((Int.tmod (IntKind.i64.wrap (x.2.1+x.2.2.2.2.2.2)) (64:Int))+(IntKind.i64.wrap ((64:Int) - (Int.tmod (IntKind.i64.wrap (x.2.1+x.2.2.2.2.2.2)) (64:Int))))))).toNat ((y11.1.size:Int)).toNat))))).bind fun y14=>(bif (!y14.2) then((u01 x.2.2.2.1).bind fun y15=>(some (.inr (y15,false)))) else(g (x.1,(x.2.1,(x.2.2.1,(x.2.2.2.1,(x.2.2.2.2.1,(y14.1,(IntKind.i64.wrap (x.2.2.2.2.2.2+(IntKind.i64.wrap ((64:Int) - (Int.tmod (IntKind.i64.wrap (x.2.1+x.2.2.2.2.2.2)) (64:Int))))))))))))))) else none) else none) else none) else none) else none))))) else(some (.inl (x.2.2.2.2.1,x.2.2.2.2.2.1))))
def u4u:=lpW _ _ t4j
theorem r3x x:u4u x=t4j u4u x:=zW t9n 411 Tryz.f411 5 111 x (by kernel_rfl)
def s2s (x:o4v):Option r58:=((u01 x.1).bind fun y1=>((((u0o (x.2.2.1,(0,6400))).bind fun y2=>(bif (!y2) then(some true) else((u0o (x.2.1,(0,(IntKind.i64.wrap ((x.1.1.length:Int) - (1:Int)))))).bind fun y3=>(bif (!y3) then(some true) else((t2g x.1).bind fun y4=>(some (!y4))))))):Option Bool).bind fun j5=>(bif j5 then(some (y1,false)) else((u4u (x.2.1,(x.2.2.1,(x.2.2.2,(x.1,((([] :List ByteArray),([] :List p4t.den)),(y1,0))))))).bind fun r16=>match r16 with | .inl o17=>(some (o17.2,true)) | .inr z18=>(some z18)))))
theorem r6q:u7r=s2s:=zC 411 rfl Tryz.func411 (by kernel_rfl)
def t53(x:Int):Option ByteArray:=zK 412 x
def q5w (x:Int):Option ByteArray:=(some (y7g ([(IntKind.u8.wrap x)] :List Int)))
theorem r5f:t53=q5w:=zC 412 rfl Tryz.func412 (by kernel_rfl)
def t52(x:o2u):Option r58:=zK 432 x
def s8m (x:o2u):Option r58:=((u6e x.2.1).bind fun y1=>((t53 x.2.2).bind fun y2=>((u7r (x.1,(y1,(0,y2)))).bind fun y3=>(some y3))))
theorem q03:t52=s8m:=zC 432 rfl Tryz.func432 (by kernel_rfl)
def t93(x:p83):Option r58:=zK 430 x
def s8l (x:p83):Option r58:=((u7p (x.1,x.2.1)).bind fun y1=>(((bif (!y1.2.2) then(some true) else(bif (z7o x.2.2 (⟨#[]⟩:ByteArray)) then(some true) else(bif (decide ((x.2.2.size:Int) >(3008:Int))) then(some true) else((t28 (x.1,x.2.1)).bind fun y2=>(some (decide (y2≥255))))))):Option Bool).bind fun j3=>(bif j3 then((u01 x.1).bind fun y4=>(some (y4,false))) else((u1n (x.2.2.size:Int)).bind fun y5=>(bif (decide (y5.size+x.2.2.size≤140737488355328)) then(bif (decide (((y5++x.2.2).size:Int) >(IntKind.i64.wrap ((3008:Int) - y1.2.1)))) then((u01 x.1).bind fun y6=>(some (y6,false))) else((u6e x.2.1).bind fun y7=>((u7r (x.1,((IntKind.i64.wrap (y7+1)),(y1.2.1,(y5++x.2.2))))).bind fun y8=>(some y8)))) else none)))))
theorem q02:t93=s8l:=zC 430 rfl Tryz.func430 (by kernel_rfl)
def t86(x:p83):Option r58:=zK 463 x
def r4x (x:p83):Option r58:=((t93 x).bind fun y1=>(bif (!y1.2) then(some (y1.1,false)) else((u6f y1.1).bind fun y2=>((t28 (x.1,x.2.1)).bind fun y3=>((t52 (y2,(x.2.1,(IntKind.i64.wrap (y3+1))))).bind fun y4=>((u6f y4.1).bind fun y5=>(some (y5,y4.2))))))))
theorem q6x:t86=r4x:=zC 463 rfl Tryz.func463 (by kernel_rfl)
def s19(x:o2r):Option r58:=zK 415 x
def u8y(g:Z88→Option (o4m⊕Unit))(x:Z88):Option (o4m⊕Unit):=(((bif (decide (x.2.2.2.2.2<(x.1.length:Int))) then(some x.2.2.2.2.1) else(some false)):Option Bool).bind fun j4=>(bif j4 then(bif (y4q x.2.2.2.2.2 x.1.length) then((t86 (x.2.2.2.1,(x.2.2.1,(rdL Ty.str x.1 (x.2.2.2.2.2).toNat)))).bind fun y5=>(g (x.1,(x.2.1,(x.2.2.1,(y5.1,(y5.2,(IntKind.i64.wrap (x.2.2.2.2.2+1))))))))) else none) else(some (.inl (x.2.1,(x.2.2.2.1,x.2.2.2.2.1))))))
def u9f:=lpW _ _ u8y
theorem t8k x:u9f x=u8y u9f x:=zW s6h 415 Tryz.f415 5 42 x (by kernel_rfl)
def r1r (x:o2r):Option r58:=((t1d x.1).bind fun y1=>((t52 (x.1,((IntKind.i64.wrap ((1:Int) - y1)),0))).bind fun y2=>((u6f y2.1).bind fun y3=>((u9f (x.2,((([] :List ByteArray),([] :List p4t.den)),((IntKind.i64.wrap ((1:Int) - y1)),(y3,(y2.2,0)))))).bind fun r6=>match r6 with | .inl o7=>(some o7.2) | .inr z8=>none))))
theorem q3k:s19=r1r:=zC 415 rfl Tryz.func415 (by kernel_rfl)
def s2a(x:s0i):Option r58:=zK 416 x
def r1s (x:s0i):Option r58:=((t3b (x,0)).bind fun y1=>((t53 (IntKind.i64.wrap (y1+1))).bind fun y2=>((u7r (x,(0,(0,y2)))).bind fun y3=>(some y3))))
theorem q3l:s2a=r1s:=zC 416 rfl Tryz.func416 (by kernel_rfl)
def t8g(x:o2r):Option r58:=zK 343 x
def s5k (x:o2r):Option r58:=((s1b x.1).bind fun y1=>(bif (!y1) then((u01 x.1).bind fun y2=>(some (y2,false))) else((s19 x).bind fun y3=>(bif (!y3.2) then((u01 x.1).bind fun y4=>(some (y4,false))) else((s2a y3.1).bind fun y5=>(bif (!y5.2) then((u01 x.1).bind fun y6=>(some (y6,false))) else((u6f y5.1).bind fun y7=>(some (y7,true)))))))))
theorem r84:t8g=s5k:=zC 343 rfl Tryz.func343 (by kernel_rfl)
def t55(x:s0i):Option r58:=zK 226 x
def s8r (x:s0i):Option r58:=((t7k x).bind fun y1=>((u2z (4,((0,(0,(0,(0,(([] :List q4f.den),(([] :List u1x.den),(false,(⟨#[]⟩:ByteArray)))))))),((⟨#[]⟩:ByteArray),(false,y1.1))))).bind fun y2=>(((bif (!y1.2) then(some true) else(some (!y2.2))):Option Bool).bind fun j3=>(bif j3 then((u01 x).bind fun y4=>(some (y4,false))) else((t8g (x,([y2.1] :List ByteArray))).bind fun y5=>(some y5))))))
theorem q08:t55=s8r:=zC 226 rfl Tryz.func226 (by kernel_rfl)
def u7o(x:Z44):Option Z39:=zK 90 x
def s77 (x:Z44):Option Z39:=((s2c x).bind fun y1=>((t55 x.2).bind fun y2=>(bif y2.2 then(some ((y1.1,y2.1),y2.2)) else(some (y1,y2.2)))))
theorem q0p:u7o=s77:=zC 90 rfl Tryz.func90 (by kernel_rfl)
def u1v(x:o5d):Option o2y:=zK 245 x
def r1m (x:o5d):Option o2y:=((u17 (x.1,(x.2.length:Int))).bind fun y1=>(bif (y4q y1.1 x.2.length) then(some ((rdL Ty.str x.2 (y1.1).toNat),y1.2)) else none))
theorem q3g:u1v=r1m:=zC 245 rfl Tryz.func245 (by kernel_rfl)
def u19(x:o0w):Option (Bool×q36):=zK 247 x
def r1l (x:o0w):Option (Bool×q36):=((u17 x).bind fun y1=>(some ((decide (y1.1=0)),y1.2)))
theorem q3f:u19=r1l:=zC 247 rfl Tryz.func247 (by kernel_rfl)
def u5l(x:q36):Option o2y:=zK 351 x
def r4y (x:q36):Option o2y:=((u1v (x,([(⟨#[97]⟩:ByteArray),(⟨#[98]⟩:ByteArray),(⟨#[99]⟩:ByteArray),(⟨#[100]⟩:ByteArray),(⟨#[97,98]⟩:ByteArray)] :List ByteArray))).bind fun y1=>(some y1))
theorem q6y:u5l=r4y:=zC 351 rfl Tryz.func351 (by kernel_rfl)
def u7u(x:q36):Option o4z:=zK 322 x
def s8o (x:q36):Option o4z:=((u5l x).bind fun y1=>((u1v (y1.2,([(⟨#[111,110,101]⟩:ByteArray),(⟨#[116,119,111]⟩:ByteArray),(⟨#[]⟩:ByteArray),(⟨#[120,0]⟩:ByteArray)] :List ByteArray))).bind fun y2=>((u19 (y2.2,5)).bind fun y3=>(bif y3.1 then(some ((y1.1,((⟨#[]⟩:ByteArray),true)),y3.2)) else(some ((y1.1,(y2.1,false)),y3.2))))))
theorem q05:u7u=s8o:=zC 322 rfl Tryz.func322 (by kernel_rfl)
def t4g(x:Z89):Option Z99:=zK 419 x
def u99(g:Z16→Option (Z17⊕Z99))(x:Z16):Option (Z17⊕Z99):=(bif (decide (x.2.2.2.2<(x.1.2.2.2.2.1.length:Int))) then(bif (y4q x.2.2.2.2 x.1.2.2.2.2.1.length) then(bif (z7o (rdL q4f x.1.2.2.2.2.1 (x.2.2.2.2).toNat).1 x.2.1.1&&(z7o (rdL q4f x.1.2.2.2.2.1 (x.2.2.2.2).toNat).2 x.2.1.2&&true)) then(some (.inr (x.2.2.2.1,true))) else(g (x.1,(x.2.1,(x.2.2.1,(x.2.2.2.1,(IntKind.i64.wrap (x.2.2.2.2+1)))))))) else none) else(some (.inl (x.1,(x.2.1,(x.2.2.1,x.2.2.2.1))))))
def u6m:=lpW _ _ u99
theorem s1p x:u6m x=u99 u6m x:=zW s06 419 Tryz.f419 5 51 x (by kernel_rfl)
def s5i (x:Z89):Option Z99:=((u02 x.1).bind fun y1=>((((u5p x.1).bind fun y2=>(bif (!y2) then(some true) else(bif (!decide (x.1.2.1=1)) then(some true) else((t29 x.2).bind fun y3=>(some (!y3)))))):Option Bool).bind fun j4=>(bif j4 then(some (y1,false)) else((u6m (x.1,(x.2,((0,(0,(0,(0,(([] :List q4f.den),(([] :List u1x.den),(false,(⟨#[]⟩:ByteArray)))))))),(y1,0))))).bind fun r5=>match r5 with | .inl o6=>(bif (decide ((o6.1.2.2.2.2.1.length:Int)≥(8:Int))) then(some (o6.2.2.2,false)) else(bif (Nat.ble (o6.2.2.2.2.2.2.2.1.length+([o6.2.1] :List q4f.den).length) z7w) then(some ((o6.2.2.2.1,(o6.2.2.2.2.1,(o6.2.2.2.2.2.1,(o6.2.2.2.2.2.2.1,((o6.2.2.2.2.2.2.2.1++([o6.2.1] :List q4f.den)),o6.2.2.2.2.2.2.2.2))))),true)) else none)) | .inr z7=>(some z7)))))
theorem r82:t4g=s5i:=zC 419 rfl Tryz.func419 (by kernel_rfl)
def t85(x:o0q):Option r9c:=zK 27 x
def r4t (x:o0q):Option r9c:=((s1e x).bind fun y1=>(((bif (decide (y1<0)) then(some true) else(bif (y4q y1 x.1.length) then(some (rdL u0g x.1 (y1).toNat).2.2.1) else none)):Option Bool).bind fun j2=>(bif j2 then(some ((⟨#[]⟩:ByteArray),false)) else(bif (y4q y1 x.1.length) then(some ((rdL u0g x.1 (y1).toNat).2.1,true)) else none))))
theorem q6t:t85=r4t:=zC 27 rfl Tryz.func27 (by kernel_rfl)
def t84(x:Z80):Option r9c:=zK 420 x
def t0p(g:Z70→Option (Z78⊕r9c))(x:Z70):Option (Z78⊕r9c):=(bif (decide (x.2.2.2<(x.2.2.1.2.2.2.2.2.1.length:Int))) then(bif (y4q x.2.2.2 x.2.2.1.2.2.2.2.2.1.length) then(bif (z7o (rdL u1x x.2.2.1.2.2.2.2.2.1 (x.2.2.2).toNat).1 x.2.1) then(bif (y4q x.2.2.2 x.2.2.1.2.2.2.2.2.1.length) then(bif (rdL u1x x.2.2.1.2.2.2.2.2.1 (x.2.2.2).toNat).2.2 then(some (.inr ((⟨#[]⟩:ByteArray),false))) else(bif (y4q x.2.2.2 x.2.2.1.2.2.2.2.2.1.length) then(some (.inr ((rdL u1x x.2.2.1.2.2.2.2.2.1 (x.2.2.2).toNat).2.1,true))) else none)) else none) else(g (x.1,(x.2.1,(x.2.2.1,(IntKind.i64.wrap (x.2.2.2+1))))))) else none) else(some (.inl (x.1,(x.2.1,x.2.2.1)))))
def t0w:=lpW _ _ t0p
theorem s91 x:t0w x=t0p t0w x:=zW s87 420 Tryz.f420 2 43 x (by kernel_rfl)
def r4o (x:Z80):Option r9c:=((t0w (x.2.1,(x.2.2,(x.1,0)))).bind fun r1=>match r1 with | .inl o2=>((t85 (o2.1,(o2.2.1,o2.2.2.2.2.1))).bind fun y3=>(some y3)) | .inr z4=>(some z4))
theorem q6o:t84=r4o:=zC 420 rfl Tryz.func420 (by kernel_rfl)
def t2i(x:Z53):Option Z50:=zK 350 x
def r4l (x:Z53):Option Z50:=((u0m x.1).bind fun y1=>((u4y (x.1,x.2.1)).bind fun y2=>(bif (decide (y2<0)) then(some (y1,((⟨#[]⟩:ByteArray),(false,1)))) else((u5n x.2.2).bind fun y3=>(bif (!y3) then(some (y1,((⟨#[]⟩:ByteArray),(false,2)))) else(bif (y4q y2 x.1.2.length) then((t4g ((rdL u0a x.1.2 (y2).toNat),(x.2.2,x.2.2))).bind fun y4=>(bif (!y4.2) then(some (y1,((⟨#[]⟩:ByteArray),(false,3)))) else(bif (y4q y2 y1.2.length) then((t84 (y4.1,(x.1.1.1,x.2.2))).bind fun y5=>(some ((y1.1,(y1.2.set (y2).toNat y4.1)),(y5.1,(y5.2,0))))) else none))) else none))))))
theorem q6l:t2i=r4l:=zC 350 rfl Tryz.func350 (by kernel_rfl)
def t7p(x:o3s):Option p4x:=zK 153 x
def t33(g:Z91→Option (Z96⊕Unit))(x:Z91):Option (Z96⊕Unit):=(bif (decide (x.2.2.2.2.2.2<(x.2.2.1.length:Int))) then(bif (y4q x.2.2.2.2.2.2 x.2.2.1.length) then(bif (y3c (rdL Ty.str x.2.2.1 (x.2.2.2.2.2.2).toNat) x.2.2.2.2.1) then(bif (y4q x.2.2.2.2.2.2 x.2.2.1.length) then(bif (Nat.ble (x.2.2.2.2.2.1.length+([(rdL Ty.str x.2.2.1 (x.2.2.2.2.2.2).toNat)] :List ByteArray).length) z7w) then(g (x.1,(x.2.1,(x.2.2.1,(x.2.2.2.1,(x.2.2.2.2.1,((x.2.2.2.2.2.1++([(rdL Ty.str x.2.2.1 (x.2.2.2.2.2.2).toNat)] :List ByteArray)),(IntKind.i64.wrap (x.2.2.2.2.2.2+1))))))))) else none) else none) else(g (x.1,(x.2.1,(x.2.2.1,(x.2.2.2.1,(x.2.2.2.2.1,(x.2.2.2.2.2.1,(IntKind.i64.wrap (x.2.2.2.2.2.2+1)))))))))) else none) else(some (.inl (x.1,(x.2.1,(x.2.2.1,(x.2.2.2.1,(x.2.2.2.2.1,x.2.2.2.2.2.1))))))))
def u9g:=lpW _ _ t33
theorem s7e x:u9g x=t33 u9g x:=zW s6j 153 Tryz.f153 9 72 x (by kernel_rfl)
def t13(g:Z91→Option (o4p⊕Unit))(x:Z91):Option (o4p⊕Unit):=(bif (decide (x.2.2.2.2.2.2<(x.2.2.1.length:Int))) then(bif (y4q x.2.2.2.2.2.2 x.2.2.1.length) then(bif (!(y3c (rdL Ty.str x.2.2.1 (x.2.2.2.2.2.2).toNat) x.2.2.2.2.1 || z7o (rdL Ty.str x.2.2.1 (x.2.2.2.2.2.2).toNat) x.2.2.2.2.1)) then(bif (y4q x.2.2.2.2.2.2 x.2.2.1.length) then(bif (Nat.ble (x.2.2.2.2.2.1.length+([(rdL Ty.str x.2.2.1 (x.2.2.2.2.2.2).toNat)] :List ByteArray).length) z7w) then(g (x.1,(x.2.1,(x.2.2.1,(x.2.2.2.1,(x.2.2.2.2.1,((x.2.2.2.2.2.1++([(rdL Ty.str x.2.2.1 (x.2.2.2.2.2.2).toNat)] :List ByteArray)),(IntKind.i64.wrap (x.2.2.2.2.2.2+1))))))))) else none) else none) else(g (x.1,(x.2.1,(x.2.2.1,(x.2.2.2.1,(x.2.2.2.2.1,(x.2.2.2.2.2.1,(IntKind.i64.wrap (x.2.2.2.2.2.2+1)))))))))) else none) else(some (.inl (x.1,(x.2.1,(x.2.2.2.1,x.2.2.2.2.2.1))))))
def u7i:=lpW _ _ t13
theorem s4c x:u7i x=t13 u7i x:=zW s3l 153 Tryz.f153 15 72 x (by kernel_rfl)
def t32(g:o4q→Option (p4x⊕Unit))(x:o4q):Option (p4x⊕Unit):=(bif (decide (x.2.2.2<(x.1.length:Int))) then(bif (y4q x.2.2.2 x.1.length) then((t7j (x.2.1,(rdL u0g x.1 (x.2.2.2).toNat).1)).bind fun y1=>(bif (!y1) then(g (x.1,(x.2.1,(x.2.2.1,(IntKind.i64.wrap (x.2.2.2+1)))))) else((u9g (x.1,(x.2.1,(x.2.2.1,(x.2.2.2,((rdL u0g x.1 (x.2.2.2).toNat).1,(([] :List ByteArray),0))))))).bind fun r2=>match r2 with | .inl o3=>(bif (Nat.ble (o3.2.2.2.2.2.length+([o3.2.2.2.2.1] :List ByteArray).length) z7w) then((u7i (o3.1,(o3.2.1,(o3.2.2.1,(o3.2.2.2.1,(o3.2.2.2.2.1,((o3.2.2.2.2.2++([o3.2.2.2.2.1] :List ByteArray)),0))))))).bind fun r4=>match r4 with | .inl o5=>(g (o5.1,(o5.2.1,(o5.2.2.2,(IntKind.i64.wrap (o5.2.2.1+1)))))) | .inr z6=>(some (.inr ()))) else none) | .inr z7=>(some (.inr ()))))) else none) else(some (.inl x.2.2.1)))
def t4c:=lpW _ _ t32
theorem s7d x:t4c x=t32 t4c x:=zW s6i 153 Tryz.f153 3 72 x (by kernel_rfl)
def r1t (x:o3s):Option p4x:=((t4c (x.1,(x.2,(([] :List ByteArray),0)))).bind fun r8=>match r8 with | .inl o9=>(some o9) | .inr z10=>none)
theorem q3m:t7p=r1t:=zC 153 rfl Tryz.func153 (by kernel_rfl)
def s13(x:Z68):Option p4y:=zK 421 x
def t3s(g:Z54→Option (Z59⊕Unit))(x:Z54):Option (Z59⊕Unit):=(bif (decide (x.2.2.2.2<(x.2.1.2.2.2.2.2.1.length:Int))) then(bif (y4q x.2.2.2.2 x.2.1.2.2.2.2.2.1.length) then(bif (Nat.ble (x.2.2.2.1.length+([((rdL u1x x.2.1.2.2.2.2.2.1 (x.2.2.2.2).toNat).1,((⟨#[]⟩:ByteArray),(false,0)))] :List u0g.den).length) z7w) then(g (x.1,(x.2.1,(x.2.2.1,((x.2.2.2.1++([((rdL u1x x.2.1.2.2.2.2.2.1 (x.2.2.2.2).toNat).1,((⟨#[]⟩:ByteArray),(false,0)))] :List u0g.den)),(IntKind.i64.wrap (x.2.2.2.2+1))))))) else none) else none) else(some (.inl (x.1,(x.2.1,(x.2.2.1,x.2.2.2.1))))))
def u88:=lpW _ _ t3s
theorem s61 x:u88 x=t3s u88 x:=zW s54 421 Tryz.f421 3 65 x (by kernel_rfl)
def t3t(g:Z60→Option (p4y⊕Unit))(x:Z60):Option (p4y⊕Unit):=(bif (decide (x.2.2.2.2<(x.2.2.2.1.length:Int))) then(bif (y4q x.2.2.2.2 x.2.2.2.1.length) then((t84 (x.2.1,(x.1,(rdL Ty.str x.2.2.2.1 (x.2.2.2.2).toNat)))).bind fun y4=>(bif y4.2 then(bif (y4q x.2.2.2.2 x.2.2.2.1.length) then(bif (Nat.ble (x.2.2.1.length+([((rdL Ty.str x.2.2.2.1 (x.2.2.2.2).toNat),y4.1)] :List q4f.den).length) z7w) then(g (x.1,(x.2.1,((x.2.2.1++([((rdL Ty.str x.2.2.2.1 (x.2.2.2.2).toNat),y4.1)] :List q4f.den)),(x.2.2.2.1,(IntKind.i64.wrap (x.2.2.2.2+1))))))) else none) else none) else(g (x.1,(x.2.1,(x.2.2.1,(x.2.2.2.1,(IntKind.i64.wrap (x.2.2.2.2+1))))))))) else none) else(some (.inl x.2.2.1)))
def t37:=lpW _ _ t3t
theorem s62 x:t37 x=t3t t37 x:=zW s55 421 Tryz.f421 9 65 x (by kernel_rfl)
def r06 (x:Z68):Option p4y:=(bif (Nat.ble (([] :List u0g.den).length+x.2.1.length) z7w) then((u88 (x.2.1,(x.1,(x.2.2,((([] :List u0g.den)++x.2.1),0))))).bind fun r1=>match r1 with | .inl o2=>((t7p (o2.2.2.2,o2.2.2.1)).bind fun y3=>((t37 (o2.1,(o2.2.1,(([] :List q4f.den),(y3,0))))).bind fun r5=>match r5 with | .inl o6=>(some o6) | .inr z7=>none)) | .inr z8=>none) else none)
theorem q20:s13=r06:=zC 421 rfl Tryz.func421 (by kernel_rfl)
def u7q(x:Z46):Option Z51:=zK 352 x
def s8e (x:Z46):Option Z51:=((u0m x.1).bind fun y1=>((u4y (x.1,x.2.1)).bind fun y2=>(bif (decide (y2<0)) then(some (y1,(([] :List q4f.den),1))) else((t29 x.2.2).bind fun y3=>(bif (!y3) then(some (y1,(([] :List q4f.den),2))) else(bif (y4q y2 x.1.2.length) then((t4g ((rdL u0a x.1.2 (y2).toNat),x.2.2)).bind fun y4=>(bif (!y4.2) then(some (y1,(([] :List q4f.den),3))) else(bif (y4q y2 y1.2.length) then((s13 (y4.1,(x.1.1.1,x.2.2))).bind fun y5=>(some ((y1.1,(y1.2.set (y2).toNat y4.1)),(y5,0)))) else none))) else none))))))
theorem q0w:u7q=s8e:=zC 352 rfl Tryz.func352 (by kernel_rfl)
def u7t(x:q36):Option o47:=zK 353 x
def s8n (x:q36):Option o47:=((u5l x).bind fun y1=>((u19 (y1.2,2)).bind fun y2=>(bif y2.1 then(some ((y1.1,y1.1),y2.2)) else((u5l y2.2).bind fun y3=>(bif (y3c y3.1 y1.1) then(some ((y3.1,y1.1),y3.2)) else(some ((y1.1,y3.1),y3.2)))))))
theorem q04:u7t=s8n:=zC 353 rfl Tryz.func353 (by kernel_rfl)
def u00(x:Z61):Option Z64:=zK 424 x
def t5b(g:Z38→Option (Z45⊕Unit))(x:Z38):Option (Z45⊕Unit):=(bif (decide (x.2.2.2<(x.1.2.length:Int))) then(bif (y4q x.2.2.2 x.1.2.length) then(bif (!decide ((rdL u0a x.1.2 (x.2.2.2).toNat).1=x.2.1)) then(bif (y4q x.2.2.2 x.1.2.length) then(bif (Nat.ble (x.2.2.1.length+([(rdL u0a x.1.2 (x.2.2.2).toNat)] :List u0a.den).length) z7w) then(g (x.1,(x.2.1,((x.2.2.1++([(rdL u0a x.1.2 (x.2.2.2).toNat)] :List u0a.den)),(IntKind.i64.wrap (x.2.2.2+1)))))) else none) else none) else(g (x.1,(x.2.1,(x.2.2.1,(IntKind.i64.wrap (x.2.2.2+1))))))) else none) else(some (.inl (x.1,x.2.2.1))))
def t0y:=lpW _ _ t5b
theorem s94 x:t0y x=t5b t0y x:=zW s9c 424 Tryz.f424 2 49 x (by kernel_rfl)
def r42 (x:Z61):Option Z64:=((t0y (x.1,(x.2,(([] :List u0a.den),0)))).bind fun r1=>match r1 with | .inl o2=>((t2l (o2.1.1,o2.2)).bind fun y3=>(some (y3,o2.2))) | .inr z4=>none)
theorem q62:u00=r42:=zC 424 rfl Tryz.func424 (by kernel_rfl)
def s1c(x:o2z):Option Bool:=zK 159 x
def t6z(g:p84→Option (o2w⊕Bool))(x:p84):Option (o2w⊕Bool):=(bif (decide (x.2.2.2<(x.2.1.length:Int))) then(bif (y4q x.2.2.1 x.1.length) then(bif (y4q x.2.2.2 x.2.1.length) then(bif (z7o (rdL u1x x.1 (x.2.2.1).toNat).1 (rdL u1x x.2.1 (x.2.2.2).toNat).1) then(some (.inr true)) else(g (x.1,(x.2.1,(x.2.2.1,(IntKind.i64.wrap (x.2.2.2+1))))))) else none) else none) else(some (.inl (x.1,(x.2.1,x.2.2.1)))))
def t20:=lpW _ _ t6z
theorem r24 x:t20 x=t6z t20 x:=zW r2p 159 Tryz.f159 5 30 x (by kernel_rfl)
def t6y(g:o2w→Option r3y)(x:o2w):Option r3y:=(bif (decide (x.2.2<(x.1.length:Int))) then((t20 (x.1,(x.2.1,(x.2.2,0)))).bind fun r1=>match r1 with | .inl o2=>(g (o2.1,(o2.2.1,(IntKind.i64.wrap (o2.2.2+1))))) | .inr z3=>(some (.inr z3))) else(some (.inl ())))
def t67:=lpW _ _ t6y
theorem r23 x:t67 x=t6y t67 x:=zW r2o 159 Tryz.f159 2 30 x (by kernel_rfl)
def r7s (x:o2z):Option Bool:=((t67 (x.1,(x.2,0))).bind fun r4=>match r4 with | .inl o5=>(some false) | .inr z6=>(some z6))
theorem q8z:s1c=r7s:=zC 159 rfl Tryz.func159 (by kernel_rfl)
def t7h(x:Z75):Option Bool:=zK 53 x
def t3q(g:Z69→Option r3y)(x:Z69):Option r3y:=(bif (decide (x.2.2<(x.1.length:Int))) then(bif (y4q x.2.2 x.1.length) then(((bif (!decide ((rdL u0a x.1 (x.2.2).toNat).1=x.2.1.1)) then(bif (decide ((rdL u0a x.1 (x.2.2).toNat).2.1=2)) then((s1c ((rdL u0a x.1 (x.2.2).toNat).2.2.2.2.2.1,x.2.1.2.2.2.2.2.1)).bind fun y1=>(some y1)) else(bif (decide ((rdL u0a x.1 (x.2.2).toNat).2.1=3)) then(bif (decide ((rdL u0a x.1 (x.2.2).toNat).2.2.2.1 >x.2.1.2.2.1)) then((s1c ((rdL u0a x.1 (x.2.2).toNat).2.2.2.2.2.1,x.2.1.2.2.2.2.2.1)).bind fun y2=>(some y2)) else(some false)) else(some false))) else(some false)):Option Bool).bind fun j3=>(bif j3 then(some (.inr true)) else(g (x.1,(x.2.1,(IntKind.i64.wrap (x.2.2+1))))))) else none) else(some (.inl ())))
def u85:=lpW _ _ t3q
theorem s6y x:u85 x=t3q u85 x:=zW s50 53 Tryz.f53 2 46 x (by kernel_rfl)
def r01 (x:Z75):Option Bool:=((u85 (x.2,(x.1,0))).bind fun r4=>match r4 with | .inl o5=>(some false) | .inr z6=>(some z6))
theorem q2v:t7h=r01:=zC 53 rfl Tryz.func53 (by kernel_rfl)
def s40(x:Z75):Option Bool:=zK 160 x
def t8x(g:Z69→Option r3y)(x:Z69):Option r3y:=(bif (decide (x.2.2<(x.1.length:Int))) then(((bif (y4q x.2.2 x.1.length) then(bif (decide ((rdL u0a x.1 (x.2.2).toNat).2.1=2)) then(bif (y4q x.2.2 x.1.length) then((u2f ((rdL u0a x.1 (x.2.2).toNat),x.2.1)).bind fun y1=>(some y1)) else none) else(bif (y4q x.2.2 x.1.length) then(bif (decide ((rdL u0a x.1 (x.2.2).toNat).2.1=3)) then(bif (y4q x.2.2 x.1.length) then((u2f ((rdL u0a x.1 (x.2.2).toNat),x.2.1)).bind fun y2=>(some y2)) else none) else(some false)) else none)) else none):Option Bool).bind fun j3=>(bif j3 then(some (.inr true)) else(g (x.1,(x.2.1,(IntKind.i64.wrap (x.2.2+1))))))) else(some (.inl ())))
def t5e:=lpW _ _ t8x
theorem r5y x:t5e x=t8x t5e x:=zW r5k 160 Tryz.f160 2 34 x (by kernel_rfl)
def r91 (x:Z75):Option Bool:=((t5e (x.2,(x.1,0))).bind fun r4=>match r4 with | .inl o5=>(some false) | .inr z6=>(some z6))
theorem p1d:s40=r91:=zC 160 rfl Tryz.func160 (by kernel_rfl)
def t5w(x:Z75):Option Bool:=zK 54 x
def u8w(g:Z25→Option (Z69⊕Bool))(x:Z25):Option (Z69⊕Bool):=(((bif (decide (x.2.2.2.2<(x.1.length:Int))) then(bif (decide (x.2.2.2.1.2.1=2)) then((u2f (x.2.2.2.1,x.2.1)).bind fun y10=>(some y10)) else(some false)) else(some false)):Option Bool).bind fun j11=>(bif j11 then(bif (y4q x.2.2.2.2 x.1.length) then(((bif (decide ((rdL u0a x.1 (x.2.2.2.2).toNat).2.1=2)) then(bif (!decide ((rdL u0a x.1 (x.2.2.2.2).toNat).1=x.2.1.1)) then((u2f ((rdL u0a x.1 (x.2.2.2.2).toNat),x.2.2.2.1)).bind fun y12=>(some y12)) else(some false)) else(some false)):Option Bool).bind fun j13=>(bif j13 then(some (.inr true)) else(g (x.1,(x.2.1,(x.2.2.1,(x.2.2.2.1,(IntKind.i64.wrap (x.2.2.2.2+1))))))))) else none) else(some (.inl (x.1,(x.2.1,x.2.2.1))))))
def u6a:=lpW _ _ u8w
theorem t8j x:u6a x=u8w u6a x:=zW s51 54 Tryz.f54 12 92 x (by kernel_rfl)
def t46(g:Z69→Option r3y)(x:Z69):Option r3y:=(bif (decide (x.2.2<(x.1.length:Int))) then(bif (y4q x.2.2 x.1.length) then(((bif (decide ((rdL u0a x.1 (x.2.2).toNat).2.1=2)) then(bif (rdL u0a x.1 (x.2.2).toNat).2.2.2.2.2.2.1 then((u2f (x.2.1,(rdL u0a x.1 (x.2.2).toNat))).bind fun y4=>(some y4)) else(some false)) else(bif (decide ((rdL u0a x.1 (x.2.2).toNat).2.1=3)) then(bif (rdL u0a x.1 (x.2.2).toNat).2.2.2.2.2.2.1 then((u2f (x.2.1,(rdL u0a x.1 (x.2.2).toNat))).bind fun y5=>(some y5)) else(some false)) else(some false))):Option Bool).bind fun j6=>(bif j6 then(some (.inr true)) else(((bif (decide ((rdL u0a x.1 (x.2.2).toNat).2.1=2)) then((u2f ((rdL u0a x.1 (x.2.2).toNat),x.2.1)).bind fun y7=>(bif y7 then((u2f (x.2.1,(rdL u0a x.1 (x.2.2).toNat))).bind fun y8=>(some y8)) else(some false))) else(some false)):Option Bool).bind fun j9=>(bif j9 then(some (.inr true)) else((u6a (x.1,(x.2.1,(x.2.2,((rdL u0a x.1 (x.2.2).toNat),0))))).bind fun r14=>match r14 with | .inl o15=>(g (o15.1,(o15.2.1,(IntKind.i64.wrap (o15.2.2+1))))) | .inr z16=>(some (.inr z16))))))) else none) else(some (.inl ())))
def t0u:=lpW _ _ t46
theorem s9x x:t0u x=t46 t0u x:=zW s83 54 Tryz.f54 4 92 x (by kernel_rfl)
def r4i (x:Z75):Option Bool:=((((s40 x).bind fun y1=>(bif y1 then((t72 x).bind fun y2=>(some y2)) else(some false))):Option Bool).bind fun j3=>(bif j3 then(some true) else((t0u (x.2,(x.1,0))).bind fun r17=>match r17 with | .inl o18=>(some false) | .inr z19=>(some z19))))
theorem q6i:t5w=r4i:=zC 54 rfl Tryz.func54 (by kernel_rfl)
def t7r(x:Z93):Option Bool:=zK 406 x
def r12 (x:Z93):Option Bool:=(((bif (decide ((x.2.1.length:Int)≥(12:Int))) then(some true) else(bif (decide ((x.1.length:Int) >(100:Int))) then(some true) else(some (decide (x.2.2.2.1≥9999))))):Option Bool).bind fun j1=>(some j1))
theorem q3t:t7r=r12:=zC 406 rfl Tryz.func406 (by kernel_rfl)
def t2n(x:Z93):Option r50:=zK 467 x
def r41 (x:Z93):Option r50:=(bif (Nat.ble (([] :List u0a.den).length+x.2.1.length) z7w) then(bif (Nat.ble ((([] :List u0a.den)++x.2.1).length+x.2.2.1.length) z7w) then(some ((([] :List u0a.den)++x.2.1)++x.2.2.1)) else none) else none)
theorem q61:t2n=r41:=zC 467 rfl Tryz.func467 (by kernel_rfl)
def s1a(x:Z61):Option Int:=zK 465 x
def r7o (x:Z61):Option Int:=((u4y x).bind fun y1=>(bif (decide (y1<0)) then(some (1:Int)) else((t2n x.1.1).bind fun y2=>(bif (y4q y1 x.1.2.length) then((t7h ((rdL u0a x.1.2 (y1).toNat),y2)).bind fun y3=>(bif y3 then(some (4:Int)) else(bif (y4q y1 x.1.2.length) then((t5w ((rdL u0a x.1.2 (y1).toNat),y2)).bind fun y4=>(bif y4 then(some (5:Int)) else((t7r x.1.1).bind fun y5=>(bif y5 then(some (3:Int)) else(some (0:Int)))))) else none))) else none))))
theorem q8v:s1a=r7o:=zC 465 rfl Tryz.func465 (by kernel_rfl)
def s4y(x:Z61):Option Z10:=zK 422 x
def r4h (x:Z61):Option Z10:=((u0m x.1).bind fun y1=>((s1a x).bind fun y2=>(bif (decide (y2=1)) then(some (y1,((0,((0,(0,(0,(0,(([] :List q4f.den),(([] :List u1x.den),(false,(⟨#[]⟩:ByteArray)))))))),((⟨#[]⟩:ByteArray),(false,(([] :List u0g.den),(([] :List u0a.den),(([] :List u0a.den),(0,0)))))))),y2))) else(bif (!decide (y2=0)) then((u00 (y1,x.2)).bind fun y3=>(some (y3,((0,((0,(0,(0,(0,(([] :List q4f.den),(([] :List u1x.den),(false,(⟨#[]⟩:ByteArray)))))))),((⟨#[]⟩:ByteArray),(false,(([] :List u0g.den),(([] :List u0a.den),(([] :List u0a.den),(0,0)))))))),y2)))) else((u4y x).bind fun y4=>(bif (y4q y4 x.1.2.length) then((u5o (x.1.1,(rdL u0a x.1.2 (y4).toNat))).bind fun y5=>(bif (y4q (IntKind.i64.wrap ((y5.2.1.length:Int) - (1:Int))) y5.2.1.length) then((u02 (rdL u0a y5.2.1 ((IntKind.i64.wrap ((y5.2.1.length:Int) - (1:Int)))).toNat)).bind fun y6=>((u00 ((y5,y1.2),x.2)).bind fun y7=>(some (y7,((1,(y6,((⟨#[]⟩:ByteArray),(false,(([] :List u0g.den),(([] :List u0a.den),(([] :List u0a.den),(0,0)))))))),0))))) else none)) else none))))))
theorem q6h:s4y=r4h:=zC 422 rfl Tryz.func422 (by kernel_rfl)
def t8f(x:p83):Option r58:=zK 469 x
def s5h (x:p83):Option r58:=((((s1b x.1).bind fun y1=>(bif (!y1) then(some true) else((u0o (x.2.1,(0,1))).bind fun y2=>(some (!y2))))):Option Bool).bind fun j3=>(bif j3 then((u01 x.1).bind fun y4=>(some (y4,false))) else((t86 x).bind fun y5=>(bif (!y5.2) then((u01 x.1).bind fun y6=>(some (y6,false))) else(some (y5.1,true))))))
theorem r81:t8f=s5h:=zC 469 rfl Tryz.func469 (by kernel_rfl)
def t4f(x:o5c):Option r58:=zK 429 x
def s5c (x:o5c):Option r58:=((t1d x.1).bind fun y1=>((t8f (x.1,(y1,x.2))).bind fun y2=>(some y2)))
theorem r8w:t4f=s5c:=zC 429 rfl Tryz.func429 (by kernel_rfl)
def t3d(x:Z7):Option Z40:=zK 423 x
def r2a (x:Z7):Option Z40:=((u2z x.2).bind fun y1=>(bif (!y1.2) then(some (false,x.1)) else((t4f (x.1.2,y1.1)).bind fun y2=>(bif (!y2.2) then((t55 x.1.2).bind fun y3=>(bif (!y3.2) then(some (false,x.1)) else((t4f (y3.1,y1.1)).bind fun y4=>(bif y4.2 then(some (y4.2,(x.1.1,y4.1))) else(some (y4.2,x.1)))))) else(bif y2.2 then(some (y2.2,(x.1.1,y2.1))) else(some (y2.2,x.1)))))))
theorem q3v:t3d=r2a:=zC 423 rfl Tryz.func423 (by kernel_rfl)
def u6g(x:Z41):Option Z42:=zK 354 x
def s5n (x:Z41):Option Z42:=((s4y (x.1.1,x.2)).bind fun y1=>(bif (decide (y1.2.2=0)) then((t3d (x.1,y1.2.1)).bind fun y2=>(bif (!y2.1) then((u0m y2.2.1).bind fun y3=>((u00 (y3,x.2)).bind fun y4=>(some (3,(y4,y2.2.2))))) else(some (y1.2.2,(y1.1,y2.2.2))))) else(some (y1.2.2,(y1.1,x.1.2)))))
theorem r87:u6g=s5n:=zC 354 rfl Tryz.func354 (by kernel_rfl)
def t5x(x:Z75):Option Bool:=zK 466 x
def u6j(g:Z23→Option (Z65⊕Bool))(x:Z23):Option (Z65⊕Bool):=(bif (decide (x.2.2.2.2.2<(x.1.length:Int))) then(((bif (y4q x.2.2.2.2.2 x.1.length) then(bif (decide ((rdL u0a x.1 (x.2.2.2.2.2).toNat).2.1=2)) then(bif (y4q x.2.2.2.2.2 x.1.length) then(bif (!decide ((rdL u0a x.1 (x.2.2.2.2.2).toNat).1=x.2.1.1)) then(bif (y4q x.2.2.2.2.2 x.1.length) then((u2f (x.2.2.2.2.1,(rdL u0a x.1 (x.2.2.2.2.2).toNat))).bind fun y5=>(some y5)) else none) else(some false)) else none) else(some false)) else none):Option Bool).bind fun j6=>(bif j6 then(some (.inr true)) else(g (x.1,(x.2.1,(x.2.2.1,(x.2.2.2.1,(x.2.2.2.2.1,(IntKind.i64.wrap (x.2.2.2.2.2+1)))))))))) else(some (.inl (x.1,(x.2.1,(x.2.2.1,x.2.2.2.1))))))
def u41:=lpW _ _ u6j
theorem t76 x:u41 x=u6j u41 x:=zW t7y 466 Tryz.f466 12 65 x (by kernel_rfl)
def u66(g:Z65→Option r3y)(x:Z65):Option r3y:=(bif (decide (x.2.2.2<(x.1.length:Int))) then(bif (y4q x.2.2.2 x.1.length) then(((bif (!decide ((rdL u0a x.1 (x.2.2.2).toNat).2.1=2)) then(some true) else((u2f (x.2.1,(rdL u0a x.1 (x.2.2.2).toNat))).bind fun y3=>(some (!y3)))):Option Bool).bind fun j4=>(bif j4 then(g (x.1,(x.2.1,(x.2.2.1,(IntKind.i64.wrap (x.2.2.2+1)))))) else(bif x.2.2.1 then(some (.inr true)) else((u41 (x.1,(x.2.1,(x.2.2.1,(x.2.2.2,((rdL u0a x.1 (x.2.2.2).toNat),0)))))).bind fun r7=>match r7 with | .inl o8=>(g (o8.1,(o8.2.1,(o8.2.2.1,(IntKind.i64.wrap (o8.2.2.2+1)))))) | .inr z9=>(some (.inr z9)))))) else none) else(some (.inl ())))
def u5f:=lpW _ _ u66
theorem t8w x:u5f x=u66 u5f x:=zW t8q 466 Tryz.f466 5 65 x (by kernel_rfl)
def s0t (x:Z75):Option Bool:=((t5w x).bind fun y1=>(bif y1 then(some true) else((s40 x).bind fun y2=>((u5f (x.2,(x.1,(y2,0)))).bind fun r10=>match r10 with | .inl o11=>(some false) | .inr z12=>(some z12)))))
theorem r5d:t5x=s0t:=zC 466 rfl Tryz.func466 (by kernel_rfl)
def s14(x:Z53):Option Z10:=zK 425 x
def r08 (x:Z53):Option Z10:=((u0m x.1).bind fun y1=>((u4y (x.1,x.2.1)).bind fun y2=>(bif (decide (y2<0)) then(some (y1,((0,((0,(0,(0,(0,(([] :List q4f.den),(([] :List u1x.den),(false,(⟨#[]⟩:ByteArray)))))))),((⟨#[]⟩:ByteArray),(false,(([] :List u0g.den),(([] :List u0a.den),(([] :List u0a.den),(0,0)))))))),1))) else((u5n x.2.2).bind fun y3=>(bif (!y3) then(some (y1,((0,((0,(0,(0,(0,(([] :List q4f.den),(([] :List u1x.den),(false,(⟨#[]⟩:ByteArray)))))))),((⟨#[]⟩:ByteArray),(false,(([] :List u0g.den),(([] :List u0a.den),(([] :List u0a.den),(0,0)))))))),2))) else((u1u (x.1.1,x.2.2)).bind fun y4=>(bif (decide (y4≥0)) then(some (y1,((0,((0,(0,(0,(0,(([] :List q4f.den),(([] :List u1x.den),(false,(⟨#[]⟩:ByteArray)))))))),((⟨#[]⟩:ByteArray),(false,(([] :List u0g.den),(([] :List u0a.den),(([] :List u0a.den),(0,0)))))))),6))) else((s1a (x.1,x.2.1)).bind fun y5=>(((bif (decide (y5=0)) then(bif (y4q y2 x.1.2.length) then((t2n x.1.1).bind fun y6=>((t5x ((rdL u0a x.1.2 (y2).toNat),y6)).bind fun y7=>(some y7))) else none) else(some false)):Option Bool).bind fun j8=>(bif j8 then(((bif (decide ((5:Int)=(0:Int))) then(some (decide ((x.1.1.2.2.1.length:Int)≥(3:Int)))) else(some false)):Option Bool).bind fun j9=>(bif j9 then(bif (!decide ((3:Int)=(0:Int))) then((u00 (y1,x.2.1)).bind fun y10=>(some (y10,((0,((0,(0,(0,(0,(([] :List q4f.den),(([] :List u1x.den),(false,(⟨#[]⟩:ByteArray)))))))),((⟨#[]⟩:ByteArray),(false,(([] :List u0g.den),(([] :List u0a.den),(([] :List u0a.den),(0,0)))))))),3)))) else(bif (y4q y2 x.1.2.length) then((u5c (x.1.1,((rdL u0a x.1.2 (y2).toNat),x.2.2))).bind fun y11=>((u1u (y11,x.2.2)).bind fun y12=>(bif (y4q y12 y11.2.2.1.length) then((u02 (rdL u0a y11.2.2.1 (y12).toNat)).bind fun y13=>((u00 ((y11,y1.2),x.2.1)).bind fun y14=>(some (y14,((2,(y13,((⟨#[]⟩:ByteArray),(false,(([] :List u0g.den),(([] :List u0a.den),(([] :List u0a.den),(0,0)))))))),0))))) else none))) else none)) else(bif (!decide ((5:Int)=(0:Int))) then((u00 (y1,x.2.1)).bind fun y15=>(some (y15,((0,((0,(0,(0,(0,(([] :List q4f.den),(([] :List u1x.den),(false,(⟨#[]⟩:ByteArray)))))))),((⟨#[]⟩:ByteArray),(false,(([] :List u0g.den),(([] :List u0a.den),(([] :List u0a.den),(0,0)))))))),5)))) else(bif (y4q y2 x.1.2.length) then((u5c (x.1.1,((rdL u0a x.1.2 (y2).toNat),x.2.2))).bind fun y16=>((u1u (y16,x.2.2)).bind fun y17=>(bif (y4q y17 y16.2.2.1.length) then((u02 (rdL u0a y16.2.2.1 (y17).toNat)).bind fun y18=>((u00 ((y16,y1.2),x.2.1)).bind fun y19=>(some (y19,((2,(y18,((⟨#[]⟩:ByteArray),(false,(([] :List u0g.den),(([] :List u0a.den),(([] :List u0a.den),(0,0)))))))),0))))) else none))) else none)))) else(((bif (decide (y5=0)) then(some (decide ((x.1.1.2.2.1.length:Int)≥(3:Int)))) else(some false)):Option Bool).bind fun j20=>(bif j20 then(bif (!decide ((3:Int)=(0:Int))) then((u00 (y1,x.2.1)).bind fun y21=>(some (y21,((0,((0,(0,(0,(0,(([] :List q4f.den),(([] :List u1x.den),(false,(⟨#[]⟩:ByteArray)))))))),((⟨#[]⟩:ByteArray),(false,(([] :List u0g.den),(([] :List u0a.den),(([] :List u0a.den),(0,0)))))))),3)))) else(bif (y4q y2 x.1.2.length) then((u5c (x.1.1,((rdL u0a x.1.2 (y2).toNat),x.2.2))).bind fun y22=>((u1u (y22,x.2.2)).bind fun y23=>(bif (y4q y23 y22.2.2.1.length) then((u02 (rdL u0a y22.2.2.1 (y23).toNat)).bind fun y24=>((u00 ((y22,y1.2),x.2.1)).bind fun y25=>(some (y25,((2,(y24,((⟨#[]⟩:ByteArray),(false,(([] :List u0g.den),(([] :List u0a.den),(([] :List u0a.den),(0,0)))))))),0))))) else none))) else none)) else(bif (!decide (y5=0)) then((u00 (y1,x.2.1)).bind fun y26=>(some (y26,((0,((0,(0,(0,(0,(([] :List q4f.den),(([] :List u1x.den),(false,(⟨#[]⟩:ByteArray)))))))),((⟨#[]⟩:ByteArray),(false,(([] :List u0g.den),(([] :List u0a.den),(([] :List u0a.den),(0,0)))))))),y5)))) else(bif (y4q y2 x.1.2.length) then((u5c (x.1.1,((rdL u0a x.1.2 (y2).toNat),x.2.2))).bind fun y27=>((u1u (y27,x.2.2)).bind fun y28=>(bif (y4q y28 y27.2.2.1.length) then((u02 (rdL u0a y27.2.2.1 (y28).toNat)).bind fun y29=>((u00 ((y27,y1.2),x.2.1)).bind fun y30=>(some (y30,((2,(y29,((⟨#[]⟩:ByteArray),(false,(([] :List u0g.den),(([] :List u0a.den),(([] :List u0a.den),(0,0)))))))),0))))) else none))) else none))))))))))))))
theorem q22:s14=r08:=zC 425 rfl Tryz.func425 (by kernel_rfl)
def u5v(x:Z35):Option Z42:=zK 355 x
def s2u (x:Z35):Option Z42:=((s14 (x.1.1,x.2)).bind fun y1=>(bif (decide (y1.2.2=0)) then((t3d (x.1,y1.2.1)).bind fun y2=>(bif (!y2.1) then((u0m y2.2.1).bind fun y3=>((u00 (y3,x.2.1)).bind fun y4=>(some (3,(y4,y2.2.2))))) else(some (y1.2.2,(y1.1,y2.2.2))))) else(some (y1.2.2,(y1.1,x.1.2)))))
theorem r6s:u5v=s2u:=zC 355 rfl Tryz.func355 (by kernel_rfl)
def s4z(x:Z52):Option Z10:=zK 339 x
def r4k (x:Z52):Option Z10:=((u0m x.1).bind fun y1=>((u1u (x.1.1,x.2.1)).bind fun y2=>(bif (decide (y2<0)) then(some (y1,((0,((0,(0,(0,(0,(([] :List q4f.den),(([] :List u1x.den),(false,(⟨#[]⟩:ByteArray)))))))),((⟨#[]⟩:ByteArray),(false,(([] :List u0g.den),(([] :List u0a.den),(([] :List u0a.den),(0,0)))))))),1))) else(((bif x.2.2 then((t7r x.1.1).bind fun y3=>(some y3)) else(some false)):Option Bool).bind fun j4=>(bif j4 then(some (y1,((0,((0,(0,(0,(0,(([] :List q4f.den),(([] :List u1x.den),(false,(⟨#[]⟩:ByteArray)))))))),((⟨#[]⟩:ByteArray),(false,(([] :List u0g.den),(([] :List u0a.den),(([] :List u0a.den),(0,0)))))))),3))) else(bif x.2.2 then(bif (y4q y2 x.1.1.2.2.1.length) then((u5o (x.1.1,(rdL u0a x.1.1.2.2.1 (y2).toNat))).bind fun y5=>((t2l (y5,y1.2)).bind fun y6=>(some ((y6,y1.2),((3,((0,(0,(0,(0,(([] :List q4f.den),(([] :List u1x.den),(false,(⟨#[]⟩:ByteArray)))))))),(x.2.1,(x.2.2,(([] :List u0g.den),(([] :List u0a.den),(([] :List u0a.den),(0,0)))))))),0))))) else none) else((t7i (x.1.1,x.2.1)).bind fun y7=>((t2l (y7,y1.2)).bind fun y8=>(some ((y8,y1.2),((3,((0,(0,(0,(0,(([] :List q4f.den),(([] :List u1x.den),(false,(⟨#[]⟩:ByteArray)))))))),(x.2.1,(x.2.2,(([] :List u0g.den),(([] :List u0a.den),(([] :List u0a.den),(0,0)))))))),0)))))))))))
theorem q6k:s4z=r4k:=zC 339 rfl Tryz.func339 (by kernel_rfl)
def u6h(x:Z34):Option Z42:=zK 356 x
def s5o (x:Z34):Option Z42:=((s4z (x.1.1,x.2)).bind fun y1=>(bif (decide (y1.2.2=0)) then((t3d (x.1,y1.2.1)).bind fun y2=>(bif (!y2.1) then(some (3,y2.2)) else(some (y1.2.2,(y1.1,y2.2.2))))) else(some (y1.2.2,(y1.1,x.1.2)))))
theorem r88:u6h=s5o:=zC 356 rfl Tryz.func356 (by kernel_rfl)
def t4x(x:Z61):Option Z61:=zK 357 x
def r7q (x:Z61):Option Z61:=((u0m x.1).bind fun y1=>((u4y x).bind fun y2=>(bif (decide (y2<0)) then(some (y1,1)) else((u00 (y1,x.2)).bind fun y3=>(some (y3,0))))))
theorem q8x:t4x=r7q:=zC 357 rfl Tryz.func357 (by kernel_rfl)
def s2d(x:Z30):Option Z30:=zK 231 x
def r2b (x:Z30):Option Z30:=(bif (decide ((x.2.1.2.length:Int) >(0:Int))) then((u17 (x.1,(x.2.1.2.length:Int))).bind fun y1=>(bif (y4q y1.1 x.2.1.2.length) then((u17 (y1.2,16)).bind fun y2=>(((bif (decide ((rdL u0a x.2.1.2 (y1.1).toNat).1=0)) then(some true) else(some (decide (y2.1<3)))):Option Bool).bind fun j3=>(bif j3 then((t1e x.2.1).bind fun y4=>(some (y2.2,(y4.1,x.2.2)))) else(bif (decide (y2.1<6)) then((u5l y2.2).bind fun y5=>((t2i (x.2.1,((rdL u0a x.2.1.2 (y1.1).toNat).1,y5.1))).bind fun y6=>(some (y5.2,(y6.1,x.2.2))))) else(bif (decide (y2.1<7)) then((u7t y2.2).bind fun y7=>((u7q (x.2.1,((rdL u0a x.2.1.2 (y1.1).toNat).1,y7.1))).bind fun y8=>(some (y7.2,(y8.1,x.2.2))))) else(bif (decide (y2.1<10)) then((u7u y2.2).bind fun y9=>((t2j (x.2.1,((rdL u0a x.2.1.2 (y1.1).toNat).1,y9.1))).bind fun y10=>(some (y9.2,(y10.1,x.2.2))))) else(bif (decide (y2.1<13)) then((u6g (x.2,(rdL u0a x.2.1.2 (y1.1).toNat).1)).bind fun y11=>(some (y2.2,y11.2))) else(bif (decide (y2.1=13)) then((u1v (y2.2,([(⟨#[112]⟩:ByteArray),(⟨#[113]⟩:ByteArray),(⟨#[114]⟩:ByteArray)] :List ByteArray))).bind fun y12=>((u5v (x.2,((rdL u0a x.2.1.2 (y1.1).toNat).1,y12.1))).bind fun y13=>(some (y12.2,y13.2)))) else(bif (decide (y2.1=14)) then((u1v (y2.2,([(⟨#[112]⟩:ByteArray),(⟨#[113]⟩:ByteArray),(⟨#[114]⟩:ByteArray)] :List ByteArray))).bind fun y14=>((u19 (y14.2,2)).bind fun y15=>((u6h (x.2,(y14.1,y15.1))).bind fun y16=>(some (y15.2,y16.2))))) else((u19 (y2.2,3)).bind fun y17=>(bif y17.1 then((u7o x.2).bind fun y18=>(some (y17.2,y18.1))) else((t4x (x.2.1,(rdL u0a x.2.1.2 (y1.1).toNat).1)).bind fun y19=>(some (y17.2,(y19.1,x.2.2))))))))))))))) else none)) else((u17 (x.1,16)).bind fun y20=>(((bif (decide ((0:Int)=(0:Int))) then(some true) else(some (decide (y20.1<3)))):Option Bool).bind fun j21=>(bif j21 then((t1e x.2.1).bind fun y22=>(some (y20.2,(y22.1,x.2.2)))) else(bif (decide (y20.1<6)) then((u5l y20.2).bind fun y23=>((t2i (x.2.1,(0,y23.1))).bind fun y24=>(some (y23.2,(y24.1,x.2.2))))) else(bif (decide (y20.1<7)) then((u7t y20.2).bind fun y25=>((u7q (x.2.1,(0,y25.1))).bind fun y26=>(some (y25.2,(y26.1,x.2.2))))) else(bif (decide (y20.1<10)) then((u7u y20.2).bind fun y27=>((t2j (x.2.1,(0,y27.1))).bind fun y28=>(some (y27.2,(y28.1,x.2.2))))) else(bif (decide (y20.1<13)) then((u6g (x.2,0)).bind fun y29=>(some (y20.2,y29.2))) else(bif (decide (y20.1=13)) then((u1v (y20.2,([(⟨#[112]⟩:ByteArray),(⟨#[113]⟩:ByteArray),(⟨#[114]⟩:ByteArray)] :List ByteArray))).bind fun y30=>((u5v (x.2,(0,y30.1))).bind fun y31=>(some (y30.2,y31.2)))) else(bif (decide (y20.1=14)) then((u1v (y20.2,([(⟨#[112]⟩:ByteArray),(⟨#[113]⟩:ByteArray),(⟨#[114]⟩:ByteArray)] :List ByteArray))).bind fun y32=>((u19 (y32.2,2)).bind fun y33=>((u6h (x.2,(y32.1,y33.1))).bind fun y34=>(some (y33.2,y34.2))))) else((u19 (y20.2,3)).bind fun y35=>(bif y35.1 then((u7o x.2).bind fun y36=>(some (y35.2,y36.1))) else((t4x (x.2.1,0)).bind fun y37=>(some (y35.2,(y37.1,x.2.2))))))))))))))))
theorem q3w:s2d=r2b:=zC 231 rfl Tryz.func231 (by kernel_rfl)
def t7s(x:o0w):Option Z31:=zK 94 x
def t79(g:Z6→Option (Z9⊕Unit))(x:Z6):Option (Z9⊕Unit):=((u17 (x.1,x.2.1)).bind fun y2=>(bif (decide (x.2.2.2.2<(IntKind.i64.wrap ((2:Int)+y2.1)))) then((s2d (y2.2,x.2.2.2.1)).bind fun y3=>(g (y3.1,(x.2.1,(x.2.2.1,(y3.2,(IntKind.i64.wrap (x.2.2.2.2+1)))))))) else(some (.inl (y2.2,(x.2.2.1,x.2.2.2.1))))))
def u9i:=lpW _ _ t79
theorem r9b x:u9i x=t79 u9i x:=zW s6m 94 Tryz.f94 3 19 x (by kernel_rfl)
def r2c (x:o0w):Option Z31:=((t90 ()).bind fun y1=>((u9i (x.1,(x.2,((((([] :List u0g.den),(([] :List u0a.den),(([] :List u0a.den),(0,0)))),([] :List u0a.den)),(([] :List ByteArray),([] :List p4t.den))),(y1,0))))).bind fun r4=>match r4 with | .inl o5=>(some (o5.2.2,o5.1)) | .inr z6=>none))
theorem q3x:t7s=r2c:=zC 94 rfl Tryz.func94 (by kernel_rfl)
def t8i(x:q36):Option Z49:=zK 139 x
def s5m (x:q36):Option Z49:=((t7s (x,22)).bind fun y1=>(some (y1.1.1,y1.2)))
theorem r86:t8i=s5m:=zC 139 rfl Tryz.func139 (by kernel_rfl)
def t2h(x:q7o):Option Z61:=zK 40 x
def s2m (x:q7o):Option Z61:=((s43 x).bind fun y1=>((t8i y1).bind fun y2=>(bif (decide ((y2.1.2.length:Int)=(0:Int))) then((t1e y2.1).bind fun y3=>((u17 (y2.2,(y3.1.2.length:Int))).bind fun y4=>(bif (y4q y4.1 y3.1.2.length) then(some (y3.1,(rdL u0a y3.1.2 (y4.1).toNat).1)) else none))) else((u17 (y2.2,(y2.1.2.length:Int))).bind fun y5=>(bif (y4q y5.1 y2.1.2.length) then(some (y2.1,(rdL u0a y2.1.2 (y5.1).toNat).1)) else none)))))
theorem r6k:t2h=s2m:=zC 40 rfl Tryz.func40 (by kernel_rfl)
def t5s(x:p02):Option Bool:=zK 156 x
def s7y (x:p02):Option Bool:=(some (decide (x.1.1=x.2)))
theorem q0f:t5s=s7y:=zC 156 rfl Tryz.func156 (by kernel_rfl)
def u4o(x:p04):Option Int:=zK 10021 x
def u3j(g:p63→Option r51)(x:p63):Option r51:=(bif (decide (x.2.2.2<x.2.2.1)) then(bif (y4q x.2.2.2 x.1.length) then((t5s ((rdL u0a x.1 (x.2.2.2).toNat),x.2.1)).bind fun y1=>(bif y1 then(some (.inr x.2.2.2)) else(g (x.1,(x.2.1,(x.2.2.1,(IntKind.i64.wrap (x.2.2.2+1)))))))) else none) else(some (.inl ())))
def u1b:=lpW _ _ u3j
theorem u8t x:u1b x=u3j u1b x:=zW u3s 10021 Tryz.f148 2 19 x (by kernel_rfl)
def u4i (x:p04):Option Int:=((u1b (x.1,(x.2,((x.1.length:Int),0)))).bind fun r2=>match r2 with | .inl o3=>(some (-1:Int)) | .inr z4=>(some z4))
theorem u9x:u4o=u4i:=zC 10021 rfl Tryz.func148 (by kernel_rfl)
def u5j(x:Z61):Option Int:=zK 50 x
def r39 (x:Z61):Option Int:=((u4o (x.1.2,x.2)).bind fun y1=>(some y1))
theorem q6a:u5j=r39:=zC 50 rfl Tryz.func50 (by kernel_rfl)
def u9z(x:(Unit×Int)):Option r50:=zK 290 x
def t59 (x:(Unit×Int)):Option r50:=(bif (decide (x.2<0)) then none else(bif (decide ((IntKind.i64.wrap (x.2 - (IntKind.i64.wrap ((0:Int) - (0:Int))))) >0)) then(bif (decide (0≤(0:Int))&&decide ((0:Int)≤(0:Int))&&decide ((0:Int)≤0)) then(bif (decide (1≤(IntKind.i64.wrap (x.2 - (IntKind.i64.wrap ((0:Int) - (0:Int))))))&&decide ((IntKind.i64.wrap (x.2 - (IntKind.i64.wrap ((0:Int) - (0:Int)))))≤1099511627776)) then(bif (decide (0≤(0:Int))&&decide ((0:Int)≤(0:Int))&&decide ((0:Int)≤((List.replicate ((IntKind.i64.wrap (x.2 - (IntKind.i64.wrap ((0:Int) - (0:Int)))))).toNat (u0a).zero).length:Int))) then(some ((List.replicate ((IntKind.i64.wrap (x.2 - (IntKind.i64.wrap ((0:Int) - (0:Int)))))).toNat (u0a).zero).take (((0:Int)).toNat - ((0:Int)).toNat))) else none) else none) else none) else(some ([] :List u0a.den))))
theorem s7j:u9z=t59:=zC 290 rfl Tryz.func290 (by kernel_rfl)
def u13(x:o0p):Option r50:=zK 164 x
def u4e(g:Z95→Option (o5b⊕Unit))(x:Z95):Option (o5b⊕Unit):=(bif (decide (x.2.2.2.2<x.2.2.2.1)) then(bif (y4q x.2.2.2.2 x.2.2.1.length) then(bif (decide ((IntKind.i64.wrap (x.2.1+((rdL (Ty.sl u0a) x.2.2.1 (x.2.2.2.2).toNat).length:Int)))<0)) then none else(g (x.1,((IntKind.i64.wrap (x.2.1+((rdL (Ty.sl u0a) x.2.2.1 (x.2.2.2.2).toNat).length:Int))),(x.2.2.1,(x.2.2.2.1,(IntKind.i64.wrap (x.2.2.2.2+1)))))))) else none) else(some (.inl (x.1,x.2.1))))
def u2c:=lpW _ _ u4e
theorem t2t x:u2c x=u4e u2c x:=zW t2r 164 Tryz.f164 3 36 x (by kernel_rfl)
def u3g(g:o4g→Option o0t)(x:o4g):Option o0t:=(bif (decide (x.2.2.2<x.2.2.1)) then(bif (y4q x.2.2.2 x.2.1.length) then(bif (Nat.ble (x.1.length+(rdL (Ty.sl u0a) x.2.1 (x.2.2.2).toNat).length) z7w) then(g ((x.1++(rdL (Ty.sl u0a) x.2.1 (x.2.2.2).toNat)),(x.2.1,(x.2.2.1,(IntKind.i64.wrap (x.2.2.2+1)))))) else none) else none) else(some (.inl x.1)))
def u15:=lpW _ _ u3g
theorem t1h x:u15 x=u3g u15 x:=zW t05 164 Tryz.f164 11 36 x (by kernel_rfl)
def t4t (x:o0p):Option r50:=((u2c (x,(0,(x,((x.length:Int),0))))).bind fun r1=>match r1 with | .inl o2=>((u9z ((),o2.2)).bind fun y3=>((u15 (y3,(o2.1,((o2.1.length:Int),0)))).bind fun r4=>match r4 with | .inl o5=>(some o5) | .inr z6=>none)) | .inr z7=>none)
theorem s2y:u13=t4t:=zC 164 rfl Tryz.func164 (by kernel_rfl)
def s09(x:Z64):Option r50:=zK 144 x
def r7l (x:Z64):Option r50:=((u13 ([x.1.2.1,x.1.2.2.1] :List r50)).bind fun y1=>(some y1))
theorem q8s:s09=r7l:=zC 144 rfl Tryz.func144 (by kernel_rfl)
def r3q(x:Z93):Option Bool:=zK 151 x
def r90 (x:Z93):Option Bool:=(((bif (decide ((x.2.1.length:Int)≥(12:Int))) then(some true) else(bif (decide ((x.1.length:Int) >(100:Int))) then(some true) else(some (decide (x.2.2.2.1≥9999))))):Option Bool).bind fun j1=>(some j1))
theorem p1c:r3q=r90:=zC 151 rfl Tryz.func151 (by kernel_rfl)
def u8l(x:t4k):Option Bool:=zK 125 x
def t5i (x:t4k):Option Bool:=(some (decide (x.2.1=3)))
theorem t5m:u8l=t5i:=zC 125 rfl Tryz.func125 (by kernel_rfl)
def u5m(x:t4k):Option Bool:=zK 195 x
def q2i (x:t4k):Option Bool:=(some (decide (x.2.1=2)))
theorem q2t:u5m=q2i:=zC 195 rfl Tryz.func195 (by kernel_rfl)
def s07(x:o2z):Option Bool:=zK 253 x
def t6v(g:Z79→Option (p84⊕Bool))(x:Z79):Option (p84⊕Bool):=(bif (decide (x.2.2.2.2.2.2.2<x.2.2.2.2.2.2.1)) then(bif (y4q x.2.2.2.2.2.2.2 x.2.2.2.2.2.1.length) then(bif (z7o x.2.1.1 (rdL u1x x.2.2.2.2.2.1 (x.2.2.2.2.2.2.2).toNat).1) then(some (.inr true)) else(g (x.1,(x.2.1,(x.2.2.1,(x.2.2.2.1,(x.2.2.2.2.1,(x.2.2.2.2.2.1,(x.2.2.2.2.2.2.1,(IntKind.i64.wrap (x.2.2.2.2.2.2.2+1))))))))))) else none) else(some (.inl (x.1,(x.2.2.1,(x.2.2.2.1,x.2.2.2.2.1))))))
def t2z:=lpW _ _ t6v
theorem r20 x:t2z x=t6v t2z x:=zW r2l 253 Tryz.f253 5 28 x (by kernel_rfl)
def t6u(g:p84→Option r3y)(x:p84):Option r3y:=(bif (decide (x.2.2.2<x.2.2.1)) then(bif (y4q x.2.2.2 x.2.1.length) then((t2z (x.1,((rdL u1x x.2.1 (x.2.2.2).toNat),(x.2.1,(x.2.2.1,(x.2.2.2,(x.1,((x.1.length:Int),0)))))))).bind fun r1=>match r1 with | .inl o2=>(g (o2.1,(o2.2.1,(o2.2.2.1,(IntKind.i64.wrap (o2.2.2.2+1)))))) | .inr z3=>(some (.inr z3))) else none) else(some (.inl ())))
def t64:=lpW _ _ t6u
theorem r2z x:t64 x=t6u t64 x:=zW r2k 253 Tryz.f253 2 28 x (by kernel_rfl)
def r7i (x:o2z):Option Bool:=((t64 (x.2,(x.1,((x.1.length:Int),0)))).bind fun r4=>match r4 with | .inl o5=>(some false) | .inr z6=>(some z6))
theorem q8p:s07=r7i:=zC 253 rfl Tryz.func253 (by kernel_rfl)
def t4e(x:Z47):Option Bool:=zK 282 x
def s47 (x:Z47):Option Bool:=(((bif (!decide (x.1.1=x.2.1)) then((u5m x.1).bind fun y1=>(bif y1 then((s07 (x.1.2.2.2.2.2.1,x.2.2.2.2.2.2.1)).bind fun y2=>(some y2)) else((u8l x.1).bind fun y3=>(bif y3 then(bif (decide (x.1.2.2.2.1 >x.2.2.2.1)) then((s07 (x.1.2.2.2.2.2.1,x.2.2.2.2.2.2.1)).bind fun y4=>(some y4)) else(some false)) else(some false))))) else(some false)):Option Bool).bind fun j5=>(some j5))
theorem r8p:t4e=s47:=zC 282 rfl Tryz.func282 (by kernel_rfl)
def u4a(x:Z76):Option Int:=zK 10020 x
def u23(g:Z66→Option r51)(x:Z66):Option r51:=(bif (decide (x.2.2.2<x.2.2.1)) then(bif (y4q x.2.2.2 x.1.length) then((t4e ((rdL u0a x.1 (x.2.2.2).toNat),x.2.1)).bind fun y1=>(bif y1 then(some (.inr x.2.2.2)) else(g (x.1,(x.2.1,(x.2.2.1,(IntKind.i64.wrap (x.2.2.2+1)))))))) else none) else(some (.inl ())))
def u04:=lpW _ _ u23
theorem u72 x:u04 x=u23 u04 x:=zW u3a 10020 Tryz.f148 2 19 x (by kernel_rfl)
def u35 (x:Z76):Option Int:=((u04 (x.1,(x.2,((x.1.length:Int),0)))).bind fun r2=>match r2 with | .inl o3=>(some (-1:Int)) | .inr z4=>(some z4))
theorem u9m:u4a=u35:=zC 10020 rfl Tryz.func148 (by kernel_rfl)
def u2y(x:Z76):Option Bool:=zK 10019 x
def u2u (x:Z76):Option Bool:=((u4a x).bind fun y1=>(some (decide (y1≥0))))
theorem u7j:u2y=u2u:=zC 10019 rfl Tryz.func261 (by kernel_rfl)
def t2s(x:Z76):Option Bool:=zK 10018 x
def t2p (x:Z76):Option Bool:=((u2y x).bind fun y1=>(some y1))
theorem s0k:t2s=t2p:=zC 10018 rfl Tryz.func127 (by kernel_rfl)
def s1x(x:Z75):Option Bool:=zK 154 x
def r0q (x:Z75):Option Bool:=((t2s (x.2,x.1)).bind fun y1=>(some y1))
theorem q2k:s1x=r0q:=zC 154 rfl Tryz.func154 (by kernel_rfl)
def s1y(x:o21):Option Bool:=zK 258 x
def r0r (x:o21):Option Bool:=(((bif (!y3c x.2 x.1.1) then(some (y3c x.2 x.1.2 || z7o x.2 x.1.2)) else(some false)):Option Bool).bind fun j1=>(some j1))
theorem q2l:s1y=r0r:=zC 258 rfl Tryz.func258 (by kernel_rfl)
def s10(x:o20):Option Bool:=zK 252 x
def t3k(g:Z90→Option (o2t⊕Bool))(x:Z90):Option (o2t⊕Bool):=(bif (decide (x.2.2.2.2.2.2.2<x.2.2.2.2.2.2.1)) then(bif (y4q x.2.2.2.2.2.2.2 x.2.2.2.2.2.1.length) then((s1y (x.2.1,(rdL u1x x.2.2.2.2.2.1 (x.2.2.2.2.2.2.2).toNat).1)).bind fun y1=>(bif y1 then(some (.inr true)) else(g (x.1,(x.2.1,(x.2.2.1,(x.2.2.2.1,(x.2.2.2.2.1,(x.2.2.2.2.2.1,(x.2.2.2.2.2.2.1,(IntKind.i64.wrap (x.2.2.2.2.2.2.2+1)))))))))))) else none) else(some (.inl (x.1,(x.2.2.1,(x.2.2.2.1,x.2.2.2.2.1))))))
def u81:=lpW _ _ t3k
theorem s6s x:u81 x=t3k u81 x:=zW s5u 252 Tryz.f252 5 27 x (by kernel_rfl)
def t3j(g:o2t→Option r3y)(x:o2t):Option r3y:=(bif (decide (x.2.2.2<x.2.2.1)) then(bif (y4q x.2.2.2 x.2.1.length) then((u81 (x.1,((rdL q4f x.2.1 (x.2.2.2).toNat),(x.2.1,(x.2.2.1,(x.2.2.2,(x.1,((x.1.length:Int),0)))))))).bind fun r2=>match r2 with | .inl o3=>(g (o3.1,(o3.2.1,(o3.2.2.1,(IntKind.i64.wrap (o3.2.2.2+1)))))) | .inr z4=>(some (.inr z4))) else none) else(some (.inl ())))
def t36:=lpW _ _ t3j
theorem s6r x:t36 x=t3j t36 x:=zW s5t 252 Tryz.f252 2 27 x (by kernel_rfl)
def r0v (x:o20):Option Bool:=((t36 (x.2,(x.1,((x.1.length:Int),0)))).bind fun r5=>match r5 with | .inl o6=>(some false) | .inr z7=>(some z7))
theorem q2p:s10=r0v:=zC 252 rfl Tryz.func252 (by kernel_rfl)
def t9p(x:Z47):Option Bool:=zK 442 x
def s7t (x:Z47):Option Bool:=(((bif (decide (x.1.2.1=3)) then(some (decide (x.1.2.2.2.1≤x.2.2.2.1))) else(some false)):Option Bool).bind fun j1=>(some j1))
theorem q0a:t9p=s7t:=zC 442 rfl Tryz.func442 (by kernel_rfl)
def s4t(x:Z47):Option Bool:=zK 384 x
def r35 (x:Z47):Option Bool:=(bif (!decide (x.1.1=x.2.1)) then((t9p x).bind fun y1=>(bif (!y1) then((t9p (x.2,x.1)).bind fun y2=>(some (!y2))) else(some false))) else(some false))
theorem q56:s4t=r35:=zC 384 rfl Tryz.func384 (by kernel_rfl)
def u45(x:Z47):Option Bool:=zK 273 x
def r7d (x:Z47):Option Bool:=((((s4t x).bind fun y1=>(bif y1 then((s10 (x.1.2.2.2.2.1,x.2.2.2.2.2.2.1)).bind fun y2=>(some y2)) else(some false))):Option Bool).bind fun j3=>(some j3))
theorem q8k:u45=r7d:=zC 273 rfl Tryz.func273 (by kernel_rfl)
def t82(x:Z47):Option Bool:=zK 385 x
def r38 (x:Z47):Option Bool:=((((u5m x.1).bind fun y1=>(bif y1 then((u45 x).bind fun y2=>(some y2)) else((u8l x.1).bind fun y3=>(bif y3 then((u45 x).bind fun y4=>(some y4)) else(some false))))):Option Bool).bind fun j5=>(some j5))
theorem q59:t82=r38:=zC 385 rfl Tryz.func385 (by kernel_rfl)
def u47(x:Z76):Option Int:=zK 10008 x
def u4f(g:Z66→Option r51)(x:Z66):Option r51:=(bif (decide (x.2.2.2<x.2.2.1)) then(bif (y4q x.2.2.2 x.1.length) then((t82 ((rdL u0a x.1 (x.2.2.2).toNat),x.2.1)).bind fun y1=>(bif y1 then(some (.inr x.2.2.2)) else(g (x.1,(x.2.1,(x.2.2.1,(IntKind.i64.wrap (x.2.2.2+1)))))))) else none) else(some (.inl ())))
def u1g:=lpW _ _ u4f
theorem u90 x:u1g x=u4f u1g x:=zW u4l 10008 Tryz.f148 2 19 x (by kernel_rfl)
def u42 (x:Z76):Option Int:=((u1g (x.1,(x.2,((x.1.length:Int),0)))).bind fun r2=>match r2 with | .inl o3=>(some (-1:Int)) | .inr z4=>(some z4))
theorem t02:u47=u42:=zC 10008 rfl Tryz.func148 (by kernel_rfl)
def u39(x:Z76):Option Bool:=zK 10007 x
def u33 (x:Z76):Option Bool:=((u47 x).bind fun y1=>(some (decide (y1≥0))))
theorem u9k:u39=u33:=zC 10007 rfl Tryz.func261 (by kernel_rfl)
def t5v(x:Z76):Option Bool:=zK 10006 x
def t5j (x:Z76):Option Bool:=((u39 x).bind fun y1=>(some y1))
theorem s4o:t5v=t5j:=zC 10006 rfl Tryz.func127 (by kernel_rfl)
def r3p(x:Z75):Option Bool:=zK 274 x
def r9y (x:Z75):Option Bool:=((t5v (x.2,x.1)).bind fun y1=>(some y1))
theorem p1b:r3p=r9y:=zC 274 rfl Tryz.func274 (by kernel_rfl)
def t7e(x:Z47):Option Bool:=zK 386 x
def r0s (x:Z47):Option Bool:=((((u8l x.1).bind fun y1=>(bif y1 then((u45 (x.2,x.1)).bind fun y2=>(some y2)) else(some false))):Option Bool).bind fun j3=>(some j3))
theorem q2m:t7e=r0s:=zC 386 rfl Tryz.func386 (by kernel_rfl)
def u4x(x:Z76):Option Int:=zK 10005 x
def u31(g:Z66→Option r51)(x:Z66):Option r51:=(bif (decide (x.2.2.2<x.2.2.1)) then(bif (y4q x.2.2.2 x.1.length) then((t7e ((rdL u0a x.1 (x.2.2.2).toNat),x.2.1)).bind fun y1=>(bif y1 then(some (.inr x.2.2.2)) else(g (x.1,(x.2.1,(x.2.2.1,(IntKind.i64.wrap (x.2.2.2+1)))))))) else none) else(some (.inl ())))
def u1f:=lpW _ _ u31
theorem u9s x:u1f x=u31 u1f x:=zW u38 10005 Tryz.f148 2 19 x (by kernel_rfl)
def u4w (x:Z76):Option Int:=((u1f (x.1,(x.2,((x.1.length:Int),0)))).bind fun r2=>match r2 with | .inl o3=>(some (-1:Int)) | .inr z4=>(some z4))
theorem t0k:u4x=u4w:=zC 10005 rfl Tryz.func148 (by kernel_rfl)
def u3u(x:Z76):Option Bool:=zK 10004 x
def u3l (x:Z76):Option Bool:=((u4x x).bind fun y1=>(some (decide (y1≥0))))
theorem u8g:u3u=u3l:=zC 10004 rfl Tryz.func261 (by kernel_rfl)
def t4w(x:Z76):Option Bool:=zK 10003 x
def t4s (x:Z76):Option Bool:=((u3u x).bind fun y1=>(some y1))
theorem s2x:t4w=t4s:=zC 10003 rfl Tryz.func127 (by kernel_rfl)
def s08(x:Z75):Option Bool:=zK 278 x
def r7j (x:Z75):Option Bool:=((t4w (x.2,x.1)).bind fun y1=>(some y1))
theorem q8q:s08=r7j:=zC 278 rfl Tryz.func278 (by kernel_rfl)
def t5q(x:Z47):Option Bool:=zK 283 x
def s7u (x:Z47):Option Bool:=((((u5m x.1).bind fun y1=>(bif y1 then(bif x.1.2.2.2.2.2.2.1 then((u45 (x.2,x.1)).bind fun y2=>(some y2)) else(some false)) else((u8l x.1).bind fun y3=>(bif y3 then(bif x.1.2.2.2.2.2.2.1 then((u45 (x.2,x.1)).bind fun y4=>(some y4)) else(some false)) else(some false))))):Option Bool).bind fun j5=>(some j5))
theorem q0b:t5q=s7u:=zC 283 rfl Tryz.func283 (by kernel_rfl)
def u4m(x:Z76):Option Int:=zK 10011 x
def u3h(g:Z66→Option r51)(x:Z66):Option r51:=(bif (decide (x.2.2.2<x.2.2.1)) then(bif (y4q x.2.2.2 x.1.length) then((t5q ((rdL u0a x.1 (x.2.2.2).toNat),x.2.1)).bind fun y1=>(bif y1 then(some (.inr x.2.2.2)) else(g (x.1,(x.2.1,(x.2.2.1,(IntKind.i64.wrap (x.2.2.2+1)))))))) else none) else(some (.inl ())))
def u09:=lpW _ _ u3h
theorem u8q x:u09 x=u3h u09 x:=zW u3q 10011 Tryz.f148 2 19 x (by kernel_rfl)
def u4g (x:Z76):Option Int:=((u09 (x.1,(x.2,((x.1.length:Int),0)))).bind fun r2=>match r2 with | .inl o3=>(some (-1:Int)) | .inr z4=>(some z4))
theorem u9v:u4m=u4g:=zC 10011 rfl Tryz.func148 (by kernel_rfl)
def u3d(x:Z76):Option Bool:=zK 10010 x
def u26 (x:Z76):Option Bool:=((u4m x).bind fun y1=>(some (decide (y1≥0))))
theorem u7y:u3d=u26:=zC 10010 rfl Tryz.func261 (by kernel_rfl)
def u6t(x:Z76):Option Bool:=zK 10009 x
def t22 (x:Z76):Option Bool:=((u3d x).bind fun y1=>(some y1))
theorem s1t:u6t=t22:=zC 10009 rfl Tryz.func127 (by kernel_rfl)
def t2f(x:Z47):Option Bool:=zK 285 x
def s2j (x:Z47):Option Bool:=((((u5m x.1).bind fun y1=>(bif y1 then((u45 x).bind fun y2=>(some y2)) else(some false))):Option Bool).bind fun j3=>(some j3))
theorem r6h:t2f=s2j:=zC 285 rfl Tryz.func285 (by kernel_rfl)
def u3v(x:Z76):Option Int:=zK 10017 x
def u2t(g:Z66→Option r51)(x:Z66):Option r51:=(bif (decide (x.2.2.2<x.2.2.1)) then(bif (y4q x.2.2.2 x.1.length) then((t2f ((rdL u0a x.1 (x.2.2.2).toNat),x.2.1)).bind fun y1=>(bif y1 then(some (.inr x.2.2.2)) else(g (x.1,(x.2.1,(x.2.2.1,(IntKind.i64.wrap (x.2.2.2+1)))))))) else none) else(some (.inl ())))
def u0z:=lpW _ _ u2t
theorem u7x x:u0z x=u2t u0z x:=zW u2x 10017 Tryz.f148 2 19 x (by kernel_rfl)
def u3o (x:Z76):Option Int:=((u0z (x.1,(x.2,((x.1.length:Int),0)))).bind fun r2=>match r2 with | .inl o3=>(some (-1:Int)) | .inr z4=>(some z4))
theorem u8j:u3v=u3o:=zC 10017 rfl Tryz.func148 (by kernel_rfl)
def u2p(x:Z76):Option Bool:=zK 10016 x
def u2n (x:Z76):Option Bool:=((u3v x).bind fun y1=>(some (decide (y1≥0))))
theorem u61:u2p=u2n:=zC 10016 rfl Tryz.func261 (by kernel_rfl)
def u5y(x:Z76):Option Bool:=zK 10015 x
def t00 (x:Z76):Option Bool:=((u2p x).bind fun y1=>(some y1))
theorem t9h:u5y=t00:=zC 10015 rfl Tryz.func127 (by kernel_rfl)
def t5r(x:Z29):Option Bool:=zK 284 x
def s7v (x:Z29):Option Bool:=((((u5m x.1).bind fun y1=>(bif (!y1) then(some true) else((u45 (x.1,x.2.1)).bind fun y2=>(some (!y2))))):Option Bool).bind fun j3=>(bif j3 then(some false) else((u45 (x.2.1,x.1)).bind fun y4=>(bif y4 then(some true) else((u5y (x.2.2,x.1)).bind fun y5=>(some y5))))))
theorem q0c:t5r=s7v:=zC 284 rfl Tryz.func284 (by kernel_rfl)
def u4n(x:Z55):Option Int:=zK 10014 x
def u3i(g:Z48→Option r51)(x:Z48):Option r51:=(bif (decide (x.2.2.2<x.2.2.1)) then(bif (y4q x.2.2.2 x.1.length) then((t5r ((rdL u0a x.1 (x.2.2.2).toNat),x.2.1)).bind fun y1=>(bif y1 then(some (.inr x.2.2.2)) else(g (x.1,(x.2.1,(x.2.2.1,(IntKind.i64.wrap (x.2.2.2+1)))))))) else none) else(some (.inl ())))
def u1a:=lpW _ _ u3i
theorem u8r x:u1a x=u3i u1a x:=zW u3r 10014 Tryz.f148 2 19 x (by kernel_rfl)
def u4h (x:Z55):Option Int:=((u1a (x.1,(x.2,((x.1.length:Int),0)))).bind fun r2=>match r2 with | .inl o3=>(some (-1:Int)) | .inr z4=>(some z4))
theorem u9w:u4n=u4h:=zC 10014 rfl Tryz.func148 (by kernel_rfl)
def u3e(x:Z55):Option Bool:=zK 10013 x
def u27 (x:Z55):Option Bool:=((u4n x).bind fun y1=>(some (decide (y1≥0))))
theorem u7z:u3e=u27:=zC 10013 rfl Tryz.func261 (by kernel_rfl)
def u6u(x:Z55):Option Bool:=zK 10012 x
def t23 (x:Z55):Option Bool:=((u3e x).bind fun y1=>(some y1))
theorem s1u:u6u=t23:=zC 10012 rfl Tryz.func127 (by kernel_rfl)
def s4v(x:Z75):Option Bool:=zK 155 x
def r37 (x:Z75):Option Bool:=((((r3p x).bind fun y1=>(bif y1 then((s08 x).bind fun y2=>(some y2)) else(some false))):Option Bool).bind fun j3=>(bif j3 then(some true) else((u6t (x.2,x.1)).bind fun y4=>(bif y4 then(some true) else((u6u (x.2,x)).bind fun y5=>(some y5))))))
theorem q58:s4v=r37:=zC 155 rfl Tryz.func155 (by kernel_rfl)
def t71(x:Z61):Option Int:=zK 48 x
def r7f (x:Z61):Option Int:=((u5j x).bind fun y1=>(bif (decide (y1<0)) then(some (1:Int)) else(bif (y4q y1 x.1.2.length) then((s09 x.1).bind fun y2=>((s1x ((rdL u0a x.1.2 (y1).toNat),y2)).bind fun y3=>(bif y3 then(some (4:Int)) else(bif (y4q y1 x.1.2.length) then((s09 x.1).bind fun y4=>((s4v ((rdL u0a x.1.2 (y1).toNat),y4)).bind fun y5=>(bif y5 then(some (5:Int)) else((r3q x.1.1).bind fun y6=>(bif y6 then(some (3:Int)) else(some (0:Int))))))) else none)))) else none)))
theorem q8m:t71=r7f:=zC 48 rfl Tryz.func48 (by kernel_rfl)
def u6s(x:t4k):Option t4k:=zK 147 x
def r0y (x:t4k):Option t4k:=(bif (Nat.ble x.2.2.2.2.1.length z7w) then(bif (Nat.ble x.2.2.2.2.2.1.length z7w) then(some x) else none) else none)
theorem q2s:u6s=r0y:=zC 147 rfl Tryz.func147 (by kernel_rfl)
def t1c(x:r50):Option r50:=zK 271 x
def t1p(g:o3q→Option o0t)(x:o3q):Option o0t:=(bif (decide (x.2.2.2<x.2.2.1)) then(bif (y4q x.2.2.2 x.2.1.length) then((u6s (rdL u0a x.2.1 (x.2.2.2).toNat)).bind fun y1=>(bif (Nat.ble (x.1.length+([y1] :List u0a.den).length) z7w) then(g ((x.1++([y1] :List u0a.den)),(x.2.1,(x.2.2.1,(IntKind.i64.wrap (x.2.2.2+1)))))) else none)) else none) else(some (.inl x.1)))
def t18:=lpW _ _ t1p
theorem s3z x:t18 x=t1p t18 x:=zW s28 271 Tryz.f271 3 19 x (by kernel_rfl)
def s73 (x:r50):Option r50:=((t18 (([] :List u0a.den),(x,((x.length:Int),0)))).bind fun r2=>match r2 with | .inl o3=>(some o3) | .inr z4=>none)
theorem q0l:t1c=s73:=zC 271 rfl Tryz.func271 (by kernel_rfl)
def t1b(x:Z93):Option Z93:=zK 200 x
def s72 (x:Z93):Option Z93:=(bif (Nat.ble x.1.length z7w) then((t1c x.2.1).bind fun y1=>((t1c x.2.2.1).bind fun y2=>(some (x.1,(y1,(y2,x.2.2.2)))))) else none)
theorem q0k:t1b=s72:=zC 200 rfl Tryz.func200 (by kernel_rfl)
def t9q(x:Z64):Option Int:=zK 235 x
def t1l(g:o2q→Option p4z)(x:o2q):Option p4z:=(bif (decide (x.2.2.2<x.2.2.1)) then(bif (y4q x.2.2.2 x.2.1.length) then(g ((y8i x.1 (rdL u0a x.2.1 (x.2.2.2).toNat).2.2.1),(x.2.1,(x.2.2.1,(IntKind.i64.wrap (x.2.2.2+1)))))) else none) else(some (.inl x.1)))
def t15:=lpW _ _ t1l
theorem s3v x:t15 x=t1l t15 x:=zW s24 235 Tryz.f235 3 22 x (by kernel_rfl)
def s7x (x:Z64):Option Int:=((t15 (x.1.2.2.2.1,(x.2,((x.2.length:Int),0)))).bind fun r1=>match r1 with | .inl o2=>(some o2) | .inr z3=>none)
theorem q0e:t9q=s7x:=zC 235 rfl Tryz.func235 (by kernel_rfl)
def s4w(x:o0q):Option Int:=zK 363 x
def t44(g:o4l→Option p4z)(x:o4l):Option p4z:=(bif (decide (x.2.2.2.2.2.2<x.2.2.2.2.2.1)) then(bif (y4q x.2.2.2.2.2.2 x.2.2.2.2.1.length) then(((bif (z7o (rdL u0g x.2.2.2.2.1 (x.2.2.2.2.2.2).toNat).1 x.2.1) then(bif (decide ((rdL u0g x.2.2.2.2.1 (x.2.2.2.2.2.2).toNat).2.2.2≤x.2.2.1)) then(bif (decide (x.2.2.2.1<0)) then(some true) else(bif (y4q x.2.2.2.1 x.1.length) then(some (decide ((rdL u0g x.2.2.2.2.1 (x.2.2.2.2.2.2).toNat).2.2.2 >(rdL u0g x.1 (x.2.2.2.1).toNat).2.2.2))) else none)) else(some false)) else(some false)):Option Bool).bind fun j1=>(bif j1 then(g (x.1,(x.2.1,(x.2.2.1,(x.2.2.2.2.2.2,(x.2.2.2.2.1,(x.2.2.2.2.2.1,(IntKind.i64.wrap (x.2.2.2.2.2.2+1))))))))) else(g (x.1,(x.2.1,(x.2.2.1,(x.2.2.2.1,(x.2.2.2.2.1,(x.2.2.2.2.2.1,(IntKind.i64.wrap (x.2.2.2.2.2.2+1))))))))))) else none) else(some (.inl x.2.2.2.1)))
def t0s:=lpW _ _ t44
theorem s9v x:t0s x=t44 t0s x:=zW s81 363 Tryz.f363 3 44 x (by kernel_rfl)
def r4d (x:o0q):Option Int:=((t0s (x.1,(x.2.1,(x.2.2,((-1:Int),(x.1,((x.1.length:Int),0))))))).bind fun r2=>match r2 with | .inl o3=>(some o3) | .inr z4=>none)
theorem q6d:s4w=r4d:=zC 363 rfl Tryz.func363 (by kernel_rfl)
def t8c(x:(ByteArray×q2e)):Option Int:=zK 364 x
def u91(g:o45→Option p4z)(x:o45):Option p4z:=(bif (decide (x.2.2.2.2<x.2.2.2.1)) then(bif (y4q x.2.2.2.2 x.2.2.1.length) then(bif (z7o (rdL u0g x.2.2.1 (x.2.2.2.2).toNat).1 x.1) then(g (x.1,((IntKind.i64.wrap (x.2.1+1)),(x.2.2.1,(x.2.2.2.1,(IntKind.i64.wrap (x.2.2.2.2+1))))))) else(g (x.1,(x.2.1,(x.2.2.1,(x.2.2.2.1,(IntKind.i64.wrap (x.2.2.2.2+1)))))))) else none) else(some (.inl x.2.1)))
def u6k:=lpW _ _ u91
theorem s1h x:u6k x=u91 u6k x:=zW s0y 364 Tryz.f364 3 21 x (by kernel_rfl)
def s48 (x:(ByteArray×q2e)):Option Int:=((u6k (x.1,(0,(x.2,((x.2.length:Int),0))))).bind fun r1=>match r1 with | .inl o2=>(some o2) | .inr z3=>none)
theorem r8r:t8c=s48:=zC 364 rfl Tryz.func364 (by kernel_rfl)
def s11(x:o0v):Option q2e:=zK 238 x
def t3l(g:o4j→Option o26)(x:o4j):Option o26:=(bif (decide (x.2.2.2.2.2<x.2.2.2.2.1)) then(bif (y4q x.2.2.2.2.2 x.2.2.2.1.length) then(((bif (decide ((rdL u0g x.2.2.2.1 (x.2.2.2.2.2).toNat).2.2.2 >x.2.1)) then(some true) else((s4w (x.1,((rdL u0g x.2.2.2.1 (x.2.2.2.2.2).toNat).1,x.2.1))).bind fun y1=>(some (decide (y1=x.2.2.2.2.2))))):Option Bool).bind fun j2=>(bif j2 then(bif (Nat.ble (x.2.2.1.length+([(rdL u0g x.2.2.2.1 (x.2.2.2.2.2).toNat)] :List u0g.den).length) z7w) then(g (x.1,(x.2.1,((x.2.2.1++([(rdL u0g x.2.2.2.1 (x.2.2.2.2.2).toNat)] :List u0g.den)),(x.2.2.2.1,(x.2.2.2.2.1,(IntKind.i64.wrap (x.2.2.2.2.2+1)))))))) else none) else(g (x.1,(x.2.1,(x.2.2.1,(x.2.2.2.1,(x.2.2.2.2.1,(IntKind.i64.wrap (x.2.2.2.2.2+1)))))))))) else none) else(some (.inl (x.2.1,x.2.2.1))))
def u82:=lpW _ _ t3l
theorem s6t x:u82 x=t3l u82 x:=zW s5v 238 Tryz.f238 3 66 x (by kernel_rfl)
def t1n(g:o4i→Option p9c)(x:o4i):Option p9c:=(bif (decide (x.2.2.2.2.2<x.2.2.2.2.1)) then(bif (y4q x.2.2.2.2.2 x.2.2.2.1.length) then(bif (decide ((rdL u0g x.2.2.2.1 (x.2.2.2.2.2).toNat).2.2.2 >x.1)) then(bif (Nat.ble (x.2.2.1.length+([(rdL u0g x.2.2.2.1 (x.2.2.2.2.2).toNat)] :List u0g.den).length) z7w) then(g (x.1,(x.2.1,((x.2.2.1++([(rdL u0g x.2.2.2.1 (x.2.2.2.2.2).toNat)] :List u0g.den)),(x.2.2.2.1,(x.2.2.2.2.1,(IntKind.i64.wrap (x.2.2.2.2.2+1)))))))) else none) else(bif (!(rdL u0g x.2.2.2.1 (x.2.2.2.2.2).toNat).2.2.1) then(bif (Nat.ble (x.2.2.1.length+([(rdL u0g x.2.2.2.1 (x.2.2.2.2.2).toNat)] :List u0g.den).length) z7w) then(g (x.1,(x.2.1,((x.2.2.1++([(rdL u0g x.2.2.2.1 (x.2.2.2.2.2).toNat)] :List u0g.den)),(x.2.2.2.1,(x.2.2.2.2.1,(IntKind.i64.wrap (x.2.2.2.2.2+1)))))))) else none) else((t8c ((rdL u0g x.2.2.2.1 (x.2.2.2.2.2).toNat).1,x.2.1)).bind fun y5=>(bif (decide (y5 >1)) then(bif (Nat.ble (x.2.2.1.length+([(rdL u0g x.2.2.2.1 (x.2.2.2.2.2).toNat)] :List u0g.den).length) z7w) then(g (x.1,(x.2.1,((x.2.2.1++([(rdL u0g x.2.2.2.1 (x.2.2.2.2.2).toNat)] :List u0g.den)),(x.2.2.2.1,(x.2.2.2.2.1,(IntKind.i64.wrap (x.2.2.2.2.2+1)))))))) else none) else(g (x.1,(x.2.1,(x.2.2.1,(x.2.2.2.1,(x.2.2.2.2.1,(IntKind.i64.wrap (x.2.2.2.2.2+1)))))))))))) else none) else(some (.inl x.2.2.1)))
def t16:=lpW _ _ t1n
theorem s3x x:t16 x=t1n t16 x:=zW s26 238 Tryz.f238 11 66 x (by kernel_rfl)
def r0w (x:o0v):Option q2e:=((u82 (x.1,(x.2,(([] :List u0g.den),(x.1,((x.1.length:Int),0)))))).bind fun r3=>match r3 with | .inl o4=>((t16 (o4.1,(o4.2,(([] :List u0g.den),(o4.2,((o4.2.length:Int),0)))))).bind fun r6=>match r6 with | .inl o7=>(some o7) | .inr z8=>none) | .inr z9=>none)
theorem q2q:s11=r0w:=zC 238 rfl Tryz.func238 (by kernel_rfl)
def u7n(x:p02):Option Bool:=zK 237 x
def r9z (x:p02):Option Bool:=(some (decide (x.1.2.2.2.1≤x.2)))
theorem q0h:u7n=r9z:=zC 237 rfl Tryz.func237 (by kernel_rfl)
def u4p(x:p04):Option Int:=zK 10023 x
def u3k(g:p63→Option r51)(x:p63):Option r51:=(bif (decide (x.2.2.2<x.2.2.1)) then(bif (y4q x.2.2.2 x.1.length) then((u7n ((rdL u0a x.1 (x.2.2.2).toNat),x.2.1)).bind fun y1=>(bif y1 then(some (.inr x.2.2.2)) else(g (x.1,(x.2.1,(x.2.2.1,(IntKind.i64.wrap (x.2.2.2+1)))))))) else none) else(some (.inl ())))
def u1c:=lpW _ _ u3k
theorem u8u x:u1c x=u3k u1c x:=zW u3t 10023 Tryz.f148 2 19 x (by kernel_rfl)
def u4j (x:p04):Option Int:=((u1c (x.1,(x.2,((x.1.length:Int),0)))).bind fun r2=>match r2 with | .inl o3=>(some (-1:Int)) | .inr z4=>(some z4))
theorem u9y:u4p=u4j:=zC 10023 rfl Tryz.func148 (by kernel_rfl)
def u1t(x:p04):Option r50:=zK 10022 x
def u22(g:p63→Option o0u)(x:p63):Option o0u:=(bif (decide (x.2.2.2<(x.1.length:Int))) then(bif (y4q x.2.2.2 x.1.length) then((u7n ((rdL u0a x.1 (x.2.2.2).toNat),x.2.1)).bind fun y2=>(bif (!y2) then(bif (y4q x.2.2.1 x.1.length) then(g ((x.1.set (x.2.2.1).toNat (rdL u0a x.1 (x.2.2.2).toNat)),(x.2.1,((IntKind.i64.wrap (x.2.2.1+1)),(IntKind.i64.wrap (x.2.2.2+1)))))) else none) else(g (x.1,(x.2.1,(x.2.2.1,(IntKind.i64.wrap (x.2.2.2+1)))))))) else none) else(some (.inl (x.1,x.2.2.1))))
def u03:=lpW _ _ u22
theorem u71 x:u03 x=u22 u03 x:=zW u29 10022 Tryz.f236 5 42 x (by kernel_rfl)
def u34 (x:p04):Option r50:=((u4p x).bind fun y1=>(bif (decide (y1=(-1:Int))) then(some x.1) else((u03 (x.1,(x.2,(y1,(IntKind.i64.wrap (y1+1)))))).bind fun r3=>match r3 with | .inl o4=>(bif (decide (0≤o4.2)&&decide (o4.2≤(o4.1.length:Int))&&decide ((o4.1.length:Int)≤(o4.1.length:Int))) then(bif (decide (0≤(0:Int))&&decide ((0:Int)≤o4.2)&&decide (o4.2≤((o4.1.take (o4.2).toNat++List.replicate (((o4.1.length:Int)).toNat - (o4.2).toNat) (u0a).zero++o4.1.drop ((o4.2).toNat+(((o4.1.length:Int)).toNat - (o4.2).toNat))).length:Int))) then(some ((o4.1.take (o4.2).toNat++List.replicate (((o4.1.length:Int)).toNat - (o4.2).toNat) (u0a).zero++o4.1.drop ((o4.2).toNat+(((o4.1.length:Int)).toNat - (o4.2).toNat))).take ((o4.2).toNat - ((0:Int)).toNat))) else none) else none) | .inr z5=>none)))
theorem u9l:u1t=u34:=zC 10022 rfl Tryz.func236 (by kernel_rfl)
def t83(x:Z64):Option Z93:=zK 100 x
def r4b (x:Z64):Option Z93:=((t1b x.1).bind fun y1=>((t9q x).bind fun y2=>((u1t (y1.2.1,y2)).bind fun y3=>((s11 (x.1.1,y2)).bind fun y4=>(some (y4,(y3,y1.2.2)))))))
theorem q6c:t83=r4b:=zC 100 rfl Tryz.func100 (by kernel_rfl)
def u5s(x:Z64):Option Z64:=zK 141 x
def s2l (x:Z64):Option Z64:=((t1b x.1).bind fun y1=>((t1c x.2).bind fun y2=>(some (y1,y2))))
theorem r6j:u5s=s2l:=zC 141 rfl Tryz.func141 (by kernel_rfl)
def u6d(x:p02):Option Bool:=zK 277 x
def r8n (x:p02):Option Bool:=(some (decide (x.1.1=x.2)))
theorem r8t:u6d=r8n:=zC 277 rfl Tryz.func277 (by kernel_rfl)
def u4c(x:p04):Option Int:=zK 10028 x
def u25(g:p63→Option r51)(x:p63):Option r51:=(bif (decide (x.2.2.2<x.2.2.1)) then(bif (y4q x.2.2.2 x.1.length) then((u6d ((rdL u0a x.1 (x.2.2.2).toNat),x.2.1)).bind fun y1=>(bif y1 then(some (.inr x.2.2.2)) else(g (x.1,(x.2.1,(x.2.2.1,(IntKind.i64.wrap (x.2.2.2+1)))))))) else none) else(some (.inl ())))
def u06:=lpW _ _ u25
theorem u74 x:u06 x=u25 u06 x:=zW u3c 10028 Tryz.f148 2 19 x (by kernel_rfl)
def u37 (x:p04):Option Int:=((u06 (x.1,(x.2,((x.1.length:Int),0)))).bind fun r2=>match r2 with | .inl o3=>(some (-1:Int)) | .inr z4=>(some z4))
theorem u9o:u4c=u37:=zC 10028 rfl Tryz.func148 (by kernel_rfl)
def u1p(x:p04):Option r50:=zK 10027 x
def u2s(g:p63→Option o0u)(x:p63):Option o0u:=(bif (decide (x.2.2.2<(x.1.length:Int))) then(bif (y4q x.2.2.2 x.1.length) then((u6d ((rdL u0a x.1 (x.2.2.2).toNat),x.2.1)).bind fun y2=>(bif (!y2) then(bif (y4q x.2.2.1 x.1.length) then(g ((x.1.set (x.2.2.1).toNat (rdL u0a x.1 (x.2.2.2).toNat)),(x.2.1,((IntKind.i64.wrap (x.2.2.1+1)),(IntKind.i64.wrap (x.2.2.2+1)))))) else none) else(g (x.1,(x.2.1,(x.2.2.1,(IntKind.i64.wrap (x.2.2.2+1)))))))) else none) else(some (.inl (x.1,x.2.2.1))))
def u0y:=lpW _ _ u2s
theorem u7w x:u0y x=u2s u0y x:=zW u2w 10027 Tryz.f236 5 42 x (by kernel_rfl)
def u3n (x:p04):Option r50:=((u4c x).bind fun y1=>(bif (decide (y1=(-1:Int))) then(some x.1) else((u0y (x.1,(x.2,(y1,(IntKind.i64.wrap (y1+1)))))).bind fun r3=>match r3 with | .inl o4=>(bif (decide (0≤o4.2)&&decide (o4.2≤(o4.1.length:Int))&&decide ((o4.1.length:Int)≤(o4.1.length:Int))) then(bif (decide (0≤(0:Int))&&decide ((0:Int)≤o4.2)&&decide (o4.2≤((o4.1.take (o4.2).toNat++List.replicate (((o4.1.length:Int)).toNat - (o4.2).toNat) (u0a).zero++o4.1.drop ((o4.2).toNat+(((o4.1.length:Int)).toNat - (o4.2).toNat))).length:Int))) then(some ((o4.1.take (o4.2).toNat++List.replicate (((o4.1.length:Int)).toNat - (o4.2).toNat) (u0a).zero++o4.1.drop ((o4.2).toNat+(((o4.1.length:Int)).toNat - (o4.2).toNat))).take ((o4.2).toNat - ((0:Int)).toNat))) else none) else none) | .inr z5=>none)))
theorem u8i:u1p=u3n:=zC 10027 rfl Tryz.func236 (by kernel_rfl)
def t7g(x:Z61):Option Z64:=zK 145 x
def r0z (x:Z61):Option Z64:=((u5s x.1).bind fun y1=>((u1p (y1.2,x.2)).bind fun y2=>(some (y1.1,y2))))
theorem q2u:t7g=r0z:=zC 145 rfl Tryz.func145 (by kernel_rfl)
def s9h(x:Z61):Option Z61:=zK 77 x
def r7h (x:Z61):Option Z61:=((t7g x).bind fun y1=>((u5j x).bind fun y2=>(bif (decide (y2<0)) then(some (y1,1)) else((t83 y1).bind fun y3=>(some ((y3,y1.2),0))))))
theorem q8o:s9h=r7h:=zC 77 rfl Tryz.func77 (by kernel_rfl)
def u20(x:o5a):Option q2e:=zK 257 x
theorem t80:∀(x:o5a),u20 x=y2q u0g x:=y6f (P:=Tryz.prog) (A:=A) (f:=257) (F:=y2q u0g) rfl
def t0f(x:ByteArray):Option Bool:=zK 433 x
def s0q (x:ByteArray):Option Bool:=(some (!z7o x x))
theorem r49:t0f=s0q:=zC 433 rfl Tryz.func433 (by kernel_rfl)
def t2v(x:p9b):Option Int:=zK 372 x
def t8l (x:p9b):Option Int:=((t0f x.1).bind fun y1=>((t0f x.2).bind fun y2=>(bif y1 then(bif y2 then(some (0:Int)) else(some (-1:Int))) else(bif y2 then(some (1:Int)) else(bif (y3c x.1 x.2) then(some (-1:Int)) else(bif (!(y3c x.1 x.2 || z7o x.1 x.2)) then(some (1:Int)) else(some (0:Int))))))))
theorem r0h:t2v=t8l:=zC 372 rfl Tryz.func372 (by kernel_rfl)
def t5p(x:Int):Option Bool:=zK 434 x
def s7s (x:Int):Option Bool:=(some (!decide (x=x)))
theorem r99:t5p=s7s:=zC 434 rfl Tryz.func434 (by kernel_rfl)
def t6j(x:p6z):Option Int:=zK 373 x
def s2i (x:p6z):Option Int:=((t5p x.1).bind fun y1=>((t5p x.2).bind fun y2=>(bif y1 then(bif y2 then(some (0:Int)) else(some (-1:Int))) else(bif y2 then(some (1:Int)) else(bif (decide (x.1<x.2)) then(some (-1:Int)) else(bif (decide (x.1 >x.2)) then(some (1:Int)) else(some (0:Int))))))))
theorem r6g:t6j=s2i:=zC 373 rfl Tryz.func373 (by kernel_rfl)
def u46(x:o2m):Option Int:=zK 256 x
def t0z (x:o2m):Option Int:=((t2v (x.1.1,x.2.1)).bind fun y1=>(bif (!decide (y1=0)) then(some y1) else((t6j (x.1.2.2.2,x.2.2.2.2)).bind fun y2=>(some y2))))
theorem t7x:u46=t0z:=zC 256 rfl Tryz.func256 (by kernel_rfl)
def t2w(x:o2m):Option Bool:=zK 255 x
def t8m (x:o2m):Option Bool:=((u46 x).bind fun y1=>(some (decide (y1 >0))))
theorem r0i:t2w=t8m:=zC 255 rfl Tryz.func255 (by kernel_rfl)
def u1j(x:o4y):Option Int:=zK 10024 x
def u0q(g:o4o→Option r51)(x:o4o):Option r51:=(bif (decide (x.2.2.2<x.2.2.1)) then(bif (y4q x.2.2.2 x.1.length) then((t2w ((rdL u0g x.1 (x.2.2.2).toNat),x.2.1)).bind fun y1=>(bif y1 then(some (.inr x.2.2.2)) else(g (x.1,(x.2.1,(x.2.2.1,(IntKind.i64.wrap (x.2.2.2+1)))))))) else none) else(some (.inl ())))
def u0r:=lpW _ _ u0q
theorem u14 x:u0r x=u0q u0r x:=zW u12 10024 Tryz.f254 2 19 x (by kernel_rfl)
def u2a (x:o4y):Option Int:=((u0r (x.1,(x.2,((x.1.length:Int),0)))).bind fun r2=>match r2 with | .inl o3=>(some (-1:Int)) | .inr z4=>(some z4))
theorem u52:u1j=u2a:=zC 10024 rfl Tryz.func254 (by kernel_rfl)
def t0g(x:o2v):Option q2e:=zK 120 x
def u63(g:o4x→Option p9c)(x:o4x):Option p9c:=(bif (decide (x.2.2.2.2<x.2.2.2.1)) then(bif (y4q x.2.2.2.2 x.2.2.1.length) then((u1j (x.2.1,((rdL u1x x.2.2.1 (x.2.2.2.2).toNat).1,((rdL u1x x.2.2.1 (x.2.2.2.2).toNat).2.1,((rdL u1x x.2.2.1 (x.2.2.2.2).toNat).2.2,x.1))))).bind fun y1=>(bif (decide (y1<0)) then((u20 (x.2.1,((x.2.1.length:Int),([((rdL u1x x.2.2.1 (x.2.2.2.2).toNat).1,((rdL u1x x.2.2.1 (x.2.2.2.2).toNat).2.1,((rdL u1x x.2.2.1 (x.2.2.2.2).toNat).2.2,x.1)))] :List u0g.den)))).bind fun y2=>(g (x.1,(y2,(x.2.2.1,(x.2.2.2.1,(IntKind.i64.wrap (x.2.2.2.2+1)))))))) else((u20 (x.2.1,(y1,([((rdL u1x x.2.2.1 (x.2.2.2.2).toNat).1,((rdL u1x x.2.2.1 (x.2.2.2.2).toNat).2.1,((rdL u1x x.2.2.1 (x.2.2.2.2).toNat).2.2,x.1)))] :List u0g.den)))).bind fun y3=>(g (x.1,(y3,(x.2.2.1,(x.2.2.2.1,(IntKind.i64.wrap (x.2.2.2.2+1)))))))))) else none) else(some (.inl x.2.1)))
def u67:=lpW _ _ u63
theorem t8t x:u67 x=u63 u67 x:=zW t8n 120 Tryz.f120 3 42 x (by kernel_rfl)
def s0r (x:o2v):Option q2e:=(bif (Nat.ble x.1.length z7w) then((u67 (x.2.2,(x.1,(x.2.1,((x.2.1.length:Int),0))))).bind fun r4=>match r4 with | .inl o5=>(some o5) | .inr z6=>none) else none)
theorem r5a:t0g=s0r:=zC 120 rfl Tryz.func120 (by kernel_rfl)
def u6c(x:Z47):Option Bool:=zK 279 x
def r8m (x:Z47):Option Bool:=(some (decide (x.1.1=x.2.1)))
theorem r8q:u6c=r8m:=zC 279 rfl Tryz.func279 (by kernel_rfl)
def u4b(x:Z76):Option Int:=zK 10026 x
def u24(g:Z66→Option r51)(x:Z66):Option r51:=(bif (decide (x.2.2.2<x.2.2.1)) then(bif (y4q x.2.2.2 x.1.length) then((u6c ((rdL u0a x.1 (x.2.2.2).toNat),x.2.1)).bind fun y1=>(bif y1 then(some (.inr x.2.2.2)) else(g (x.1,(x.2.1,(x.2.2.1,(IntKind.i64.wrap (x.2.2.2+1)))))))) else none) else(some (.inl ())))
def u05:=lpW _ _ u24
theorem u73 x:u05 x=u24 u05 x:=zW u3b 10026 Tryz.f148 2 19 x (by kernel_rfl)
def u36 (x:Z76):Option Int:=((u05 (x.1,(x.2,((x.1.length:Int),0)))).bind fun r2=>match r2 with | .inl o3=>(some (-1:Int)) | .inr z4=>(some z4))
theorem u9n:u4b=u36:=zC 10026 rfl Tryz.func148 (by kernel_rfl)
def u1d(x:Z76):Option r50:=zK 10025 x
def u2r(g:Z66→Option o0u)(x:Z66):Option o0u:=(bif (decide (x.2.2.2<(x.1.length:Int))) then(bif (y4q x.2.2.2 x.1.length) then((u6c ((rdL u0a x.1 (x.2.2.2).toNat),x.2.1)).bind fun y2=>(bif (!y2) then(bif (y4q x.2.2.1 x.1.length) then(g ((x.1.set (x.2.2.1).toNat (rdL u0a x.1 (x.2.2.2).toNat)),(x.2.1,((IntKind.i64.wrap (x.2.2.1+1)),(IntKind.i64.wrap (x.2.2.2+1)))))) else none) else(g (x.1,(x.2.1,(x.2.2.1,(IntKind.i64.wrap (x.2.2.2+1)))))))) else none) else(some (.inl (x.1,x.2.2.1))))
def u0x:=lpW _ _ u2r
theorem u7v x:u0x x=u2r u0x x:=zW u2v 10025 Tryz.f236 5 42 x (by kernel_rfl)
def u3m (x:Z76):Option r50:=((u4b x).bind fun y1=>(bif (decide (y1=(-1:Int))) then(some x.1) else((u0x (x.1,(x.2,(y1,(IntKind.i64.wrap (y1+1)))))).bind fun r3=>match r3 with | .inl o4=>(bif (decide (0≤o4.2)&&decide (o4.2≤(o4.1.length:Int))&&decide ((o4.1.length:Int)≤(o4.1.length:Int))) then(bif (decide (0≤(0:Int))&&decide ((0:Int)≤o4.2)&&decide (o4.2≤((o4.1.take (o4.2).toNat++List.replicate (((o4.1.length:Int)).toNat - (o4.2).toNat) (u0a).zero++o4.1.drop ((o4.2).toNat+(((o4.1.length:Int)).toNat - (o4.2).toNat))).length:Int))) then(some ((o4.1.take (o4.2).toNat++List.replicate (((o4.1.length:Int)).toNat - (o4.2).toNat) (u0a).zero++o4.1.drop ((o4.2).toNat+(((o4.1.length:Int)).toNat - (o4.2).toNat))).take ((o4.2).toNat - ((0:Int)).toNat))) else none) else none) | .inr z5=>none)))
theorem u8h:u1d=u3m:=zC 10025 rfl Tryz.func236 (by kernel_rfl)
def t7f(x:Z36):Option Z93:=zK 150 x
def t3i(g:Z5→Option (Z8⊕Unit))(x:Z5):Option (Z8⊕Unit):=(bif (decide (x.2.2.2.2.2.2<x.2.2.2.2.2.1)) then(bif (y4q x.2.2.2.2.2.2 x.2.2.1.2.2.1.length) then(bif (rdL u0a x.2.2.1.2.2.1 (x.2.2.2.2.2.2).toNat).2.2.2.2.2.2.1 then(bif (y4q x.2.2.2.2.2.2 x.2.2.1.2.2.1.length) then(g (x.1,(x.2.1,((x.2.2.1.1,(x.2.2.1.2.1,((x.2.2.1.2.2.1.set (x.2.2.2.2.2.2).toNat ((rdL u0a x.2.2.1.2.2.1 (x.2.2.2.2.2.2).toNat).1,((rdL u0a x.2.2.1.2.2.1 (x.2.2.2.2.2.2).toNat).2.1,((rdL u0a x.2.2.1.2.2.1 (x.2.2.2.2.2.2).toNat).2.2.1,((rdL u0a x.2.2.1.2.2.1 (x.2.2.2.2.2.2).toNat).2.2.2.1,((rdL u0a x.2.2.1.2.2.1 (x.2.2.2.2.2.2).toNat).2.2.2.2.1,((rdL u0a x.2.2.1.2.2.1 (x.2.2.2.2.2.2).toNat).2.2.2.2.2.1,(true,(rdL u0a x.2.2.1.2.2.1 (x.2.2.2.2.2.2).toNat).2.2.2.2.2.2.2)))))))),x.2.2.1.2.2.2))),(x.2.2.2.1,((),(x.2.2.2.2.2.1,(IntKind.i64.wrap (x.2.2.2.2.2.2+1))))))))) else none) else((u45 ((rdL u0a x.2.2.1.2.2.1 (x.2.2.2.2.2.2).toNat),x.2.2.2.1)).bind fun y5=>(bif (y4q x.2.2.2.2.2.2 x.2.2.1.2.2.1.length) then(g (x.1,(x.2.1,((x.2.2.1.1,(x.2.2.1.2.1,((x.2.2.1.2.2.1.set (x.2.2.2.2.2.2).toNat ((rdL u0a x.2.2.1.2.2.1 (x.2.2.2.2.2.2).toNat).1,((rdL u0a x.2.2.1.2.2.1 (x.2.2.2.2.2.2).toNat).2.1,((rdL u0a x.2.2.1.2.2.1 (x.2.2.2.2.2.2).toNat).2.2.1,((rdL u0a x.2.2.1.2.2.1 (x.2.2.2.2.2.2).toNat).2.2.2.1,((rdL u0a x.2.2.1.2.2.1 (x.2.2.2.2.2.2).toNat).2.2.2.2.1,((rdL u0a x.2.2.1.2.2.1 (x.2.2.2.2.2.2).toNat).2.2.2.2.2.1,(y5,(rdL u0a x.2.2.1.2.2.1 (x.2.2.2.2.2.2).toNat).2.2.2.2.2.2.2)))))))),x.2.2.1.2.2.2))),(x.2.2.2.1,((),(x.2.2.2.2.2.1,(IntKind.i64.wrap (x.2.2.2.2.2.2+1))))))))) else none))) else none) else(some (.inl (x.1,(x.2.1,(x.2.2.1,x.2.2.2.1))))))
def u57:=lpW _ _ t3i
theorem s6q x:u57 x=t3i u57 x:=zW s5s 150 Tryz.f150 9 80 x (by kernel_rfl)
def r0u (x:Z36):Option Z93:=((t1b x.1).bind fun y1=>((u6s x.2).bind fun y2=>(bif x.2.2.2.2.2.2.2.1 then((t0g (x.1.1,(x.2.2.2.2.2.2.1,(IntKind.i64.wrap (y1.2.2.2.1+1))))).bind fun y3=>((u1d (y1.2.2.1,x.2)).bind fun y4=>((u57 (x.2,((([] :List u0g.den),(([] :List u0a.den),(([] :List u0a.den),(0,0)))),((y3,(y1.2.1,(y4,((IntKind.i64.wrap (y1.2.2.2.1+1)),y1.2.2.2.2)))),((y2.1,(3,(y2.2.2.1,((IntKind.i64.wrap (x.1.2.2.2.1+1)),(y2.2.2.2.2.1,(y2.2.2.2.2.2.1,(true,(⟨#[]⟩:ByteArray)))))))),((),((y4.length:Int),0))))))).bind fun r6=>match r6 with | .inl o7=>(bif (Nat.ble (o7.2.2.1.2.1.length+([o7.2.2.2] :List u0a.den).length) z7w) then(some (o7.2.2.1.1,((o7.2.2.1.2.1++([o7.2.2.2] :List u0a.den)),(o7.2.2.1.2.2.1,(o7.2.2.1.2.2.2.1,(y8h o7.2.2.1.2.2.2.2 (IntKind.i64.wrap (o7.1.1+1)))))))) else none) | .inr z8=>none))) else((s08 (x.2,x.1.2.1)).bind fun y9=>((t0g (x.1.1,(x.2.2.2.2.2.2.1,(IntKind.i64.wrap (y1.2.2.2.1+1))))).bind fun y10=>((u1d (y1.2.2.1,x.2)).bind fun y11=>((u57 (x.2,((([] :List u0g.den),(([] :List u0a.den),(([] :List u0a.den),(0,0)))),((y10,(y1.2.1,(y11,((IntKind.i64.wrap (y1.2.2.2.1+1)),y1.2.2.2.2)))),((y2.1,(3,(y2.2.2.1,((IntKind.i64.wrap (x.1.2.2.2.1+1)),(y2.2.2.2.2.1,(y2.2.2.2.2.2.1,(y9,(⟨#[]⟩:ByteArray)))))))),((),((y11.length:Int),0))))))).bind fun r13=>match r13 with | .inl o14=>(bif (Nat.ble (o14.2.2.1.2.1.length+([o14.2.2.2] :List u0a.den).length) z7w) then(some (o14.2.2.1.1,((o14.2.2.1.2.1++([o14.2.2.2] :List u0a.den)),(o14.2.2.1.2.2.1,(o14.2.2.1.2.2.2.1,(y8h o14.2.2.1.2.2.2.2 (IntKind.i64.wrap (o14.1.1+1)))))))) else none) | .inr z15=>none)))))))
theorem q2o:t7f=r0u:=zC 150 rfl Tryz.func150 (by kernel_rfl)
def s4u(x:Z61):Option Z10:=zK 43 x
def r36 (x:Z61):Option Z10:=((t71 x).bind fun y1=>(bif (!decide (y1=0)) then((s9h x).bind fun y2=>(some (y2.1,((0,((0,(0,(0,(0,(([] :List q4f.den),(([] :List u1x.den),(false,(⟨#[]⟩:ByteArray)))))))),((⟨#[]⟩:ByteArray),(false,(([] :List u0g.den),(([] :List u0a.den),(([] :List u0a.den),(0,0)))))))),y1)))) else((u5j x).bind fun y3=>(bif (y4q y3 x.1.2.length) then((t7g x).bind fun y4=>((t7f (y4.1,(rdL u0a x.1.2 (y3).toNat))).bind fun y5=>(bif (y4q (IntKind.i64.wrap ((y5.2.1.length:Int) - (1:Int))) y5.2.1.length) then((u6s (rdL u0a y5.2.1 ((IntKind.i64.wrap ((y5.2.1.length:Int) - (1:Int)))).toNat)).bind fun y6=>((t83 (y5,y4.2)).bind fun y7=>(some ((y7,y4.2),((1,(y6,((⟨#[]⟩:ByteArray),(false,(([] :List u0g.den),(([] :List u0a.den),(([] :List u0a.den),(0,0)))))))),0))))) else none))) else none))))
theorem q57:s4u=r36:=zC 43 rfl Tryz.func43 (by kernel_rfl)
def t8d(x:(p4y×p4y)):Option Bool:=zK 45 x
def u93(g:o5g→Option r3y)(x:o5g):Option r3y:=(bif (decide (x.2.2<(x.1.length:Int))) then(bif (y4q x.2.2 x.1.length) then(bif (y4q x.2.2 x.2.1.length) then(bif (!(z7o (rdL q4f x.1 (x.2.2).toNat).1 (rdL q4f x.2.1 (x.2.2).toNat).1&&(z7o (rdL q4f x.1 (x.2.2).toNat).2 (rdL q4f x.2.1 (x.2.2).toNat).2&&true))) then(some (.inr false)) else(g (x.1,(x.2.1,(IntKind.i64.wrap (x.2.2+1)))))) else none) else none) else(some (.inl ())))
def t0b:=lpW _ _ u93
theorem s1j x:t0b x=u93 t0b x:=zW s00 45 Tryz.f45 4 26 x (by kernel_rfl)
def s5b (x:(p4y×p4y)):Option Bool:=(bif (!decide ((x.1.length:Int)=(x.2.length:Int))) then(some false) else((t0b (x.1,(x.2,0))).bind fun r1=>match r1 with | .inl o2=>(some true) | .inr z3=>(some z3)))
theorem r8v:t8d=s5b:=zC 45 rfl Tryz.func45 (by kernel_rfl)
def t2k(x:o46):Option p4y:=zK 46 x
def t49(g:o4s→Option (p4y⊕Unit))(x:o4s):Option (p4y⊕Unit):=(bif (decide (x.2.2.2.2<(x.2.2.2.1.length:Int))) then(bif (y4q x.2.2.2.2 x.2.2.2.1.length) then((t85 (x.1,((rdL Ty.str x.2.2.2.1 (x.2.2.2.2).toNat),x.2.1))).bind fun y2=>(bif y2.2 then(bif (y4q x.2.2.2.2 x.2.2.2.1.length) then(bif (Nat.ble (x.2.2.1.length+([((rdL Ty.str x.2.2.2.1 (x.2.2.2.2).toNat),y2.1)] :List q4f.den).length) z7w) then(g (x.1,(x.2.1,((x.2.2.1++([((rdL Ty.str x.2.2.2.1 (x.2.2.2.2).toNat),y2.1)] :List q4f.den)),(x.2.2.2.1,(IntKind.i64.wrap (x.2.2.2.2+1))))))) else none) else none) else(g (x.1,(x.2.1,(x.2.2.1,(x.2.2.2.1,(IntKind.i64.wrap (x.2.2.2.2+1))))))))) else none) else(some (.inl x.2.2.1)))
def t5f:=lpW _ _ t49
theorem s92 x:t5f x=t49 t5f x:=zW s88 46 Tryz.f46 4 43 x (by kernel_rfl)
def r4r (x:o46):Option p4y:=((t7p (x.1,x.2.1)).bind fun y1=>((t5f (x.1,(x.2.2,(([] :List q4f.den),(y1,0))))).bind fun r3=>match r3 with | .inl o4=>(some o4) | .inr z5=>none))
theorem q6r:t2k=r4r:=zC 46 rfl Tryz.func46 (by kernel_rfl)
def s99(x:Unit):Option p9b:=zK 47 x
def p3m (x:Unit):Option p9b:=(some ((⟨#[97]⟩:ByteArray),(⟨#[122,122,122]⟩:ByteArray)))
theorem p3u:s99=p3m:=zC 47 rfl Tryz.func47 (by kernel_rfl)
def t5u(x:Z47):Option Bool:=zK 289 x
def r4c (x:Z47):Option Bool:=(some (decide (x.1.1=x.2.1)))
theorem r5b:t5u=r4c:=zC 289 rfl Tryz.func289 (by kernel_rfl)
def u3f(x:Z76):Option Int:=zK 10002 x
def u2m(g:Z66→Option r51)(x:Z66):Option r51:=(bif (decide (x.2.2.2<x.2.2.1)) then(bif (y4q x.2.2.2 x.1.length) then((t5u ((rdL u0a x.1 (x.2.2.2).toNat),x.2.1)).bind fun y1=>(bif y1 then(some (.inr x.2.2.2)) else(g (x.1,(x.2.1,(x.2.2.1,(IntKind.i64.wrap (x.2.2.2+1)))))))) else none) else(some (.inl ())))
def u0v:=lpW _ _ u2m
theorem u62 x:u0v x=u2m u0v x:=zW u2o 10002 Tryz.f148 2 19 x (by kernel_rfl)
def u28 (x:Z76):Option Int:=((u0v (x.1,(x.2,((x.1.length:Int),0)))).bind fun r2=>match r2 with | .inl o3=>(some (-1:Int)) | .inr z4=>(some z4))
theorem u70:u3f=u28:=zC 10002 rfl Tryz.func148 (by kernel_rfl)
def u2i(x:Z76):Option Bool:=zK 10001 x
def u2g (x:Z76):Option Bool:=((u3f x).bind fun y1=>(some (decide (y1≥0))))
theorem u6q:u2i=u2g:=zC 10001 rfl Tryz.func261 (by kernel_rfl)
def u5k(x:Z76):Option Bool:=zK 10000 x
def t0e (x:Z76):Option Bool:=((u2i x).bind fun y1=>(some y1))
theorem t8z:u5k=t0e:=zC 10000 rfl Tryz.func127 (by kernel_rfl)
def u9q(x:p04):Option Bool:=zK 163 x
def u92(g:o4f→Option r3y)(x:o4f):Option r3y:=(bif (decide (x.2.2.2.2<x.2.2.2.1)) then(bif (y4q x.2.2.2.2 x.2.2.1.length) then(bif (decide ((rdL u0a x.2.2.1 (x.2.2.2.2).toNat).1≥x.2.1)) then(some (.inr false)) else(bif (decide (0≤(0:Int))&&decide ((0:Int)≤x.2.2.2.2)&&decide (x.2.2.2.2≤(x.1.length:Int))) then((u5k (((x.1.take (x.2.2.2.2).toNat).drop ((0:Int)).toNat),(rdL u0a x.2.2.1 (x.2.2.2.2).toNat))).bind fun y1=>(bif y1 then(some (.inr false)) else(g (x.1,(x.2.1,(x.2.2.1,(x.2.2.2.1,(IntKind.i64.wrap (x.2.2.2.2+1))))))))) else none)) else none) else(some (.inl ())))
def t0a:=lpW _ _ u92
theorem s1i x:t0a x=u92 t0a x:=zW s0z 163 Tryz.f163 2 26 x (by kernel_rfl)
def s49 (x:p04):Option Bool:=((t0a (x.1,(x.2,(x.1,((x.1.length:Int),0))))).bind fun r2=>match r2 with | .inl o3=>(some true) | .inr z4=>(some z4))
theorem r8s:u9q=s49:=zC 163 rfl Tryz.func163 (by kernel_rfl)
def u2l(x:(Int×p6z)):Option Bool:=zK 205 x
def r4e (x:(Int×p6z)):Option Bool:=(((bif (decide (x.1≥x.2.1)) then(some (decide (x.1≤x.2.2))) else(some false)):Option Bool).bind fun j1=>(some j1))
theorem q6e:u2l=r4e:=zC 205 rfl Tryz.func205 (by kernel_rfl)
def t09(x:ByteArray):Option Bool:=zK 142 x
def t6t(g:p0j→Option o27)(x:p0j):Option o27:=(bif (decide (x.2<(x.1.size:Int))) then(((bif (y4q x.2 x.1.size) then(bif (decide (((x.1.data.toList.getD (x.2).toNat 0).toNat:Int)<(97:Int))) then(some true) else(bif (y4q x.2 x.1.size) then(some (decide (((x.1.data.toList.getD (x.2).toNat 0).toNat:Int) >(122:Int)))) else none)) else none):Option Bool).bind fun j1=>(bif j1 then(some (.inr false)) else(g (x.1,(IntKind.i64.wrap (x.2+1)))))) else(some (.inl x.1)))
def t63:=lpW _ _ t6t
theorem r2y x:t63 x=t6t t63 x:=zW r2j 142 Tryz.f142 2 23 x (by kernel_rfl)
def r7g (x:ByteArray):Option Bool:=((t63 (x,0)).bind fun r2=>match r2 with | .inl o3=>((u2l ((o3.size:Int),(1,3))).bind fun y4=>(some y4)) | .inr z5=>(some z5))
theorem q8n:t09=r7g:=zC 142 rfl Tryz.func142 (by kernel_rfl)
def s1z(x:p9b):Option Bool:=zK 208 x
def r0t (x:p9b):Option Bool:=((((t09 x.1).bind fun y1=>(bif y1 then((t09 x.2).bind fun y2=>(bif y2 then(some (y3c x.1 x.2 || z7o x.1 x.2)) else(some false))) else(some false))):Option Bool).bind fun j3=>(some j3))
theorem q2n:s1z=r0t:=zC 208 rfl Tryz.func208 (by kernel_rfl)
def t27(x:o28):Option Bool:=zK 157 x
def r0x (x:o28):Option Bool:=((((t09 x.1).bind fun y1=>(bif y1 then(bif (decide ((x.2.1.size:Int)≤(12:Int))) then(bif (!x.2.2) then(some true) else(some (z7o x.2.1 (⟨#[]⟩:ByteArray)))) else(some false)) else(some false))):Option Bool).bind fun j2=>(some j2))
theorem q2r:t27=r0x:=zC 157 rfl Tryz.func157 (by kernel_rfl)
def t9t(x:p0f):Option Bool:=zK 291 x
def t1o(g:p84→Option (p0f⊕Bool))(x:p84):Option (p0f⊕Bool):=(bif (decide (x.2.2.2<x.2.2.1)) then(bif (y4q x.2.2.2 x.2.1.length) then((((t27 (rdL u1x x.2.1 (x.2.2.2).toNat)).bind fun y1=>(bif (!y1) then(some true) else(bif (decide (x.2.2.2 >0)) then(bif (y4q (IntKind.i64.wrap (x.2.2.2 - 1)) x.1.length) then(some (!y3c (rdL u1x x.1 ((IntKind.i64.wrap (x.2.2.2 - 1))).toNat).1 (rdL u1x x.2.1 (x.2.2.2).toNat).1)) else none) else(some false)))):Option Bool).bind fun j2=>(bif j2 then(some (.inr false)) else(g (x.1,(x.2.1,(x.2.2.1,(IntKind.i64.wrap (x.2.2.2+1)))))))) else none) else(some (.inl x.1)))
def t17:=lpW _ _ t1o
theorem s3y x:t17 x=t1o t17 x:=zW s27 291 Tryz.f291 2 34 x (by kernel_rfl)
def s71 (x:p0f):Option Bool:=((t17 (x,(x,((x.length:Int),0)))).bind fun r3=>match r3 with | .inl o4=>(some (decide ((o4.length:Int)≤(8:Int)))) | .inr z5=>(some z5))
theorem q0j:t9t=s71:=zC 291 rfl Tryz.func291 (by kernel_rfl)
def t1a(x:t4k):Option Bool:=zK 165 x
def t6w(g:Z84→Option (t4k⊕Bool))(x:Z84):Option (t4k⊕Bool):=(bif (decide (x.2.2.2<x.2.2.1)) then(bif (y4q x.2.2.2 x.2.1.length) then((s1z (rdL q4f x.2.1 (x.2.2.2).toNat)).bind fun y1=>(bif (!y1) then(some (.inr false)) else(g (x.1,(x.2.1,(x.2.2.1,(IntKind.i64.wrap (x.2.2.2+1)))))))) else none) else(some (.inl x.1)))
def t65:=lpW _ _ t6w
theorem r21 x:t65 x=t6w t65 x:=zW r2m 165 Tryz.f165 2 93 x (by kernel_rfl)
def r7k (x:t4k):Option Bool:=((t65 (x,(x.2.2.2.2.1,((x.2.2.2.2.1.length:Int),0)))).bind fun r2=>match r2 with | .inl o3=>((((u2l (o3.1,(1,9999))).bind fun y4=>(bif (!y4) then(some true) else((u2l (o3.2.1,(1,3))).bind fun y5=>(bif (!y5) then(some true) else((u2l (o3.2.2.1,(0,9999))).bind fun y6=>(bif (!y6) then(some true) else(bif (decide ((o3.2.2.2.2.1.length:Int) >(8:Int))) then(some true) else((t9t o3.2.2.2.2.2.1).bind fun y7=>(bif (!y7) then(some true) else(bif o3.2.2.2.2.2.2.1 then(some (decide (o3.2.1=1))) else(some false))))))))))):Option Bool).bind fun j8=>(bif j8 then(some false) else(((bif (decide (o3.2.1=3)) then((u2l (o3.2.2.2.1,((IntKind.i64.wrap (o3.2.2.1+1)),9999))).bind fun y9=>(bif (!y9) then(some true) else(bif (!decide (o3.2.1=3)) then(some (!decide (o3.2.2.2.1=0))) else(some false)))) else(bif (!decide (o3.2.1=3)) then(some (!decide (o3.2.2.2.1=0))) else(some false))):Option Bool).bind fun j10=>(bif j10 then(some false) else(((bif (decide (o3.2.1=2)) then((t09 o3.2.2.2.2.2.2.2).bind fun y11=>(bif y11 then(some true) else(bif (!decide (o3.2.1=2)) then(some (z7o o3.2.2.2.2.2.2.2 (⟨#[]⟩:ByteArray))) else(some false)))) else(bif (!decide (o3.2.1=2)) then(some (z7o o3.2.2.2.2.2.2.2 (⟨#[]⟩:ByteArray))) else(some false))):Option Bool).bind fun j12=>(some j12)))))) | .inr z13=>(some z13))
theorem q8r:t1a=r7k:=zC 165 rfl Tryz.func165 (by kernel_rfl)
def t6k(x:q2e):Option Bool:=zK 204 x
def u76(g:o2p→Option (q2e⊕Bool))(x:o2p):Option (q2e⊕Bool):=(bif (decide (x.2.2.2<x.2.2.1)) then(bif (y4q x.2.2.2 x.2.1.length) then((((t09 (rdL u0g x.2.1 (x.2.2.2).toNat).1).bind fun y1=>(bif (!y1) then(some true) else(bif (decide (((rdL u0g x.2.1 (x.2.2.2).toNat).2.1.size:Int) >(12:Int))) then(some true) else(bif (rdL u0g x.2.1 (x.2.2.2).toNat).2.2.1 then(bif (!z7o (rdL u0g x.2.1 (x.2.2.2).toNat).2.1 (⟨#[]⟩:ByteArray)) then(some true) else((u2l ((rdL u0g x.2.1 (x.2.2.2).toNat).2.2.2,(1,9999))).bind fun y2=>(bif (!y2) then(some true) else(bif (decide (x.2.2.2 >0)) then(bif (y4q (IntKind.i64.wrap (x.2.2.2 - 1)) x.1.length) then((u46 ((rdL u0g x.1 ((IntKind.i64.wrap (x.2.2.2 - 1))).toNat),(rdL u0g x.2.1 (x.2.2.2).toNat))).bind fun y3=>(some (decide (y3≥0)))) else none) else(some false))))) else((u2l ((rdL u0g x.2.1 (x.2.2.2).toNat).2.2.2,(1,9999))).bind fun y4=>(bif (!y4) then(some true) else(bif (decide (x.2.2.2 >0)) then(bif (y4q (IntKind.i64.wrap (x.2.2.2 - 1)) x.1.length) then((u46 ((rdL u0g x.1 ((IntKind.i64.wrap (x.2.2.2 - 1))).toNat),(rdL u0g x.2.1 (x.2.2.2).toNat))).bind fun y5=>(some (decide (y5≥0)))) else none) else(some false)))))))):Option Bool).bind fun j6=>(bif j6 then(some (.inr false)) else(g (x.1,(x.2.1,(x.2.2.1,(IntKind.i64.wrap (x.2.2.2+1)))))))) else none) else(some (.inl x.1)))
def u8b:=lpW _ _ u76
theorem s0a x:u8b x=u76 u8b x:=zW t9i 204 Tryz.f204 2 55 x (by kernel_rfl)
def s2k (x:q2e):Option Bool:=((u8b (x,(x,((x.length:Int),0)))).bind fun r7=>match r7 with | .inl o8=>(some (decide ((o8.length:Int)≤(120:Int)))) | .inr z9=>(some z9))
theorem r6i:t6k=s2k:=zC 204 rfl Tryz.func204 (by kernel_rfl)
def s4s(x:Z93):Option Bool:=zK 76 x
def t43(g:Z63→Option p9d)(x:Z63):Option p9d:=(bif (decide (x.2.2.2<x.2.2.1)) then(bif (y4q x.2.2.2 x.2.1.length) then(bif (decide ((rdL u0g x.2.1 (x.2.2.2).toNat).2.2.2 >x.1.2.2.2.1)) then(some (.inr false)) else(g (x.1,(x.2.1,(x.2.2.1,(IntKind.i64.wrap (x.2.2.2+1))))))) else none) else(some (.inl x.1)))
def t0r:=lpW _ _ t43
theorem s9u x:t0r x=t43 t0r x:=zW s80 76 Tryz.f76 4 139 x (by kernel_rfl)
def t3g(g:Z58→Option p9d)(x:Z58):Option p9d:=(bif (decide (x.2.2.2<x.2.2.1)) then(bif (y4q x.2.2.2 x.2.1.length) then((((t1a (rdL u0a x.2.1 (x.2.2.2).toNat)).bind fun y7=>(bif (!y7) then(some true) else((u8l (rdL u0a x.2.1 (x.2.2.2).toNat)).bind fun y8=>(bif (!y8) then(some true) else(bif (decide ((rdL u0a x.2.1 (x.2.2.2).toNat).2.2.2.1 >x.1.2.2.2.1)) then(some true) else(bif (decide (x.2.2.2 >0)) then(bif (y4q (IntKind.i64.wrap (x.2.2.2 - 1)) x.1.2.1.length) then(some (decide ((rdL u0a x.1.2.1 ((IntKind.i64.wrap (x.2.2.2 - 1))).toNat).2.2.2.1≥(rdL u0a x.2.1 (x.2.2.2).toNat).2.2.2.1))) else none) else(some false))))))):Option Bool).bind fun j9=>(bif j9 then(some (.inr false)) else(g (x.1,(x.2.1,(x.2.2.1,(IntKind.i64.wrap (x.2.2.2+1)))))))) else none) else(some (.inl x.1)))
def u8z:=lpW _ _ t3g
theorem s6o x:u8z x=t3g u8z x:=zW s5q 76 Tryz.f76 10 139 x (by kernel_rfl)
def t3h(g:Z58→Option p9d)(x:Z58):Option p9d:=(bif (decide (x.2.2.2<x.2.2.1)) then(bif (y4q x.2.2.2 x.2.1.length) then((((t1a (rdL u0a x.2.1 (x.2.2.2).toNat)).bind fun y12=>(bif (!y12) then(some true) else((u5m (rdL u0a x.2.1 (x.2.2.2).toNat)).bind fun y13=>(bif (!y13) then(some true) else(bif (decide ((rdL u0a x.2.1 (x.2.2.2).toNat).2.2.1 >x.1.2.2.2.1)) then(some true) else(bif (decide (x.2.2.2 >0)) then(bif (y4q (IntKind.i64.wrap (x.2.2.2 - 1)) x.1.2.2.1.length) then(some (!y3c (rdL u0a x.1.2.2.1 ((IntKind.i64.wrap (x.2.2.2 - 1))).toNat).2.2.2.2.2.2.2 (rdL u0a x.2.1 (x.2.2.2).toNat).2.2.2.2.2.2.2)) else none) else(some false))))))):Option Bool).bind fun j14=>(bif j14 then(some (.inr false)) else(g (x.1,(x.2.1,(x.2.2.1,(IntKind.i64.wrap (x.2.2.2+1)))))))) else none) else(some (.inl x.1)))
def u80:=lpW _ _ t3h
theorem s6p x:u80 x=t3h u80 x:=zW s5r 76 Tryz.f76 16 139 x (by kernel_rfl)
def r34 (x:Z93):Option Bool:=((((t6k x.1).bind fun y1=>(bif (!y1) then(some true) else(bif (decide ((x.2.1.length:Int) >(12:Int))) then(some true) else(bif (decide ((x.2.2.1.length:Int) >(3:Int))) then(some true) else((u2l (x.2.2.2.1,(0,9999))).bind fun y2=>(bif (!y2) then(some true) else((u2l (x.2.2.2.2,(1,9999))).bind fun y3=>(some (!y3))))))))):Option Bool).bind fun j4=>(bif j4 then(some false) else((t0r (x,(x.1,((x.1.length:Int),0)))).bind fun r5=>match r5 with | .inl o6=>((u8z (o6,(o6.2.1,((o6.2.1.length:Int),0)))).bind fun r10=>match r10 with | .inl o11=>((u80 (o11,(o11.2.2.1,((o11.2.2.1.length:Int),0)))).bind fun r15=>match r15 with | .inl o16=>((u13 ([o16.2.1,o16.2.2.1] :List r50)).bind fun y17=>((u9q (y17,o16.2.2.2.2)).bind fun y18=>(some y18))) | .inr z19=>(some z19)) | .inr z20=>(some z20)) | .inr z21=>(some z21))))
theorem q55:s4s=r34:=zC 76 rfl Tryz.func76 (by kernel_rfl)
def u7m(x:Z64):Option Bool:=zK 55 x
def t1k(g:Z37→Option r3y)(x:Z37):Option r3y:=(bif (decide (x.2.2.2<x.2.2.1)) then(bif (y4q x.2.2.2 x.2.1.length) then((((t1a (rdL u0a x.2.1 (x.2.2.2).toNat)).bind fun y4=>(bif (!y4) then(some true) else(bif (!decide ((rdL u0a x.2.1 (x.2.2.2).toNat).2.1=1)) then(some true) else(bif (decide ((rdL u0a x.2.1 (x.2.2.2).toNat).2.2.1 >x.1.1.2.2.2.1)) then(some true) else(bif (decide (x.2.2.2 >0)) then(bif (y4q (IntKind.i64.wrap (x.2.2.2 - 1)) x.1.2.length) then(some (decide ((rdL u0a x.1.2 ((IntKind.i64.wrap (x.2.2.2 - 1))).toNat).1≥(rdL u0a x.2.1 (x.2.2.2).toNat).1))) else none) else(some false)))))):Option Bool).bind fun j5=>(bif j5 then(some (.inr false)) else(g (x.1,(x.2.1,(x.2.2.1,(IntKind.i64.wrap (x.2.2.2+1)))))))) else none) else(some (.inl ())))
def t14:=lpW _ _ t1k
theorem s3u x:t14 x=t1k t14 x:=zW s23 55 Tryz.f55 4 73 x (by kernel_rfl)
def s7w (x:Z64):Option Bool:=((s4s x.1).bind fun y1=>(bif (!y1) then(some false) else(bif (decide ((x.2.length:Int) >(4:Int))) then(some false) else((u13 ([x.1.2.1,x.1.2.2.1,x.2] :List r50)).bind fun y2=>((u9q (y2,x.1.2.2.2.2)).bind fun y3=>(bif (!y3) then(some false) else((t14 (x,(x.2,((x.2.length:Int),0)))).bind fun r6=>match r6 with | .inl o7=>(some true) | .inr z8=>(some z8))))))))
theorem q0d:u7m=s7w:=zC 55 rfl Tryz.func55 (by kernel_rfl)
def s9g(x:Z64):Option Z57:=zK 51 x
def r7e (x:Z64):Option Z57:=((u5s x).bind fun y1=>((((u7m x).bind fun y2=>(bif (!y2) then(some true) else(bif (decide ((x.2.length:Int)=(4:Int))) then(some true) else(some (decide (x.1.2.2.2.2=9999)))))):Option Bool).bind fun j3=>(bif j3 then(some (y1,(0,3))) else(bif (Nat.ble (y1.2.length+([(x.1.2.2.2.2,(1,(x.1.2.2.2.1,(0,(([] :List q4f.den),(([] :List u1x.den),(false,(⟨#[]⟩:ByteArray))))))))] :List u0a.den).length) z7w) then(some (((y1.1.1,(y1.1.2.1,(y1.1.2.2.1,(y1.1.2.2.2.1,(IntKind.i64.wrap (y1.1.2.2.2.2+1)))))),(y1.2++([(x.1.2.2.2.2,(1,(x.1.2.2.2.1,(0,(([] :List q4f.den),(([] :List u1x.den),(false,(⟨#[]⟩:ByteArray))))))))] :List u0a.den))),(x.1.2.2.2.2,0))) else none))))
theorem q8l:s9g=r7e:=zC 51 rfl Tryz.func51 (by kernel_rfl)
def u56(x:o5e):Option p0f:=zK 387 x
theorem s0l:∀(x:o5e),u56 x=y2q u1x x:=y6f (P:=Tryz.prog) (A:=A) (f:=387) (F:=y2q u1x) rfl
def t9r(x:o2s):Option p0f:=zK 286 x
def t1m(g:o03→Option (o03⊕Unit))(x:o03):Option (o03⊕Unit):=(((bif (decide (x.2.2<(x.2.1.length:Int))) then(bif (y4q x.2.2 x.2.1.length) then(some (y3c (rdL u1x x.2.1 (x.2.2).toNat).1 x.1.1)) else none) else(some false)):Option Bool).bind fun j1=>(bif j1 then(g (x.1,(x.2.1,(IntKind.i64.wrap (x.2.2+1))))) else(some (.inl x))))
def u7c:=lpW _ _ t1m
theorem s3w x:u7c x=t1m u7c x:=zW s25 286 Tryz.f286 3 49 x (by kernel_rfl)
def s7z (x:o2s):Option p0f:=(bif (Nat.ble x.1.length z7w) then((u7c (x.2,(x.1,0))).bind fun r2=>match r2 with | .inl o3=>(((bif (decide (o3.2.2<(o3.2.1.length:Int))) then(bif (y4q o3.2.2 o3.2.1.length) then(some (z7o (rdL u1x o3.2.1 (o3.2.2).toNat).1 o3.1.1)) else none) else(some false)):Option Bool).bind fun j4=>(bif j4 then(bif (y4q o3.2.2 o3.2.1.length) then(some (o3.2.1.set (o3.2.2).toNat o3.1)) else none) else((u56 (o3.2.1,(o3.2.2,([o3.1] :List u1x.den)))).bind fun y5=>(some y5)))) | .inr z6=>none) else none)
theorem q0g:t9r=s7z:=zC 286 rfl Tryz.func286 (by kernel_rfl)
def t9s(x:Z82):Option Z99:=zK 158 x
def s70 (x:Z82):Option Z99:=((u6s x.1).bind fun y1=>((((t1a x.1).bind fun y2=>(bif (!y2) then(some true) else(bif (!decide (x.1.2.1=1)) then(some true) else((t27 x.2).bind fun y3=>(some (!y3)))))):Option Bool).bind fun j4=>(bif j4 then(some (y1,false)) else((t9r (x.1.2.2.2.2.2.1,x.2)).bind fun y5=>((t1a (y1.1,(y1.2.1,(y1.2.2.1,(y1.2.2.2.1,(y1.2.2.2.2.1,(y5,y1.2.2.2.2.2.2))))))).bind fun y6=>(bif (!y6) then((u6s x.1).bind fun y7=>(some (y7,false))) else(some ((y1.1,(y1.2.1,(y1.2.2.1,(y1.2.2.2.1,(y1.2.2.2.2.1,(y5,y1.2.2.2.2.2.2)))))),true))))))))
theorem q0i:t9s=s70:=zC 158 rfl Tryz.func158 (by kernel_rfl)
def t5t(x:Z43):Option Z61:=zK 52 x
def r4a (x:Z43):Option Z61:=((u5s x.1).bind fun y1=>((u5j (x.1,x.2.1)).bind fun y2=>(bif (decide (y2<0)) then(some (y1,1)) else((t27 x.2.2).bind fun y3=>(bif (!y3) then(some (y1,2)) else(bif (y4q y2 x.1.2.length) then((t9s ((rdL u0a x.1.2 (y2).toNat),x.2.2)).bind fun y4=>(bif (!y4.2) then(some (y1,3)) else(bif (y4q y2 y1.2.length) then(some ((y1.1,(y1.2.set (y2).toNat y4.1)),0)) else none))) else none))))))
theorem q6b:t5t=r4a:=zC 52 rfl Tryz.func52 (by kernel_rfl)
def s6n(x:q7o):Option Bool:=zK 7 x
def s5a (x:q7o):Option Bool:=((q4x x).bind fun y1=>(bif y1 then(some true) else((t2h x).bind fun y2=>((t71 y2).bind fun y3=>((s4u y2).bind fun y4=>((u4y y2).bind fun y5=>(bif (y4q y5 y2.1.2.length) then(bif (Nat.ble (([] :List u0a.den).length+y2.1.1.2.1.length) z7w) then(bif (Nat.ble ((([] :List u0a.den)++y2.1.1.2.1).length+y2.1.1.2.2.1.length) z7w) then(((bif (!decide (y4.2.2=y3)) then(some true) else((u5j (y4.1,y2.2)).bind fun y6=>(some (!decide (y6=(-1:Int)))))):Option Bool).bind fun j7=>(bif j7 then(some false) else(bif (!decide (y3=0)) then(((bif (decide (y4.1.1.2.2.2.1=y2.1.1.2.2.2.1)) then(bif (decide (y4.2.1.1=0)) then((s99 ()).bind fun y8=>((t2k (y4.1.1.1,(y8,y4.1.1.2.2.2.1))).bind fun y9=>((s99 ()).bind fun y10=>((t2k (y2.1.1.1,(y10,y2.1.1.2.2.2.1))).bind fun y11=>((t8d (y9,y11)).bind fun y12=>(some y12)))))) else(some false)) else(some false)):Option Bool).bind fun j13=>(some j13)) else((s9g y4.1).bind fun y14=>((t5t (y14.1,(y14.2.1,((⟨#[122,122,122]⟩:ByteArray),((⟨#[97,108,111,110,101]⟩:ByteArray),false))))).bind fun y15=>((t71 (y15.1,y14.2.1)).bind fun y16=>(((bif (decide (y4.1.1.2.2.2.1=(IntKind.i64.wrap (y2.1.1.2.2.2.1+1)))) then(bif (decide (y4.2.1.1=1)) then(bif (decide (y4.2.1.2.1.1=y2.2)) then(bif (decide (y4.2.1.2.1.2.2.2.1=y4.1.1.2.2.2.1)) then((t7h ((rdL u0a y2.1.2 (y5).toNat),((([] :List u0a.den)++y2.1.1.2.1)++y2.1.1.2.2.1))).bind fun y17=>(bif (!y17) then((t5w ((rdL u0a y2.1.2 (y5).toNat),((([] :List u0a.den)++y2.1.1.2.1)++y2.1.1.2.2.1))).bind fun y18=>(bif (!y18) then(bif (decide (y16=0)) then((u7m y4.1).bind fun y19=>(some y19)) else(bif (decide (y16=3)) then((u7m y4.1).bind fun y20=>(some y20)) else(some false))) else(some false))) else(some false))) else(some false)) else(some false)) else(some false)) else(some false)):Option Bool).bind fun j21=>(some j21)))))))) else none) else none) else none)))))))
theorem r8u:s6n=s5a:=zC 7 rfl Tryz.func7 (by kernel_rfl)
end
end Go.Proofs.YtbkicjpdlchbgaaGreat.Ab
