import Derived.Test.YtbkicjpdlchbgaaGreatAbG1
namespace Go.Proofs.YtbkicjpdlchbgaaGreat.Ab
open Go
set_option linter.unusedVariables false
noncomputable section
set_option maxRecDepth 100000
def u52(x:p93):Option r2q:=zK 411 x
def t18(g:Z61→Option (p6h ⊕ r2q))(x:Z61):Option (p6h ⊕ r2q):=(bif (decide (x.2.2.2.2.2.2<(x.2.2.1.size:Int))) then (bif (decide ((IntKind.i64.wrap ((64:Int) - (Int.tmod (IntKind.i64.wrap (x.2.1+x.2.2.2.2.2.2)) (64:Int)))) >(IntKind.i64.wrap ((x.2.2.1.size:Int) - x.2.2.2.2.2.2)))) then ((u4e (x.2.2.2.2.2.1,(IntKind.i64.wrap (x.1+(IntKind.i64.wrap (Int.tdiv (IntKind.i64.wrap (x.2.1+x.2.2.2.2.2.2)) (64:Int))))))).bind fun y6=>(((bif (!y6.2) then (some true) else (some (!decide ((y6.1.size:Int)=(64:Int))))):Option Bool).bind fun j7=>(bif j7 then ((u0x x.2.2.2.1).bind fun y8=>(some (.inr (y8,false)))) else (bif (decide (0≤(0:Int)) && decide ((0:Int)≤(Int.tmod (IntKind.i64.wrap (x.2.1+x.2.2.2.2.2.2)) (64:Int))) && decide ((Int.tmod (IntKind.i64.wrap (x.2.1+x.2.2.2.2.2.2)) (64:Int))≤(y6.1.size:Int))) then (bif (decide (0≤x.2.2.2.2.2.2) && decide (x.2.2.2.2.2.2≤(IntKind.i64.wrap (x.2.2.2.2.2.2+(IntKind.i64.wrap ((x.2.2.1.size:Int) - x.2.2.2.2.2.2))))) && decide ((IntKind.i64.wrap (x.2.2.2.2.2.2+(IntKind.i64.wrap ((x.2.2.1.size:Int) - x.2.2.2.2.2.2))))≤(x.2.2.1.size:Int))) then (bif (decide ((y6.1.extract ((0:Int)).toNat ((Int.tmod (IntKind.i64.wrap (x.2.1+x.2.2.2.2.2.2)) (64:Int))).toNat).size+(x.2.2.1.extract (x.2.2.2.2.2.2).toNat ((IntKind.i64.wrap (x.2.2.2.2.2.2+(IntKind.i64.wrap ((x.2.2.1.size:Int) - x.2.2.2.2.2.2))))).toNat).size≤140737488355328)) then (bif (decide (0≤(IntKind.i64.wrap ((Int.tmod (IntKind.i64.wrap (x.2.1+x.2.2.2.2.2.2)) (64:Int))+(IntKind.i64.wrap ((x.2.2.1.size:Int) - x.2.2.2.2.2.2))))) && decide ((IntKind.i64.wrap ((Int.tmod (IntKind.i64.wrap (x.2.1+x.2.2.2.2.2.2)) (64:Int))+(IntKind.i64.wrap ((x.2.2.1.size:Int) - x.2.2.2.2.2.2))))≤(y6.1.size:Int)) && decide ((y6.1.size:Int)≤(y6.1.size:Int))) then (bif (decide (((y6.1.extract ((0:Int)).toNat ((Int.tmod (IntKind.i64.wrap (x.2.1+x.2.2.2.2.2.2)) (64:Int))).toNat)++(x.2.2.1.extract (x.2.2.2.2.2.2).toNat ((IntKind.i64.wrap (x.2.2.2.2.2.2+(IntKind.i64.wrap ((x.2.2.1.size:Int) - x.2.2.2.2.2.2))))).toNat)).size+(y6.1.extract ((IntKind.i64.wrap ((Int.tmod (IntKind.i64.wrap (x.2.1+x.2.2.2.2.2.2)) (64:Int))+(IntKind.i64.wrap ((x.2.2.1.size:Int) - x.2.2.2.2.2.2))))).toNat ((y6.1.size:Int)).toNat).size≤140737488355328)) then ((u8g (x.2.2.2.2.2.1,((IntKind.i64.wrap (x.1+(IntKind.i64.wrap (Int.tdiv (IntKind.i64.wrap (x.2.1+x.2.2.2.2.2.2)) (64:Int))))),(((y6.1.extract ((0:Int)).toNat ((Int.tmod (IntKind.i64.wrap (x.2.1+x.2.2.2.2.2.2)) (64:Int))).toNat)++(x.2.2.1.extract (x.2.2.2.2.2.2).toNat ((IntKind.i64.wrap (x.2.2.2.2.2.2+(IntKind.i64.wrap ((x.2.2.1.size:Int) - x.2.2.2.2.2.2))))).toNat))++(y6.1.extract ((IntKind.i64.wrap ((Int.tmod (IntKind.i64.wrap (x.2.1+x.2.2.2.2.2.2)) (64:Int))+(IntKind.i64.wrap ((x.2.2.1.size:Int) - x.2.2.2.2.2.2))))).toNat ((y6.1.size:Int)).toNat))))).bind fun y9=>(bif (!y9.2) then ((u0x x.2.2.2.1).bind fun y10=>(some (.inr (y10,false)))) else (g (x.1,(x.2.1,(x.2.2.1,(x.2.2.2.1,(x.2.2.2.2.1,(y9.1,(IntKind.i64.wrap (x.2.2.2.2.2.2+(IntKind.i64.wrap ((x.2.2.1.size:Int) - x.2.2.2.2.2.2))))))))))))) else none) else none) else none) else none) else none)))) else ((u4e (x.2.2.2.2.2.1,(IntKind.i64.wrap (x.1+(IntKind.i64.wrap (Int.tdiv (IntKind.i64.wrap (x.2.1+x.2.2.2.2.2.2)) (64:Int))))))).bind fun y11=>(((bif (!y11.2) then (some true) else (some (!decide ((y11.1.size:Int)=(64:Int))))):Option Bool).bind fun j12=>(bif j12 then ((u0x x.2.2.2.1).bind fun y13=>(some (.inr (y13,false)))) else (bif (decide (0≤(0:Int)) && decide ((0:Int)≤(Int.tmod (IntKind.i64.wrap (x.2.1+x.2.2.2.2.2.2)) (64:Int))) && decide ((Int.tmod (IntKind.i64.wrap (x.2.1+x.2.2.2.2.2.2)) (64:Int))≤(y11.1.size:Int))) then (bif (decide (0≤x.2.2.2.2.2.2) && decide (x.2.2.2.2.2.2≤(IntKind.i64.wrap (x.2.2.2.2.2.2+(IntKind.i64.wrap ((64:Int) - (Int.tmod (IntKind.i64.wrap (x.2.1+x.2.2.2.2.2.2)) (64:Int))))))) && decide ((IntKind.i64.wrap (x.2.2.2.2.2.2+(IntKind.i64.wrap ((64:Int) - (Int.tmod (IntKind.i64.wrap (x.2.1+x.2.2.2.2.2.2)) (64:Int))))))≤(x.2.2.1.size:Int))) then (bif (decide ((y11.1.extract ((0:Int)).toNat ((Int.tmod (IntKind.i64.wrap (x.2.1+x.2.2.2.2.2.2)) (64:Int))).toNat).size+(x.2.2.1.extract (x.2.2.2.2.2.2).toNat ((IntKind.i64.wrap (x.2.2.2.2.2.2+(IntKind.i64.wrap ((64:Int) - (Int.tmod (IntKind.i64.wrap (x.2.1+x.2.2.2.2.2.2)) (64:Int))))))).toNat).size≤140737488355328)) then (bif (decide (0≤(IntKind.i64.wrap ((Int.tmod (IntKind.i64.wrap (x.2.1+x.2.2.2.2.2.2)) (64:Int))+(IntKind.i64.wrap ((64:Int) - (Int.tmod (IntKind.i64.wrap (x.2.1+x.2.2.2.2.2.2)) (64:Int))))))) && decide ((IntKind.i64.wrap ((Int.tmod (IntKind.i64.wrap (x.2.1+x.2.2.2.2.2.2)) (64:Int))+(IntKind.i64.wrap ((64:Int) - (Int.tmod (IntKind.i64.wrap (x.2.1+x.2.2.2.2.2.2)) (64:Int))))))≤(y11.1.size:Int)) && decide ((y11.1.size:Int)≤(y11.1.size:Int))) then (bif (decide (((y11.1.extract ((0:Int)).toNat ((Int.tmod (IntKind.i64.wrap (x.2.1+x.2.2.2.2.2.2)) (64:Int))).toNat)++(x.2.2.1.extract (x.2.2.2.2.2.2).toNat ((IntKind.i64.wrap (x.2.2.2.2.2.2+(IntKind.i64.wrap ((64:Int) - (Int.tmod (IntKind.i64.wrap (x.2.1+x.2.2.2.2.2.2)) (64:Int))))))).toNat)).size+(y11.1.extract ((IntKind.i64.wrap ((Int.tmod (IntKind.i64.wrap (x.2.1+x.2.2.2.2.2.2)) (64:Int))+(IntKind.i64.wrap ((64:Int) - (Int.tmod (IntKind.i64.wrap (x.2.1+x.2.2.2.2.2.2)) (64:Int))))))).toNat ((y11.1.size:Int)).toNat).size≤140737488355328)) then ((u8g (x.2.2.2.2.2.1,((IntKind.i64.wrap (x.1+(IntKind.i64.wrap (Int.tdiv (IntKind.i64.wrap (x.2.1+x.2.2.2.2.2.2)) (64:Int))))),(((y11.1.extract ((0:Int)).toNat ((Int.tmod (IntKind.i64.wrap (x.2.1+x.2.2.2.2.2.2)) (64:Int))).toNat)++(x.2.2.1.extract (x.2.2.2.2.2.2).toNat ((IntKind.i64.wrap (x.2.2.2.2.2.2+(IntKind.i64.wrap ((64:Int) - (Int.tmod (IntKind.i64.wrap (x.2.1+x.2.2.2.2.2.2)) (64:Int))))))).toNat))++(y11.1.extract ((IntKind.i64.wrap ((Int.tmod (IntKind.i64.wrap (x.2.1+x.2.2.2.2.2.2)) (64:Int))+(IntKind.i64.wrap ((64:Int) - (Int.tmod (IntKind.i64.wrap (x.2.1+x.2.2.2.2.2.2)) (64:Int))))))).toNat ((y11.1.size:Int)).toNat))))).bind fun y14=>(bif (!y14.2) then ((u0x x.2.2.2.1).bind fun y15=>(some (.inr (y15,false)))) else (g (x.1,(x.2.1,(x.2.2.1,(x.2.2.2.1,(x.2.2.2.2.1,(y14.1,(IntKind.i64.wrap (x.2.2.2.2.2.2+(IntKind.i64.wrap ((64:Int) - (Int.tmod (IntKind.i64.wrap (x.2.1+x.2.2.2.2.2.2)) (64:Int))))))))))))))) else none) else none) else none) else none) else none))))) else (some (.inl (x.2.2.2.2.1,x.2.2.2.2.2.1))))
def u3g:=lpW _ _ t18
theorem s98 x:u3g x=t18 u3g x:=zW t62 411 Tryz.f411 5 111 x (by kernel_rfl)
def t9t (x:p93):Option r2q:=((u0x x.1).bind fun y1=>((((u0o (x.2.2.1,(0,6400))).bind fun y2=>(bif (!y2) then (some true) else ((u0o (x.2.1,(0,(IntKind.i64.wrap ((x.1.1.length:Int) - (1:Int)))))).bind fun y3=>(bif (!y3) then (some true) else ((t0a x.1).bind fun y4=>(some (!y4))))))):Option Bool).bind fun j5=>(bif j5 then (some (y1,false)) else ((u3g (x.2.1,(x.2.2.1,(x.2.2.2,(x.1,((([] :List ByteArray),([] :List p0x.den)),(y1,0))))))).bind fun r16=>match r16 with | .inl o17=>(some (o17.2,true)) | .inr z18=>(some z18)))))
theorem r25:u52=t9t:=zC 411 Tryz.f411 rfl Tryz.func411 fun x=>by kernel_rfl
def t3m(x:Int):Option ByteArray:=zK 412 x
def q2c (x:Int):Option ByteArray:=(some (y7g ([(IntKind.u8.wrap x)] :List Int)))
theorem r1o:t3m=q2c:=zC 412 Tryz.f412 rfl Tryz.func412 fun x=>by kernel_rfl
def t3l(x:p8d):Option r2q:=zK 432 x
def s5h (x:p8d):Option r2q:=((u4t x.2.1).bind fun y1=>((t3m x.2.2).bind fun y2=>((u52 (x.1,(y1,(0,y2)))).bind fun y3=>(some y3))))
theorem r7c:t3l=s5h:=zC 432 Tryz.f432 rfl Tryz.func432 fun x=>by kernel_rfl
def t7i(x:p4z):Option r2q:=zK 430 x
def s5g (x:p4z):Option r2q:=((u5z (x.1,x.2.1)).bind fun y1=>(((bif (!y1.2.2) then (some true) else (bif (z7o x.2.2 (⟨#[]⟩:ByteArray)) then (some true) else (bif (decide ((x.2.2.size:Int) >(3008:Int))) then (some true) else ((t0y (x.1,x.2.1)).bind fun y2=>(some (decide (y2≥255))))))):Option Bool).bind fun j3=>(bif j3 then ((u0x x.1).bind fun y4=>(some (y4,false))) else ((u1a (x.2.2.size:Int)).bind fun y5=>(bif (decide (y5.size+x.2.2.size≤140737488355328)) then (bif (decide (((y5++x.2.2).size:Int) >(IntKind.i64.wrap ((3008:Int) - y1.2.1)))) then ((u0x x.1).bind fun y6=>(some (y6,false))) else ((u4t x.2.1).bind fun y7=>((u52 (x.1,((IntKind.i64.wrap (y7+1)),(y1.2.1,(y5++x.2.2))))).bind fun y8=>(some y8)))) else none)))))
theorem r7b:t7i=s5g:=zC 430 Tryz.f430 rfl Tryz.func430 fun x=>by kernel_rfl
def t6l(x:p4z):Option r2q:=zK 463 x
def r06 (x:p4z):Option r2q:=((t7i x).bind fun y1=>(bif (!y1.2) then (some (y1.1,false)) else ((u4u y1.1).bind fun y2=>((t0y (x.1,x.2.1)).bind fun y3=>((t3l (y2,(x.2.1,(IntKind.i64.wrap (y3+1))))).bind fun y4=>((u4u y4.1).bind fun y5=>(some (y5,y4.2))))))))
theorem q3e:t6l=r06:=zC 463 Tryz.f463 rfl Tryz.func463 fun x=>by kernel_rfl
def t9f(x:p8a):Option r2q:=zK 415 x
def u60(g:Z85→Option (p9u ⊕ Unit))(x:Z85):Option (p9u ⊕ Unit):=(((bif (decide (x.2.2.2.2.2<(x.1.length:Int))) then (some x.2.2.2.2.1) else (some false)):Option Bool).bind fun j4=>(bif j4 then (bif (y4p x.2.2.2.2.2 x.1.length) then ((t6l (x.2.2.2.1,(x.2.2.1,(rdL Ty.str x.1 (x.2.2.2.2.2).toNat)))).bind fun y5=>(g (x.1,(x.2.1,(x.2.2.1,(y5.1,(y5.2,(IntKind.i64.wrap (x.2.2.2.2.2+1))))))))) else none) else (some (.inl (x.2.1,(x.2.2.2.1,x.2.2.2.2.1))))))
def u7h:=lpW _ _ u60
theorem t5z x:u7h x=u60 u7h x:=zW s3g 415 Tryz.f415 5 42 x (by kernel_rfl)
def s8i (x:p8a):Option r2q:=((u85 x.1).bind fun y1=>((t3l (x.1,((IntKind.i64.wrap ((1:Int) - y1)),0))).bind fun y2=>((u4u y2.1).bind fun y3=>((u7h (x.2,((([] :List ByteArray),([] :List p0x.den)),((IntKind.i64.wrap ((1:Int) - y1)),(y3,(y2.2,0)))))).bind fun r6=>match r6 with | .inl o7=>(some o7.2) | .inr z8=>none))))
theorem r9y:t9f=s8i:=zC 415 Tryz.f415 rfl Tryz.func415 fun x=>by kernel_rfl
def t9g(x:t7v):Option r2q:=zK 416 x
def s8j (x:t7v):Option r2q:=((t01 (x,0)).bind fun y1=>((t3m (IntKind.i64.wrap (y1+1))).bind fun y2=>((u52 (x,(0,(0,y2)))).bind fun y3=>(some y3))))
theorem r9z:t9g=s8j:=zC 416 Tryz.f416 rfl Tryz.func416 fun x=>by kernel_rfl
def t5v(x:p8a):Option r2q:=zK 343 x
def s2l (x:p8a):Option r2q:=((t8i x.1).bind fun y1=>(bif (!y1) then ((u0x x.1).bind fun y2=>(some (y2,false))) else ((t9f x).bind fun y3=>(bif (!y3.2) then ((u0x x.1).bind fun y4=>(some (y4,false))) else ((t9g y3.1).bind fun y5=>(bif (!y5.2) then ((u0x x.1).bind fun y6=>(some (y6,false))) else ((u4u y5.1).bind fun y7=>(some (y7,true)))))))))
theorem r5g:t5v=s2l:=zC 343 Tryz.f343 rfl Tryz.func343 fun x=>by kernel_rfl
def t3o(x:t7v):Option r2q:=zK 226 x
def s5m (x:t7v):Option r2q:=((t4z x).bind fun y1=>((u2g (4,((0,(0,(0,(0,(([] :List r8w.den),(([] :List u13.den),(false,(⟨#[]⟩:ByteArray)))))))),((⟨#[]⟩:ByteArray),(false,y1.1))))).bind fun y2=>(((bif (!y1.2) then (some true) else (some (!y2.2))):Option Bool).bind fun j3=>(bif j3 then ((u0x x).bind fun y4=>(some (y4,false))) else ((t5v (x,([y2.1] :List ByteArray))).bind fun y5=>(some y5))))))
theorem r7h:t3o=s5m:=zC 226 Tryz.f226 rfl Tryz.func226 fun x=>by kernel_rfl
def u5y(x:Z44):Option Z36:=zK 90 x
def s42 (x:Z44):Option Z36:=((t9i x).bind fun y1=>((t3o x.2).bind fun y2=>(bif y2.2 then (some ((y1.1,y2.1),y2.2)) else (some (y1,y2.2)))))
theorem r6y:u5y=s42:=zC 90 Tryz.f90 rfl Tryz.func90 fun x=>by kernel_rfl
def u1l(x:o0n):Option p8h:=zK 245 x
def s8d (x:o0n):Option p8h:=((u1u (x.1,(x.2.length:Int))).bind fun y1=>(bif (y4p y1.1 x.2.length) then (some ((rdL Ty.str x.2 (y1.1).toNat),y1.2)) else none))
theorem r9u:u1l=s8d:=zC 245 Tryz.f245 rfl Tryz.func245 fun x=>by kernel_rfl
def u1w(x:p6q):Option (Bool × q0k):=zK 247 x
def s8c (x:p6q):Option (Bool × q0k):=((u1u x).bind fun y1=>(some ((decide (y1.1=0)),y1.2)))
theorem r9t:u1w=s8c:=zC 247 Tryz.f247 rfl Tryz.func247 fun x=>by kernel_rfl
def u37(x:q0k):Option p8h:=zK 351 x
def r07 (x:q0k):Option p8h:=((u1l (x,([(⟨#[97]⟩:ByteArray),(⟨#[98]⟩:ByteArray),(⟨#[99]⟩:ByteArray),(⟨#[100]⟩:ByteArray),(⟨#[97,98]⟩:ByteArray)] :List ByteArray))).bind fun y1=>(some y1))
theorem q3f:u37=r07:=zC 351 Tryz.f351 rfl Tryz.func351 fun x=>by kernel_rfl
def u55(x:q0k):Option p95:=zK 322 x
def s5j (x:q0k):Option p95:=((u37 x).bind fun y1=>((u1l (y1.2,([(⟨#[111,110,101]⟩:ByteArray),(⟨#[116,119,111]⟩:ByteArray),(⟨#[]⟩:ByteArray),(⟨#[120,0]⟩:ByteArray)] :List ByteArray))).bind fun y2=>((u1w (y2.2,5)).bind fun y3=>(bif y3.1 then (some ((y1.1,((⟨#[]⟩:ByteArray),true)),y3.2)) else (some ((y1.1,(y2.1,false)),y3.2))))))
theorem r7e:u55=s5j:=zC 322 Tryz.f322 rfl Tryz.func322 fun x=>by kernel_rfl
def t15(x:Z87):Option Z96:=zK 419 x
def u76(g:Z14→Option (Z15 ⊕ Z96))(x:Z14):Option (Z15 ⊕ Z96):=(bif (decide (x.2.2.2.2<(x.1.2.2.2.2.1.length:Int))) then (bif (y4p x.2.2.2.2 x.1.2.2.2.2.1.length) then (bif (z7o (rdL r8w x.1.2.2.2.2.1 (x.2.2.2.2).toNat).1 x.2.1.1 && (z7o (rdL r8w x.1.2.2.2.2.1 (x.2.2.2.2).toNat).2 x.2.1.2 && true)) then (some (.inr (x.2.2.2.1,true))) else (g (x.1,(x.2.1,(x.2.2.1,(x.2.2.2.1,(IntKind.i64.wrap (x.2.2.2.2+1)))))))) else none) else (some (.inl (x.1,(x.2.1,(x.2.2.1,x.2.2.2.1))))))
def u41:=lpW _ _ u76
theorem t8w x:u41 x=u76 u41 x:=zW t8e 419 Tryz.f419 5 51 x (by kernel_rfl)
def s2j (x:Z87):Option Z96:=((u0y x.1).bind fun y1=>((((u4a x.1).bind fun y2=>(bif (!y2) then (some true) else (bif (!decide (x.1.2.1=1)) then (some true) else ((t0z x.2).bind fun y3=>(some (!y3)))))):Option Bool).bind fun j4=>(bif j4 then (some (y1,false)) else ((u41 (x.1,(x.2,((0,(0,(0,(0,(([] :List r8w.den),(([] :List u13.den),(false,(⟨#[]⟩:ByteArray)))))))),(y1,0))))).bind fun r5=>match r5 with | .inl o6=>(bif (decide ((o6.1.2.2.2.2.1.length:Int)≥(8:Int))) then (some (o6.2.2.2,false)) else (bif (Nat.ble (o6.2.2.2.2.2.2.2.1.length+([o6.2.1] :List r8w.den).length) z7w) then (some ((o6.2.2.2.1,(o6.2.2.2.2.1,(o6.2.2.2.2.2.1,(o6.2.2.2.2.2.2.1,((o6.2.2.2.2.2.2.2.1++([o6.2.1] :List r8w.den)),o6.2.2.2.2.2.2.2.2))))),true)) else none)) | .inr z7=>(some z7)))))
theorem r5e:t15=s2j:=zC 419 Tryz.f419 rfl Tryz.func419 fun x=>by kernel_rfl
def t6k(x:Z77):Option r2k:=zK 420 x
def u8k(g:Z70→Option (Z79 ⊕ r2k))(x:Z70):Option (Z79 ⊕ r2k):=(bif (decide (x.2.2.2<(x.2.2.1.2.2.2.2.2.1.length:Int))) then (bif (y4p x.2.2.2 x.2.2.1.2.2.2.2.2.1.length) then (bif (z7o (rdL u13 x.2.2.1.2.2.2.2.2.1 (x.2.2.2).toNat).1 x.2.1) then (bif (y4p x.2.2.2 x.2.2.1.2.2.2.2.2.1.length) then (bif (rdL u13 x.2.2.1.2.2.2.2.2.1 (x.2.2.2).toNat).2.2 then (some (.inr ((⟨#[]⟩:ByteArray),false))) else (bif (y4p x.2.2.2 x.2.2.1.2.2.2.2.2.1.length) then (some (.inr ((rdL u13 x.2.2.1.2.2.2.2.2.1 (x.2.2.2).toNat).2.1,true))) else none)) else none) else (g (x.1,(x.2.1,(x.2.2.1,(IntKind.i64.wrap (x.2.2.2+1))))))) else none) else (some (.inl (x.1,(x.2.1,x.2.2.1)))))
def u8r:=lpW _ _ u8k
theorem s6w x:u8r x=u8k u8r x:=zW s52 420 Tryz.f420 2 43 x (by kernel_rfl)
def r0x (x:Z77):Option r2k:=((u8r (x.2.1,(x.2.2,(x.1,0)))).bind fun r1=>match r1 with | .inl o2=>((t0e (o2.1,(o2.2.1,o2.2.2.2.2.1))).bind fun y3=>(some y3)) | .inr z4=>(some z4))
theorem q25:t6k=r0x:=zC 420 Tryz.f420 rfl Tryz.func420 fun x=>by kernel_rfl
def t0c(x:Z52):Option Z48:=zK 350 x
def r0u (x:Z52):Option Z48:=((u0n x.1).bind fun y1=>((u36 (x.1,x.2.1)).bind fun y2=>(bif (decide (y2<0)) then (some (y1,((⟨#[]⟩:ByteArray),(false,1)))) else ((u38 x.2.2).bind fun y3=>(bif (!y3) then (some (y1,((⟨#[]⟩:ByteArray),(false,2)))) else (bif (y4p y2 x.1.2.length) then ((t15 ((rdL u0a x.1.2 (y2).toNat),(x.2.2,x.2.2))).bind fun y4=>(bif (!y4.2) then (some (y1,((⟨#[]⟩:ByteArray),(false,3)))) else (bif (y4p y2 y1.2.length) then ((t6k (y4.1,(x.1.1.1,x.2.2))).bind fun y5=>(some ((y1.1,(y1.2.set (y2).toNat y4.1)),(y5.1,(y5.2,0))))) else none))) else none))))))
theorem q22:t0c=r0u:=zC 350 Tryz.f350 rfl Tryz.func350 fun x=>by kernel_rfl
def t44(x:p89):Option r8p:=zK 153 x
def t1s(g:Z88→Option (Z93 ⊕ Unit))(x:Z88):Option (Z93 ⊕ Unit):=(bif (decide (x.2.2.2.2.2.2<(x.2.2.1.length:Int))) then (bif (y4p x.2.2.2.2.2.2 x.2.2.1.length) then (bif (y3c (rdL Ty.str x.2.2.1 (x.2.2.2.2.2.2).toNat) x.2.2.2.2.1) then (bif (y4p x.2.2.2.2.2.2 x.2.2.1.length) then (bif (Nat.ble (x.2.2.2.2.2.1.length+([(rdL Ty.str x.2.2.1 (x.2.2.2.2.2.2).toNat)] :List ByteArray).length) z7w) then (g (x.1,(x.2.1,(x.2.2.1,(x.2.2.2.1,(x.2.2.2.2.1,((x.2.2.2.2.2.1++([(rdL Ty.str x.2.2.1 (x.2.2.2.2.2.2).toNat)] :List ByteArray)),(IntKind.i64.wrap (x.2.2.2.2.2.2+1))))))))) else none) else none) else (g (x.1,(x.2.1,(x.2.2.1,(x.2.2.2.1,(x.2.2.2.2.1,(x.2.2.2.2.2.1,(IntKind.i64.wrap (x.2.2.2.2.2.2+1)))))))))) else none) else (some (.inl (x.1,(x.2.1,(x.2.2.1,(x.2.2.2.1,(x.2.2.2.2.1,x.2.2.2.2.2.1))))))))
def u7i:=lpW _ _ t1s
theorem s4b x:u7i x=t1s u7i x:=zW s3i 153 Tryz.f153 9 72 x (by kernel_rfl)
def u9x(g:Z88→Option (p9x ⊕ Unit))(x:Z88):Option (p9x ⊕ Unit):=(bif (decide (x.2.2.2.2.2.2<(x.2.2.1.length:Int))) then (bif (y4p x.2.2.2.2.2.2 x.2.2.1.length) then (bif (!(y3c (rdL Ty.str x.2.2.1 (x.2.2.2.2.2.2).toNat) x.2.2.2.2.1 || z7o (rdL Ty.str x.2.2.1 (x.2.2.2.2.2.2).toNat) x.2.2.2.2.1)) then (bif (y4p x.2.2.2.2.2.2 x.2.2.1.length) then (bif (Nat.ble (x.2.2.2.2.2.1.length+([(rdL Ty.str x.2.2.1 (x.2.2.2.2.2.2).toNat)] :List ByteArray).length) z7w) then (g (x.1,(x.2.1,(x.2.2.1,(x.2.2.2.1,(x.2.2.2.2.1,((x.2.2.2.2.2.1++([(rdL Ty.str x.2.2.1 (x.2.2.2.2.2.2).toNat)] :List ByteArray)),(IntKind.i64.wrap (x.2.2.2.2.2.2+1))))))))) else none) else none) else (g (x.1,(x.2.1,(x.2.2.1,(x.2.2.2.1,(x.2.2.2.2.1,(x.2.2.2.2.2.1,(IntKind.i64.wrap (x.2.2.2.2.2.2+1)))))))))) else none) else (some (.inl (x.1,(x.2.1,(x.2.2.2.1,x.2.2.2.2.2.1))))))
def u5s:=lpW _ _ u9x
theorem s1d x:u5s x=u9x u5s x:=zW s0m 153 Tryz.f153 15 72 x (by kernel_rfl)
def t1r(g:p90→Option (r8p ⊕ Unit))(x:p90):Option (r8p ⊕ Unit):=(bif (decide (x.2.2.2<(x.1.length:Int))) then (bif (y4p x.2.2.2 x.1.length) then ((t4y (x.2.1,(rdL u0g x.1 (x.2.2.2).toNat).1)).bind fun y1=>(bif (!y1) then (g (x.1,(x.2.1,(x.2.2.1,(IntKind.i64.wrap (x.2.2.2+1)))))) else ((u7i (x.1,(x.2.1,(x.2.2.1,(x.2.2.2,((rdL u0g x.1 (x.2.2.2).toNat).1,(([] :List ByteArray),0))))))).bind fun r2=>match r2 with | .inl o3=>(bif (Nat.ble (o3.2.2.2.2.2.length+([o3.2.2.2.2.1] :List ByteArray).length) z7w) then ((u5s (o3.1,(o3.2.1,(o3.2.2.1,(o3.2.2.2.1,(o3.2.2.2.2.1,((o3.2.2.2.2.2++([o3.2.2.2.2.1] :List ByteArray)),0))))))).bind fun r4=>match r4 with | .inl o5=>(g (o5.1,(o5.2.1,(o5.2.2.2,(IntKind.i64.wrap (o5.2.2.1+1)))))) | .inr z6=>(some (.inr ()))) else none) | .inr z7=>(some (.inr ()))))) else none) else (some (.inl x.2.2.1)))
def t11:=lpW _ _ t1r
theorem s4a x:t11 x=t1r t11 x:=zW s3h 153 Tryz.f153 3 72 x (by kernel_rfl)
def s8k (x:p89):Option r8p:=((t11 (x.1,(x.2,(([] :List ByteArray),0)))).bind fun r8=>match r8 with | .inl o9=>(some o9) | .inr z10=>none)
theorem r90:t44=s8k:=zC 153 Tryz.f153 rfl Tryz.func153 fun x=>by kernel_rfl
def t89(x:Z67):Option p22:=zK 421 x
def t1h(g:Z53→Option (Z57 ⊕ Unit))(x:Z53):Option (Z57 ⊕ Unit):=(bif (decide (x.2.2.2.2<(x.2.1.2.2.2.2.2.1.length:Int))) then (bif (y4p x.2.2.2.2 x.2.1.2.2.2.2.2.1.length) then (bif (Nat.ble (x.2.2.2.1.length+([((rdL u13 x.2.1.2.2.2.2.2.1 (x.2.2.2.2).toNat).1,((⟨#[]⟩:ByteArray),(false,0)))] :List u0g.den).length) z7w) then (g (x.1,(x.2.1,(x.2.2.1,((x.2.2.2.1++([((rdL u13 x.2.1.2.2.2.2.2.1 (x.2.2.2.2).toNat).1,((⟨#[]⟩:ByteArray),(false,0)))] :List u0g.den)),(IntKind.i64.wrap (x.2.2.2.2+1))))))) else none) else none) else (some (.inl (x.1,(x.2.1,(x.2.2.1,x.2.2.2.1))))))
def u7a:=lpW _ _ t1h
theorem s3y x:u7a x=t1h u7a x:=zW s23 421 Tryz.f421 3 65 x (by kernel_rfl)
def t1i(g:Z58→Option p6o)(x:Z58):Option p6o:=(bif (decide (x.2.2.2.2<(x.2.2.2.1.length:Int))) then (bif (y4p x.2.2.2.2 x.2.2.2.1.length) then ((t6k (x.2.1,(x.1,(rdL Ty.str x.2.2.2.1 (x.2.2.2.2).toNat)))).bind fun y4=>(bif y4.2 then (bif (y4p x.2.2.2.2 x.2.2.2.1.length) then (bif (Nat.ble (x.2.2.1.length+([((rdL Ty.str x.2.2.2.1 (x.2.2.2.2).toNat),y4.1)] :List r8w.den).length) z7w) then (g (x.1,(x.2.1,((x.2.2.1++([((rdL Ty.str x.2.2.2.1 (x.2.2.2.2).toNat),y4.1)] :List r8w.den)),(x.2.2.2.1,(IntKind.i64.wrap (x.2.2.2.2+1))))))) else none) else none) else (g (x.1,(x.2.1,(x.2.2.1,(x.2.2.2.1,(IntKind.i64.wrap (x.2.2.2.2+1))))))))) else none) else (some (.inl x.2.2.1)))
def t1v:=lpW _ _ t1i
theorem s3z x:t1v x=t1i t1v x:=zW s24 421 Tryz.f421 9 65 x (by kernel_rfl)
def s7x (x:Z67):Option p22:=(bif (Nat.ble (([] :List u0g.den).length+x.2.1.length) z7w) then ((u7a (x.2.1,(x.1,(x.2.2,((([] :List u0g.den)++x.2.1),0))))).bind fun r1=>match r1 with | .inl o2=>((t44 (o2.2.2.2,o2.2.2.1)).bind fun y3=>((t1v (o2.1,(o2.2.1,(([] :List r8w.den),(y3,0))))).bind fun r5=>match r5 with | .inl o6=>(some o6) | .inr z7=>none)) | .inr z8=>none) else none)
theorem r9e:t89=s7x:=zC 421 Tryz.f421 rfl Tryz.func421 fun x=>by kernel_rfl
def u51(x:Z46):Option Z50:=zK 352 x
def s49 (x:Z46):Option Z50:=((u0n x.1).bind fun y1=>((u36 (x.1,x.2.1)).bind fun y2=>(bif (decide (y2<0)) then (some (y1,(([] :List r8w.den),1))) else ((t0z x.2.2).bind fun y3=>(bif (!y3) then (some (y1,(([] :List r8w.den),2))) else (bif (y4p y2 x.1.2.length) then ((t15 ((rdL u0a x.1.2 (y2).toNat),x.2.2)).bind fun y4=>(bif (!y4.2) then (some (y1,(([] :List r8w.den),3))) else (bif (y4p y2 y1.2.length) then ((t89 (y4.1,(x.1.1.1,x.2.2))).bind fun y5=>(some ((y1.1,(y1.2.set (y2).toNat y4.1)),(y5,0)))) else none))) else none))))))
theorem r65:u51=s49:=zC 352 Tryz.f352 rfl Tryz.func352 fun x=>by kernel_rfl
def u54(x:q0k):Option o0f:=zK 353 x
def s5i (x:q0k):Option o0f:=((u37 x).bind fun y1=>((u1w (y1.2,2)).bind fun y2=>(bif y2.1 then (some ((y1.1,y1.1),y2.2)) else ((u37 y2.2).bind fun y3=>(bif (y3c y3.1 y1.1) then (some ((y3.1,y1.1),y3.2)) else (some ((y1.1,y3.1),y3.2)))))))
theorem r7d:u54=s5i:=zC 353 Tryz.f353 rfl Tryz.func353 fun x=>by kernel_rfl
def u0w(x:Z60):Option Z62:=zK 424 x
def t2y(g:Z35→Option (Z45 ⊕ Unit))(x:Z35):Option (Z45 ⊕ Unit):=(bif (decide (x.2.2.2<(x.1.2.length:Int))) then (bif (y4p x.2.2.2 x.1.2.length) then (bif (!decide ((rdL u0a x.1.2 (x.2.2.2).toNat).1=x.2.1)) then (bif (y4p x.2.2.2 x.1.2.length) then (bif (Nat.ble (x.2.2.1.length+([(rdL u0a x.1.2 (x.2.2.2).toNat)] :List u0a.den).length) z7w) then (g (x.1,(x.2.1,((x.2.2.1++([(rdL u0a x.1.2 (x.2.2.2).toNat)] :List u0a.den)),(IntKind.i64.wrap (x.2.2.2+1)))))) else none) else none) else (g (x.1,(x.2.1,(x.2.2.1,(IntKind.i64.wrap (x.2.2.2+1))))))) else none) else (some (.inl (x.1,x.2.2.1))))
def u8u:=lpW _ _ t2y
theorem s6z x:u8u x=t2y u8u x:=zW s57 424 Tryz.f424 2 49 x (by kernel_rfl)
def r1b (x:Z60):Option Z62:=((u8u (x.1,(x.2,(([] :List u0a.den),0)))).bind fun r1=>match r1 with | .inl o2=>((t0f (o2.1.1,o2.2)).bind fun y3=>(some (y3,o2.2))) | .inr z4=>none)
theorem q3j:u0w=r1b:=zC 424 Tryz.f424 rfl Tryz.func424 fun x=>by kernel_rfl
def t8j(x:o0t):Option Bool:=zK 159 x
def t4i(g:p8b→Option (p8e ⊕ Bool))(x:p8b):Option (p8e ⊕ Bool):=(bif (decide (x.2.2.2<(x.2.1.length:Int))) then (bif (y4p x.2.2.1 x.1.length) then (bif (y4p x.2.2.2 x.2.1.length) then (bif (z7o (rdL u13 x.1 (x.2.2.1).toNat).1 (rdL u13 x.2.1 (x.2.2.2).toNat).1) then (some (.inr true)) else (g (x.1,(x.2.1,(x.2.2.1,(IntKind.i64.wrap (x.2.2.2+1))))))) else none) else none) else (some (.inl (x.1,(x.2.1,x.2.2.1)))))
def t0q:=lpW _ _ t4i
theorem s9i x:t0q x=t4i t0q x:=zW s85 159 Tryz.f159 5 30 x (by kernel_rfl)
def t4h(g:p8e→Option r4v)(x:p8e):Option r4v:=(bif (decide (x.2.2<(x.1.length:Int))) then ((t0q (x.1,(x.2.1,(x.2.2,0)))).bind fun r1=>match r1 with | .inl o2=>(g (o2.1,(o2.2.1,(IntKind.i64.wrap (o2.2.2+1))))) | .inr z3=>(some (.inr z3))) else (some (.inl ())))
def t4p:=lpW _ _ t4h
theorem s9h x:t4p x=t4h t4p x:=zW s84 159 Tryz.f159 2 30 x (by kernel_rfl)
def r35 (x:o0t):Option Bool:=((t4p (x.1,(x.2,0))).bind fun r4=>match r4 with | .inl o5=>(some false) | .inr z6=>(some z6))
theorem q49:t8j=r35:=zC 159 Tryz.f159 rfl Tryz.func159 fun x=>by kernel_rfl
def t88(x:Z76):Option Bool:=zK 53 x
def t1f(g:Z68→Option r4v)(x:Z68):Option r4v:=(bif (decide (x.2.2<(x.1.length:Int))) then (bif (y4p x.2.2 x.1.length) then (((bif (!decide ((rdL u0a x.1 (x.2.2).toNat).1=x.2.1.1)) then (bif (decide ((rdL u0a x.1 (x.2.2).toNat).2.1=2)) then ((t8j ((rdL u0a x.1 (x.2.2).toNat).2.2.2.2.2.1,x.2.1.2.2.2.2.2.1)).bind fun y1=>(some y1)) else (bif (decide ((rdL u0a x.1 (x.2.2).toNat).2.1=3)) then (bif (decide ((rdL u0a x.1 (x.2.2).toNat).2.2.2.1 >x.2.1.2.2.1)) then ((t8j ((rdL u0a x.1 (x.2.2).toNat).2.2.2.2.2.1,x.2.1.2.2.2.2.2.1)).bind fun y2=>(some y2)) else (some false)) else (some false))) else (some false)):Option Bool).bind fun j3=>(bif j3 then (some (.inr true)) else (g (x.1,(x.2.1,(IntKind.i64.wrap (x.2.2+1))))))) else none) else (some (.inl ())))
def u67:=lpW _ _ t1f
theorem s3v x:u67 x=t1f u67 x:=zW s2z 53 Tryz.f53 2 46 x (by kernel_rfl)
def s7s (x:Z76):Option Bool:=((u67 (x.2,(x.1,0))).bind fun r4=>match r4 with | .inl o5=>(some false) | .inr z6=>(some z6))
theorem r89:t88=s7s:=zC 53 Tryz.f53 rfl Tryz.func53 fun x=>by kernel_rfl
def s11(x:Z76):Option Bool:=zK 160 x
def t6c(g:Z68→Option r4v)(x:Z68):Option r4v:=(bif (decide (x.2.2<(x.1.length:Int))) then (((bif (y4p x.2.2 x.1.length) then (bif (decide ((rdL u0a x.1 (x.2.2).toNat).2.1=2)) then (bif (y4p x.2.2 x.1.length) then ((u11 ((rdL u0a x.1 (x.2.2).toNat),x.2.1)).bind fun y1=>(some y1)) else none) else (bif (y4p x.2.2 x.1.length) then (bif (decide ((rdL u0a x.1 (x.2.2).toNat).2.1=3)) then (bif (y4p x.2.2 x.1.length) then ((u11 ((rdL u0a x.1 (x.2.2).toNat),x.2.1)).bind fun y2=>(some y2)) else none) else (some false)) else none)) else none):Option Bool).bind fun j3=>(bif j3 then (some (.inr true)) else (g (x.1,(x.2.1,(IntKind.i64.wrap (x.2.2+1))))))) else (some (.inl ())))
def t22:=lpW _ _ t6c
theorem r2i x:t22 x=t6c t22 x:=zW r1t 160 Tryz.f160 2 34 x (by kernel_rfl)
def r6a (x:Z76):Option Bool:=((t22 (x.2,(x.1,0))).bind fun r4=>match r4 with | .inl o5=>(some false) | .inr z6=>(some z6))
theorem q7g:s11=r6a:=zC 160 Tryz.f160 rfl Tryz.func160 fun x=>by kernel_rfl
def t6j(x:Z76):Option Bool:=zK 54 x
def u6y(g:Z23→Option (Z68 ⊕ Bool))(x:Z23):Option (Z68 ⊕ Bool):=(((bif (decide (x.2.2.2.2<(x.1.length:Int))) then (bif (decide (x.2.2.2.1.2.1=2)) then ((u11 (x.2.2.2.1,x.2.1)).bind fun y10=>(some y10)) else (some false)) else (some false)):Option Bool).bind fun j11=>(bif j11 then (bif (y4p x.2.2.2.2 x.1.length) then (((bif (decide ((rdL u0a x.1 (x.2.2.2.2).toNat).2.1=2)) then (bif (!decide ((rdL u0a x.1 (x.2.2.2.2).toNat).1=x.2.1.1)) then ((u11 ((rdL u0a x.1 (x.2.2.2.2).toNat),x.2.2.2.1)).bind fun y12=>(some y12)) else (some false)) else (some false)):Option Bool).bind fun j13=>(bif j13 then (some (.inr true)) else (g (x.1,(x.2.1,(x.2.2.1,(x.2.2.2.1,(IntKind.i64.wrap (x.2.2.2.2+1))))))))) else none) else (some (.inl (x.1,(x.2.1,x.2.2.1))))))
def u4q:=lpW _ _ u6y
theorem t5y x:u4q x=u6y u4q x:=zW s20 54 Tryz.f54 12 92 x (by kernel_rfl)
def t2t(g:Z68→Option r4v)(x:Z68):Option r4v:=(bif (decide (x.2.2<(x.1.length:Int))) then (bif (y4p x.2.2 x.1.length) then (((bif (decide ((rdL u0a x.1 (x.2.2).toNat).2.1=2)) then (bif (rdL u0a x.1 (x.2.2).toNat).2.2.2.2.2.2.1 then ((u11 (x.2.1,(rdL u0a x.1 (x.2.2).toNat))).bind fun y4=>(some y4)) else (some false)) else (bif (decide ((rdL u0a x.1 (x.2.2).toNat).2.1=3)) then (bif (rdL u0a x.1 (x.2.2).toNat).2.2.2.2.2.2.1 then ((u11 (x.2.1,(rdL u0a x.1 (x.2.2).toNat))).bind fun y5=>(some y5)) else (some false)) else (some false))):Option Bool).bind fun j6=>(bif j6 then (some (.inr true)) else (((bif (decide ((rdL u0a x.1 (x.2.2).toNat).2.1=2)) then ((u11 ((rdL u0a x.1 (x.2.2).toNat),x.2.1)).bind fun y7=>(bif y7 then ((u11 (x.2.1,(rdL u0a x.1 (x.2.2).toNat))).bind fun y8=>(some y8)) else (some false))) else (some false)):Option Bool).bind fun j9=>(bif j9 then (some (.inr true)) else ((u4q (x.1,(x.2.1,(x.2.2,((rdL u0a x.1 (x.2.2).toNat),0))))).bind fun r14=>match r14 with | .inl o15=>(g (o15.1,(o15.2.1,(IntKind.i64.wrap (o15.2.2+1))))) | .inr z16=>(some (.inr z16))))))) else none) else (some (.inl ())))
def u8p:=lpW _ _ t2t
theorem s6s x:u8p x=t2t u8p x:=zW s5y 54 Tryz.f54 4 92 x (by kernel_rfl)
def r0r (x:Z76):Option Bool:=((((s11 x).bind fun y1=>(bif y1 then ((t5h x).bind fun y2=>(some y2)) else (some false))):Option Bool).bind fun j3=>(bif j3 then (some true) else ((u8p (x.2,(x.1,0))).bind fun r17=>match r17 with | .inl o18=>(some false) | .inr z19=>(some z19))))
theorem q2z:t6j=r0r:=zC 54 Tryz.f54 rfl Tryz.func54 fun x=>by kernel_rfl
def t47(x:Z90):Option Bool:=zK 406 x
def s8r (x:Z90):Option Bool:=(((bif (decide ((x.2.1.length:Int)≥(12:Int))) then (some true) else (bif (decide ((x.1.length:Int) >(100:Int))) then (some true) else (some (decide (x.2.2.2.1≥9999))))):Option Bool).bind fun j1=>(some j1))
theorem r97:t47=s8r:=zC 406 Tryz.f406 rfl Tryz.func406 fun x=>by kernel_rfl
def t0h(x:Z90):Option r8k:=zK 467 x
def r1a (x:Z90):Option r8k:=(bif (Nat.ble (([] :List u0a.den).length+x.2.1.length) z7w) then (bif (Nat.ble ((([] :List u0a.den)++x.2.1).length+x.2.2.1.length) z7w) then (some ((([] :List u0a.den)++x.2.1)++x.2.2.1)) else none) else none)
theorem q3i:t0h=r1a:=zC 467 Tryz.f467 rfl Tryz.func467 fun x=>by kernel_rfl
def t8h(x:Z60):Option Int:=zK 465 x
def r31 (x:Z60):Option Int:=((u36 x).bind fun y1=>(bif (decide (y1<0)) then (some (1:Int)) else ((t0h x.1.1).bind fun y2=>(bif (y4p y1 x.1.2.length) then ((t88 ((rdL u0a x.1.2 (y1).toNat),y2)).bind fun y3=>(bif y3 then (some (4:Int)) else (bif (y4p y1 x.1.2.length) then ((t6j ((rdL u0a x.1.2 (y1).toNat),y2)).bind fun y4=>(bif y4 then (some (5:Int)) else ((t47 x.1.1).bind fun y5=>(bif y5 then (some (3:Int)) else (some (0:Int)))))) else none))) else none))))
theorem q45:t8h=r31:=zC 465 Tryz.f465 rfl Tryz.func465 fun x=>by kernel_rfl
def s1z(x:Z60):Option Z8:=zK 422 x
def r0q (x:Z60):Option Z8:=((u0n x.1).bind fun y1=>((t8h x).bind fun y2=>(bif (decide (y2=1)) then (some (y1,((0,((0,(0,(0,(0,(([] :List r8w.den),(([] :List u13.den),(false,(⟨#[]⟩:ByteArray)))))))),((⟨#[]⟩:ByteArray),(false,(([] :List u0g.den),(([] :List u0a.den),(([] :List u0a.den),(0,0)))))))),y2))) else (bif (!decide (y2=0)) then ((u0w (y1,x.2)).bind fun y3=>(some (y3,((0,((0,(0,(0,(0,(([] :List r8w.den),(([] :List u13.den),(false,(⟨#[]⟩:ByteArray)))))))),((⟨#[]⟩:ByteArray),(false,(([] :List u0g.den),(([] :List u0a.den),(([] :List u0a.den),(0,0)))))))),y2)))) else ((u36 x).bind fun y4=>(bif (y4p y4 x.1.2.length) then ((u39 (x.1.1,(rdL u0a x.1.2 (y4).toNat))).bind fun y5=>(bif (y4p (IntKind.i64.wrap ((y5.2.1.length:Int) - (1:Int))) y5.2.1.length) then ((u0y (rdL u0a y5.2.1 ((IntKind.i64.wrap ((y5.2.1.length:Int) - (1:Int)))).toNat)).bind fun y6=>((u0w ((y5,y1.2),x.2)).bind fun y7=>(some (y7,((1,(y6,((⟨#[]⟩:ByteArray),(false,(([] :List u0g.den),(([] :List u0a.den),(([] :List u0a.den),(0,0)))))))),0))))) else none)) else none))))))
theorem q2y:s1z=r0q:=zC 422 Tryz.f422 rfl Tryz.func422 fun x=>by kernel_rfl
def t5u(x:p4z):Option r2q:=zK 469 x
def s2i (x:p4z):Option r2q:=((((t8i x.1).bind fun y1=>(bif (!y1) then (some true) else ((u0o (x.2.1,(0,1))).bind fun y2=>(some (!y2))))):Option Bool).bind fun j3=>(bif j3 then ((u0x x.1).bind fun y4=>(some (y4,false))) else ((t6l x).bind fun y5=>(bif (!y5.2) then ((u0x x.1).bind fun y6=>(some (y6,false))) else (some (y5.1,true))))))
theorem r5d:t5u=s2i:=zC 469 Tryz.f469 rfl Tryz.func469 fun x=>by kernel_rfl
def t14(x:o0i):Option r2q:=zK 429 x
def s2d (x:o0i):Option r2q:=((u85 x.1).bind fun y1=>((t5u (x.1,(y1,x.2))).bind fun y2=>(some y2)))
theorem r48:t14=s2d:=zC 429 Tryz.f429 rfl Tryz.func429 fun x=>by kernel_rfl
def t03(x:Z6):Option Z37:=zK 423 x
def s8t (x:Z6):Option Z37:=((u2g x.2).bind fun y1=>(bif (!y1.2) then (some (false,x.1)) else ((t14 (x.1.2,y1.1)).bind fun y2=>(bif (!y2.2) then ((t3o x.1.2).bind fun y3=>(bif (!y3.2) then (some (false,x.1)) else ((t14 (y3.1,y1.1)).bind fun y4=>(bif y4.2 then (some (y4.2,(x.1.1,y4.1))) else (some (y4.2,x.1)))))) else (bif y2.2 then (some (y2.2,(x.1.1,y2.1))) else (some (y2.2,x.1)))))))
theorem r99:t03=s8t:=zC 423 Tryz.f423 rfl Tryz.func423 fun x=>by kernel_rfl
def u4v(x:Z38):Option Z39:=zK 354 x
def s2o (x:Z38):Option Z39:=((s1z (x.1.1,x.2)).bind fun y1=>(bif (decide (y1.2.2=0)) then ((t03 (x.1,y1.2.1)).bind fun y2=>(bif (!y2.1) then ((u0n y2.2.1).bind fun y3=>((u0w (y3,x.2)).bind fun y4=>(some (3,(y4,y2.2.2))))) else (some (y1.2.2,(y1.1,y2.2.2))))) else (some (y1.2.2,(y1.1,x.1.2)))))
theorem r5j:u4v=s2o:=zC 354 Tryz.f354 rfl Tryz.func354 fun x=>by kernel_rfl
def t3h(x:Z76):Option Bool:=zK 466 x
def u4y(g:Z21→Option (Z64 ⊕ Bool))(x:Z21):Option (Z64 ⊕ Bool):=(bif (decide (x.2.2.2.2.2<(x.1.length:Int))) then (((bif (y4p x.2.2.2.2.2 x.1.length) then (bif (decide ((rdL u0a x.1 (x.2.2.2.2.2).toNat).2.1=2)) then (bif (y4p x.2.2.2.2.2 x.1.length) then (bif (!decide ((rdL u0a x.1 (x.2.2.2.2.2).toNat).1=x.2.1.1)) then (bif (y4p x.2.2.2.2.2 x.1.length) then ((u11 (x.2.2.2.2.1,(rdL u0a x.1 (x.2.2.2.2.2).toNat))).bind fun y5=>(some y5)) else none) else (some false)) else none) else (some false)) else none):Option Bool).bind fun j6=>(bif j6 then (some (.inr true)) else (g (x.1,(x.2.1,(x.2.2.1,(x.2.2.2.1,(x.2.2.2.2.1,(IntKind.i64.wrap (x.2.2.2.2.2+1)))))))))) else (some (.inl (x.1,(x.2.1,(x.2.2.1,x.2.2.2.1))))))
def u3l:=lpW _ _ u4y
theorem t5l x:u3l x=u4y u3l x:=zW t5e 466 Tryz.f466 12 65 x (by kernel_rfl)
def u5g(g:Z64→Option r4v)(x:Z64):Option r4v:=(bif (decide (x.2.2.2<(x.1.length:Int))) then (bif (y4p x.2.2.2 x.1.length) then (((bif (!decide ((rdL u0a x.1 (x.2.2.2).toNat).2.1=2)) then (some true) else ((u11 (x.2.1,(rdL u0a x.1 (x.2.2.2).toNat))).bind fun y3=>(some (!y3)))):Option Bool).bind fun j4=>(bif j4 then (g (x.1,(x.2.1,(x.2.2.1,(IntKind.i64.wrap (x.2.2.2+1)))))) else (bif x.2.2.1 then (some (.inr true)) else ((u3l (x.1,(x.2.1,(x.2.2.1,(x.2.2.2,((rdL u0a x.1 (x.2.2.2).toNat),0)))))).bind fun r7=>match r7 with | .inl o8=>(g (o8.1,(o8.2.1,(o8.2.2.1,(IntKind.i64.wrap (o8.2.2.2+1)))))) | .inr z9=>(some (.inr z9)))))) else none) else (some (.inl ())))
def u3x:=lpW _ _ u5g
theorem t6b x:u3x x=u5g u3x x:=zW t57 466 Tryz.f466 5 65 x (by kernel_rfl)
def t71 (x:Z76):Option Bool:=((t6j x).bind fun y1=>(bif y1 then (some true) else ((s11 x).bind fun y2=>((u3x (x.2,(x.1,(y2,0)))).bind fun r10=>match r10 with | .inl o11=>(some false) | .inr z12=>(some z12)))))
theorem r1m:t3h=t71:=zC 466 Tryz.f466 rfl Tryz.func466 fun x=>by kernel_rfl
def t9a(x:Z52):Option Z8:=zK 425 x
def s7z (x:Z52):Option Z8:=((u0n x.1).bind fun y1=>((u36 (x.1,x.2.1)).bind fun y2=>(bif (decide (y2<0)) then (some (y1,((0,((0,(0,(0,(0,(([] :List r8w.den),(([] :List u13.den),(false,(⟨#[]⟩:ByteArray)))))))),((⟨#[]⟩:ByteArray),(false,(([] :List u0g.den),(([] :List u0a.den),(([] :List u0a.den),(0,0)))))))),1))) else ((u38 x.2.2).bind fun y3=>(bif (!y3) then (some (y1,((0,((0,(0,(0,(0,(([] :List r8w.den),(([] :List u13.den),(false,(⟨#[]⟩:ByteArray)))))))),((⟨#[]⟩:ByteArray),(false,(([] :List u0g.den),(([] :List u0a.den),(([] :List u0a.den),(0,0)))))))),2))) else ((u1k (x.1.1,x.2.2)).bind fun y4=>(bif (decide (y4≥0)) then (some (y1,((0,((0,(0,(0,(0,(([] :List r8w.den),(([] :List u13.den),(false,(⟨#[]⟩:ByteArray)))))))),((⟨#[]⟩:ByteArray),(false,(([] :List u0g.den),(([] :List u0a.den),(([] :List u0a.den),(0,0)))))))),6))) else ((t8h (x.1,x.2.1)).bind fun y5=>(((bif (decide (y5=0)) then (bif (y4p y2 x.1.2.length) then ((t0h x.1.1).bind fun y6=>((t3h ((rdL u0a x.1.2 (y2).toNat),y6)).bind fun y7=>(some y7))) else none) else (some false)):Option Bool).bind fun j8=>(bif j8 then (((bif (decide ((5:Int)=(0:Int))) then (some (decide ((x.1.1.2.2.1.length:Int)≥(3:Int)))) else (some false)):Option Bool).bind fun j9=>(bif j9 then (bif (!decide ((3:Int)=(0:Int))) then ((u0w (y1,x.2.1)).bind fun y10=>(some (y10,((0,((0,(0,(0,(0,(([] :List r8w.den),(([] :List u13.den),(false,(⟨#[]⟩:ByteArray)))))))),((⟨#[]⟩:ByteArray),(false,(([] :List u0g.den),(([] :List u0a.den),(([] :List u0a.den),(0,0)))))))),3)))) else (bif (y4p y2 x.1.2.length) then ((u3u (x.1.1,((rdL u0a x.1.2 (y2).toNat),x.2.2))).bind fun y11=>((u1k (y11,x.2.2)).bind fun y12=>(bif (y4p y12 y11.2.2.1.length) then ((u0y (rdL u0a y11.2.2.1 (y12).toNat)).bind fun y13=>((u0w ((y11,y1.2),x.2.1)).bind fun y14=>(some (y14,((2,(y13,((⟨#[]⟩:ByteArray),(false,(([] :List u0g.den),(([] :List u0a.den),(([] :List u0a.den),(0,0)))))))),0))))) else none))) else none)) else (bif (!decide ((5:Int)=(0:Int))) then ((u0w (y1,x.2.1)).bind fun y15=>(some (y15,((0,((0,(0,(0,(0,(([] :List r8w.den),(([] :List u13.den),(false,(⟨#[]⟩:ByteArray)))))))),((⟨#[]⟩:ByteArray),(false,(([] :List u0g.den),(([] :List u0a.den),(([] :List u0a.den),(0,0)))))))),5)))) else (bif (y4p y2 x.1.2.length) then ((u3u (x.1.1,((rdL u0a x.1.2 (y2).toNat),x.2.2))).bind fun y16=>((u1k (y16,x.2.2)).bind fun y17=>(bif (y4p y17 y16.2.2.1.length) then ((u0y (rdL u0a y16.2.2.1 (y17).toNat)).bind fun y18=>((u0w ((y16,y1.2),x.2.1)).bind fun y19=>(some (y19,((2,(y18,((⟨#[]⟩:ByteArray),(false,(([] :List u0g.den),(([] :List u0a.den),(([] :List u0a.den),(0,0)))))))),0))))) else none))) else none)))) else (((bif (decide (y5=0)) then (some (decide ((x.1.1.2.2.1.length:Int)≥(3:Int)))) else (some false)):Option Bool).bind fun j20=>(bif j20 then (bif (!decide ((3:Int)=(0:Int))) then ((u0w (y1,x.2.1)).bind fun y21=>(some (y21,((0,((0,(0,(0,(0,(([] :List r8w.den),(([] :List u13.den),(false,(⟨#[]⟩:ByteArray)))))))),((⟨#[]⟩:ByteArray),(false,(([] :List u0g.den),(([] :List u0a.den),(([] :List u0a.den),(0,0)))))))),3)))) else (bif (y4p y2 x.1.2.length) then ((u3u (x.1.1,((rdL u0a x.1.2 (y2).toNat),x.2.2))).bind fun y22=>((u1k (y22,x.2.2)).bind fun y23=>(bif (y4p y23 y22.2.2.1.length) then ((u0y (rdL u0a y22.2.2.1 (y23).toNat)).bind fun y24=>((u0w ((y22,y1.2),x.2.1)).bind fun y25=>(some (y25,((2,(y24,((⟨#[]⟩:ByteArray),(false,(([] :List u0g.den),(([] :List u0a.den),(([] :List u0a.den),(0,0)))))))),0))))) else none))) else none)) else (bif (!decide (y5=0)) then ((u0w (y1,x.2.1)).bind fun y26=>(some (y26,((0,((0,(0,(0,(0,(([] :List r8w.den),(([] :List u13.den),(false,(⟨#[]⟩:ByteArray)))))))),((⟨#[]⟩:ByteArray),(false,(([] :List u0g.den),(([] :List u0a.den),(([] :List u0a.den),(0,0)))))))),y5)))) else (bif (y4p y2 x.1.2.length) then ((u3u (x.1.1,((rdL u0a x.1.2 (y2).toNat),x.2.2))).bind fun y27=>((u1k (y27,x.2.2)).bind fun y28=>(bif (y4p y28 y27.2.2.1.length) then ((u0y (rdL u0a y27.2.2.1 (y28).toNat)).bind fun y29=>((u0w ((y27,y1.2),x.2.1)).bind fun y30=>(some (y30,((2,(y29,((⟨#[]⟩:ByteArray),(false,(([] :List u0g.den),(([] :List u0a.den),(([] :List u0a.den),(0,0)))))))),0))))) else none))) else none))))))))))))))
theorem r9g:t9a=s7z:=zC 425 Tryz.f425 rfl Tryz.func425 fun x=>by kernel_rfl
def u4g(x:Z32):Option Z39:=zK 355 x
def t9v (x:Z32):Option Z39:=((t9a (x.1.1,x.2)).bind fun y1=>(bif (decide (y1.2.2=0)) then ((t03 (x.1,y1.2.1)).bind fun y2=>(bif (!y2.1) then ((u0n y2.2.1).bind fun y3=>((u0w (y3,x.2.1)).bind fun y4=>(some (3,(y4,y2.2.2))))) else (some (y1.2.2,(y1.1,y2.2.2))))) else (some (y1.2.2,(y1.1,x.1.2)))))
theorem r27:u4g=t9v:=zC 355 Tryz.f355 rfl Tryz.func355 fun x=>by kernel_rfl
def s10(x:Z51):Option Z8:=zK 339 x
def r0t (x:Z51):Option Z8:=((u0n x.1).bind fun y1=>((u1k (x.1.1,x.2.1)).bind fun y2=>(bif (decide (y2<0)) then (some (y1,((0,((0,(0,(0,(0,(([] :List r8w.den),(([] :List u13.den),(false,(⟨#[]⟩:ByteArray)))))))),((⟨#[]⟩:ByteArray),(false,(([] :List u0g.den),(([] :List u0a.den),(([] :List u0a.den),(0,0)))))))),1))) else (((bif x.2.2 then ((t47 x.1.1).bind fun y3=>(some y3)) else (some false)):Option Bool).bind fun j4=>(bif j4 then (some (y1,((0,((0,(0,(0,(0,(([] :List r8w.den),(([] :List u13.den),(false,(⟨#[]⟩:ByteArray)))))))),((⟨#[]⟩:ByteArray),(false,(([] :List u0g.den),(([] :List u0a.den),(([] :List u0a.den),(0,0)))))))),3))) else (bif x.2.2 then (bif (y4p y2 x.1.1.2.2.1.length) then ((u39 (x.1.1,(rdL u0a x.1.1.2.2.1 (y2).toNat))).bind fun y5=>((t0f (y5,y1.2)).bind fun y6=>(some ((y6,y1.2),((3,((0,(0,(0,(0,(([] :List r8w.den),(([] :List u13.den),(false,(⟨#[]⟩:ByteArray)))))))),(x.2.1,(x.2.2,(([] :List u0g.den),(([] :List u0a.den),(([] :List u0a.den),(0,0)))))))),0))))) else none) else ((t4x (x.1.1,x.2.1)).bind fun y7=>((t0f (y7,y1.2)).bind fun y8=>(some ((y8,y1.2),((3,((0,(0,(0,(0,(([] :List r8w.den),(([] :List u13.den),(false,(⟨#[]⟩:ByteArray)))))))),(x.2.1,(x.2.2,(([] :List u0g.den),(([] :List u0a.den),(([] :List u0a.den),(0,0)))))))),0)))))))))))
theorem q21:s10=r0t:=zC 339 Tryz.f339 rfl Tryz.func339 fun x=>by kernel_rfl
def u4w(x:Z31):Option Z39:=zK 356 x
def s2p (x:Z31):Option Z39:=((s10 (x.1.1,x.2)).bind fun y1=>(bif (decide (y1.2.2=0)) then ((t03 (x.1,y1.2.1)).bind fun y2=>(bif (!y2.1) then (some (3,y2.2)) else (some (y1.2.2,(y1.1,y2.2.2))))) else (some (y1.2.2,(y1.1,x.1.2)))))
theorem r5k:u4w=s2p:=zC 356 Tryz.f356 rfl Tryz.func356 fun x=>by kernel_rfl
def t2k(x:Z60):Option Z60:=zK 357 x
def r33 (x:Z60):Option Z60:=((u0n x.1).bind fun y1=>((u36 x).bind fun y2=>(bif (decide (y2<0)) then (some (y1,1)) else ((u0w (y1,x.2)).bind fun y3=>(some (y3,0))))))
theorem q47:t2k=r33:=zC 357 Tryz.f357 rfl Tryz.func357 fun x=>by kernel_rfl
def t9j(x:Z27):Option Z27:=zK 231 x
def s8u (x:Z27):Option Z27:=(bif (decide ((x.2.1.2.length:Int) >(0:Int))) then ((u1u (x.1,(x.2.1.2.length:Int))).bind fun y1=>(bif (y4p y1.1 x.2.1.2.length) then ((u1u (y1.2,16)).bind fun y2=>(((bif (decide ((rdL u0a x.2.1.2 (y1.1).toNat).1=0)) then (some true) else (some (decide (y2.1<3)))):Option Bool).bind fun j3=>(bif j3 then ((u86 x.2.1).bind fun y4=>(some (y2.2,(y4.1,x.2.2)))) else (bif (decide (y2.1<6)) then ((u37 y2.2).bind fun y5=>((t0c (x.2.1,((rdL u0a x.2.1.2 (y1.1).toNat).1,y5.1))).bind fun y6=>(some (y5.2,(y6.1,x.2.2))))) else (bif (decide (y2.1<7)) then ((u54 y2.2).bind fun y7=>((u51 (x.2.1,((rdL u0a x.2.1.2 (y1.1).toNat).1,y7.1))).bind fun y8=>(some (y7.2,(y8.1,x.2.2))))) else (bif (decide (y2.1<10)) then ((u55 y2.2).bind fun y9=>((t0d (x.2.1,((rdL u0a x.2.1.2 (y1.1).toNat).1,y9.1))).bind fun y10=>(some (y9.2,(y10.1,x.2.2))))) else (bif (decide (y2.1<13)) then ((u4v (x.2,(rdL u0a x.2.1.2 (y1.1).toNat).1)).bind fun y11=>(some (y2.2,y11.2))) else (bif (decide (y2.1=13)) then ((u1l (y2.2,([(⟨#[112]⟩:ByteArray),(⟨#[113]⟩:ByteArray),(⟨#[114]⟩:ByteArray)] :List ByteArray))).bind fun y12=>((u4g (x.2,((rdL u0a x.2.1.2 (y1.1).toNat).1,y12.1))).bind fun y13=>(some (y12.2,y13.2)))) else (bif (decide (y2.1=14)) then ((u1l (y2.2,([(⟨#[112]⟩:ByteArray),(⟨#[113]⟩:ByteArray),(⟨#[114]⟩:ByteArray)] :List ByteArray))).bind fun y14=>((u1w (y14.2,2)).bind fun y15=>((u4w (x.2,(y14.1,y15.1))).bind fun y16=>(some (y15.2,y16.2))))) else ((u1w (y2.2,3)).bind fun y17=>(bif y17.1 then ((u5y x.2).bind fun y18=>(some (y17.2,y18.1))) else ((t2k (x.2.1,(rdL u0a x.2.1.2 (y1.1).toNat).1)).bind fun y19=>(some (y17.2,(y19.1,x.2.2))))))))))))))) else none)) else ((u1u (x.1,16)).bind fun y20=>(((bif (decide ((0:Int)=(0:Int))) then (some true) else (some (decide (y20.1<3)))):Option Bool).bind fun j21=>(bif j21 then ((u86 x.2.1).bind fun y22=>(some (y20.2,(y22.1,x.2.2)))) else (bif (decide (y20.1<6)) then ((u37 y20.2).bind fun y23=>((t0c (x.2.1,(0,y23.1))).bind fun y24=>(some (y23.2,(y24.1,x.2.2))))) else (bif (decide (y20.1<7)) then ((u54 y20.2).bind fun y25=>((u51 (x.2.1,(0,y25.1))).bind fun y26=>(some (y25.2,(y26.1,x.2.2))))) else (bif (decide (y20.1<10)) then ((u55 y20.2).bind fun y27=>((t0d (x.2.1,(0,y27.1))).bind fun y28=>(some (y27.2,(y28.1,x.2.2))))) else (bif (decide (y20.1<13)) then ((u4v (x.2,0)).bind fun y29=>(some (y20.2,y29.2))) else (bif (decide (y20.1=13)) then ((u1l (y20.2,([(⟨#[112]⟩:ByteArray),(⟨#[113]⟩:ByteArray),(⟨#[114]⟩:ByteArray)] :List ByteArray))).bind fun y30=>((u4g (x.2,(0,y30.1))).bind fun y31=>(some (y30.2,y31.2)))) else (bif (decide (y20.1=14)) then ((u1l (y20.2,([(⟨#[112]⟩:ByteArray),(⟨#[113]⟩:ByteArray),(⟨#[114]⟩:ByteArray)] :List ByteArray))).bind fun y32=>((u1w (y32.2,2)).bind fun y33=>((u4w (x.2,(y32.1,y33.1))).bind fun y34=>(some (y33.2,y34.2))))) else ((u1w (y20.2,3)).bind fun y35=>(bif y35.1 then ((u5y x.2).bind fun y36=>(some (y35.2,y36.1))) else ((t2k (x.2.1,0)).bind fun y37=>(some (y35.2,(y37.1,x.2.2))))))))))))))))
theorem q0a:t9j=s8u:=zC 231 Tryz.f231 rfl Tryz.func231 fun x=>by kernel_rfl
def t48(x:p6q):Option Z28:=zK 94 x
def t5o(g:Z5→Option (Z7 ⊕ Unit))(x:Z5):Option (Z7 ⊕ Unit):=((u1u (x.1,x.2.1)).bind fun y2=>(bif (decide (x.2.2.2.2<(IntKind.i64.wrap ((2:Int)+y2.1)))) then ((t9j (y2.2,x.2.2.2.1)).bind fun y3=>(g (y3.1,(x.2.1,(x.2.2.1,(y3.2,(IntKind.i64.wrap (x.2.2.2.2+1)))))))) else (some (.inl (y2.2,(x.2.2.1,x.2.2.2.1))))))
def u7k:=lpW _ _ t5o
theorem r5n x:u7k x=t5o u7k x:=zW s3l 94 Tryz.f94 3 19 x (by kernel_rfl)
def s8v (x:p6q):Option Z28:=((t7f ()).bind fun y1=>((u7k (x.1,(x.2,((((([] :List u0g.den),(([] :List u0a.den),(([] :List u0a.den),(0,0)))),([] :List u0a.den)),(([] :List ByteArray),([] :List p0x.den))),(y1,0))))).bind fun r4=>match r4 with | .inl o5=>(some (o5.2.2,o5.1)) | .inr z6=>none))
theorem q0b:t48=s8v:=zC 94 Tryz.f94 rfl Tryz.func94 fun x=>by kernel_rfl
def t5x(x:q0k):Option Z49:=zK 139 x
def s2n (x:q0k):Option Z49:=((t48 (x,22)).bind fun y1=>(some (y1.1.1,y1.2)))
theorem r5i:t5x=s2n:=zC 139 Tryz.f139 rfl Tryz.func139 fun x=>by kernel_rfl
def t0b(x:q35):Option Z60:=zK 40 x
def t9n (x:q35):Option Z60:=((s14 x).bind fun y1=>((t5x y1).bind fun y2=>(bif (decide ((y2.1.2.length:Int)=(0:Int))) then ((u86 y2.1).bind fun y3=>((u1u (y2.2,(y3.1.2.length:Int))).bind fun y4=>(bif (y4p y4.1 y3.1.2.length) then (some (y3.1,(rdL u0a y3.1.2 (y4.1).toNat).1)) else none))) else ((u1u (y2.2,(y2.1.2.length:Int))).bind fun y5=>(bif (y4p y5.1 y2.1.2.length) then (some (y2.1,(rdL u0a y2.1.2 (y5.1).toNat).1)) else none)))))
theorem r2z:t0b=t9n:=zC 40 Tryz.f40 rfl Tryz.func40 fun x=>by kernel_rfl
def t13(x:(p22 × p22)):Option Bool:=zK 45 x
def u70(g:o0q→Option r4v)(x:o0q):Option r4v:=(bif (decide (x.2.2<(x.1.length:Int))) then (bif (y4p x.2.2 x.1.length) then (bif (y4p x.2.2 x.2.1.length) then (bif (!(z7o (rdL r8w x.1 (x.2.2).toNat).1 (rdL r8w x.2.1 (x.2.2).toNat).1 && (z7o (rdL r8w x.1 (x.2.2).toNat).2 (rdL r8w x.2.1 (x.2.2).toNat).2 && true))) then (some (.inr false)) else (g (x.1,(x.2.1,(IntKind.i64.wrap (x.2.2+1)))))) else none) else none) else (some (.inl ())))
def u78:=lpW _ _ u70
theorem t8q x:u78 x=u70 u78 x:=zW t78 45 Tryz.f45 4 26 x (by kernel_rfl)
def s2c (x:(p22 × p22)):Option Bool:=(bif (!decide ((x.1.length:Int)=(x.2.length:Int))) then (some false) else ((u78 (x.1,(x.2,0))).bind fun r1=>match r1 with | .inl o2=>(some true) | .inr z3=>(some z3)))
theorem r47:t13=s2c:=zC 45 Tryz.f45 rfl Tryz.func45 fun x=>by kernel_rfl
def u6r(x:o0e):Option p22:=zK 46 x
def t2w(g:p9y→Option p6o)(x:p9y):Option p6o:=(bif (decide (x.2.2.2.2<(x.2.2.2.1.length:Int))) then (bif (y4p x.2.2.2.2 x.2.2.2.1.length) then ((t0e (x.1,((rdL Ty.str x.2.2.2.1 (x.2.2.2.2).toNat),x.2.1))).bind fun y2=>(bif y2.2 then (bif (y4p x.2.2.2.2 x.2.2.2.1.length) then (bif (Nat.ble (x.2.2.1.length+([((rdL Ty.str x.2.2.2.1 (x.2.2.2.2).toNat),y2.1)] :List r8w.den).length) z7w) then (g (x.1,(x.2.1,((x.2.2.1++([((rdL Ty.str x.2.2.2.1 (x.2.2.2.2).toNat),y2.1)] :List r8w.den)),(x.2.2.2.1,(IntKind.i64.wrap (x.2.2.2.2+1))))))) else none) else none) else (g (x.1,(x.2.1,(x.2.2.1,(x.2.2.2.1,(IntKind.i64.wrap (x.2.2.2.2+1))))))))) else none) else (some (.inl x.2.2.1)))
def t23:=lpW _ _ t2w
theorem s6x x:t23 x=t2w t23 x:=zW s53 46 Tryz.f46 4 43 x (by kernel_rfl)
def r00 (x:o0e):Option p22:=((t44 (x.1,x.2.1)).bind fun y1=>((t23 (x.1,(x.2.2,(([] :List r8w.den),(y1,0))))).bind fun r3=>match r3 with | .inl o4=>(some o4) | .inr z5=>none))
theorem q28:u6r=r00:=zC 46 Tryz.f46 rfl Tryz.func46 fun x=>by kernel_rfl
def s0n(x:Unit):Option p48:=zK 47 x
def q9n (x:Unit):Option p48:=(some ((⟨#[97]⟩:ByteArray),(⟨#[122,122,122]⟩:ByteArray)))
theorem q9u:s0n=q9n:=zC 47 Tryz.f47 rfl Tryz.func47 fun x=>by kernel_rfl
def t3c(x:Z97):Option Bool:=zK 156 x
def s4s (x:Z97):Option Bool:=(some (decide (x.1.1=x.2)))
theorem r6n:t3c=s4s:=zC 156 Tryz.f156 rfl Tryz.func156 fun x=>by kernel_rfl
def u3b(x:q38):Option Int:=zK 10004 x
def u2q(g:p26→Option q6u)(x:p26):Option q6u:=(bif (decide (x.2.2.2<x.2.2.1)) then (bif (y4p x.2.2.2 x.1.length) then ((t3c ((rdL u0a x.1 (x.2.2.2).toNat),x.2.1)).bind fun y1=>(bif y1 then (some (.inr x.2.2.2)) else (g (x.1,(x.2.1,(x.2.2.1,(IntKind.i64.wrap (x.2.2.2+1)))))))) else none) else (some (.inl ())))
def u04:=lpW _ _ u2q
theorem u6v x:u04 x=u2q u04 x:=zW u2u 10004 Tryz.f148 2 19 x (by kernel_rfl)
def u28 (x:q38):Option Int:=((u04 (x.1,(x.2,((x.1.length:Int),0)))).bind fun r2=>match r2 with | .inl o3=>(some (-1:Int)) | .inr z4=>(some z4))
theorem u7v:u3b=u28:=zC 10004 Tryz.f148 rfl Tryz.func148 fun x=>by kernel_rfl
def u33(x:Z60):Option Int:=zK 50 x
def r0f (x:Z60):Option Int:=((u3b (x.1.2,x.2)).bind fun y1=>(some y1))
theorem q2n:u33=r0f:=zC 50 Tryz.f50 rfl Tryz.func50 fun x=>by kernel_rfl
def s1w(x:t19):Option Bool:=zK 125 x
def q2b (x:t19):Option Bool:=(some (decide (x.2.1=3)))
theorem q2s:s1w=q2b:=zC 125 Tryz.f125 rfl Tryz.func125 fun x=>by kernel_rfl
def t3g(x:Z47):Option Bool:=zK 289 x
def r0k (x:Z47):Option Bool:=(some (decide (x.1.1=x.2.1)))
theorem r1k:t3g=r0k:=zC 289 Tryz.f289 rfl Tryz.func289 fun x=>by kernel_rfl
def u2o(x:Z74):Option Int:=zK 10002 x
def u2a(g:Z65→Option q6u)(x:Z65):Option q6u:=(bif (decide (x.2.2.2<x.2.2.1)) then (bif (y4p x.2.2.2 x.1.length) then ((t3g ((rdL u0a x.1 (x.2.2.2).toNat),x.2.1)).bind fun y1=>(bif y1 then (some (.inr x.2.2.2)) else (g (x.1,(x.2.1,(x.2.2.1,(IntKind.i64.wrap (x.2.2.2+1)))))))) else none) else (some (.inl ())))
def u0t:=lpW _ _ u2a
theorem u5d x:u0t x=u2a u0t x:=zW u2b 10002 Tryz.f148 2 19 x (by kernel_rfl)
def u2k (x:Z74):Option Int:=((u0t (x.1,(x.2,((x.1.length:Int),0)))).bind fun r2=>match r2 with | .inl o3=>(some (-1:Int)) | .inr z4=>(some z4))
theorem u57:u2o=u2k:=zC 10002 Tryz.f148 rfl Tryz.func148 fun x=>by kernel_rfl
def u16(x:Z74):Option Bool:=zK 10001 x
def u14 (x:Z74):Option Bool:=((u2o x).bind fun y1=>(some (decide (y1≥0))))
theorem u48:u16=u14:=zC 10001 Tryz.f261 rfl Tryz.func261 fun x=>by kernel_rfl
def u34(x:Z74):Option Bool:=zK 10000 x
def u8b (x:Z74):Option Bool:=((u16 x).bind fun y1=>(some y1))
theorem t6e:u34=u8b:=zC 10000 Tryz.f127 rfl Tryz.func127 fun x=>by kernel_rfl
def u7q(x:q38):Option Bool:=zK 163 x
def u7z(g:Z98→Option r4v)(x:Z98):Option r4v:=(bif (decide (x.2.2.2.2<x.2.2.2.1)) then (bif (y4p x.2.2.2.2 x.2.2.1.length) then (bif (decide ((rdL u0a x.2.2.1 (x.2.2.2.2).toNat).1≥x.2.1)) then (some (.inr false)) else (bif (decide (0≤(0:Int)) && decide ((0:Int)≤x.2.2.2.2) && decide (x.2.2.2.2≤(x.1.length:Int))) then ((u34 (((x.1.take (x.2.2.2.2).toNat).drop ((0:Int)).toNat),(rdL u0a x.2.2.1 (x.2.2.2.2).toNat))).bind fun y1=>(bif y1 then (some (.inr false)) else (g (x.1,(x.2.1,(x.2.2.1,(x.2.2.2.1,(IntKind.i64.wrap (x.2.2.2.2+1))))))))) else none)) else none) else (some (.inl ())))
def u77:=lpW _ _ u7z
theorem t8p x:u77 x=u7z u77 x:=zW t77 163 Tryz.f163 2 26 x (by kernel_rfl)
def s2a (x:q38):Option Bool:=((u77 (x.1,(x.2,(x.1,((x.1.length:Int),0))))).bind fun r2=>match r2 with | .inl o3=>(some true) | .inr z4=>(some z4))
theorem r44:u7q=s2a:=zC 163 Tryz.f163 rfl Tryz.func163 fun x=>by kernel_rfl
def u7x(x:(Unit × Int)):Option r8k:=zK 290 x
def t3v (x:(Unit × Int)):Option r8k:=(bif (decide (x.2<0)) then none else (bif (decide ((IntKind.i64.wrap (x.2 - (IntKind.i64.wrap ((0:Int) - (0:Int))))) >0)) then (bif (decide (0≤(0:Int)) && decide ((0:Int)≤(0:Int)) && decide ((0:Int)≤0)) then (bif (decide (1≤(IntKind.i64.wrap (x.2 - (IntKind.i64.wrap ((0:Int) - (0:Int)))))) && decide ((IntKind.i64.wrap (x.2 - (IntKind.i64.wrap ((0:Int) - (0:Int)))))≤1099511627776)) then (bif (decide (0≤(0:Int)) && decide ((0:Int)≤(0:Int)) && decide ((0:Int)≤((List.replicate ((IntKind.i64.wrap (x.2 - (IntKind.i64.wrap ((0:Int) - (0:Int)))))).toNat (u0a).zero).length:Int))) then (some ((List.replicate ((IntKind.i64.wrap (x.2 - (IntKind.i64.wrap ((0:Int) - (0:Int)))))).toNat (u0a).zero).take (((0:Int)).toNat - ((0:Int)).toNat))) else none) else none) else none) else (some ([] :List u0a.den))))
theorem s4g:u7x=t3v:=zC 290 Tryz.f290 rfl Tryz.func290 fun x=>by kernel_rfl
def u2f(x:p6j):Option r8k:=zK 164 x
def u27(g:Z92→Option (o0j ⊕ Unit))(x:Z92):Option (o0j ⊕ Unit):=(bif (decide (x.2.2.2.2<x.2.2.2.1)) then (bif (y4p x.2.2.2.2 x.2.2.1.length) then (bif (decide ((IntKind.i64.wrap (x.2.1+((rdL (Ty.sl u0a) x.2.2.1 (x.2.2.2.2).toNat).length:Int)))<0)) then none else (g (x.1,((IntKind.i64.wrap (x.2.1+((rdL (Ty.sl u0a) x.2.2.1 (x.2.2.2.2).toNat).length:Int))),(x.2.2.1,(x.2.2.2.1,(IntKind.i64.wrap (x.2.2.2.2+1)))))))) else none) else (some (.inl (x.1,x.2.1))))
def u1y:=lpW _ _ u27
theorem t0l x:u1y x=u27 u1y x:=zW t0j 164 Tryz.f164 3 36 x (by kernel_rfl)
def u2p(g:Z99→Option p6m)(x:Z99):Option p6m:=(bif (decide (x.2.2.2<x.2.2.1)) then (bif (y4p x.2.2.2 x.2.1.length) then (bif (Nat.ble (x.1.length+(rdL (Ty.sl u0a) x.2.1 (x.2.2.2).toNat).length) z7w) then (g ((x.1++(rdL (Ty.sl u0a) x.2.1 (x.2.2.2).toNat)),(x.2.1,(x.2.2.1,(IntKind.i64.wrap (x.2.2.2+1)))))) else none) else none) else (some (.inl x.1)))
def u1s:=lpW _ _ u2p
theorem u9a x:u1s x=u2p u1s x:=zW u8z 164 Tryz.f164 11 36 x (by kernel_rfl)
def t2f (x:p6j):Option r8k:=((u1y (x,(0,(x,((x.length:Int),0))))).bind fun r1=>match r1 with | .inl o2=>((u7x ((),o2.2)).bind fun y3=>((u1s (y3,(o2.1,((o2.1.length:Int),0)))).bind fun r4=>match r4 with | .inl o5=>(some o5) | .inr z6=>none)) | .inr z7=>none)
theorem t9x:u2f=t2f:=zC 164 Tryz.f164 rfl Tryz.func164 fun x=>by kernel_rfl
def u19(x:(Int × p23)):Option Bool:=zK 205 x
def r0n (x:(Int × p23)):Option Bool:=(((bif (decide (x.1≥x.2.1)) then (some (decide (x.1≤x.2.2))) else (some false)):Option Bool).bind fun j1=>(some j1))
theorem q2v:u19=r0n:=zC 205 Tryz.f205 rfl Tryz.func205 fun x=>by kernel_rfl
def u6d(x:ByteArray):Option Bool:=zK 142 x
def t4e(g:q6t→Option p8n)(x:q6t):Option p8n:=(bif (decide (x.2<(x.1.size:Int))) then (((bif (y4p x.2 x.1.size) then (bif (decide (((x.1.data.toList.getD (x.2).toNat 0).toNat:Int)<(97:Int))) then (some true) else (bif (y4p x.2 x.1.size) then (some (decide (((x.1.data.toList.getD (x.2).toNat 0).toNat:Int) >(122:Int)))) else none)) else none):Option Bool).bind fun j1=>(bif j1 then (some (.inr false)) else (g (x.1,(IntKind.i64.wrap (x.2+1)))))) else (some (.inl x.1)))
def t4m:=lpW _ _ t4e
theorem s9e x:t4m x=t4e t4m x:=zW s81 142 Tryz.f142 2 23 x (by kernel_rfl)
def r3u (x:ByteArray):Option Bool:=((t4m (x,0)).bind fun r2=>match r2 with | .inl o3=>((u19 ((o3.size:Int),(1,3))).bind fun y4=>(some y4)) | .inr z5=>(some z5))
theorem q4y:u6d=r3u:=zC 142 Tryz.f142 rfl Tryz.func142 fun x=>by kernel_rfl
def t0v(x:p48):Option Bool:=zK 208 x
def s7m (x:p48):Option Bool:=((((u6d x.1).bind fun y1=>(bif y1 then ((u6d x.2).bind fun y2=>(bif y2 then (some (y3c x.1 x.2 || z7o x.1 x.2)) else (some false))) else (some false))):Option Bool).bind fun j3=>(some j3))
theorem r82:t0v=s7m:=zC 208 Tryz.f208 rfl Tryz.func208 fun x=>by kernel_rfl
def t0w(x:p8o):Option Bool:=zK 157 x
def s7o (x:p8o):Option Bool:=((((u6d x.1).bind fun y1=>(bif y1 then (bif (decide ((x.2.1.size:Int)≤(12:Int))) then (bif (!x.2.2) then (some true) else (some (z7o x.2.1 (⟨#[]⟩:ByteArray)))) else (some false)) else (some false))):Option Bool).bind fun j2=>(some j2))
theorem r84:t0w=s7o:=zC 157 Tryz.f157 rfl Tryz.func157 fun x=>by kernel_rfl
def t68(x:q34):Option Bool:=zK 291 x
def u9j(g:p8b→Option (q34 ⊕ Bool))(x:p8b):Option (q34 ⊕ Bool):=(bif (decide (x.2.2.2<x.2.2.1)) then (bif (y4p x.2.2.2 x.2.1.length) then ((((t0w (rdL u13 x.2.1 (x.2.2.2).toNat)).bind fun y1=>(bif (!y1) then (some true) else (bif (decide (x.2.2.2 >0)) then (bif (y4p (IntKind.i64.wrap (x.2.2.2 - 1)) x.1.length) then (some (!y3c (rdL u13 x.1 ((IntKind.i64.wrap (x.2.2.2 - 1))).toNat).1 (rdL u13 x.2.1 (x.2.2.2).toNat).1)) else none) else (some false)))):Option Bool).bind fun j2=>(bif j2 then (some (.inr false)) else (g (x.1,(x.2.1,(x.2.2.1,(IntKind.i64.wrap (x.2.2.2+1)))))))) else none) else (some (.inl x.1)))
def u92:=lpW _ _ u9j
theorem s0z x:u92 x=u9j u92 x:=zW t98 291 Tryz.f291 2 34 x (by kernel_rfl)
def s4w (x:q34):Option Bool:=((u92 (x,(x,((x.length:Int),0)))).bind fun r3=>match r3 with | .inl o4=>(some (decide ((o4.length:Int)≤(8:Int)))) | .inr z5=>(some z5))
theorem r6s:t68=s4w:=zC 291 Tryz.f291 rfl Tryz.func291 fun x=>by kernel_rfl
def u6e(x:t19):Option Bool:=zK 165 x
def t4f(g:Z82→Option (t19 ⊕ Bool))(x:Z82):Option (t19 ⊕ Bool):=(bif (decide (x.2.2.2<x.2.2.1)) then (bif (y4p x.2.2.2 x.2.1.length) then ((t0v (rdL r8w x.2.1 (x.2.2.2).toNat)).bind fun y1=>(bif (!y1) then (some (.inr false)) else (g (x.1,(x.2.1,(x.2.2.1,(IntKind.i64.wrap (x.2.2.2+1)))))))) else none) else (some (.inl x.1)))
def t4n:=lpW _ _ t4f
theorem s9f x:t4n x=t4f t4n x:=zW s82 165 Tryz.f165 2 93 x (by kernel_rfl)
def r3w (x:t19):Option Bool:=((t4n (x,(x.2.2.2.2.1,((x.2.2.2.2.1.length:Int),0)))).bind fun r2=>match r2 with | .inl o3=>((((u19 (o3.1,(1,9999))).bind fun y4=>(bif (!y4) then (some true) else ((u19 (o3.2.1,(1,3))).bind fun y5=>(bif (!y5) then (some true) else ((u19 (o3.2.2.1,(0,9999))).bind fun y6=>(bif (!y6) then (some true) else (bif (decide ((o3.2.2.2.2.1.length:Int) >(8:Int))) then (some true) else ((t68 o3.2.2.2.2.2.1).bind fun y7=>(bif (!y7) then (some true) else (bif o3.2.2.2.2.2.2.1 then (some (decide (o3.2.1=1))) else (some false))))))))))):Option Bool).bind fun j8=>(bif j8 then (some false) else (((bif (decide (o3.2.1=3)) then ((u19 (o3.2.2.2.1,((IntKind.i64.wrap (o3.2.2.1+1)),9999))).bind fun y9=>(bif (!y9) then (some true) else (bif (!decide (o3.2.1=3)) then (some (!decide (o3.2.2.2.1=0))) else (some false)))) else (bif (!decide (o3.2.1=3)) then (some (!decide (o3.2.2.2.1=0))) else (some false))):Option Bool).bind fun j10=>(bif j10 then (some false) else (((bif (decide (o3.2.1=2)) then ((u6d o3.2.2.2.2.2.2.2).bind fun y11=>(bif y11 then (some true) else (bif (!decide (o3.2.1=2)) then (some (z7o o3.2.2.2.2.2.2.2 (⟨#[]⟩:ByteArray))) else (some false)))) else (bif (!decide (o3.2.1=2)) then (some (z7o o3.2.2.2.2.2.2.2 (⟨#[]⟩:ByteArray))) else (some false))):Option Bool).bind fun j12=>(some j12)))))) | .inr z13=>(some z13))
theorem q40:u6e=r3w:=zC 165 Tryz.f165 rfl Tryz.func165 fun x=>by kernel_rfl
def t85(x:t19):Option Bool:=zK 195 x
def r8x (x:t19):Option Bool:=(some (decide (x.2.1=2)))
theorem r86:t85=r8x:=zC 195 Tryz.f195 rfl Tryz.func195 fun x=>by kernel_rfl
def u8e(x:ByteArray):Option Bool:=zK 433 x
def t7z (x:ByteArray):Option Bool:=(some (!z7o x x))
theorem r1j:u8e=t7z:=zC 433 Tryz.f433 rfl Tryz.func433 fun x=>by kernel_rfl
def t0n(x:p48):Option Int:=zK 372 x
def t54 (x:p48):Option Int:=((u8e x.1).bind fun y1=>((u8e x.2).bind fun y2=>(bif y1 then (bif y2 then (some (0:Int)) else (some (-1:Int))) else (bif y2 then (some (1:Int)) else (bif (y3c x.1 x.2) then (some (-1:Int)) else (bif (!(y3c x.1 x.2 || z7o x.1 x.2)) then (some (1:Int)) else (some (0:Int))))))))
theorem s7c:t0n=t54:=zC 372 Tryz.f372 rfl Tryz.func372 fun x=>by kernel_rfl
def t3b(x:Int):Option Bool:=zK 434 x
def s4p (x:Int):Option Bool:=(some (!decide (x=x)))
theorem r6k:t3b=s4p:=zC 434 Tryz.f434 rfl Tryz.func434 fun x=>by kernel_rfl
def t34(x:p23):Option Int:=zK 373 x
def t9k (x:p23):Option Int:=((t3b x.1).bind fun y1=>((t3b x.2).bind fun y2=>(bif y1 then (bif y2 then (some (0:Int)) else (some (-1:Int))) else (bif y2 then (some (1:Int)) else (bif (decide (x.1<x.2)) then (some (-1:Int)) else (bif (decide (x.1 >x.2)) then (some (1:Int)) else (some (0:Int))))))))
theorem r2w:t34=t9k:=zC 373 Tryz.f373 rfl Tryz.func373 fun x=>by kernel_rfl
def u44(x:p9v):Option Int:=zK 256 x
def t5c (x:p9v):Option Int:=((t0n (x.1.1,x.2.1)).bind fun y1=>(bif (!decide (y1=0)) then (some y1) else ((t34 (x.1.2.2.2,x.2.2.2.2)).bind fun y2=>(some y2))))
theorem s5q:u44=t5c:=zC 256 Tryz.f256 rfl Tryz.func256 fun x=>by kernel_rfl
def t35(x:q0l):Option Bool:=zK 204 x
def u6g(g:p78→Option (q0l ⊕ Bool))(x:p78):Option (q0l ⊕ Bool):=(bif (decide (x.2.2.2<x.2.2.1)) then (bif (y4p x.2.2.2 x.2.1.length) then ((((u6d (rdL u0g x.2.1 (x.2.2.2).toNat).1).bind fun y1=>(bif (!y1) then (some true) else (bif (decide (((rdL u0g x.2.1 (x.2.2.2).toNat).2.1.size:Int) >(12:Int))) then (some true) else (bif (rdL u0g x.2.1 (x.2.2.2).toNat).2.2.1 then (bif (!z7o (rdL u0g x.2.1 (x.2.2.2).toNat).2.1 (⟨#[]⟩:ByteArray)) then (some true) else ((u19 ((rdL u0g x.2.1 (x.2.2.2).toNat).2.2.2,(1,9999))).bind fun y2=>(bif (!y2) then (some true) else (bif (decide (x.2.2.2 >0)) then (bif (y4p (IntKind.i64.wrap (x.2.2.2 - 1)) x.1.length) then ((u44 ((rdL u0g x.1 ((IntKind.i64.wrap (x.2.2.2 - 1))).toNat),(rdL u0g x.2.1 (x.2.2.2).toNat))).bind fun y3=>(some (decide (y3≥0)))) else none) else (some false))))) else ((u19 ((rdL u0g x.2.1 (x.2.2.2).toNat).2.2.2,(1,9999))).bind fun y4=>(bif (!y4) then (some true) else (bif (decide (x.2.2.2 >0)) then (bif (y4p (IntKind.i64.wrap (x.2.2.2 - 1)) x.1.length) then ((u44 ((rdL u0g x.1 ((IntKind.i64.wrap (x.2.2.2 - 1))).toNat),(rdL u0g x.2.1 (x.2.2.2).toNat))).bind fun y5=>(some (decide (y5≥0)))) else none) else (some false)))))))):Option Bool).bind fun j6=>(bif j6 then (some (.inr false)) else (g (x.1,(x.2.1,(x.2.2.1,(IntKind.i64.wrap (x.2.2.2+1)))))))) else none) else (some (.inl x.1)))
def u6l:=lpW _ _ u6g
theorem t7o x:u6l x=u6g u6l x:=zW t6x 204 Tryz.f204 2 55 x (by kernel_rfl)
def t9l (x:q0l):Option Bool:=((u6l (x,(x,((x.length:Int),0)))).bind fun r7=>match r7 with | .inl o8=>(some (decide ((o8.length:Int)≤(120:Int)))) | .inr z9=>(some z9))
theorem r2x:t35=t9l:=zC 204 Tryz.f204 rfl Tryz.func204 fun x=>by kernel_rfl
def s1t(x:Z90):Option Bool:=zK 76 x
def t2p(g:Z63→Option p49)(x:Z63):Option p49:=(bif (decide (x.2.2.2<x.2.2.1)) then (bif (y4p x.2.2.2 x.2.1.length) then (bif (decide ((rdL u0g x.2.1 (x.2.2.2).toNat).2.2.2 >x.1.2.2.2.1)) then (some (.inr false)) else (g (x.1,(x.2.1,(x.2.2.1,(IntKind.i64.wrap (x.2.2.2+1))))))) else none) else (some (.inl x.1)))
def u8m:=lpW _ _ t2p
theorem s6o x:u8m x=t2p u8m x:=zW s5u 76 Tryz.f76 4 139 x (by kernel_rfl)
def t07(g:Z56→Option p49)(x:Z56):Option p49:=(bif (decide (x.2.2.2<x.2.2.1)) then (bif (y4p x.2.2.2 x.2.1.length) then ((((u6e (rdL u0a x.2.1 (x.2.2.2).toNat)).bind fun y7=>(bif (!y7) then (some true) else ((s1w (rdL u0a x.2.1 (x.2.2.2).toNat)).bind fun y8=>(bif (!y8) then (some true) else (bif (decide ((rdL u0a x.2.1 (x.2.2.2).toNat).2.2.2.1 >x.1.2.2.2.1)) then (some true) else (bif (decide (x.2.2.2 >0)) then (bif (y4p (IntKind.i64.wrap (x.2.2.2 - 1)) x.1.2.1.length) then (some (decide ((rdL u0a x.1.2.1 ((IntKind.i64.wrap (x.2.2.2 - 1))).toNat).2.2.2.1≥(rdL u0a x.2.1 (x.2.2.2).toNat).2.2.2.1))) else none) else (some false))))))):Option Bool).bind fun j9=>(bif j9 then (some (.inr false)) else (g (x.1,(x.2.1,(x.2.2.1,(IntKind.i64.wrap (x.2.2.2+1)))))))) else none) else (some (.inl x.1)))
def u61:=lpW _ _ t07
theorem s3n x:u61 x=t07 u61 x:=zW s2r 76 Tryz.f76 10 139 x (by kernel_rfl)
def t08(g:Z56→Option p49)(x:Z56):Option p49:=(bif (decide (x.2.2.2<x.2.2.1)) then (bif (y4p x.2.2.2 x.2.1.length) then ((((u6e (rdL u0a x.2.1 (x.2.2.2).toNat)).bind fun y12=>(bif (!y12) then (some true) else ((t85 (rdL u0a x.2.1 (x.2.2.2).toNat)).bind fun y13=>(bif (!y13) then (some true) else (bif (decide ((rdL u0a x.2.1 (x.2.2.2).toNat).2.2.1 >x.1.2.2.2.1)) then (some true) else (bif (decide (x.2.2.2 >0)) then (bif (y4p (IntKind.i64.wrap (x.2.2.2 - 1)) x.1.2.2.1.length) then (some (!y3c (rdL u0a x.1.2.2.1 ((IntKind.i64.wrap (x.2.2.2 - 1))).toNat).2.2.2.2.2.2.2 (rdL u0a x.2.1 (x.2.2.2).toNat).2.2.2.2.2.2.2)) else none) else (some false))))))):Option Bool).bind fun j14=>(bif j14 then (some (.inr false)) else (g (x.1,(x.2.1,(x.2.2.1,(IntKind.i64.wrap (x.2.2.2+1)))))))) else none) else (some (.inl x.1)))
def u62:=lpW _ _ t08
theorem s3o x:u62 x=t08 u62 x:=zW s2s 76 Tryz.f76 16 139 x (by kernel_rfl)
def r0d (x:Z90):Option Bool:=((((t35 x.1).bind fun y1=>(bif (!y1) then (some true) else (bif (decide ((x.2.1.length:Int) >(12:Int))) then (some true) else (bif (decide ((x.2.2.1.length:Int) >(3:Int))) then (some true) else ((u19 (x.2.2.2.1,(0,9999))).bind fun y2=>(bif (!y2) then (some true) else ((u19 (x.2.2.2.2,(1,9999))).bind fun y3=>(some (!y3))))))))):Option Bool).bind fun j4=>(bif j4 then (some false) else ((u8m (x,(x.1,((x.1.length:Int),0)))).bind fun r5=>match r5 with | .inl o6=>((u61 (o6,(o6.2.1,((o6.2.1.length:Int),0)))).bind fun r10=>match r10 with | .inl o11=>((u62 (o11,(o11.2.2.1,((o11.2.2.1.length:Int),0)))).bind fun r15=>match r15 with | .inl o16=>((u2f ([o16.2.1,o16.2.2.1] :List r8k)).bind fun y17=>((u7q (y17,o16.2.2.2.2)).bind fun y18=>(some y18))) | .inr z19=>(some z19)) | .inr z20=>(some z20)) | .inr z21=>(some z21))))
theorem q2l:s1t=r0d:=zC 76 Tryz.f76 rfl Tryz.func76 fun x=>by kernel_rfl
def u5w(x:Z62):Option Bool:=zK 55 x
def u9e(g:Z34→Option r4v)(x:Z34):Option r4v:=(bif (decide (x.2.2.2<x.2.2.1)) then (bif (y4p x.2.2.2 x.2.1.length) then ((((u6e (rdL u0a x.2.1 (x.2.2.2).toNat)).bind fun y4=>(bif (!y4) then (some true) else (bif (!decide ((rdL u0a x.2.1 (x.2.2.2).toNat).2.1=1)) then (some true) else (bif (decide ((rdL u0a x.2.1 (x.2.2.2).toNat).2.2.1 >x.1.1.2.2.2.1)) then (some true) else (bif (decide (x.2.2.2 >0)) then (bif (y4p (IntKind.i64.wrap (x.2.2.2 - 1)) x.1.2.length) then (some (decide ((rdL u0a x.1.2 ((IntKind.i64.wrap (x.2.2.2 - 1))).toNat).1≥(rdL u0a x.2.1 (x.2.2.2).toNat).1))) else none) else (some false)))))):Option Bool).bind fun j5=>(bif j5 then (some (.inr false)) else (g (x.1,(x.2.1,(x.2.2.1,(IntKind.i64.wrap (x.2.2.2+1)))))))) else none) else (some (.inl ())))
def u9y:=lpW _ _ u9e
theorem s0u x:u9y x=u9e u9y x:=zW t93 55 Tryz.f55 4 73 x (by kernel_rfl)
def s4q (x:Z62):Option Bool:=((s1t x.1).bind fun y1=>(bif (!y1) then (some false) else (bif (decide ((x.2.length:Int) >(4:Int))) then (some false) else ((u2f ([x.1.2.1,x.1.2.2.1,x.2] :List r8k)).bind fun y2=>((u7q (y2,x.1.2.2.2.2)).bind fun y3=>(bif (!y3) then (some false) else ((u9y (x,(x.2,((x.2.length:Int),0)))).bind fun r6=>match r6 with | .inl o7=>(some true) | .inr z8=>(some z8))))))))
theorem r6l:u5w=s4q:=zC 55 Tryz.f55 rfl Tryz.func55 fun x=>by kernel_rfl
def u7s(x:t19):Option t19:=zK 147 x
def s7p (x:t19):Option t19:=(bif (Nat.ble x.2.2.2.2.1.length z7w) then (bif (Nat.ble x.2.2.2.2.2.1.length z7w) then (some x) else none) else none)
theorem r85:u7s=s7p:=zC 147 Tryz.f147 rfl Tryz.func147 fun x=>by kernel_rfl
def u84(x:r8k):Option r8k:=zK 271 x
def u9k(g:p87→Option p6m)(x:p87):Option p6m:=(bif (decide (x.2.2.2<x.2.2.1)) then (bif (y4p x.2.2.2 x.2.1.length) then ((u7s (rdL u0a x.2.1 (x.2.2.2).toNat)).bind fun y1=>(bif (Nat.ble (x.1.length+([y1] :List u0a.den).length) z7w) then (g ((x.1++([y1] :List u0a.den)),(x.2.1,(x.2.2.1,(IntKind.i64.wrap (x.2.2.2+1)))))) else none)) else none) else (some (.inl x.1)))
def u93:=lpW _ _ u9k
theorem s00 x:u93 x=u9k u93 x:=zW t99 271 Tryz.f271 3 19 x (by kernel_rfl)
def s4y (x:r8k):Option r8k:=((u93 (([] :List u0a.den),(x,((x.length:Int),0)))).bind fun r2=>match r2 with | .inl o3=>(some o3) | .inr z4=>none)
theorem r6u:u84=s4y:=zC 271 Tryz.f271 rfl Tryz.func271 fun x=>by kernel_rfl
def t3f(x:Z90):Option Z90:=zK 200 x
def s4x (x:Z90):Option Z90:=(bif (Nat.ble x.1.length z7w) then ((u84 x.2.1).bind fun y1=>((u84 x.2.2.1).bind fun y2=>(some (x.1,(y1,(y2,x.2.2.2)))))) else none)
theorem r6t:t3f=s4x:=zC 200 Tryz.f200 rfl Tryz.func200 fun x=>by kernel_rfl
def u3i(x:Z62):Option Z62:=zK 141 x
def t9m (x:Z62):Option Z62:=((t3f x.1).bind fun y1=>((u84 x.2).bind fun y2=>(some (y1,y2))))
theorem r2y:u3i=t9m:=zC 141 Tryz.f141 rfl Tryz.func141 fun x=>by kernel_rfl
def s6c(x:Z62):Option Z55:=zK 51 x
def r3t (x:Z62):Option Z55:=((u3i x).bind fun y1=>((((u5w x).bind fun y2=>(bif (!y2) then (some true) else (bif (decide ((x.2.length:Int)=(4:Int))) then (some true) else (some (decide (x.1.2.2.2.2=9999)))))):Option Bool).bind fun j3=>(bif j3 then (some (y1,(0,3))) else (bif (Nat.ble (y1.2.length+([(x.1.2.2.2.2,(1,(x.1.2.2.2.1,(0,(([] :List r8w.den),(([] :List u13.den),(false,(⟨#[]⟩:ByteArray))))))))] :List u0a.den).length) z7w) then (some (((y1.1.1,(y1.1.2.1,(y1.1.2.2.1,(y1.1.2.2.2.1,(IntKind.i64.wrap (y1.1.2.2.2.2+1)))))),(y1.2++([(x.1.2.2.2.2,(1,(x.1.2.2.2.1,(0,(([] :List r8w.den),(([] :List u13.den),(false,(⟨#[]⟩:ByteArray))))))))] :List u0a.den))),(x.1.2.2.2.2,0))) else none))))
theorem q4x:s6c=r3t:=zC 51 Tryz.f51 rfl Tryz.func51 fun x=>by kernel_rfl
def u4n(x:o0l):Option q34:=zK 387 x
theorem t7x:∀(x:o0l),u4n x=y2q u13 x:=y6f (P:=Tryz.prog) (A:=A) (f:=387) (F:=y2q u13) rfl
def t66(x:p8c):Option q34:=zK 286 x
def u9h(g:p61→Option (p61 ⊕ Unit))(x:p61):Option (p61 ⊕ Unit):=(((bif (decide (x.2.2<(x.2.1.length:Int))) then (bif (y4p x.2.2 x.2.1.length) then (some (y3c (rdL u13 x.2.1 (x.2.2).toNat).1 x.1.1)) else none) else (some false)):Option Bool).bind fun j1=>(bif j1 then (g (x.1,(x.2.1,(IntKind.i64.wrap (x.2.2+1))))) else (some (.inl x))))
def u5m:=lpW _ _ u9h
theorem s0x x:u5m x=u9h u5m x:=zW t96 286 Tryz.f286 3 49 x (by kernel_rfl)
def s4t (x:p8c):Option q34:=(bif (Nat.ble x.1.length z7w) then ((u5m (x.2,(x.1,0))).bind fun r2=>match r2 with | .inl o3=>(((bif (decide (o3.2.2<(o3.2.1.length:Int))) then (bif (y4p o3.2.2 o3.2.1.length) then (some (z7o (rdL u13 o3.2.1 (o3.2.2).toNat).1 o3.1.1)) else none) else (some false)):Option Bool).bind fun j4=>(bif j4 then (bif (y4p o3.2.2 o3.2.1.length) then (some (o3.2.1.set (o3.2.2).toNat o3.1)) else none) else ((u4n (o3.2.1,(o3.2.2,([o3.1] :List u13.den)))).bind fun y5=>(some y5)))) | .inr z6=>none) else none)
theorem r6o:t66=s4t:=zC 286 Tryz.f286 rfl Tryz.func286 fun x=>by kernel_rfl
def t67(x:Z80):Option Z96:=zK 158 x
def s4v (x:Z80):Option Z96:=((u7s x.1).bind fun y1=>((((u6e x.1).bind fun y2=>(bif (!y2) then (some true) else (bif (!decide (x.1.2.1=1)) then (some true) else ((t0w x.2).bind fun y3=>(some (!y3)))))):Option Bool).bind fun j4=>(bif j4 then (some (y1,false)) else ((t66 (x.1.2.2.2.2.2.1,x.2)).bind fun y5=>((u6e (y1.1,(y1.2.1,(y1.2.2.1,(y1.2.2.2.1,(y1.2.2.2.2.1,(y5,y1.2.2.2.2.2.2))))))).bind fun y6=>(bif (!y6) then ((u7s x.1).bind fun y7=>(some (y7,false))) else (some ((y1.1,(y1.2.1,(y1.2.2.1,(y1.2.2.2.1,(y1.2.2.2.2.1,(y5,y1.2.2.2.2.2.2)))))),true))))))))
theorem r6r:t67=s4v:=zC 158 Tryz.f158 rfl Tryz.func158 fun x=>by kernel_rfl
def t3d(x:Z42):Option Z60:=zK 52 x
def r0h (x:Z42):Option Z60:=((u3i x.1).bind fun y1=>((u33 (x.1,x.2.1)).bind fun y2=>(bif (decide (y2<0)) then (some (y1,1)) else ((t0w x.2.2).bind fun y3=>(bif (!y3) then (some (y1,2)) else (bif (y4p y2 x.1.2.length) then ((t67 ((rdL u0a x.1.2 (y2).toNat),x.2.2)).bind fun y4=>(bif (!y4.2) then (some (y1,3)) else (bif (y4p y2 y1.2.length) then (some ((y1.1,(y1.2.set (y2).toNat y4.1)),0)) else none))) else none))))))
theorem q2p:t3d=r0h:=zC 52 Tryz.f52 rfl Tryz.func52 fun x=>by kernel_rfl
def t65(x:Z62):Option Int:=zK 235 x
def u9f(g:p79→Option p02)(x:p79):Option p02:=(bif (decide (x.2.2.2<x.2.2.1)) then (bif (y4p x.2.2.2 x.2.1.length) then (g ((y8i x.1 (rdL u0a x.2.1 (x.2.2.2).toNat).2.2.1),(x.2.1,(x.2.2.1,(IntKind.i64.wrap (x.2.2.2+1)))))) else none) else (some (.inl x.1)))
def u9z:=lpW _ _ u9f
theorem s0v x:u9z x=u9f u9z x:=zW t94 235 Tryz.f235 3 22 x (by kernel_rfl)
def s4r (x:Z62):Option Int:=((u9z (x.1.2.2.2.1,(x.2,((x.2.length:Int),0)))).bind fun r1=>match r1 with | .inl o2=>(some o2) | .inr z3=>none)
theorem r6m:t65=s4r:=zC 235 Tryz.f235 rfl Tryz.func235 fun x=>by kernel_rfl
def t6i(x:p40):Option Int:=zK 363 x
def t2r(g:p9t→Option p02)(x:p9t):Option p02:=(bif (decide (x.2.2.2.2.2.2<x.2.2.2.2.2.1)) then (bif (y4p x.2.2.2.2.2.2 x.2.2.2.2.1.length) then (((bif (z7o (rdL u0g x.2.2.2.2.1 (x.2.2.2.2.2.2).toNat).1 x.2.1) then (bif (decide ((rdL u0g x.2.2.2.2.1 (x.2.2.2.2.2.2).toNat).2.2.2≤x.2.2.1)) then (bif (decide (x.2.2.2.1<0)) then (some true) else (bif (y4p x.2.2.2.1 x.1.length) then (some (decide ((rdL u0g x.2.2.2.2.1 (x.2.2.2.2.2.2).toNat).2.2.2 >(rdL u0g x.1 (x.2.2.2.1).toNat).2.2.2))) else none)) else (some false)) else (some false)):Option Bool).bind fun j1=>(bif j1 then (g (x.1,(x.2.1,(x.2.2.1,(x.2.2.2.2.2.2,(x.2.2.2.2.1,(x.2.2.2.2.2.1,(IntKind.i64.wrap (x.2.2.2.2.2.2+1))))))))) else (g (x.1,(x.2.1,(x.2.2.1,(x.2.2.2.1,(x.2.2.2.2.1,(x.2.2.2.2.2.1,(IntKind.i64.wrap (x.2.2.2.2.2.2+1))))))))))) else none) else (some (.inl x.2.2.2.1)))
def u8n:=lpW _ _ t2r
theorem s6q x:u8n x=t2r u8n x:=zW s5w 363 Tryz.f363 3 44 x (by kernel_rfl)
def r0m (x:p40):Option Int:=((u8n (x.1,(x.2.1,(x.2.2,((-1:Int),(x.1,((x.1.length:Int),0))))))).bind fun r2=>match r2 with | .inl o3=>(some o3) | .inr z4=>none)
theorem q2u:t6i=r0m:=zC 363 Tryz.f363 rfl Tryz.func363 fun x=>by kernel_rfl
def t5s(x:(ByteArray × q0l)):Option Int:=zK 364 x
def u7y(g:p99→Option p02)(x:p99):Option p02:=(bif (decide (x.2.2.2.2<x.2.2.2.1)) then (bif (y4p x.2.2.2.2 x.2.2.1.length) then (bif (z7o (rdL u0g x.2.2.1 (x.2.2.2.2).toNat).1 x.1) then (g (x.1,((IntKind.i64.wrap (x.2.1+1)),(x.2.2.1,(x.2.2.2.1,(IntKind.i64.wrap (x.2.2.2.2+1))))))) else (g (x.1,(x.2.1,(x.2.2.1,(x.2.2.2.1,(IntKind.i64.wrap (x.2.2.2.2+1)))))))) else none) else (some (.inl x.2.1)))
def u4z:=lpW _ _ u7y
theorem t8o x:u4z x=u7y u4z x:=zW t76 364 Tryz.f364 3 21 x (by kernel_rfl)
def s19 (x:(ByteArray × q0l)):Option Int:=((u4z (x.1,(0,(x.2,((x.2.length:Int),0))))).bind fun r1=>match r1 with | .inl o2=>(some o2) | .inr z3=>none)
theorem r43:t5s=s19:=zC 364 Tryz.f364 rfl Tryz.func364 fun x=>by kernel_rfl
def t84(x:p6p):Option q0l:=zK 238 x
def t1a(g:p9r→Option p8m)(x:p9r):Option p8m:=(bif (decide (x.2.2.2.2.2<x.2.2.2.2.1)) then (bif (y4p x.2.2.2.2.2 x.2.2.2.1.length) then (((bif (decide ((rdL u0g x.2.2.2.1 (x.2.2.2.2.2).toNat).2.2.2 >x.2.1)) then (some true) else ((t6i (x.1,((rdL u0g x.2.2.2.1 (x.2.2.2.2.2).toNat).1,x.2.1))).bind fun y1=>(some (decide (y1=x.2.2.2.2.2))))):Option Bool).bind fun j2=>(bif j2 then (bif (Nat.ble (x.2.2.1.length+([(rdL u0g x.2.2.2.1 (x.2.2.2.2.2).toNat)] :List u0g.den).length) z7w) then (g (x.1,(x.2.1,((x.2.2.1++([(rdL u0g x.2.2.2.1 (x.2.2.2.2.2).toNat)] :List u0g.den)),(x.2.2.2.1,(x.2.2.2.2.1,(IntKind.i64.wrap (x.2.2.2.2.2+1)))))))) else none) else (g (x.1,(x.2.1,(x.2.2.1,(x.2.2.2.1,(x.2.2.2.2.1,(IntKind.i64.wrap (x.2.2.2.2.2+1)))))))))) else none) else (some (.inl (x.2.1,x.2.2.1))))
def u64:=lpW _ _ t1a
theorem s3q x:u64 x=t1a u64 x:=zW s2u 238 Tryz.f238 3 66 x (by kernel_rfl)
def u9i(g:p9q→Option p6n)(x:p9q):Option p6n:=(bif (decide (x.2.2.2.2.2<x.2.2.2.2.1)) then (bif (y4p x.2.2.2.2.2 x.2.2.2.1.length) then (bif (decide ((rdL u0g x.2.2.2.1 (x.2.2.2.2.2).toNat).2.2.2 >x.1)) then (bif (Nat.ble (x.2.2.1.length+([(rdL u0g x.2.2.2.1 (x.2.2.2.2.2).toNat)] :List u0g.den).length) z7w) then (g (x.1,(x.2.1,((x.2.2.1++([(rdL u0g x.2.2.2.1 (x.2.2.2.2.2).toNat)] :List u0g.den)),(x.2.2.2.1,(x.2.2.2.2.1,(IntKind.i64.wrap (x.2.2.2.2.2+1)))))))) else none) else (bif (!(rdL u0g x.2.2.2.1 (x.2.2.2.2.2).toNat).2.2.1) then (bif (Nat.ble (x.2.2.1.length+([(rdL u0g x.2.2.2.1 (x.2.2.2.2.2).toNat)] :List u0g.den).length) z7w) then (g (x.1,(x.2.1,((x.2.2.1++([(rdL u0g x.2.2.2.1 (x.2.2.2.2.2).toNat)] :List u0g.den)),(x.2.2.2.1,(x.2.2.2.2.1,(IntKind.i64.wrap (x.2.2.2.2.2+1)))))))) else none) else ((t5s ((rdL u0g x.2.2.2.1 (x.2.2.2.2.2).toNat).1,x.2.1)).bind fun y5=>(bif (decide (y5 >1)) then (bif (Nat.ble (x.2.2.1.length+([(rdL u0g x.2.2.2.1 (x.2.2.2.2.2).toNat)] :List u0g.den).length) z7w) then (g (x.1,(x.2.1,((x.2.2.1++([(rdL u0g x.2.2.2.1 (x.2.2.2.2.2).toNat)] :List u0g.den)),(x.2.2.2.1,(x.2.2.2.2.1,(IntKind.i64.wrap (x.2.2.2.2.2+1)))))))) else none) else (g (x.1,(x.2.1,(x.2.2.1,(x.2.2.2.1,(x.2.2.2.2.1,(IntKind.i64.wrap (x.2.2.2.2.2+1)))))))))))) else none) else (some (.inl x.2.2.1)))
def u91:=lpW _ _ u9i
theorem s0y x:u91 x=u9i u91 x:=zW t97 238 Tryz.f238 11 66 x (by kernel_rfl)
def s7n (x:p6p):Option q0l:=((u64 (x.1,(x.2,(([] :List u0g.den),(x.1,((x.1.length:Int),0)))))).bind fun r3=>match r3 with | .inl o4=>((u91 (o4.1,(o4.2,(([] :List u0g.den),(o4.2,((o4.2.length:Int),0)))))).bind fun r6=>match r6 with | .inl o7=>(some o7) | .inr z8=>none) | .inr z9=>none)
theorem r83:t84=s7n:=zC 238 Tryz.f238 rfl Tryz.func238 fun x=>by kernel_rfl
def u5x(x:Z97):Option Bool:=zK 237 x
def r59 (x:Z97):Option Bool:=(some (decide (x.1.2.2.2.1≤x.2)))
theorem r6q:u5x=r59:=zC 237 Tryz.f237 rfl Tryz.func237 fun x=>by kernel_rfl
def u3c(x:q38):Option Int:=zK 10006 x
def u2r(g:p26→Option q6u)(x:p26):Option q6u:=(bif (decide (x.2.2.2<x.2.2.1)) then (bif (y4p x.2.2.2 x.1.length) then ((u5x ((rdL u0a x.1 (x.2.2.2).toNat),x.2.1)).bind fun y1=>(bif y1 then (some (.inr x.2.2.2)) else (g (x.1,(x.2.1,(x.2.2.1,(IntKind.i64.wrap (x.2.2.2+1)))))))) else none) else (some (.inl ())))
def u05:=lpW _ _ u2r
theorem u6w x:u05 x=u2r u05 x:=zW u2v 10006 Tryz.f148 2 19 x (by kernel_rfl)
def u29 (x:q38):Option Int:=((u05 (x.1,(x.2,((x.1.length:Int),0)))).bind fun r2=>match r2 with | .inl o3=>(some (-1:Int)) | .inr z4=>(some z4))
theorem u7w:u3c=u29:=zC 10006 Tryz.f148 rfl Tryz.func148 fun x=>by kernel_rfl
def u1j(x:q38):Option r8k:=zK 10005 x
def u2h(g:p26→Option (q38 ⊕ Unit))(x:p26):Option (q38 ⊕ Unit):=(bif (decide (x.2.2.2<(x.1.length:Int))) then (bif (y4p x.2.2.2 x.1.length) then ((u5x ((rdL u0a x.1 (x.2.2.2).toNat),x.2.1)).bind fun y2=>(bif (!y2) then (bif (y4p x.2.2.1 x.1.length) then (g ((x.1.set (x.2.2.1).toNat (rdL u0a x.1 (x.2.2.2).toNat)),(x.2.1,((IntKind.i64.wrap (x.2.2.1+1)),(IntKind.i64.wrap (x.2.2.2+1)))))) else none) else (g (x.1,(x.2.1,(x.2.2.1,(IntKind.i64.wrap (x.2.2.2+1)))))))) else none) else (some (.inl (x.1,x.2.2.1))))
def u00:=lpW _ _ u2h
theorem u58 x:u00 x=u2h u00 x:=zW u2l 10005 Tryz.f236 5 42 x (by kernel_rfl)
def u20 (x:q38):Option r8k:=((u3c x).bind fun y1=>(bif (decide (y1=(-1:Int))) then (some x.1) else ((u00 (x.1,(x.2,(y1,(IntKind.i64.wrap (y1+1)))))).bind fun r3=>match r3 with | .inl o4=>(bif (decide (0≤o4.2) && decide (o4.2≤(o4.1.length:Int)) && decide ((o4.1.length:Int)≤(o4.1.length:Int))) then (bif (decide (0≤(0:Int)) && decide ((0:Int)≤o4.2) && decide (o4.2≤((o4.1.take (o4.2).toNat++List.replicate (((o4.1.length:Int)).toNat - (o4.2).toNat) (u0a).zero++o4.1.drop ((o4.2).toNat+(((o4.1.length:Int)).toNat - (o4.2).toNat))).length:Int))) then (some ((o4.1.take (o4.2).toNat++List.replicate (((o4.1.length:Int)).toNat - (o4.2).toNat) (u0a).zero++o4.1.drop ((o4.2).toNat+(((o4.1.length:Int)).toNat - (o4.2).toNat))).take ((o4.2).toNat - ((0:Int)).toNat))) else none) else none) | .inr z5=>none)))
theorem u7m:u1j=u20:=zC 10005 Tryz.f236 rfl Tryz.func236 fun x=>by kernel_rfl
def s1v(x:Z62):Option Z90:=zK 100 x
def r0j (x:Z62):Option Z90:=((t3f x.1).bind fun y1=>((t65 x).bind fun y2=>((u1j (y1.2.1,y2)).bind fun y3=>((t84 (x.1.1,y2)).bind fun y4=>(some (y4,(y3,y1.2.2)))))))
theorem q2r:s1v=r0j:=zC 100 Tryz.f100 rfl Tryz.func100 fun x=>by kernel_rfl
def u4s(x:Z97):Option Bool:=zK 277 x
def r40 (x:Z97):Option Bool:=(some (decide (x.1.1=x.2)))
theorem r45:u4s=r40:=zC 277 Tryz.f277 rfl Tryz.func277 fun x=>by kernel_rfl
def u23(x:q38):Option Int:=zK 10008 x
def u2i(g:p26→Option q6u)(x:p26):Option q6u:=(bif (decide (x.2.2.2<x.2.2.1)) then (bif (y4p x.2.2.2 x.1.length) then ((u4s ((rdL u0a x.1 (x.2.2.2).toNat),x.2.1)).bind fun y1=>(bif y1 then (some (.inr x.2.2.2)) else (g (x.1,(x.2.1,(x.2.2.1,(IntKind.i64.wrap (x.2.2.2+1)))))))) else none) else (some (.inl ())))
def u01:=lpW _ _ u2i
theorem u59 x:u01 x=u2i u01 x:=zW u2m 10008 Tryz.f148 2 19 x (by kernel_rfl)
def u21 (x:q38):Option Int:=((u01 (x.1,(x.2,((x.1.length:Int),0)))).bind fun r2=>match r2 with | .inl o3=>(some (-1:Int)) | .inr z4=>(some z4))
theorem u7n:u23=u21:=zC 10008 Tryz.f148 rfl Tryz.func148 fun x=>by kernel_rfl
def u1g(x:q38):Option r8k:=zK 10007 x
def u2d(g:p26→Option (q38 ⊕ Unit))(x:p26):Option (q38 ⊕ Unit):=(bif (decide (x.2.2.2<(x.1.length:Int))) then (bif (y4p x.2.2.2 x.1.length) then ((u4s ((rdL u0a x.1 (x.2.2.2).toNat),x.2.1)).bind fun y2=>(bif (!y2) then (bif (y4p x.2.2.1 x.1.length) then (g ((x.1.set (x.2.2.1).toNat (rdL u0a x.1 (x.2.2.2).toNat)),(x.2.1,((IntKind.i64.wrap (x.2.2.1+1)),(IntKind.i64.wrap (x.2.2.2+1)))))) else none) else (g (x.1,(x.2.1,(x.2.2.1,(IntKind.i64.wrap (x.2.2.2+1)))))))) else none) else (some (.inl (x.1,x.2.2.1))))
def u0v:=lpW _ _ u2d
theorem u56 x:u0v x=u2d u0v x:=zW u2e 10007 Tryz.f236 5 42 x (by kernel_rfl)
def u2s (x:q38):Option r8k:=((u23 x).bind fun y1=>(bif (decide (y1=(-1:Int))) then (some x.1) else ((u0v (x.1,(x.2,(y1,(IntKind.i64.wrap (y1+1)))))).bind fun r3=>match r3 with | .inl o4=>(bif (decide (0≤o4.2) && decide (o4.2≤(o4.1.length:Int)) && decide ((o4.1.length:Int)≤(o4.1.length:Int))) then (bif (decide (0≤(0:Int)) && decide ((0:Int)≤o4.2) && decide (o4.2≤((o4.1.take (o4.2).toNat++List.replicate (((o4.1.length:Int)).toNat - (o4.2).toNat) (u0a).zero++o4.1.drop ((o4.2).toNat+(((o4.1.length:Int)).toNat - (o4.2).toNat))).length:Int))) then (some ((o4.1.take (o4.2).toNat++List.replicate (((o4.1.length:Int)).toNat - (o4.2).toNat) (u0a).zero++o4.1.drop ((o4.2).toNat+(((o4.1.length:Int)).toNat - (o4.2).toNat))).take ((o4.2).toNat - ((0:Int)).toNat))) else none) else none) | .inr z5=>none)))
theorem u6p:u1g=u2s:=zC 10007 Tryz.f236 rfl Tryz.func236 fun x=>by kernel_rfl
def t86(x:Z60):Option Z62:=zK 145 x
def s7q (x:Z60):Option Z62:=((u3i x.1).bind fun y1=>((u1g (y1.2,x.2)).bind fun y2=>(some (y1.1,y2))))
theorem r88:t86=s7q:=zC 145 Tryz.f145 rfl Tryz.func145 fun x=>by kernel_rfl
def t8f(x:Z60):Option Z60:=zK 77 x
def r3v (x:Z60):Option Z60:=((t86 x).bind fun y1=>((u33 x).bind fun y2=>(bif (decide (y2<0)) then (some (y1,1)) else ((s1v y1).bind fun y3=>(some ((y3,y1.2),0))))))
theorem q4z:t8f=r3v:=zC 77 Tryz.f77 rfl Tryz.func77 fun x=>by kernel_rfl
def t0x(x:p8g):Option Int:=zK 446 x
def u1r(g:p97→Option q6u)(x:p97):Option q6u:=(bif (decide (x.2.2.2<x.2.2.1)) then (bif (y4p x.2.2.2 x.1.length) then (bif (z7o x.2.1.1 (rdL r8w x.1 (x.2.2.2).toNat).1 && (z7o x.2.1.2 (rdL r8w x.1 (x.2.2.2).toNat).2 && true)) then (some (.inr x.2.2.2)) else (g (x.1,(x.2.1,(x.2.2.1,(IntKind.i64.wrap (x.2.2.2+1))))))) else none) else (some (.inl ())))
def u1t:=lpW _ _ u1r
theorem u9b x:u1t x=u1r u1t x:=zW u80 446 Tryz.f446 2 19 x (by kernel_rfl)
def t0s (x:p8g):Option Int:=((u1t (x.1,(x.2,((x.1.length:Int),0)))).bind fun r1=>match r1 with | .inl o2=>(some (-1:Int)) | .inr z3=>(some z3))
theorem t80:t0x=t0s:=zC 446 Tryz.f446 rfl Tryz.func446 fun x=>by kernel_rfl
def u35(x:p8g):Option Bool:=zK 395 x
def u8c (x:p8g):Option Bool:=((t0x x).bind fun y1=>(some (decide (y1≥0))))
theorem t6f:u35=u8c:=zC 395 Tryz.f395 rfl Tryz.func395 fun x=>by kernel_rfl
def t5r(x:Z87):Option Z96:=zK 323 x
def s18 (x:Z87):Option Z96:=((u7s x.1).bind fun y1=>((((u6e x.1).bind fun y2=>(bif (!y2) then (some true) else (bif (!decide (x.1.2.1=1)) then (some true) else ((t0v x.2).bind fun y3=>(some (!y3)))))):Option Bool).bind fun j4=>(bif j4 then (some (y1,false)) else ((u35 (x.1.2.2.2.2.1,x.2)).bind fun y5=>(bif y5 then (some (y1,true)) else (bif (decide ((x.1.2.2.2.2.1.length:Int)=(8:Int))) then (some (y1,false)) else (bif (Nat.ble (y1.2.2.2.2.1.length+([x.2] :List r8w.den).length) z7w) then (some ((y1.1,(y1.2.1,(y1.2.2.1,(y1.2.2.2.1,((y1.2.2.2.2.1++([x.2] :List r8w.den)),y1.2.2.2.2.2))))),true)) else none)))))))
theorem r42:t5r=s18:=zC 323 Tryz.f323 rfl Tryz.func323 fun x=>by kernel_rfl
def t8g(x:Z43):Option Z55:=zK 206 x
def r3y (x:Z43):Option Z55:=((u3i x.1).bind fun y1=>((u33 (x.1,x.2.1)).bind fun y2=>(bif (decide (y2<0)) then (some (y1,(y2,1))) else (bif (!x.2.2.2) then (some (y1,(y2,2))) else (bif (y4p y2 x.1.2.length) then ((t5r ((rdL u0a x.1.2 (y2).toNat),x.2.2.1)).bind fun y3=>(bif (!y3.2) then (some (y1,(y2,3))) else (bif (y4p y2 y1.2.length) then (some ((y1.1,(y1.2.set (y2).toNat y3.1)),(y2,0))) else none))) else none)))))
theorem q42:t8g=r3y:=zC 206 Tryz.f206 rfl Tryz.func206 fun x=>by kernel_rfl
def s1u(x:p40):Option r2k:=zK 260 x
def r0i (x:p40):Option r2k:=((t6i x).bind fun y1=>(((bif (decide (y1<0)) then (some true) else (bif (y4p y1 x.1.length) then (some (rdL u0g x.1 (y1).toNat).2.2.1) else none)):Option Bool).bind fun j2=>(bif j2 then (some ((⟨#[]⟩:ByteArray),false)) else (bif (y4p y1 x.1.length) then (some ((rdL u0g x.1 (y1).toNat).2.1,true)) else none))))
theorem q2q:s1u=r0i:=zC 260 Tryz.f260 rfl Tryz.func260 fun x=>by kernel_rfl
def t4w(x:o0o):Option Bool:=zK 397 x
def r8y (x:o0o):Option Bool:=(some (z7o x.1.1 x.2))
theorem r87:t4w=r8y:=zC 397 Tryz.f397 rfl Tryz.func397 fun x=>by kernel_rfl
def u24(x:(q34 × ByteArray)):Option Int:=zK 10003 x
def u2j(g:o0m→Option q6u)(x:o0m):Option q6u:=(bif (decide (x.2.2.2<x.2.2.1)) then (bif (y4p x.2.2.2 x.1.length) then ((t4w ((rdL u13 x.1 (x.2.2.2).toNat),x.2.1)).bind fun y1=>(bif y1 then (some (.inr x.2.2.2)) else (g (x.1,(x.2.1,(x.2.2.1,(IntKind.i64.wrap (x.2.2.2+1)))))))) else none) else (some (.inl ())))
def u02:=lpW _ _ u2j
theorem u6a x:u02 x=u2j u02 x:=zW u2n 10003 Tryz.f396 2 19 x (by kernel_rfl)
def u22 (x:(q34 × ByteArray)):Option Int:=((u02 (x.1,(x.2,((x.1.length:Int),0)))).bind fun r2=>match r2 with | .inl o3=>(some (-1:Int)) | .inr z4=>(some z4))
theorem u7o:u24=u22:=zC 10003 Tryz.f396 rfl Tryz.func396 fun x=>by kernel_rfl
def r4m(x:Z95):Option Int:=zK 324 x
def r3x (x:Z95):Option Int:=((u24 (x.1.2.2.2.2.2.1,x.2)).bind fun y1=>(some y1))
theorem q41:r4m=r3x:=zC 324 Tryz.f324 rfl Tryz.func324 fun x=>by kernel_rfl
def t6h(x:Z77):Option r2k:=zK 207 x
def r0g (x:Z77):Option r2k:=((r4m (x.1,x.2.2)).bind fun y1=>(bif (decide (y1≥0)) then (bif (y4p y1 x.1.2.2.2.2.2.1.length) then (bif (rdL u13 x.1.2.2.2.2.2.1 (y1).toNat).2.2 then (some ((⟨#[]⟩:ByteArray),false)) else (bif (y4p y1 x.1.2.2.2.2.2.1.length) then (some ((rdL u13 x.1.2.2.2.2.2.1 (y1).toNat).2.1,true)) else none)) else none) else ((s1u (x.2.1,(x.2.2,x.1.2.2.1))).bind fun y2=>(some y2))))
theorem q2o:t6h=r0g:=zC 207 Tryz.f207 rfl Tryz.func207 fun x=>by kernel_rfl
def u43(x:Z52):Option Z48:=zK 78 x
def r0e (x:Z52):Option Z48:=((u6d x.2.2).bind fun y1=>((t8g (x.1,(x.2.1,((x.2.2,x.2.2),y1)))).bind fun y2=>(bif (!decide (y2.2.2=0)) then (some (y2.1,((⟨#[]⟩:ByteArray),(false,y2.2.2)))) else (bif (y4p y2.2.1 x.1.2.length) then ((t6h ((rdL u0a x.1.2 (y2.2.1).toNat),(x.1.1.1,x.2.2))).bind fun y3=>(some (y2.1,(y3.1,(y3.2,0))))) else none))))
theorem q2m:u43=r0e:=zC 78 Tryz.f78 rfl Tryz.func78 fun x=>by kernel_rfl
def t82(x:p8i):Option Bool:=zK 258 x
def s7k (x:p8i):Option Bool:=(((bif (!y3c x.2 x.1.1) then (some (y3c x.2 x.1.2 || z7o x.2 x.1.2)) else (some false)):Option Bool).bind fun j1=>(some j1))
theorem r80:t82=s7k:=zC 258 Tryz.f258 rfl Tryz.func258 fun x=>by kernel_rfl
def u4k(x:r8p):Option r8p:=zK 325 x
theorem u8x:∀(x:r8p),u4k x=y7a x:=y6f (P:=Tryz.prog) (A:=A) (f:=325) (F:=y7a) rfl
def u3o(x:r8p):Option r8p:=zK 326 x
theorem u6b:∀(x:r8p),u3o x=y0m x:=y6f (P:=Tryz.prog) (A:=A) (f:=326) (F:=y0m) rfl
def s1x(x:q0l):Option r8p:=zK 259 x
def t2q(g:o0d→Option (r8p ⊕ Unit))(x:o0d):Option (r8p ⊕ Unit):=(bif (decide (x.2.2.2<x.2.2.1)) then (bif (y4p x.2.2.2 x.2.1.length) then (bif (Nat.ble (x.1.length+([(rdL u0g x.2.1 (x.2.2.2).toNat).1] :List ByteArray).length) z7w) then (g ((x.1++([(rdL u0g x.2.1 (x.2.2.2).toNat).1] :List ByteArray)),(x.2.1,(x.2.2.1,(IntKind.i64.wrap (x.2.2.2+1)))))) else none) else none) else (some (.inl x.1)))
def t2z:=lpW _ _ t2q
theorem s6p x:t2z x=t2q t2z x:=zW s5v 259 Tryz.f259 3 22 x (by kernel_rfl)
def r0l (x:q0l):Option r8p:=((t2z (([] :List ByteArray),(x,((x.length:Int),0)))).bind fun r1=>match r1 with | .inl o2=>((u4k o2).bind fun y3=>((u3o y3).bind fun y4=>(some y4))) | .inr z5=>none)
theorem q2t:s1x=r0l:=zC 259 Tryz.f259 rfl Tryz.func259 fun x=>by kernel_rfl
def t83(x:Z67):Option p22:=zK 209 x
def t09(g:Z40→Option (Z59 ⊕ Unit))(x:Z40):Option (Z59 ⊕ Unit):=(bif (decide (x.2.2.2.2.2.2<x.2.2.2.2.2.1)) then (bif (y4p x.2.2.2.2.2.2 x.2.2.2.2.1.length) then (bif (Nat.ble (x.2.2.2.1.length+([(rdL u13 x.2.2.2.2.1 (x.2.2.2.2.2.2).toNat).1] :List ByteArray).length) z7w) then (g (x.1,(x.2.1,(x.2.2.1,((x.2.2.2.1++([(rdL u13 x.2.2.2.2.1 (x.2.2.2.2.2.2).toNat).1] :List ByteArray)),(x.2.2.2.2.1,(x.2.2.2.2.2.1,(IntKind.i64.wrap (x.2.2.2.2.2.2+1))))))))) else none) else none) else (some (.inl (x.1,(x.2.1,(x.2.2.1,x.2.2.2.1))))))
def u63:=lpW _ _ t09
theorem s3p x:u63 x=t09 u63 x:=zW s2t 209 Tryz.f209 3 60 x (by kernel_rfl)
def u9g(g:Z41→Option p6o)(x:Z41):Option p6o:=(bif (decide (x.2.2.2.2.2.2<x.2.2.2.2.2.1)) then (bif (y4p x.2.2.2.2.2.2 x.2.2.2.2.1.length) then ((t6h (x.2.1,(x.1,(rdL Ty.str x.2.2.2.2.1 (x.2.2.2.2.2.2).toNat)))).bind fun y6=>(((bif y6.2 then ((t82 (x.2.2.1,(rdL Ty.str x.2.2.2.2.1 (x.2.2.2.2.2.2).toNat))).bind fun y7=>(some y7)) else (some false)):Option Bool).bind fun j8=>(bif j8 then (bif (Nat.ble (x.2.2.2.1.length+([((rdL Ty.str x.2.2.2.2.1 (x.2.2.2.2.2.2).toNat),y6.1)] :List r8w.den).length) z7w) then (g (x.1,(x.2.1,(x.2.2.1,((x.2.2.2.1++([((rdL Ty.str x.2.2.2.2.1 (x.2.2.2.2.2.2).toNat),y6.1)] :List r8w.den)),(x.2.2.2.2.1,(x.2.2.2.2.2.1,(IntKind.i64.wrap (x.2.2.2.2.2.2+1))))))))) else none) else (g (x.1,(x.2.1,(x.2.2.1,(x.2.2.2.1,(x.2.2.2.2.1,(x.2.2.2.2.2.1,(IntKind.i64.wrap (x.2.2.2.2.2.2+1)))))))))))) else none) else (some (.inl x.2.2.2.1)))
def u90:=lpW _ _ u9g
theorem s0w x:u90 x=u9g u90 x:=zW t95 209 Tryz.f209 10 60 x (by kernel_rfl)
def s7l (x:Z67):Option p22:=((s1x x.2.1).bind fun y1=>((u63 (x.2.1,(x.1,(x.2.2,(y1,(x.1.2.2.2.2.2.1,((x.1.2.2.2.2.2.1.length:Int),0))))))).bind fun r2=>match r2 with | .inl o3=>((u4k o3.2.2.2).bind fun y4=>((u3o y4).bind fun y5=>((u90 (o3.1,(o3.2.1,(o3.2.2.1,(([] :List r8w.den),(y5,((y5.length:Int),0))))))).bind fun r9=>match r9 with | .inl o10=>(some o10) | .inr z11=>none))) | .inr z12=>none))
theorem r81:t83=s7l:=zC 209 Tryz.f209 rfl Tryz.func209 fun x=>by kernel_rfl
def t3e(x:Z46):Option Z50:=zK 79 x
def s4u (x:Z46):Option Z50:=((t0v x.2.2).bind fun y1=>((t8g (x.1,(x.2.1,(x.2.2,y1)))).bind fun y2=>(bif (!decide (y2.2.2=0)) then (some (y2.1,(([] :List r8w.den),y2.2.2))) else (bif (y4p y2.2.1 x.1.2.length) then ((t83 ((rdL u0a x.1.2 (y2.2.1).toNat),(x.1.1.1,x.2.2))).bind fun y3=>(some (y2.1,(y3,0)))) else none))))
theorem r6p:t3e=s4u:=zC 79 Tryz.f79 rfl Tryz.func79 fun x=>by kernel_rfl
def s3m(x:q35):Option Bool:=zK 10 x
def s2b (x:q35):Option Bool:=((q1c x).bind fun y1=>(bif y1 then (some true) else ((t0b x).bind fun y2=>((t8f y2).bind fun y3=>((s6c y3.1).bind fun y4=>(((bif (!decide (y3.2=0)) then (some true) else (bif (!decide (y4.2.2=0)) then (some true) else ((u33 (y3.1,y2.2)).bind fun y5=>(bif (!decide (y5=(-1:Int))) then (some true) else ((u33 (y4.1,y4.2.1)).bind fun y6=>(some (!decide (y6=(IntKind.i64.wrap ((y4.1.2.length:Int) - (1:Int))))))))))):Option Bool).bind fun j7=>(bif j7 then (some false) else ((u43 (y4.1,(y4.2.1,(⟨#[97]⟩:ByteArray)))).bind fun y8=>((t0e (y2.1.1.1,((⟨#[97]⟩:ByteArray),y2.1.1.2.2.2.1))).bind fun y9=>((s0n ()).bind fun y10=>((t3e (y8.1,(y4.2.1,y10))).bind fun y11=>((t3d (y11.1,(y4.2.1,((⟨#[97]⟩:ByteArray),((⟨#[109,105,110,101]⟩:ByteArray),false))))).bind fun y12=>((u43 (y12.1,(y4.2.1,(⟨#[97]⟩:ByteArray)))).bind fun y13=>(((bif (decide (y8.2.2.2=0)) then (bif (z7o y8.2.1 y9.1) then (bif (y8.2.2.1==y9.2) then (bif (decide (y11.2.2=0)) then ((s0n ()).bind fun y14=>((u6r (y2.1.1.1,(y14,y2.1.1.2.2.2.1))).bind fun y15=>((t13 (y11.2.1,y15)).bind fun y16=>(bif y16 then (bif (decide (y12.2=0)) then (bif y13.2.2.1 then (bif (z7o y13.2.1 (⟨#[109,105,110,101]⟩:ByteArray)) then ((u5w y2.1).bind fun y17=>(bif y17 then ((u5w y12.1).bind fun y18=>(bif y18 then ((s0n ()).bind fun y19=>((u6r (y12.1.1.1,(y19,y12.1.1.2.2.2.1))).bind fun y20=>((t13 (y20,y11.2.1)).bind fun y21=>(some y21)))) else (some false))) else (some false))) else (some false)) else (some false)) else (some false)) else (some false))))) else (some false)) else (some false)) else (some false)) else (some false)):Option Bool).bind fun j22=>(some j22)))))))))))))))
theorem r46:s3m=s2b:=zC 10 Tryz.f10 rfl Tryz.func10 fun x=>by kernel_rfl
end
end Go.Proofs.YtbkicjpdlchbgaaGreat.Ab
