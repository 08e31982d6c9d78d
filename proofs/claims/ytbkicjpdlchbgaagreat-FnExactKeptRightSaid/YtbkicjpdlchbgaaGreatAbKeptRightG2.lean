import Derived.Test.YtbkicjpdlchbgaaGreatAbKeptRightG1
namespace Go.Proofs.YtbkicjpdlchbgaaGreat.Ab
open Go
set_option linter.unusedVariables false
noncomputable section
set_option maxRecDepth 100000
def t1o(x:Z31):Option Z75:=zK 150 x
def t14(g:Z8→Option (Z9⊕Unit))(x:Z8):Option (Z9⊕Unit):=(bif (decide (x.2.2.2.2.2.2<x.2.2.2.2.2.1)) then(bif (y4q x.2.2.2.2.2.2 x.2.2.1.2.2.1.length) then(bif (rdL u0a x.2.2.1.2.2.1 (x.2.2.2.2.2.2).toNat).2.2.2.2.2.2.1 then(bif (y4q x.2.2.2.2.2.2 x.2.2.1.2.2.1.length) then(g (x.1,(x.2.1,((x.2.2.1.1,(x.2.2.1.2.1,((x.2.2.1.2.2.1.set (x.2.2.2.2.2.2).toNat ((rdL u0a x.2.2.1.2.2.1 (x.2.2.2.2.2.2).toNat).1,((rdL u0a x.2.2.1.2.2.1 (x.2.2.2.2.2.2).toNat).2.1,((rdL u0a x.2.2.1.2.2.1 (x.2.2.2.2.2.2).toNat).2.2.1,((rdL u0a x.2.2.1.2.2.1 (x.2.2.2.2.2.2).toNat).2.2.2.1,((rdL u0a x.2.2.1.2.2.1 (x.2.2.2.2.2.2).toNat).2.2.2.2.1,((rdL u0a x.2.2.1.2.2.1 (x.2.2.2.2.2.2).toNat).2.2.2.2.2.1,(true,(rdL u0a x.2.2.1.2.2.1 (x.2.2.2.2.2.2).toNat).2.2.2.2.2.2.2)))))))),x.2.2.1.2.2.2))),(x.2.2.2.1,((),(x.2.2.2.2.2.1,(IntKind.i64.wrap (x.2.2.2.2.2.2+1))))))))) else none) else((s0m ((rdL u0a x.2.2.1.2.2.1 (x.2.2.2.2.2.2).toNat),x.2.2.2.1)).bind fun y5=>(bif (y4q x.2.2.2.2.2.2 x.2.2.1.2.2.1.length) then(g (x.1,(x.2.1,((x.2.2.1.1,(x.2.2.1.2.1,((x.2.2.1.2.2.1.set (x.2.2.2.2.2.2).toNat ((rdL u0a x.2.2.1.2.2.1 (x.2.2.2.2.2.2).toNat).1,((rdL u0a x.2.2.1.2.2.1 (x.2.2.2.2.2.2).toNat).2.1,((rdL u0a x.2.2.1.2.2.1 (x.2.2.2.2.2.2).toNat).2.2.1,((rdL u0a x.2.2.1.2.2.1 (x.2.2.2.2.2.2).toNat).2.2.2.1,((rdL u0a x.2.2.1.2.2.1 (x.2.2.2.2.2.2).toNat).2.2.2.2.1,((rdL u0a x.2.2.1.2.2.1 (x.2.2.2.2.2.2).toNat).2.2.2.2.2.1,(y5,(rdL u0a x.2.2.1.2.2.1 (x.2.2.2.2.2.2).toNat).2.2.2.2.2.2.2)))))))),x.2.2.1.2.2.2))),(x.2.2.2.1,((),(x.2.2.2.2.2.1,(IntKind.i64.wrap (x.2.2.2.2.2.2+1))))))))) else none))) else none) else(some (.inl (x.1,(x.2.1,(x.2.2.1,x.2.2.2.1))))))
def u5a:=lpW _ _ t14
theorem s7l x:u5a x=t14 u5a x:=zW s6r 150 Tryz.f150 9 80 x (by kernel_rfl)
def r2d (x:Z31):Option Z75:=((u1i x.1).bind fun y1=>((t1p x.2).bind fun y2=>(bif x.2.2.2.2.2.2.2.1 then((u86 (x.1.1,(x.2.2.2.2.2.2.1,(IntKind.i64.wrap (y1.2.2.2.1+1))))).bind fun y3=>((u09 (y1.2.2.1,x.2)).bind fun y4=>((u5a (x.2,((([] :List u0d.den),(([] :List u0a.den),(([] :List u0a.den),(0,0)))),((y3,(y1.2.1,(y4,((IntKind.i64.wrap (y1.2.2.2.1+1)),y1.2.2.2.2)))),((y2.1,(3,(y2.2.2.1,((IntKind.i64.wrap (x.1.2.2.2.1+1)),(y2.2.2.2.2.1,(y2.2.2.2.2.2.1,(true,(⟨#[]⟩:ByteArray)))))))),((),((y4.length:Int),0))))))).bind fun r6=>match r6 with | .inl o7=>(bif (Nat.ble (o7.2.2.1.2.1.length+([o7.2.2.2] :List u0a.den).length) z7w) then(some (o7.2.2.1.1,((o7.2.2.1.2.1++([o7.2.2.2] :List u0a.den)),(o7.2.2.1.2.2.1,(o7.2.2.1.2.2.2.1,(y8h o7.2.2.1.2.2.2.2 (IntKind.i64.wrap (o7.1.1+1)))))))) else none) | .inr z8=>none))) else((s0o (x.2,x.1.2.1)).bind fun y9=>((u86 (x.1.1,(x.2.2.2.2.2.2.1,(IntKind.i64.wrap (y1.2.2.2.1+1))))).bind fun y10=>((u09 (y1.2.2.1,x.2)).bind fun y11=>((u5a (x.2,((([] :List u0d.den),(([] :List u0a.den),(([] :List u0a.den),(0,0)))),((y10,(y1.2.1,(y11,((IntKind.i64.wrap (y1.2.2.2.1+1)),y1.2.2.2.2)))),((y2.1,(3,(y2.2.2.1,((IntKind.i64.wrap (x.1.2.2.2.1+1)),(y2.2.2.2.2.1,(y2.2.2.2.2.2.1,(y9,(⟨#[]⟩:ByteArray)))))))),((),((y11.length:Int),0))))))).bind fun r13=>match r13 with | .inl o14=>(bif (Nat.ble (o14.2.2.1.2.1.length+([o14.2.2.2] :List u0a.den).length) z7w) then(some (o14.2.2.1.1,((o14.2.2.1.2.1++([o14.2.2.2] :List u0a.den)),(o14.2.2.1.2.2.1,(o14.2.2.1.2.2.2.1,(y8h o14.2.2.1.2.2.2.2 (IntKind.i64.wrap (o14.1.1+1)))))))) else none) | .inr z15=>none)))))))
theorem q34:t1o=r2d:=zC 150 rfl Tryz.func150 (by kernel_rfl)
def u5f(x:Z82):Option Bool:=zK 280 x
def r9j (x:Z82):Option Bool:=(some (z7o x.1.2.2.2.2.2.2.2 x.2))
theorem r9n:u5f=r9j:=zC 280 rfl Tryz.func280 (by kernel_rfl)
def u3n(x:p9c):Option Int:=zK 10014 x
def u2u(g:p9b→Option p00)(x:p9b):Option p00:=(bif (decide (x.2.2.2<x.2.2.1)) then(bif (y4q x.2.2.2 x.1.length) then((u5f ((rdL u0a x.1 (x.2.2.2).toNat),x.2.1)).bind fun y1=>(bif y1 then(some (.inr x.2.2.2)) else(g (x.1,(x.2.1,(x.2.2.1,(IntKind.i64.wrap (x.2.2.2+1)))))))) else none) else(some (.inl ())))
def u01:=lpW _ _ u2u
theorem u6u x:u01 x=u2u u01 x:=zW u2z 10014 Tryz.f148 2 19 x (by kernel_rfl)
def u3j (x:p9c):Option Int:=((u01 (x.1,(x.2,((x.1.length:Int),0)))).bind fun r2=>match r2 with | .inl o3=>(some (-1:Int)) | .inr z4=>(some z4))
theorem u8a:u3n=u3j:=zC 10014 rfl Tryz.func148 (by kernel_rfl)
def u1v(x:p9c):Option r61:=zK 10013 x
def u2n(g:p9b→Option p9g)(x:p9b):Option p9g:=(bif (decide (x.2.2.2<(x.1.length:Int))) then(bif (y4q x.2.2.2 x.1.length) then((u5f ((rdL u0a x.1 (x.2.2.2).toNat),x.2.1)).bind fun y2=>(bif (!y2) then(bif (y4q x.2.2.1 x.1.length) then(g ((x.1.set (x.2.2.1).toNat (rdL u0a x.1 (x.2.2.2).toNat)),(x.2.1,((IntKind.i64.wrap (x.2.2.1+1)),(IntKind.i64.wrap (x.2.2.2+1)))))) else none) else(g (x.1,(x.2.1,(x.2.2.1,(IntKind.i64.wrap (x.2.2.2+1)))))))) else none) else(some (.inl (x.1,x.2.2.1))))
def u0u:=lpW _ _ u2n
theorem u6p x:u0u x=u2n u0u x:=zW u2p 10013 Tryz.f236 5 42 x (by kernel_rfl)
def u28 (x:p9c):Option r61:=((u3n x).bind fun y1=>(bif (decide (y1=(-1:Int))) then(some x.1) else((u0u (x.1,(x.2,(y1,(IntKind.i64.wrap (y1+1)))))).bind fun r3=>match r3 with | .inl o4=>(bif (decide (0≤o4.2)&&decide (o4.2≤(o4.1.length:Int))&&decide ((o4.1.length:Int)≤(o4.1.length:Int))) then(bif (decide (0≤(0:Int))&&decide ((0:Int)≤o4.2)&&decide (o4.2≤((o4.1.take (o4.2).toNat++List.replicate (((o4.1.length:Int)).toNat - (o4.2).toNat) (u0a).zero++o4.1.drop ((o4.2).toNat+(((o4.1.length:Int)).toNat - (o4.2).toNat))).length:Int))) then(some ((o4.1.take (o4.2).toNat++List.replicate (((o4.1.length:Int)).toNat - (o4.2).toNat) (u0a).zero++o4.1.drop ((o4.2).toNat+(((o4.1.length:Int)).toNat - (o4.2).toNat))).take ((o4.2).toNat - ((0:Int)).toNat))) else none) else none) | .inr z5=>none)))
theorem u7k:u1v=u28:=zC 10013 rfl Tryz.func236 (by kernel_rfl)
def t5w(x:Z66):Option Z75:=zK 152 x
def r1y (x:Z66):Option Z75:=((u1i x.1).bind fun y1=>((u1v (y1.2.2.1,x.2)).bind fun y2=>(some (y1.1,(y1.2.1,(y2,y1.2.2.2))))))
theorem q3v:t5w=r1y:=zC 152 rfl Tryz.func152 (by kernel_rfl)
def s48(x:Z13):Option Z68:=zK 72 x
def r4x (x:Z13):Option Z68:=((((u16 x.1).bind fun y1=>(bif (!y1) then(some true) else((t4j x.2).bind fun y2=>(some (!y2))))):Option Bool).bind fun j3=>(bif j3 then((u1i x.1).bind fun y4=>(some (y4,false))) else((u1i x.1).bind fun y5=>(bif (decide (x.2.1=1)) then((t1o (x.1,x.2.2.1)).bind fun y6=>((u31 (y6,([] :List u0a.den))).bind fun y7=>(((bif (!(decide (x.2.2.1.2.2.2.1=(IntKind.i64.wrap (x.1.2.2.2.1+1))))) then(some true) else((u16 y7).bind fun y8=>(some (!y8)))):Option Bool).bind fun j9=>(bif j9 then((u1i x.1).bind fun y10=>(some (y10,false))) else(some (y7,true)))))) else(bif (decide (x.2.1=2)) then(((bif (decide ((x.1.2.2.1.length:Int)<(3:Int))) then((t52 (x.1,x.2.2.1.2.2.2.2.2.2.2)).bind fun y11=>(some (decide (y11<0)))) else(some false)):Option Bool).bind fun j12=>((t6z (x.1,(x.2.2.1,x.2.2.1.2.2.2.2.2.2.2))).bind fun y13=>((u31 (y13,([] :List u0a.den))).bind fun y14=>(((bif (!j12) then(some true) else((u16 y14).bind fun y15=>(some (!y15)))):Option Bool).bind fun j16=>(bif j16 then((u1i x.1).bind fun y17=>(some (y17,false))) else(some (y14,true))))))) else(bif (decide (x.2.1=3)) then((t52 (x.1,x.2.2.2.1)).bind fun y18=>(((bif (decide (y18≥0)) then(some x.2.2.2.2.1) else(some false)):Option Bool).bind fun j19=>(bif j19 then(bif (y4q y18 x.1.2.2.1.length) then((t1o (x.1,(rdL u0a x.1.2.2.1 (y18).toNat))).bind fun y20=>((u31 (y20,([] :List u0a.den))).bind fun y21=>(((bif (!(decide (y18≥0))) then(some true) else((u16 y21).bind fun y22=>(some (!y22)))):Option Bool).bind fun j23=>(bif j23 then((u1i x.1).bind fun y24=>(some (y24,false))) else(some (y21,true)))))) else none) else((t5w (x.1,x.2.2.2.1)).bind fun y25=>((u31 (y25,([] :List u0a.den))).bind fun y26=>(((bif (!(decide (y18≥0))) then(some true) else((u16 y26).bind fun y27=>(some (!y27)))):Option Bool).bind fun j28=>(bif j28 then((u1i x.1).bind fun y29=>(some (y29,false))) else(some (y26,true))))))))) else((u1i x.2.2.2.2.2).bind fun y30=>((u31 (y30,([] :List u0a.den))).bind fun y31=>((((u16 y31).bind fun y32=>(some (!y32))):Option Bool).bind fun j33=>(bif j33 then((u1i x.1).bind fun y34=>(some (y34,false))) else(some (y31,true))))))))))))
theorem q66:s48=r4x:=zC 72 rfl Tryz.func72 (by kernel_rfl)
def r3v(x:Unit):Option Z75:=zK 98 x
def r1w (x:Unit):Option Z75:=(some (([] :List u0d.den),(([] :List u0a.den),(([] :List u0a.den),(0,1)))))
theorem q3t:r3v=r1w:=zC 98 rfl Tryz.func98 (by kernel_rfl)
def t0x(x:q05):Option s13:=zK 426 x
def u64(g:o3v→Option o1u)(x:o3v):Option o1u:=(bif (decide (x.2.2.2.2<x.2.2.2.1)) then(bif (y4q x.2.2.2.2 x.2.2.1.length) then(bif (decide ((rdL q0k x.2.2.1 (x.2.2.2.2).toNat).1=x.1)) then(g (x.1,((rdL q0k x.2.2.1 (x.2.2.2.2).toNat).2,(x.2.2.1,(x.2.2.2.1,(IntKind.i64.wrap (x.2.2.2.2+1))))))) else(g (x.1,(x.2.1,(x.2.2.1,(x.2.2.2.1,(IntKind.i64.wrap (x.2.2.2.2+1)))))))) else none) else(some (.inl x.2.1)))
def u7b:=lpW _ _ u64
theorem t9p x:u7b x=u64 u7b x:=zW t8g 426 Tryz.f426 5 36 x (by kernel_rfl)
def s2d (x:q05):Option s13:=((u08 (x.2,(0,(IntKind.i64.wrap ((x.1.1.length:Int) - (1:Int)))))).bind fun y1=>(bif (!y1) then(some ((⟨#[]⟩:ByteArray),false)) else(bif (y4q x.2 x.1.1.length) then((u7b (x.2,((rdL Ty.str x.1.1 (x.2).toNat),(x.1.2,((x.1.2.length:Int),0))))).bind fun r2=>match r2 with | .inl o3=>(some (o3,true)) | .inr z4=>none) else none)))
theorem r7b:t0x=s2d:=zC 426 rfl Tryz.func426 (by kernel_rfl)
def t49(x:o08):Option s13:=zK 358 x
def u65(g:o3c→Option (r4n⊕s13))(x:o3c):Option (r4n⊕s13):=(bif (decide (x.2.2.2.2<x.2.1)) then((t0x (x.2.2.1,(IntKind.i64.wrap (x.1+x.2.2.2.2)))).bind fun y2=>(bif (!y2.2) then(some (.inr ((⟨#[]⟩:ByteArray),false))) else(bif (Nat.ble (x.2.2.2.1.length+(z7t y2.1).length) z7w) then(g (x.1,(x.2.1,(x.2.2.1,((x.2.2.2.1++(z7t y2.1)),(IntKind.i64.wrap (x.2.2.2.2+1))))))) else none))) else(some (.inl x.2.2.2.1)))
def u7c:=lpW _ _ u65
theorem t9q x:u7c x=u65 u7c x:=zW t8h 358 Tryz.f358 5 35 x (by kernel_rfl)
def s2g (x:o08):Option s13:=((u08 (x.2.2,(0,100))).bind fun y1=>(bif (!y1) then(some ((⟨#[]⟩:ByteArray),false)) else((u7c (x.2.1,(x.2.2,(x.1,(([] :List Int),0))))).bind fun r3=>match r3 with | .inl o4=>(some ((y7g o4),true)) | .inr z5=>(some z5))))
theorem r7e:t49=s2g:=zC 358 rfl Tryz.func358 (by kernel_rfl)
def t4m(x:Int):Option Bool:=zK 360 x
def r43 (x:Int):Option Bool:=(((bif (decide (x=0)) then(some true) else(some (decide (x=1)))):Option Bool).bind fun j1=>(some j1))
theorem q7b:t4m=r43:=zC 360 rfl Tryz.func360 (by kernel_rfl)
def t22(x:Int):Option Int:=zK 359 x
def s5w (x:Int):Option Int:=((t4m x).bind fun y1=>(bif (!y1) then(some (0:Int)) else(some (IntKind.i64.wrap ((1:Int)+(IntKind.i64.wrap (x*48)))))))
theorem r9m:t22=s5w:=zC 359 rfl Tryz.func359 (by kernel_rfl)
def t26(x:q05):Option Int:=zK 362 x
def s55 (x:q05):Option Int:=((t0x x).bind fun y1=>(((bif (!y1.2) then(some true) else(some (z7o y1.1 (⟨#[]⟩:ByteArray)))):Option Bool).bind fun j2=>(bif j2 then(some (0:Int)) else(bif (y4q (0:Int) y1.1.size) then(some (IntKind.i64.wrap ((y1.1.data.toList.getD ((0:Int)).toNat 0).toNat:Int))) else none))))
theorem r9x:t26=s55:=zC 362 rfl Tryz.func362 (by kernel_rfl)
def s1f(x:q05):Option Int:=zK 361 x
def r1x (x:q05):Option Int:=((t4m x.2).bind fun y1=>(bif (!y1) then(some (0:Int)) else((t22 x.2).bind fun y2=>((t26 (x.1,y2)).bind fun y3=>(some y3)))))
theorem q3u:s1f=r1x:=zC 361 rfl Tryz.func361 (by kernel_rfl)
def u9n(x:q05):Option (r4l×p8z):=zK 232 x
def u9v(g:Z87→Option o1p)(x:Z87):Option o1p:=((s1f (x.2.1,x.1)).bind fun y5=>(bif (decide (x.2.2.2.2.2<y5)) then((t23 (x.2.2.1,x.2.2.2.2.1)).bind fun y6=>(((bif (!y6.2.2) then(some true) else(some (z7o y6.1 (⟨#[]⟩:ByteArray)))):Option Bool).bind fun j7=>(bif j7 then(some (.inr (([] :List ByteArray),(0,false)))) else(bif (Nat.ble (x.2.2.2.1.length+([y6.1] :List ByteArray).length) z7w) then(g (x.1,(x.2.1,(x.2.2.1,((x.2.2.2.1++([y6.1] :List ByteArray)),(y6.2.1,(IntKind.i64.wrap (x.2.2.2.2.2+1)))))))) else none)))) else(some (.inl (x.2.2.2.1,x.2.2.2.2.1)))))
def t0i:=lpW _ _ u9v
theorem s37 x:t0i x=u9v t0i x:=zW s23 232 Tryz.f232 7 57 x (by kernel_rfl)
def s8y (x:q05):Option (r4l×p8z):=((t22 x.2).bind fun y1=>((t49 (x.1,((IntKind.i64.wrap (y1+1)),47))).bind fun y2=>(((bif (!y2.2) then(some true) else((t4m x.2).bind fun y3=>(some (!y3)))):Option Bool).bind fun j4=>(bif j4 then(some (([] :List ByteArray),(0,false))) else((t0i (x.2,(x.1,(y2.1,(([] :List ByteArray),(0,0)))))).bind fun r8=>match r8 with | .inl o9=>(some (o9.1,(o9.2,true))) | .inr z10=>(some z10))))))
theorem q1i:u9n=s8y:=zC 232 rfl Tryz.func232 (by kernel_rfl)
def t8r(x:t7p):Option Int:=zK 234 x
def s8r (x:t7p):Option Int:=((t26 (x,0)).bind fun y1=>(some (Int.tmod y1 (2:Int))))
theorem q1b:t8r=s8r:=zC 234 rfl Tryz.func234 (by kernel_rfl)
def t8v(x:t7p):Option r4l:=zK 99 x
def s8w (x:t7p):Option r4l:=((t8r x).bind fun y1=>((u9n (x,y1)).bind fun y2=>(some y2.1)))
theorem q1g:t8v=s8w:=zC 99 rfl Tryz.func99 (by kernel_rfl)
def t1n(x:t7p):Option Z68:=zK 18 x
def t11(g:Z19→Option (Z28⊕Z68))(x:Z19):Option (Z28⊕Z68):=(bif (decide (x.2.2.2.2<x.2.2.2.1)) then(bif (y4q x.2.2.2.2 x.2.2.1.length) then((t48 (rdL Ty.str x.2.2.1 (x.2.2.2.2).toNat)).bind fun y3=>((s48 (x.2.1,y3.1)).bind fun y4=>(((bif (!y3.2) then(some true) else(some (!y4.2))):Option Bool).bind fun j5=>(bif j5 then(some (.inr ((([] :List u0d.den),(([] :List u0a.den),(([] :List u0a.den),(0,0)))),false))) else(g (x.1,(y4.1,(x.2.2.1,(x.2.2.2.1,(IntKind.i64.wrap (x.2.2.2.2+1))))))))))) else none) else(some (.inl (x.1,x.2.1))))
def u4k:=lpW _ _ t11
theorem s7i x:u4k x=t11 u4k x:=zW s6n 18 Tryz.f18 3 40 x (by kernel_rfl)
def r14 (x:t7p):Option Z68:=((r3v ()).bind fun y1=>((t8v x).bind fun y2=>((u4k ((([] :List u0d.den),(([] :List u0a.den),(([] :List u0a.den),(0,0)))),(y1,(y2,((y2.length:Int),0))))).bind fun r6=>match r6 with | .inl o7=>(some (o7.2,true)) | .inr z8=>(some z8))))
theorem q3y:t1n=r14:=zC 18 rfl Tryz.func18 (by kernel_rfl)
def s47(x:t7p):Option Bool:=zK 233 x
def t3r(g:o3f→Option p9h)(x:o3f):Option p9h:=(bif (decide (x.2.2.2<x.2.2.1)) then(bif (y4q x.2.2.2 x.2.1.length) then(bif (!decide (((rdL Ty.str x.2.1 (x.2.2.2).toNat).size:Int)=(64:Int))) then(some (.inr false)) else(g (x.1,(x.2.1,(x.2.2.1,(IntKind.i64.wrap (x.2.2.2+1))))))) else none) else(some (.inl x.1)))
def t32:=lpW _ _ t3r
theorem r03 x:t32 x=t3r t32 x:=zW s94 233 Tryz.f233 2 50 x (by kernel_rfl)
def t3s(g:o3g→Option p9h)(x:o3g):Option p9h:=(bif (decide (x.2.2.2<x.2.2.1)) then(bif (y4q x.2.2.2 x.2.1.length) then((((u08 ((rdL q0k x.2.1 (x.2.2.2).toNat).1,(0,(IntKind.i64.wrap ((x.1.1.length:Int) - (1:Int)))))).bind fun y3=>(bif (!y3) then(some true) else(some (!decide (((rdL q0k x.2.1 (x.2.2.2).toNat).2.size:Int)=(64:Int)))))):Option Bool).bind fun j4=>(bif j4 then(some (.inr false)) else(g (x.1,(x.2.1,(x.2.2.1,(IntKind.i64.wrap (x.2.2.2+1)))))))) else none) else(some (.inl x.1)))
def t33:=lpW _ _ t3s
theorem r04 x:t33 x=t3s t33 x:=zW s95 233 Tryz.f233 8 50 x (by kernel_rfl)
def r4w (x:t7p):Option Bool:=((t32 (x,(x.1,((x.1.length:Int),0)))).bind fun r1=>match r1 with | .inl o2=>((t33 (o2,(o2.2,((o2.2.length:Int),0)))).bind fun r5=>match r5 with | .inl o6=>((((u08 ((o6.1.length:Int),(1,100))).bind fun y7=>(bif y7 then(some (decide ((o6.2.length:Int)≤(60:Int)))) else(some false))):Option Bool).bind fun j8=>(some j8)) | .inr z9=>(some z9)) | .inr z10=>(some z10))
theorem q65:s47=r4w:=zC 233 rfl Tryz.func233 (by kernel_rfl)
def s0n(x:t7p):Option Bool:=zK 96 x
def r8g (x:t7p):Option Bool:=((u9n (x,0)).bind fun y1=>((u9n (x,1)).bind fun y2=>((((s47 x).bind fun y3=>(bif y3 then(bif (decide ((x.1.length:Int)=(97:Int))) then(bif (decide ((x.2.length:Int)=(0:Int))) then(bif y1.2.2 then(some y2.2.2) else(some false)) else(some false)) else(some false)) else(some false))):Option Bool).bind fun j4=>(some j4))))
theorem q9l:s0n=r8g:=zC 96 rfl Tryz.func96 (by kernel_rfl)
def t80(x:t7p):Option t7p:=zK 97 x
def s84 (x:t7p):Option t7p:=(bif (Nat.ble x.1.length z7w) then(bif (Nat.ble x.2.length z7w) then(some x) else none) else none)
theorem q1p:t80=s84:=zC 97 rfl Tryz.func97 (by kernel_rfl)
def t60(x:t7p):Option Z33:=zK 17 x
def s51 (x:t7p):Option Z33:=((t1n x).bind fun y1=>(((bif (!y1.2) then(some true) else((s0n x).bind fun y2=>(some (!y2)))):Option Bool).bind fun j3=>(bif j3 then(some ((((([] :List u0d.den),(([] :List u0a.den),(([] :List u0a.den),(0,0)))),([] :List u0a.den)),(([] :List ByteArray),([] :List q0k.den))),false)) else((t80 x).bind fun y4=>(some (((y1.1,([] :List u0a.den)),y4),true))))))
theorem r9s:t60=s51:=zC 17 rfl Tryz.func17 (by kernel_rfl)
def u6k(x:p9k):Option Bool:=zK 121 x
def u3r(g:o3x→Option s4t)(x:o3x):Option s4t:=(bif (decide (x.2.2.2<x.2.2.1)) then(bif (y4q x.2.2.2 x.1.length) then(bif (y4q x.2.2.2 x.2.1.length) then(bif (!(z7o (rdL r36 x.1 (x.2.2.2).toNat).1 (rdL r36 x.2.1 (x.2.2.2).toNat).1&&(z7o (rdL r36 x.1 (x.2.2.2).toNat).2 (rdL r36 x.2.1 (x.2.2.2).toNat).2&&true))) then(some (.inr false)) else(g (x.1,(x.2.1,(x.2.2.1,(IntKind.i64.wrap (x.2.2.2+1))))))) else none) else none) else(some (.inl ())))
def u3s:=lpW _ _ u3r
theorem t1d x:u3s x=u3r u3s x:=zW t09 121 Tryz.f121 4 26 x (by kernel_rfl)
def t3m (x:p9k):Option Bool:=(bif (!decide ((x.1.length:Int)=(x.2.length:Int))) then(some false) else((u3s (x.1,(x.2,((x.1.length:Int),0)))).bind fun r1=>match r1 with | .inl o2=>(some true) | .inr z3=>(some z3)))
theorem s2y:u6k=t3m:=zC 121 rfl Tryz.func121 (by kernel_rfl)
def u9o(x:r4l):Option r4l:=zK 325 x
theorem t8f:∀(x:r4l),u9o x=y7a x:=y6f (P:=Tryz.prog) (A:=A) (f:=325) (F:=y7a) rfl
def u6z(x:r4l):Option r4l:=zK 326 x
theorem t6o:∀(x:r4l),u6z x=y0m x:=y6f (P:=Tryz.prog) (A:=A) (f:=326) (F:=y0m) rfl
def s5a(x:s5s):Option r4l:=zK 259 x
def t3u(g:o3s→Option p9i)(x:o3s):Option p9i:=(bif (decide (x.2.2.2<x.2.2.1)) then(bif (y4q x.2.2.2 x.2.1.length) then(bif (Nat.ble (x.1.length+([(rdL u0d x.2.1 (x.2.2.2).toNat).1] :List ByteArray).length) z7w) then(g ((x.1++([(rdL u0d x.2.1 (x.2.2.2).toNat).1] :List ByteArray)),(x.2.1,(x.2.2.1,(IntKind.i64.wrap (x.2.2.2+1)))))) else none) else none) else(some (.inl x.1)))
def t35:=lpW _ _ t3u
theorem r06 x:t35 x=t3u t35 x:=zW s97 259 Tryz.f259 3 22 x (by kernel_rfl)
def r45 (x:s5s):Option r4l:=((t35 (([] :List ByteArray),(x,((x.length:Int),0)))).bind fun r1=>match r1 with | .inl o2=>((u9o o2).bind fun y3=>((u6z y3).bind fun y4=>(some y4))) | .inr z5=>none)
theorem q7c:s5a=r45:=zC 259 rfl Tryz.func259 (by kernel_rfl)
def s49(x:p7d):Option s13:=zK 260 x
def r40 (x:p7d):Option s13:=((t7v x).bind fun y1=>(((bif (decide (y1<0)) then(some true) else(bif (y4q y1 x.1.length) then(some (rdL u0d x.1 (y1).toNat).2.2.1) else none)):Option Bool).bind fun j2=>(bif j2 then(some ((⟨#[]⟩:ByteArray),false)) else(bif (y4q y1 x.1.length) then(some ((rdL u0d x.1 (y1).toNat).2.1,true)) else none))))
theorem q69:s49=r40:=zC 260 rfl Tryz.func260 (by kernel_rfl)
def t7u(x:o06):Option p11:=zK 123 x
def t3t(g:Z78→Option p9j)(x:Z78):Option p9j:=(bif (decide (x.2.2.2.2.2.2<x.2.2.2.2.2.1)) then(bif (y4q x.2.2.2.2.2.2 x.2.2.2.2.1.length) then((s49 (x.1,((rdL Ty.str x.2.2.2.2.1 (x.2.2.2.2.2.2).toNat),x.2.1))).bind fun y2=>(((bif y2.2 then((t5x (x.2.2.1,(rdL Ty.str x.2.2.2.2.1 (x.2.2.2.2.2.2).toNat))).bind fun y3=>(some y3)) else(some false)):Option Bool).bind fun j4=>(bif j4 then(bif (Nat.ble (x.2.2.2.1.length+([((rdL Ty.str x.2.2.2.2.1 (x.2.2.2.2.2.2).toNat),y2.1)] :List r36.den).length) z7w) then(g (x.1,(x.2.1,(x.2.2.1,((x.2.2.2.1++([((rdL Ty.str x.2.2.2.2.1 (x.2.2.2.2.2.2).toNat),y2.1)] :List r36.den)),(x.2.2.2.2.1,(x.2.2.2.2.2.1,(IntKind.i64.wrap (x.2.2.2.2.2.2+1))))))))) else none) else(g (x.1,(x.2.1,(x.2.2.1,(x.2.2.2.1,(x.2.2.2.2.1,(x.2.2.2.2.2.1,(IntKind.i64.wrap (x.2.2.2.2.2.2+1)))))))))))) else none) else(some (.inl x.2.2.2.1)))
def t34:=lpW _ _ t3t
theorem r05 x:t34 x=t3t t34 x:=zW s96 123 Tryz.f123 3 40 x (by kernel_rfl)
def r4y (x:o06):Option p11:=((s5a x.1).bind fun y1=>((t34 (x.1,(x.2.2,(x.2.1,(([] :List r36.den),(y1,((y1.length:Int),0))))))).bind fun r5=>match r5 with | .inl o6=>(some o6) | .inr z7=>none))
theorem q67:t7u=r4y:=zC 123 rfl Tryz.func123 (by kernel_rfl)
def s1m(x:Unit):Option p0z:=zK 126 x
def r2j (x:Unit):Option p0z:=(some ((⟨#[97]⟩:ByteArray),(⟨#[122,122,122]⟩:ByteArray)))
theorem q4a:s1m=r2j:=zC 126 rfl Tryz.func126 (by kernel_rfl)
def t0y(x:o09):Option Bool:=zK 239 x
def s2f (x:o09):Option Bool:=((s1m ()).bind fun y1=>((t7u (x.2.1,(y1,x.1))).bind fun y2=>((s1m ()).bind fun y3=>((t7u (x.2.2,(y3,x.1))).bind fun y4=>((u6k (y2,y4)).bind fun y5=>(some y5))))))
theorem r7d:t0y=s2f:=zC 239 rfl Tryz.func239 (by kernel_rfl)
def u49(x:(Unit×Int)):Option s5s:=zK 365 x
def t07 (x:(Unit×Int)):Option s5s:=(bif (decide (x.2<0)) then none else(bif (decide ((IntKind.i64.wrap (x.2 - (IntKind.i64.wrap ((0:Int) - (0:Int))))) >0)) then(bif (decide (0≤(0:Int))&&decide ((0:Int)≤(0:Int))&&decide ((0:Int)≤0)) then(bif (decide (1≤(IntKind.i64.wrap (x.2 - (IntKind.i64.wrap ((0:Int) - (0:Int))))))&&decide ((IntKind.i64.wrap (x.2 - (IntKind.i64.wrap ((0:Int) - (0:Int)))))≤1099511627776)) then(bif (decide (0≤(0:Int))&&decide ((0:Int)≤(0:Int))&&decide ((0:Int)≤((List.replicate ((IntKind.i64.wrap (x.2 - (IntKind.i64.wrap ((0:Int) - (0:Int)))))).toNat (u0d).zero).length:Int))) then(some ((List.replicate ((IntKind.i64.wrap (x.2 - (IntKind.i64.wrap ((0:Int) - (0:Int)))))).toNat (u0d).zero).take (((0:Int)).toNat - ((0:Int)).toNat))) else none) else none) else none) else(some ([] :List u0d.den))))
theorem t9x:u49=t07:=zC 365 rfl Tryz.func365 (by kernel_rfl)
def u4w(x:(List s5s)):Option s5s:=zK 240 x
def u2c(g:Z99→Option (((List s5s)×Int)⊕Unit))(x:Z99):Option (((List s5s)×Int)⊕Unit):=(bif (decide (x.2.2.2.2<x.2.2.2.1)) then(bif (y4q x.2.2.2.2 x.2.2.1.length) then(bif (decide ((IntKind.i64.wrap (x.2.1+((rdL (Ty.sl u0d) x.2.2.1 (x.2.2.2.2).toNat).length:Int)))<0)) then none else(g (x.1,((IntKind.i64.wrap (x.2.1+((rdL (Ty.sl u0d) x.2.2.1 (x.2.2.2.2).toNat).length:Int))),(x.2.2.1,(x.2.2.2.1,(IntKind.i64.wrap (x.2.2.2.2+1)))))))) else none) else(some (.inl (x.1,x.2.1))))
def u1t:=lpW _ _ u2c
theorem u62 x:u1t x=u2c u1t x:=zW u6x 240 Tryz.f240 3 36 x (by kernel_rfl)
def u15(g:o3j→Option p3w)(x:o3j):Option p3w:=(bif (decide (x.2.2.2<x.2.2.1)) then(bif (y4q x.2.2.2 x.2.1.length) then(bif (Nat.ble (x.1.length+(rdL (Ty.sl u0d) x.2.1 (x.2.2.2).toNat).length) z7w) then(g ((x.1++(rdL (Ty.sl u0d) x.2.1 (x.2.2.2).toNat)),(x.2.1,(x.2.2.1,(IntKind.i64.wrap (x.2.2.2+1)))))) else none) else none) else(some (.inl x.1)))
def u1q:=lpW _ _ u15
theorem u6o x:u1q x=u15 u1q x:=zW u6g 240 Tryz.f240 11 36 x (by kernel_rfl)
def u84 (x:(List s5s)):Option s5s:=((u1t (x,(0,(x,((x.length:Int),0))))).bind fun r1=>match r1 with | .inl o2=>((u49 ((),o2.2)).bind fun y3=>((u1q (y3,(o2.1,((o2.1.length:Int),0)))).bind fun r4=>match r4 with | .inl o5=>(some o5) | .inr z6=>none)) | .inr z7=>none)
theorem t7r:u4w=u84:=zC 240 rfl Tryz.func240 (by kernel_rfl)
def t8x(x:p53):Option Bool:=zK 103 x
def u9w(g:Z90→Option (o09⊕Bool))(x:Z90):Option (o09⊕Bool):=(bif (decide (x.2.2.2.2<x.2.2.2.1)) then(bif (y4q x.2.2.2.2 x.2.2.1.length) then(bif (decide ((rdL u0d x.2.2.1 (x.2.2.2.2).toNat).2.2.2 >x.1)) then((t0y ((rdL u0d x.2.2.1 (x.2.2.2.2).toNat).2.2.2,x.2.1)).bind fun y2=>(bif (!y2) then(some (.inr false)) else(g (x.1,(x.2.1,(x.2.2.1,(x.2.2.2.1,(IntKind.i64.wrap (x.2.2.2.2+1))))))))) else(g (x.1,(x.2.1,(x.2.2.1,(x.2.2.2.1,(IntKind.i64.wrap (x.2.2.2.2+1)))))))) else none) else(some (.inl (x.1,x.2.1))))
def t0j:=lpW _ _ u9w
theorem s38 x:t0j x=u9w t0j x:=zW s24 103 Tryz.f103 3 35 x (by kernel_rfl)
def s80 (x:p53):Option Bool:=((u4w ([x.1,x.2.1] :List s5s)).bind fun y1=>((t0j (x.2.2,((x.1,x.2.1),(y1,((y1.length:Int),0))))).bind fun r3=>match r3 with | .inl o4=>((t0y o4).bind fun y5=>(some y5)) | .inr z6=>(some z6)))
theorem q1k:t8x=s80:=zC 103 rfl Tryz.func103 (by kernel_rfl)
def r0p(x:Z36):Option Bool:=zK 102 x
def s88 (x:Z36):Option Bool:=((u8h x.1).bind fun y1=>((u8h x.2).bind fun y2=>(((bif (y1.2==y2.2) then(some (z7o y1.1 y2.1)) else(some false)):Option Bool).bind fun j3=>(some j3))))
theorem q1t:r0p=s88:=zC 102 rfl Tryz.func102 (by kernel_rfl)
def u1b(x:Z97):Option Bool:=zK 10000 x
def u05(g:Z83→Option s4t)(x:Z83):Option s4t:=(bif (decide (x.2.2.2.2<x.2.2.2.1)) then(bif (y4q x.2.2.2.2 x.2.2.1.length) then(bif (y4q x.2.2.2.2 x.1.length) then((r0p ((rdL u0a x.2.2.1 (x.2.2.2.2).toNat),(rdL u0a x.1 (x.2.2.2.2).toNat))).bind fun y1=>(bif (!y1) then(some (.inr false)) else(g (x.1,((),(x.2.2.1,(x.2.2.2.1,(IntKind.i64.wrap (x.2.2.2.2+1))))))))) else none) else none) else(some (.inl ())))
def u06:=lpW _ _ u05
theorem u3e x:u06 x=u05 u06 x:=zW u3a 10000 Tryz.f101 4 32 x (by kernel_rfl)
def u3u (x:Z97):Option Bool:=(bif (!decide ((x.1.length:Int)=(x.2.1.length:Int))) then(some false) else((u06 (x.2.1,((),(x.1,((x.1.length:Int),0))))).bind fun r2=>match r2 with | .inl o3=>(some true) | .inr z4=>(some z4)))
theorem u8l:u1b=u3u:=zC 10000 rfl Tryz.func101 (by kernel_rfl)
def t4i(x:Z28):Option Bool:=zK 20 x
def s8v (x:Z28):Option Bool:=(bif (decide (x.1.2.2.2.1=x.2.2.2.2.1)) then((u1b (x.1.2.1,(x.2.2.1,()))).bind fun y1=>(bif y1 then((u1b (x.1.2.2.1,(x.2.2.2.1,()))).bind fun y2=>(bif y2 then((t8x (x.1.1,(x.2.1,x.1.2.2.2.1))).bind fun y3=>(some y3)) else(some false))) else(some false))) else(some false))
theorem q1f:t4i=s8v:=zC 20 rfl Tryz.func20 (by kernel_rfl)
def t8u(x:Z42):Option Bool:=zK 55 x
def u9t(g:Z32→Option s4t)(x:Z32):Option s4t:=(bif (decide (x.2.2.2<x.2.2.1)) then(bif (y4q x.2.2.2 x.2.1.length) then((((u5p (rdL u0a x.2.1 (x.2.2.2).toNat)).bind fun y4=>(bif (!y4) then(some true) else(bif (!decide ((rdL u0a x.2.1 (x.2.2.2).toNat).2.1=1)) then(some true) else(bif (decide ((rdL u0a x.2.1 (x.2.2.2).toNat).2.2.1 >x.1.1.2.2.2.1)) then(some true) else(bif (decide (x.2.2.2 >0)) then(bif (y4q (IntKind.i64.wrap (x.2.2.2 - 1)) x.1.2.length) then(some (decide ((rdL u0a x.1.2 ((IntKind.i64.wrap (x.2.2.2 - 1))).toNat).1≥(rdL u0a x.2.1 (x.2.2.2).toNat).1))) else none) else(some false)))))):Option Bool).bind fun j5=>(bif j5 then(some (.inr false)) else(g (x.1,(x.2.1,(x.2.2.1,(IntKind.i64.wrap (x.2.2.2+1)))))))) else none) else(some (.inl ())))
def t0g:=lpW _ _ u9t
theorem s35 x:t0g x=u9t t0g x:=zW s21 55 Tryz.f55 4 73 x (by kernel_rfl)
def s8u (x:Z42):Option Bool:=((u16 x.1).bind fun y1=>(bif (!y1) then(some false) else(bif (decide ((x.2.length:Int) >(4:Int))) then(some false) else((u2r ([x.1.2.1,x.1.2.2.1,x.2] :List r61)).bind fun y2=>((u8e (y2,x.1.2.2.2.2)).bind fun y3=>(bif (!y3) then(some false) else((t0g (x,(x.2,((x.2.length:Int),0)))).bind fun r6=>match r6 with | .inl o7=>(some true) | .inr z8=>(some z8))))))))
theorem q1e:t8u=s8u:=zC 55 rfl Tryz.func55 (by kernel_rfl)
def s1h(x:Z35):Option Bool:=zK 19 x
def r2b (x:Z35):Option Bool:=((t1n x.2).bind fun y1=>((((t8u x.1).bind fun y2=>(bif y2 then((s0n x.2).bind fun y3=>(bif y3 then(bif y1.2 then((u31 (x.1.1,([] :List u0a.den))).bind fun y4=>((t4i (y1.1,y4)).bind fun y5=>(some y5))) else(some false)) else(some false))) else(some false))):Option Bool).bind fun j6=>(some j6)))
theorem q32:s1h=r2b:=zC 19 rfl Tryz.func19 (by kernel_rfl)
def t6y(x:Z20):Option Bool:=zK 35 x
def s5x (x:Z20):Option Bool:=((t60 x.1.2).bind fun y1=>(((bif y1.2 then((s1h x.1).bind fun y2=>(bif y2 then((u31 (x.1.1.1,([] :List u0a.den))).bind fun y3=>((t4i (y1.1.1.1,y3)).bind fun y4=>(some y4))) else(some false))) else(some false)):Option Bool).bind fun j5=>(some j5)))
theorem r9o:t6y=s5x:=zC 35 rfl Tryz.func35 (by kernel_rfl)
def t57(x:(p0z×Int)):Option Int:=zK 436 x
def r2p (x:(p0z×Int)):Option Int:=(bif (decide ((IntKind.i64.wrap (x.2 - (x.1.1.size:Int)))<0)) then(some (-1:Int)) else(bif (decide ((IntKind.i64.wrap ((IntKind.i64.wrap (x.2 - (x.1.1.size:Int))) - (x.1.2.size:Int)))<0)) then(some (-1:Int)) else(some (IntKind.i64.wrap ((IntKind.i64.wrap (x.2 - (x.1.1.size:Int))) - (x.1.2.size:Int))))))
theorem q4h:t57=r2p:=zC 436 rfl Tryz.func436 (by kernel_rfl)
def t88(x:(p11×Int)):Option Int:=zK 376 x
def s16(g:(p11×p2y)→Option p3x)(x:(p11×p2y)):Option p3x:=(bif (decide (x.2.2<(x.1.length:Int))) then(bif (y4q x.2.2 x.1.length) then((t57 ((rdL r36 x.1 (x.2.2).toNat),x.2.1)).bind fun y1=>(bif (decide (y1<0)) then(some (.inr (-1:Int))) else(g (x.1,(y1,(IntKind.i64.wrap (x.2.2+1))))))) else none) else(some (.inl x.2.1)))
def t0o:=lpW _ _ s16
theorem r7y x:t0o x=s16 t0o x:=zW s3c 376 Tryz.f376 5 27 x (by kernel_rfl)
def s9d (x:(p11×Int)):Option Int:=(bif (decide ((IntKind.i64.wrap (x.2 - (x.1.length:Int)))<0)) then(some (-1:Int)) else((t0o (x.1,((IntKind.i64.wrap (x.2 - (x.1.length:Int))),0))).bind fun r2=>match r2 with | .inl o3=>(some o3) | .inr z4=>(some z4)))
theorem q1y:t88=s9d:=zC 376 rfl Tryz.func376 (by kernel_rfl)
def t58(x:o37):Option Int:=zK 437 x
def r2s (x:o37):Option Int:=(bif (decide ((IntKind.i64.wrap (x.2 - (x.1.1.size:Int)))<0)) then(some (-1:Int)) else(bif (decide ((IntKind.i64.wrap ((IntKind.i64.wrap (x.2 - (x.1.1.size:Int))) - (x.1.2.1.size:Int)))<0)) then(some (-1:Int)) else(some (IntKind.i64.wrap ((IntKind.i64.wrap (x.2 - (x.1.1.size:Int))) - (x.1.2.1.size:Int))))))
theorem q4k:t58=r2s:=zC 437 rfl Tryz.func437 (by kernel_rfl)
def t89(x:(q6g×Int)):Option Int:=zK 377 x
def s17(g:(q6g×p2y)→Option p3x)(x:(q6g×p2y)):Option p3x:=(bif (decide (x.2.2<(x.1.length:Int))) then(bif (y4q x.2.2 x.1.length) then((t58 ((rdL u2k x.1 (x.2.2).toNat),x.2.1)).bind fun y1=>(bif (decide (y1<0)) then(some (.inr (-1:Int))) else(g (x.1,(y1,(IntKind.i64.wrap (x.2.2+1))))))) else none) else(some (.inl x.2.1)))
def t0p:=lpW _ _ s17
theorem r7z x:t0p x=s17 t0p x:=zW s3d 377 Tryz.f377 5 27 x (by kernel_rfl)
def s9e (x:(q6g×Int)):Option Int:=(bif (decide ((IntKind.i64.wrap (x.2 - (x.1.length:Int)))<0)) then(some (-1:Int)) else((t0p (x.1,((IntKind.i64.wrap (x.2 - (x.1.length:Int))),0))).bind fun r2=>match r2 with | .inl o3=>(some o3) | .inr z4=>(some z4)))
theorem q1z:t89=s9e:=zC 377 rfl Tryz.func377 (by kernel_rfl)
def s0s(x:Z84):Option Int:=zK 262 x
def r8n (x:Z84):Option Int:=((t88 (x.1.2.2.2.2.1,x.2)).bind fun y1=>(bif (decide (y1<0)) then(some (-1:Int)) else((t89 (x.1.2.2.2.2.2.1,y1)).bind fun y2=>(bif (decide (y2<0)) then(some (-1:Int)) else(bif (decide ((IntKind.i64.wrap (y2 - (x.1.2.2.2.2.2.2.2.size:Int)))<0)) then(some (-1:Int)) else(some (IntKind.i64.wrap (y2 - (x.1.2.2.2.2.2.2.2.size:Int)))))))))
theorem q9s:s0s=r8n:=zC 262 rfl Tryz.func262 (by kernel_rfl)
def t01(x:p5t):Option Int:=zK 129 x
def s8k(g:p54→Option p3x)(x:p54):Option p3x:=(bif (decide (x.2.2<(x.1.length:Int))) then(bif (y4q x.2.2 x.1.length) then((s0s ((rdL u0a x.1 (x.2.2).toNat),x.2.1)).bind fun y1=>(bif (decide (y1<0)) then(some (.inr (-1:Int))) else(g (x.1,(y1,(IntKind.i64.wrap (x.2.2+1))))))) else none) else(some (.inl x.2.1)))
def t37:=lpW _ _ s8k
theorem q3d x:t37 x=s8k t37 x:=zW r0d 129 Tryz.f129 5 27 x (by kernel_rfl)
def r5h (x:p5t):Option Int:=(bif (decide ((IntKind.i64.wrap (x.2 - (x.1.length:Int)))<0)) then(some (-1:Int)) else((t37 (x.1,((IntKind.i64.wrap (x.2 - (x.1.length:Int))),0))).bind fun r2=>match r2 with | .inl o3=>(some o3) | .inr z4=>(some z4)))
theorem q7o:t01=r5h:=zC 129 rfl Tryz.func129 (by kernel_rfl)
def t3a(x:o31):Option Int:=zK 458 x
def s6c (x:o31):Option Int:=(bif (decide ((IntKind.i64.wrap (x.2 - (x.1.1.size:Int)))<0)) then(some (-1:Int)) else(bif (decide ((IntKind.i64.wrap ((IntKind.i64.wrap (x.2 - (x.1.1.size:Int))) - (x.1.2.1.size:Int)))<0)) then(some (-1:Int)) else(some (IntKind.i64.wrap ((IntKind.i64.wrap (x.2 - (x.1.1.size:Int))) - (x.1.2.1.size:Int))))))
theorem r94:t3a=s6c:=zC 458 rfl Tryz.func458 (by kernel_rfl)
def t5c(x:p7u):Option Int:=zK 400 x
def t78(g:(s5s×p2y)→Option p3x)(x:(s5s×p2y)):Option p3x:=(bif (decide (x.2.2<(x.1.length:Int))) then(bif (y4q x.2.2 x.1.length) then((t3a ((rdL u0d x.1 (x.2.2).toNat),x.2.1)).bind fun y1=>(bif (decide (y1<0)) then(some (.inr (-1:Int))) else(g (x.1,(y1,(IntKind.i64.wrap (x.2.2+1))))))) else none) else(some (.inl x.2.1)))
def u7e:=lpW _ _ t78
theorem r4j x:u7e x=t78 u7e x:=zW t8k 400 Tryz.f400 5 27 x (by kernel_rfl)
def s2l (x:p7u):Option Int:=(bif (decide ((IntKind.i64.wrap (x.2 - (x.1.length:Int)))<0)) then(some (-1:Int)) else((u7e (x.1,((IntKind.i64.wrap (x.2 - (x.1.length:Int))),0))).bind fun r2=>match r2 with | .inl o3=>(some o3) | .inr z4=>(some z4)))
theorem r7j:t5c=s2l:=zC 400 rfl Tryz.func400 (by kernel_rfl)
def s5f(x:Z70):Option Int:=zK 327 x
def r5d (x:Z70):Option Int:=((t5c (x.1.1,x.2)).bind fun y1=>(bif (decide (y1<0)) then(some (-1:Int)) else((t01 (x.1.2.1,y1)).bind fun y2=>(bif (decide (y2<0)) then(some (-1:Int)) else((t01 (x.1.2.2.1,y2)).bind fun y3=>(bif (decide (y3<0)) then(some (-1:Int)) else(some y3)))))))
theorem q7k:s5f=r5d:=zC 327 rfl Tryz.func327 (by kernel_rfl)
def t87(x:Z41):Option Int:=zK 210 x
def s9c (x:Z41):Option Int:=((s5f (x.1.1,x.2)).bind fun y1=>(bif (decide (y1<0)) then(some (-1:Int)) else((t01 (x.1.2,y1)).bind fun y2=>(bif (decide (y2<0)) then(some (-1:Int)) else(some y2)))))
theorem q1x:t87=s9c:=zC 210 rfl Tryz.func210 (by kernel_rfl)
def t29(x:(r4l×Int)):Option Int:=zK 131 x
def t9z(g:(r4l×p2y)→Option p3x)(x:(r4l×p2y)):Option p3x:=(bif (decide (x.2.2<(x.1.length:Int))) then(bif (y4q x.2.2 x.1.length) then(bif (decide ((IntKind.i64.wrap (x.2.1 - ((rdL Ty.str x.1 (x.2.2).toNat).size:Int)))<0)) then(some (.inr (-1:Int))) else(g (x.1,((IntKind.i64.wrap (x.2.1 - ((rdL Ty.str x.1 (x.2.2).toNat).size:Int))),(IntKind.i64.wrap (x.2.2+1)))))) else none) else(some (.inl x.2.1)))
def u81:=lpW _ _ t9z
theorem r6x x:u81 x=t9z u81 x:=zW s0f 131 Tryz.f131 5 28 x (by kernel_rfl)
def s6b (x:(r4l×Int)):Option Int:=(bif (decide ((IntKind.i64.wrap (x.2 - (x.1.length:Int)))<0)) then(some (-1:Int)) else((u81 (x.1,((IntKind.i64.wrap (x.2 - (x.1.length:Int))),0))).bind fun r1=>match r1 with | .inl o2=>(some o2) | .inr z3=>(some z3)))
theorem r93:t29=s6b:=zC 131 rfl Tryz.func131 (by kernel_rfl)
def s0r(x:(p5w×Int)):Option Int:=zK 401 x
def r8m (x:(p5w×Int)):Option Int:=(bif (decide ((IntKind.i64.wrap (x.2 - (x.1.2.size:Int)))<0)) then(some (-1:Int)) else(some (IntKind.i64.wrap (x.2 - (x.1.2.size:Int)))))
theorem q9r:s0r=r8m:=zC 401 rfl Tryz.func401 (by kernel_rfl)
def s5i(x:(p2z×Int)):Option Int:=zK 328 x
def s8j(g:(p2z×p2y)→Option p3x)(x:(p2z×p2y)):Option p3x:=(bif (decide (x.2.2<(x.1.length:Int))) then(bif (y4q x.2.2 x.1.length) then((s0r ((rdL q0k x.1 (x.2.2).toNat),x.2.1)).bind fun y1=>(bif (decide (y1<0)) then(some (.inr (-1:Int))) else(g (x.1,(y1,(IntKind.i64.wrap (x.2.2+1))))))) else none) else(some (.inl x.2.1)))
def t36:=lpW _ _ s8j
theorem q3c x:t36 x=s8j t36 x:=zW r0c 328 Tryz.f328 5 27 x (by kernel_rfl)
def r5g (x:(p2z×Int)):Option Int:=(bif (decide ((IntKind.i64.wrap (x.2 - (x.1.length:Int)))<0)) then(some (-1:Int)) else((t36 (x.1,((IntKind.i64.wrap (x.2 - (x.1.length:Int))),0))).bind fun r2=>match r2 with | .inl o3=>(some o3) | .inr z4=>(some z4)))
theorem q7n:s5i=r5g:=zC 328 rfl Tryz.func328 (by kernel_rfl)
def s5g(x:q05):Option Int:=zK 211 x
def r5e (x:q05):Option Int:=((t29 (x.1.1,x.2)).bind fun y1=>(bif (decide (y1<0)) then(some (-1:Int)) else((s5i (x.1.2,y1)).bind fun y2=>(bif (decide (y2<0)) then(some (-1:Int)) else(some y2)))))
theorem q7l:s5g=r5e:=zC 211 rfl Tryz.func211 (by kernel_rfl)
def s1p(x:Z34):Option Int:=zK 80 x
def r2q (x:Z34):Option Int:=((t87 (x.1.1,x.2)).bind fun y1=>(bif (decide (y1<0)) then(some (-1:Int)) else((s5g (x.1.2,y1)).bind fun y2=>(bif (decide (y2<0)) then(some (-1:Int)) else(some y2)))))
theorem q4i:s1p=r2q:=zC 80 rfl Tryz.func80 (by kernel_rfl)
def s5h(x:(r4n×Int)):Option Int:=zK 130 x
def r5f (x:(r4n×Int)):Option Int:=(bif (decide ((IntKind.i64.wrap (x.2 - (x.1.length:Int)))<0)) then(some (-1:Int)) else(some (IntKind.i64.wrap (x.2 - (x.1.length:Int)))))
theorem q7m:s5h=r5f:=zC 130 rfl Tryz.func130 (by kernel_rfl)
def s1q(x:Z18):Option Int:=zK 36 x
def r2r (x:Z18):Option Int:=((s1p (x.1.1,x.2)).bind fun y1=>(bif (decide (y1<0)) then(some (-1:Int)) else((t01 (x.1.2.1,y1)).bind fun y2=>(bif (decide (y2<0)) then(some (-1:Int)) else((s5h (x.1.2.2.1,y2)).bind fun y3=>(bif (decide (y3<0)) then(some (-1:Int)) else((t29 (x.1.2.2.2,y3)).bind fun y4=>(bif (decide (y4<0)) then(some (-1:Int)) else(some y4)))))))))
theorem q4j:s1q=r2r:=zC 36 rfl Tryz.func36 (by kernel_rfl)
def t59(x:p0z):Option p0z:=zK 438 x
def q3p (x:p0z):Option p0z:=(some x)
theorem q4l:t59=q3p:=zC 438 rfl Tryz.func438 (by kernel_rfl)
def t9b(x:p11):Option p11:=zK 380 x
def s18(g:p9d→Option p9j)(x:p9d):Option p9j:=(bif (decide (x.2.2<(x.1.length:Int))) then(bif (y4q x.2.2 x.1.length) then((t59 (rdL r36 x.1 (x.2.2).toNat)).bind fun y1=>(bif (y4q x.2.2 x.2.1.length) then(g (x.1,((x.2.1.set (x.2.2).toNat y1),(IntKind.i64.wrap (x.2.2+1))))) else none)) else none) else(some (.inl x.2.1)))
def u57:=lpW _ _ s18
theorem r70 x:u57 x=s18 u57 x:=zW s3e 380 Tryz.f380 3 23 x (by kernel_rfl)
def s9g (x:p11):Option p11:=(bif (decide (0≤(x.length:Int))&&decide ((x.length:Int)≤1099511627776)) then((u57 (x,((List.replicate ((x.length:Int)).toNat (r36).zero),0))).bind fun r2=>match r2 with | .inl o3=>(some o3) | .inr z4=>none) else none)
theorem q11:t9b=s9g:=zC 380 rfl Tryz.func380 (by kernel_rfl)
def t6a(x:p7n):Option p7n:=zK 439 x
def q3q (x:p7n):Option p7n:=(some x)
theorem q4o:t6a=q3q:=zC 439 rfl Tryz.func439 (by kernel_rfl)
def t9c(x:q6g):Option q6g:=zK 381 x
def s19(g:o1b→Option (q6g⊕Unit))(x:o1b):Option (q6g⊕Unit):=(bif (decide (x.2.2<(x.1.length:Int))) then(bif (y4q x.2.2 x.1.length) then((t6a (rdL u2k x.1 (x.2.2).toNat)).bind fun y1=>(bif (y4q x.2.2 x.2.1.length) then(g (x.1,((x.2.1.set (x.2.2).toNat y1),(IntKind.i64.wrap (x.2.2+1))))) else none)) else none) else(some (.inl x.2.1)))
def u58:=lpW _ _ s19
theorem r71 x:u58 x=s19 u58 x:=zW s3f 381 Tryz.f381 3 23 x (by kernel_rfl)
def s9h (x:q6g):Option q6g:=(bif (decide (0≤(x.length:Int))&&decide ((x.length:Int)≤1099511627776)) then((u58 (x,((List.replicate ((x.length:Int)).toNat (u2k).zero),0))).bind fun r2=>match r2 with | .inl o3=>(some o3) | .inr z4=>none) else none)
theorem q12:t9c=s9h:=zC 381 rfl Tryz.func381 (by kernel_rfl)
def s0u(x:Z88):Option Z88:=zK 268 x
def r8o (x:Z88):Option Z88:=((t9b x.2.2.2.2.1).bind fun y1=>((t9c x.2.2.2.2.2.1).bind fun y2=>(some (x.1,(x.2.1,(x.2.2.1,(x.2.2.2.1,(y1,(y2,x.2.2.2.2.2.2)))))))))
theorem q9u:s0u=r8o:=zC 268 rfl Tryz.func268 (by kernel_rfl)
def t02(x:r61):Option r61:=zK 133 x
def s8n(g:Z98→Option p7o)(x:Z98):Option p7o:=(bif (decide (x.2.2<(x.1.length:Int))) then(bif (y4q x.2.2 x.1.length) then((s0u (rdL u0a x.1 (x.2.2).toNat)).bind fun y1=>(bif (y4q x.2.2 x.2.1.length) then(g (x.1,((x.2.1.set (x.2.2).toNat y1),(IntKind.i64.wrap (x.2.2+1))))) else none)) else none) else(some (.inl x.2.1)))
def u9i:=lpW _ _ s8n
theorem q3g x:u9i x=s8n u9i x:=zW r0g 133 Tryz.f133 3 23 x (by kernel_rfl)
def r5m (x:r61):Option r61:=(bif (decide (0≤(x.length:Int))&&decide ((x.length:Int)≤1099511627776)) then((u9i (x,((List.replicate ((x.length:Int)).toNat (u0a).zero),0))).bind fun r2=>match r2 with | .inl o3=>(some o3) | .inr z4=>none) else none)
theorem q7t:t02=r5m:=zC 133 rfl Tryz.func133 (by kernel_rfl)
def t3c(x:p5u):Option p5u:=zK 459 x
def r9l (x:p5u):Option p5u:=(some x)
theorem r96:t3c=r9l:=zC 459 rfl Tryz.func459 (by kernel_rfl)
def t5d(x:s5s):Option s5s:=zK 402 x
def t79(g:p53→Option p3w)(x:p53):Option p3w:=(bif (decide (x.2.2<(x.1.length:Int))) then(bif (y4q x.2.2 x.1.length) then((t3c (rdL u0d x.1 (x.2.2).toNat)).bind fun y1=>(bif (y4q x.2.2 x.2.1.length) then(g (x.1,((x.2.1.set (x.2.2).toNat y1),(IntKind.i64.wrap (x.2.2+1))))) else none)) else none) else(some (.inl x.2.1)))
def u44:=lpW _ _ t79
theorem r4k x:u44 x=t79 u44 x:=zW t8l 402 Tryz.f402 3 23 x (by kernel_rfl)
def s2m (x:s5s):Option s5s:=(bif (decide (0≤(x.length:Int))&&decide ((x.length:Int)≤1099511627776)) then((u44 (x,((List.replicate ((x.length:Int)).toNat (u0d).zero),0))).bind fun r2=>match r2 with | .inl o3=>(some o3) | .inr z4=>none) else none)
theorem r7k:t5d=s2m:=zC 402 rfl Tryz.func402 (by kernel_rfl)
def s5j(x:Z75):Option Z75:=zK 333 x
def r5i (x:Z75):Option Z75:=((t5d x.1).bind fun y1=>((t02 x.2.1).bind fun y2=>((t02 x.2.2.1).bind fun y3=>(some (y1,(y2,(y3,x.2.2.2)))))))
theorem q7p:s5j=r5i:=zC 333 rfl Tryz.func333 (by kernel_rfl)
def t9a(x:Z42):Option Z42:=zK 214 x
def s9f (x:Z42):Option Z42:=((s5j x.1).bind fun y1=>((t02 x.2).bind fun y2=>(some (y1,y2))))
theorem q10:t9a=s9f:=zC 214 rfl Tryz.func214 (by kernel_rfl)
def t3b(x:r4l):Option r4l:=zK 135 x
def t90(g:o1c→Option p9i)(x:o1c):Option p9i:=(bif (decide (x.2.2<(x.1.length:Int))) then(bif (y4q x.2.2 x.1.length) then(bif (y4q x.2.2 x.2.1.length) then(g (x.1,((x.2.1.set (x.2.2).toNat (rdL Ty.str x.1 (x.2.2).toNat)),(IntKind.i64.wrap (x.2.2+1))))) else none) else none) else(some (.inl x.2.1)))
def u5m:=lpW _ _ t90
theorem r6y x:u5m x=t90 u5m x:=zW s0g 135 Tryz.f135 3 22 x (by kernel_rfl)
def s6d (x:r4l):Option r4l:=(bif (decide (0≤(x.length:Int))&&decide ((x.length:Int)≤1099511627776)) then((u5m (x,((List.replicate ((x.length:Int)).toNat (Ty.str).zero),0))).bind fun r1=>match r1 with | .inl o2=>(some o2) | .inr z3=>none) else none)
theorem r95:t3b=s6d:=zC 135 rfl Tryz.func135 (by kernel_rfl)
def s0t(x:p5w):Option p5w:=zK 403 x
def q9h (x:p5w):Option p5w:=(some x)
theorem q9t:s0t=q9h:=zC 403 rfl Tryz.func403 (by kernel_rfl)
def s5m(x:p2z):Option p2z:=zK 334 x
def s8m(g:o1e→Option (p2z⊕Unit))(x:o1e):Option (p2z⊕Unit):=(bif (decide (x.2.2<(x.1.length:Int))) then(bif (y4q x.2.2 x.1.length) then((s0t (rdL q0k x.1 (x.2.2).toNat)).bind fun y1=>(bif (y4q x.2.2 x.2.1.length) then(g (x.1,((x.2.1.set (x.2.2).toNat y1),(IntKind.i64.wrap (x.2.2+1))))) else none)) else none) else(some (.inl x.2.1)))
def u9h:=lpW _ _ s8m
theorem q3f x:u9h x=s8m u9h x:=zW r0f 334 Tryz.f334 3 23 x (by kernel_rfl)
def r5l (x:p2z):Option p2z:=(bif (decide (0≤(x.length:Int))&&decide ((x.length:Int)≤1099511627776)) then((u9h (x,((List.replicate ((x.length:Int)).toNat (q0k).zero),0))).bind fun r2=>match r2 with | .inl o3=>(some o3) | .inr z4=>none) else none)
theorem q7s:s5m=r5l:=zC 334 rfl Tryz.func334 (by kernel_rfl)
def s5k(x:t7p):Option t7p:=zK 215 x
def r5j (x:t7p):Option t7p:=((t3b x.1).bind fun y1=>((s5m x.2).bind fun y2=>(some (y1,y2))))
theorem q7q:s5k=r5j:=zC 215 rfl Tryz.func215 (by kernel_rfl)
def s1r(x:Z35):Option Z35:=zK 82 x
def r2t (x:Z35):Option Z35:=((t9a x.1).bind fun y1=>((s5k x.2).bind fun y2=>(some (y1,y2))))
theorem q4m:s1r=r2t:=zC 82 rfl Tryz.func82 (by kernel_rfl)
def s5l(x:r4n):Option r4n:=zK 134 x
def s8l(g:o1s→Option p7p)(x:o1s):Option p7p:=(bif (decide (x.2.2<(x.1.length:Int))) then(bif (y4q x.2.2 x.1.length) then(bif (y4q x.2.2 x.2.1.length) then(g (x.1,((x.2.1.set (x.2.2).toNat (rdL (Ty.int .i64) x.1 (x.2.2).toNat)),(IntKind.i64.wrap (x.2.2+1))))) else none) else none) else(some (.inl x.2.1)))
def u9g:=lpW _ _ s8l
theorem q3e x:u9g x=s8l u9g x:=zW r0e 134 Tryz.f134 3 22 x (by kernel_rfl)
def r5k (x:r4n):Option r4n:=(bif (decide (0≤(x.length:Int))&&decide ((x.length:Int)≤1099511627776)) then((u9g (x,((List.replicate ((x.length:Int)).toNat ((Ty.int .i64)).zero),0))).bind fun r1=>match r1 with | .inl o2=>(some o2) | .inr z3=>none) else none)
theorem q7r:s5l=r5k:=zC 134 rfl Tryz.func134 (by kernel_rfl)
def t1q(x:Z20):Option Z20:=zK 38 x
def r2u (x:Z20):Option Z20:=((s1r x.1).bind fun y1=>((t02 x.2.1).bind fun y2=>((s5l x.2.2.1).bind fun y3=>((t3b x.2.2.2).bind fun y4=>(some (y1,(y2,(y3,y4))))))))
theorem q4n:t1q=r2u:=zC 38 rfl Tryz.func38 (by kernel_rfl)
def t55(x:o3y):Option Bool:=zK 440 x
def r2l (x:o3y):Option Bool:=(bif (!z7o x.1.1 x.2.1) then(some false) else(bif (!z7o x.1.2 x.2.2) then(some false) else(some true)))
theorem q4d:t55=r2l:=zC 440 rfl Tryz.func440 (by kernel_rfl)
def t85(x:p9k):Option Bool:=zK 382 x
def s14(g:p9d→Option s4t)(x:p9d):Option s4t:=(bif (decide (x.2.2<(x.1.length:Int))) then(bif (y4q x.2.2 x.1.length) then(bif (y4q x.2.2 x.2.1.length) then((t55 ((rdL r36 x.1 (x.2.2).toNat),(rdL r36 x.2.1 (x.2.2).toNat))).bind fun y1=>(bif (!y1) then(some (.inr false)) else(g (x.1,(x.2.1,(IntKind.i64.wrap (x.2.2+1))))))) else none) else none) else(some (.inl ())))
def u55:=lpW _ _ s14
theorem r7w x:u55 x=s14 u55 x:=zW s3a 382 Tryz.f382 4 27 x (by kernel_rfl)
def s9a (x:p9k):Option Bool:=(bif (!decide ((x.1.length:Int)=(x.2.length:Int))) then(some false) else((u55 (x.1,(x.2,0))).bind fun r2=>match r2 with | .inl o3=>(some true) | .inr z4=>(some z4)))
theorem q1v:t85=s9a:=zC 382 rfl Tryz.func382 (by kernel_rfl)
def t56(x:o3h):Option Bool:=zK 441 x
def r2o (x:o3h):Option Bool:=(bif (!z7o x.1.1 x.2.1) then(some false) else(bif (!z7o x.1.2.1 x.2.2.1) then(some false) else(bif (!(x.1.2.2==x.2.2.2)) then(some false) else(some true))))
theorem q4g:t56=r2o:=zC 441 rfl Tryz.func441 (by kernel_rfl)
def t86(x:o38):Option Bool:=zK 383 x
def s15(g:o1b→Option s4t)(x:o1b):Option s4t:=(bif (decide (x.2.2<(x.1.length:Int))) then(bif (y4q x.2.2 x.1.length) then(bif (y4q x.2.2 x.2.1.length) then((t56 ((rdL u2k x.1 (x.2.2).toNat),(rdL u2k x.2.1 (x.2.2).toNat))).bind fun y1=>(bif (!y1) then(some (.inr false)) else(g (x.1,(x.2.1,(IntKind.i64.wrap (x.2.2+1))))))) else none) else none) else(some (.inl ())))
def u56:=lpW _ _ s15
theorem r7x x:u56 x=s15 u56 x:=zW s3b 383 Tryz.f383 4 27 x (by kernel_rfl)
def s9b (x:o38):Option Bool:=(bif (!decide ((x.1.length:Int)=(x.2.length:Int))) then(some false) else((u56 (x.1,(x.2,0))).bind fun r2=>match r2 with | .inl o3=>(some true) | .inr z4=>(some z4)))
theorem q1w:t86=s9b:=zC 383 rfl Tryz.func383 (by kernel_rfl)
def s0q(x:Z36):Option Bool:=zK 269 x
def r8l (x:Z36):Option Bool:=(bif (!decide (x.1.1=x.2.1)) then(some false) else(bif (!decide (x.1.2.1=x.2.2.1)) then(some false) else(bif (!decide (x.1.2.2.1=x.2.2.2.1)) then(some false) else(bif (!decide (x.1.2.2.2.1=x.2.2.2.2.1)) then(some false) else((t85 (x.1.2.2.2.2.1,x.2.2.2.2.2.1)).bind fun y1=>(bif (!y1) then(some false) else((t86 (x.1.2.2.2.2.2.1,x.2.2.2.2.2.2.1)).bind fun y2=>(bif (!y2) then(some false) else(bif (!(x.1.2.2.2.2.2.2.1==x.2.2.2.2.2.2.2.1)) then(some false) else(bif (!z7o x.1.2.2.2.2.2.2.2 x.2.2.2.2.2.2.2.2) then(some false) else(some true)))))))))))
theorem q9q:s0q=r8l:=zC 269 rfl Tryz.func269 (by kernel_rfl)
def t00(x:p9w):Option Bool:=zK 136 x
def s8i(g:Z98→Option s4t)(x:Z98):Option s4t:=(bif (decide (x.2.2<(x.1.length:Int))) then(bif (y4q x.2.2 x.1.length) then(bif (y4q x.2.2 x.2.1.length) then((s0q ((rdL u0a x.1 (x.2.2).toNat),(rdL u0a x.2.1 (x.2.2).toNat))).bind fun y1=>(bif (!y1) then(some (.inr false)) else(g (x.1,(x.2.1,(IntKind.i64.wrap (x.2.2+1))))))) else none) else none) else(some (.inl ())))
def u9f:=lpW _ _ s8i
theorem q3b x:u9f x=s8i u9f x:=zW r0b 136 Tryz.f136 4 27 x (by kernel_rfl)
def r5c (x:p9w):Option Bool:=(bif (!decide ((x.1.length:Int)=(x.2.length:Int))) then(some false) else((u9f (x.1,(x.2,0))).bind fun r2=>match r2 with | .inl o3=>(some true) | .inr z4=>(some z4)))
theorem q7j:t00=r5c:=zC 136 rfl Tryz.func136 (by kernel_rfl)
def t28(x:Z96):Option Bool:=zK 460 x
def s6a (x:Z96):Option Bool:=(bif (!z7o x.1.1 x.2.1) then(some false) else(bif (!z7o x.1.2.1 x.2.2.1) then(some false) else(bif (!(x.1.2.2.1==x.2.2.2.1)) then(some false) else(bif (!decide (x.1.2.2.2=x.2.2.2.2)) then(some false) else(some true)))))
theorem r92:t28=s6a:=zC 460 rfl Tryz.func460 (by kernel_rfl)
def t5b(x:o1f):Option Bool:=zK 404 x
def t77(g:p53→Option s4t)(x:p53):Option s4t:=(bif (decide (x.2.2<(x.1.length:Int))) then(bif (y4q x.2.2 x.1.length) then(bif (y4q x.2.2 x.2.1.length) then((t28 ((rdL u0d x.1 (x.2.2).toNat),(rdL u0d x.2.1 (x.2.2).toNat))).bind fun y1=>(bif (!y1) then(some (.inr false)) else(g (x.1,(x.2.1,(IntKind.i64.wrap (x.2.2+1))))))) else none) else none) else(some (.inl ())))
def u43:=lpW _ _ t77
theorem r4i x:u43 x=t77 u43 x:=zW t8j 404 Tryz.f404 4 27 x (by kernel_rfl)
def s2k (x:o1f):Option Bool:=(bif (!decide ((x.1.length:Int)=(x.2.length:Int))) then(some false) else((u43 (x.1,(x.2,0))).bind fun r2=>match r2 with | .inl o3=>(some true) | .inr z4=>(some z4)))
theorem r7i:t5b=s2k:=zC 404 rfl Tryz.func404 (by kernel_rfl)
def s5b(x:Z28):Option Bool:=zK 335 x
def r48 (x:Z28):Option Bool:=((t5b (x.1.1,x.2.1)).bind fun y1=>(bif (!y1) then(some false) else((t00 (x.1.2.1,x.2.2.1)).bind fun y2=>(bif (!y2) then(some false) else((t00 (x.1.2.2.1,x.2.2.2.1)).bind fun y3=>(bif (!y3) then(some false) else(bif (!decide (x.1.2.2.2.1=x.2.2.2.2.1)) then(some false) else(bif (!decide (x.1.2.2.2.2=x.2.2.2.2.2)) then(some false) else(some true)))))))))
theorem q7f:s5b=r48:=zC 335 rfl Tryz.func335 (by kernel_rfl)
def t84(x:Z16):Option Bool:=zK 216 x
def s89 (x:Z16):Option Bool:=((s5b (x.1.1,x.2.1)).bind fun y1=>(bif (!y1) then(some false) else((t00 (x.1.2,x.2.2)).bind fun y2=>(bif (!y2) then(some false) else(some true)))))
theorem q1u:t84=s89:=zC 216 rfl Tryz.func216 (by kernel_rfl)
def t27(x:o4a):Option Bool:=zK 138 x
def t9y(g:o1c→Option s4t)(x:o1c):Option s4t:=(bif (decide (x.2.2<(x.1.length:Int))) then(bif (y4q x.2.2 x.1.length) then(bif (y4q x.2.2 x.2.1.length) then(bif (!z7o (rdL Ty.str x.1 (x.2.2).toNat) (rdL Ty.str x.2.1 (x.2.2).toNat)) then(some (.inr false)) else(g (x.1,(x.2.1,(IntKind.i64.wrap (x.2.2+1)))))) else none) else none) else(some (.inl ())))
def u5l:=lpW _ _ t9y
theorem r6w x:u5l x=t9y u5l x:=zW s0e 138 Tryz.f138 4 26 x (by kernel_rfl)
def s59 (x:o4a):Option Bool:=(bif (!decide ((x.1.length:Int)=(x.2.length:Int))) then(some false) else((u5l (x.1,(x.2,0))).bind fun r1=>match r1 with | .inl o2=>(some true) | .inr z3=>(some z3)))
theorem r91:t27=s59:=zC 138 rfl Tryz.func138 (by kernel_rfl)
def s0p(x:o39):Option Bool:=zK 405 x
def r8k (x:o39):Option Bool:=(bif (!decide (x.1.1=x.2.1)) then(some false) else(bif (!z7o x.1.2 x.2.2) then(some false) else(some true)))
theorem q9p:s0p=r8k:=zC 405 rfl Tryz.func405 (by kernel_rfl)
def s5e(x:(p2z×p2z)):Option Bool:=zK 336 x
def s8h(g:o1e→Option s4t)(x:o1e):Option s4t:=(bif (decide (x.2.2<(x.1.length:Int))) then(bif (y4q x.2.2 x.1.length) then(bif (y4q x.2.2 x.2.1.length) then((s0p ((rdL q0k x.1 (x.2.2).toNat),(rdL q0k x.2.1 (x.2.2).toNat))).bind fun y1=>(bif (!y1) then(some (.inr false)) else(g (x.1,(x.2.1,(IntKind.i64.wrap (x.2.2+1))))))) else none) else none) else(some (.inl ())))
def u9e:=lpW _ _ s8h
theorem q3a x:u9e x=s8h u9e x:=zW r0a 336 Tryz.f336 4 27 x (by kernel_rfl)
def r5b (x:(p2z×p2z)):Option Bool:=(bif (!decide ((x.1.length:Int)=(x.2.length:Int))) then(some false) else((u9e (x.1,(x.2,0))).bind fun r2=>match r2 with | .inl o3=>(some true) | .inr z4=>(some z4)))
theorem q7i:s5e=r5b:=zC 336 rfl Tryz.func336 (by kernel_rfl)
def s5c(x:o28):Option Bool:=zK 217 x
def r49 (x:o28):Option Bool:=((t27 (x.1.1,x.2.1)).bind fun y1=>(bif (!y1) then(some false) else((s5e (x.1.2,x.2.2)).bind fun y2=>(bif (!y2) then(some false) else(some true)))))
theorem q7g:s5c=r49:=zC 217 rfl Tryz.func217 (by kernel_rfl)
def s1n(x:Z10):Option Bool:=zK 83 x
def r2m (x:Z10):Option Bool:=((t84 (x.1.1,x.2.1)).bind fun y1=>(bif (!y1) then(some false) else((s5c (x.1.2,x.2.2)).bind fun y2=>(bif (!y2) then(some false) else(some true)))))
theorem q4e:s1n=r2m:=zC 83 rfl Tryz.func83 (by kernel_rfl)
def s5d(x:(r4n×r4n)):Option Bool:=zK 137 x
def s8g(g:o1s→Option s4t)(x:o1s):Option s4t:=(bif (decide (x.2.2<(x.1.length:Int))) then(bif (y4q x.2.2 x.1.length) then(bif (y4q x.2.2 x.2.1.length) then(bif (!decide ((rdL (Ty.int .i64) x.1 (x.2.2).toNat)=(rdL (Ty.int .i64) x.2.1 (x.2.2).toNat))) then(some (.inr false)) else(g (x.1,(x.2.1,(IntKind.i64.wrap (x.2.2+1)))))) else none) else none) else(some (.inl ())))
def u9d:=lpW _ _ s8g
theorem q29 x:u9d x=s8g u9d x:=zW s99 137 Tryz.f137 4 26 x (by kernel_rfl)
def r5a (x:(r4n×r4n)):Option Bool:=(bif (!decide ((x.1.length:Int)=(x.2.length:Int))) then(some false) else((u9d (x.1,(x.2,0))).bind fun r1=>match r1 with | .inl o2=>(some true) | .inr z3=>(some z3)))
theorem q7h:s5d=r5a:=zC 137 rfl Tryz.func137 (by kernel_rfl)
def s1o(x:Z4):Option Bool:=zK 39 x
def r2n (x:Z4):Option Bool:=((s1n (x.1.1,x.2.1)).bind fun y1=>(bif (!y1) then(some false) else((t00 (x.1.2.1,x.2.2.1)).bind fun y2=>(bif (!y2) then(some false) else((s5d (x.1.2.2.1,x.2.2.2.1)).bind fun y3=>(bif (!y3) then(some false) else((t27 (x.1.2.2.2,x.2.2.2.2)).bind fun y4=>(bif (!y4) then(some false) else(some true)))))))))
theorem q4f:s1o=r2n:=zC 39 rfl Tryz.func39 (by kernel_rfl)
def u23(x:Z88):Option Z88:=zK 106 x
def r3f (x:Z88):Option Z88:=(bif (Nat.ble (([] :List r36.den).length+x.2.2.2.2.1.length) z7w) then(bif (Nat.ble (([] :List u2k.den).length+x.2.2.2.2.2.1.length) z7w) then(some (x.1,(x.2.1,(x.2.2.1,(x.2.2.2.1,((([] :List r36.den)++x.2.2.2.2.1),((([] :List u2k.den)++x.2.2.2.2.2.1),x.2.2.2.2.2.2))))))) else none) else none)
theorem q48:u23=r3f:=zC 106 rfl Tryz.func106 (by kernel_rfl)
def t6h(x:r61):Option r61:=zK 241 x
def t2o(g:Z98→Option p7o)(x:Z98):Option p7o:=(bif (decide (x.2.2<(x.1.length:Int))) then(bif (y4q x.2.2 x.1.length) then((u23 (rdL u0a x.1 (x.2.2).toNat)).bind fun y1=>(bif (Nat.ble (x.2.1.length+([y1] :List u0a.den).length) z7w) then(g (x.1,((x.2.1++([y1] :List u0a.den)),(IntKind.i64.wrap (x.2.2+1))))) else none)) else none) else(some (.inl x.2.1)))
def t20:=lpW _ _ t2o
theorem s76 x:t20 x=t2o t20 x:=zW s7e 241 Tryz.f241 3 21 x (by kernel_rfl)
def r3h (x:r61):Option r61:=((t20 (x,(([] :List u0a.den),0))).bind fun r2=>match r2 with | .inl o3=>(some o3) | .inr z4=>none)
theorem q5a:t6h=r3h:=zC 241 rfl Tryz.func241 (by kernel_rfl)
def u24(x:Z75):Option Z75:=zK 104 x
def r3g (x:Z75):Option Z75:=(bif (Nat.ble (([] :List u0d.den).length+x.1.length) z7w) then((t6h x.2.1).bind fun y1=>((t6h x.2.2.1).bind fun y2=>(some ((([] :List u0d.den)++x.1),(y1,(y2,x.2.2.2)))))) else none)
theorem q49:u24=r3g:=zC 104 rfl Tryz.func104 (by kernel_rfl)
def t9h(x:Z42):Option Int:=zK 105 x
def u94(g:p54→Option p20)(x:p54):Option p20:=(bif (decide (x.2.2<(x.1.length:Int))) then(bif (y4q x.2.2 x.1.length) then(bif (decide ((rdL u0a x.1 (x.2.2).toNat).2.2.1<x.2.1)) then(bif (y4q x.2.2 x.1.length) then(g (x.1,((rdL u0a x.1 (x.2.2).toNat).2.2.1,(IntKind.i64.wrap (x.2.2+1))))) else none) else(g (x.1,(x.2.1,(IntKind.i64.wrap (x.2.2+1)))))) else none) else(some (.inl x.2.1)))
def t0q:=lpW _ _ u94
theorem s4g x:t0q x=u94 t0q x:=zW s3i 105 Tryz.f105 3 28 x (by kernel_rfl)
def s9n (x:Z42):Option Int:=((t0q (x.2,(x.1.2.2.2.1,0))).bind fun r1=>match r1 with | .inl o2=>(some o2) | .inr z3=>none)
theorem q18:t9h=s9n:=zC 105 rfl Tryz.func105 (by kernel_rfl)
def s0z(x:p7d):Option Int:=zK 113 x
def t5o(g:o3q→Option p20)(x:o3q):Option p20:=(bif (decide (x.2.2.2.2<(x.1.length:Int))) then(((bif (y4q x.2.2.2.2 x.1.length) then(bif (z7o (rdL u0d x.1 (x.2.2.2.2).toNat).1 x.2.1) then(bif (y4q x.2.2.2.2 x.1.length) then(bif (decide ((rdL u0d x.1 (x.2.2.2.2).toNat).2.2.2≤x.2.2.1)) then(bif (decide (x.2.2.2.1<0)) then(some true) else(bif (y4q x.2.2.2.2 x.1.length) then(bif (y4q x.2.2.2.1 x.1.length) then(some (decide ((rdL u0d x.1 (x.2.2.2.2).toNat).2.2.2 >(rdL u0d x.1 (x.2.2.2.1).toNat).2.2.2))) else none) else none)) else(some false)) else none) else(some false)) else none):Option Bool).bind fun j1=>(bif j1 then(g (x.1,(x.2.1,(x.2.2.1,(x.2.2.2.2,(IntKind.i64.wrap (x.2.2.2.2+1))))))) else(g (x.1,(x.2.1,(x.2.2.1,(x.2.2.2.1,(IntKind.i64.wrap (x.2.2.2.2+1))))))))) else(some (.inl x.2.2.2.1)))
def t1k:=lpW _ _ t5o
theorem r34 x:t1k x=t5o t1k x:=zW r3t 113 Tryz.f113 3 50 x (by kernel_rfl)
def r8v (x:p7d):Option Int:=((t1k (x.1,(x.2.1,(x.2.2,((-1:Int),0))))).bind fun r2=>match r2 with | .inl o3=>(some o3) | .inr z4=>none)
theorem q91:s0z=r8v:=zC 113 rfl Tryz.func113 (by kernel_rfl)
def s1y(x:p7u):Option s5s:=zK 107 x
def t2k(g:o3m→Option o1r)(x:o3m):Option o1r:=(bif (decide (x.2.2.2<(x.1.length:Int))) then(bif (y4q x.2.2.2 x.1.length) then((s0z (x.1,((rdL u0d x.1 (x.2.2.2).toNat).1,x.2.1))).bind fun y1=>(((bif (y4q x.2.2.2 x.1.length) then(bif (decide ((rdL u0d x.1 (x.2.2.2).toNat).2.2.2 >x.2.1)) then(some true) else(some (decide (y1=x.2.2.2)))) else none):Option Bool).bind fun j2=>(bif j2 then(bif (y4q x.2.2.2 x.1.length) then(bif (Nat.ble (x.2.2.1.length+([(rdL u0d x.1 (x.2.2.2).toNat)] :List u0d.den).length) z7w) then(g (x.1,(x.2.1,((x.2.2.1++([(rdL u0d x.1 (x.2.2.2).toNat)] :List u0d.den)),(IntKind.i64.wrap (x.2.2.2+1)))))) else none) else none) else(g (x.1,(x.2.1,(x.2.2.1,(IntKind.i64.wrap (x.2.2.2+1))))))))) else none) else(some (.inl (x.2.1,x.2.2.1))))
def u75:=lpW _ _ t2k
theorem s72 x:u75 x=t2k u75 x:=zW s7a 107 Tryz.f107 3 99 x (by kernel_rfl)
def t0a(g:o3d→Option (o2m⊕Unit))(x:o3d):Option (o2m⊕Unit):=(bif (decide (x.2.2.2.2.2<(x.2.1.length:Int))) then(bif (y4q x.2.2.2.2.2 x.2.1.length) then(bif (y4q x.2.2.2.1 x.2.1.length) then(bif (z7o (rdL u0d x.2.1 (x.2.2.2.2.2).toNat).1 (rdL u0d x.2.1 (x.2.2.2.1).toNat).1) then(g (x.1,(x.2.1,(x.2.2.1,(x.2.2.2.1,((IntKind.i64.wrap (x.2.2.2.2.1+1)),(IntKind.i64.wrap (x.2.2.2.2.2+1)))))))) else(g (x.1,(x.2.1,(x.2.2.1,(x.2.2.2.1,(x.2.2.2.2.1,(IntKind.i64.wrap (x.2.2.2.2.2+1))))))))) else none) else none) else(some (.inl (x.1,(x.2.1,(x.2.2.1,(x.2.2.2.1,x.2.2.2.2.1)))))))
def u6c:=lpW _ _ t0a
theorem s4m x:u6c x=t0a u6c x:=zW s3o 107 Tryz.f107 14 99 x (by kernel_rfl)
def u99(g:o3n→Option p3w)(x:o3n):Option p3w:=(bif (decide (x.2.2.2<(x.2.1.length:Int))) then((u6c (x.1,(x.2.1,(x.2.2.1,(x.2.2.2,(0,0)))))).bind fun r5=>match r5 with | .inl o6=>(((bif (y4q o6.2.2.2.1 o6.2.1.length) then(bif (!(rdL u0d o6.2.1 (o6.2.2.2.1).toNat).2.2.1) then(some true) else(bif (y4q o6.2.2.2.1 o6.2.1.length) then(bif (decide ((rdL u0d o6.2.1 (o6.2.2.2.1).toNat).2.2.2 >o6.1)) then(some true) else(some (decide (o6.2.2.2.2 >1)))) else none)) else none):Option Bool).bind fun j7=>(bif j7 then(bif (y4q o6.2.2.2.1 o6.2.1.length) then(bif (Nat.ble (o6.2.2.1.length+([(rdL u0d o6.2.1 (o6.2.2.2.1).toNat)] :List u0d.den).length) z7w) then(g (o6.1,(o6.2.1,((o6.2.2.1++([(rdL u0d o6.2.1 (o6.2.2.2.1).toNat)] :List u0d.den)),(IntKind.i64.wrap (o6.2.2.2.1+1)))))) else none) else none) else(g (o6.1,(o6.2.1,(o6.2.2.1,(IntKind.i64.wrap (o6.2.2.2.1+1)))))))) | .inr z8=>(some (.inr ()))) else(some (.inl x.2.2.1)))
def t0s:=lpW _ _ u99
theorem s4l x:t0s x=u99 t0s x:=zW s3n 107 Tryz.f107 10 99 x (by kernel_rfl)
def r28 (x:p7u):Option s5s:=((u75 (x.1,(x.2,(([] :List u0d.den),0)))).bind fun r3=>match r3 with | .inl o4=>((t0s (o4.1,(o4.2,(([] :List u0d.den),0)))).bind fun r9=>match r9 with | .inl o10=>(some o10) | .inr z11=>none) | .inr z12=>none)
theorem q42:s1y=r28:=zC 107 rfl Tryz.func107 (by kernel_rfl)
def t4t(x:Z42):Option Z75:=zK 21 x
def t30(g:Z12→Option (Z14⊕Unit))(x:Z12):Option (Z14⊕Unit):=(bif (decide (x.2.2.2.2<(x.1.2.1.length:Int))) then(bif (y4q x.2.2.2.2 x.1.2.1.length) then(bif (decide ((rdL u0a x.1.2.1 (x.2.2.2.2).toNat).2.2.2.1 >x.2.2.2.1)) then(bif (y4q x.2.2.2.2 x.1.2.1.length) then((u23 (rdL u0a x.1.2.1 (x.2.2.2.2).toNat)).bind fun y3=>(bif (Nat.ble (x.2.2.1.2.1.length+([y3] :List u0a.den).length) z7w) then(g (x.1,(x.2.1,((x.2.2.1.1,((x.2.2.1.2.1++([y3] :List u0a.den)),x.2.2.1.2.2)),(x.2.2.2.1,(IntKind.i64.wrap (x.2.2.2.2+1))))))) else none)) else none) else(g (x.1,(x.2.1,(x.2.2.1,(x.2.2.2.1,(IntKind.i64.wrap (x.2.2.2.2+1)))))))) else none) else(some (.inl (x.1,(x.2.1,(x.2.2.1,x.2.2.2.1))))))
def t4b:=lpW _ _ t30
theorem r1c x:t4b x=t30 t4b x:=zW r0l 21 Tryz.f21 5 47 x (by kernel_rfl)
def r5u (x:Z42):Option Z75:=((u24 x.1).bind fun y1=>((t9h x).bind fun y2=>((t4b (x.1,((([] :List u0d.den),(([] :List u0a.den),(([] :List u0a.den),(0,0)))),((y1.1,(([] :List u0a.den),y1.2.2)),(y2,0))))).bind fun r4=>match r4 with | .inl o5=>((s1y (o5.1.1,o5.2.2.2)).bind fun y6=>(some (y6,o5.2.2.1.2))) | .inr z7=>none)))
theorem q71:t4t=r5u:=zC 21 rfl Tryz.func21 (by kernel_rfl)
def u0z(x:p9l):Option Bool:=zK 188 x
def r8u (x:p9l):Option Bool:=(((bif (decide (x.1≥x.2.1)) then(some (decide (x.1≤x.2.2))) else(some false)):Option Bool).bind fun j1=>(some j1))
theorem q90:u0z=r8u:=zC 188 rfl Tryz.func188 (by kernel_rfl)
def u60(x:ByteArray):Option Bool:=zK 191 x
def t5l(g:p0t→Option o1t)(x:p0t):Option o1t:=(bif (decide (x.2<(x.1.size:Int))) then(((bif (y4q x.2 x.1.size) then(bif (decide (((x.1.data.toList.getD (x.2).toNat 0).toNat:Int)<(97:Int))) then(some true) else(bif (y4q x.2 x.1.size) then(some (decide (((x.1.data.toList.getD (x.2).toNat 0).toNat:Int) >(122:Int)))) else none)) else none):Option Bool).bind fun j1=>(bif j1 then(some (.inr false)) else(g (x.1,(IntKind.i64.wrap (x.2+1)))))) else(some (.inl x.1)))
def t5r:=lpW _ _ t5l
theorem r31 x:t5r x=t5l t5r x:=zW r3q 191 Tryz.f191 2 23 x (by kernel_rfl)
def r8q (x:ByteArray):Option Bool:=((t5r (x,0)).bind fun r2=>match r2 with | .inl o3=>((u0z ((o3.size:Int),(1,3))).bind fun y4=>(some y4)) | .inr z5=>(some z5))
theorem q9w:u60=r8q:=zC 191 rfl Tryz.func191 (by kernel_rfl)
def s1z(x:p7n):Option Bool:=zK 110 x
def r3a (x:p7n):Option Bool:=((((u60 x.1).bind fun y1=>(bif y1 then(bif (decide ((x.2.1.size:Int)≤(12:Int))) then(bif (!x.2.2) then(some true) else(some (z7o x.2.1 (⟨#[]⟩:ByteArray)))) else(some false)) else(some false))):Option Bool).bind fun j2=>(some j2))
theorem q44:s1z=r3a:=zC 110 rfl Tryz.func110 (by kernel_rfl)
def t9l(x:q6g):Option Bool:=zK 243 x
def t0c(g:(q6g×Int)→Option (q6g⊕Bool))(x:(q6g×Int)):Option (q6g⊕Bool):=(bif (decide (x.2<(x.1.length:Int))) then(((bif (y4q x.2 x.1.length) then((s1z (rdL u2k x.1 (x.2).toNat)).bind fun y1=>(bif (!y1) then(some true) else(bif (decide (x.2 >0)) then(bif (y4q (IntKind.i64.wrap (x.2 - 1)) x.1.length) then(bif (y4q x.2 x.1.length) then(some (!y3c (rdL u2k x.1 ((IntKind.i64.wrap (x.2 - 1))).toNat).1 (rdL u2k x.1 (x.2).toNat).1)) else none) else none) else(some false)))) else none):Option Bool).bind fun j2=>(bif j2 then(some (.inr false)) else(g (x.1,(IntKind.i64.wrap (x.2+1)))))) else(some (.inl x.1)))
def t0t:=lpW _ _ t0c
theorem s4o x:t0t x=t0c t0t x:=zW s3q 243 Tryz.f243 2 37 x (by kernel_rfl)
def s9u (x:q6g):Option Bool:=((t0t (x,0)).bind fun r3=>match r3 with | .inl o4=>(some (decide ((o4.length:Int)≤(8:Int)))) | .inr z5=>(some z5))
theorem q2e:t9l=s9u:=zC 243 rfl Tryz.func243 (by kernel_rfl)
def s1u(x:p0z):Option Bool:=zK 316 x
def r20 (x:p0z):Option Bool:=((((u60 x.1).bind fun y1=>(bif y1 then((u60 x.2).bind fun y2=>(bif y2 then(some (y3c x.1 x.2 || z7o x.1 x.2)) else(some false))) else(some false))):Option Bool).bind fun j3=>(some j3))
theorem q4u:s1u=r20:=zC 316 rfl Tryz.func316 (by kernel_rfl)
def u61(x:Z88):Option Bool:=zK 189 x
def t5n(g:Z84→Option (Z88⊕Bool))(x:Z84):Option (Z88⊕Bool):=(bif (decide (x.2<(x.1.2.2.2.2.1.length:Int))) then(bif (y4q x.2 x.1.2.2.2.2.1.length) then((s1u (rdL r36 x.1.2.2.2.2.1 (x.2).toNat)).bind fun y6=>(bif (!y6) then(some (.inr false)) else(g (x.1,(IntKind.i64.wrap (x.2+1)))))) else none) else(some (.inl x.1)))
def t5t:=lpW _ _ t5n
theorem r33 x:t5t x=t5n t5t x:=zW r3s 189 Tryz.f189 4 95 x (by kernel_rfl)
def r8t (x:Z88):Option Bool:=((((u0z (x.1,(1,9999))).bind fun y1=>(bif (!y1) then(some true) else((u0z (x.2.1,(1,3))).bind fun y2=>(bif (!y2) then(some true) else((u0z (x.2.2.1,(0,9999))).bind fun y3=>(bif (!y3) then(some true) else(bif (decide ((x.2.2.2.2.1.length:Int) >(8:Int))) then(some true) else((t9l x.2.2.2.2.2.1).bind fun y4=>(some (!y4)))))))))):Option Bool).bind fun j5=>(bif j5 then(some false) else((t5t (x,0)).bind fun r7=>match r7 with | .inl o8=>(((bif (decide (o8.2.1=3)) then((u0z (o8.2.2.2.1,((IntKind.i64.wrap (o8.2.2.1+1)),9999))).bind fun y9=>(bif (!y9) then(some true) else(bif (!decide (o8.2.1=3)) then(some (!decide (o8.2.2.2.1=0))) else(some false)))) else(bif (!decide (o8.2.1=3)) then(some (!decide (o8.2.2.2.1=0))) else(some false))):Option Bool).bind fun j10=>(bif j10 then(some false) else(((bif (decide (o8.2.1=2)) then((u60 o8.2.2.2.2.2.2.2).bind fun y11=>(bif (!y11) then(some true) else(bif (!decide (o8.2.1=2)) then(some (!z7o o8.2.2.2.2.2.2.2 (⟨#[]⟩:ByteArray))) else(some false)))) else(bif (!decide (o8.2.1=2)) then(some (!z7o o8.2.2.2.2.2.2.2 (⟨#[]⟩:ByteArray))) else(some false))):Option Bool).bind fun j12=>(bif j12 then(some false) else(((bif (!decide (o8.2.1=1)) then(some true) else(some (!o8.2.2.2.2.2.2.1))):Option Bool).bind fun j13=>(some j13)))))) | .inr z14=>(some z14))))
theorem q9z:u61=r8t:=zC 189 rfl Tryz.func189 (by kernel_rfl)
def t5g(x:s5s):Option Bool:=zK 197 x
def u7a(g:p7u→Option (s5s⊕Bool))(x:p7u):Option (s5s⊕Bool):=(bif (decide (x.2<(x.1.length:Int))) then(bif (y4q x.2 x.1.length) then((((u60 (rdL u0d x.1 (x.2).toNat).1).bind fun y1=>(bif (!y1) then(some true) else(bif (decide (((rdL u0d x.1 (x.2).toNat).2.1.size:Int) >(12:Int))) then(some true) else(bif (rdL u0d x.1 (x.2).toNat).2.2.1 then(bif (!z7o (rdL u0d x.1 (x.2).toNat).2.1 (⟨#[]⟩:ByteArray)) then(some true) else((u0z ((rdL u0d x.1 (x.2).toNat).2.2.2,(1,9999))).bind fun y2=>(some (!y2)))) else((u0z ((rdL u0d x.1 (x.2).toNat).2.2.2,(1,9999))).bind fun y3=>(some (!y3))))))):Option Bool).bind fun j4=>(bif j4 then(some (.inr false)) else(((bif (decide (x.2 >0)) then(bif (y4q (IntKind.i64.wrap (x.2 - 1)) x.1.length) then(bif (!(y3c (rdL u0d x.1 ((IntKind.i64.wrap (x.2 - 1))).toNat).1 (rdL u0d x.1 (x.2).toNat).1 || z7o (rdL u0d x.1 ((IntKind.i64.wrap (x.2 - 1))).toNat).1 (rdL u0d x.1 (x.2).toNat).1)) then(some true) else(bif (y4q (IntKind.i64.wrap (x.2 - 1)) x.1.length) then(bif (z7o (rdL u0d x.1 ((IntKind.i64.wrap (x.2 - 1))).toNat).1 (rdL u0d x.1 (x.2).toNat).1) then(bif (y4q (IntKind.i64.wrap (x.2 - 1)) x.1.length) then(some (decide ((rdL u0d x.1 ((IntKind.i64.wrap (x.2 - 1))).toNat).2.2.2≥(rdL u0d x.1 (x.2).toNat).2.2.2))) else none) else(some false)) else none)) else none) else(some false)):Option Bool).bind fun j5=>(bif j5 then(some (.inr false)) else(g (x.1,(IntKind.i64.wrap (x.2+1)))))))) else none) else(some (.inl x.1)))
def u7h:=lpW _ _ u7a
theorem t9v x:u7h x=u7a u7h x:=zW t8p 197 Tryz.f197 2 78 x (by kernel_rfl)
def s2r (x:s5s):Option Bool:=((u7h (x,0)).bind fun r6=>match r6 with | .inl o7=>(some (decide ((o7.length:Int)≤(120:Int)))) | .inr z8=>(some z8))
theorem r7p:t5g=s2r:=zC 197 rfl Tryz.func197 (by kernel_rfl)
def u5q(x:Z75):Option Bool:=zK 69 x
def t3w(g:Z70→Option p7q)(x:Z70):Option p7q:=(bif (decide (x.2<(x.1.1.length:Int))) then(bif (y4q x.2 x.1.1.length) then(bif (decide ((rdL u0d x.1.1 (x.2).toNat).2.2.2 >x.1.2.2.2.1)) then(some (.inr false)) else(g (x.1,(IntKind.i64.wrap (x.2+1))))) else none) else(some (.inl x.1)))
def u9j:=lpW _ _ t3w
theorem r08 x:u9j x=t3w u9j x:=zW r0h 69 Tryz.f69 4 179 x (by kernel_rfl)
def t19(g:Z55→Option (Z64⊕Bool))(x:Z55):Option (Z64⊕Bool):=(bif (decide (x.2.2<(x.1.2.1.length:Int))) then(bif (y4q x.2.2 x.1.2.1.length) then((((u61 (rdL u0a x.1.2.1 (x.2.2).toNat)).bind fun y7=>(bif (!y7) then(some true) else(bif (!decide ((rdL u0a x.1.2.1 (x.2.2).toNat).2.1=3)) then(some true) else(bif (decide ((rdL u0a x.1.2.1 (x.2.2).toNat).2.2.2.1 >x.1.2.2.2.1)) then(some true) else(bif (decide (x.2.2 >0)) then(bif (y4q (IntKind.i64.wrap (x.2.2 - 1)) x.1.2.1.length) then(some (decide ((rdL u0a x.1.2.1 ((IntKind.i64.wrap (x.2.2 - 1))).toNat).2.2.2.1≥(rdL u0a x.1.2.1 (x.2.2).toNat).2.2.2.1))) else none) else(some false)))))):Option Bool).bind fun j8=>(bif j8 then(some (.inr false)) else(bif (Nat.ble (x.2.1.length+([(rdL u0a x.1.2.1 (x.2.2).toNat).1] :List Int).length) z7w) then(g (x.1,((x.2.1++([(rdL u0a x.1.2.1 (x.2.2).toNat).1] :List Int)),(IntKind.i64.wrap (x.2.2+1))))) else none))) else none) else(some (.inl (x.1,x.2.1))))
def u5b:=lpW _ _ t19
theorem s7q x:u5b x=t19 u5b x:=zW s6x 69 Tryz.f69 10 179 x (by kernel_rfl)
def t2a(g:Z55→Option (Z64⊕Bool))(x:Z55):Option (Z64⊕Bool):=(bif (decide (x.2.2<(x.1.2.2.1.length:Int))) then(bif (y4q x.2.2 x.1.2.2.1.length) then((((u61 (rdL u0a x.1.2.2.1 (x.2.2).toNat)).bind fun y11=>(bif (!y11) then(some true) else(bif (!decide ((rdL u0a x.1.2.2.1 (x.2.2).toNat).2.1=2)) then(some true) else(bif (decide ((rdL u0a x.1.2.2.1 (x.2.2).toNat).2.2.1 >x.1.2.2.2.1)) then(some true) else(bif (decide (x.2.2 >0)) then(bif (y4q (IntKind.i64.wrap (x.2.2 - 1)) x.1.2.2.1.length) then(some (!y3c (rdL u0a x.1.2.2.1 ((IntKind.i64.wrap (x.2.2 - 1))).toNat).2.2.2.2.2.2.2 (rdL u0a x.1.2.2.1 (x.2.2).toNat).2.2.2.2.2.2.2)) else none) else(some false)))))):Option Bool).bind fun j12=>(bif j12 then(some (.inr false)) else(bif (Nat.ble (x.2.1.length+([(rdL u0a x.1.2.2.1 (x.2.2).toNat).1] :List Int).length) z7w) then(g (x.1,((x.2.1++([(rdL u0a x.1.2.2.1 (x.2.2).toNat).1] :List Int)),(IntKind.i64.wrap (x.2.2+1))))) else none))) else none) else(some (.inl (x.1,x.2.1))))
def u7z:=lpW _ _ t2a
theorem s7r x:u7z x=t2a u7z x:=zW s6y 69 Tryz.f69 17 179 x (by kernel_rfl)
def t2c(g:Z50→Option (Z55⊕Bool))(x:Z50):Option (Z55⊕Bool):=(bif (decide (x.2.2.2<x.2.2.1)) then(bif (y4q x.2.2.2 x.2.1.length) then(bif (y4q x.2.2.1 x.2.1.length) then(bif (decide ((rdL (Ty.int .i64) x.2.1 (x.2.2.2).toNat)=(rdL (Ty.int .i64) x.2.1 (x.2.2.1).toNat))) then(some (.inr false)) else(g (x.1,(x.2.1,(x.2.2.1,(IntKind.i64.wrap (x.2.2.2+1))))))) else none) else none) else(some (.inl (x.1,(x.2.1,x.2.2.1)))))
def u70:=lpW _ _ t2c
theorem s7t x:u70 x=t2c u70 x:=zW s60 69 Tryz.f69 27 179 x (by kernel_rfl)
def t2b(g:Z55→Option s4t)(x:Z55):Option s4t:=(bif (decide (x.2.2<(x.2.1.length:Int))) then((u70 (x.1,(x.2.1,(x.2.2,0)))).bind fun r15=>match r15 with | .inl o16=>(bif (y4q o16.2.2 o16.2.1.length) then(bif (decide ((rdL (Ty.int .i64) o16.2.1 (o16.2.2).toNat)≥o16.1.2.2.2.2)) then(some (.inr false)) else(g (o16.1,(o16.2.1,(IntKind.i64.wrap (o16.2.2+1)))))) else none) | .inr z17=>(some (.inr z17))) else(some (.inl ())))
def u5c:=lpW _ _ t2b
theorem s7s x:u5c x=t2b u5c x:=zW s6z 69 Tryz.f69 24 179 x (by kernel_rfl)
def r5n (x:Z75):Option Bool:=((((t5g x.1).bind fun y1=>(bif (!y1) then(some true) else(bif (decide ((x.2.1.length:Int) >(12:Int))) then(some true) else(bif (decide ((x.2.2.1.length:Int) >(3:Int))) then(some true) else((u0z (x.2.2.2.1,(0,9999))).bind fun y2=>(bif (!y2) then(some true) else((u0z (x.2.2.2.2,(1,9999))).bind fun y3=>(some (!y3))))))))):Option Bool).bind fun j4=>(bif j4 then(some false) else((u9j (x,0)).bind fun r5=>match r5 with | .inl o6=>((u5b (o6,(([] :List Int),0))).bind fun r9=>match r9 with | .inl o10=>((u7z (o10.1,(o10.2,0))).bind fun r13=>match r13 with | .inl o14=>((u5c (o14.1,(o14.2,0))).bind fun r18=>match r18 with | .inl o19=>(some true) | .inr z20=>(some z20)) | .inr z21=>(some z21)) | .inr z22=>(some z22)) | .inr z23=>(some z23))))
theorem q7u:u5q=r5n:=zC 69 rfl Tryz.func69 (by kernel_rfl)
def u1p(x:Int):Option ByteArray:=zK 313 x
def s8o(g:p7r→Option (p7r⊕Unit))(x:p7r):Option (p7r⊕Unit):=(bif (decide (x.1 >127)) then(bif (Nat.ble (x.2.length+([(IntKind.u8.wrap (IntKind.i64.wrap ((Int.tmod x.1 (128:Int))+128)))] :List Int).length) z7w) then(g ((IntKind.i64.wrap (Int.tdiv x.1 (128:Int))),(x.2++([(IntKind.u8.wrap (IntKind.i64.wrap ((Int.tmod x.1 (128:Int))+128)))] :List Int)))) else none) else(some (.inl x)))
def t4c:=lpW _ _ s8o
theorem q3h x:t4c x=s8o t4c x:=zW r0m 313 Tryz.f313 2 22 x (by kernel_rfl)
def r5v (x:Int):Option ByteArray:=((t4c (x,([] :List Int))).bind fun r1=>match r1 with | .inl o2=>(bif (Nat.ble (o2.2.length+([(IntKind.u8.wrap o2.1)] :List Int).length) z7w) then(some (y7g (o2.2++([(IntKind.u8.wrap o2.1)] :List Int)))) else none) | .inr z3=>none)
theorem q72:u1p=r5v:=zC 313 rfl Tryz.func313 (by kernel_rfl)
def t6d(x:p0t):Option p7t:=zK 315 x
def t2g(g:o36→Option (Unit⊕p7t))(x:o36):Option (Unit⊕p7t):=(((bif (decide (x.2.2.2.2<(x.1.size:Int))) then(some (decide (x.2.2.2.2<(IntKind.i64.wrap (x.2.1+5))))) else(some false)):Option Bool).bind fun j2=>(bif j2 then(bif (y4q x.2.2.2.2 x.1.size) then(bif (y4q x.2.2.2.2 x.1.size) then(bif (decide (((x.1.data.toList.getD (x.2.2.2.2).toNat 0).toNat:Int)<(128:Int))) then(((bif (decide ((IntKind.i64.wrap (x.2.2.1+(IntKind.i64.wrap ((Int.tmod (IntKind.i64.wrap ((x.1.data.toList.getD (x.2.2.2.2).toNat 0).toNat:Int)) (128:Int))*x.2.2.2.1)))) >1000000000)) then(some true) else((u1p (IntKind.i64.wrap (x.2.2.1+(IntKind.i64.wrap ((Int.tmod (IntKind.i64.wrap ((x.1.data.toList.getD (x.2.2.2.2).toNat 0).toNat:Int)) (128:Int))*x.2.2.2.1))))).bind fun y3=>(bif (decide (0≤x.2.1)&&decide (x.2.1≤(IntKind.i64.wrap (x.2.2.2.2+1)))&&decide ((IntKind.i64.wrap (x.2.2.2.2+1))≤(x.1.size:Int))) then(some (!z7o y3 (x.1.extract (x.2.1).toNat ((IntKind.i64.wrap (x.2.2.2.2+1))).toNat))) else none))):Option Bool).bind fun j4=>(bif j4 then(some (.inr (0,(0,false)))) else(some (.inr ((IntKind.i64.wrap (x.2.2.1+(IntKind.i64.wrap ((Int.tmod (IntKind.i64.wrap ((x.1.data.toList.getD (x.2.2.2.2).toNat 0).toNat:Int)) (128:Int))*x.2.2.2.1)))),((IntKind.i64.wrap (x.2.2.2.2+1)),true)))))) else(g (x.1,(x.2.1,((IntKind.i64.wrap (x.2.2.1+(IntKind.i64.wrap ((Int.tmod (IntKind.i64.wrap ((x.1.data.toList.getD (x.2.2.2.2).toNat 0).toNat:Int)) (128:Int))*x.2.2.2.1)))),((IntKind.i64.wrap (x.2.2.2.1*128)),(IntKind.i64.wrap (x.2.2.2.2+1)))))))) else none) else none) else(some (.inl ()))))
def t2v:=lpW _ _ t2g
theorem s7x x:t2v x=t2g t2v x:=zW s64 315 Tryz.f315 6 58 x (by kernel_rfl)
def r22 (x:p0t):Option p7t:=((u0z (x.2,(0,(x.1.size:Int)))).bind fun y1=>(bif (!y1) then(some (0,(0,false))) else((t2v (x.1,(x.2,(0,(1,x.2))))).bind fun r5=>match r5 with | .inl o6=>(some (0,(0,false))) | .inr z7=>(some z7))))
theorem q4w:t6d=r22:=zC 315 rfl Tryz.func315 (by kernel_rfl)
def t3e(x:p0t):Option r4m:=zK 310 x
def s6h (x:p0t):Option r4m:=((t6d x).bind fun y1=>(((bif (!y1.2.2) then(some true) else(bif (decide (y1.1 >20000)) then(some true) else(some (decide (y1.1 >(IntKind.i64.wrap ((x.1.size:Int) - y1.2.1))))))):Option Bool).bind fun j2=>(bif j2 then(some ((⟨#[]⟩:ByteArray),(0,false))) else(bif (decide (0≤y1.2.1)&&decide (y1.2.1≤(IntKind.i64.wrap (y1.2.1+y1.1)))&&decide ((IntKind.i64.wrap (y1.2.1+y1.1))≤(x.1.size:Int))) then(some ((x.1.extract (y1.2.1).toNat ((IntKind.i64.wrap (y1.2.1+y1.1))).toNat),((IntKind.i64.wrap (y1.2.1+y1.1)),true))) else none))))
theorem q0a:t3e=s6h:=zC 310 rfl Tryz.func310 (by kernel_rfl)
def u1l(x:r4m):Option o1g:=zK 180 x
def t8d (x:r4m):Option o1g:=((t3e (x.1,x.2.1)).bind fun y1=>(((bif x.2.2 then(some true) else(some (!y1.2.2))):Option Bool).bind fun j2=>(bif j2 then(some ((⟨#[]⟩:ByteArray),(x.1,(x.2.1,true)))) else(some (y1.1,(x.1,(y1.2.1,x.2.2)))))))
theorem r4a:u1l=t8d:=zC 180 rfl Tryz.func180 (by kernel_rfl)
def u42(x:r4m):Option (Bool×r4m):=zK 181 x
def s2s (x:r4m):Option (Bool×r4m):=(((bif x.2.2 then(some true) else(bif (decide (x.2.1≥(x.1.size:Int))) then(some true) else(bif (y4q x.2.1 x.1.size) then(some (decide (((x.1.data.toList.getD (x.2.1).toNat 0).toNat:Int) >(1:Int)))) else none))):Option Bool).bind fun j1=>(bif j1 then(some (false,(x.1,(x.2.1,true)))) else(bif (y4q (IntKind.i64.wrap ((IntKind.i64.wrap (x.2.1+1)) - 1)) x.1.size) then(some ((decide (((x.1.data.toList.getD ((IntKind.i64.wrap ((IntKind.i64.wrap (x.2.1+1)) - 1))).toNat 0).toNat:Int)=(1:Int))),(x.1,((IntKind.i64.wrap (x.2.1+1)),x.2.2)))) else none)))
theorem r7r:u42=s2s:=zC 181 rfl Tryz.func181 (by kernel_rfl)
def u17(x:r4m):Option (Int×r4m):=zK 186 x
def r5y (x:r4m):Option (Int×r4m):=((t6d (x.1,x.2.1)).bind fun y1=>(((bif x.2.2 then(some true) else(some (!y1.2.2))):Option Bool).bind fun j2=>(bif j2 then(some (0,(x.1,(x.2.1,true)))) else(some (y1.1,(x.1,(y1.2.1,x.2.2)))))))
theorem q75:u17=r5y:=zC 186 rfl Tryz.func186 (by kernel_rfl)
def t6c(x:p0t):Option Z80:=zK 182 x
def t2f(g:Z27→Option (Z30⊕Unit))(x:Z27):Option (Z30⊕Unit):=(((bif (decide (x.2.2.2.2<x.2.2.2.1)) then(bif (decide (x.2.2.2.2<10)) then(some (!x.2.1.2.2)) else(some false)) else(some false)):Option Bool).bind fun j6=>(bif j6 then((u1l x.2.1).bind fun y7=>((u1l y7.2).bind fun y8=>(bif (Nat.ble (x.2.2.1.2.2.2.2.1.length+([(y7.1,y8.1)] :List r36.den).length) z7w) then(g (x.1,(y8.2,((x.2.2.1.1,(x.2.2.1.2.1,(x.2.2.1.2.2.1,(x.2.2.1.2.2.2.1,((x.2.2.1.2.2.2.2.1++([(y7.1,y8.1)] :List r36.den)),x.2.2.1.2.2.2.2.2))))),(x.2.2.2.1,(IntKind.i64.wrap (x.2.2.2.2+1))))))) else none))) else(some (.inl (x.1,(x.2.1,x.2.2.1))))))
def u72:=lpW _ _ t2f
theorem s7w x:u72 x=t2f u72 x:=zW s63 182 Tryz.f182 8 115 x (by kernel_rfl)
def u96(g:Z27→Option (Z30⊕Unit))(x:Z27):Option (Z30⊕Unit):=(((bif (decide (x.2.2.2.2<x.2.2.2.1)) then(bif (decide (x.2.2.2.2<10)) then(some (!x.2.1.2.2)) else(some false)) else(some false)):Option Bool).bind fun j12=>(bif j12 then((u1l x.2.1).bind fun y13=>((u1l y13.2).bind fun y14=>((u42 y14.2).bind fun y15=>(bif (Nat.ble (x.2.2.1.2.2.2.2.2.1.length+([(y13.1,(y14.1,y15.1))] :List u2k.den).length) z7w) then(g (x.1,(y15.2,((x.2.2.1.1,(x.2.2.1.2.1,(x.2.2.1.2.2.1,(x.2.2.1.2.2.2.1,(x.2.2.1.2.2.2.2.1,((x.2.2.1.2.2.2.2.2.1++([(y13.1,(y14.1,y15.1))] :List u2k.den)),x.2.2.1.2.2.2.2.2.2)))))),(x.2.2.2.1,(IntKind.i64.wrap (x.2.2.2.2+1))))))) else none)))) else(some (.inl (x.1,(x.2.1,x.2.2.1))))))
def u6b:=lpW _ _ u96
theorem s4i x:u6b x=u96 u6b x:=zW s3k 182 Tryz.f182 15 115 x (by kernel_rfl)
def r21 (x:p0t):Option Z80:=((u17 (x.1,(x.2,false))).bind fun y1=>((u17 y1.2).bind fun y2=>((u17 y2.2).bind fun y3=>((u17 y3.2).bind fun y4=>((u17 y4.2).bind fun y5=>((u72 ((0,(0,(0,(0,(([] :List r36.den),(([] :List u2k.den),(false,(⟨#[]⟩:ByteArray)))))))),(y5.2,((y1.1,(y2.1,(y3.1,(y4.1,(([] :List r36.den),(([] :List u2k.den),(false,(⟨#[]⟩:ByteArray)))))))),(y5.1,0))))).bind fun r9=>match r9 with | .inl o10=>((u17 o10.2.1).bind fun y11=>((u6b (o10.1,(y11.2,(o10.2.2,(y11.1,0))))).bind fun r16=>match r16 with | .inl o17=>((u42 o17.2.1).bind fun y18=>((u1l y18.2).bind fun y19=>(((bif y19.2.2.2 then(some true) else((u61 (o17.2.2.1,(o17.2.2.2.1,(o17.2.2.2.2.1,(o17.2.2.2.2.2.1,(o17.2.2.2.2.2.2.1,(o17.2.2.2.2.2.2.2.1,(y18.1,y19.1)))))))).bind fun y20=>(some (!y20)))):Option Bool).bind fun j21=>(bif j21 then(some ((0,(0,(0,(0,(([] :List r36.den),(([] :List u2k.den),(false,(⟨#[]⟩:ByteArray)))))))),(0,false))) else(some ((o17.2.2.1,(o17.2.2.2.1,(o17.2.2.2.2.1,(o17.2.2.2.2.2.1,(o17.2.2.2.2.2.2.1,(o17.2.2.2.2.2.2.2.1,(y18.1,y19.1))))))),(y19.2.2.1,true))))))) | .inr z22=>none)) | .inr z23=>none))))))
theorem q4v:t6c=r21:=zC 182 rfl Tryz.func182 (by kernel_rfl)
def u88(x:(r4m×Int)):Option o3i:=zK 187 x
def u3f(g:Z93→Option (o03⊕o03))(x:Z93):Option (o03⊕o03):=(((bif (decide (x.2.2.2.2<x.2.2.2.1)) then(bif (decide (x.2.2.2.2≤x.2.1)) then(some (!x.1.2.2)) else(some false)) else(some false)):Option Bool).bind fun j2=>(bif j2 then((t6c (x.1.1,x.1.2.1)).bind fun y3=>(bif (!y3.2.2) then(some (.inr ((x.1.1,(x.1.2.1,true)),x.2.2.1))) else(bif (Nat.ble (x.2.2.1.length+([y3.1] :List u0a.den).length) z7w) then(g ((x.1.1,(y3.2.1,x.1.2.2)),(x.2.1,((x.2.2.1++([y3.1] :List u0a.den)),(x.2.2.2.1,(IntKind.i64.wrap (x.2.2.2.2+1))))))) else none))) else(some (.inl (x.1,x.2.2.1)))))
def u4q:=lpW _ _ u3f
theorem u52 x:u4q x=u3f u4q x:=zW t7f 187 Tryz.f187 4 59 x (by kernel_rfl)
def t97 (x:(r4m×Int)):Option o3i:=((u17 x.1).bind fun y1=>((u4q (y1.2,(x.2,(([] :List u0a.den),(y1.1,0))))).bind fun r4=>match r4 with | .inl o5=>(some (o5.2,o5.1)) | .inr z6=>(some (z6.2,z6.1))))
theorem r6b:u88=t97:=zC 187 rfl Tryz.func187 (by kernel_rfl)
def t9i(x:p0t):Option Z61:=zK 65 x
def u95(g:Z17→Option (Z22⊕Unit))(x:Z17):Option (Z22⊕Unit):=(((bif (decide (x.2.2.2.2<x.2.2.2.1)) then(bif (decide (x.2.2.2.2<130)) then(some (!x.2.1.2.2)) else(some false)) else(some false)):Option Bool).bind fun j4=>(bif j4 then((u1l x.2.1).bind fun y5=>((u1l y5.2).bind fun y6=>((u42 y6.2).bind fun y7=>((u17 y7.2).bind fun y8=>(bif (Nat.ble (x.2.2.1.1.length+([(y5.1,(y6.1,(y7.1,y8.1)))] :List u0d.den).length) z7w) then(g (x.1,(y8.2,(((x.2.2.1.1++([(y5.1,(y6.1,(y7.1,y8.1)))] :List u0d.den)),x.2.2.1.2),(x.2.2.2.1,(IntKind.i64.wrap (x.2.2.2.2+1))))))) else none))))) else(some (.inl (x.1,(x.2.1,x.2.2.1))))))
def u6a:=lpW _ _ u95
theorem s4h x:u6a x=u95 u6a x:=zW s3j 65 Tryz.f65 6 79 x (by kernel_rfl)
def s9p (x:p0t):Option Z61:=((u17 (x.1,(x.2,false))).bind fun y1=>((u17 y1.2).bind fun y2=>((u17 y2.2).bind fun y3=>((u6a ((([] :List u0d.den),(([] :List u0a.den),(([] :List u0a.den),(0,0)))),(y3.2,((([] :List u0d.den),(([] :List u0a.den),(([] :List u0a.den),(y1.1,y2.1)))),(y3.1,0))))).bind fun r9=>match r9 with | .inl o10=>((u88 (o10.2.1,12)).bind fun y11=>((u88 (y11.2,3)).bind fun y12=>(((bif y12.2.2.2 then(some true) else((u5q (o10.2.2.1,(y11.1,(y12.1,o10.2.2.2.2.2)))).bind fun y13=>(some (!y13)))):Option Bool).bind fun j14=>(bif j14 then(some ((([] :List u0d.den),(([] :List u0a.den),(([] :List u0a.den),(0,0)))),(0,false))) else(some ((o10.2.2.1,(y11.1,(y12.1,o10.2.2.2.2.2))),(y12.2.2.1,true))))))) | .inr z15=>none))))
theorem q2a:t9i=s9p:=zC 65 rfl Tryz.func65 (by kernel_rfl)
def t4u(x:Z88):Option Bool:=zK 190 x
def s9x (x:Z88):Option Bool:=(((bif (decide (x.1=0)) then(bif (decide (x.2.1=0)) then(bif (decide (x.2.2.1=0)) then(bif (decide (x.2.2.2.1=0)) then(bif (decide ((x.2.2.2.2.1.length:Int)=(0:Int))) then(bif (decide ((x.2.2.2.2.2.1.length:Int)=(0:Int))) then(bif (!x.2.2.2.2.2.2.1) then(some (z7o x.2.2.2.2.2.2.2 (⟨#[]⟩:ByteArray))) else(some false)) else(some false)) else(some false)) else(some false)) else(some false)) else(some false)) else(some false)):Option Bool).bind fun j1=>(some j1))
theorem q2h:t4u=s9x:=zC 190 rfl Tryz.func190 (by kernel_rfl)
def t66(x:Z75):Option Bool:=zK 192 x
def s6j (x:Z75):Option Bool:=(((bif (decide (x.2.2.2.1=0)) then(bif (decide (x.2.2.2.2=0)) then(bif (decide ((x.1.length:Int)=(0:Int))) then(bif (decide ((x.2.1.length:Int)=(0:Int))) then(some (decide ((x.2.2.1.length:Int)=(0:Int)))) else(some false)) else(some false)) else(some false)) else(some false)):Option Bool).bind fun j1=>(some j1))
theorem q0c:t66=s6j:=zC 192 rfl Tryz.func192 (by kernel_rfl)
def t4r(x:Z26):Option Bool:=zK 66 x
def s9q (x:Z26):Option Bool:=((u0z (x.1,(1,4))).bind fun y1=>(bif (!y1) then(some false) else(((bif (decide (x.1=1)) then(some true) else(some (decide (x.1=2)))):Option Bool).bind fun j2=>(((bif j2 then((u61 x.2.1).bind fun y3=>(bif (!y3) then(some true) else(bif (!j2) then((t4u x.2.1).bind fun y4=>(bif (!y4) then(some true) else(bif (decide (x.1=1)) then(bif (!decide (x.2.1.2.1=3)) then(some true) else(bif (decide (x.1=2)) then(some (!decide (x.2.1.2.1=2))) else(some false))) else(bif (decide (x.1=2)) then(some (!decide (x.2.1.2.1=2))) else(some false))))) else(bif (decide (x.1=1)) then(bif (!decide (x.2.1.2.1=3)) then(some true) else(bif (decide (x.1=2)) then(some (!decide (x.2.1.2.1=2))) else(some false))) else(bif (decide (x.1=2)) then(some (!decide (x.2.1.2.1=2))) else(some false)))))) else(bif (!j2) then((t4u x.2.1).bind fun y5=>(bif (!y5) then(some true) else(bif (decide (x.1=1)) then(bif (!decide (x.2.1.2.1=3)) then(some true) else(bif (decide (x.1=2)) then(some (!decide (x.2.1.2.1=2))) else(some false))) else(bif (decide (x.1=2)) then(some (!decide (x.2.1.2.1=2))) else(some false))))) else(bif (decide (x.1=1)) then(bif (!decide (x.2.1.2.1=3)) then(some true) else(bif (decide (x.1=2)) then(some (!decide (x.2.1.2.1=2))) else(some false))) else(bif (decide (x.1=2)) then(some (!decide (x.2.1.2.1=2))) else(some false))))):Option Bool).bind fun j6=>(bif j6 then(some false) else(((bif (decide (x.1=3)) then((u60 x.2.2.1).bind fun y7=>(bif (!y7) then(some true) else(bif (!decide (x.1=3)) then(bif (!z7o x.2.2.1 (⟨#[]⟩:ByteArray)) then(some true) else(some x.2.2.2.1)) else(some false)))) else(bif (!decide (x.1=3)) then(bif (!z7o x.2.2.1 (⟨#[]⟩:ByteArray)) then(some true) else(some x.2.2.2.1)) else(some false))):Option Bool).bind fun j8=>(bif j8 then(some false) else(bif (decide (x.1=4)) then((u5q x.2.2.2.2).bind fun y9=>(some y9)) else((t66 x.2.2.2.2).bind fun y10=>(some y10))))))))))
theorem q2b:t4r=s9q:=zC 66 rfl Tryz.func66 (by kernel_rfl)
def t6f(x:Int):Option ByteArray:=zK 307 x
def r3b (x:Int):Option ByteArray:=(some (y7g ([(IntKind.u8.wrap (Int.fdiv x (2^(min ((24:Int)).toNat (IntKind.u32).bits)))),(IntKind.u8.wrap (Int.fdiv x (2^(min ((16:Int)).toNat (IntKind.u32).bits)))),(IntKind.u8.wrap (Int.fdiv x (2^(min ((8:Int)).toNat (IntKind.u32).bits)))),(IntKind.u8.wrap x)] :List Int)))
theorem r3l:t6f=r3b:=zC 307 rfl Tryz.func307 (by kernel_rfl)
def s1w(x:p5w):Option Int:=zK 392 x
def s5v(g:o1q→Option (p7s⊕Unit))(x:o1q):Option (p7s⊕Unit):=(bif (decide (x.2.2.2<8)) then(bif (decide ((Int.tmod x.1 (2:Int))=1)) then(g ((IntKind.u32.wrap ((BitVec.ofInt (IntKind.u32).bits (IntKind.u32.wrap (Int.tdiv x.1 (2:Int)))^^^BitVec.ofInt (IntKind.u32).bits (3558460437:Int)).toNat:Int)),(x.2.1,(x.2.2.1,(IntKind.i64.wrap (x.2.2.2+1)))))) else(g ((IntKind.u32.wrap (Int.tdiv x.1 (2:Int))),(x.2.1,(x.2.2.1,(IntKind.i64.wrap (x.2.2.2+1))))))) else(some (.inl (x.1,(x.2.1,x.2.2.1)))))
def t2x:=lpW _ _ s5v
theorem q0h x:t2x x=s5v t2x x:=zW s67 392 Tryz.f392 6 33 x (by kernel_rfl)
def t2h(g:p7s→Option p20)(x:p7s):Option p20:=(bif (decide (x.2.2<(x.2.1.size:Int))) then(bif (y4q x.2.2 x.2.1.size) then((t2x ((IntKind.u32.wrap ((BitVec.ofInt (IntKind.u32).bits x.1^^^BitVec.ofInt (IntKind.u32).bits (IntKind.u32.wrap ((x.2.1.data.toList.getD (x.2.2).toNat 0).toNat:Int))).toNat:Int)),(x.2.1,(x.2.2,0)))).bind fun r1=>match r1 with | .inl o2=>(g (o2.1,(o2.2.1,(IntKind.i64.wrap (o2.2.2+1))))) | .inr z3=>(some (.inr ()))) else none) else(some (.inl x.1)))
def t2w:=lpW _ _ t2h
theorem s7z x:t2w x=t2h t2w x:=zW s66 392 Tryz.f392 2 33 x (by kernel_rfl)
def r25 (x:p5w):Option Int:=((t2w (x.1,(x.2,0))).bind fun r4=>match r4 with | .inl o5=>(some o5) | .inr z6=>none)
theorem q4z:s1w=r25:=zC 392 rfl Tryz.func392 (by kernel_rfl)
def s0y(x:ByteArray):Option Int:=zK 308 x
def s9s (x:ByteArray):Option Int:=((s1w (4294967295,x)).bind fun y1=>(some y1))
theorem r82:s0y=s9s:=zC 308 rfl Tryz.func308 (by kernel_rfl)
def t4s(x:ByteArray):Option s13:=zK 178 x
def r5s (x:ByteArray):Option s13:=(bif (decide ((x.size:Int) >(20000:Int))) then(some ((⟨#[]⟩:ByteArray),false)) else((s0y x).bind fun y1=>((t6f y1).bind fun y2=>(bif (decide (x.size+y2.size≤140737488355328)) then(some ((x++y2),true)) else none))))
theorem q7z:t4s=r5s:=zC 178 rfl Tryz.func178 (by kernel_rfl)
def u2i(x:ByteArray):Option ByteArray:=zK 304 x
def s9w (x:ByteArray):Option ByteArray:=((u1p (x.size:Int)).bind fun y1=>(bif (decide (y1.size+x.size≤140737488355328)) then(some (y1++x)) else none))
theorem q2g:u2i=s9w:=zC 304 rfl Tryz.func304 (by kernel_rfl)
def t04(x:Bool):Option ByteArray:=zK 305 x
def r5x (x:Bool):Option ByteArray:=(bif x then(some (⟨#[1]⟩:ByteArray)) else(some (⟨#[0]⟩:ByteArray)))
theorem q74:t04=r5x:=zC 305 rfl Tryz.func305 (by kernel_rfl)
def u8j(x:Z88):Option s13:=zK 306 x
def t2l(g:Z76→Option (Z82⊕Unit))(x:Z76):Option (Z82⊕Unit):=(bif (decide (x.2.2<(x.1.2.2.2.2.1.length:Int))) then(bif (y4q x.2.2 x.1.2.2.2.2.1.length) then((u2i (rdL r36 x.1.2.2.2.2.1 (x.2.2).toNat).1).bind fun y7=>(bif (decide (x.2.1.size+y7.size≤140737488355328)) then(bif (y4q x.2.2 x.1.2.2.2.2.1.length) then((u2i (rdL r36 x.1.2.2.2.2.1 (x.2.2).toNat).2).bind fun y8=>(bif (decide ((x.2.1++y7).size+y8.size≤140737488355328)) then(g (x.1,(((x.2.1++y7)++y8),(IntKind.i64.wrap (x.2.2+1))))) else none)) else none) else none)) else none) else(some (.inl (x.1,x.2.1))))
def u76:=lpW _ _ t2l
theorem s73 x:u76 x=t2l u76 x:=zW s7b 306 Tryz.f306 5 101 x (by kernel_rfl)
def t0b(g:Z76→Option (Z82⊕Unit))(x:Z76):Option (Z82⊕Unit):=(bif (decide (x.2.2<(x.1.2.2.2.2.2.1.length:Int))) then(bif (y4q x.2.2 x.1.2.2.2.2.2.1.length) then((u2i (rdL u2k x.1.2.2.2.2.2.1 (x.2.2).toNat).1).bind fun y12=>(bif (decide (x.2.1.size+y12.size≤140737488355328)) then(bif (y4q x.2.2 x.1.2.2.2.2.2.1.length) then((u2i (rdL u2k x.1.2.2.2.2.2.1 (x.2.2).toNat).2.1).bind fun y13=>(bif (decide ((x.2.1++y12).size+y13.size≤140737488355328)) then(bif (y4q x.2.2 x.1.2.2.2.2.2.1.length) then((t04 (rdL u2k x.1.2.2.2.2.2.1 (x.2.2).toNat).2.2).bind fun y14=>(bif (decide (((x.2.1++y12)++y13).size+y14.size≤140737488355328)) then(g (x.1,((((x.2.1++y12)++y13)++y14),(IntKind.i64.wrap (x.2.2+1))))) else none)) else none) else none)) else none) else none)) else none) else(some (.inl (x.1,x.2.1))))
def u6d:=lpW _ _ t0b
theorem s4n x:u6d x=t0b u6d x:=zW s3p 306 Tryz.f306 10 101 x (by kernel_rfl)
def r29 (x:Z88):Option s13:=((u61 x).bind fun y1=>(bif (!y1) then(some ((⟨#[]⟩:ByteArray),false)) else((u1p x.1).bind fun y2=>((u1p x.2.1).bind fun y3=>(bif (decide (y2.size+y3.size≤140737488355328)) then((u1p x.2.2.1).bind fun y4=>(bif (decide ((y2++y3).size+y4.size≤140737488355328)) then((u1p x.2.2.2.1).bind fun y5=>(bif (decide (((y2++y3)++y4).size+y5.size≤140737488355328)) then((u1p (x.2.2.2.2.1.length:Int)).bind fun y6=>(bif (decide ((((y2++y3)++y4)++y5).size+y6.size≤140737488355328)) then((u76 (x,(((((y2++y3)++y4)++y5)++y6),0))).bind fun r9=>match r9 with | .inl o10=>((u1p (o10.1.2.2.2.2.2.1.length:Int)).bind fun y11=>(bif (decide (o10.2.size+y11.size≤140737488355328)) then((u6d (o10.1,((o10.2++y11),0))).bind fun r15=>match r15 with | .inl o16=>((t04 o16.1.2.2.2.2.2.2.1).bind fun y17=>(bif (decide (o16.2.size+y17.size≤140737488355328)) then((u2i o16.1.2.2.2.2.2.2.2).bind fun y18=>(bif (decide ((o16.2++y17).size+y18.size≤140737488355328)) then(some (((o16.2++y17)++y18),true)) else none)) else none)) | .inr z19=>none) else none)) | .inr z20=>none) else none)) else none)) else none)) else none)))))
theorem q43:u8j=r29:=zC 306 rfl Tryz.func306 (by kernel_rfl)
def t6i(x:r61):Option ByteArray:=zK 314 x
def t2p(g:o3p→Option o1u)(x:o3p):Option o1u:=(bif (decide (x.2.2<(x.1.length:Int))) then(bif (y4q x.2.2 x.1.length) then((u8j (rdL u0a x.1 (x.2.2).toNat)).bind fun y2=>(bif (decide (x.2.1.size+y2.1.size≤140737488355328)) then(g (x.1,((x.2.1++y2.1),(IntKind.i64.wrap (x.2.2+1))))) else none)) else none) else(some (.inl x.2.1)))
def u78:=lpW _ _ t2p
theorem s77 x:u78 x=t2p u78 x:=zW s7f 314 Tryz.f314 3 28 x (by kernel_rfl)
def r3j (x:r61):Option ByteArray:=((u1p (x.length:Int)).bind fun y1=>((u78 (x,(y1,0))).bind fun r3=>match r3 with | .inl o4=>(some o4) | .inr z5=>none))
theorem q5c:t6i=r3j:=zC 314 rfl Tryz.func314 (by kernel_rfl)
def t9e(x:Z75):Option s13:=zK 185 x
def u92(g:Z57→Option (Z66⊕Unit))(x:Z57):Option (Z66⊕Unit):=(bif (decide (x.2.2<(x.1.1.length:Int))) then(bif (y4q x.2.2 x.1.1.length) then((u2i (rdL u0d x.1.1 (x.2.2).toNat).1).bind fun y5=>(bif (decide (x.2.1.size+y5.size≤140737488355328)) then((u2i (rdL u0d x.1.1 (x.2.2).toNat).2.1).bind fun y6=>(bif (decide ((x.2.1++y5).size+y6.size≤140737488355328)) then((t04 (rdL u0d x.1.1 (x.2.2).toNat).2.2.1).bind fun y7=>(bif (decide (((x.2.1++y5)++y6).size+y7.size≤140737488355328)) then((u1p (rdL u0d x.1.1 (x.2.2).toNat).2.2.2).bind fun y8=>(bif (decide ((((x.2.1++y5)++y6)++y7).size+y8.size≤140737488355328)) then(g (x.1,(((((x.2.1++y5)++y6)++y7)++y8),(IntKind.i64.wrap (x.2.2+1))))) else none)) else none)) else none)) else none)) else none) else(some (.inl (x.1,x.2.1))))
def u59:=lpW _ _ u92
theorem s4e x:u59 x=u92 u59 x:=zW s3g 185 Tryz.f185 5 60 x (by kernel_rfl)
def s9j (x:Z75):Option s13:=((u5q x).bind fun y1=>(bif (!y1) then(some ((⟨#[]⟩:ByteArray),false)) else((u1p x.2.2.2.1).bind fun y2=>((u1p x.2.2.2.2).bind fun y3=>(bif (decide (y2.size+y3.size≤140737488355328)) then((u1p (x.1.length:Int)).bind fun y4=>(bif (decide ((y2++y3).size+y4.size≤140737488355328)) then((u59 (x,(((y2++y3)++y4),0))).bind fun r9=>match r9 with | .inl o10=>((t6i o10.1.2.1).bind fun y11=>(bif (decide (o10.2.size+y11.size≤140737488355328)) then((t6i o10.1.2.2.1).bind fun y12=>(bif (decide ((o10.2++y11).size+y12.size≤140737488355328)) then(some (((o10.2++y11)++y12),true)) else none)) else none)) | .inr z13=>none) else none)) else none)))))
theorem q14:t9e=s9j:=zC 185 rfl Tryz.func185 (by kernel_rfl)
def u6l(x:Z26):Option s13:=zK 176 x
def s2p (x:Z26):Option s13:=((t4r x).bind fun y1=>(bif (!y1) then(some ((⟨#[]⟩:ByteArray),false)) else(bif (decide (x.1=3)) then((u2i x.2.2.1).bind fun y2=>(bif (decide ((y7g ([(IntKind.u8.wrap x.1)] :List Int)).size+y2.size≤140737488355328)) then((t04 x.2.2.2.1).bind fun y3=>(bif (decide (((y7g ([(IntKind.u8.wrap x.1)] :List Int))++y2).size+y3.size≤140737488355328)) then((t4s (((y7g ([(IntKind.u8.wrap x.1)] :List Int))++y2)++y3)).bind fun y4=>(some y4)) else none)) else none)) else(bif (decide (x.1=4)) then((t9e x.2.2.2.2).bind fun y5=>(bif (decide ((y7g ([(IntKind.u8.wrap x.1)] :List Int)).size+y5.1.size≤140737488355328)) then((t4s ((y7g ([(IntKind.u8.wrap x.1)] :List Int))++y5.1)).bind fun y6=>(some y6)) else none)) else((u8j x.2.1).bind fun y7=>(bif (decide ((y7g ([(IntKind.u8.wrap x.1)] :List Int)).size+y7.1.size≤140737488355328)) then((t4s ((y7g ([(IntKind.u8.wrap x.1)] :List Int))++y7.1)).bind fun y8=>(some y8)) else none))))))
theorem r7n:u6l=s2p:=zC 176 rfl Tryz.func176 (by kernel_rfl)
def t9k(x:ByteArray):Option s13:=zK 177 x
def s9t (x:ByteArray):Option s13:=(((bif (decide ((IntKind.i64.wrap ((x.size:Int) - (4:Int)))<0)) then(some true) else(bif (decide ((IntKind.i64.wrap ((x.size:Int) - (4:Int))) >20000)) then(some true) else(bif (decide (0≤(IntKind.i64.wrap ((x.size:Int) - (4:Int))))&&decide ((IntKind.i64.wrap ((x.size:Int) - (4:Int)))≤(x.size:Int))&&decide ((x.size:Int)≤(x.size:Int))) then(bif (decide (0≤(0:Int))&&decide ((0:Int)≤(IntKind.i64.wrap ((x.size:Int) - (4:Int))))&&decide ((IntKind.i64.wrap ((x.size:Int) - (4:Int)))≤(x.size:Int))) then((s0y (x.extract ((0:Int)).toNat ((IntKind.i64.wrap ((x.size:Int) - (4:Int)))).toNat)).bind fun y1=>((t6f y1).bind fun y2=>(some (!z7o (x.extract ((IntKind.i64.wrap ((x.size:Int) - (4:Int)))).toNat ((x.size:Int)).toNat) y2)))) else none) else none))):Option Bool).bind fun j3=>(bif j3 then(some ((⟨#[]⟩:ByteArray),false)) else(bif (decide (0≤(0:Int))&&decide ((0:Int)≤(IntKind.i64.wrap ((x.size:Int) - (4:Int))))&&decide ((IntKind.i64.wrap ((x.size:Int) - (4:Int)))≤(x.size:Int))) then(some ((x.extract ((0:Int)).toNat ((IntKind.i64.wrap ((x.size:Int) - (4:Int)))).toNat),true)) else none)))
theorem q2d:t9k=s9t:=zC 177 rfl Tryz.func177 (by kernel_rfl)
def t5e(x:ByteArray):Option Z25:=zK 60 x
def s2n (x:ByteArray):Option Z25:=((t9k x).bind fun y1=>(((bif (!y1.2) then(some true) else(some (z7o y1.1 (⟨#[]⟩:ByteArray)))):Option Bool).bind fun j2=>(bif j2 then(some ((0,((0,(0,(0,(0,(([] :List r36.den),(([] :List u2k.den),(false,(⟨#[]⟩:ByteArray)))))))),((⟨#[]⟩:ByteArray),(false,(([] :List u0d.den),(([] :List u0a.den),(([] :List u0a.den),(0,0)))))))),false)) else(bif (y4q (0:Int) y1.1.size) then(bif (decide ((IntKind.i64.wrap ((y1.1.data.toList.getD ((0:Int)).toNat 0).toNat:Int))=3)) then((u1l (y1.1,(1,false))).bind fun y3=>((u42 y3.2).bind fun y4=>((u6l ((IntKind.i64.wrap ((y1.1.data.toList.getD ((0:Int)).toNat 0).toNat:Int)),((0,(0,(0,(0,(([] :List r36.den),(([] :List u2k.den),(false,(⟨#[]⟩:ByteArray)))))))),(y3.1,(y4.1,(([] :List u0d.den),(([] :List u0a.den),(([] :List u0a.den),(0,0))))))))).bind fun y5=>(((bif (!y5.2) then(some true) else(some (!z7o y5.1 x))):Option Bool).bind fun j6=>(bif j6 then(some ((0,((0,(0,(0,(0,(([] :List r36.den),(([] :List u2k.den),(false,(⟨#[]⟩:ByteArray)))))))),((⟨#[]⟩:ByteArray),(false,(([] :List u0d.den),(([] :List u0a.den),(([] :List u0a.den),(0,0)))))))),false)) else(some (((IntKind.i64.wrap ((y1.1.data.toList.getD ((0:Int)).toNat 0).toNat:Int)),((0,(0,(0,(0,(([] :List r36.den),(([] :List u2k.den),(false,(⟨#[]⟩:ByteArray)))))))),(y3.1,(y4.1,(([] :List u0d.den),(([] :List u0a.den),(([] :List u0a.den),(0,0)))))))),true))))))) else(bif (decide ((IntKind.i64.wrap ((y1.1.data.toList.getD ((0:Int)).toNat 0).toNat:Int))=4)) then((t9i (y1.1,1)).bind fun y7=>((u6l ((IntKind.i64.wrap ((y1.1.data.toList.getD ((0:Int)).toNat 0).toNat:Int)),((0,(0,(0,(0,(([] :List r36.den),(([] :List u2k.den),(false,(⟨#[]⟩:ByteArray)))))))),((⟨#[]⟩:ByteArray),(false,y7.1))))).bind fun y8=>(((bif (!y8.2) then(some true) else(some (!z7o y8.1 x))):Option Bool).bind fun j9=>(bif j9 then(some ((0,((0,(0,(0,(0,(([] :List r36.den),(([] :List u2k.den),(false,(⟨#[]⟩:ByteArray)))))))),((⟨#[]⟩:ByteArray),(false,(([] :List u0d.den),(([] :List u0a.den),(([] :List u0a.den),(0,0)))))))),false)) else(some (((IntKind.i64.wrap ((y1.1.data.toList.getD ((0:Int)).toNat 0).toNat:Int)),((0,(0,(0,(0,(([] :List r36.den),(([] :List u2k.den),(false,(⟨#[]⟩:ByteArray)))))))),((⟨#[]⟩:ByteArray),(false,y7.1)))),true)))))) else((t6c (y1.1,1)).bind fun y10=>((u6l ((IntKind.i64.wrap ((y1.1.data.toList.getD ((0:Int)).toNat 0).toNat:Int)),(y10.1,((⟨#[]⟩:ByteArray),(false,(([] :List u0d.den),(([] :List u0a.den),(([] :List u0a.den),(0,0))))))))).bind fun y11=>(((bif (!y11.2) then(some true) else(some (!z7o y11.1 x))):Option Bool).bind fun j12=>(bif j12 then(some ((0,((0,(0,(0,(0,(([] :List r36.den),(([] :List u2k.den),(false,(⟨#[]⟩:ByteArray)))))))),((⟨#[]⟩:ByteArray),(false,(([] :List u0d.den),(([] :List u0a.den),(([] :List u0a.den),(0,0)))))))),false)) else(some (((IntKind.i64.wrap ((y1.1.data.toList.getD ((0:Int)).toNat 0).toNat:Int)),(y10.1,((⟨#[]⟩:ByteArray),(false,(([] :List u0d.den),(([] :List u0a.den),(([] :List u0a.den),(0,0)))))))),true)))))))) else none))))
theorem r7l:t5e=s2n:=zC 60 rfl Tryz.func60 (by kernel_rfl)
def s5n(x:Z36):Option Bool:=zK 287 x
def r5o (x:Z36):Option Bool:=(bif (decide (x.1.1=x.2.1)) then(some false) else(((bif (decide (x.1.2.1=3)) then(bif (decide (x.1.2.2.2.1≤x.2.2.2.1)) then(some true) else(bif (decide (x.2.2.1=3)) then(some (decide (x.2.2.2.2.1≤x.1.2.2.1))) else(some false))) else(bif (decide (x.2.2.1=3)) then(some (decide (x.2.2.2.2.1≤x.1.2.2.1))) else(some false))):Option Bool).bind fun j1=>(bif j1 then(some false) else(some true))))
theorem q7v:s5n=r5o:=zC 287 rfl Tryz.func287 (by kernel_rfl)
def t6b(x:o1i):Option Bool:=zK 281 x
def r2y (x:o1i):Option Bool:=(((bif (!y3c x.2 x.1.1) then(some (y3c x.2 x.1.2 || z7o x.2 x.1.2)) else(some false)):Option Bool).bind fun j1=>(some j1))
theorem q4s:t6b=r2y:=zC 281 rfl Tryz.func281 (by kernel_rfl)
def s1x(x:o1h):Option Bool:=zK 288 x
def t2j(g:o3u→Option (o1d⊕Bool))(x:o3u):Option (o1d⊕Bool):=(bif (decide (x.2.2.2<(x.2.1.length:Int))) then(bif (y4q x.2.2.1 x.1.length) then(bif (y4q x.2.2.2 x.2.1.length) then((t6b ((rdL r36 x.1 (x.2.2.1).toNat),(rdL u2k x.2.1 (x.2.2.2).toNat).1)).bind fun y1=>(bif y1 then(some (.inr true)) else(g (x.1,(x.2.1,(x.2.2.1,(IntKind.i64.wrap (x.2.2.2+1)))))))) else none) else none) else(some (.inl (x.1,(x.2.1,x.2.2.1)))))
def u74:=lpW _ _ t2j
theorem s71 x:u74 x=t2j u74 x:=zW s69 288 Tryz.f288 5 29 x (by kernel_rfl)
def t2i(g:o1d→Option s4t)(x:o1d):Option s4t:=(bif (decide (x.2.2<(x.1.length:Int))) then((u74 (x.1,(x.2.1,(x.2.2,0)))).bind fun r2=>match r2 with | .inl o3=>(g (o3.1,(o3.2.1,(IntKind.i64.wrap (o3.2.2+1))))) | .inr z4=>(some (.inr z4))) else(some (.inl ())))
def t2y:=lpW _ _ t2i
theorem s70 x:t2y x=t2i t2y x:=zW s68 288 Tryz.f288 2 29 x (by kernel_rfl)
def r27 (x:o1h):Option Bool:=((t2y (x.1,(x.2,0))).bind fun r5=>match r5 with | .inl o6=>(some false) | .inr z7=>(some z7))
theorem q41:s1x=r27:=zC 288 rfl Tryz.func288 (by kernel_rfl)
def s0v(x:Z36):Option Bool:=zK 162 x
def r8p (x:Z36):Option Bool:=((((s5n x).bind fun y1=>(bif y1 then((s1x (x.1.2.2.2.2.1,x.2.2.2.2.2.2.1)).bind fun y2=>(some y2)) else(some false))):Option Bool).bind fun j3=>(some j3))
theorem q9v:s0v=r8p:=zC 162 rfl Tryz.func162 (by kernel_rfl)
def s0x(x:Z60):Option Bool:=zK 161 x
def t5m(g:Z54→Option s4t)(x:Z54):Option s4t:=(bif (decide (x.2.2<(x.1.length:Int))) then(((bif (y4q x.2.2 x.1.length) then(bif (decide ((rdL u0a x.1 (x.2.2).toNat).2.1=3)) then(bif (y4q x.2.2 x.1.length) then((s0v (x.2.1,(rdL u0a x.1 (x.2.2).toNat))).bind fun y1=>(some y1)) else none) else(some false)) else none):Option Bool).bind fun j2=>(bif j2 then(some (.inr true)) else(g (x.1,(x.2.1,(IntKind.i64.wrap (x.2.2+1))))))) else(some (.inl ())))
def t5s:=lpW _ _ t5m
theorem r32 x:t5s x=t5m t5s x:=zW r3r 161 Tryz.f161 2 26 x (by kernel_rfl)
def r8s (x:Z60):Option Bool:=((t5s (x.2,(x.1,0))).bind fun r3=>match r3 with | .inl o4=>(some false) | .inr z5=>(some z5))
theorem q9y:s0x=r8s:=zC 161 rfl Tryz.func161 (by kernel_rfl)
def u87(x:o1a):Option s5s:=zK 379 x
def u5w(g:Z58→Option (Z58⊕Unit))(x:Z58):Option (Z58⊕Unit):=(((bif (decide (x.2.2.2.2.2.2<(x.2.2.1.length:Int))) then(bif (y4q x.2.2.2.2.2.2 x.2.2.1.length) then(bif (y3c (rdL u0d x.2.2.1 (x.2.2.2.2.2.2).toNat).1 x.2.2.2.2.1.1) then(some true) else(bif (y4q x.2.2.2.2.2.2 x.2.2.1.length) then(bif (z7o (rdL u0d x.2.2.1 (x.2.2.2.2.2.2).toNat).1 x.2.2.2.2.1.1) then(bif (y4q x.2.2.2.2.2.2 x.2.2.1.length) then(some (decide ((rdL u0d x.2.2.1 (x.2.2.2.2.2.2).toNat).2.2.2≤x.2.2.2.2.1.2.2.2))) else none) else(some false)) else none)) else none) else(some false)):Option Bool).bind fun j1=>(bif j1 then(bif (y4q x.2.2.2.2.2.2 x.2.2.1.length) then(bif (Nat.ble (x.2.2.2.2.2.1.length+([(rdL u0d x.2.2.1 (x.2.2.2.2.2.2).toNat)] :List u0d.den).length) z7w) then(g (x.1,(x.2.1,(x.2.2.1,(x.2.2.2.1,(x.2.2.2.2.1,((x.2.2.2.2.2.1++([(rdL u0d x.2.2.1 (x.2.2.2.2.2.2).toNat)] :List u0d.den)),(IntKind.i64.wrap (x.2.2.2.2.2.2+1))))))))) else none) else none) else(some (.inl x))))
def u4p:=lpW _ _ u5w
theorem t7m x:u4p x=u5w u4p x:=zW t7e 379 Tryz.f379 8 93 x (by kernel_rfl)
def u5v(g:o3r→Option p3w)(x:o3r):Option p3w:=(bif (decide (x.2.2.2<(x.1.length:Int))) then(bif (y4q x.2.2.2 x.1.length) then(bif (y4q x.2.2.2 x.1.length) then(bif (y4q x.2.2.2 x.1.length) then((u4p (x.1,(x.2.1,(x.2.2.1,(x.2.2.2,(((rdL u2k x.1 (x.2.2.2).toNat).1,((rdL u2k x.1 (x.2.2.2).toNat).2.1,((rdL u2k x.1 (x.2.2.2).toNat).2.2,x.2.1))),(([] :List u0d.den),0))))))).bind fun r2=>match r2 with | .inl o3=>(bif (Nat.ble (o3.2.2.2.2.2.1.length+([o3.2.2.2.2.1] :List u0d.den).length) z7w) then(bif (decide (0≤o3.2.2.2.2.2.2)&&decide (o3.2.2.2.2.2.2≤(o3.2.2.1.length:Int))&&decide ((o3.2.2.1.length:Int)≤(o3.2.2.1.length:Int))) then(bif (Nat.ble ((o3.2.2.2.2.2.1++([o3.2.2.2.2.1] :List u0d.den)).length+((o3.2.2.1.take ((o3.2.2.1.length:Int)).toNat).drop (o3.2.2.2.2.2.2).toNat).length) z7w) then(g (o3.1,(o3.2.1,(((o3.2.2.2.2.2.1++([o3.2.2.2.2.1] :List u0d.den))++((o3.2.2.1.take ((o3.2.2.1.length:Int)).toNat).drop (o3.2.2.2.2.2.2).toNat)),(IntKind.i64.wrap (o3.2.2.2.1+1)))))) else none) else none) else none) | .inr z4=>(some (.inr ()))) else none) else none) else none) else(some (.inl x.2.2.1)))
def u5y:=lpW _ _ u5v
theorem t7l x:u5y x=u5v u5y x:=zW t7d 379 Tryz.f379 3 93 x (by kernel_rfl)
def t96 (x:o1a):Option s5s:=(bif (Nat.ble (([] :List u0d.den).length+x.1.length) z7w) then((u5y (x.2.1,(x.2.2,((([] :List u0d.den)++x.1),0)))).bind fun r5=>match r5 with | .inl o6=>(some o6) | .inr z7=>none) else none)
theorem r6a:u87=t96:=zC 379 rfl Tryz.func379 (by kernel_rfl)
def t1s(x:Z31):Option Z75:=zK 318 x
def u98(g:Z3→Option (Z15⊕Unit))(x:Z3):Option (Z15⊕Unit):=(bif (decide (x.2.2.2.2.2<(x.1.2.2.1.length:Int))) then(bif (y4q x.2.2.2.2.2 x.1.2.2.1.length) then((u23 (rdL u0a x.1.2.2.1 (x.2.2.2.2.2).toNat)).bind fun y4=>(bif (decide (y4.1=x.2.1.1)) then(g (x.1,(x.2.1,(x.2.2.1,(x.2.2.2.1,(x.2.2.2.2.1,(IntKind.i64.wrap (x.2.2.2.2.2+1)))))))) else((s0v (y4,x.2.2.2.2.1)).bind fun y5=>(bif y5 then(bif (Nat.ble (x.2.2.2.1.2.2.1.length+([(y4.1,(y4.2.1,(y4.2.2.1,(y4.2.2.2.1,(y4.2.2.2.2.1,(y4.2.2.2.2.2.1,(true,y4.2.2.2.2.2.2.2)))))))] :List u0a.den).length) z7w) then(g (x.1,(x.2.1,(x.2.2.1,((x.2.2.2.1.1,(x.2.2.2.1.2.1,((x.2.2.2.1.2.2.1++([(y4.1,(y4.2.1,(y4.2.2.1,(y4.2.2.2.1,(y4.2.2.2.2.1,(y4.2.2.2.2.2.1,(true,y4.2.2.2.2.2.2.2)))))))] :List u0a.den)),x.2.2.2.1.2.2.2))),(x.2.2.2.2.1,(IntKind.i64.wrap (x.2.2.2.2.2+1)))))))) else none) else(bif (Nat.ble (x.2.2.2.1.2.2.1.length+([y4] :List u0a.den).length) z7w) then(g (x.1,(x.2.1,(x.2.2.1,((x.2.2.2.1.1,(x.2.2.2.1.2.1,((x.2.2.2.1.2.2.1++([y4] :List u0a.den)),x.2.2.2.1.2.2.2))),(x.2.2.2.2.1,(IntKind.i64.wrap (x.2.2.2.2.2+1)))))))) else none))))) else none) else(some (.inl (x.2.1,(x.2.2.1,x.2.2.2.1)))))
def u41:=lpW _ _ u98
theorem s4k x:u41 x=u98 u41 x:=zW s3m 318 Tryz.f318 12 85 x (by kernel_rfl)
def r26 (x:Z31):Option Z75:=((u24 x.1).bind fun y1=>((u23 x.2).bind fun y2=>(bif x.2.2.2.2.2.2.2.1 then((u87 (x.1.1,(y2.2.2.2.2.2.1,(IntKind.i64.wrap (x.1.2.2.2.1+1))))).bind fun y3=>(bif (Nat.ble (y1.2.1.length+([(y2.1,(3,(y2.2.2.1,((IntKind.i64.wrap (x.1.2.2.2.1+1)),(y2.2.2.2.2.1,(y2.2.2.2.2.2.1,(true,(⟨#[]⟩:ByteArray))))))))] :List u0a.den).length) z7w) then((u41 (x.1,(x.2,((([] :List u0d.den),(([] :List u0a.den),(([] :List u0a.den),(0,0)))),((y3,((y1.2.1++([(y2.1,(3,(y2.2.2.1,((IntKind.i64.wrap (x.1.2.2.2.1+1)),(y2.2.2.2.2.1,(y2.2.2.2.2.2.1,(true,(⟨#[]⟩:ByteArray))))))))] :List u0a.den)),(([] :List u0a.den),((IntKind.i64.wrap (x.1.2.2.2.1+1)),y1.2.2.2.2)))),((y2.1,(3,(y2.2.2.1,((IntKind.i64.wrap (x.1.2.2.2.1+1)),(y2.2.2.2.2.1,(y2.2.2.2.2.2.1,(true,(⟨#[]⟩:ByteArray)))))))),0)))))).bind fun r6=>match r6 with | .inl o7=>(bif (decide (o7.1.1≥o7.2.2.2.2.2.2)) then(some (o7.2.2.1,(o7.2.2.2.1,(o7.2.2.2.2.1,(o7.2.2.2.2.2.1,(IntKind.i64.wrap (o7.1.1+1))))))) else(some o7.2.2)) | .inr z8=>none) else none)) else((s0x (x.2,x.1.2.1)).bind fun y9=>((u87 (x.1.1,(y2.2.2.2.2.2.1,(IntKind.i64.wrap (x.1.2.2.2.1+1))))).bind fun y10=>(bif (Nat.ble (y1.2.1.length+([(y2.1,(3,(y2.2.2.1,((IntKind.i64.wrap (x.1.2.2.2.1+1)),(y2.2.2.2.2.1,(y2.2.2.2.2.2.1,(y9,(⟨#[]⟩:ByteArray))))))))] :List u0a.den).length) z7w) then((u41 (x.1,(x.2,((([] :List u0d.den),(([] :List u0a.den),(([] :List u0a.den),(0,0)))),((y10,((y1.2.1++([(y2.1,(3,(y2.2.2.1,((IntKind.i64.wrap (x.1.2.2.2.1+1)),(y2.2.2.2.2.1,(y2.2.2.2.2.2.1,(y9,(⟨#[]⟩:ByteArray))))))))] :List u0a.den)),(([] :List u0a.den),((IntKind.i64.wrap (x.1.2.2.2.1+1)),y1.2.2.2.2)))),((y2.1,(3,(y2.2.2.1,((IntKind.i64.wrap (x.1.2.2.2.1+1)),(y2.2.2.2.2.1,(y2.2.2.2.2.2.1,(y9,(⟨#[]⟩:ByteArray)))))))),0)))))).bind fun r13=>match r13 with | .inl o14=>(bif (decide (o14.1.1≥o14.2.2.2.2.2.2)) then(some (o14.2.2.1,(o14.2.2.2.1,(o14.2.2.2.2.1,(o14.2.2.2.2.2.1,(IntKind.i64.wrap (o14.1.1+1))))))) else(some o14.2.2)) | .inr z15=>none) else none))))))
theorem q40:t1s=r26:=zC 318 rfl Tryz.func318 (by kernel_rfl)
def t6e(x:Z66):Option Int:=zK 319 x
def u7s(g:Z56→Option p00)(x:Z56):Option p00:=(bif (decide (x.2.2<(x.2.1.2.2.1.length:Int))) then(bif (y4q x.2.2 x.2.1.2.2.1.length) then(bif (z7o (rdL u0a x.2.1.2.2.1 (x.2.2).toNat).2.2.2.2.2.2.2 x.1) then(some (.inr x.2.2)) else(g (x.1,(x.2.1,(IntKind.i64.wrap (x.2.2+1)))))) else none) else(some (.inl ())))
def u73:=lpW _ _ u7s
theorem s7y x:u73 x=u7s u73 x:=zW s65 319 Tryz.f319 2 22 x (by kernel_rfl)
def r23 (x:Z66):Option Int:=((u73 (x.2,(x.1,0))).bind fun r1=>match r1 with | .inl o2=>(some (-1:Int)) | .inr z3=>(some z3))
theorem q4x:t6e=r23:=zC 319 rfl Tryz.func319 (by kernel_rfl)
def t64(x:Z29):Option Z75:=zK 320 x
def u8w(g:Z1→Option (Z2⊕Unit))(x:Z1):Option (Z2⊕Unit):=(bif (decide (x.2.2.2.2.2.2<(x.2.1.2.2.1.length:Int))) then(bif (y4q x.2.2.2.2.2.2 x.2.1.2.2.1.length) then(bif (y3c (rdL u0a x.2.1.2.2.1 (x.2.2.2.2.2.2).toNat).2.2.2.2.2.2.2 x.1) then(bif (y4q x.2.2.2.2.2.2 x.2.1.2.2.1.length) then((u23 (rdL u0a x.2.1.2.2.1 (x.2.2.2.2.2.2).toNat)).bind fun y3=>(bif (Nat.ble (x.2.2.2.2.1.2.2.1.length+([y3] :List u0a.den).length) z7w) then(g (x.1,(x.2.1,(x.2.2.1,(x.2.2.2.1,((x.2.2.2.2.1.1,(x.2.2.2.2.1.2.1,((x.2.2.2.2.1.2.2.1++([y3] :List u0a.den)),x.2.2.2.2.1.2.2.2))),(x.2.2.2.2.2.1,(IntKind.i64.wrap (x.2.2.2.2.2.2+1))))))))) else none)) else none) else(g (x.1,(x.2.1,(x.2.2.1,(x.2.2.2.1,(x.2.2.2.2.1,(x.2.2.2.2.2.1,(IntKind.i64.wrap (x.2.2.2.2.2.2+1)))))))))) else none) else(some (.inl (x.1,(x.2.1,(x.2.2.1,(x.2.2.2.1,(x.2.2.2.2.1,x.2.2.2.2.2.1))))))))
def u4e:=lpW _ _ u8w
theorem s1a x:u4e x=u8w u4e x:=zW s0j 320 Tryz.f320 8 97 x (by kernel_rfl)
def u67(g:Z7→Option (Z15⊕Unit))(x:Z7):Option (Z15⊕Unit):=(bif (decide (x.2.2.2.2.2<(x.2.1.2.2.1.length:Int))) then(bif (y4q x.2.2.2.2.2 x.2.1.2.2.1.length) then(bif (!y3c (rdL u0a x.2.1.2.2.1 (x.2.2.2.2.2).toNat).2.2.2.2.2.2.2 x.1) then(bif (y4q x.2.2.2.2.2 x.2.1.2.2.1.length) then((u23 (rdL u0a x.2.1.2.2.1 (x.2.2.2.2.2).toNat)).bind fun y6=>(bif (Nat.ble (x.2.2.2.2.1.2.2.1.length+([y6] :List u0a.den).length) z7w) then(g (x.1,(x.2.1,(x.2.2.1,(x.2.2.2.1,((x.2.2.2.2.1.1,(x.2.2.2.2.1.2.1,((x.2.2.2.2.1.2.2.1++([y6] :List u0a.den)),x.2.2.2.2.1.2.2.2))),(IntKind.i64.wrap (x.2.2.2.2.2+1)))))))) else none)) else none) else(g (x.1,(x.2.1,(x.2.2.1,(x.2.2.2.1,(x.2.2.2.2.1,(IntKind.i64.wrap (x.2.2.2.2.2+1))))))))) else none) else(some (.inl (x.2.2.1,(x.2.2.2.1,x.2.2.2.2.1)))))
def u3x:=lpW _ _ u67
theorem t9s x:u3x x=u67 u3x x:=zW t8m 320 Tryz.f320 14 97 x (by kernel_rfl)
def s6g (x:Z29):Option Z75:=((u24 x.1).bind fun y1=>((u23 x.2.1).bind fun y2=>(bif x.2.1.2.2.2.2.2.2.1 then((u4e (x.2.2,(x.1,(x.2.1,((([] :List u0d.den),(([] :List u0a.den),(([] :List u0a.den),(0,0)))),((y1.1,(y1.2.1,(([] :List u0a.den),y1.2.2.2))),((y2.1,(2,(y2.2.2.1,(y2.2.2.2.1,(y2.2.2.2.2.1,(y2.2.2.2.2.2.1,(true,x.2.2))))))),0))))))).bind fun r4=>match r4 with | .inl o5=>(bif (Nat.ble (o5.2.2.2.2.1.2.2.1.length+([o5.2.2.2.2.2] :List u0a.den).length) z7w) then((u3x (o5.1,(o5.2.1,(o5.2.2.1,(o5.2.2.2.1,((o5.2.2.2.2.1.1,(o5.2.2.2.2.1.2.1,((o5.2.2.2.2.1.2.2.1++([o5.2.2.2.2.2] :List u0a.den)),o5.2.2.2.2.1.2.2.2))),0)))))).bind fun r7=>match r7 with | .inl o8=>(bif (decide (o8.1.1≥o8.2.2.2.2.2.2)) then(some (o8.2.2.1,(o8.2.2.2.1,(o8.2.2.2.2.1,(o8.2.2.2.2.2.1,(IntKind.i64.wrap (o8.1.1+1))))))) else(some o8.2.2)) | .inr z9=>none) else none) | .inr z10=>none) else((s0x (x.2.1,x.1.2.1)).bind fun y11=>((u4e (x.2.2,(x.1,(x.2.1,((([] :List u0d.den),(([] :List u0a.den),(([] :List u0a.den),(0,0)))),((y1.1,(y1.2.1,(([] :List u0a.den),y1.2.2.2))),((y2.1,(2,(y2.2.2.1,(y2.2.2.2.1,(y2.2.2.2.2.1,(y2.2.2.2.2.2.1,(y11,x.2.2))))))),0))))))).bind fun r13=>match r13 with | .inl o14=>(bif (Nat.ble (o14.2.2.2.2.1.2.2.1.length+([o14.2.2.2.2.2] :List u0a.den).length) z7w) then((u3x (o14.1,(o14.2.1,(o14.2.2.1,(o14.2.2.2.1,((o14.2.2.2.2.1.1,(o14.2.2.2.2.1.2.1,((o14.2.2.2.2.1.2.2.1++([o14.2.2.2.2.2] :List u0a.den)),o14.2.2.2.2.1.2.2.2))),0)))))).bind fun r16=>match r16 with | .inl o17=>(bif (decide (o17.1.1≥o17.2.2.2.2.2.2)) then(some (o17.2.2.1,(o17.2.2.2.1,(o17.2.2.2.2.1,(o17.2.2.2.2.2.1,(IntKind.i64.wrap (o17.1.1+1))))))) else(some o17.2.2)) | .inr z18=>none) else none) | .inr z19=>none)))))
theorem r99:t64=s6g:=zC 320 rfl Tryz.func320 (by kernel_rfl)
def s1t(x:Z66):Option Z75:=zK 321 x
def t2d(g:Z11→Option (Z28⊕Unit))(x:Z11):Option (Z28⊕Unit):=(bif (decide (x.2.2.2.2<(x.2.1.2.2.1.length:Int))) then(bif (y4q x.2.2.2.2 x.2.1.2.2.1.length) then(bif (!z7o (rdL u0a x.2.1.2.2.1 (x.2.2.2.2).toNat).2.2.2.2.2.2.2 x.1) then(bif (y4q x.2.2.2.2 x.2.1.2.2.1.length) then((u23 (rdL u0a x.2.1.2.2.1 (x.2.2.2.2).toNat)).bind fun y2=>(bif (Nat.ble (x.2.2.2.1.2.2.1.length+([y2] :List u0a.den).length) z7w) then(g (x.1,(x.2.1,(x.2.2.1,((x.2.2.2.1.1,(x.2.2.2.1.2.1,((x.2.2.2.1.2.2.1++([y2] :List u0a.den)),x.2.2.2.1.2.2.2))),(IntKind.i64.wrap (x.2.2.2.2+1))))))) else none)) else none) else(g (x.1,(x.2.1,(x.2.2.1,(x.2.2.2.1,(IntKind.i64.wrap (x.2.2.2.2+1)))))))) else none) else(some (.inl (x.2.2.1,x.2.2.2.1))))
def u71:=lpW _ _ t2d
theorem s7u x:u71 x=t2d u71 x:=zW s61 321 Tryz.f321 4 38 x (by kernel_rfl)
def r2x (x:Z66):Option Z75:=((u24 x.1).bind fun y1=>((u71 (x.2,(x.1,((([] :List u0d.den),(([] :List u0a.den),(([] :List u0a.den),(0,0)))),((y1.1,(y1.2.1,(([] :List u0a.den),y1.2.2.2))),0))))).bind fun r3=>match r3 with | .inl o4=>(some o4.2) | .inr z5=>none))
theorem q4r:s1t=r2x:=zC 321 rfl Tryz.func321 (by kernel_rfl)
def s12(x:Z13):Option Z68:=zK 201 x
def r3i (x:Z13):Option Z68:=(bif (decide (x.2.1=1)) then(bif (!decide (x.2.2.1.2.2.2.1=(IntKind.i64.wrap (x.1.2.2.2.1+1)))) then(some (x.1,false)) else((t1s (x.1,x.2.2.1)).bind fun y1=>(some (y1,true)))) else(bif (decide (x.2.1=2)) then(((bif (decide ((x.1.2.2.1.length:Int)≥(3:Int))) then(some true) else((t6e (x.1,x.2.2.1.2.2.2.2.2.2.2)).bind fun y2=>(some (decide (y2≥0))))):Option Bool).bind fun j3=>(bif j3 then(some (x.1,false)) else((t64 (x.1,(x.2.2.1,x.2.2.1.2.2.2.2.2.2.2))).bind fun y4=>(some (y4,true))))) else(bif (decide (x.2.1=3)) then((t6e (x.1,x.2.2.2.1)).bind fun y5=>(bif (decide (y5<0)) then(some (x.1,false)) else(bif x.2.2.2.2.1 then(bif (y4q y5 x.1.2.2.1.length) then((t1s (x.1,(rdL u0a x.1.2.2.1 (y5).toNat))).bind fun y6=>(some (y6,true))) else none) else((s1t (x.1,x.2.2.2.1)).bind fun y7=>(some (y7,true)))))) else((u24 x.2.2.2.2.2).bind fun y8=>(some (y8,true))))))
theorem q5b:s12=r3i:=zC 201 rfl Tryz.func201 (by kernel_rfl)
def s5p(x:Z13):Option Z68:=zK 73 x
def r5q (x:Z13):Option Z68:=((((u5q x.1).bind fun y1=>(bif (!y1) then(some true) else((t4r x.2).bind fun y2=>(some (!y2))))):Option Bool).bind fun j3=>(bif j3 then((u24 x.1).bind fun y4=>(some (y4,false))) else((s12 x).bind fun y5=>(bif (!y5.2) then((u24 x.1).bind fun y6=>(some (y6,false))) else((t4t (y5.1,([] :List u0a.den))).bind fun y7=>((u5q y7).bind fun y8=>(bif (!y8) then((u24 x.1).bind fun y9=>(some (y9,false))) else(some (y7,true)))))))))
theorem q7x:s5p=r5q:=zC 73 rfl Tryz.func73 (by kernel_rfl)
def t03(x:q05):Option s13:=zK 417 x
def u68(g:o3w→Option (o34⊕s13))(x:o3w):Option (o34⊕s13):=(bif (decide (x.2.2≥0)) then(bif (y4q x.2.2 x.2.1.2.length) then(bif (decide ((rdL q0k x.2.1.2 (x.2.2).toNat).1=x.1)) then(bif (y4q x.2.2 x.2.1.2.length) then(some (.inr ((rdL q0k x.2.1.2 (x.2.2).toNat).2,true))) else none) else(g (x.1,(x.2.1,(IntKind.i64.wrap (x.2.2 - 1)))))) else none) else(some (.inl (x.1,x.2.1))))
def u7f:=lpW _ _ u68
theorem t9t x:u7f x=u68 u7f x:=zW t8n 417 Tryz.f417 4 41 x (by kernel_rfl)
def s2o (x:q05):Option s13:=((u0z (x.2,(0,(IntKind.i64.wrap ((x.1.1.length:Int) - (1:Int)))))).bind fun y1=>(bif (!y1) then(some ((⟨#[]⟩:ByteArray),false)) else((u7f (x.2,(x.1,(IntKind.i64.wrap ((x.1.2.length:Int) - (1:Int)))))).bind fun r2=>match r2 with | .inl o3=>(bif (y4q o3.1 o3.2.1.length) then(some ((rdL Ty.str o3.2.1 (o3.1).toNat),true)) else none) | .inr z4=>(some z4))))
theorem r7m:t03=s2o:=zC 417 rfl Tryz.func417 (by kernel_rfl)
def t5f(x:o08):Option s13:=zK 344 x
def u69(g:o3e→Option (ByteArray⊕s13))(x:o3e):Option (ByteArray⊕s13):=(bif (decide (x.2.2.2.2<x.2.1)) then(((bif (decide (x.1<0)) then(some true) else(some (decide (x.1 >(x.2.2.1.1.length:Int))))):Option Bool).bind fun j2=>(bif j2 then(some (.inr ((⟨#[]⟩:ByteArray),false))) else((t03 (x.2.2.1,(IntKind.i64.wrap (x.1+x.2.2.2.2)))).bind fun y3=>(bif (!y3.2) then(some (.inr ((⟨#[]⟩:ByteArray),false))) else(bif (decide (x.2.2.2.1.size+y3.1.size≤140737488355328)) then(g (x.1,(x.2.1,(x.2.2.1,((x.2.2.2.1++y3.1),(IntKind.i64.wrap (x.2.2.2.2+1))))))) else none))))) else(some (.inl x.2.2.2.1)))
def u7g:=lpW _ _ u69
theorem t9u x:u7g x=u69 u7g x:=zW t8o 344 Tryz.f344 5 43 x (by kernel_rfl)
def s2q (x:o08):Option s13:=((u0z (x.2.2,(0,100))).bind fun y1=>(bif (!y1) then(some ((⟨#[]⟩:ByteArray),false)) else((u7g (x.2.1,(x.2.2,(x.1,((⟨#[]⟩:ByteArray),0))))).bind fun r4=>match r4 with | .inl o5=>(some (o5,true)) | .inr z6=>(some z6))))
theorem r7o:t5f=s2q:=zC 344 rfl Tryz.func344 (by kernel_rfl)
def t3d(x:Int):Option Int:=zK 345 x
def s6e (x:Int):Option Int:=((u0z (x,(0,1))).bind fun y1=>(bif (!y1) then(some (0:Int)) else(some (IntKind.i64.wrap ((1:Int)+(IntKind.i64.wrap (x*48)))))))
theorem r97:t3d=s6e:=zC 345 rfl Tryz.func345 (by kernel_rfl)
def t6g(x:q05):Option Int:=zK 347 x
def r3d (x:q05):Option Int:=((t03 x).bind fun y1=>(((bif (!y1.2) then(some true) else(some (z7o y1.1 (⟨#[]⟩:ByteArray)))):Option Bool).bind fun j2=>(bif j2 then(some (0:Int)) else(bif (y4q (0:Int) y1.1.size) then(some (IntKind.i64.wrap ((y1.1.data.toList.getD ((0:Int)).toNat 0).toNat:Int))) else none))))
theorem q46:t6g=r3d:=zC 347 rfl Tryz.func347 (by kernel_rfl)
def s1s(x:q05):Option Int:=zK 346 x
def r2w (x:q05):Option Int:=((u0z (x.2,(0,1))).bind fun y1=>(bif (!y1) then(some (0:Int)) else((t3d x.2).bind fun y2=>((t6g (x.1,y2)).bind fun y3=>(some y3)))))
theorem q4q:s1s=r2w:=zC 346 rfl Tryz.func346 (by kernel_rfl)
def u9p(x:q05):Option (r4l×p8z):=zK 227 x
def u8x(g:Z74→Option o1p)(x:Z74):Option o1p:=((s1s (x.2.1,x.1)).bind fun y4=>(bif (decide (x.2.2.2.2.2.2<y4)) then((t3e (x.2.2.2.1,x.2.2.2.2.2.1)).bind fun y5=>(((bif (!y5.2.2) then(some true) else(some (z7o y5.1 (⟨#[]⟩:ByteArray)))):Option Bool).bind fun j6=>(bif j6 then(some (.inr (x.2.2.1,(0,false)))) else(bif (Nat.ble (x.2.2.2.2.1.length+([y5.1] :List ByteArray).length) z7w) then(g (x.1,(x.2.1,(x.2.2.1,(x.2.2.2.1,((x.2.2.2.2.1++([y5.1] :List ByteArray)),(y5.2.1,(IntKind.i64.wrap (x.2.2.2.2.2.2+1))))))))) else none)))) else(some (.inl (x.2.2.2.2.1,x.2.2.2.2.2.1)))))
def u82:=lpW _ _ u8x
theorem s1b x:u82 x=u8x u82 x:=zW s0k 227 Tryz.f227 10 61 x (by kernel_rfl)
def s9o (x:q05):Option (r4l×p8z):=((u0z (x.2,(0,1))).bind fun y1=>(bif (!y1) then(some (([] :List ByteArray),(0,false))) else((t3d x.2).bind fun y2=>((t5f (x.1,((IntKind.i64.wrap (y2+1)),47))).bind fun y3=>(bif (!y3.2) then(some (([] :List ByteArray),(0,false))) else((u82 (x.2,(x.1,(([] :List ByteArray),(y3.1,(([] :List ByteArray),(0,0))))))).bind fun r7=>match r7 with | .inl o8=>(some (o8.1,(o8.2,true))) | .inr z9=>(some z9)))))))
theorem q19:u9p=s9o:=zC 227 rfl Tryz.func227 (by kernel_rfl)
def t9d(x:t7p):Option Int:=zK 228 x
def s9i (x:t7p):Option Int:=((t6g (x,0)).bind fun y1=>(some (Int.tmod y1 (2:Int))))
theorem q13:t9d=s9i:=zC 228 rfl Tryz.func228 (by kernel_rfl)
def t9g(x:t7p):Option r4l:=zK 91 x
def s9m (x:t7p):Option r4l:=((t9d x).bind fun y1=>((u9p (x,y1)).bind fun y2=>(some y2.1)))
theorem q17:t9g=s9m:=zC 91 rfl Tryz.func91 (by kernel_rfl)
def r3w(x:Unit):Option Z75:=zK 223 x
def r2v (x:Unit):Option Z75:=(some (([] :List u0d.den),(([] :List u0a.den),(([] :List u0a.den),(0,1)))))
theorem q4p:r3w=r2v:=zC 223 rfl Tryz.func223 (by kernel_rfl)
def t1r(x:t7p):Option Z68:=zK 88 x
def t2e(g:Z23→Option (Z28⊕Z68))(x:Z23):Option (Z28⊕Z68):=(bif (decide (x.2.2.2<(x.2.2.1.length:Int))) then(bif (y4q x.2.2.2 x.2.2.1.length) then((t5e (rdL Ty.str x.2.2.1 (x.2.2.2).toNat)).bind fun y3=>((s5p (x.2.1,y3.1)).bind fun y4=>(((bif (!y3.2) then(some true) else(some (!y4.2))):Option Bool).bind fun j5=>(bif j5 then(some (.inr ((([] :List u0d.den),(([] :List u0a.den),(([] :List u0a.den),(0,0)))),false))) else(g (x.1,(y4.1,(x.2.2.1,(IntKind.i64.wrap (x.2.2.2+1)))))))))) else none) else(some (.inl (x.1,x.2.1))))
def u4l:=lpW _ _ t2e
theorem s7v x:u4l x=t2e u4l x:=zW s62 88 Tryz.f88 4 43 x (by kernel_rfl)
def r2z (x:t7p):Option Z68:=((r3w ()).bind fun y1=>((t9g x).bind fun y2=>((u4l ((([] :List u0d.den),(([] :List u0a.den),(([] :List u0a.den),(0,0)))),(y1,(y2,0)))).bind fun r6=>match r6 with | .inl o7=>(some (o7.2,true)) | .inr z8=>(some z8))))
theorem q4t:t1r=r2z:=zC 88 rfl Tryz.func88 (by kernel_rfl)
def t9f(x:Z42):Option Bool:=zK 109 x
def u8u(g:Z21→Option (Z24⊕Bool))(x:Z21):Option (Z24⊕Bool):=(bif (decide (x.2.2.2<(x.1.1.2.1.length:Int))) then(bif (y4q x.2.2.2 x.1.1.2.1.length) then(bif (decide ((rdL u0a x.1.1.2.1 (x.2.2.2).toNat).1=x.2.2.1.1)) then(some (.inr false)) else(g (x.1,(x.2.1,(x.2.2.1,(IntKind.i64.wrap (x.2.2.2+1))))))) else none) else(some (.inl (x.1,(x.2.1,x.2.2.1)))))
def u5n:=lpW _ _ u8u
theorem s08 x:u5n x=u8u u5n x:=zW s0h 109 Tryz.f109 10 105 x (by kernel_rfl)
def u8v(g:Z21→Option (Z41⊕Bool))(x:Z21):Option (Z41⊕Bool):=(bif (decide (x.2.2.2<(x.1.1.2.2.1.length:Int))) then(bif (y4q x.2.2.2 x.1.1.2.2.1.length) then(bif (decide ((rdL u0a x.1.1.2.2.1 (x.2.2.2).toNat).1=x.2.2.1.1)) then(some (.inr false)) else(g (x.1,(x.2.1,(x.2.2.1,(IntKind.i64.wrap (x.2.2.2+1))))))) else none) else(some (.inl (x.1,x.2.1))))
def u4d:=lpW _ _ u8v
theorem s09 x:u4d x=u8v u4d x:=zW s0i 109 Tryz.f109 15 105 x (by kernel_rfl)
def u93(g:Z41→Option s4t)(x:Z41):Option s4t:=(bif (decide (x.2<(x.1.2.length:Int))) then(bif (y4q x.2 x.1.2.length) then((((u61 (rdL u0a x.1.2 (x.2).toNat)).bind fun y3=>(bif (!y3) then(some true) else(bif (!decide ((rdL u0a x.1.2 (x.2).toNat).2.1=1)) then(some true) else(bif (decide ((rdL u0a x.1.2 (x.2).toNat).1≥x.1.1.2.2.2.2)) then(some true) else(bif (decide ((rdL u0a x.1.2 (x.2).toNat).2.2.1 >x.1.1.2.2.2.1)) then(some true) else(bif (decide (x.2 >0)) then(bif (y4q (IntKind.i64.wrap (x.2 - 1)) x.1.2.length) then(some (decide ((rdL u0a x.1.2 ((IntKind.i64.wrap (x.2 - 1))).toNat).1≥(rdL u0a x.1.2 (x.2).toNat).1))) else none) else(some false))))))):Option Bool).bind fun j4=>(bif j4 then(some (.inr false)) else((u5n (x.1,(x.2,((rdL u0a x.1.2 (x.2).toNat),0)))).bind fun r5=>match r5 with | .inl o6=>((u4d (o6.1,(o6.2.1,(o6.2.2,0)))).bind fun r7=>match r7 with | .inl o8=>(g (o8.1,(IntKind.i64.wrap (o8.2+1)))) | .inr z9=>(some (.inr z9))) | .inr z10=>(some (.inr z10))))) else none) else(some (.inl ())))
def u40:=lpW _ _ u93
theorem s4f x:u40 x=u93 u40 x:=zW s3h 109 Tryz.f109 4 105 x (by kernel_rfl)
def s9k (x:Z42):Option Bool:=((((u5q x.1).bind fun y1=>(bif (!y1) then(some true) else(some (decide ((x.2.length:Int) >(4:Int)))))):Option Bool).bind fun j2=>(bif j2 then(some false) else((u40 (x,0)).bind fun r11=>match r11 with | .inl o12=>(some true) | .inr z13=>(some z13))))
theorem q15:t9f=s9k:=zC 109 rfl Tryz.func109 (by kernel_rfl)
def s5o(x:t7p):Option Bool:=zK 329 x
def t3x(g:q05→Option p9h)(x:q05):Option p9h:=(bif (decide (x.2<(x.1.1.length:Int))) then(bif (y4q x.2 x.1.1.length) then(bif (!decide (((rdL Ty.str x.1.1 (x.2).toNat).size:Int)=(64:Int))) then(some (.inr false)) else(g (x.1,(IntKind.i64.wrap (x.2+1))))) else none) else(some (.inl x.1)))
def t38:=lpW _ _ t3x
theorem r09 x:t38 x=t3x t38 x:=zW r0i 329 Tryz.f329 4 59 x (by kernel_rfl)
def t3y(g:q05→Option s4t)(x:q05):Option s4t:=(bif (decide (x.2<(x.1.2.length:Int))) then(((bif (y4q x.2 x.1.2.length) then((u0z ((rdL q0k x.1.2 (x.2).toNat).1,(0,(IntKind.i64.wrap ((x.1.1.length:Int) - (1:Int)))))).bind fun y5=>(bif (!y5) then(some true) else(bif (y4q x.2 x.1.2.length) then(some (!decide (((rdL q0k x.1.2 (x.2).toNat).2.size:Int)=(64:Int)))) else none))) else none):Option Bool).bind fun j6=>(bif j6 then(some (.inr false)) else(g (x.1,(IntKind.i64.wrap (x.2+1)))))) else(some (.inl ())))
def t39:=lpW _ _ t3y
theorem r1a x:t39 x=t3y t39 x:=zW r0j 329 Tryz.f329 9 59 x (by kernel_rfl)
def r5p (x:t7p):Option Bool:=((((u0z ((x.1.length:Int),(1,100))).bind fun y1=>(bif (!y1) then(some true) else(some (decide ((x.2.length:Int) >(60:Int)))))):Option Bool).bind fun j2=>(bif j2 then(some false) else((t38 (x,0)).bind fun r3=>match r3 with | .inl o4=>((t39 (o4,0)).bind fun r7=>match r7 with | .inl o8=>(some true) | .inr z9=>(some z9)) | .inr z10=>(some z10))))
theorem q7w:s5o=r5p:=zC 329 rfl Tryz.func329 (by kernel_rfl)
def t5h(x:Unit):Option Int:=zK 330 x
def r64 (x:Unit):Option Int:=(some (97:Int))
theorem r7q:t5h=r64:=zC 330 rfl Tryz.func330 (by kernel_rfl)
def s0w(x:t7p):Option Bool:=zK 212 x
def r8r (x:t7p):Option Bool:=((((s5o x).bind fun y1=>(bif (!y1) then(some true) else((t5h ()).bind fun y2=>(bif (!decide ((x.1.length:Int)=y2)) then(some true) else(some (decide ((x.2.length:Int) >(0:Int)))))))):Option Bool).bind fun j3=>(bif j3 then(some false) else((u9p (x,0)).bind fun y4=>((u9p (x,1)).bind fun y5=>(((bif y4.2.2 then(some y5.2.2) else(some false)):Option Bool).bind fun j6=>(some j6))))))
theorem q9x:s0w=r8r:=zC 212 rfl Tryz.func212 (by kernel_rfl)
def t4v(x:p9w):Option Bool:=zK 331 x
def t0f(g:Z98→Option s4t)(x:Z98):Option s4t:=(bif (decide (x.2.2<(x.1.length:Int))) then(bif (y4q x.2.2 x.1.length) then((u8j (rdL u0a x.1 (x.2.2).toNat)).bind fun y1=>(bif (y4q x.2.2 x.2.1.length) then((u8j (rdL u0a x.2.1 (x.2.2).toNat)).bind fun y2=>(((bif (!(y1.2==y2.2)) then(some true) else(some (!z7o y1.1 y2.1))):Option Bool).bind fun j3=>(bif j3 then(some (.inr false)) else(g (x.1,(x.2.1,(IntKind.i64.wrap (x.2.2+1)))))))) else none)) else none) else(some (.inl ())))
def t0v:=lpW _ _ t0f
theorem s4r x:t0v x=t0f t0v x:=zW s3t 331 Tryz.f331 4 45 x (by kernel_rfl)
def s9y (x:p9w):Option Bool:=(bif (!decide ((x.1.length:Int)=(x.2.length:Int))) then(some false) else((t0v (x.1,(x.2,0))).bind fun r4=>match r4 with | .inl o5=>(some true) | .inr z6=>(some z6)))
theorem q2i:t4v=s9y:=zC 331 rfl Tryz.func331 (by kernel_rfl)
def s5q(x:p7d):Option s13:=zK 27 x
def r5t (x:p7d):Option s13:=((s0z x).bind fun y1=>(((bif (decide (y1<0)) then(some true) else(bif (y4q y1 x.1.length) then(some (rdL u0d x.1 (y1).toNat).2.2.1) else none)):Option Bool).bind fun j2=>(bif j2 then(some ((⟨#[]⟩:ByteArray),false)) else(bif (y4q y1 x.1.length) then(some ((rdL u0d x.1 (y1).toNat).2.1,true)) else none))))
theorem q70:s5q=r5t:=zC 27 rfl Tryz.func27 (by kernel_rfl)
def s11(x:o32):Option r4l:=zK 153 x
def t2n(g:Z73→Option (Z79⊕Unit))(x:Z73):Option (Z79⊕Unit):=(bif (decide (x.2.2.2.2.2.2<(x.2.2.1.length:Int))) then(bif (y4q x.2.2.2.2.2.2 x.2.2.1.length) then(bif (y3c (rdL Ty.str x.2.2.1 (x.2.2.2.2.2.2).toNat) x.2.2.2.2.1) then(bif (y4q x.2.2.2.2.2.2 x.2.2.1.length) then(bif (Nat.ble (x.2.2.2.2.2.1.length+([(rdL Ty.str x.2.2.1 (x.2.2.2.2.2.2).toNat)] :List ByteArray).length) z7w) then(g (x.1,(x.2.1,(x.2.2.1,(x.2.2.2.1,(x.2.2.2.2.1,((x.2.2.2.2.2.1++([(rdL Ty.str x.2.2.1 (x.2.2.2.2.2.2).toNat)] :List ByteArray)),(IntKind.i64.wrap (x.2.2.2.2.2.2+1))))))))) else none) else none) else(g (x.1,(x.2.1,(x.2.2.1,(x.2.2.2.1,(x.2.2.2.2.1,(x.2.2.2.2.2.1,(IntKind.i64.wrap (x.2.2.2.2.2.2+1)))))))))) else none) else(some (.inl (x.1,(x.2.1,(x.2.2.1,(x.2.2.2.1,(x.2.2.2.2.1,x.2.2.2.2.2.1))))))))
def u77:=lpW _ _ t2n
theorem s75 x:u77 x=t2n u77 x:=zW s7d 153 Tryz.f153 9 72 x (by kernel_rfl)
def t0d(g:Z73→Option (o3b⊕Unit))(x:Z73):Option (o3b⊕Unit):=(bif (decide (x.2.2.2.2.2.2<(x.2.2.1.length:Int))) then(bif (y4q x.2.2.2.2.2.2 x.2.2.1.length) then(bif (!(y3c (rdL Ty.str x.2.2.1 (x.2.2.2.2.2.2).toNat) x.2.2.2.2.1 || z7o (rdL Ty.str x.2.2.1 (x.2.2.2.2.2.2).toNat) x.2.2.2.2.1)) then(bif (y4q x.2.2.2.2.2.2 x.2.2.1.length) then(bif (Nat.ble (x.2.2.2.2.2.1.length+([(rdL Ty.str x.2.2.1 (x.2.2.2.2.2.2).toNat)] :List ByteArray).length) z7w) then(g (x.1,(x.2.1,(x.2.2.1,(x.2.2.2.1,(x.2.2.2.2.1,((x.2.2.2.2.2.1++([(rdL Ty.str x.2.2.1 (x.2.2.2.2.2.2).toNat)] :List ByteArray)),(IntKind.i64.wrap (x.2.2.2.2.2.2+1))))))))) else none) else none) else(g (x.1,(x.2.1,(x.2.2.1,(x.2.2.2.1,(x.2.2.2.2.1,(x.2.2.2.2.2.1,(IntKind.i64.wrap (x.2.2.2.2.2.2+1)))))))))) else none) else(some (.inl (x.1,(x.2.1,(x.2.2.2.1,x.2.2.2.2.2.1))))))
def u6e:=lpW _ _ t0d
theorem s4p x:u6e x=t0d u6e x:=zW s3r 153 Tryz.f153 15 72 x (by kernel_rfl)
def t2m(g:o29→Option p9i)(x:o29):Option p9i:=(bif (decide (x.2.2.2<(x.1.length:Int))) then(bif (y4q x.2.2.2 x.1.length) then((t6b (x.2.1,(rdL u0d x.1 (x.2.2.2).toNat).1)).bind fun y1=>(bif (!y1) then(g (x.1,(x.2.1,(x.2.2.1,(IntKind.i64.wrap (x.2.2.2+1)))))) else((u77 (x.1,(x.2.1,(x.2.2.1,(x.2.2.2,((rdL u0d x.1 (x.2.2.2).toNat).1,(([] :List ByteArray),0))))))).bind fun r2=>match r2 with | .inl o3=>(bif (Nat.ble (o3.2.2.2.2.2.length+([o3.2.2.2.2.1] :List ByteArray).length) z7w) then((u6e (o3.1,(o3.2.1,(o3.2.2.1,(o3.2.2.2.1,(o3.2.2.2.2.1,((o3.2.2.2.2.2++([o3.2.2.2.2.1] :List ByteArray)),0))))))).bind fun r4=>match r4 with | .inl o5=>(g (o5.1,(o5.2.1,(o5.2.2.2,(IntKind.i64.wrap (o5.2.2.1+1)))))) | .inr z6=>(some (.inr ()))) else none) | .inr z7=>(some (.inr ()))))) else none) else(some (.inl x.2.2.1)))
def t2z:=lpW _ _ t2m
theorem s74 x:t2z x=t2m t2z x:=zW s7c 153 Tryz.f153 3 72 x (by kernel_rfl)
def r3e (x:o32):Option r4l:=((t2z (x.1,(x.2,(([] :List ByteArray),0)))).bind fun r8=>match r8 with | .inl o9=>(some o9) | .inr z10=>none)
theorem q47:s11=r3e:=zC 153 rfl Tryz.func153 (by kernel_rfl)
def u33(x:o06):Option p11:=zK 46 x
def t3z(g:o3a→Option p9j)(x:o3a):Option p9j:=(bif (decide (x.2.2.2.2<(x.2.2.2.1.length:Int))) then(bif (y4q x.2.2.2.2 x.2.2.2.1.length) then((s5q (x.1,((rdL Ty.str x.2.2.2.1 (x.2.2.2.2).toNat),x.2.1))).bind fun y2=>(bif y2.2 then(bif (y4q x.2.2.2.2 x.2.2.2.1.length) then(bif (Nat.ble (x.2.2.1.length+([((rdL Ty.str x.2.2.2.1 (x.2.2.2.2).toNat),y2.1)] :List r36.den).length) z7w) then(g (x.1,(x.2.1,((x.2.2.1++([((rdL Ty.str x.2.2.2.1 (x.2.2.2.2).toNat),y2.1)] :List r36.den)),(x.2.2.2.1,(IntKind.i64.wrap (x.2.2.2.2+1))))))) else none) else none) else(g (x.1,(x.2.1,(x.2.2.1,(x.2.2.2.1,(IntKind.i64.wrap (x.2.2.2.2+1))))))))) else none) else(some (.inl x.2.2.1)))
def t4a:=lpW _ _ t3z
theorem r1b x:t4a x=t3z t4a x:=zW r0k 46 Tryz.f46 4 43 x (by kernel_rfl)
def r5r (x:o06):Option p11:=((s11 (x.1,x.2.1)).bind fun y1=>((t4a (x.1,(x.2.2,(([] :List r36.den),(y1,0))))).bind fun r3=>match r3 with | .inl o4=>(some o4) | .inr z5=>none))
theorem q7y:u33=r5r:=zC 46 rfl Tryz.func46 (by kernel_rfl)
def u6m(x:p9k):Option Bool:=zK 265 x
def t0e(g:p9d→Option s4t)(x:p9d):Option s4t:=(bif (decide (x.2.2<(x.1.length:Int))) then(bif (y4q x.2.2 x.1.length) then(bif (y4q x.2.2 x.2.1.length) then(bif (!(z7o (rdL r36 x.1 (x.2.2).toNat).1 (rdL r36 x.2.1 (x.2.2).toNat).1&&(z7o (rdL r36 x.1 (x.2.2).toNat).2 (rdL r36 x.2.1 (x.2.2).toNat).2&&true))) then(some (.inr false)) else(g (x.1,(x.2.1,(IntKind.i64.wrap (x.2.2+1)))))) else none) else none) else(some (.inl ())))
def t0u:=lpW _ _ t0e
theorem s4q x:t0u x=t0e t0u x:=zW s3s 265 Tryz.f265 4 26 x (by kernel_rfl)
def s9v (x:p9k):Option Bool:=(bif (!decide ((x.1.length:Int)=(x.2.length:Int))) then(some false) else((t0u (x.1,(x.2,0))).bind fun r1=>match r1 with | .inl o2=>(some true) | .inr z3=>(some z3)))
theorem q2f:u6m=s9v:=zC 265 rfl Tryz.func265 (by kernel_rfl)
def r6f(x:Unit):Option p0z:=zK 338 x
def r5w (x:Unit):Option p0z:=(some ((⟨#[97]⟩:ByteArray),(⟨#[122,122,122]⟩:ByteArray)))
theorem q73:r6f=r5w:=zC 338 rfl Tryz.func338 (by kernel_rfl)
def t9j(x:p53):Option Bool:=zK 332 x
def u97(g:Z95→Option s4t)(x:Z95):Option s4t:=(bif (decide (x.2.2.2.2<(IntKind.i64.wrap ((x.1.length:Int)+(x.2.1.length:Int))))) then(bif (decide (x.2.2.2.2<(x.1.length:Int))) then(bif (y4q x.2.2.2.2 x.1.length) then(((bif (decide ((rdL u0d x.1 (x.2.2.2.2).toNat).2.2.2 >x.2.2.1)) then((u33 (x.1,(x.2.2.2.1,(rdL u0d x.1 (x.2.2.2.2).toNat).2.2.2))).bind fun y5=>((u33 (x.2.1,(x.2.2.2.1,(rdL u0d x.1 (x.2.2.2.2).toNat).2.2.2))).bind fun y6=>((u6m (y5,y6)).bind fun y7=>(some (!y7))))) else(some false)):Option Bool).bind fun j8=>(bif j8 then(some (.inr false)) else(g (x.1,(x.2.1,(x.2.2.1,(x.2.2.2.1,(IntKind.i64.wrap (x.2.2.2.2+1))))))))) else none) else(bif (y4q (IntKind.i64.wrap (x.2.2.2.2 - (x.1.length:Int))) x.2.1.length) then(((bif (decide ((rdL u0d x.2.1 ((IntKind.i64.wrap (x.2.2.2.2 - (x.1.length:Int)))).toNat).2.2.2 >x.2.2.1)) then((u33 (x.1,(x.2.2.2.1,(rdL u0d x.2.1 ((IntKind.i64.wrap (x.2.2.2.2 - (x.1.length:Int)))).toNat).2.2.2))).bind fun y9=>((u33 (x.2.1,(x.2.2.2.1,(rdL u0d x.2.1 ((IntKind.i64.wrap (x.2.2.2.2 - (x.1.length:Int)))).toNat).2.2.2))).bind fun y10=>((u6m (y9,y10)).bind fun y11=>(some (!y11))))) else(some false)):Option Bool).bind fun j12=>(bif j12 then(some (.inr false)) else(g (x.1,(x.2.1,(x.2.2.1,(x.2.2.2.1,(IntKind.i64.wrap (x.2.2.2.2+1))))))))) else none)) else(some (.inl ())))
def t0r:=lpW _ _ u97
theorem s4j x:t0r x=u97 t0r x:=zW s3l 332 Tryz.f332 5 62 x (by kernel_rfl)
def s9r (x:p53):Option Bool:=((r6f ()).bind fun y1=>((u33 (x.1,(y1,x.2.2))).bind fun y2=>((u33 (x.2.1,(y1,x.2.2))).bind fun y3=>((u6m (y2,y3)).bind fun y4=>(bif (!y4) then(some false) else((t0r (x.1,(x.2.1,(x.2.2,(y1,0))))).bind fun r13=>match r13 with | .inl o14=>(some true) | .inr z15=>(some z15)))))))
theorem q2c:t9j=s9r:=zC 332 rfl Tryz.func332 (by kernel_rfl)
def t4q(x:Z28):Option Bool:=zK 213 x
def s9l (x:Z28):Option Bool:=(((bif (decide (x.1.2.2.2.1=x.2.2.2.2.1)) then((t4v (x.1.2.1,x.2.2.1)).bind fun y1=>(bif y1 then((t4v (x.1.2.2.1,x.2.2.2.1)).bind fun y2=>(bif y2 then((t9j (x.1.1,(x.2.1,x.1.2.2.2.1))).bind fun y3=>(some y3)) else(some false))) else(some false))) else(some false)):Option Bool).bind fun j4=>(some j4))
theorem q16:t4q=s9l:=zC 213 rfl Tryz.func213 (by kernel_rfl)
def s1v(x:Z35):Option Bool:=zK 81 x
def r24 (x:Z35):Option Bool:=((((t9f x.1).bind fun y1=>(bif (!y1) then(some true) else((s0w x.2).bind fun y2=>(some (!y2))))):Option Bool).bind fun j3=>(bif j3 then(some false) else((t1r x.2).bind fun y4=>(bif y4.2 then((t4t (x.1.1,([] :List u0a.den))).bind fun y5=>((t4q (y4.1,y5)).bind fun y6=>(some y6))) else(some false)))))
theorem q4y:s1v=r24:=zC 81 rfl Tryz.func81 (by kernel_rfl)
def s10(x:t7p):Option t7p:=zK 337 x
def r3c (x:t7p):Option t7p:=(bif (Nat.ble (([] :List ByteArray).length+x.1.length) z7w) then(bif (Nat.ble (([] :List q0k.den).length+x.2.length) z7w) then(some ((([] :List ByteArray)++x.1),(([] :List q0k.den)++x.2))) else none) else none)
theorem q45:s10=r3c:=zC 337 rfl Tryz.func337 (by kernel_rfl)
def t65(x:t7p):Option Z33:=zK 218 x
def s6i (x:t7p):Option Z33:=((t1r x).bind fun y1=>((((s0w x).bind fun y2=>(bif (!y2) then(some true) else(some (!y1.2)))):Option Bool).bind fun j3=>(bif j3 then(some ((((([] :List u0d.den),(([] :List u0a.den),(([] :List u0a.den),(0,0)))),([] :List u0a.den)),(([] :List ByteArray),([] :List q0k.den))),false)) else((s10 x).bind fun y4=>(some (((y1.1,([] :List u0a.den)),y4),true))))))
theorem q0b:t65=s6i:=zC 218 rfl Tryz.func218 (by kernel_rfl)
def t63(x:Z20):Option Bool:=zK 84 x
def s6f (x:Z20):Option Bool:=((s1v x.1).bind fun y1=>(bif (!y1) then(some false) else((t65 x.1.2).bind fun y2=>(bif y2.2 then((t4t (x.1.1.1,([] :List u0a.den))).bind fun y3=>((t4q (y2.1.1.1,y3)).bind fun y4=>(some y4))) else(some false)))))
theorem r98:t63=s6f:=zC 84 rfl Tryz.func84 (by kernel_rfl)
def t4p(x:Z20):Option Bool:=zK 12 x
def t4d (x:Z20):Option Bool:=((s1q (x,1048576)).bind fun y1=>(bif (decide (y1<0)) then(some true) else((t1q x).bind fun y2=>((t63 y2).bind fun y3=>((t1q x).bind fun y4=>((t6y y4).bind fun y5=>(bif (!(y5==y3)) then(some false) else((t1q x).bind fun y6=>((s1o (y4,y6)).bind fun y7=>(bif (!y7) then(some false) else(some true)))))))))))
theorem s41:t4p=t4d:=zC 12 rfl Tryz.func12 (by kernel_rfl)
end
end Go.Proofs.YtbkicjpdlchbgaaGreat.Ab
