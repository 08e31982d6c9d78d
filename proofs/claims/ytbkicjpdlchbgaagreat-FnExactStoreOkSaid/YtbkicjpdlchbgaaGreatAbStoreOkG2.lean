import Derived.Test.YtbkicjpdlchbgaaGreatAbStoreOkG1
namespace Go.Proofs.YtbkicjpdlchbgaaGreat.Ab
open Go
set_option linter.unusedVariables false
noncomputable section
set_option maxRecDepth 100000
def u11(x:o1s):Option r7w:=zK 10013 x
def u2y(g:o1r→Option o1w)(x:o1r):Option o1w:=(bif (decide (x.2.2.2<(x.1.length:Int))) then(bif (y4q x.2.2.2 x.1.length) then((u5v ((rdL u0a x.1 (x.2.2.2).toNat),x.2.1)).bind fun y2=>(bif (!y2) then(bif (y4q x.2.2.1 x.1.length) then(g ((x.1.set (x.2.2.1).toNat (rdL u0a x.1 (x.2.2.2).toNat)),(x.2.1,((IntKind.i64.wrap (x.2.2.1+1)),(IntKind.i64.wrap (x.2.2.2+1)))))) else none) else(g (x.1,(x.2.1,(x.2.2.1,(IntKind.i64.wrap (x.2.2.2+1)))))))) else none) else(some (.inl (x.1,x.2.2.1))))
def u0z:=lpW _ _ u2y
theorem u67 x:u0z x=u2y u0z x:=zW u20 10013 Tryz.f236 5 42 x (by kernel_rfl)
def u3j (x:o1s):Option r7w:=((u3y x).bind fun y1=>(bif (decide (y1=(-1:Int))) then(some x.1) else((u0z (x.1,(x.2,(y1,(IntKind.i64.wrap (y1+1)))))).bind fun r3=>match r3 with | .inl o4=>(bif (decide (0≤o4.2)&&decide (o4.2≤(o4.1.length:Int))&&decide ((o4.1.length:Int)≤(o4.1.length:Int))) then(bif (decide (0≤(0:Int))&&decide ((0:Int)≤o4.2)&&decide (o4.2≤((o4.1.take (o4.2).toNat++List.replicate (((o4.1.length:Int)).toNat - (o4.2).toNat) (u0a).zero++o4.1.drop ((o4.2).toNat+(((o4.1.length:Int)).toNat - (o4.2).toNat))).length:Int))) then(some ((o4.1.take (o4.2).toNat++List.replicate (((o4.1.length:Int)).toNat - (o4.2).toNat) (u0a).zero++o4.1.drop ((o4.2).toNat+(((o4.1.length:Int)).toNat - (o4.2).toNat))).take ((o4.2).toNat - ((0:Int)).toNat))) else none) else none) | .inr z5=>none)))
theorem u72:u11=u3j:=zC 10013 rfl Tryz.func236 (by kernel_rfl)
def t6o(x:Z62):Option Z71:=zK 152 x
def r2y (x:Z62):Option Z71:=((u1o x.1).bind fun y1=>((u11 (y1.2.2.1,x.2)).bind fun y2=>(some (y1.1,(y1.2.1,(y2,y1.2.2.2))))))
theorem q47:t6o=r2y:=zC 152 rfl Tryz.func152 (by kernel_rfl)
def s5t(x:Z13):Option Z64:=zK 72 x
def r5o (x:Z13):Option Z64:=((((u2e x.1).bind fun y1=>(bif (!y1) then(some true) else((t48 x.2).bind fun y2=>(some (!y2))))):Option Bool).bind fun j3=>(bif j3 then((u1o x.1).bind fun y4=>(some (y4,false))) else((u1o x.1).bind fun y5=>(bif (decide (x.2.1=1)) then((t2b (x.1,x.2.2.1)).bind fun y6=>((u46 (y6,([] :List u0a.den))).bind fun y7=>(((bif (!(decide (x.2.2.1.2.2.2.1=(IntKind.i64.wrap (x.1.2.2.2.1+1))))) then(some true) else((u2e y7).bind fun y8=>(some (!y8)))):Option Bool).bind fun j9=>(bif j9 then((u1o x.1).bind fun y10=>(some (y10,false))) else(some (y7,true)))))) else(bif (decide (x.2.1=2)) then(((bif (decide ((x.1.2.2.1.length:Int)<(3:Int))) then((t6t (x.1,x.2.2.1.2.2.2.2.2.2.2)).bind fun y11=>(some (decide (y11<0)))) else(some false)):Option Bool).bind fun j12=>((t7r (x.1,(x.2.2.1,x.2.2.1.2.2.2.2.2.2.2))).bind fun y13=>((u46 (y13,([] :List u0a.den))).bind fun y14=>(((bif (!j12) then(some true) else((u2e y14).bind fun y15=>(some (!y15)))):Option Bool).bind fun j16=>(bif j16 then((u1o x.1).bind fun y17=>(some (y17,false))) else(some (y14,true))))))) else(bif (decide (x.2.1=3)) then((t6t (x.1,x.2.2.2.1)).bind fun y18=>(((bif (decide (y18≥0)) then(some x.2.2.2.2.1) else(some false)):Option Bool).bind fun j19=>(bif j19 then(bif (y4q y18 x.1.2.2.1.length) then((t2b (x.1,(rdL u0a x.1.2.2.1 (y18).toNat))).bind fun y20=>((u46 (y20,([] :List u0a.den))).bind fun y21=>(((bif (!(decide (y18≥0))) then(some true) else((u2e y21).bind fun y22=>(some (!y22)))):Option Bool).bind fun j23=>(bif j23 then((u1o x.1).bind fun y24=>(some (y24,false))) else(some (y21,true)))))) else none) else((t6o (x.1,x.2.2.2.1)).bind fun y25=>((u46 (y25,([] :List u0a.den))).bind fun y26=>(((bif (!(decide (y18≥0))) then(some true) else((u2e y26).bind fun y27=>(some (!y27)))):Option Bool).bind fun j28=>(bif j28 then((u1o x.1).bind fun y29=>(some (y29,false))) else(some (y26,true))))))))) else((u1o x.2.2.2.2.2).bind fun y30=>((u46 (y30,([] :List u0a.den))).bind fun y31=>((((u2e y31).bind fun y32=>(some (!y32))):Option Bool).bind fun j33=>(bif j33 then((u1o x.1).bind fun y34=>(some (y34,false))) else(some (y31,true))))))))))))
theorem q8n:s5t=r5o:=zC 72 rfl Tryz.func72 (by kernel_rfl)
def r4m(x:Unit):Option Z71:=zK 98 x
def r2w (x:Unit):Option Z71:=(some (([] :List u0d.den),(([] :List u0a.den),(([] :List u0a.den),(0,1)))))
theorem q45:r4m=r2w:=zC 98 rfl Tryz.func98 (by kernel_rfl)
def t1j(x:q2b):Option s2v:=zK 426 x
def u7m(g:o5v→Option o4b)(x:o5v):Option o4b:=(bif (decide (x.2.2.2.2<x.2.2.2.1)) then(bif (y4q x.2.2.2.2 x.2.2.1.length) then(bif (decide ((rdL q6y x.2.2.1 (x.2.2.2.2).toNat).1=x.1)) then(g (x.1,((rdL q6y x.2.2.1 (x.2.2.2.2).toNat).2,(x.2.2.1,(x.2.2.2.1,(IntKind.i64.wrap (x.2.2.2.2+1))))))) else(g (x.1,(x.2.1,(x.2.2.1,(x.2.2.2.1,(IntKind.i64.wrap (x.2.2.2.2+1)))))))) else none) else(some (.inl x.2.1)))
def u7t:=lpW _ _ u7m
theorem s0i x:u7t x=u7m u7t x:=zW t87 426 Tryz.f426 5 36 x (by kernel_rfl)
def s25 (x:q2b):Option s2v:=((u1e (x.2,(0,(IntKind.i64.wrap ((x.1.1.length:Int) - (1:Int)))))).bind fun y1=>(bif (!y1) then(some ((⟨#[]⟩:ByteArray),false)) else(bif (y4q x.2 x.1.1.length) then((u7t (x.2,((rdL Ty.str x.1.1 (x.2).toNat),(x.1.2,((x.1.2.length:Int),0))))).bind fun r2=>match r2 with | .inl o3=>(some (o3,true)) | .inr z4=>none) else none)))
theorem r77:t1j=s25:=zC 426 rfl Tryz.func426 (by kernel_rfl)
def t5w(x:o3q):Option s2v:=zK 358 x
def u7n(g:o5e→Option (q94⊕s2v))(x:o5e):Option (q94⊕s2v):=(bif (decide (x.2.2.2.2<x.2.1)) then((t1j (x.2.2.1,(IntKind.i64.wrap (x.1+x.2.2.2.2)))).bind fun y2=>(bif (!y2.2) then(some (.inr ((⟨#[]⟩:ByteArray),false))) else(bif (Nat.ble (x.2.2.2.1.length+(z7t y2.1).length) z7w) then(g (x.1,(x.2.1,(x.2.2.1,((x.2.2.2.1++(z7t y2.1)),(IntKind.i64.wrap (x.2.2.2.2+1))))))) else none))) else(some (.inl x.2.2.2.1)))
def u7u:=lpW _ _ u7n
theorem s0j x:u7u x=u7n u7u x:=zW t88 358 Tryz.f358 5 35 x (by kernel_rfl)
def s28 (x:o3q):Option s2v:=((u1e (x.2.2,(0,100))).bind fun y1=>(bif (!y1) then(some ((⟨#[]⟩:ByteArray),false)) else((u7u (x.2.1,(x.2.2,(x.1,(([] :List Int),0))))).bind fun r3=>match r3 with | .inl o4=>(some ((y7g o4),true)) | .inr z5=>(some z5))))
theorem r8a:t5w=s28:=zC 358 rfl Tryz.func358 (by kernel_rfl)
def t5b(x:Int):Option Bool:=zK 360 x
def r5u (x:Int):Option Bool:=(((bif (decide (x=0)) then(some true) else(some (decide (x=1)))):Option Bool).bind fun j1=>(some j1))
theorem q8s:t5b=r5u:=zC 360 rfl Tryz.func360 (by kernel_rfl)
def t3n(x:Int):Option Int:=zK 359 x
def s6g (x:Int):Option Int:=((t5b x).bind fun y1=>(bif (!y1) then(some (0:Int)) else(some (IntKind.i64.wrap ((1:Int)+(IntKind.i64.wrap (x*48)))))))
theorem q0s:t3n=s6g:=zC 359 rfl Tryz.func359 (by kernel_rfl)
def t3r(x:q2b):Option Int:=zK 362 x
def s6n (x:q2b):Option Int:=((t1j x).bind fun y1=>(((bif (!y1.2) then(some true) else(some (z7o y1.1 (⟨#[]⟩:ByteArray)))):Option Bool).bind fun j2=>(bif j2 then(some (0:Int)) else(bif (y4q (0:Int) y1.1.size) then(some (IntKind.i64.wrap ((y1.1.data.toList.getD ((0:Int)).toNat 0).toNat:Int))) else none))))
theorem q01:t3r=s6n:=zC 362 rfl Tryz.func362 (by kernel_rfl)
def s2b(x:q2b):Option Int:=zK 361 x
def r2x (x:q2b):Option Int:=((t5b x.2).bind fun y1=>(bif (!y1) then(some (0:Int)) else((t3n x.2).bind fun y2=>((t3r (x.1,y2)).bind fun y3=>(some y3)))))
theorem q46:s2b=r2x:=zC 361 rfl Tryz.func361 (by kernel_rfl)
def t0a(x:q2b):Option (r5e×o1f):=zK 232 x
def t0h(g:Z83→Option o37)(x:Z83):Option o37:=((s2b (x.2.1,x.1)).bind fun y5=>(bif (decide (x.2.2.2.2.2<y5)) then((t3o (x.2.2.1,x.2.2.2.2.1)).bind fun y6=>(((bif (!y6.2.2) then(some true) else(some (z7o y6.1 (⟨#[]⟩:ByteArray)))):Option Bool).bind fun j7=>(bif j7 then(some (.inr (([] :List ByteArray),(0,false)))) else(bif (Nat.ble (x.2.2.2.1.length+([y6.1] :List ByteArray).length) z7w) then(g (x.1,(x.2.1,(x.2.2.1,((x.2.2.2.1++([y6.1] :List ByteArray)),(y6.2.1,(IntKind.i64.wrap (x.2.2.2.2.2+1)))))))) else none)))) else(some (.inl (x.2.2.2.1,x.2.2.2.2.1)))))
def t04:=lpW _ _ t0h
theorem s4u x:t04 x=t0h t04 x:=zW s3t 232 Tryz.f232 7 57 x (by kernel_rfl)
def s9d (x:q2b):Option (r5e×o1f):=((t3n x.2).bind fun y1=>((t5w (x.1,((IntKind.i64.wrap (y1+1)),47))).bind fun y2=>(((bif (!y2.2) then(some true) else((t5b x.2).bind fun y3=>(some (!y3)))):Option Bool).bind fun j4=>(bif j4 then(some (([] :List ByteArray),(0,false))) else((t04 (x.2,(x.1,(y2.1,(([] :List ByteArray),(0,0)))))).bind fun r8=>match r8 with | .inl o9=>(some (o9.1,(o9.2,true))) | .inr z10=>(some z10))))))
theorem q2s:t0a=s9d:=zC 232 rfl Tryz.func232 (by kernel_rfl)
def t9i(x:s8p):Option Int:=zK 234 x
def s86 (x:s8p):Option Int:=((t3r (x,0)).bind fun y1=>(some (Int.tmod y1 (2:Int))))
theorem q2l:t9i=s86:=zC 234 rfl Tryz.func234 (by kernel_rfl)
def t9n(x:s8p):Option r5e:=zK 99 x
def s9b (x:s8p):Option r5e:=((t9i x).bind fun y1=>((t0a (x,y1)).bind fun y2=>(some y2.1)))
theorem q2q:t9n=s9b:=zC 99 rfl Tryz.func99 (by kernel_rfl)
def t6r(x:s8p):Option Z64:=zK 18 x
def t2m(g:Z17→Option (Z25⊕Z64))(x:Z17):Option (Z25⊕Z64):=(bif (decide (x.2.2.2.2<x.2.2.2.1)) then(bif (y4q x.2.2.2.2 x.2.2.1.length) then((t5v (rdL Ty.str x.2.2.1 (x.2.2.2.2).toNat)).bind fun y3=>((s5t (x.2.1,y3.1)).bind fun y4=>(((bif (!y3.2) then(some true) else(some (!y4.2))):Option Bool).bind fun j5=>(bif j5 then(some (.inr ((([] :List u0d.den),(([] :List u0a.den),(([] :List u0a.den),(0,0)))),false))) else(g (x.1,(y4.1,(x.2.2.1,(x.2.2.2.1,(IntKind.i64.wrap (x.2.2.2.2+1))))))))))) else none) else(some (.inl (x.1,x.2.1))))
def u4v:=lpW _ _ t2m
theorem s7x x:u4v x=t2m u4v x:=zW s62 18 Tryz.f18 3 40 x (by kernel_rfl)
def r21 (x:s8p):Option Z64:=((r4m ()).bind fun y1=>((t9n x).bind fun y2=>((u4v ((([] :List u0d.den),(([] :List u0a.den),(([] :List u0a.den),(0,0)))),(y1,(y2,((y2.length:Int),0))))).bind fun r6=>match r6 with | .inl o7=>(some (o7.2,true)) | .inr z8=>(some z8))))
theorem q5a:t6r=r21:=zC 18 rfl Tryz.func18 (by kernel_rfl)
def u63(x:o13):Option Bool:=zK 121 x
def u33(g:o50→Option s8n)(x:o50):Option s8n:=(bif (decide (x.2.2.2<x.2.2.1)) then(bif (y4q x.2.2.2 x.1.length) then(bif (y4q x.2.2.2 x.2.1.length) then(bif (!(z7o (rdL r4y x.1 (x.2.2.2).toNat).1 (rdL r4y x.2.1 (x.2.2.2).toNat).1&&(z7o (rdL r4y x.1 (x.2.2.2).toNat).2 (rdL r4y x.2.1 (x.2.2.2).toNat).2&&true))) then(some (.inr false)) else(g (x.1,(x.2.1,(x.2.2.1,(IntKind.i64.wrap (x.2.2.2+1))))))) else none) else none) else(some (.inl ())))
def u34:=lpW _ _ u33
theorem t1z x:u34 x=u33 u34 x:=zW t1v 121 Tryz.f121 4 26 x (by kernel_rfl)
def t37 (x:o13):Option Bool:=(bif (!decide ((x.1.length:Int)=(x.2.length:Int))) then(some false) else((u34 (x.1,(x.2,((x.1.length:Int),0)))).bind fun r1=>match r1 with | .inl o2=>(some true) | .inr z3=>(some z3)))
theorem s3n:u63=t37:=zC 121 rfl Tryz.func121 (by kernel_rfl)
def t0b(x:r5e):Option r5e:=zK 325 x
theorem t85:∀(x:r5e),t0b x=y7a x:=y6f (P:=Tryz.prog) (A:=A) (f:=325) (F:=y7a) rfl
def u7h(x:r5e):Option r5e:=zK 326 x
theorem t7g:∀(x:r5e),u7h x=y0m x:=y6f (P:=Tryz.prog) (A:=A) (f:=326) (F:=y0m) rfl
def s5v(x:s6c):Option r5e:=zK 259 x
def t4j(g:o5t→Option o1x)(x:o5t):Option o1x:=(bif (decide (x.2.2.2<x.2.2.1)) then(bif (y4q x.2.2.2 x.2.1.length) then(bif (Nat.ble (x.1.length+([(rdL u0d x.2.1 (x.2.2.2).toNat).1] :List ByteArray).length) z7w) then(g ((x.1++([(rdL u0d x.2.1 (x.2.2.2).toNat).1] :List ByteArray)),(x.2.1,(x.2.2.1,(IntKind.i64.wrap (x.2.2.2+1)))))) else none) else none) else(some (.inl x.1)))
def t4t:=lpW _ _ t4j
theorem r1u x:t4t x=t4j t4t x:=zW r0r 259 Tryz.f259 3 22 x (by kernel_rfl)
def r5w (x:s6c):Option r5e:=((t4t (([] :List ByteArray),(x,((x.length:Int),0)))).bind fun r1=>match r1 with | .inl o2=>((t0b o2).bind fun y3=>((u7h y3).bind fun y4=>(some y4))) | .inr z5=>none)
theorem q8t:s5v=r5w:=zC 259 rfl Tryz.func259 (by kernel_rfl)
def s5u(x:p9x):Option s2v:=zK 260 x
def r5r (x:p9x):Option s2v:=((t8l x).bind fun y1=>(((bif (decide (y1<0)) then(some true) else(bif (y4q y1 x.1.length) then(some (rdL u0d x.1 (y1).toNat).2.2.1) else none)):Option Bool).bind fun j2=>(bif j2 then(some ((⟨#[]⟩:ByteArray),false)) else(bif (y4q y1 x.1.length) then(some ((rdL u0d x.1 (y1).toNat).2.1,true)) else none))))
theorem q8q:s5u=r5r:=zC 260 rfl Tryz.func260 (by kernel_rfl)
def t8k(x:o3o):Option p3u:=zK 123 x
def t4i(g:Z74→Option o1y)(x:Z74):Option o1y:=(bif (decide (x.2.2.2.2.2.2<x.2.2.2.2.2.1)) then(bif (y4q x.2.2.2.2.2.2 x.2.2.2.2.1.length) then((s5u (x.1,((rdL Ty.str x.2.2.2.2.1 (x.2.2.2.2.2.2).toNat),x.2.1))).bind fun y2=>(((bif y2.2 then((t6p (x.2.2.1,(rdL Ty.str x.2.2.2.2.1 (x.2.2.2.2.2.2).toNat))).bind fun y3=>(some y3)) else(some false)):Option Bool).bind fun j4=>(bif j4 then(bif (Nat.ble (x.2.2.2.1.length+([((rdL Ty.str x.2.2.2.2.1 (x.2.2.2.2.2.2).toNat),y2.1)] :List r4y.den).length) z7w) then(g (x.1,(x.2.1,(x.2.2.1,((x.2.2.2.1++([((rdL Ty.str x.2.2.2.2.1 (x.2.2.2.2.2.2).toNat),y2.1)] :List r4y.den)),(x.2.2.2.2.1,(x.2.2.2.2.2.1,(IntKind.i64.wrap (x.2.2.2.2.2.2+1))))))))) else none) else(g (x.1,(x.2.1,(x.2.2.1,(x.2.2.2.1,(x.2.2.2.2.1,(x.2.2.2.2.2.1,(IntKind.i64.wrap (x.2.2.2.2.2.2+1)))))))))))) else none) else(some (.inl x.2.2.2.1)))
def t4s:=lpW _ _ t4i
theorem r1t x:t4s x=t4i t4s x:=zW r0q 123 Tryz.f123 3 40 x (by kernel_rfl)
def r5p (x:o3o):Option p3u:=((s5v x.1).bind fun y1=>((t4s (x.1,(x.2.2,(x.2.1,(([] :List r4y.den),(y1,((y1.length:Int),0))))))).bind fun r5=>match r5 with | .inl o6=>(some o6) | .inr z7=>none))
theorem q8o:t8k=r5p:=zC 123 rfl Tryz.func123 (by kernel_rfl)
def s2i(x:Unit):Option p2f:=zK 126 x
def r3d (x:Unit):Option p2f:=(some ((⟨#[97]⟩:ByteArray),(⟨#[122,122,122]⟩:ByteArray)))
theorem q5m:s2i=r3d:=zC 126 rfl Tryz.func126 (by kernel_rfl)
def t1k(x:o3r):Option Bool:=zK 239 x
def s27 (x:o3r):Option Bool:=((s2i ()).bind fun y1=>((t8k (x.2.1,(y1,x.1))).bind fun y2=>((s2i ()).bind fun y3=>((t8k (x.2.2,(y3,x.1))).bind fun y4=>((u63 (y2,y4)).bind fun y5=>(some y5))))))
theorem r79:t1k=s27:=zC 239 rfl Tryz.func239 (by kernel_rfl)
def u5o(x:(Unit×Int)):Option s6c:=zK 365 x
def t1t (x:(Unit×Int)):Option s6c:=(bif (decide (x.2<0)) then none else(bif (decide ((IntKind.i64.wrap (x.2 - (IntKind.i64.wrap ((0:Int) - (0:Int))))) >0)) then(bif (decide (0≤(0:Int))&&decide ((0:Int)≤(0:Int))&&decide ((0:Int)≤0)) then(bif (decide (1≤(IntKind.i64.wrap (x.2 - (IntKind.i64.wrap ((0:Int) - (0:Int))))))&&decide ((IntKind.i64.wrap (x.2 - (IntKind.i64.wrap ((0:Int) - (0:Int)))))≤1099511627776)) then(bif (decide (0≤(0:Int))&&decide ((0:Int)≤(0:Int))&&decide ((0:Int)≤((List.replicate ((IntKind.i64.wrap (x.2 - (IntKind.i64.wrap ((0:Int) - (0:Int)))))).toNat (u0d).zero).length:Int))) then(some ((List.replicate ((IntKind.i64.wrap (x.2 - (IntKind.i64.wrap ((0:Int) - (0:Int)))))).toNat (u0d).zero).take (((0:Int)).toNat - ((0:Int)).toNat))) else none) else none) else none) else(some ([] :List u0d.den))))
theorem s0r:u5o=t1t:=zC 365 rfl Tryz.func365 (by kernel_rfl)
def u48(x:(List s6c)):Option s6c:=zK 240 x
def u2l(g:Z95→Option (((List s6c)×Int)⊕Unit))(x:Z95):Option (((List s6c)×Int)⊕Unit):=(bif (decide (x.2.2.2.2<x.2.2.2.1)) then(bif (y4q x.2.2.2.2 x.2.2.1.length) then(bif (decide ((IntKind.i64.wrap (x.2.1+((rdL (Ty.sl u0d) x.2.2.1 (x.2.2.2.2).toNat).length:Int)))<0)) then none else(g (x.1,((IntKind.i64.wrap (x.2.1+((rdL (Ty.sl u0d) x.2.2.1 (x.2.2.2.2).toNat).length:Int))),(x.2.2.1,(x.2.2.2.1,(IntKind.i64.wrap (x.2.2.2.2+1)))))))) else none) else(some (.inl (x.1,x.2.1))))
def u1y:=lpW _ _ u2l
theorem u7k x:u1y x=u2l u1y x:=zW u7f 240 Tryz.f240 3 36 x (by kernel_rfl)
def u2c(g:o5k→Option p58)(x:o5k):Option p58:=(bif (decide (x.2.2.2<x.2.2.1)) then(bif (y4q x.2.2.2 x.2.1.length) then(bif (Nat.ble (x.1.length+(rdL (Ty.sl u0d) x.2.1 (x.2.2.2).toNat).length) z7w) then(g ((x.1++(rdL (Ty.sl u0d) x.2.1 (x.2.2.2).toNat)),(x.2.1,(x.2.2.1,(IntKind.i64.wrap (x.2.2.2+1)))))) else none) else none) else(some (.inl x.1)))
def u1v:=lpW _ _ u2c
theorem u66 x:u1v x=u2c u1v x:=zW u6z 240 Tryz.f240 11 36 x (by kernel_rfl)
def u9p (x:(List s6c)):Option s6c:=((u1y (x,(0,(x,((x.length:Int),0))))).bind fun r1=>match r1 with | .inl o2=>((u5o ((),o2.2)).bind fun y3=>((u1v (y3,(o2.1,((o2.1.length:Int),0)))).bind fun r4=>match r4 with | .inl o5=>(some o5) | .inr z6=>none)) | .inr z7=>none)
theorem t8h:u48=u9p:=zC 240 rfl Tryz.func240 (by kernel_rfl)
def t9p(x:p8e):Option Bool:=zK 103 x
def t0i(g:Z86→Option (o3r⊕Bool))(x:Z86):Option (o3r⊕Bool):=(bif (decide (x.2.2.2.2<x.2.2.2.1)) then(bif (y4q x.2.2.2.2 x.2.2.1.length) then(bif (decide ((rdL u0d x.2.2.1 (x.2.2.2.2).toNat).2.2.2 >x.1)) then((t1k ((rdL u0d x.2.2.1 (x.2.2.2.2).toNat).2.2.2,x.2.1)).bind fun y2=>(bif (!y2) then(some (.inr false)) else(g (x.1,(x.2.1,(x.2.2.1,(x.2.2.2.1,(IntKind.i64.wrap (x.2.2.2.2+1))))))))) else(g (x.1,(x.2.1,(x.2.2.1,(x.2.2.2.1,(IntKind.i64.wrap (x.2.2.2.2+1)))))))) else none) else(some (.inl (x.1,x.2.1))))
def t05:=lpW _ _ t0i
theorem s4v x:t05 x=t0i t05 x:=zW s3u 103 Tryz.f103 3 35 x (by kernel_rfl)
def s9f (x:p8e):Option Bool:=((u48 ([x.1,x.2.1] :List s6c)).bind fun y1=>((t05 (x.2.2,((x.1,x.2.1),(y1,((y1.length:Int),0))))).bind fun r3=>match r3 with | .inl o4=>((t1k o4).bind fun y5=>(some y5)) | .inr z6=>(some z6)))
theorem q2u:t9p=s9f:=zC 103 rfl Tryz.func103 (by kernel_rfl)
def r08(x:Z32):Option Bool:=zK 102 x
def s9m (x:Z32):Option Bool:=((u83 x.1).bind fun y1=>((u83 x.2).bind fun y2=>(((bif (y1.2==y2.2) then(some (z7o y1.1 y2.1)) else(some false)):Option Bool).bind fun j3=>(some j3))))
theorem q22:r08=s9m:=zC 102 rfl Tryz.func102 (by kernel_rfl)
def u1i(x:Z93):Option Bool:=zK 10000 x
def u1a(g:Z79→Option s8n)(x:Z79):Option s8n:=(bif (decide (x.2.2.2.2<x.2.2.2.1)) then(bif (y4q x.2.2.2.2 x.2.2.1.length) then(bif (y4q x.2.2.2.2 x.1.length) then((r08 ((rdL u0a x.2.2.1 (x.2.2.2.2).toNat),(rdL u0a x.1 (x.2.2.2.2).toNat))).bind fun y1=>(bif (!y1) then(some (.inr false)) else(g (x.1,((),(x.2.2.1,(x.2.2.2.1,(IntKind.i64.wrap (x.2.2.2.2+1))))))))) else none) else none) else(some (.inl ())))
def u1b:=lpW _ _ u1a
theorem u3o x:u1b x=u1a u1b x:=zW u3l 10000 Tryz.f101 4 32 x (by kernel_rfl)
def u35 (x:Z93):Option Bool:=(bif (!decide ((x.1.length:Int)=(x.2.1.length:Int))) then(some false) else((u1b (x.2.1,((),(x.1,((x.1.length:Int),0))))).bind fun r2=>match r2 with | .inl o3=>(some true) | .inr z4=>(some z4)))
theorem u86:u1i=u35:=zC 10000 rfl Tryz.func101 (by kernel_rfl)
def t9m(x:Z25):Option Bool:=zK 20 x
def s9a (x:Z25):Option Bool:=(bif (decide (x.1.2.2.2.1=x.2.2.2.2.1)) then((u1i (x.1.2.1,(x.2.2.1,()))).bind fun y1=>(bif y1 then((u1i (x.1.2.2.1,(x.2.2.2.1,()))).bind fun y2=>(bif y2 then((t9p (x.1.1,(x.2.1,x.1.2.2.2.1))).bind fun y3=>(some y3)) else(some false))) else(some false))) else(some false))
theorem q2p:t9m=s9a:=zC 20 rfl Tryz.func20 (by kernel_rfl)
def t9l(x:Z40):Option Bool:=zK 55 x
def t0f(g:Z29→Option s8n)(x:Z29):Option s8n:=(bif (decide (x.2.2.2<x.2.2.1)) then(bif (y4q x.2.2.2 x.2.1.length) then((((u56 (rdL u0a x.2.1 (x.2.2.2).toNat)).bind fun y4=>(bif (!y4) then(some true) else(bif (!decide ((rdL u0a x.2.1 (x.2.2.2).toNat).2.1=1)) then(some true) else(bif (decide ((rdL u0a x.2.1 (x.2.2.2).toNat).2.2.1 >x.1.1.2.2.2.1)) then(some true) else(bif (decide (x.2.2.2 >0)) then(bif (y4q (IntKind.i64.wrap (x.2.2.2 - 1)) x.1.2.length) then(some (decide ((rdL u0a x.1.2 ((IntKind.i64.wrap (x.2.2.2 - 1))).toNat).1≥(rdL u0a x.2.1 (x.2.2.2).toNat).1))) else none) else(some false)))))):Option Bool).bind fun j5=>(bif j5 then(some (.inr false)) else(g (x.1,(x.2.1,(x.2.2.1,(IntKind.i64.wrap (x.2.2.2+1)))))))) else none) else(some (.inl ())))
def t02:=lpW _ _ t0f
theorem s4s x:t02 x=t0f t02 x:=zW s3r 55 Tryz.f55 4 73 x (by kernel_rfl)
def s89 (x:Z40):Option Bool:=((u2e x.1).bind fun y1=>(bif (!y1) then(some false) else(bif (decide ((x.2.length:Int) >(4:Int))) then(some false) else((u22 ([x.1.2.1,x.1.2.2.1,x.2] :List r7w)).bind fun y2=>((u80 (y2,x.1.2.2.2.2)).bind fun y3=>(bif (!y3) then(some false) else((t02 (x,(x.2,((x.2.length:Int),0)))).bind fun r6=>match r6 with | .inl o7=>(some true) | .inr z8=>(some z8))))))))
theorem q2o:t9l=s89:=zC 55 rfl Tryz.func55 (by kernel_rfl)
def s5s(x:s8p):Option Bool:=zK 233 x
def t4g(g:o5g→Option o1z)(x:o5g):Option o1z:=(bif (decide (x.2.2.2<x.2.2.1)) then(bif (y4q x.2.2.2 x.2.1.length) then(bif (!decide (((rdL Ty.str x.2.1 (x.2.2.2).toNat).size:Int)=(64:Int))) then(some (.inr false)) else(g (x.1,(x.2.1,(x.2.2.1,(IntKind.i64.wrap (x.2.2.2+1))))))) else none) else(some (.inl x.1)))
def t4q:=lpW _ _ t4g
theorem r1r x:t4q x=t4g t4q x:=zW r0o 233 Tryz.f233 2 50 x (by kernel_rfl)
def t4h(g:o5h→Option o1z)(x:o5h):Option o1z:=(bif (decide (x.2.2.2<x.2.2.1)) then(bif (y4q x.2.2.2 x.2.1.length) then((((u1e ((rdL q6y x.2.1 (x.2.2.2).toNat).1,(0,(IntKind.i64.wrap ((x.1.1.length:Int) - (1:Int)))))).bind fun y3=>(bif (!y3) then(some true) else(some (!decide (((rdL q6y x.2.1 (x.2.2.2).toNat).2.size:Int)=(64:Int)))))):Option Bool).bind fun j4=>(bif j4 then(some (.inr false)) else(g (x.1,(x.2.1,(x.2.2.1,(IntKind.i64.wrap (x.2.2.2+1)))))))) else none) else(some (.inl x.1)))
def t4r:=lpW _ _ t4h
theorem r1s x:t4r x=t4h t4r x:=zW r0p 233 Tryz.f233 8 50 x (by kernel_rfl)
def r5n (x:s8p):Option Bool:=((t4q (x,(x.1,((x.1.length:Int),0)))).bind fun r1=>match r1 with | .inl o2=>((t4r (o2,(o2.2,((o2.2.length:Int),0)))).bind fun r5=>match r5 with | .inl o6=>((((u1e ((o6.1.length:Int),(1,100))).bind fun y7=>(bif y7 then(some (decide ((o6.2.length:Int)≤(60:Int)))) else(some false))):Option Bool).bind fun j8=>(some j8)) | .inr z9=>(some z9)) | .inr z10=>(some z10))
theorem q8m:s5s=r5n:=zC 233 rfl Tryz.func233 (by kernel_rfl)
def r07(x:s8p):Option Bool:=zK 96 x
def r9k (x:s8p):Option Bool:=((t0a (x,0)).bind fun y1=>((t0a (x,1)).bind fun y2=>((((s5s x).bind fun y3=>(bif y3 then(bif (decide ((x.1.length:Int)=(97:Int))) then(bif (decide ((x.2.length:Int)=(0:Int))) then(bif y1.2.2 then(some y2.2.2) else(some false)) else(some false)) else(some false)) else(some false))):Option Bool).bind fun j4=>(some j4))))
theorem p0x:r07=r9k:=zC 96 rfl Tryz.func96 (by kernel_rfl)
def s2d(x:Z31):Option Bool:=zK 19 x
def r25 (x:Z31):Option Bool:=((t6r x.2).bind fun y1=>((((t9l x.1).bind fun y2=>(bif y2 then((r07 x.2).bind fun y3=>(bif y3 then(bif y1.2 then((u46 (x.1.1,([] :List u0a.den))).bind fun y4=>((t9m (y1.1,y4)).bind fun y5=>(some y5))) else(some false)) else(some false))) else(some false))):Option Bool).bind fun j6=>(some j6)))
theorem q5e:s2d=r25:=zC 19 rfl Tryz.func19 (by kernel_rfl)
def t6x(x:(p2f×Int)):Option Int:=zK 436 x
def r3i (x:(p2f×Int)):Option Int:=(bif (decide ((IntKind.i64.wrap (x.2 - (x.1.1.size:Int)))<0)) then(some (-1:Int)) else(bif (decide ((IntKind.i64.wrap ((IntKind.i64.wrap (x.2 - (x.1.1.size:Int))) - (x.1.2.size:Int)))<0)) then(some (-1:Int)) else(some (IntKind.i64.wrap ((IntKind.i64.wrap (x.2 - (x.1.1.size:Int))) - (x.1.2.size:Int))))))
theorem q5s:t6x=r3i:=zC 436 rfl Tryz.func436 (by kernel_rfl)
def t9z(x:(p3u×Int)):Option Int:=zK 376 x
def s2y(g:(p3u×p4t)→Option p59)(x:(p3u×p4t)):Option p59:=(bif (decide (x.2.2<(x.1.length:Int))) then(bif (y4q x.2.2 x.1.length) then((t6x ((rdL r4y x.1 (x.2.2).toNat),x.2.1)).bind fun y1=>(bif (decide (y1<0)) then(some (.inr (-1:Int))) else(g (x.1,(y1,(IntKind.i64.wrap (x.2.2+1))))))) else none) else(some (.inl x.2.1)))
def t1a:=lpW _ _ s2y
theorem r82 x:t1a x=s2y t1a x:=zW s32 376 Tryz.f376 5 27 x (by kernel_rfl)
def s9r (x:(p3u×Int)):Option Int:=(bif (decide ((IntKind.i64.wrap (x.2 - (x.1.length:Int)))<0)) then(some (-1:Int)) else((t1a (x.1,((IntKind.i64.wrap (x.2 - (x.1.length:Int))),0))).bind fun r2=>match r2 with | .inl o3=>(some o3) | .inr z4=>(some z4)))
theorem q27:t9z=s9r:=zC 376 rfl Tryz.func376 (by kernel_rfl)
def t6y(x:o58):Option Int:=zK 437 x
def r3k (x:o58):Option Int:=(bif (decide ((IntKind.i64.wrap (x.2 - (x.1.1.size:Int)))<0)) then(some (-1:Int)) else(bif (decide ((IntKind.i64.wrap ((IntKind.i64.wrap (x.2 - (x.1.1.size:Int))) - (x.1.2.1.size:Int)))<0)) then(some (-1:Int)) else(some (IntKind.i64.wrap ((IntKind.i64.wrap (x.2 - (x.1.1.size:Int))) - (x.1.2.1.size:Int))))))
theorem q5u:t6y=r3k:=zC 437 rfl Tryz.func437 (by kernel_rfl)
def t90(x:(q7v×Int)):Option Int:=zK 377 x
def s2z(g:(q7v×p4t)→Option p59)(x:(q7v×p4t)):Option p59:=(bif (decide (x.2.2<(x.1.length:Int))) then(bif (y4q x.2.2 x.1.length) then((t6y ((rdL u2v x.1 (x.2.2).toNat),x.2.1)).bind fun y1=>(bif (decide (y1<0)) then(some (.inr (-1:Int))) else(g (x.1,(y1,(IntKind.i64.wrap (x.2.2+1))))))) else none) else(some (.inl x.2.1)))
def t1b:=lpW _ _ s2z
theorem r83 x:t1b x=s2z t1b x:=zW s33 377 Tryz.f377 5 27 x (by kernel_rfl)
def s9s (x:(q7v×Int)):Option Int:=(bif (decide ((IntKind.i64.wrap (x.2 - (x.1.length:Int)))<0)) then(some (-1:Int)) else((t1b (x.1,((IntKind.i64.wrap (x.2 - (x.1.length:Int))),0))).bind fun r2=>match r2 with | .inl o3=>(some o3) | .inr z4=>(some z4)))
theorem q28:t90=s9s:=zC 377 rfl Tryz.func377 (by kernel_rfl)
def s1o(x:Z80):Option Int:=zK 262 x
def r9r (x:Z80):Option Int:=((t9z (x.1.2.2.2.2.1,x.2)).bind fun y1=>(bif (decide (y1<0)) then(some (-1:Int)) else((t90 (x.1.2.2.2.2.2.1,y1)).bind fun y2=>(bif (decide (y2<0)) then(some (-1:Int)) else(bif (decide ((IntKind.i64.wrap (y2 - (x.1.2.2.2.2.2.2.2.size:Int)))<0)) then(some (-1:Int)) else(some (IntKind.i64.wrap (y2 - (x.1.2.2.2.2.2.2.2.size:Int)))))))))
theorem p04:s1o=r9r:=zC 262 rfl Tryz.func262 (by kernel_rfl)
def t5f(x:p73):Option Int:=zK 129 x
def s80(g:p8d→Option p59)(x:p8d):Option p59:=(bif (decide (x.2.2<(x.1.length:Int))) then(bif (y4q x.2.2 x.1.length) then((s1o ((rdL u0a x.1 (x.2.2).toNat),x.2.1)).bind fun y1=>(bif (decide (y1<0)) then(some (.inr (-1:Int))) else(g (x.1,(y1,(IntKind.i64.wrap (x.2.2+1))))))) else none) else(some (.inl x.2.1)))
def t4v:=lpW _ _ s80
theorem q4r x:t4v x=s80 t4v x:=zW r0w 129 Tryz.f129 5 27 x (by kernel_rfl)
def r56 (x:p73):Option Int:=(bif (decide ((IntKind.i64.wrap (x.2 - (x.1.length:Int)))<0)) then(some (-1:Int)) else((t4v (x.1,((IntKind.i64.wrap (x.2 - (x.1.length:Int))),0))).bind fun r2=>match r2 with | .inl o3=>(some o3) | .inr z4=>(some z4)))
theorem q83:t5f=r56:=zC 129 rfl Tryz.func129 (by kernel_rfl)
def t3t(x:o52):Option Int:=zK 458 x
def s6u (x:o52):Option Int:=(bif (decide ((IntKind.i64.wrap (x.2 - (x.1.1.size:Int)))<0)) then(some (-1:Int)) else(bif (decide ((IntKind.i64.wrap ((IntKind.i64.wrap (x.2 - (x.1.1.size:Int))) - (x.1.2.1.size:Int)))<0)) then(some (-1:Int)) else(some (IntKind.i64.wrap ((IntKind.i64.wrap (x.2 - (x.1.1.size:Int))) - (x.1.2.1.size:Int))))))
theorem q08:t3t=s6u:=zC 458 rfl Tryz.func458 (by kernel_rfl)
def t5z(x:o0d):Option Int:=zK 400 x
def t8y(g:(s6c×p4t)→Option p59)(x:(s6c×p4t)):Option p59:=(bif (decide (x.2.2<(x.1.length:Int))) then(bif (y4q x.2.2 x.1.length) then((t3t ((rdL u0d x.1 (x.2.2).toNat),x.2.1)).bind fun y1=>(bif (decide (y1<0)) then(some (.inr (-1:Int))) else(g (x.1,(y1,(IntKind.i64.wrap (x.2.2+1))))))) else none) else(some (.inl x.2.1)))
def u7w:=lpW _ _ t8y
theorem r5c x:u7w x=t8y u7w x:=zW t9b 400 Tryz.f400 5 27 x (by kernel_rfl)
def s3d (x:o0d):Option Int:=(bif (decide ((IntKind.i64.wrap (x.2 - (x.1.length:Int)))<0)) then(some (-1:Int)) else((u7w (x.1,((IntKind.i64.wrap (x.2 - (x.1.length:Int))),0))).bind fun r2=>match r2 with | .inl o3=>(some o3) | .inr z4=>(some z4)))
theorem r8f:t5z=s3d:=zC 400 rfl Tryz.func400 (by kernel_rfl)
def s5z(x:Z65):Option Int:=zK 327 x
def r53 (x:Z65):Option Int:=((t5z (x.1.1,x.2)).bind fun y1=>(bif (decide (y1<0)) then(some (-1:Int)) else((t5f (x.1.2.1,y1)).bind fun y2=>(bif (decide (y2<0)) then(some (-1:Int)) else((t5f (x.1.2.2.1,y2)).bind fun y3=>(bif (decide (y3<0)) then(some (-1:Int)) else(some y3)))))))
theorem q80:s5z=r53:=zC 327 rfl Tryz.func327 (by kernel_rfl)
def t9y(x:Z37):Option Int:=zK 210 x
def s9q (x:Z37):Option Int:=((s5z (x.1.1,x.2)).bind fun y1=>(bif (decide (y1<0)) then(some (-1:Int)) else((t5f (x.1.2,y1)).bind fun y2=>(bif (decide (y2<0)) then(some (-1:Int)) else(some y2)))))
theorem q26:t9y=s9q:=zC 210 rfl Tryz.func210 (by kernel_rfl)
def t7v(x:(r5e×Int)):Option Int:=zK 131 x
def s0t(g:(r5e×p4t)→Option p59)(x:(r5e×p4t)):Option p59:=(bif (decide (x.2.2<(x.1.length:Int))) then(bif (y4q x.2.2 x.1.length) then(bif (decide ((IntKind.i64.wrap (x.2.1 - ((rdL Ty.str x.1 (x.2.2).toNat).size:Int)))<0)) then(some (.inr (-1:Int))) else(g (x.1,((IntKind.i64.wrap (x.2.1 - ((rdL Ty.str x.1 (x.2.2).toNat).size:Int))),(IntKind.i64.wrap (x.2.2+1)))))) else none) else(some (.inl x.2.1)))
def u9m:=lpW _ _ s0t
theorem r7s x:u9m x=s0t u9m x:=zW s1b 131 Tryz.f131 5 28 x (by kernel_rfl)
def s6t (x:(r5e×Int)):Option Int:=(bif (decide ((IntKind.i64.wrap (x.2 - (x.1.length:Int)))<0)) then(some (-1:Int)) else((u9m (x.1,((IntKind.i64.wrap (x.2 - (x.1.length:Int))),0))).bind fun r1=>match r1 with | .inl o2=>(some o2) | .inr z3=>(some z3)))
theorem q07:t7v=s6t:=zC 131 rfl Tryz.func131 (by kernel_rfl)
def s1n(x:(p77×Int)):Option Int:=zK 401 x
def r9q (x:(p77×Int)):Option Int:=(bif (decide ((IntKind.i64.wrap (x.2 - (x.1.2.size:Int)))<0)) then(some (-1:Int)) else(some (IntKind.i64.wrap (x.2 - (x.1.2.size:Int)))))
theorem p03:s1n=r9q:=zC 401 rfl Tryz.func401 (by kernel_rfl)
def s51(x:(p4u×Int)):Option Int:=zK 328 x
def s8z(g:(p4u×p4t)→Option p59)(x:(p4u×p4t)):Option p59:=(bif (decide (x.2.2<(x.1.length:Int))) then(bif (y4q x.2.2 x.1.length) then((s1n ((rdL q6y x.1 (x.2.2).toNat),x.2.1)).bind fun y1=>(bif (decide (y1<0)) then(some (.inr (-1:Int))) else(g (x.1,(y1,(IntKind.i64.wrap (x.2.2+1))))))) else none) else(some (.inl x.2.1)))
def t4u:=lpW _ _ s8z
theorem q4q x:t4u x=s8z t4u x:=zW r0v 328 Tryz.f328 5 27 x (by kernel_rfl)
def r55 (x:(p4u×Int)):Option Int:=(bif (decide ((IntKind.i64.wrap (x.2 - (x.1.length:Int)))<0)) then(some (-1:Int)) else((t4u (x.1,((IntKind.i64.wrap (x.2 - (x.1.length:Int))),0))).bind fun r2=>match r2 with | .inl o3=>(some o3) | .inr z4=>(some z4)))
theorem q82:s51=r55:=zC 328 rfl Tryz.func328 (by kernel_rfl)
def s50(x:q2b):Option Int:=zK 211 x
def r54 (x:q2b):Option Int:=((t7v (x.1.1,x.2)).bind fun y1=>(bif (decide (y1<0)) then(some (-1:Int)) else((s51 (x.1.2,y1)).bind fun y2=>(bif (decide (y2<0)) then(some (-1:Int)) else(some y2)))))
theorem q81:s50=r54:=zC 211 rfl Tryz.func211 (by kernel_rfl)
def s2k(x:Z30):Option Int:=zK 80 x
def r3j (x:Z30):Option Int:=((t9y (x.1.1,x.2)).bind fun y1=>(bif (decide (y1<0)) then(some (-1:Int)) else((s50 (x.1.2,y1)).bind fun y2=>(bif (decide (y2<0)) then(some (-1:Int)) else(some y2)))))
theorem q5t:s2k=r3j:=zC 80 rfl Tryz.func80 (by kernel_rfl)
def u3e(x:Z84):Option Z84:=zK 106 x
def r35 (x:Z84):Option Z84:=(bif (Nat.ble (([] :List r4y.den).length+x.2.2.2.2.1.length) z7w) then(bif (Nat.ble (([] :List u2v.den).length+x.2.2.2.2.2.1.length) z7w) then(some (x.1,(x.2.1,(x.2.2.1,(x.2.2.2.1,((([] :List r4y.den)++x.2.2.2.2.1),((([] :List u2v.den)++x.2.2.2.2.2.1),x.2.2.2.2.2.2))))))) else none) else none)
theorem q6g:u3e=r35:=zC 106 rfl Tryz.func106 (by kernel_rfl)
def t68(x:r7w):Option r7w:=zK 241 x
def t29(g:Z94→Option p98)(x:Z94):Option p98:=(bif (decide (x.2.2<(x.1.length:Int))) then(bif (y4q x.2.2 x.1.length) then((u3e (rdL u0a x.1 (x.2.2).toNat)).bind fun y1=>(bif (Nat.ble (x.2.1.length+([y1] :List u0a.den).length) z7w) then(g (x.1,((x.2.1++([y1] :List u0a.den)),(IntKind.i64.wrap (x.2.2+1))))) else none)) else none) else(some (.inl x.2.1)))
def t3l:=lpW _ _ t29
theorem s8l x:t3l x=t29 t3l x:=zW s7t 241 Tryz.f241 3 21 x (by kernel_rfl)
def r37 (x:r7w):Option r7w:=((t3l (x,(([] :List u0a.den),0))).bind fun r2=>match r2 with | .inl o3=>(some o3) | .inr z4=>none)
theorem q6i:t68=r37:=zC 241 rfl Tryz.func241 (by kernel_rfl)
def u3f(x:Z71):Option Z71:=zK 104 x
def r36 (x:Z71):Option Z71:=(bif (Nat.ble (([] :List u0d.den).length+x.1.length) z7w) then((t68 x.2.1).bind fun y1=>((t68 x.2.2.1).bind fun y2=>(some ((([] :List u0d.den)++x.1),(y1,(y2,x.2.2.2)))))) else none)
theorem q6h:u3f=r36:=zC 104 rfl Tryz.func104 (by kernel_rfl)
def t99(x:Z40):Option Int:=zK 105 x
def t0q(g:p8d→Option p4v)(x:p8d):Option p4v:=(bif (decide (x.2.2<(x.1.length:Int))) then(bif (y4q x.2.2 x.1.length) then(bif (decide ((rdL u0a x.1 (x.2.2).toNat).2.2.1<x.2.1)) then(bif (y4q x.2.2 x.1.length) then(g (x.1,((rdL u0a x.1 (x.2.2).toNat).2.2.1,(IntKind.i64.wrap (x.2.2+1))))) else none) else(g (x.1,(x.2.1,(IntKind.i64.wrap (x.2.2+1)))))) else none) else(some (.inl x.2.1)))
def t1c:=lpW _ _ t0q
theorem s43 x:t1c x=t0q t1c x:=zW s38 105 Tryz.f105 3 28 x (by kernel_rfl)
def s91 (x:Z40):Option Int:=((t1c (x.2,(x.1.2.2.2.1,0))).bind fun r1=>match r1 with | .inl o2=>(some o2) | .inr z3=>none)
theorem q3h:t99=s91:=zC 105 rfl Tryz.func105 (by kernel_rfl)
def s1u(x:p9x):Option Int:=zK 113 x
def t6g(g:o5p→Option p4v)(x:o5p):Option p4v:=(bif (decide (x.2.2.2.2<(x.1.length:Int))) then(((bif (y4q x.2.2.2.2 x.1.length) then(bif (z7o (rdL u0d x.1 (x.2.2.2.2).toNat).1 x.2.1) then(bif (y4q x.2.2.2.2 x.1.length) then(bif (decide ((rdL u0d x.1 (x.2.2.2.2).toNat).2.2.2≤x.2.2.1)) then(bif (decide (x.2.2.2.1<0)) then(some true) else(bif (y4q x.2.2.2.2 x.1.length) then(bif (y4q x.2.2.2.1 x.1.length) then(some (decide ((rdL u0d x.1 (x.2.2.2.2).toNat).2.2.2 >(rdL u0d x.1 (x.2.2.2.1).toNat).2.2.2))) else none) else none)) else(some false)) else none) else(some false)) else none):Option Bool).bind fun j1=>(bif j1 then(g (x.1,(x.2.1,(x.2.2.1,(x.2.2.2.2,(IntKind.i64.wrap (x.2.2.2.2+1))))))) else(g (x.1,(x.2.1,(x.2.2.1,(x.2.2.2.1,(IntKind.i64.wrap (x.2.2.2.2+1))))))))) else(some (.inl x.2.2.2.1)))
def t17:=lpW _ _ t6g
theorem r4w x:t17 x=t6g t17 x:=zW r4k 113 Tryz.f113 3 50 x (by kernel_rfl)
def r9z (x:p9x):Option Int:=((t17 (x.1,(x.2.1,(x.2.2,((-1:Int),0))))).bind fun r2=>match r2 with | .inl o3=>(some o3) | .inr z4=>none)
theorem p1d:s1u=r9z:=zC 113 rfl Tryz.func113 (by kernel_rfl)
def s2r(x:o0d):Option s6c:=zK 107 x
def t25(g:o5n→Option o39)(x:o5n):Option o39:=(bif (decide (x.2.2.2<(x.1.length:Int))) then(bif (y4q x.2.2.2 x.1.length) then((s1u (x.1,((rdL u0d x.1 (x.2.2.2).toNat).1,x.2.1))).bind fun y1=>(((bif (y4q x.2.2.2 x.1.length) then(bif (decide ((rdL u0d x.1 (x.2.2.2).toNat).2.2.2 >x.2.1)) then(some true) else(some (decide (y1=x.2.2.2)))) else none):Option Bool).bind fun j2=>(bif j2 then(bif (y4q x.2.2.2 x.1.length) then(bif (Nat.ble (x.2.2.1.length+([(rdL u0d x.1 (x.2.2.2).toNat)] :List u0d.den).length) z7w) then(g (x.1,(x.2.1,((x.2.2.1++([(rdL u0d x.1 (x.2.2.2).toNat)] :List u0d.den)),(IntKind.i64.wrap (x.2.2.2+1)))))) else none) else none) else(g (x.1,(x.2.1,(x.2.2.1,(IntKind.i64.wrap (x.2.2.2+1))))))))) else none) else(some (.inl (x.2.1,x.2.2.1))))
def u8q:=lpW _ _ t25
theorem s8h x:u8q x=t25 u8q x:=zW s7p 107 Tryz.f107 3 99 x (by kernel_rfl)
def t0w(g:o5d→Option (o4u⊕Unit))(x:o5d):Option (o4u⊕Unit):=(bif (decide (x.2.2.2.2.2<(x.2.1.length:Int))) then(bif (y4q x.2.2.2.2.2 x.2.1.length) then(bif (y4q x.2.2.2.1 x.2.1.length) then(bif (z7o (rdL u0d x.2.1 (x.2.2.2.2.2).toNat).1 (rdL u0d x.2.1 (x.2.2.2.1).toNat).1) then(g (x.1,(x.2.1,(x.2.2.1,(x.2.2.2.1,((IntKind.i64.wrap (x.2.2.2.2.1+1)),(IntKind.i64.wrap (x.2.2.2.2.2+1)))))))) else(g (x.1,(x.2.1,(x.2.2.1,(x.2.2.2.1,(x.2.2.2.2.1,(IntKind.i64.wrap (x.2.2.2.2.2+1))))))))) else none) else none) else(some (.inl (x.1,(x.2.1,(x.2.2.1,(x.2.2.2.1,x.2.2.2.2.1)))))))
def u6v:=lpW _ _ t0w
theorem s49 x:u6v x=t0w u6v x:=zW s4e 107 Tryz.f107 14 99 x (by kernel_rfl)
def t0v(g:o5o→Option p58)(x:o5o):Option p58:=(bif (decide (x.2.2.2<(x.2.1.length:Int))) then((u6v (x.1,(x.2.1,(x.2.2.1,(x.2.2.2,(0,0)))))).bind fun r5=>match r5 with | .inl o6=>(((bif (y4q o6.2.2.2.1 o6.2.1.length) then(bif (!(rdL u0d o6.2.1 (o6.2.2.2.1).toNat).2.2.1) then(some true) else(bif (y4q o6.2.2.2.1 o6.2.1.length) then(bif (decide ((rdL u0d o6.2.1 (o6.2.2.2.1).toNat).2.2.2 >o6.1)) then(some true) else(some (decide (o6.2.2.2.2 >1)))) else none)) else none):Option Bool).bind fun j7=>(bif j7 then(bif (y4q o6.2.2.2.1 o6.2.1.length) then(bif (Nat.ble (o6.2.2.1.length+([(rdL u0d o6.2.1 (o6.2.2.2.1).toNat)] :List u0d.den).length) z7w) then(g (o6.1,(o6.2.1,((o6.2.2.1++([(rdL u0d o6.2.1 (o6.2.2.2.1).toNat)] :List u0d.den)),(IntKind.i64.wrap (o6.2.2.2.1+1)))))) else none) else none) else(g (o6.1,(o6.2.1,(o6.2.2.1,(IntKind.i64.wrap (o6.2.2.2.1+1)))))))) | .inr z8=>(some (.inr ()))) else(some (.inl x.2.2.1)))
def t1e:=lpW _ _ t0v
theorem s48 x:t1e x=t0v t1e x:=zW s4d 107 Tryz.f107 10 99 x (by kernel_rfl)
def r3z (x:o0d):Option s6c:=((u8q (x.1,(x.2,(([] :List u0d.den),0)))).bind fun r3=>match r3 with | .inl o4=>((t1e (o4.1,(o4.2,(([] :List u0d.den),0)))).bind fun r9=>match r9 with | .inl o10=>(some o10) | .inr z11=>none) | .inr z12=>none)
theorem q6b:s2r=r3z:=zC 107 rfl Tryz.func107 (by kernel_rfl)
def t8m(x:Z40):Option Z71:=zK 21 x
def t4p(g:Z11→Option (Z12⊕Unit))(x:Z11):Option (Z12⊕Unit):=(bif (decide (x.2.2.2.2<(x.1.2.1.length:Int))) then(bif (y4q x.2.2.2.2 x.1.2.1.length) then(bif (decide ((rdL u0a x.1.2.1 (x.2.2.2.2).toNat).2.2.2.1 >x.2.2.2.1)) then(bif (y4q x.2.2.2.2 x.1.2.1.length) then((u3e (rdL u0a x.1.2.1 (x.2.2.2.2).toNat)).bind fun y3=>(bif (Nat.ble (x.2.2.1.2.1.length+([y3] :List u0a.den).length) z7w) then(g (x.1,(x.2.1,((x.2.2.1.1,((x.2.2.1.2.1++([y3] :List u0a.den)),x.2.2.1.2.2)),(x.2.2.2.1,(IntKind.i64.wrap (x.2.2.2.2+1))))))) else none)) else none) else(g (x.1,(x.2.1,(x.2.2.1,(x.2.2.2.1,(IntKind.i64.wrap (x.2.2.2.2+1)))))))) else none) else(some (.inl (x.1,(x.2.1,(x.2.2.1,x.2.2.2.1))))))
def t4z:=lpW _ _ t4p
theorem r12 x:t4z x=t4p t4z x:=zW r03 21 Tryz.f21 5 47 x (by kernel_rfl)
def r6i (x:Z40):Option Z71:=((u3f x.1).bind fun y1=>((t99 x).bind fun y2=>((t4z (x.1,((([] :List u0d.den),(([] :List u0a.den),(([] :List u0a.den),(0,0)))),((y1.1,(([] :List u0a.den),y1.2.2)),(y2,0))))).bind fun r4=>match r4 with | .inl o5=>((s2r (o5.1.1,o5.2.2.2)).bind fun y6=>(some (y6,o5.2.2.1.2))) | .inr z7=>none)))
theorem q9f:t8m=r6i:=zC 21 rfl Tryz.func21 (by kernel_rfl)
def u03(x:o15):Option Bool:=zK 188 x
def r9y (x:o15):Option Bool:=(((bif (decide (x.1≥x.2.1)) then(some (decide (x.1≤x.2.2))) else(some false)):Option Bool).bind fun j1=>(some j1))
theorem p1c:u03=r9y:=zC 188 rfl Tryz.func188 (by kernel_rfl)
def u7i(x:ByteArray):Option Bool:=zK 191 x
def t6d(g:p2d→Option o4a)(x:p2d):Option o4a:=(bif (decide (x.2<(x.1.size:Int))) then(((bif (y4q x.2 x.1.size) then(bif (decide (((x.1.data.toList.getD (x.2).toNat 0).toNat:Int)<(97:Int))) then(some true) else(bif (y4q x.2 x.1.size) then(some (decide (((x.1.data.toList.getD (x.2).toNat 0).toNat:Int) >(122:Int)))) else none)) else none):Option Bool).bind fun j1=>(bif j1 then(some (.inr false)) else(g (x.1,(IntKind.i64.wrap (x.2+1)))))) else(some (.inl x.1)))
def t6j:=lpW _ _ t6d
theorem r4t x:t6j x=t6d t6j x:=zW r4h 191 Tryz.f191 2 23 x (by kernel_rfl)
def r9u (x:ByteArray):Option Bool:=((t6j (x,0)).bind fun r2=>match r2 with | .inl o3=>((u03 ((o3.size:Int),(1,3))).bind fun y4=>(some y4)) | .inr z5=>(some z5))
theorem p08:u7i=r9u:=zC 191 rfl Tryz.func191 (by kernel_rfl)
def s2s(x:p97):Option Bool:=zK 110 x
def r31 (x:p97):Option Bool:=((((u7i x.1).bind fun y1=>(bif y1 then(bif (decide ((x.2.1.size:Int)≤(12:Int))) then(bif (!x.2.2) then(some true) else(some (z7o x.2.1 (⟨#[]⟩:ByteArray)))) else(some false)) else(some false))):Option Bool).bind fun j2=>(some j2))
theorem q6d:s2s=r31:=zC 110 rfl Tryz.func110 (by kernel_rfl)
def s0d(x:q7v):Option Bool:=zK 243 x
def t0y(g:(q7v×Int)→Option (q7v⊕Bool))(x:(q7v×Int)):Option (q7v⊕Bool):=(bif (decide (x.2<(x.1.length:Int))) then(((bif (y4q x.2 x.1.length) then((s2s (rdL u2v x.1 (x.2).toNat)).bind fun y1=>(bif (!y1) then(some true) else(bif (decide (x.2 >0)) then(bif (y4q (IntKind.i64.wrap (x.2 - 1)) x.1.length) then(bif (y4q x.2 x.1.length) then(some (!y3c (rdL u2v x.1 ((IntKind.i64.wrap (x.2 - 1))).toNat).1 (rdL u2v x.1 (x.2).toNat).1)) else none) else none) else(some false)))) else none):Option Bool).bind fun j2=>(bif j2 then(some (.inr false)) else(g (x.1,(IntKind.i64.wrap (x.2+1)))))) else(some (.inl x.1)))
def t1f:=lpW _ _ t0y
theorem s5b x:t1f x=t0y t1f x:=zW s4g 243 Tryz.f243 2 37 x (by kernel_rfl)
def s98 (x:q7v):Option Bool:=((t1f (x,0)).bind fun r3=>match r3 with | .inl o4=>(some (decide ((o4.length:Int)≤(8:Int)))) | .inr z5=>(some z5))
theorem q3n:s0d=s98:=zC 243 rfl Tryz.func243 (by kernel_rfl)
def s2n(x:p2f):Option Bool:=zK 316 x
def r3r (x:p2f):Option Bool:=((((u7i x.1).bind fun y1=>(bif y1 then((u7i x.2).bind fun y2=>(bif y2 then(some (y3c x.1 x.2 || z7o x.1 x.2)) else(some false))) else(some false))):Option Bool).bind fun j3=>(some j3))
theorem q53:s2n=r3r:=zC 316 rfl Tryz.func316 (by kernel_rfl)
def u7j(x:Z84):Option Bool:=zK 189 x
def t6f(g:Z80→Option (Z84⊕Bool))(x:Z80):Option (Z84⊕Bool):=(bif (decide (x.2<(x.1.2.2.2.2.1.length:Int))) then(bif (y4q x.2 x.1.2.2.2.2.1.length) then((s2n (rdL r4y x.1.2.2.2.2.1 (x.2).toNat)).bind fun y6=>(bif (!y6) then(some (.inr false)) else(g (x.1,(IntKind.i64.wrap (x.2+1)))))) else none) else(some (.inl x.1)))
def t6l:=lpW _ _ t6f
theorem r4v x:t6l x=t6f t6l x:=zW r4j 189 Tryz.f189 4 95 x (by kernel_rfl)
def r9x (x:Z84):Option Bool:=((((u03 (x.1,(1,9999))).bind fun y1=>(bif (!y1) then(some true) else((u03 (x.2.1,(1,3))).bind fun y2=>(bif (!y2) then(some true) else((u03 (x.2.2.1,(0,9999))).bind fun y3=>(bif (!y3) then(some true) else(bif (decide ((x.2.2.2.2.1.length:Int) >(8:Int))) then(some true) else((s0d x.2.2.2.2.2.1).bind fun y4=>(some (!y4)))))))))):Option Bool).bind fun j5=>(bif j5 then(some false) else((t6l (x,0)).bind fun r7=>match r7 with | .inl o8=>(((bif (decide (o8.2.1=3)) then((u03 (o8.2.2.2.1,((IntKind.i64.wrap (o8.2.2.1+1)),9999))).bind fun y9=>(bif (!y9) then(some true) else(bif (!decide (o8.2.1=3)) then(some (!decide (o8.2.2.2.1=0))) else(some false)))) else(bif (!decide (o8.2.1=3)) then(some (!decide (o8.2.2.2.1=0))) else(some false))):Option Bool).bind fun j10=>(bif j10 then(some false) else(((bif (decide (o8.2.1=2)) then((u7i o8.2.2.2.2.2.2.2).bind fun y11=>(bif (!y11) then(some true) else(bif (!decide (o8.2.1=2)) then(some (!z7o o8.2.2.2.2.2.2.2 (⟨#[]⟩:ByteArray))) else(some false)))) else(bif (!decide (o8.2.1=2)) then(some (!z7o o8.2.2.2.2.2.2.2 (⟨#[]⟩:ByteArray))) else(some false))):Option Bool).bind fun j12=>(bif j12 then(some false) else(((bif (!decide (o8.2.1=1)) then(some true) else(some (!o8.2.2.2.2.2.2.1))):Option Bool).bind fun j13=>(some j13)))))) | .inr z14=>(some z14))))
theorem p1b:u7j=r9x:=zC 189 rfl Tryz.func189 (by kernel_rfl)
def t56(x:s6c):Option Bool:=zK 197 x
def u7s(g:o0d→Option (s6c⊕Bool))(x:o0d):Option (s6c⊕Bool):=(bif (decide (x.2<(x.1.length:Int))) then(bif (y4q x.2 x.1.length) then((((u7i (rdL u0d x.1 (x.2).toNat).1).bind fun y1=>(bif (!y1) then(some true) else(bif (decide (((rdL u0d x.1 (x.2).toNat).2.1.size:Int) >(12:Int))) then(some true) else(bif (rdL u0d x.1 (x.2).toNat).2.2.1 then(bif (!z7o (rdL u0d x.1 (x.2).toNat).2.1 (⟨#[]⟩:ByteArray)) then(some true) else((u03 ((rdL u0d x.1 (x.2).toNat).2.2.2,(1,9999))).bind fun y2=>(some (!y2)))) else((u03 ((rdL u0d x.1 (x.2).toNat).2.2.2,(1,9999))).bind fun y3=>(some (!y3))))))):Option Bool).bind fun j4=>(bif j4 then(some (.inr false)) else(((bif (decide (x.2 >0)) then(bif (y4q (IntKind.i64.wrap (x.2 - 1)) x.1.length) then(bif (!(y3c (rdL u0d x.1 ((IntKind.i64.wrap (x.2 - 1))).toNat).1 (rdL u0d x.1 (x.2).toNat).1 || z7o (rdL u0d x.1 ((IntKind.i64.wrap (x.2 - 1))).toNat).1 (rdL u0d x.1 (x.2).toNat).1)) then(some true) else(bif (y4q (IntKind.i64.wrap (x.2 - 1)) x.1.length) then(bif (z7o (rdL u0d x.1 ((IntKind.i64.wrap (x.2 - 1))).toNat).1 (rdL u0d x.1 (x.2).toNat).1) then(bif (y4q (IntKind.i64.wrap (x.2 - 1)) x.1.length) then(some (decide ((rdL u0d x.1 ((IntKind.i64.wrap (x.2 - 1))).toNat).2.2.2≥(rdL u0d x.1 (x.2).toNat).2.2.2))) else none) else(some false)) else none)) else none) else(some false)):Option Bool).bind fun j5=>(bif j5 then(some (.inr false)) else(g (x.1,(IntKind.i64.wrap (x.2+1)))))))) else none) else(some (.inl x.1)))
def u7z:=lpW _ _ u7s
theorem s0o x:u7z x=u7s u7z x:=zW t9g 197 Tryz.f197 2 78 x (by kernel_rfl)
def s3j (x:s6c):Option Bool:=((u7z (x,0)).bind fun r6=>match r6 with | .inl o7=>(some (decide ((o7.length:Int)≤(120:Int)))) | .inr z8=>(some z8))
theorem r8l:t56=s3j:=zC 197 rfl Tryz.func197 (by kernel_rfl)
def u57(x:Z71):Option Bool:=zK 69 x
def t4l(g:Z65→Option p99)(x:Z65):Option p99:=(bif (decide (x.2<(x.1.1.length:Int))) then(bif (y4q x.2 x.1.1.length) then(bif (decide ((rdL u0d x.1.1 (x.2).toNat).2.2.2 >x.1.2.2.2.1)) then(some (.inr false)) else(g (x.1,(IntKind.i64.wrap (x.2+1))))) else none) else(some (.inl x.1)))
def u93:=lpW _ _ t4l
theorem r1w x:u93 x=t4l u93 x:=zW r0z 69 Tryz.f69 4 179 x (by kernel_rfl)
def t2u(g:Z51→Option (Z60⊕Bool))(x:Z51):Option (Z60⊕Bool):=(bif (decide (x.2.2<(x.1.2.1.length:Int))) then(bif (y4q x.2.2 x.1.2.1.length) then((((u7j (rdL u0a x.1.2.1 (x.2.2).toNat)).bind fun y7=>(bif (!y7) then(some true) else(bif (!decide ((rdL u0a x.1.2.1 (x.2.2).toNat).2.1=3)) then(some true) else(bif (decide ((rdL u0a x.1.2.1 (x.2.2).toNat).2.2.2.1 >x.1.2.2.2.1)) then(some true) else(bif (decide (x.2.2 >0)) then(bif (y4q (IntKind.i64.wrap (x.2.2 - 1)) x.1.2.1.length) then(some (decide ((rdL u0a x.1.2.1 ((IntKind.i64.wrap (x.2.2 - 1))).toNat).2.2.2.1≥(rdL u0a x.1.2.1 (x.2.2).toNat).2.2.2.1))) else none) else(some false)))))):Option Bool).bind fun j8=>(bif j8 then(some (.inr false)) else(bif (Nat.ble (x.2.1.length+([(rdL u0a x.1.2.1 (x.2.2).toNat).1] :List Int).length) z7w) then(g (x.1,((x.2.1++([(rdL u0a x.1.2.1 (x.2.2).toNat).1] :List Int)),(IntKind.i64.wrap (x.2.2+1))))) else none))) else none) else(some (.inl (x.1,x.2.1))))
def u5q:=lpW _ _ t2u
theorem s75 x:u5q x=t2u u5q x:=zW s7c 69 Tryz.f69 10 179 x (by kernel_rfl)
def t2v(g:Z51→Option (Z60⊕Bool))(x:Z51):Option (Z60⊕Bool):=(bif (decide (x.2.2<(x.1.2.2.1.length:Int))) then(bif (y4q x.2.2 x.1.2.2.1.length) then((((u7j (rdL u0a x.1.2.2.1 (x.2.2).toNat)).bind fun y11=>(bif (!y11) then(some true) else(bif (!decide ((rdL u0a x.1.2.2.1 (x.2.2).toNat).2.1=2)) then(some true) else(bif (decide ((rdL u0a x.1.2.2.1 (x.2.2).toNat).2.2.1 >x.1.2.2.2.1)) then(some true) else(bif (decide (x.2.2 >0)) then(bif (y4q (IntKind.i64.wrap (x.2.2 - 1)) x.1.2.2.1.length) then(some (!y3c (rdL u0a x.1.2.2.1 ((IntKind.i64.wrap (x.2.2 - 1))).toNat).2.2.2.2.2.2.2 (rdL u0a x.1.2.2.1 (x.2.2).toNat).2.2.2.2.2.2.2)) else none) else(some false)))))):Option Bool).bind fun j12=>(bif j12 then(some (.inr false)) else(bif (Nat.ble (x.2.1.length+([(rdL u0a x.1.2.2.1 (x.2.2).toNat).1] :List Int).length) z7w) then(g (x.1,((x.2.1++([(rdL u0a x.1.2.2.1 (x.2.2).toNat).1] :List Int)),(IntKind.i64.wrap (x.2.2+1))))) else none))) else none) else(some (.inl (x.1,x.2.1))))
def u8k:=lpW _ _ t2v
theorem s76 x:u8k x=t2v u8k x:=zW s7d 69 Tryz.f69 17 179 x (by kernel_rfl)
def t2x(g:Z47→Option (Z51⊕Bool))(x:Z47):Option (Z51⊕Bool):=(bif (decide (x.2.2.2<x.2.2.1)) then(bif (y4q x.2.2.2 x.2.1.length) then(bif (y4q x.2.2.1 x.2.1.length) then(bif (decide ((rdL (Ty.int .i64) x.2.1 (x.2.2.2).toNat)=(rdL (Ty.int .i64) x.2.1 (x.2.2.1).toNat))) then(some (.inr false)) else(g (x.1,(x.2.1,(x.2.2.1,(IntKind.i64.wrap (x.2.2.2+1))))))) else none) else none) else(some (.inl (x.1,(x.2.1,x.2.2.1)))))
def u8l:=lpW _ _ t2x
theorem s78 x:u8l x=t2x u8l x:=zW s7f 69 Tryz.f69 27 179 x (by kernel_rfl)
def t2w(g:Z51→Option s8n)(x:Z51):Option s8n:=(bif (decide (x.2.2<(x.2.1.length:Int))) then((u8l (x.1,(x.2.1,(x.2.2,0)))).bind fun r15=>match r15 with | .inl o16=>(bif (y4q o16.2.2 o16.2.1.length) then(bif (decide ((rdL (Ty.int .i64) o16.2.1 (o16.2.2).toNat)≥o16.1.2.2.2.2)) then(some (.inr false)) else(g (o16.1,(o16.2.1,(IntKind.i64.wrap (o16.2.2+1)))))) else none) | .inr z17=>(some (.inr z17))) else(some (.inl ())))
def u5r:=lpW _ _ t2w
theorem s77 x:u5r x=t2w u5r x:=zW s7e 69 Tryz.f69 24 179 x (by kernel_rfl)
def r6b (x:Z71):Option Bool:=((((t56 x.1).bind fun y1=>(bif (!y1) then(some true) else(bif (decide ((x.2.1.length:Int) >(12:Int))) then(some true) else(bif (decide ((x.2.2.1.length:Int) >(3:Int))) then(some true) else((u03 (x.2.2.2.1,(0,9999))).bind fun y2=>(bif (!y2) then(some true) else((u03 (x.2.2.2.2,(1,9999))).bind fun y3=>(some (!y3))))))))):Option Bool).bind fun j4=>(bif j4 then(some false) else((u93 (x,0)).bind fun r5=>match r5 with | .inl o6=>((u5q (o6,(([] :List Int),0))).bind fun r9=>match r9 with | .inl o10=>((u8k (o10.1,(o10.2,0))).bind fun r13=>match r13 with | .inl o14=>((u5r (o14.1,(o14.2,0))).bind fun r18=>match r18 with | .inl o19=>(some true) | .inr z20=>(some z20)) | .inr z21=>(some z21)) | .inr z22=>(some z22)) | .inr z23=>(some z23))))
theorem q88:u57=r6b:=zC 69 rfl Tryz.func69 (by kernel_rfl)
def u1u(x:Int):Option ByteArray:=zK 313 x
def s83(g:o0a→Option (o0a⊕Unit))(x:o0a):Option (o0a⊕Unit):=(bif (decide (x.1 >127)) then(bif (Nat.ble (x.2.length+([(IntKind.u8.wrap (IntKind.i64.wrap ((Int.tmod x.1 (128:Int))+128)))] :List Int).length) z7w) then(g ((IntKind.i64.wrap (Int.tdiv x.1 (128:Int))),(x.2++([(IntKind.u8.wrap (IntKind.i64.wrap ((Int.tmod x.1 (128:Int))+128)))] :List Int)))) else none) else(some (.inl x)))
def t40:=lpW _ _ s83
theorem q4u x:t40 x=s83 t40 x:=zW r04 313 Tryz.f313 2 22 x (by kernel_rfl)
def r6j (x:Int):Option ByteArray:=((t40 (x,([] :List Int))).bind fun r1=>match r1 with | .inl o2=>(bif (Nat.ble (o2.2.length+([(IntKind.u8.wrap o2.1)] :List Int).length) z7w) then(some (y7g (o2.2++([(IntKind.u8.wrap o2.1)] :List Int)))) else none) | .inr z3=>none)
theorem q9g:u1u=r6j:=zC 313 rfl Tryz.func313 (by kernel_rfl)
def t64(x:p2d):Option o0c:=zK 315 x
def t21(g:o57→Option (Unit⊕o0c))(x:o57):Option (Unit⊕o0c):=(((bif (decide (x.2.2.2.2<(x.1.size:Int))) then(some (decide (x.2.2.2.2<(IntKind.i64.wrap (x.2.1+5))))) else(some false)):Option Bool).bind fun j2=>(bif j2 then(bif (y4q x.2.2.2.2 x.1.size) then(bif (y4q x.2.2.2.2 x.1.size) then(bif (decide (((x.1.data.toList.getD (x.2.2.2.2).toNat 0).toNat:Int)<(128:Int))) then(((bif (decide ((IntKind.i64.wrap (x.2.2.1+(IntKind.i64.wrap ((Int.tmod (IntKind.i64.wrap ((x.1.data.toList.getD (x.2.2.2.2).toNat 0).toNat:Int)) (128:Int))*x.2.2.2.1)))) >1000000000)) then(some true) else((u1u (IntKind.i64.wrap (x.2.2.1+(IntKind.i64.wrap ((Int.tmod (IntKind.i64.wrap ((x.1.data.toList.getD (x.2.2.2.2).toNat 0).toNat:Int)) (128:Int))*x.2.2.2.1))))).bind fun y3=>(bif (decide (0≤x.2.1)&&decide (x.2.1≤(IntKind.i64.wrap (x.2.2.2.2+1)))&&decide ((IntKind.i64.wrap (x.2.2.2.2+1))≤(x.1.size:Int))) then(some (!z7o y3 (x.1.extract (x.2.1).toNat ((IntKind.i64.wrap (x.2.2.2.2+1))).toNat))) else none))):Option Bool).bind fun j4=>(bif j4 then(some (.inr (0,(0,false)))) else(some (.inr ((IntKind.i64.wrap (x.2.2.1+(IntKind.i64.wrap ((Int.tmod (IntKind.i64.wrap ((x.1.data.toList.getD (x.2.2.2.2).toNat 0).toNat:Int)) (128:Int))*x.2.2.2.1)))),((IntKind.i64.wrap (x.2.2.2.2+1)),true)))))) else(g (x.1,(x.2.1,((IntKind.i64.wrap (x.2.2.1+(IntKind.i64.wrap ((Int.tmod (IntKind.i64.wrap ((x.1.data.toList.getD (x.2.2.2.2).toNat 0).toNat:Int)) (128:Int))*x.2.2.2.1)))),((IntKind.i64.wrap (x.2.2.2.1*128)),(IntKind.i64.wrap (x.2.2.2.2+1)))))))) else none) else none) else(some (.inl ()))))
def t3g:=lpW _ _ t21
theorem s8c x:t3g x=t21 t3g x:=zW s7j 315 Tryz.f315 6 58 x (by kernel_rfl)
def r3t (x:p2d):Option o0c:=((u03 (x.2,(0,(x.1.size:Int)))).bind fun y1=>(bif (!y1) then(some (0,(0,false))) else((t3g (x.1,(x.2,(0,(1,x.2))))).bind fun r5=>match r5 with | .inl o6=>(some (0,(0,false))) | .inr z7=>(some z7))))
theorem q55:t64=r3t:=zC 315 rfl Tryz.func315 (by kernel_rfl)
def t3w(x:p2d):Option r5f:=zK 310 x
def s6y (x:p2d):Option r5f:=((t64 x).bind fun y1=>(((bif (!y1.2.2) then(some true) else(bif (decide (y1.1 >20000)) then(some true) else(some (decide (y1.1 >(IntKind.i64.wrap ((x.1.size:Int) - y1.2.1))))))):Option Bool).bind fun j2=>(bif j2 then(some ((⟨#[]⟩:ByteArray),(0,false))) else(bif (decide (0≤y1.2.1)&&decide (y1.2.1≤(IntKind.i64.wrap (y1.2.1+y1.1)))&&decide ((IntKind.i64.wrap (y1.2.1+y1.1))≤(x.1.size:Int))) then(some ((x.1.extract (y1.2.1).toNat ((IntKind.i64.wrap (y1.2.1+y1.1))).toNat),((IntKind.i64.wrap (y1.2.1+y1.1)),true))) else none))))
theorem q1d:t3w=s6y:=zC 310 rfl Tryz.func310 (by kernel_rfl)
def u1q(x:r5f):Option o3y:=zK 180 x
def t83 (x:r5f):Option o3y:=((t3w (x.1,x.2.1)).bind fun y1=>(((bif x.2.2 then(some true) else(some (!y1.2.2))):Option Bool).bind fun j2=>(bif j2 then(some ((⟨#[]⟩:ByteArray),(x.1,(x.2.1,true)))) else(some (y1.1,(x.1,(y1.2.1,x.2.2)))))))
theorem r43:u1q=t83:=zC 180 rfl Tryz.func180 (by kernel_rfl)
def u5f(x:r5f):Option (Bool×r5f):=zK 181 x
def s3k (x:r5f):Option (Bool×r5f):=(((bif x.2.2 then(some true) else(bif (decide (x.2.1≥(x.1.size:Int))) then(some true) else(bif (y4q x.2.1 x.1.size) then(some (decide (((x.1.data.toList.getD (x.2.1).toNat 0).toNat:Int) >(1:Int)))) else none))):Option Bool).bind fun j1=>(bif j1 then(some (false,(x.1,(x.2.1,true)))) else(bif (y4q (IntKind.i64.wrap ((IntKind.i64.wrap (x.2.1+1)) - 1)) x.1.size) then(some ((decide (((x.1.data.toList.getD ((IntKind.i64.wrap ((IntKind.i64.wrap (x.2.1+1)) - 1))).toNat 0).toNat:Int)=(1:Int))),(x.1,((IntKind.i64.wrap (x.2.1+1)),x.2.2)))) else none)))
theorem r8n:u5f=s3k:=zC 181 rfl Tryz.func181 (by kernel_rfl)
def u2f(x:r5f):Option (Int×r5f):=zK 186 x
def r6m (x:r5f):Option (Int×r5f):=((t64 (x.1,x.2.1)).bind fun y1=>(((bif x.2.2 then(some true) else(some (!y1.2.2))):Option Bool).bind fun j2=>(bif j2 then(some (0,(x.1,(x.2.1,true)))) else(some (y1.1,(x.1,(y1.2.1,x.2.2)))))))
theorem q9j:u2f=r6m:=zC 186 rfl Tryz.func186 (by kernel_rfl)
def t63(x:p2d):Option Z76:=zK 182 x
def t20(g:Z24→Option (Z27⊕Unit))(x:Z24):Option (Z27⊕Unit):=(((bif (decide (x.2.2.2.2<x.2.2.2.1)) then(bif (decide (x.2.2.2.2<10)) then(some (!x.2.1.2.2)) else(some false)) else(some false)):Option Bool).bind fun j6=>(bif j6 then((u1q x.2.1).bind fun y7=>((u1q y7.2).bind fun y8=>(bif (Nat.ble (x.2.2.1.2.2.2.2.1.length+([(y7.1,y8.1)] :List r4y.den).length) z7w) then(g (x.1,(y8.2,((x.2.2.1.1,(x.2.2.1.2.1,(x.2.2.1.2.2.1,(x.2.2.1.2.2.2.1,((x.2.2.1.2.2.2.2.1++([(y7.1,y8.1)] :List r4y.den)),x.2.2.1.2.2.2.2.2))))),(x.2.2.2.1,(IntKind.i64.wrap (x.2.2.2.2+1))))))) else none))) else(some (.inl (x.1,(x.2.1,x.2.2.1))))))
def u8n:=lpW _ _ t20
theorem s8b x:u8n x=t20 u8n x:=zW s7i 182 Tryz.f182 8 115 x (by kernel_rfl)
def t0s(g:Z24→Option (Z27⊕Unit))(x:Z24):Option (Z27⊕Unit):=(((bif (decide (x.2.2.2.2<x.2.2.2.1)) then(bif (decide (x.2.2.2.2<10)) then(some (!x.2.1.2.2)) else(some false)) else(some false)):Option Bool).bind fun j12=>(bif j12 then((u1q x.2.1).bind fun y13=>((u1q y13.2).bind fun y14=>((u5f y14.2).bind fun y15=>(bif (Nat.ble (x.2.2.1.2.2.2.2.2.1.length+([(y13.1,(y14.1,y15.1))] :List u2v.den).length) z7w) then(g (x.1,(y15.2,((x.2.2.1.1,(x.2.2.1.2.1,(x.2.2.1.2.2.1,(x.2.2.1.2.2.2.1,(x.2.2.1.2.2.2.2.1,((x.2.2.1.2.2.2.2.2.1++([(y13.1,(y14.1,y15.1))] :List u2v.den)),x.2.2.1.2.2.2.2.2.2)))))),(x.2.2.2.1,(IntKind.i64.wrap (x.2.2.2.2+1))))))) else none)))) else(some (.inl (x.1,(x.2.1,x.2.2.1))))))
def u6u:=lpW _ _ t0s
theorem s45 x:u6u x=t0s u6u x:=zW s4a 182 Tryz.f182 15 115 x (by kernel_rfl)
def r3s (x:p2d):Option Z76:=((u2f (x.1,(x.2,false))).bind fun y1=>((u2f y1.2).bind fun y2=>((u2f y2.2).bind fun y3=>((u2f y3.2).bind fun y4=>((u2f y4.2).bind fun y5=>((u8n ((0,(0,(0,(0,(([] :List r4y.den),(([] :List u2v.den),(false,(⟨#[]⟩:ByteArray)))))))),(y5.2,((y1.1,(y2.1,(y3.1,(y4.1,(([] :List r4y.den),(([] :List u2v.den),(false,(⟨#[]⟩:ByteArray)))))))),(y5.1,0))))).bind fun r9=>match r9 with | .inl o10=>((u2f o10.2.1).bind fun y11=>((u6u (o10.1,(y11.2,(o10.2.2,(y11.1,0))))).bind fun r16=>match r16 with | .inl o17=>((u5f o17.2.1).bind fun y18=>((u1q y18.2).bind fun y19=>(((bif y19.2.2.2 then(some true) else((u7j (o17.2.2.1,(o17.2.2.2.1,(o17.2.2.2.2.1,(o17.2.2.2.2.2.1,(o17.2.2.2.2.2.2.1,(o17.2.2.2.2.2.2.2.1,(y18.1,y19.1)))))))).bind fun y20=>(some (!y20)))):Option Bool).bind fun j21=>(bif j21 then(some ((0,(0,(0,(0,(([] :List r4y.den),(([] :List u2v.den),(false,(⟨#[]⟩:ByteArray)))))))),(0,false))) else(some ((o17.2.2.1,(o17.2.2.2.1,(o17.2.2.2.2.1,(o17.2.2.2.2.2.1,(o17.2.2.2.2.2.2.1,(o17.2.2.2.2.2.2.2.1,(y18.1,y19.1))))))),(y19.2.2.1,true))))))) | .inr z22=>none)) | .inr z23=>none))))))
theorem q54:t63=r3s:=zC 182 rfl Tryz.func182 (by kernel_rfl)
def u9u(x:(r5f×Int)):Option o5j:=zK 187 x
def u3q(g:Z89→Option (o3l⊕o3l))(x:Z89):Option (o3l⊕o3l):=(((bif (decide (x.2.2.2.2<x.2.2.2.1)) then(bif (decide (x.2.2.2.2≤x.2.1)) then(some (!x.1.2.2)) else(some false)) else(some false)):Option Bool).bind fun j2=>(bif j2 then((t63 (x.1.1,x.1.2.1)).bind fun y3=>(bif (!y3.2.2) then(some (.inr ((x.1.1,(x.1.2.1,true)),x.2.2.1))) else(bif (Nat.ble (x.2.2.1.length+([y3.1] :List u0a.den).length) z7w) then(g ((x.1.1,(y3.2.1,x.1.2.2)),(x.2.1,((x.2.2.1++([y3.1] :List u0a.den)),(x.2.2.2.1,(IntKind.i64.wrap (x.2.2.2.2+1))))))) else none))) else(some (.inl (x.1,x.2.2.1)))))
def u40:=lpW _ _ u3q
theorem u6l x:u40 x=u3q u40 x:=zW t77 187 Tryz.f187 4 59 x (by kernel_rfl)
def s01 (x:(r5f×Int)):Option o5j:=((u2f x.1).bind fun y1=>((u40 (y1.2,(x.2,(([] :List u0a.den),(y1.1,0))))).bind fun r4=>match r4 with | .inl o5=>(some (o5.2,o5.1)) | .inr z6=>(some (z6.2,z6.1))))
theorem r65:u9u=s01:=zC 187 rfl Tryz.func187 (by kernel_rfl)
def s0a(x:p2d):Option Z56:=zK 65 x
def t0r(g:Z16→Option (Z19⊕Unit))(x:Z16):Option (Z19⊕Unit):=(((bif (decide (x.2.2.2.2<x.2.2.2.1)) then(bif (decide (x.2.2.2.2<130)) then(some (!x.2.1.2.2)) else(some false)) else(some false)):Option Bool).bind fun j4=>(bif j4 then((u1q x.2.1).bind fun y5=>((u1q y5.2).bind fun y6=>((u5f y6.2).bind fun y7=>((u2f y7.2).bind fun y8=>(bif (Nat.ble (x.2.2.1.1.length+([(y5.1,(y6.1,(y7.1,y8.1)))] :List u0d.den).length) z7w) then(g (x.1,(y8.2,(((x.2.2.1.1++([(y5.1,(y6.1,(y7.1,y8.1)))] :List u0d.den)),x.2.2.1.2),(x.2.2.2.1,(IntKind.i64.wrap (x.2.2.2.2+1))))))) else none))))) else(some (.inl (x.1,(x.2.1,x.2.2.1))))))
def u6t:=lpW _ _ t0r
theorem s44 x:u6t x=t0r u6t x:=zW s39 65 Tryz.f65 6 79 x (by kernel_rfl)
def s93 (x:p2d):Option Z56:=((u2f (x.1,(x.2,false))).bind fun y1=>((u2f y1.2).bind fun y2=>((u2f y2.2).bind fun y3=>((u6t ((([] :List u0d.den),(([] :List u0a.den),(([] :List u0a.den),(0,0)))),(y3.2,((([] :List u0d.den),(([] :List u0a.den),(([] :List u0a.den),(y1.1,y2.1)))),(y3.1,0))))).bind fun r9=>match r9 with | .inl o10=>((u9u (o10.2.1,12)).bind fun y11=>((u9u (y11.2,3)).bind fun y12=>(((bif y12.2.2.2 then(some true) else((u57 (o10.2.2.1,(y11.1,(y12.1,o10.2.2.2.2.2)))).bind fun y13=>(some (!y13)))):Option Bool).bind fun j14=>(bif j14 then(some ((([] :List u0d.den),(([] :List u0a.den),(([] :List u0a.den),(0,0)))),(0,false))) else(some ((o10.2.2.1,(y11.1,(y12.1,o10.2.2.2.2.2))),(y12.2.2.1,true))))))) | .inr z15=>none))))
theorem q3j:s0a=s93:=zC 65 rfl Tryz.func65 (by kernel_rfl)
def t5j(x:Z84):Option Bool:=zK 190 x
def r0b (x:Z84):Option Bool:=(((bif (decide (x.1=0)) then(bif (decide (x.2.1=0)) then(bif (decide (x.2.2.1=0)) then(bif (decide (x.2.2.2.1=0)) then(bif (decide ((x.2.2.2.2.1.length:Int)=(0:Int))) then(bif (decide ((x.2.2.2.2.2.1.length:Int)=(0:Int))) then(bif (!x.2.2.2.2.2.2.1) then(some (z7o x.2.2.2.2.2.2.2 (⟨#[]⟩:ByteArray))) else(some false)) else(some false)) else(some false)) else(some false)) else(some false)) else(some false)) else(some false)):Option Bool).bind fun j1=>(some j1))
theorem q3q:t5j=r0b:=zC 190 rfl Tryz.func190 (by kernel_rfl)
def t7y(x:Z71):Option Bool:=zK 192 x
def s6z (x:Z71):Option Bool:=(((bif (decide (x.2.2.2.1=0)) then(bif (decide (x.2.2.2.2=0)) then(bif (decide ((x.1.length:Int)=(0:Int))) then(bif (decide ((x.2.1.length:Int)=(0:Int))) then(some (decide ((x.2.2.1.length:Int)=(0:Int)))) else(some false)) else(some false)) else(some false)) else(some false)):Option Bool).bind fun j1=>(some j1))
theorem q1e:t7y=s6z:=zC 192 rfl Tryz.func192 (by kernel_rfl)
def t5h(x:Z23):Option Bool:=zK 66 x
def s94 (x:Z23):Option Bool:=((u03 (x.1,(1,4))).bind fun y1=>(bif (!y1) then(some false) else(((bif (decide (x.1=1)) then(some true) else(some (decide (x.1=2)))):Option Bool).bind fun j2=>(((bif j2 then((u7j x.2.1).bind fun y3=>(bif (!y3) then(some true) else(bif (!j2) then((t5j x.2.1).bind fun y4=>(bif (!y4) then(some true) else(bif (decide (x.1=1)) then(bif (!decide (x.2.1.2.1=3)) then(some true) else(bif (decide (x.1=2)) then(some (!decide (x.2.1.2.1=2))) else(some false))) else(bif (decide (x.1=2)) then(some (!decide (x.2.1.2.1=2))) else(some false))))) else(bif (decide (x.1=1)) then(bif (!decide (x.2.1.2.1=3)) then(some true) else(bif (decide (x.1=2)) then(some (!decide (x.2.1.2.1=2))) else(some false))) else(bif (decide (x.1=2)) then(some (!decide (x.2.1.2.1=2))) else(some false)))))) else(bif (!j2) then((t5j x.2.1).bind fun y5=>(bif (!y5) then(some true) else(bif (decide (x.1=1)) then(bif (!decide (x.2.1.2.1=3)) then(some true) else(bif (decide (x.1=2)) then(some (!decide (x.2.1.2.1=2))) else(some false))) else(bif (decide (x.1=2)) then(some (!decide (x.2.1.2.1=2))) else(some false))))) else(bif (decide (x.1=1)) then(bif (!decide (x.2.1.2.1=3)) then(some true) else(bif (decide (x.1=2)) then(some (!decide (x.2.1.2.1=2))) else(some false))) else(bif (decide (x.1=2)) then(some (!decide (x.2.1.2.1=2))) else(some false))))):Option Bool).bind fun j6=>(bif j6 then(some false) else(((bif (decide (x.1=3)) then((u7i x.2.2.1).bind fun y7=>(bif (!y7) then(some true) else(bif (!decide (x.1=3)) then(bif (!z7o x.2.2.1 (⟨#[]⟩:ByteArray)) then(some true) else(some x.2.2.2.1)) else(some false)))) else(bif (!decide (x.1=3)) then(bif (!z7o x.2.2.1 (⟨#[]⟩:ByteArray)) then(some true) else(some x.2.2.2.1)) else(some false))):Option Bool).bind fun j8=>(bif j8 then(some false) else(bif (decide (x.1=4)) then((u57 x.2.2.2.2).bind fun y9=>(some y9)) else((t7y x.2.2.2.2).bind fun y10=>(some y10))))))))))
theorem q3k:t5h=s94:=zC 66 rfl Tryz.func66 (by kernel_rfl)
def t66(x:Int):Option ByteArray:=zK 307 x
def r32 (x:Int):Option ByteArray:=(some (y7g ([(IntKind.u8.wrap (Int.fdiv x (2^(min ((24:Int)).toNat (IntKind.u32).bits)))),(IntKind.u8.wrap (Int.fdiv x (2^(min ((16:Int)).toNat (IntKind.u32).bits)))),(IntKind.u8.wrap (Int.fdiv x (2^(min ((8:Int)).toNat (IntKind.u32).bits)))),(IntKind.u8.wrap x)] :List Int)))
theorem r4c:t66=r32:=zC 307 rfl Tryz.func307 (by kernel_rfl)
def s2p(x:p77):Option Int:=zK 392 x
def s6f(g:o38→Option (o0b⊕Unit))(x:o38):Option (o0b⊕Unit):=(bif (decide (x.2.2.2<8)) then(bif (decide ((Int.tmod x.1 (2:Int))=1)) then(g ((IntKind.u32.wrap ((BitVec.ofInt (IntKind.u32).bits (IntKind.u32.wrap (Int.tdiv x.1 (2:Int)))^^^BitVec.ofInt (IntKind.u32).bits (3558460437:Int)).toNat:Int)),(x.2.1,(x.2.2.1,(IntKind.i64.wrap (x.2.2.2+1)))))) else(g ((IntKind.u32.wrap (Int.tdiv x.1 (2:Int))),(x.2.1,(x.2.2.1,(IntKind.i64.wrap (x.2.2.2+1))))))) else(some (.inl (x.1,(x.2.1,x.2.2.1)))))
def t3i:=lpW _ _ s6f
theorem q1j x:t3i x=s6f t3i x:=zW s7m 392 Tryz.f392 6 33 x (by kernel_rfl)
def t22(g:o0b→Option p4v)(x:o0b):Option p4v:=(bif (decide (x.2.2<(x.2.1.size:Int))) then(bif (y4q x.2.2 x.2.1.size) then((t3i ((IntKind.u32.wrap ((BitVec.ofInt (IntKind.u32).bits x.1^^^BitVec.ofInt (IntKind.u32).bits (IntKind.u32.wrap ((x.2.1.data.toList.getD (x.2.2).toNat 0).toNat:Int))).toNat:Int)),(x.2.1,(x.2.2,0)))).bind fun r1=>match r1 with | .inl o2=>(g (o2.1,(o2.2.1,(IntKind.i64.wrap (o2.2.2+1))))) | .inr z3=>(some (.inr ()))) else none) else(some (.inl x.1)))
def t3h:=lpW _ _ t22
theorem s8e x:t3h x=t22 t3h x:=zW s7l 392 Tryz.f392 2 33 x (by kernel_rfl)
def r3w (x:p77):Option Int:=((t3h (x.1,(x.2,0))).bind fun r4=>match r4 with | .inl o5=>(some o5) | .inr z6=>none)
theorem q58:s2p=r3w:=zC 392 rfl Tryz.func392 (by kernel_rfl)
def s1t(x:ByteArray):Option Int:=zK 308 x
def s96 (x:ByteArray):Option Int:=((s2p (4294967295,x)).bind fun y1=>(some y1))
theorem r96:s1t=s96:=zC 308 rfl Tryz.func308 (by kernel_rfl)
def t5i(x:ByteArray):Option s2v:=zK 178 x
def r6g (x:ByteArray):Option s2v:=(bif (decide ((x.size:Int) >(20000:Int))) then(some ((⟨#[]⟩:ByteArray),false)) else((s1t x).bind fun y1=>((t66 y1).bind fun y2=>(bif (decide (x.size+y2.size≤140737488355328)) then(some ((x++y2),true)) else none))))
theorem q9d:t5i=r6g:=zC 178 rfl Tryz.func178 (by kernel_rfl)
def u2t(x:ByteArray):Option ByteArray:=zK 304 x
def r0a (x:ByteArray):Option ByteArray:=((u1u (x.size:Int)).bind fun y1=>(bif (decide (y1.size+x.size≤140737488355328)) then(some (y1++x)) else none))
theorem q3p:u2t=r0a:=zC 304 rfl Tryz.func304 (by kernel_rfl)
def t1n(x:Bool):Option ByteArray:=zK 305 x
def r6l (x:Bool):Option ByteArray:=(bif x then(some (⟨#[1]⟩:ByteArray)) else(some (⟨#[0]⟩:ByteArray)))
theorem q9i:t1n=r6l:=zC 305 rfl Tryz.func305 (by kernel_rfl)
def u85(x:Z84):Option s2v:=zK 306 x
def t26(g:Z72→Option (Z78⊕Unit))(x:Z72):Option (Z78⊕Unit):=(bif (decide (x.2.2<(x.1.2.2.2.2.1.length:Int))) then(bif (y4q x.2.2 x.1.2.2.2.2.1.length) then((u2t (rdL r4y x.1.2.2.2.2.1 (x.2.2).toNat).1).bind fun y7=>(bif (decide (x.2.1.size+y7.size≤140737488355328)) then(bif (y4q x.2.2 x.1.2.2.2.2.1.length) then((u2t (rdL r4y x.1.2.2.2.2.1 (x.2.2).toNat).2).bind fun y8=>(bif (decide ((x.2.1++y7).size+y8.size≤140737488355328)) then(g (x.1,(((x.2.1++y7)++y8),(IntKind.i64.wrap (x.2.2+1))))) else none)) else none) else none)) else none) else(some (.inl (x.1,x.2.1))))
def u8r:=lpW _ _ t26
theorem s8i x:u8r x=t26 u8r x:=zW s7q 306 Tryz.f306 5 101 x (by kernel_rfl)
def t0x(g:Z72→Option (Z78⊕Unit))(x:Z72):Option (Z78⊕Unit):=(bif (decide (x.2.2<(x.1.2.2.2.2.2.1.length:Int))) then(bif (y4q x.2.2 x.1.2.2.2.2.2.1.length) then((u2t (rdL u2v x.1.2.2.2.2.2.1 (x.2.2).toNat).1).bind fun y12=>(bif (decide (x.2.1.size+y12.size≤140737488355328)) then(bif (y4q x.2.2 x.1.2.2.2.2.2.1.length) then((u2t (rdL u2v x.1.2.2.2.2.2.1 (x.2.2).toNat).2.1).bind fun y13=>(bif (decide ((x.2.1++y12).size+y13.size≤140737488355328)) then(bif (y4q x.2.2 x.1.2.2.2.2.2.1.length) then((t1n (rdL u2v x.1.2.2.2.2.2.1 (x.2.2).toNat).2.2).bind fun y14=>(bif (decide (((x.2.1++y12)++y13).size+y14.size≤140737488355328)) then(g (x.1,((((x.2.1++y12)++y13)++y14),(IntKind.i64.wrap (x.2.2+1))))) else none)) else none) else none)) else none) else none)) else none) else(some (.inl (x.1,x.2.1))))
def u6w:=lpW _ _ t0x
theorem s5a x:u6w x=t0x u6w x:=zW s4f 306 Tryz.f306 10 101 x (by kernel_rfl)
def r30 (x:Z84):Option s2v:=((u7j x).bind fun y1=>(bif (!y1) then(some ((⟨#[]⟩:ByteArray),false)) else((u1u x.1).bind fun y2=>((u1u x.2.1).bind fun y3=>(bif (decide (y2.size+y3.size≤140737488355328)) then((u1u x.2.2.1).bind fun y4=>(bif (decide ((y2++y3).size+y4.size≤140737488355328)) then((u1u x.2.2.2.1).bind fun y5=>(bif (decide (((y2++y3)++y4).size+y5.size≤140737488355328)) then((u1u (x.2.2.2.2.1.length:Int)).bind fun y6=>(bif (decide ((((y2++y3)++y4)++y5).size+y6.size≤140737488355328)) then((u8r (x,(((((y2++y3)++y4)++y5)++y6),0))).bind fun r9=>match r9 with | .inl o10=>((u1u (o10.1.2.2.2.2.2.1.length:Int)).bind fun y11=>(bif (decide (o10.2.size+y11.size≤140737488355328)) then((u6w (o10.1,((o10.2++y11),0))).bind fun r15=>match r15 with | .inl o16=>((t1n o16.1.2.2.2.2.2.2.1).bind fun y17=>(bif (decide (o16.2.size+y17.size≤140737488355328)) then((u2t o16.1.2.2.2.2.2.2.2).bind fun y18=>(bif (decide ((o16.2++y17).size+y18.size≤140737488355328)) then(some (((o16.2++y17)++y18),true)) else none)) else none)) | .inr z19=>none) else none)) | .inr z20=>none) else none)) else none)) else none)) else none)))))
theorem q6c:u85=r30:=zC 306 rfl Tryz.func306 (by kernel_rfl)
def t69(x:r7w):Option ByteArray:=zK 314 x
def t3a(g:o5r→Option o4b)(x:o5r):Option o4b:=(bif (decide (x.2.2<(x.1.length:Int))) then(bif (y4q x.2.2 x.1.length) then((u85 (rdL u0a x.1 (x.2.2).toNat)).bind fun y2=>(bif (decide (x.2.1.size+y2.1.size≤140737488355328)) then(g (x.1,((x.2.1++y2.1),(IntKind.i64.wrap (x.2.2+1))))) else none)) else none) else(some (.inl x.2.1)))
def u8u:=lpW _ _ t3a
theorem s8m x:u8u x=t3a u8u x:=zW s7u 314 Tryz.f314 3 28 x (by kernel_rfl)
def r39 (x:r7w):Option ByteArray:=((u1u (x.length:Int)).bind fun y1=>((u8u (x,(y1,0))).bind fun r3=>match r3 with | .inl o4=>(some o4) | .inr z5=>none))
theorem q6k:t69=r39:=zC 314 rfl Tryz.func314 (by kernel_rfl)
def t95(x:Z71):Option s2v:=zK 185 x
def t0o(g:Z53→Option (Z62⊕Unit))(x:Z53):Option (Z62⊕Unit):=(bif (decide (x.2.2<(x.1.1.length:Int))) then(bif (y4q x.2.2 x.1.1.length) then((u2t (rdL u0d x.1.1 (x.2.2).toNat).1).bind fun y5=>(bif (decide (x.2.1.size+y5.size≤140737488355328)) then((u2t (rdL u0d x.1.1 (x.2.2).toNat).2.1).bind fun y6=>(bif (decide ((x.2.1++y5).size+y6.size≤140737488355328)) then((t1n (rdL u0d x.1.1 (x.2.2).toNat).2.2.1).bind fun y7=>(bif (decide (((x.2.1++y5)++y6).size+y7.size≤140737488355328)) then((u1u (rdL u0d x.1.1 (x.2.2).toNat).2.2.2).bind fun y8=>(bif (decide ((((x.2.1++y5)++y6)++y7).size+y8.size≤140737488355328)) then(g (x.1,(((((x.2.1++y5)++y6)++y7)++y8),(IntKind.i64.wrap (x.2.2+1))))) else none)) else none)) else none)) else none)) else none) else(some (.inl (x.1,x.2.1))))
def u6s:=lpW _ _ t0o
theorem s41 x:u6s x=t0o u6s x:=zW s36 185 Tryz.f185 5 60 x (by kernel_rfl)
def s9x (x:Z71):Option s2v:=((u57 x).bind fun y1=>(bif (!y1) then(some ((⟨#[]⟩:ByteArray),false)) else((u1u x.2.2.2.1).bind fun y2=>((u1u x.2.2.2.2).bind fun y3=>(bif (decide (y2.size+y3.size≤140737488355328)) then((u1u (x.1.length:Int)).bind fun y4=>(bif (decide ((y2++y3).size+y4.size≤140737488355328)) then((u6s (x,(((y2++y3)++y4),0))).bind fun r9=>match r9 with | .inl o10=>((t69 o10.1.2.1).bind fun y11=>(bif (decide (o10.2.size+y11.size≤140737488355328)) then((t69 o10.1.2.2.1).bind fun y12=>(bif (decide ((o10.2++y11).size+y12.size≤140737488355328)) then(some (((o10.2++y11)++y12),true)) else none)) else none)) | .inr z13=>none) else none)) else none)))))
theorem q3d:t95=s9x:=zC 185 rfl Tryz.func185 (by kernel_rfl)
def u64(x:Z23):Option s2v:=zK 176 x
def s3h (x:Z23):Option s2v:=((t5h x).bind fun y1=>(bif (!y1) then(some ((⟨#[]⟩:ByteArray),false)) else(bif (decide (x.1=3)) then((u2t x.2.2.1).bind fun y2=>(bif (decide ((y7g ([(IntKind.u8.wrap x.1)] :List Int)).size+y2.size≤140737488355328)) then((t1n x.2.2.2.1).bind fun y3=>(bif (decide (((y7g ([(IntKind.u8.wrap x.1)] :List Int))++y2).size+y3.size≤140737488355328)) then((t5i (((y7g ([(IntKind.u8.wrap x.1)] :List Int))++y2)++y3)).bind fun y4=>(some y4)) else none)) else none)) else(bif (decide (x.1=4)) then((t95 x.2.2.2.2).bind fun y5=>(bif (decide ((y7g ([(IntKind.u8.wrap x.1)] :List Int)).size+y5.1.size≤140737488355328)) then((t5i ((y7g ([(IntKind.u8.wrap x.1)] :List Int))++y5.1)).bind fun y6=>(some y6)) else none)) else((u85 x.2.1).bind fun y7=>(bif (decide ((y7g ([(IntKind.u8.wrap x.1)] :List Int)).size+y7.1.size≤140737488355328)) then((t5i ((y7g ([(IntKind.u8.wrap x.1)] :List Int))++y7.1)).bind fun y8=>(some y8)) else none))))))
theorem r8j:u64=s3h:=zC 176 rfl Tryz.func176 (by kernel_rfl)
def s0c(x:ByteArray):Option s2v:=zK 177 x
def s97 (x:ByteArray):Option s2v:=(((bif (decide ((IntKind.i64.wrap ((x.size:Int) - (4:Int)))<0)) then(some true) else(bif (decide ((IntKind.i64.wrap ((x.size:Int) - (4:Int))) >20000)) then(some true) else(bif (decide (0≤(IntKind.i64.wrap ((x.size:Int) - (4:Int))))&&decide ((IntKind.i64.wrap ((x.size:Int) - (4:Int)))≤(x.size:Int))&&decide ((x.size:Int)≤(x.size:Int))) then(bif (decide (0≤(0:Int))&&decide ((0:Int)≤(IntKind.i64.wrap ((x.size:Int) - (4:Int))))&&decide ((IntKind.i64.wrap ((x.size:Int) - (4:Int)))≤(x.size:Int))) then((s1t (x.extract ((0:Int)).toNat ((IntKind.i64.wrap ((x.size:Int) - (4:Int)))).toNat)).bind fun y1=>((t66 y1).bind fun y2=>(some (!z7o (x.extract ((IntKind.i64.wrap ((x.size:Int) - (4:Int)))).toNat ((x.size:Int)).toNat) y2)))) else none) else none))):Option Bool).bind fun j3=>(bif j3 then(some ((⟨#[]⟩:ByteArray),false)) else(bif (decide (0≤(0:Int))&&decide ((0:Int)≤(IntKind.i64.wrap ((x.size:Int) - (4:Int))))&&decide ((IntKind.i64.wrap ((x.size:Int) - (4:Int)))≤(x.size:Int))) then(some ((x.extract ((0:Int)).toNat ((IntKind.i64.wrap ((x.size:Int) - (4:Int)))).toNat),true)) else none)))
theorem q3m:s0c=s97:=zC 177 rfl Tryz.func177 (by kernel_rfl)
def t54(x:ByteArray):Option Z22:=zK 60 x
def s3f (x:ByteArray):Option Z22:=((s0c x).bind fun y1=>(((bif (!y1.2) then(some true) else(some (z7o y1.1 (⟨#[]⟩:ByteArray)))):Option Bool).bind fun j2=>(bif j2 then(some ((0,((0,(0,(0,(0,(([] :List r4y.den),(([] :List u2v.den),(false,(⟨#[]⟩:ByteArray)))))))),((⟨#[]⟩:ByteArray),(false,(([] :List u0d.den),(([] :List u0a.den),(([] :List u0a.den),(0,0)))))))),false)) else(bif (y4q (0:Int) y1.1.size) then(bif (decide ((IntKind.i64.wrap ((y1.1.data.toList.getD ((0:Int)).toNat 0).toNat:Int))=3)) then((u1q (y1.1,(1,false))).bind fun y3=>((u5f y3.2).bind fun y4=>((u64 ((IntKind.i64.wrap ((y1.1.data.toList.getD ((0:Int)).toNat 0).toNat:Int)),((0,(0,(0,(0,(([] :List r4y.den),(([] :List u2v.den),(false,(⟨#[]⟩:ByteArray)))))))),(y3.1,(y4.1,(([] :List u0d.den),(([] :List u0a.den),(([] :List u0a.den),(0,0))))))))).bind fun y5=>(((bif (!y5.2) then(some true) else(some (!z7o y5.1 x))):Option Bool).bind fun j6=>(bif j6 then(some ((0,((0,(0,(0,(0,(([] :List r4y.den),(([] :List u2v.den),(false,(⟨#[]⟩:ByteArray)))))))),((⟨#[]⟩:ByteArray),(false,(([] :List u0d.den),(([] :List u0a.den),(([] :List u0a.den),(0,0)))))))),false)) else(some (((IntKind.i64.wrap ((y1.1.data.toList.getD ((0:Int)).toNat 0).toNat:Int)),((0,(0,(0,(0,(([] :List r4y.den),(([] :List u2v.den),(false,(⟨#[]⟩:ByteArray)))))))),(y3.1,(y4.1,(([] :List u0d.den),(([] :List u0a.den),(([] :List u0a.den),(0,0)))))))),true))))))) else(bif (decide ((IntKind.i64.wrap ((y1.1.data.toList.getD ((0:Int)).toNat 0).toNat:Int))=4)) then((s0a (y1.1,1)).bind fun y7=>((u64 ((IntKind.i64.wrap ((y1.1.data.toList.getD ((0:Int)).toNat 0).toNat:Int)),((0,(0,(0,(0,(([] :List r4y.den),(([] :List u2v.den),(false,(⟨#[]⟩:ByteArray)))))))),((⟨#[]⟩:ByteArray),(false,y7.1))))).bind fun y8=>(((bif (!y8.2) then(some true) else(some (!z7o y8.1 x))):Option Bool).bind fun j9=>(bif j9 then(some ((0,((0,(0,(0,(0,(([] :List r4y.den),(([] :List u2v.den),(false,(⟨#[]⟩:ByteArray)))))))),((⟨#[]⟩:ByteArray),(false,(([] :List u0d.den),(([] :List u0a.den),(([] :List u0a.den),(0,0)))))))),false)) else(some (((IntKind.i64.wrap ((y1.1.data.toList.getD ((0:Int)).toNat 0).toNat:Int)),((0,(0,(0,(0,(([] :List r4y.den),(([] :List u2v.den),(false,(⟨#[]⟩:ByteArray)))))))),((⟨#[]⟩:ByteArray),(false,y7.1)))),true)))))) else((t63 (y1.1,1)).bind fun y10=>((u64 ((IntKind.i64.wrap ((y1.1.data.toList.getD ((0:Int)).toNat 0).toNat:Int)),(y10.1,((⟨#[]⟩:ByteArray),(false,(([] :List u0d.den),(([] :List u0a.den),(([] :List u0a.den),(0,0))))))))).bind fun y11=>(((bif (!y11.2) then(some true) else(some (!z7o y11.1 x))):Option Bool).bind fun j12=>(bif j12 then(some ((0,((0,(0,(0,(0,(([] :List r4y.den),(([] :List u2v.den),(false,(⟨#[]⟩:ByteArray)))))))),((⟨#[]⟩:ByteArray),(false,(([] :List u0d.den),(([] :List u0a.den),(([] :List u0a.den),(0,0)))))))),false)) else(some (((IntKind.i64.wrap ((y1.1.data.toList.getD ((0:Int)).toNat 0).toNat:Int)),(y10.1,((⟨#[]⟩:ByteArray),(false,(([] :List u0d.den),(([] :List u0a.den),(([] :List u0a.den),(0,0)))))))),true)))))))) else none))))
theorem r8h:t54=s3f:=zC 60 rfl Tryz.func60 (by kernel_rfl)
def s55(x:Z32):Option Bool:=zK 287 x
def r6c (x:Z32):Option Bool:=(bif (decide (x.1.1=x.2.1)) then(some false) else(((bif (decide (x.1.2.1=3)) then(bif (decide (x.1.2.2.2.1≤x.2.2.2.1)) then(some true) else(bif (decide (x.2.2.1=3)) then(some (decide (x.2.2.2.2.1≤x.1.2.2.1))) else(some false))) else(bif (decide (x.2.2.1=3)) then(some (decide (x.2.2.2.2.1≤x.1.2.2.1))) else(some false))):Option Bool).bind fun j1=>(bif j1 then(some false) else(some true))))
theorem q89:s55=r6c:=zC 287 rfl Tryz.func287 (by kernel_rfl)
def t61(x:o3z):Option Bool:=zK 281 x
def r3p (x:o3z):Option Bool:=(((bif (!y3c x.2 x.1.1) then(some (y3c x.2 x.1.2 || z7o x.2 x.1.2)) else(some false)):Option Bool).bind fun j1=>(some j1))
theorem q51:t61=r3p:=zC 281 rfl Tryz.func281 (by kernel_rfl)
def s2q(x:o30):Option Bool:=zK 288 x
def t24(g:o5w→Option (o3u⊕Bool))(x:o5w):Option (o3u⊕Bool):=(bif (decide (x.2.2.2<(x.2.1.length:Int))) then(bif (y4q x.2.2.1 x.1.length) then(bif (y4q x.2.2.2 x.2.1.length) then((t61 ((rdL r4y x.1 (x.2.2.1).toNat),(rdL u2v x.2.1 (x.2.2.2).toNat).1)).bind fun y1=>(bif y1 then(some (.inr true)) else(g (x.1,(x.2.1,(x.2.2.1,(IntKind.i64.wrap (x.2.2.2+1)))))))) else none) else none) else(some (.inl (x.1,(x.2.1,x.2.2.1)))))
def u8p:=lpW _ _ t24
theorem s8g x:u8p x=t24 u8p x:=zW s7o 288 Tryz.f288 5 29 x (by kernel_rfl)
def t23(g:o3u→Option s8n)(x:o3u):Option s8n:=(bif (decide (x.2.2<(x.1.length:Int))) then((u8p (x.1,(x.2.1,(x.2.2,0)))).bind fun r2=>match r2 with | .inl o3=>(g (o3.1,(o3.2.1,(IntKind.i64.wrap (o3.2.2+1))))) | .inr z4=>(some (.inr z4))) else(some (.inl ())))
def t3j:=lpW _ _ t23
theorem s8f x:t3j x=t23 t3j x:=zW s7n 288 Tryz.f288 2 29 x (by kernel_rfl)
def r3y (x:o30):Option Bool:=((t3j (x.1,(x.2,0))).bind fun r5=>match r5 with | .inl o6=>(some false) | .inr z7=>(some z7))
theorem q6a:s2q=r3y:=zC 288 rfl Tryz.func288 (by kernel_rfl)
def s1r(x:Z32):Option Bool:=zK 162 x
def r9t (x:Z32):Option Bool:=((((s55 x).bind fun y1=>(bif y1 then((s2q (x.1.2.2.2.2.1,x.2.2.2.2.2.2.1)).bind fun y2=>(some y2)) else(some false))):Option Bool).bind fun j3=>(some j3))
theorem p07:s1r=r9t:=zC 162 rfl Tryz.func162 (by kernel_rfl)
def s1s(x:Z55):Option Bool:=zK 161 x
def t6e(g:Z50→Option s8n)(x:Z50):Option s8n:=(bif (decide (x.2.2<(x.1.length:Int))) then(((bif (y4q x.2.2 x.1.length) then(bif (decide ((rdL u0a x.1 (x.2.2).toNat).2.1=3)) then(bif (y4q x.2.2 x.1.length) then((s1r (x.2.1,(rdL u0a x.1 (x.2.2).toNat))).bind fun y1=>(some y1)) else none) else(some false)) else none):Option Bool).bind fun j2=>(bif j2 then(some (.inr true)) else(g (x.1,(x.2.1,(IntKind.i64.wrap (x.2.2+1))))))) else(some (.inl ())))
def t6k:=lpW _ _ t6e
theorem r4u x:t6k x=t6e t6k x:=zW r4i 161 Tryz.f161 2 26 x (by kernel_rfl)
def r9w (x:Z55):Option Bool:=((t6k (x.2,(x.1,0))).bind fun r3=>match r3 with | .inl o4=>(some false) | .inr z5=>(some z5))
theorem p1a:s1s=r9w:=zC 161 rfl Tryz.func161 (by kernel_rfl)
def u9t(x:o3s):Option s6c:=zK 379 x
def u6h(g:Z54→Option (Z54⊕Unit))(x:Z54):Option (Z54⊕Unit):=(((bif (decide (x.2.2.2.2.2.2<(x.2.2.1.length:Int))) then(bif (y4q x.2.2.2.2.2.2 x.2.2.1.length) then(bif (y3c (rdL u0d x.2.2.1 (x.2.2.2.2.2.2).toNat).1 x.2.2.2.2.1.1) then(some true) else(bif (y4q x.2.2.2.2.2.2 x.2.2.1.length) then(bif (z7o (rdL u0d x.2.2.1 (x.2.2.2.2.2.2).toNat).1 x.2.2.2.2.1.1) then(bif (y4q x.2.2.2.2.2.2 x.2.2.1.length) then(some (decide ((rdL u0d x.2.2.1 (x.2.2.2.2.2.2).toNat).2.2.2≤x.2.2.2.2.1.2.2.2))) else none) else(some false)) else none)) else none) else(some false)):Option Bool).bind fun j1=>(bif j1 then(bif (y4q x.2.2.2.2.2.2 x.2.2.1.length) then(bif (Nat.ble (x.2.2.2.2.2.1.length+([(rdL u0d x.2.2.1 (x.2.2.2.2.2.2).toNat)] :List u0d.den).length) z7w) then(g (x.1,(x.2.1,(x.2.2.1,(x.2.2.2.1,(x.2.2.2.2.1,((x.2.2.2.2.2.1++([(rdL u0d x.2.2.1 (x.2.2.2.2.2.2).toNat)] :List u0d.den)),(IntKind.i64.wrap (x.2.2.2.2.2.2+1))))))))) else none) else none) else(some (.inl x))))
def u4z:=lpW _ _ u6h
theorem t8d x:u4z x=u6h u4z x:=zW t76 379 Tryz.f379 8 93 x (by kernel_rfl)
def u6g(g:o5s→Option p58)(x:o5s):Option p58:=(bif (decide (x.2.2.2<(x.1.length:Int))) then(bif (y4q x.2.2.2 x.1.length) then(bif (y4q x.2.2.2 x.1.length) then(bif (y4q x.2.2.2 x.1.length) then((u4z (x.1,(x.2.1,(x.2.2.1,(x.2.2.2,(((rdL u2v x.1 (x.2.2.2).toNat).1,((rdL u2v x.1 (x.2.2.2).toNat).2.1,((rdL u2v x.1 (x.2.2.2).toNat).2.2,x.2.1))),(([] :List u0d.den),0))))))).bind fun r2=>match r2 with | .inl o3=>(bif (Nat.ble (o3.2.2.2.2.2.1.length+([o3.2.2.2.2.1] :List u0d.den).length) z7w) then(bif (decide (0≤o3.2.2.2.2.2.2)&&decide (o3.2.2.2.2.2.2≤(o3.2.2.1.length:Int))&&decide ((o3.2.2.1.length:Int)≤(o3.2.2.1.length:Int))) then(bif (Nat.ble ((o3.2.2.2.2.2.1++([o3.2.2.2.2.1] :List u0d.den)).length+((o3.2.2.1.take ((o3.2.2.1.length:Int)).toNat).drop (o3.2.2.2.2.2.2).toNat).length) z7w) then(g (o3.1,(o3.2.1,(((o3.2.2.2.2.2.1++([o3.2.2.2.2.1] :List u0d.den))++((o3.2.2.1.take ((o3.2.2.1.length:Int)).toNat).drop (o3.2.2.2.2.2.2).toNat)),(IntKind.i64.wrap (o3.2.2.2.1+1)))))) else none) else none) else none) | .inr z4=>(some (.inr ()))) else none) else none) else none) else(some (.inl x.2.2.1)))
def u6j:=lpW _ _ u6g
theorem t8c x:u6j x=u6g u6j x:=zW t75 379 Tryz.f379 3 93 x (by kernel_rfl)
def s00 (x:o3s):Option s6c:=(bif (Nat.ble (([] :List u0d.den).length+x.1.length) z7w) then((u6j (x.2.1,(x.2.2,((([] :List u0d.den)++x.1),0)))).bind fun r5=>match r5 with | .inl o6=>(some o6) | .inr z7=>none) else none)
theorem r64:u9t=s00:=zC 379 rfl Tryz.func379 (by kernel_rfl)
def t2e(x:Z28):Option Z71:=zK 318 x
def t0u(g:Z3→Option (Z14⊕Unit))(x:Z3):Option (Z14⊕Unit):=(bif (decide (x.2.2.2.2.2<(x.1.2.2.1.length:Int))) then(bif (y4q x.2.2.2.2.2 x.1.2.2.1.length) then((u3e (rdL u0a x.1.2.2.1 (x.2.2.2.2.2).toNat)).bind fun y4=>(bif (decide (y4.1=x.2.1.1)) then(g (x.1,(x.2.1,(x.2.2.1,(x.2.2.2.1,(x.2.2.2.2.1,(IntKind.i64.wrap (x.2.2.2.2.2+1)))))))) else((s1r (y4,x.2.2.2.2.1)).bind fun y5=>(bif y5 then(bif (Nat.ble (x.2.2.2.1.2.2.1.length+([(y4.1,(y4.2.1,(y4.2.2.1,(y4.2.2.2.1,(y4.2.2.2.2.1,(y4.2.2.2.2.2.1,(true,y4.2.2.2.2.2.2.2)))))))] :List u0a.den).length) z7w) then(g (x.1,(x.2.1,(x.2.2.1,((x.2.2.2.1.1,(x.2.2.2.1.2.1,((x.2.2.2.1.2.2.1++([(y4.1,(y4.2.1,(y4.2.2.1,(y4.2.2.2.1,(y4.2.2.2.2.1,(y4.2.2.2.2.2.1,(true,y4.2.2.2.2.2.2.2)))))))] :List u0a.den)),x.2.2.2.1.2.2.2))),(x.2.2.2.2.1,(IntKind.i64.wrap (x.2.2.2.2.2+1)))))))) else none) else(bif (Nat.ble (x.2.2.2.1.2.2.1.length+([y4] :List u0a.den).length) z7w) then(g (x.1,(x.2.1,(x.2.2.1,((x.2.2.2.1.1,(x.2.2.2.1.2.1,((x.2.2.2.1.2.2.1++([y4] :List u0a.den)),x.2.2.2.1.2.2.2))),(x.2.2.2.2.1,(IntKind.i64.wrap (x.2.2.2.2.2+1)))))))) else none))))) else none) else(some (.inl (x.2.1,(x.2.2.1,x.2.2.2.1)))))
def u5e:=lpW _ _ t0u
theorem s47 x:u5e x=t0u u5e x:=zW s4c 318 Tryz.f318 12 85 x (by kernel_rfl)
def r3x (x:Z28):Option Z71:=((u3f x.1).bind fun y1=>((u3e x.2).bind fun y2=>(bif x.2.2.2.2.2.2.2.1 then((u9t (x.1.1,(y2.2.2.2.2.2.1,(IntKind.i64.wrap (x.1.2.2.2.1+1))))).bind fun y3=>(bif (Nat.ble (y1.2.1.length+([(y2.1,(3,(y2.2.2.1,((IntKind.i64.wrap (x.1.2.2.2.1+1)),(y2.2.2.2.2.1,(y2.2.2.2.2.2.1,(true,(⟨#[]⟩:ByteArray))))))))] :List u0a.den).length) z7w) then((u5e (x.1,(x.2,((([] :List u0d.den),(([] :List u0a.den),(([] :List u0a.den),(0,0)))),((y3,((y1.2.1++([(y2.1,(3,(y2.2.2.1,((IntKind.i64.wrap (x.1.2.2.2.1+1)),(y2.2.2.2.2.1,(y2.2.2.2.2.2.1,(true,(⟨#[]⟩:ByteArray))))))))] :List u0a.den)),(([] :List u0a.den),((IntKind.i64.wrap (x.1.2.2.2.1+1)),y1.2.2.2.2)))),((y2.1,(3,(y2.2.2.1,((IntKind.i64.wrap (x.1.2.2.2.1+1)),(y2.2.2.2.2.1,(y2.2.2.2.2.2.1,(true,(⟨#[]⟩:ByteArray)))))))),0)))))).bind fun r6=>match r6 with | .inl o7=>(bif (decide (o7.1.1≥o7.2.2.2.2.2.2)) then(some (o7.2.2.1,(o7.2.2.2.1,(o7.2.2.2.2.1,(o7.2.2.2.2.2.1,(IntKind.i64.wrap (o7.1.1+1))))))) else(some o7.2.2)) | .inr z8=>none) else none)) else((s1s (x.2,x.1.2.1)).bind fun y9=>((u9t (x.1.1,(y2.2.2.2.2.2.1,(IntKind.i64.wrap (x.1.2.2.2.1+1))))).bind fun y10=>(bif (Nat.ble (y1.2.1.length+([(y2.1,(3,(y2.2.2.1,((IntKind.i64.wrap (x.1.2.2.2.1+1)),(y2.2.2.2.2.1,(y2.2.2.2.2.2.1,(y9,(⟨#[]⟩:ByteArray))))))))] :List u0a.den).length) z7w) then((u5e (x.1,(x.2,((([] :List u0d.den),(([] :List u0a.den),(([] :List u0a.den),(0,0)))),((y10,((y1.2.1++([(y2.1,(3,(y2.2.2.1,((IntKind.i64.wrap (x.1.2.2.2.1+1)),(y2.2.2.2.2.1,(y2.2.2.2.2.2.1,(y9,(⟨#[]⟩:ByteArray))))))))] :List u0a.den)),(([] :List u0a.den),((IntKind.i64.wrap (x.1.2.2.2.1+1)),y1.2.2.2.2)))),((y2.1,(3,(y2.2.2.1,((IntKind.i64.wrap (x.1.2.2.2.1+1)),(y2.2.2.2.2.1,(y2.2.2.2.2.2.1,(y9,(⟨#[]⟩:ByteArray)))))))),0)))))).bind fun r13=>match r13 with | .inl o14=>(bif (decide (o14.1.1≥o14.2.2.2.2.2.2)) then(some (o14.2.2.1,(o14.2.2.2.1,(o14.2.2.2.2.1,(o14.2.2.2.2.2.1,(IntKind.i64.wrap (o14.1.1+1))))))) else(some o14.2.2)) | .inr z15=>none) else none))))))
theorem q59:t2e=r3x:=zC 318 rfl Tryz.func318 (by kernel_rfl)
def t65(x:Z62):Option Int:=zK 319 x
def u8d(g:Z52→Option p2g)(x:Z52):Option p2g:=(bif (decide (x.2.2<(x.2.1.2.2.1.length:Int))) then(bif (y4q x.2.2 x.2.1.2.2.1.length) then(bif (z7o (rdL u0a x.2.1.2.2.1 (x.2.2).toNat).2.2.2.2.2.2.2 x.1) then(some (.inr x.2.2)) else(g (x.1,(x.2.1,(IntKind.i64.wrap (x.2.2+1)))))) else none) else(some (.inl ())))
def u8o:=lpW _ _ u8d
theorem s8d x:u8o x=u8d u8o x:=zW s7k 319 Tryz.f319 2 22 x (by kernel_rfl)
def r3u (x:Z62):Option Int:=((u8o (x.2,(x.1,0))).bind fun r1=>match r1 with | .inl o2=>(some (-1:Int)) | .inr z3=>(some z3))
theorem q56:t65=r3u:=zC 319 rfl Tryz.func319 (by kernel_rfl)
def t7x(x:Z26):Option Z71:=zK 320 x
def u9h(g:Z1→Option (Z2⊕Unit))(x:Z1):Option (Z2⊕Unit):=(bif (decide (x.2.2.2.2.2.2<(x.2.1.2.2.1.length:Int))) then(bif (y4q x.2.2.2.2.2.2 x.2.1.2.2.1.length) then(bif (y3c (rdL u0a x.2.1.2.2.1 (x.2.2.2.2.2.2).toNat).2.2.2.2.2.2.2 x.1) then(bif (y4q x.2.2.2.2.2.2 x.2.1.2.2.1.length) then((u3e (rdL u0a x.2.1.2.2.1 (x.2.2.2.2.2.2).toNat)).bind fun y3=>(bif (Nat.ble (x.2.2.2.2.1.2.2.1.length+([y3] :List u0a.den).length) z7w) then(g (x.1,(x.2.1,(x.2.2.1,(x.2.2.2.1,((x.2.2.2.2.1.1,(x.2.2.2.2.1.2.1,((x.2.2.2.2.1.2.2.1++([y3] :List u0a.den)),x.2.2.2.2.1.2.2.2))),(x.2.2.2.2.2.1,(IntKind.i64.wrap (x.2.2.2.2.2.2+1))))))))) else none)) else none) else(g (x.1,(x.2.1,(x.2.2.1,(x.2.2.2.1,(x.2.2.2.2.1,(x.2.2.2.2.2.1,(IntKind.i64.wrap (x.2.2.2.2.2.2+1)))))))))) else none) else(some (.inl (x.1,(x.2.1,(x.2.2.1,(x.2.2.2.1,(x.2.2.2.2.1,x.2.2.2.2.2.1))))))))
def u4p:=lpW _ _ u9h
theorem s15 x:u4p x=u9h u4p x:=zW s1f 320 Tryz.f320 8 97 x (by kernel_rfl)
def u7p(g:Z6→Option (Z14⊕Unit))(x:Z6):Option (Z14⊕Unit):=(bif (decide (x.2.2.2.2.2<(x.2.1.2.2.1.length:Int))) then(bif (y4q x.2.2.2.2.2 x.2.1.2.2.1.length) then(bif (!y3c (rdL u0a x.2.1.2.2.1 (x.2.2.2.2.2).toNat).2.2.2.2.2.2.2 x.1) then(bif (y4q x.2.2.2.2.2 x.2.1.2.2.1.length) then((u3e (rdL u0a x.2.1.2.2.1 (x.2.2.2.2.2).toNat)).bind fun y6=>(bif (Nat.ble (x.2.2.2.2.1.2.2.1.length+([y6] :List u0a.den).length) z7w) then(g (x.1,(x.2.1,(x.2.2.1,(x.2.2.2.1,((x.2.2.2.2.1.1,(x.2.2.2.2.1.2.1,((x.2.2.2.2.1.2.2.1++([y6] :List u0a.den)),x.2.2.2.2.1.2.2.2))),(IntKind.i64.wrap (x.2.2.2.2.2+1)))))))) else none)) else none) else(g (x.1,(x.2.1,(x.2.2.1,(x.2.2.2.1,(x.2.2.2.2.1,(IntKind.i64.wrap (x.2.2.2.2.2+1))))))))) else none) else(some (.inl (x.2.2.1,(x.2.2.2.1,x.2.2.2.2.1)))))
def u38:=lpW _ _ u7p
theorem s0l x:u38 x=u7p u38 x:=zW t9d 320 Tryz.f320 14 97 x (by kernel_rfl)
def s6x (x:Z26):Option Z71:=((u3f x.1).bind fun y1=>((u3e x.2.1).bind fun y2=>(bif x.2.1.2.2.2.2.2.2.1 then((u4p (x.2.2,(x.1,(x.2.1,((([] :List u0d.den),(([] :List u0a.den),(([] :List u0a.den),(0,0)))),((y1.1,(y1.2.1,(([] :List u0a.den),y1.2.2.2))),((y2.1,(2,(y2.2.2.1,(y2.2.2.2.1,(y2.2.2.2.2.1,(y2.2.2.2.2.2.1,(true,x.2.2))))))),0))))))).bind fun r4=>match r4 with | .inl o5=>(bif (Nat.ble (o5.2.2.2.2.1.2.2.1.length+([o5.2.2.2.2.2] :List u0a.den).length) z7w) then((u38 (o5.1,(o5.2.1,(o5.2.2.1,(o5.2.2.2.1,((o5.2.2.2.2.1.1,(o5.2.2.2.2.1.2.1,((o5.2.2.2.2.1.2.2.1++([o5.2.2.2.2.2] :List u0a.den)),o5.2.2.2.2.1.2.2.2))),0)))))).bind fun r7=>match r7 with | .inl o8=>(bif (decide (o8.1.1≥o8.2.2.2.2.2.2)) then(some (o8.2.2.1,(o8.2.2.2.1,(o8.2.2.2.2.1,(o8.2.2.2.2.2.1,(IntKind.i64.wrap (o8.1.1+1))))))) else(some o8.2.2)) | .inr z9=>none) else none) | .inr z10=>none) else((s1s (x.2.1,x.1.2.1)).bind fun y11=>((u4p (x.2.2,(x.1,(x.2.1,((([] :List u0d.den),(([] :List u0a.den),(([] :List u0a.den),(0,0)))),((y1.1,(y1.2.1,(([] :List u0a.den),y1.2.2.2))),((y2.1,(2,(y2.2.2.1,(y2.2.2.2.1,(y2.2.2.2.2.1,(y2.2.2.2.2.2.1,(y11,x.2.2))))))),0))))))).bind fun r13=>match r13 with | .inl o14=>(bif (Nat.ble (o14.2.2.2.2.1.2.2.1.length+([o14.2.2.2.2.2] :List u0a.den).length) z7w) then((u38 (o14.1,(o14.2.1,(o14.2.2.1,(o14.2.2.2.1,((o14.2.2.2.2.1.1,(o14.2.2.2.2.1.2.1,((o14.2.2.2.2.1.2.2.1++([o14.2.2.2.2.2] :List u0a.den)),o14.2.2.2.2.1.2.2.2))),0)))))).bind fun r16=>match r16 with | .inl o17=>(bif (decide (o17.1.1≥o17.2.2.2.2.2.2)) then(some (o17.2.2.1,(o17.2.2.2.1,(o17.2.2.2.2.1,(o17.2.2.2.2.2.1,(IntKind.i64.wrap (o17.1.1+1))))))) else(some o17.2.2)) | .inr z18=>none) else none) | .inr z19=>none)))))
theorem q1c:t7x=s6x:=zC 320 rfl Tryz.func320 (by kernel_rfl)
def s2m(x:Z62):Option Z71:=zK 321 x
def t2y(g:Z10→Option (Z25⊕Unit))(x:Z10):Option (Z25⊕Unit):=(bif (decide (x.2.2.2.2<(x.2.1.2.2.1.length:Int))) then(bif (y4q x.2.2.2.2 x.2.1.2.2.1.length) then(bif (!z7o (rdL u0a x.2.1.2.2.1 (x.2.2.2.2).toNat).2.2.2.2.2.2.2 x.1) then(bif (y4q x.2.2.2.2 x.2.1.2.2.1.length) then((u3e (rdL u0a x.2.1.2.2.1 (x.2.2.2.2).toNat)).bind fun y2=>(bif (Nat.ble (x.2.2.2.1.2.2.1.length+([y2] :List u0a.den).length) z7w) then(g (x.1,(x.2.1,(x.2.2.1,((x.2.2.2.1.1,(x.2.2.2.1.2.1,((x.2.2.2.1.2.2.1++([y2] :List u0a.den)),x.2.2.2.1.2.2.2))),(IntKind.i64.wrap (x.2.2.2.2+1))))))) else none)) else none) else(g (x.1,(x.2.1,(x.2.2.1,(x.2.2.2.1,(IntKind.i64.wrap (x.2.2.2.2+1)))))))) else none) else(some (.inl (x.2.2.1,x.2.2.2.1))))
def u8m:=lpW _ _ t2y
theorem s79 x:u8m x=t2y u8m x:=zW s7g 321 Tryz.f321 4 38 x (by kernel_rfl)
def r3o (x:Z62):Option Z71:=((u3f x.1).bind fun y1=>((u8m (x.2,(x.1,((([] :List u0d.den),(([] :List u0a.den),(([] :List u0a.den),(0,0)))),((y1.1,(y1.2.1,(([] :List u0a.den),y1.2.2.2))),0))))).bind fun r3=>match r3 with | .inl o4=>(some o4.2) | .inr z5=>none))
theorem q50:s2m=r3o:=zC 321 rfl Tryz.func321 (by kernel_rfl)
def s2u(x:Z13):Option Z64:=zK 201 x
def r38 (x:Z13):Option Z64:=(bif (decide (x.2.1=1)) then(bif (!decide (x.2.2.1.2.2.2.1=(IntKind.i64.wrap (x.1.2.2.2.1+1)))) then(some (x.1,false)) else((t2e (x.1,x.2.2.1)).bind fun y1=>(some (y1,true)))) else(bif (decide (x.2.1=2)) then(((bif (decide ((x.1.2.2.1.length:Int)≥(3:Int))) then(some true) else((t65 (x.1,x.2.2.1.2.2.2.2.2.2.2)).bind fun y2=>(some (decide (y2≥0))))):Option Bool).bind fun j3=>(bif j3 then(some (x.1,false)) else((t7x (x.1,(x.2.2.1,x.2.2.1.2.2.2.2.2.2.2))).bind fun y4=>(some (y4,true))))) else(bif (decide (x.2.1=3)) then((t65 (x.1,x.2.2.2.1)).bind fun y5=>(bif (decide (y5<0)) then(some (x.1,false)) else(bif x.2.2.2.2.1 then(bif (y4q y5 x.1.2.2.1.length) then((t2e (x.1,(rdL u0a x.1.2.2.1 (y5).toNat))).bind fun y6=>(some (y6,true))) else none) else((s2m (x.1,x.2.2.2.1)).bind fun y7=>(some (y7,true)))))) else((u3f x.2.2.2.2.2).bind fun y8=>(some (y8,true))))))
theorem q6j:s2u=r38:=zC 201 rfl Tryz.func201 (by kernel_rfl)
def s57(x:Z13):Option Z64:=zK 73 x
def r6e (x:Z13):Option Z64:=((((u57 x.1).bind fun y1=>(bif (!y1) then(some true) else((t5h x.2).bind fun y2=>(some (!y2))))):Option Bool).bind fun j3=>(bif j3 then((u3f x.1).bind fun y4=>(some (y4,false))) else((s2u x).bind fun y5=>(bif (!y5.2) then((u3f x.1).bind fun y6=>(some (y6,false))) else((t8m (y5.1,([] :List u0a.den))).bind fun y7=>((u57 y7).bind fun y8=>(bif (!y8) then((u3f x.1).bind fun y9=>(some (y9,false))) else(some (y7,true)))))))))
theorem q9b:s57=r6e:=zC 73 rfl Tryz.func73 (by kernel_rfl)
def t1m(x:q2b):Option s2v:=zK 417 x
def u7q(g:o5x→Option (o55⊕s2v))(x:o5x):Option (o55⊕s2v):=(bif (decide (x.2.2≥0)) then(bif (y4q x.2.2 x.2.1.2.length) then(bif (decide ((rdL q6y x.2.1.2 (x.2.2).toNat).1=x.1)) then(bif (y4q x.2.2 x.2.1.2.length) then(some (.inr ((rdL q6y x.2.1.2 (x.2.2).toNat).2,true))) else none) else(g (x.1,(x.2.1,(IntKind.i64.wrap (x.2.2 - 1)))))) else none) else(some (.inl (x.1,x.2.1))))
def u7x:=lpW _ _ u7q
theorem s0m x:u7x x=u7q u7x x:=zW t9e 417 Tryz.f417 4 41 x (by kernel_rfl)
def s3g (x:q2b):Option s2v:=((u03 (x.2,(0,(IntKind.i64.wrap ((x.1.1.length:Int) - (1:Int)))))).bind fun y1=>(bif (!y1) then(some ((⟨#[]⟩:ByteArray),false)) else((u7x (x.2,(x.1,(IntKind.i64.wrap ((x.1.2.length:Int) - (1:Int)))))).bind fun r2=>match r2 with | .inl o3=>(bif (y4q o3.1 o3.2.1.length) then(some ((rdL Ty.str o3.2.1 (o3.1).toNat),true)) else none) | .inr z4=>(some z4))))
theorem r8i:t1m=s3g:=zC 417 rfl Tryz.func417 (by kernel_rfl)
def t55(x:o3q):Option s2v:=zK 344 x
def u7r(g:o5f→Option (ByteArray⊕s2v))(x:o5f):Option (ByteArray⊕s2v):=(bif (decide (x.2.2.2.2<x.2.1)) then(((bif (decide (x.1<0)) then(some true) else(some (decide (x.1 >(x.2.2.1.1.length:Int))))):Option Bool).bind fun j2=>(bif j2 then(some (.inr ((⟨#[]⟩:ByteArray),false))) else((t1m (x.2.2.1,(IntKind.i64.wrap (x.1+x.2.2.2.2)))).bind fun y3=>(bif (!y3.2) then(some (.inr ((⟨#[]⟩:ByteArray),false))) else(bif (decide (x.2.2.2.1.size+y3.1.size≤140737488355328)) then(g (x.1,(x.2.1,(x.2.2.1,((x.2.2.2.1++y3.1),(IntKind.i64.wrap (x.2.2.2.2+1))))))) else none))))) else(some (.inl x.2.2.2.1)))
def u7y:=lpW _ _ u7r
theorem s0n x:u7y x=u7r u7y x:=zW t9f 344 Tryz.f344 5 43 x (by kernel_rfl)
def s3i (x:o3q):Option s2v:=((u03 (x.2.2,(0,100))).bind fun y1=>(bif (!y1) then(some ((⟨#[]⟩:ByteArray),false)) else((u7y (x.2.1,(x.2.2,(x.1,((⟨#[]⟩:ByteArray),0))))).bind fun r4=>match r4 with | .inl o5=>(some (o5,true)) | .inr z6=>(some z6))))
theorem r8k:t55=s3i:=zC 344 rfl Tryz.func344 (by kernel_rfl)
def t3v(x:Int):Option Int:=zK 345 x
def s6w (x:Int):Option Int:=((u03 (x,(0,1))).bind fun y1=>(bif (!y1) then(some (0:Int)) else(some (IntKind.i64.wrap ((1:Int)+(IntKind.i64.wrap (x*48)))))))
theorem q1b:t3v=s6w:=zC 345 rfl Tryz.func345 (by kernel_rfl)
def t67(x:q2b):Option Int:=zK 347 x
def r33 (x:q2b):Option Int:=((t1m x).bind fun y1=>(((bif (!y1.2) then(some true) else(some (z7o y1.1 (⟨#[]⟩:ByteArray)))):Option Bool).bind fun j2=>(bif j2 then(some (0:Int)) else(bif (y4q (0:Int) y1.1.size) then(some (IntKind.i64.wrap ((y1.1.data.toList.getD ((0:Int)).toNat 0).toNat:Int))) else none))))
theorem q6e:t67=r33:=zC 347 rfl Tryz.func347 (by kernel_rfl)
def s2l(x:q2b):Option Int:=zK 346 x
def r3n (x:q2b):Option Int:=((u03 (x.2,(0,1))).bind fun y1=>(bif (!y1) then(some (0:Int)) else((t3v x.2).bind fun y2=>((t67 (x.1,y2)).bind fun y3=>(some y3)))))
theorem q5z:s2l=r3n:=zC 346 rfl Tryz.func346 (by kernel_rfl)
def t0c(x:q2b):Option (r5e×o1f):=zK 227 x
def u9i(g:Z70→Option o37)(x:Z70):Option o37:=((s2l (x.2.1,x.1)).bind fun y4=>(bif (decide (x.2.2.2.2.2.2<y4)) then((t3w (x.2.2.2.1,x.2.2.2.2.2.1)).bind fun y5=>(((bif (!y5.2.2) then(some true) else(some (z7o y5.1 (⟨#[]⟩:ByteArray)))):Option Bool).bind fun j6=>(bif j6 then(some (.inr (x.2.2.1,(0,false)))) else(bif (Nat.ble (x.2.2.2.2.1.length+([y5.1] :List ByteArray).length) z7w) then(g (x.1,(x.2.1,(x.2.2.1,(x.2.2.2.1,((x.2.2.2.2.1++([y5.1] :List ByteArray)),(y5.2.1,(IntKind.i64.wrap (x.2.2.2.2.2.2+1))))))))) else none)))) else(some (.inl (x.2.2.2.2.1,x.2.2.2.2.2.1)))))
def u9n:=lpW _ _ u9i
theorem s16 x:u9n x=u9i u9n x:=zW s1g 227 Tryz.f227 10 61 x (by kernel_rfl)
def s92 (x:q2b):Option (r5e×o1f):=((u03 (x.2,(0,1))).bind fun y1=>(bif (!y1) then(some (([] :List ByteArray),(0,false))) else((t3v x.2).bind fun y2=>((t55 (x.1,((IntKind.i64.wrap (y2+1)),47))).bind fun y3=>(bif (!y3.2) then(some (([] :List ByteArray),(0,false))) else((u9n (x.2,(x.1,(([] :List ByteArray),(y3.1,(([] :List ByteArray),(0,0))))))).bind fun r7=>match r7 with | .inl o8=>(some (o8.1,(o8.2,true))) | .inr z9=>(some z9)))))))
theorem q3i:t0c=s92:=zC 227 rfl Tryz.func227 (by kernel_rfl)
def t94(x:s8p):Option Int:=zK 228 x
def s9w (x:s8p):Option Int:=((t67 (x,0)).bind fun y1=>(some (Int.tmod y1 (2:Int))))
theorem q3c:t94=s9w:=zC 228 rfl Tryz.func228 (by kernel_rfl)
def t98(x:s8p):Option r5e:=zK 91 x
def s90 (x:s8p):Option r5e:=((t94 x).bind fun y1=>((t0c (x,y1)).bind fun y2=>(some y2.1)))
theorem q3g:t98=s90:=zC 91 rfl Tryz.func91 (by kernel_rfl)
def r4n(x:Unit):Option Z71:=zK 223 x
def r3m (x:Unit):Option Z71:=(some (([] :List u0d.den),(([] :List u0a.den),(([] :List u0a.den),(0,1)))))
theorem q5y:r4n=r3m:=zC 223 rfl Tryz.func223 (by kernel_rfl)
def t62(x:s8p):Option Z64:=zK 88 x
def t2z(g:Z20→Option (Z25⊕Z64))(x:Z20):Option (Z25⊕Z64):=(bif (decide (x.2.2.2<(x.2.2.1.length:Int))) then(bif (y4q x.2.2.2 x.2.2.1.length) then((t54 (rdL Ty.str x.2.2.1 (x.2.2.2).toNat)).bind fun y3=>((s57 (x.2.1,y3.1)).bind fun y4=>(((bif (!y3.2) then(some true) else(some (!y4.2))):Option Bool).bind fun j5=>(bif j5 then(some (.inr ((([] :List u0d.den),(([] :List u0a.den),(([] :List u0a.den),(0,0)))),false))) else(g (x.1,(y4.1,(x.2.2.1,(IntKind.i64.wrap (x.2.2.2+1)))))))))) else none) else(some (.inl (x.1,x.2.1))))
def u4w:=lpW _ _ t2z
theorem s8a x:u4w x=t2z u4w x:=zW s7h 88 Tryz.f88 4 43 x (by kernel_rfl)
def r3q (x:s8p):Option Z64:=((r4n ()).bind fun y1=>((t98 x).bind fun y2=>((u4w ((([] :List u0d.den),(([] :List u0a.den),(([] :List u0a.den),(0,0)))),(y1,(y2,0)))).bind fun r6=>match r6 with | .inl o7=>(some (o7.2,true)) | .inr z8=>(some z8))))
theorem q52:t62=r3q:=zC 88 rfl Tryz.func88 (by kernel_rfl)
def t96(x:Z40):Option Bool:=zK 109 x
def u9f(g:Z18→Option (Z21⊕Bool))(x:Z18):Option (Z21⊕Bool):=(bif (decide (x.2.2.2<(x.1.1.2.1.length:Int))) then(bif (y4q x.2.2.2 x.1.1.2.1.length) then(bif (decide ((rdL u0a x.1.1.2.1 (x.2.2.2).toNat).1=x.2.2.1.1)) then(some (.inr false)) else(g (x.1,(x.2.1,(x.2.2.1,(IntKind.i64.wrap (x.2.2.2+1))))))) else none) else(some (.inl (x.1,(x.2.1,x.2.2.1)))))
def u55:=lpW _ _ u9f
theorem s13 x:u55 x=u9f u55 x:=zW s1d 109 Tryz.f109 10 105 x (by kernel_rfl)
def u9g(g:Z18→Option (Z37⊕Bool))(x:Z18):Option (Z37⊕Bool):=(bif (decide (x.2.2.2<(x.1.1.2.2.1.length:Int))) then(bif (y4q x.2.2.2 x.1.1.2.2.1.length) then(bif (decide ((rdL u0a x.1.1.2.2.1 (x.2.2.2).toNat).1=x.2.2.1.1)) then(some (.inr false)) else(g (x.1,(x.2.1,(x.2.2.1,(IntKind.i64.wrap (x.2.2.2+1))))))) else none) else(some (.inl (x.1,x.2.1))))
def u4o:=lpW _ _ u9g
theorem s14 x:u4o x=u9g u4o x:=zW s1e 109 Tryz.f109 15 105 x (by kernel_rfl)
def t0p(g:Z37→Option s8n)(x:Z37):Option s8n:=(bif (decide (x.2<(x.1.2.length:Int))) then(bif (y4q x.2 x.1.2.length) then((((u7j (rdL u0a x.1.2 (x.2).toNat)).bind fun y3=>(bif (!y3) then(some true) else(bif (!decide ((rdL u0a x.1.2 (x.2).toNat).2.1=1)) then(some true) else(bif (decide ((rdL u0a x.1.2 (x.2).toNat).1≥x.1.1.2.2.2.2)) then(some true) else(bif (decide ((rdL u0a x.1.2 (x.2).toNat).2.2.1 >x.1.1.2.2.2.1)) then(some true) else(bif (decide (x.2 >0)) then(bif (y4q (IntKind.i64.wrap (x.2 - 1)) x.1.2.length) then(some (decide ((rdL u0a x.1.2 ((IntKind.i64.wrap (x.2 - 1))).toNat).1≥(rdL u0a x.1.2 (x.2).toNat).1))) else none) else(some false))))))):Option Bool).bind fun j4=>(bif j4 then(some (.inr false)) else((u55 (x.1,(x.2,((rdL u0a x.1.2 (x.2).toNat),0)))).bind fun r5=>match r5 with | .inl o6=>((u4o (o6.1,(o6.2.1,(o6.2.2,0)))).bind fun r7=>match r7 with | .inl o8=>(g (o8.1,(IntKind.i64.wrap (o8.2+1)))) | .inr z9=>(some (.inr z9))) | .inr z10=>(some (.inr z10))))) else none) else(some (.inl ())))
def u5d:=lpW _ _ t0p
theorem s42 x:u5d x=t0p u5d x:=zW s37 109 Tryz.f109 4 105 x (by kernel_rfl)
def s9y (x:Z40):Option Bool:=((((u57 x.1).bind fun y1=>(bif (!y1) then(some true) else(some (decide ((x.2.length:Int) >(4:Int)))))):Option Bool).bind fun j2=>(bif j2 then(some false) else((u5d (x,0)).bind fun r11=>match r11 with | .inl o12=>(some true) | .inr z13=>(some z13))))
theorem q3e:t96=s9y:=zC 109 rfl Tryz.func109 (by kernel_rfl)
def s56(x:s8p):Option Bool:=zK 329 x
def t4m(g:q2b→Option o1z)(x:q2b):Option o1z:=(bif (decide (x.2<(x.1.1.length:Int))) then(bif (y4q x.2 x.1.1.length) then(bif (!decide (((rdL Ty.str x.1.1 (x.2).toNat).size:Int)=(64:Int))) then(some (.inr false)) else(g (x.1,(IntKind.i64.wrap (x.2+1))))) else none) else(some (.inl x.1)))
def t4w:=lpW _ _ t4m
theorem r1x x:t4w x=t4m t4w x:=zW r00 329 Tryz.f329 4 59 x (by kernel_rfl)
def t4n(g:q2b→Option s8n)(x:q2b):Option s8n:=(bif (decide (x.2<(x.1.2.length:Int))) then(((bif (y4q x.2 x.1.2.length) then((u03 ((rdL q6y x.1.2 (x.2).toNat).1,(0,(IntKind.i64.wrap ((x.1.1.length:Int) - (1:Int)))))).bind fun y5=>(bif (!y5) then(some true) else(bif (y4q x.2 x.1.2.length) then(some (!decide (((rdL q6y x.1.2 (x.2).toNat).2.size:Int)=(64:Int)))) else none))) else none):Option Bool).bind fun j6=>(bif j6 then(some (.inr false)) else(g (x.1,(IntKind.i64.wrap (x.2+1)))))) else(some (.inl ())))
def t4x:=lpW _ _ t4n
theorem r1y x:t4x x=t4n t4x x:=zW r01 329 Tryz.f329 9 59 x (by kernel_rfl)
def r6d (x:s8p):Option Bool:=((((u03 ((x.1.length:Int),(1,100))).bind fun y1=>(bif (!y1) then(some true) else(some (decide ((x.2.length:Int) >(60:Int)))))):Option Bool).bind fun j2=>(bif j2 then(some false) else((t4w (x,0)).bind fun r3=>match r3 with | .inl o4=>((t4x (o4,0)).bind fun r7=>match r7 with | .inl o8=>(some true) | .inr z9=>(some z9)) | .inr z10=>(some z10))))
theorem q9a:s56=r6d:=zC 329 rfl Tryz.func329 (by kernel_rfl)
def t57(x:Unit):Option Int:=zK 330 x
def r70 (x:Unit):Option Int:=(some (97:Int))
theorem r8m:t57=r70:=zC 330 rfl Tryz.func330 (by kernel_rfl)
def r09(x:s8p):Option Bool:=zK 212 x
def r9v (x:s8p):Option Bool:=((((s56 x).bind fun y1=>(bif (!y1) then(some true) else((t57 ()).bind fun y2=>(bif (!decide ((x.1.length:Int)=y2)) then(some true) else(some (decide ((x.2.length:Int) >(0:Int)))))))):Option Bool).bind fun j3=>(bif j3 then(some false) else((t0c (x,0)).bind fun y4=>((t0c (x,1)).bind fun y5=>(((bif y4.2.2 then(some y5.2.2) else(some false)):Option Bool).bind fun j6=>(some j6))))))
theorem p09:r09=r9v:=zC 212 rfl Tryz.func212 (by kernel_rfl)
def t5k(x:o2h):Option Bool:=zK 331 x
def t01(g:Z94→Option s8n)(x:Z94):Option s8n:=(bif (decide (x.2.2<(x.1.length:Int))) then(bif (y4q x.2.2 x.1.length) then((u85 (rdL u0a x.1 (x.2.2).toNat)).bind fun y1=>(bif (y4q x.2.2 x.2.1.length) then((u85 (rdL u0a x.2.1 (x.2.2).toNat)).bind fun y2=>(((bif (!(y1.2==y2.2)) then(some true) else(some (!z7o y1.1 y2.1))):Option Bool).bind fun j3=>(bif j3 then(some (.inr false)) else(g (x.1,(x.2.1,(IntKind.i64.wrap (x.2.2+1)))))))) else none)) else none) else(some (.inl ())))
def t1h:=lpW _ _ t01
theorem s5e x:t1h x=t01 t1h x:=zW s4j 331 Tryz.f331 4 45 x (by kernel_rfl)
def r0c (x:o2h):Option Bool:=(bif (!decide ((x.1.length:Int)=(x.2.length:Int))) then(some false) else((t1h (x.1,(x.2,0))).bind fun r4=>match r4 with | .inl o5=>(some true) | .inr z6=>(some z6)))
theorem q3r:t5k=r0c:=zC 331 rfl Tryz.func331 (by kernel_rfl)
def s58(x:p9x):Option s2v:=zK 27 x
def r6h (x:p9x):Option s2v:=((s1u x).bind fun y1=>(((bif (decide (y1<0)) then(some true) else(bif (y4q y1 x.1.length) then(some (rdL u0d x.1 (y1).toNat).2.2.1) else none)):Option Bool).bind fun j2=>(bif j2 then(some ((⟨#[]⟩:ByteArray),false)) else(bif (y4q y1 x.1.length) then(some ((rdL u0d x.1 (y1).toNat).2.1,true)) else none))))
theorem q9e:s58=r6h:=zC 27 rfl Tryz.func27 (by kernel_rfl)
def s2t(x:o54):Option r5e:=zK 153 x
def t28(g:Z69→Option (Z75⊕Unit))(x:Z69):Option (Z75⊕Unit):=(bif (decide (x.2.2.2.2.2.2<(x.2.2.1.length:Int))) then(bif (y4q x.2.2.2.2.2.2 x.2.2.1.length) then(bif (y3c (rdL Ty.str x.2.2.1 (x.2.2.2.2.2.2).toNat) x.2.2.2.2.1) then(bif (y4q x.2.2.2.2.2.2 x.2.2.1.length) then(bif (Nat.ble (x.2.2.2.2.2.1.length+([(rdL Ty.str x.2.2.1 (x.2.2.2.2.2.2).toNat)] :List ByteArray).length) z7w) then(g (x.1,(x.2.1,(x.2.2.1,(x.2.2.2.1,(x.2.2.2.2.1,((x.2.2.2.2.2.1++([(rdL Ty.str x.2.2.1 (x.2.2.2.2.2.2).toNat)] :List ByteArray)),(IntKind.i64.wrap (x.2.2.2.2.2.2+1))))))))) else none) else none) else(g (x.1,(x.2.1,(x.2.2.1,(x.2.2.2.1,(x.2.2.2.2.1,(x.2.2.2.2.2.1,(IntKind.i64.wrap (x.2.2.2.2.2.2+1)))))))))) else none) else(some (.inl (x.1,(x.2.1,(x.2.2.1,(x.2.2.2.1,(x.2.2.2.2.1,x.2.2.2.2.2.1))))))))
def u8t:=lpW _ _ t28
theorem s8k x:u8t x=t28 u8t x:=zW s7s 153 Tryz.f153 9 72 x (by kernel_rfl)
def t0z(g:Z69→Option (Z99⊕Unit))(x:Z69):Option (Z99⊕Unit):=(bif (decide (x.2.2.2.2.2.2<(x.2.2.1.length:Int))) then(bif (y4q x.2.2.2.2.2.2 x.2.2.1.length) then(bif (!(y3c (rdL Ty.str x.2.2.1 (x.2.2.2.2.2.2).toNat) x.2.2.2.2.1 || z7o (rdL Ty.str x.2.2.1 (x.2.2.2.2.2.2).toNat) x.2.2.2.2.1)) then(bif (y4q x.2.2.2.2.2.2 x.2.2.1.length) then(bif (Nat.ble (x.2.2.2.2.2.1.length+([(rdL Ty.str x.2.2.1 (x.2.2.2.2.2.2).toNat)] :List ByteArray).length) z7w) then(g (x.1,(x.2.1,(x.2.2.1,(x.2.2.2.1,(x.2.2.2.2.1,((x.2.2.2.2.2.1++([(rdL Ty.str x.2.2.1 (x.2.2.2.2.2.2).toNat)] :List ByteArray)),(IntKind.i64.wrap (x.2.2.2.2.2.2+1))))))))) else none) else none) else(g (x.1,(x.2.1,(x.2.2.1,(x.2.2.2.1,(x.2.2.2.2.1,(x.2.2.2.2.2.1,(IntKind.i64.wrap (x.2.2.2.2.2.2+1)))))))))) else none) else(some (.inl (x.1,(x.2.1,(x.2.2.2.1,x.2.2.2.2.2.1))))))
def u6x:=lpW _ _ t0z
theorem s5c x:u6x x=t0z u6x x:=zW s4h 153 Tryz.f153 15 72 x (by kernel_rfl)
def t27(g:Z98→Option o1x)(x:Z98):Option o1x:=(bif (decide (x.2.2.2<(x.1.length:Int))) then(bif (y4q x.2.2.2 x.1.length) then((t61 (x.2.1,(rdL u0d x.1 (x.2.2.2).toNat).1)).bind fun y1=>(bif (!y1) then(g (x.1,(x.2.1,(x.2.2.1,(IntKind.i64.wrap (x.2.2.2+1)))))) else((u8t (x.1,(x.2.1,(x.2.2.1,(x.2.2.2,((rdL u0d x.1 (x.2.2.2).toNat).1,(([] :List ByteArray),0))))))).bind fun r2=>match r2 with | .inl o3=>(bif (Nat.ble (o3.2.2.2.2.2.length+([o3.2.2.2.2.1] :List ByteArray).length) z7w) then((u6x (o3.1,(o3.2.1,(o3.2.2.1,(o3.2.2.2.1,(o3.2.2.2.2.1,((o3.2.2.2.2.2++([o3.2.2.2.2.1] :List ByteArray)),0))))))).bind fun r4=>match r4 with | .inl o5=>(g (o5.1,(o5.2.1,(o5.2.2.2,(IntKind.i64.wrap (o5.2.2.1+1)))))) | .inr z6=>(some (.inr ()))) else none) | .inr z7=>(some (.inr ()))))) else none) else(some (.inl x.2.2.1)))
def t3k:=lpW _ _ t27
theorem s8j x:t3k x=t27 t3k x:=zW s7r 153 Tryz.f153 3 72 x (by kernel_rfl)
def r34 (x:o54):Option r5e:=((t3k (x.1,(x.2,(([] :List ByteArray),0)))).bind fun r8=>match r8 with | .inl o9=>(some o9) | .inr z10=>none)
theorem q6f:s2t=r34:=zC 153 rfl Tryz.func153 (by kernel_rfl)
def u4c(x:o3o):Option p3u:=zK 46 x
def t4o(g:o5c→Option o1y)(x:o5c):Option o1y:=(bif (decide (x.2.2.2.2<(x.2.2.2.1.length:Int))) then(bif (y4q x.2.2.2.2 x.2.2.2.1.length) then((s58 (x.1,((rdL Ty.str x.2.2.2.1 (x.2.2.2.2).toNat),x.2.1))).bind fun y2=>(bif y2.2 then(bif (y4q x.2.2.2.2 x.2.2.2.1.length) then(bif (Nat.ble (x.2.2.1.length+([((rdL Ty.str x.2.2.2.1 (x.2.2.2.2).toNat),y2.1)] :List r4y.den).length) z7w) then(g (x.1,(x.2.1,((x.2.2.1++([((rdL Ty.str x.2.2.2.1 (x.2.2.2.2).toNat),y2.1)] :List r4y.den)),(x.2.2.2.1,(IntKind.i64.wrap (x.2.2.2.2+1))))))) else none) else none) else(g (x.1,(x.2.1,(x.2.2.1,(x.2.2.2.1,(IntKind.i64.wrap (x.2.2.2.2+1))))))))) else none) else(some (.inl x.2.2.1)))
def t4y:=lpW _ _ t4o
theorem r1z x:t4y x=t4o t4y x:=zW r02 46 Tryz.f46 4 43 x (by kernel_rfl)
def r6f (x:o3o):Option p3u:=((s2t (x.1,x.2.1)).bind fun y1=>((t4y (x.1,(x.2.2,(([] :List r4y.den),(y1,0))))).bind fun r3=>match r3 with | .inl o4=>(some o4) | .inr z5=>none))
theorem q9c:u4c=r6f:=zC 46 rfl Tryz.func46 (by kernel_rfl)
def u65(x:o13):Option Bool:=zK 265 x
def t00(g:o1t→Option s8n)(x:o1t):Option s8n:=(bif (decide (x.2.2<(x.1.length:Int))) then(bif (y4q x.2.2 x.1.length) then(bif (y4q x.2.2 x.2.1.length) then(bif (!(z7o (rdL r4y x.1 (x.2.2).toNat).1 (rdL r4y x.2.1 (x.2.2).toNat).1&&(z7o (rdL r4y x.1 (x.2.2).toNat).2 (rdL r4y x.2.1 (x.2.2).toNat).2&&true))) then(some (.inr false)) else(g (x.1,(x.2.1,(IntKind.i64.wrap (x.2.2+1)))))) else none) else none) else(some (.inl ())))
def t1g:=lpW _ _ t00
theorem s5d x:t1g x=t00 t1g x:=zW s4i 265 Tryz.f265 4 26 x (by kernel_rfl)
def s99 (x:o13):Option Bool:=(bif (!decide ((x.1.length:Int)=(x.2.length:Int))) then(some false) else((t1g (x.1,(x.2,0))).bind fun r1=>match r1 with | .inl o2=>(some true) | .inr z3=>(some z3)))
theorem q3o:u65=s99:=zC 265 rfl Tryz.func265 (by kernel_rfl)
def r7c(x:Unit):Option p2f:=zK 338 x
def r6k (x:Unit):Option p2f:=(some ((⟨#[97]⟩:ByteArray),(⟨#[122,122,122]⟩:ByteArray)))
theorem q9h:r7c=r6k:=zC 338 rfl Tryz.func338 (by kernel_rfl)
def s0b(x:p8e):Option Bool:=zK 332 x
def t0t(g:Z91→Option s8n)(x:Z91):Option s8n:=(bif (decide (x.2.2.2.2<(IntKind.i64.wrap ((x.1.length:Int)+(x.2.1.length:Int))))) then(bif (decide (x.2.2.2.2<(x.1.length:Int))) then(bif (y4q x.2.2.2.2 x.1.length) then(((bif (decide ((rdL u0d x.1 (x.2.2.2.2).toNat).2.2.2 >x.2.2.1)) then((u4c (x.1,(x.2.2.2.1,(rdL u0d x.1 (x.2.2.2.2).toNat).2.2.2))).bind fun y5=>((u4c (x.2.1,(x.2.2.2.1,(rdL u0d x.1 (x.2.2.2.2).toNat).2.2.2))).bind fun y6=>((u65 (y5,y6)).bind fun y7=>(some (!y7))))) else(some false)):Option Bool).bind fun j8=>(bif j8 then(some (.inr false)) else(g (x.1,(x.2.1,(x.2.2.1,(x.2.2.2.1,(IntKind.i64.wrap (x.2.2.2.2+1))))))))) else none) else(bif (y4q (IntKind.i64.wrap (x.2.2.2.2 - (x.1.length:Int))) x.2.1.length) then(((bif (decide ((rdL u0d x.2.1 ((IntKind.i64.wrap (x.2.2.2.2 - (x.1.length:Int)))).toNat).2.2.2 >x.2.2.1)) then((u4c (x.1,(x.2.2.2.1,(rdL u0d x.2.1 ((IntKind.i64.wrap (x.2.2.2.2 - (x.1.length:Int)))).toNat).2.2.2))).bind fun y9=>((u4c (x.2.1,(x.2.2.2.1,(rdL u0d x.2.1 ((IntKind.i64.wrap (x.2.2.2.2 - (x.1.length:Int)))).toNat).2.2.2))).bind fun y10=>((u65 (y9,y10)).bind fun y11=>(some (!y11))))) else(some false)):Option Bool).bind fun j12=>(bif j12 then(some (.inr false)) else(g (x.1,(x.2.1,(x.2.2.1,(x.2.2.2.1,(IntKind.i64.wrap (x.2.2.2.2+1))))))))) else none)) else(some (.inl ())))
def t1d:=lpW _ _ t0t
theorem s46 x:t1d x=t0t t1d x:=zW s4b 332 Tryz.f332 5 62 x (by kernel_rfl)
def s95 (x:p8e):Option Bool:=((r7c ()).bind fun y1=>((u4c (x.1,(y1,x.2.2))).bind fun y2=>((u4c (x.2.1,(y1,x.2.2))).bind fun y3=>((u65 (y2,y3)).bind fun y4=>(bif (!y4) then(some false) else((t1d (x.1,(x.2.1,(x.2.2,(y1,0))))).bind fun r13=>match r13 with | .inl o14=>(some true) | .inr z15=>(some z15)))))))
theorem q3l:s0b=s95:=zC 332 rfl Tryz.func332 (by kernel_rfl)
def t97(x:Z25):Option Bool:=zK 213 x
def s9z (x:Z25):Option Bool:=(((bif (decide (x.1.2.2.2.1=x.2.2.2.2.1)) then((t5k (x.1.2.1,x.2.2.1)).bind fun y1=>(bif y1 then((t5k (x.1.2.2.1,x.2.2.2.1)).bind fun y2=>(bif y2 then((s0b (x.1.1,(x.2.1,x.1.2.2.2.1))).bind fun y3=>(some y3)) else(some false))) else(some false))) else(some false)):Option Bool).bind fun j4=>(some j4))
theorem q3f:t97=s9z:=zC 213 rfl Tryz.func213 (by kernel_rfl)
def s2o(x:Z31):Option Bool:=zK 81 x
def r3v (x:Z31):Option Bool:=((((t96 x.1).bind fun y1=>(bif (!y1) then(some true) else((r09 x.2).bind fun y2=>(some (!y2))))):Option Bool).bind fun j3=>(bif j3 then(some false) else((t62 x.2).bind fun y4=>(bif y4.2 then((t8m (x.1.1,([] :List u0a.den))).bind fun y5=>((t97 (y4.1,y5)).bind fun y6=>(some y6))) else(some false)))))
theorem q57:s2o=r3v:=zC 81 rfl Tryz.func81 (by kernel_rfl)
def t6z(x:p2f):Option p2f:=zK 438 x
def q41 (x:p2f):Option p2f:=(some x)
theorem q5v:t6z=q41:=zC 438 rfl Tryz.func438 (by kernel_rfl)
def t92(x:p3u):Option p3u:=zK 380 x
def s20(g:o1t→Option o1y)(x:o1t):Option o1y:=(bif (decide (x.2.2<(x.1.length:Int))) then(bif (y4q x.2.2 x.1.length) then((t6z (rdL r4y x.1 (x.2.2).toNat)).bind fun y1=>(bif (y4q x.2.2 x.2.1.length) then(g (x.1,((x.2.1.set (x.2.2).toNat y1),(IntKind.i64.wrap (x.2.2+1))))) else none)) else none) else(some (.inl x.2.1)))
def u6q:=lpW _ _ s20
theorem r84 x:u6q x=s20 u6q x:=zW s34 380 Tryz.f380 3 23 x (by kernel_rfl)
def s9u (x:p3u):Option p3u:=(bif (decide (0≤(x.length:Int))&&decide ((x.length:Int)≤1099511627776)) then((u6q (x,((List.replicate ((x.length:Int)).toNat (r4y).zero),0))).bind fun r2=>match r2 with | .inl o3=>(some o3) | .inr z4=>none) else none)
theorem q3a:t92=s9u:=zC 380 rfl Tryz.func380 (by kernel_rfl)
def t60(x:p97):Option p97:=zK 439 x
def q42 (x:p97):Option p97:=(some x)
theorem q5x:t60=q42:=zC 439 rfl Tryz.func439 (by kernel_rfl)
def t93(x:q7v):Option q7v:=zK 381 x
def s21(g:o3t→Option (q7v⊕Unit))(x:o3t):Option (q7v⊕Unit):=(bif (decide (x.2.2<(x.1.length:Int))) then(bif (y4q x.2.2 x.1.length) then((t60 (rdL u2v x.1 (x.2.2).toNat)).bind fun y1=>(bif (y4q x.2.2 x.2.1.length) then(g (x.1,((x.2.1.set (x.2.2).toNat y1),(IntKind.i64.wrap (x.2.2+1))))) else none)) else none) else(some (.inl x.2.1)))
def u6r:=lpW _ _ s21
theorem r85 x:u6r x=s21 u6r x:=zW s35 381 Tryz.f381 3 23 x (by kernel_rfl)
def s9v (x:q7v):Option q7v:=(bif (decide (0≤(x.length:Int))&&decide ((x.length:Int)≤1099511627776)) then((u6r (x,((List.replicate ((x.length:Int)).toNat (u2v).zero),0))).bind fun r2=>match r2 with | .inl o3=>(some o3) | .inr z4=>none) else none)
theorem q3b:t93=s9v:=zC 381 rfl Tryz.func381 (by kernel_rfl)
def s1q(x:Z84):Option Z84:=zK 268 x
def r9s (x:Z84):Option Z84:=((t92 x.2.2.2.2.1).bind fun y1=>((t93 x.2.2.2.2.2.1).bind fun y2=>(some (x.1,(x.2.1,(x.2.2.1,(x.2.2.2.1,(y1,(y2,x.2.2.2.2.2.2)))))))))
theorem p06:s1q=r9s:=zC 268 rfl Tryz.func268 (by kernel_rfl)
def t5g(x:r7w):Option r7w:=zK 133 x
def s82(g:Z94→Option p98)(x:Z94):Option p98:=(bif (decide (x.2.2<(x.1.length:Int))) then(bif (y4q x.2.2 x.1.length) then((s1q (rdL u0a x.1 (x.2.2).toNat)).bind fun y1=>(bif (y4q x.2.2 x.2.1.length) then(g (x.1,((x.2.1.set (x.2.2).toNat y1),(IntKind.i64.wrap (x.2.2+1))))) else none)) else none) else(some (.inl x.2.1)))
def u92:=lpW _ _ s82
theorem q4t x:u92 x=s82 u92 x:=zW r0y 133 Tryz.f133 3 23 x (by kernel_rfl)
def r6a (x:r7w):Option r7w:=(bif (decide (0≤(x.length:Int))&&decide ((x.length:Int)≤1099511627776)) then((u92 (x,((List.replicate ((x.length:Int)).toNat (u0a).zero),0))).bind fun r2=>match r2 with | .inl o3=>(some o3) | .inr z4=>none) else none)
theorem q87:t5g=r6a:=zC 133 rfl Tryz.func133 (by kernel_rfl)
def t3u(x:p74):Option p74:=zK 459 x
def q0q (x:p74):Option p74:=(some x)
theorem q1a:t3u=q0q:=zC 459 rfl Tryz.func459 (by kernel_rfl)
def t52(x:s6c):Option s6c:=zK 402 x
def t8z(g:p8e→Option p58)(x:p8e):Option p58:=(bif (decide (x.2.2<(x.1.length:Int))) then(bif (y4q x.2.2 x.1.length) then((t3u (rdL u0d x.1 (x.2.2).toNat)).bind fun y1=>(bif (y4q x.2.2 x.2.1.length) then(g (x.1,((x.2.1.set (x.2.2).toNat y1),(IntKind.i64.wrap (x.2.2+1))))) else none)) else none) else(some (.inl x.2.1)))
def u5h:=lpW _ _ t8z
theorem r5d x:u5h x=t8z u5h x:=zW t9c 402 Tryz.f402 3 23 x (by kernel_rfl)
def s3e (x:s6c):Option s6c:=(bif (decide (0≤(x.length:Int))&&decide ((x.length:Int)≤1099511627776)) then((u5h (x,((List.replicate ((x.length:Int)).toNat (u0d).zero),0))).bind fun r2=>match r2 with | .inl o3=>(some o3) | .inr z4=>none) else none)
theorem r8g:t52=s3e:=zC 402 rfl Tryz.func402 (by kernel_rfl)
def s52(x:Z71):Option Z71:=zK 333 x
def r57 (x:Z71):Option Z71:=((t52 x.1).bind fun y1=>((t5g x.2.1).bind fun y2=>((t5g x.2.2.1).bind fun y3=>(some (y1,(y2,(y3,x.2.2.2)))))))
theorem q84:s52=r57:=zC 333 rfl Tryz.func333 (by kernel_rfl)
def t91(x:Z40):Option Z40:=zK 214 x
def s9t (x:Z40):Option Z40:=((s52 x.1).bind fun y1=>((t5g x.2).bind fun y2=>(some (y1,y2))))
theorem q29:t91=s9t:=zC 214 rfl Tryz.func214 (by kernel_rfl)
def t7w(x:r5e):Option r5e:=zK 135 x
def s0u(g:o3v→Option o1x)(x:o3v):Option o1x:=(bif (decide (x.2.2<(x.1.length:Int))) then(bif (y4q x.2.2 x.1.length) then(bif (y4q x.2.2 x.2.1.length) then(g (x.1,((x.2.1.set (x.2.2).toNat (rdL Ty.str x.1 (x.2.2).toNat)),(IntKind.i64.wrap (x.2.2+1))))) else none) else none) else(some (.inl x.2.1)))
def u54:=lpW _ _ s0u
theorem r7t x:u54 x=s0u u54 x:=zW s1c 135 Tryz.f135 3 22 x (by kernel_rfl)
def s6v (x:r5e):Option r5e:=(bif (decide (0≤(x.length:Int))&&decide ((x.length:Int)≤1099511627776)) then((u54 (x,((List.replicate ((x.length:Int)).toNat (Ty.str).zero),0))).bind fun r1=>match r1 with | .inl o2=>(some o2) | .inr z3=>none) else none)
theorem q09:t7w=s6v:=zC 135 rfl Tryz.func135 (by kernel_rfl)
def s1p(x:p77):Option p77:=zK 403 x
def p0r (x:p77):Option p77:=(some x)
theorem p05:s1p=p0r:=zC 403 rfl Tryz.func403 (by kernel_rfl)
def s54(x:p4u):Option p4u:=zK 334 x
def s81(g:o3w→Option (p4u⊕Unit))(x:o3w):Option (p4u⊕Unit):=(bif (decide (x.2.2<(x.1.length:Int))) then(bif (y4q x.2.2 x.1.length) then((s1p (rdL q6y x.1 (x.2.2).toNat)).bind fun y1=>(bif (y4q x.2.2 x.2.1.length) then(g (x.1,((x.2.1.set (x.2.2).toNat y1),(IntKind.i64.wrap (x.2.2+1))))) else none)) else none) else(some (.inl x.2.1)))
def u91:=lpW _ _ s81
theorem q4s x:u91 x=s81 u91 x:=zW r0x 334 Tryz.f334 3 23 x (by kernel_rfl)
def r59 (x:p4u):Option p4u:=(bif (decide (0≤(x.length:Int))&&decide ((x.length:Int)≤1099511627776)) then((u91 (x,((List.replicate ((x.length:Int)).toNat (q6y).zero),0))).bind fun r2=>match r2 with | .inl o3=>(some o3) | .inr z4=>none) else none)
theorem q86:s54=r59:=zC 334 rfl Tryz.func334 (by kernel_rfl)
def s53(x:s8p):Option s8p:=zK 215 x
def r58 (x:s8p):Option s8p:=((t7w x.1).bind fun y1=>((s54 x.2).bind fun y2=>(some (y1,y2))))
theorem q85:s53=r58:=zC 215 rfl Tryz.func215 (by kernel_rfl)
def t2d(x:Z31):Option Z31:=zK 82 x
def r3l (x:Z31):Option Z31:=((t91 x.1).bind fun y1=>((s53 x.2).bind fun y2=>(some (y1,y2))))
theorem q5w:t2d=r3l:=zC 82 rfl Tryz.func82 (by kernel_rfl)
def t6v(x:o5z):Option Bool:=zK 440 x
def r3f (x:o5z):Option Bool:=(bif (!z7o x.1.1 x.2.1) then(some false) else(bif (!z7o x.1.2 x.2.2) then(some false) else(some true)))
theorem q5p:t6v=r3f:=zC 440 rfl Tryz.func440 (by kernel_rfl)
def t9w(x:o13):Option Bool:=zK 382 x
def s2w(g:o1t→Option s8n)(x:o1t):Option s8n:=(bif (decide (x.2.2<(x.1.length:Int))) then(bif (y4q x.2.2 x.1.length) then(bif (y4q x.2.2 x.2.1.length) then((t6v ((rdL r4y x.1 (x.2.2).toNat),(rdL r4y x.2.1 (x.2.2).toNat))).bind fun y1=>(bif (!y1) then(some (.inr false)) else(g (x.1,(x.2.1,(IntKind.i64.wrap (x.2.2+1))))))) else none) else none) else(some (.inl ())))
def u6o:=lpW _ _ s2w
theorem r80 x:u6o x=s2w u6o x:=zW s30 382 Tryz.f382 4 27 x (by kernel_rfl)
def s9o (x:o13):Option Bool:=(bif (!decide ((x.1.length:Int)=(x.2.length:Int))) then(some false) else((u6o (x.1,(x.2,0))).bind fun r2=>match r2 with | .inl o3=>(some true) | .inr z4=>(some z4)))
theorem q24:t9w=s9o:=zC 382 rfl Tryz.func382 (by kernel_rfl)
def t6w(x:o5i):Option Bool:=zK 441 x
def r3h (x:o5i):Option Bool:=(bif (!z7o x.1.1 x.2.1) then(some false) else(bif (!z7o x.1.2.1 x.2.2.1) then(some false) else(bif (!(x.1.2.2==x.2.2.2)) then(some false) else(some true))))
theorem q5r:t6w=r3h:=zC 441 rfl Tryz.func441 (by kernel_rfl)
def t9x(x:o6a):Option Bool:=zK 383 x
def s2x(g:o3t→Option s8n)(x:o3t):Option s8n:=(bif (decide (x.2.2<(x.1.length:Int))) then(bif (y4q x.2.2 x.1.length) then(bif (y4q x.2.2 x.2.1.length) then((t6w ((rdL u2v x.1 (x.2.2).toNat),(rdL u2v x.2.1 (x.2.2).toNat))).bind fun y1=>(bif (!y1) then(some (.inr false)) else(g (x.1,(x.2.1,(IntKind.i64.wrap (x.2.2+1))))))) else none) else none) else(some (.inl ())))
def u6p:=lpW _ _ s2x
theorem r81 x:u6p x=s2x u6p x:=zW s31 383 Tryz.f383 4 27 x (by kernel_rfl)
def s9p (x:o6a):Option Bool:=(bif (!decide ((x.1.length:Int)=(x.2.length:Int))) then(some false) else((u6p (x.1,(x.2,0))).bind fun r2=>match r2 with | .inl o3=>(some true) | .inr z4=>(some z4)))
theorem q25:t9x=s9p:=zC 383 rfl Tryz.func383 (by kernel_rfl)
def s1m(x:Z32):Option Bool:=zK 269 x
def r9p (x:Z32):Option Bool:=(bif (!decide (x.1.1=x.2.1)) then(some false) else(bif (!decide (x.1.2.1=x.2.2.1)) then(some false) else(bif (!decide (x.1.2.2.1=x.2.2.2.1)) then(some false) else(bif (!decide (x.1.2.2.2.1=x.2.2.2.2.1)) then(some false) else((t9w (x.1.2.2.2.2.1,x.2.2.2.2.2.1)).bind fun y1=>(bif (!y1) then(some false) else((t9x (x.1.2.2.2.2.2.1,x.2.2.2.2.2.2.1)).bind fun y2=>(bif (!y2) then(some false) else(bif (!(x.1.2.2.2.2.2.2.1==x.2.2.2.2.2.2.2.1)) then(some false) else(bif (!z7o x.1.2.2.2.2.2.2.2 x.2.2.2.2.2.2.2.2) then(some false) else(some true)))))))))))
theorem p02:s1m=r9p:=zC 269 rfl Tryz.func269 (by kernel_rfl)
def t5e(x:o2h):Option Bool:=zK 136 x
def s8y(g:Z94→Option s8n)(x:Z94):Option s8n:=(bif (decide (x.2.2<(x.1.length:Int))) then(bif (y4q x.2.2 x.1.length) then(bif (y4q x.2.2 x.2.1.length) then((s1m ((rdL u0a x.1 (x.2.2).toNat),(rdL u0a x.2.1 (x.2.2).toNat))).bind fun y1=>(bif (!y1) then(some (.inr false)) else(g (x.1,(x.2.1,(IntKind.i64.wrap (x.2.2+1))))))) else none) else none) else(some (.inl ())))
def u90:=lpW _ _ s8y
theorem q4p x:u90 x=s8y u90 x:=zW r0u 136 Tryz.f136 4 27 x (by kernel_rfl)
def r52 (x:o2h):Option Bool:=(bif (!decide ((x.1.length:Int)=(x.2.length:Int))) then(some false) else((u90 (x.1,(x.2,0))).bind fun r2=>match r2 with | .inl o3=>(some true) | .inr z4=>(some z4)))
theorem q8z:t5e=r52:=zC 136 rfl Tryz.func136 (by kernel_rfl)
def t3s(x:Z92):Option Bool:=zK 460 x
def s6s (x:Z92):Option Bool:=(bif (!z7o x.1.1 x.2.1) then(some false) else(bif (!z7o x.1.2.1 x.2.2.1) then(some false) else(bif (!(x.1.2.2.1==x.2.2.2.1)) then(some false) else(bif (!decide (x.1.2.2.2=x.2.2.2.2)) then(some false) else(some true)))))
theorem q06:t3s=s6s:=zC 460 rfl Tryz.func460 (by kernel_rfl)
def t5y(x:o3x):Option Bool:=zK 404 x
def t8x(g:p8e→Option s8n)(x:p8e):Option s8n:=(bif (decide (x.2.2<(x.1.length:Int))) then(bif (y4q x.2.2 x.1.length) then(bif (y4q x.2.2 x.2.1.length) then((t3s ((rdL u0d x.1 (x.2.2).toNat),(rdL u0d x.2.1 (x.2.2).toNat))).bind fun y1=>(bif (!y1) then(some (.inr false)) else(g (x.1,(x.2.1,(IntKind.i64.wrap (x.2.2+1))))))) else none) else none) else(some (.inl ())))
def u5g:=lpW _ _ t8x
theorem r5b x:u5g x=t8x u5g x:=zW t9a 404 Tryz.f404 4 27 x (by kernel_rfl)
def s3c (x:o3x):Option Bool:=(bif (!decide ((x.1.length:Int)=(x.2.length:Int))) then(some false) else((u5g (x.1,(x.2,0))).bind fun r2=>match r2 with | .inl o3=>(some true) | .inr z4=>(some z4)))
theorem r8e:t5y=s3c:=zC 404 rfl Tryz.func404 (by kernel_rfl)
def s5w(x:Z25):Option Bool:=zK 335 x
def r5z (x:Z25):Option Bool:=((t5y (x.1.1,x.2.1)).bind fun y1=>(bif (!y1) then(some false) else((t5e (x.1.2.1,x.2.2.1)).bind fun y2=>(bif (!y2) then(some false) else((t5e (x.1.2.2.1,x.2.2.2.1)).bind fun y3=>(bif (!y3) then(some false) else(bif (!decide (x.1.2.2.2.1=x.2.2.2.2.1)) then(some false) else(bif (!decide (x.1.2.2.2.2=x.2.2.2.2.2)) then(some false) else(some true)))))))))
theorem q8w:s5w=r5z:=zC 335 rfl Tryz.func335 (by kernel_rfl)
def t9v(x:Z15):Option Bool:=zK 216 x
def s9n (x:Z15):Option Bool:=((s5w (x.1.1,x.2.1)).bind fun y1=>(bif (!y1) then(some false) else((t5e (x.1.2,x.2.2)).bind fun y2=>(bif (!y2) then(some false) else(some true)))))
theorem q23:t9v=s9n:=zC 216 rfl Tryz.func216 (by kernel_rfl)
def t7u(x:o6b):Option Bool:=zK 138 x
def s0s(g:o3v→Option s8n)(x:o3v):Option s8n:=(bif (decide (x.2.2<(x.1.length:Int))) then(bif (y4q x.2.2 x.1.length) then(bif (y4q x.2.2 x.2.1.length) then(bif (!z7o (rdL Ty.str x.1 (x.2.2).toNat) (rdL Ty.str x.2.1 (x.2.2).toNat)) then(some (.inr false)) else(g (x.1,(x.2.1,(IntKind.i64.wrap (x.2.2+1)))))) else none) else none) else(some (.inl ())))
def u53:=lpW _ _ s0s
theorem r7r x:u53 x=s0s u53 x:=zW s1a 138 Tryz.f138 4 26 x (by kernel_rfl)
def s6r (x:o6b):Option Bool:=(bif (!decide ((x.1.length:Int)=(x.2.length:Int))) then(some false) else((u53 (x.1,(x.2,0))).bind fun r1=>match r1 with | .inl o2=>(some true) | .inr z3=>(some z3)))
theorem q05:t7u=s6r:=zC 138 rfl Tryz.func138 (by kernel_rfl)
def s1l(x:o59):Option Bool:=zK 405 x
def r9o (x:o59):Option Bool:=(bif (!decide (x.1.1=x.2.1)) then(some false) else(bif (!z7o x.1.2 x.2.2) then(some false) else(some true)))
theorem p01:s1l=r9o:=zC 405 rfl Tryz.func405 (by kernel_rfl)
def s5y(x:(p4u×p4u)):Option Bool:=zK 336 x
def s8x(g:o3w→Option s8n)(x:o3w):Option s8n:=(bif (decide (x.2.2<(x.1.length:Int))) then(bif (y4q x.2.2 x.1.length) then(bif (y4q x.2.2 x.2.1.length) then((s1l ((rdL q6y x.1 (x.2.2).toNat),(rdL q6y x.2.1 (x.2.2).toNat))).bind fun y1=>(bif (!y1) then(some (.inr false)) else(g (x.1,(x.2.1,(IntKind.i64.wrap (x.2.2+1))))))) else none) else none) else(some (.inl ())))
def u9z:=lpW _ _ s8x
theorem q4o x:u9z x=s8x u9z x:=zW r0t 336 Tryz.f336 4 27 x (by kernel_rfl)
def r51 (x:(p4u×p4u)):Option Bool:=(bif (!decide ((x.1.length:Int)=(x.2.length:Int))) then(some false) else((u9z (x.1,(x.2,0))).bind fun r2=>match r2 with | .inl o3=>(some true) | .inr z4=>(some z4)))
theorem q8y:s5y=r51:=zC 336 rfl Tryz.func336 (by kernel_rfl)
def s5x(x:Z97):Option Bool:=zK 217 x
def r50 (x:Z97):Option Bool:=((t7u (x.1.1,x.2.1)).bind fun y1=>(bif (!y1) then(some false) else((s5y (x.1.2,x.2.2)).bind fun y2=>(bif (!y2) then(some false) else(some true)))))
theorem q8x:s5x=r50:=zC 217 rfl Tryz.func217 (by kernel_rfl)
def s2j(x:Z9):Option Bool:=zK 83 x
def r3g (x:Z9):Option Bool:=((t9v (x.1.1,x.2.1)).bind fun y1=>(bif (!y1) then(some false) else((s5x (x.1.2,x.2.2)).bind fun y2=>(bif (!y2) then(some false) else(some true)))))
theorem q5q:s2j=r3g:=zC 83 rfl Tryz.func83 (by kernel_rfl)
def t7l(x:Z31):Option Bool:=zK 11 x
def t7d (x:Z31):Option Bool:=((s2k (x,1048576)).bind fun y1=>(bif (decide (y1<0)) then(some true) else((t2d x).bind fun y2=>((s2o y2).bind fun y3=>((t2d x).bind fun y4=>((s2d y4).bind fun y5=>(bif (!(y5==y3)) then(some false) else((t2d x).bind fun y6=>((s2j (y4,y6)).bind fun y7=>(bif (!y7) then(some false) else(some true)))))))))))
theorem r0i:t7l=t7d:=zC 11 rfl Tryz.func11 (by kernel_rfl)
end
end Go.Proofs.YtbkicjpdlchbgaaGreat.Ab
