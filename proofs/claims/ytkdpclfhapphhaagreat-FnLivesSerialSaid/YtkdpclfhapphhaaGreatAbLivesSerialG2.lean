import Derived.Test.YtkdpclfhapphhaaGreatAbLivesSerialG1
namespace Go.Proofs.YtkdpclfhapphhaaGreat.Ab
open Go
set_option linter.unusedVariables false
noncomputable section
set_option maxRecDepth 100000
def s6b(x:u7f):Ht s63:=zK 117 x
def t4q(g:d2c→Ht (j2k⊕Unit))(x:d2c):Ht (j2k⊕Unit):=cond (decide (x.2.2<(x.1.1.length:Int))) (cond (y4q x.2.2 x.1.1.length) ((u3n (rdL u0h x.1.1 x.2.2.toNat).1).bind fun y5=>cond (decide (x.2.1.size+y5.size≤140737488355328)) ((u3n (rdL u0h x.1.1 x.2.2.toNat).2.1).bind fun y6=>cond (decide ((x.2.1++y5).size+y6.size≤140737488355328)) ((t5r (rdL u0h x.1.1 x.2.2.toNat).2.2.1).bind fun y7=>cond (decide (((x.2.1++y5)++y6).size+y7.size≤140737488355328)) ((u13 (rdL u0h x.1.1 x.2.2.toNat).2.2.2).bind fun y8=>cond (decide ((((x.2.1++y5)++y6)++y7).size+y8.size≤140737488355328)) (g (x.1,(((x.2.1++y5)++y6)++y7)++y8,IntKind.i64.wrap (x.2.2+1))) none) none) none) none) none) (some (.inl (x.1,x.2.1)))
def u9e:=lpW _ _ t4q
theorem r1q x:u9e x=t4q u9e x:=zW r0t 117 Tryz.f117 5 60 x (by kernel_rfl)
def r7v (x:u7f):Ht s63:=(u8h x).bind fun y1=>cond (!y1) (some ((⟨#[]⟩:Hs),false)) ((u13 x.2.2.2.1).bind fun y2=>(u13 x.2.2.2.2).bind fun y3=>cond (decide (y2.size+y3.size≤140737488355328)) ((u13 (x.1.length:Int)).bind fun y4=>cond (decide ((y2++y3).size+y4.size≤140737488355328)) ((u9e (x,(y2++y3)++y4,0)).bind fun r9=>match r9 with | .inl o10=>((s14 o10.1.2.1).bind fun y11=>cond (decide (o10.2.size+y11.size≤140737488355328)) ((s14 o10.1.2.2.1).bind fun y12=>cond (decide ((o10.2++y11).size+y12.size≤140737488355328)) (some ((o10.2++y11)++y12,true)) none) none) | .inr z13=>none) none) none)
theorem p3k:s6b=r7v:=zC 117 rfl Tryz.func117 (by kernel_rfl)
def u33(x:Z49):Ht s63:=zK 107 x
def s93 (x:Z49):Ht s63:=(t94 x).bind fun y1=>cond (!y1) (some ((⟨#[]⟩:Hs),false)) (cond (decide (x.1=3)) ((u3n x.2.2.1).bind fun y2=>cond (decide ((y7g ([(IntKind.u8.wrap x.1)]:Hu Int)).size+y2.size≤140737488355328)) ((t5r x.2.2.2.1).bind fun y3=>cond (decide (((y7g ([(IntKind.u8.wrap x.1)]:Hu Int))++y2).size+y3.size≤140737488355328)) ((t95 (((y7g ([(IntKind.u8.wrap x.1)]:Hu Int))++y2)++y3)).bind fun y4=>some y4) none) none) (cond (decide (x.1=4)) ((s6b x.2.2.2.2).bind fun y5=>cond (decide ((y7g ([(IntKind.u8.wrap x.1)]:Hu Int)).size+y5.1.size≤140737488355328)) ((t95 ((y7g ([(IntKind.u8.wrap x.1)]:Hu Int))++y5.1)).bind fun y6=>some y6) none) ((s11 x.2.1).bind fun y7=>cond (decide ((y7g ([(IntKind.u8.wrap x.1)]:Hu Int)).size+y7.1.size≤140737488355328)) ((t95 ((y7g ([(IntKind.u8.wrap x.1)]:Hu Int))++y7.1)).bind fun y8=>some y8) none)))
theorem q8m:u33=s93:=zC 107 rfl Tryz.func107 (by kernel_rfl)
def s6j(x:Hs):Ht s63:=zK 108 x
def r79 (x:Hs):Ht s63:=((cond (decide ((IntKind.i64.wrap ((x.size:Int) - (4:Int)))<0)) (some true) (cond (decide ((IntKind.i64.wrap ((x.size:Int) - (4:Int)))>20000)) (some true) (cond (decide (0≤(IntKind.i64.wrap ((x.size:Int) - (4:Int))))&&decide ((IntKind.i64.wrap ((x.size:Int) - (4:Int)))≤(x.size:Int))&&decide ((x.size:Int)≤(x.size:Int))) (cond (decide (0≤(0:Int))&&decide ((0:Int)≤(IntKind.i64.wrap ((x.size:Int) - (4:Int))))&&decide ((IntKind.i64.wrap ((x.size:Int) - (4:Int)))≤(x.size:Int))) ((s79 (x.extract (0:Int).toNat (IntKind.i64.wrap ((x.size:Int) - (4:Int))).toNat)).bind fun y1=>(s13 y1).bind fun y2=>some (!z7o (x.extract (IntKind.i64.wrap ((x.size:Int) - (4:Int))).toNat (x.size:Int).toNat) y2)) none) none))):Ht Bool).bind fun j3=>cond j3 (some ((⟨#[]⟩:Hs),false)) (cond (decide (0≤(0:Int))&&decide ((0:Int)≤(IntKind.i64.wrap ((x.size:Int) - (4:Int))))&&decide ((IntKind.i64.wrap ((x.size:Int) - (4:Int)))≤(x.size:Int))) (some (x.extract (0:Int).toNat (IntKind.i64.wrap ((x.size:Int) - (4:Int))).toNat,true)) none)
theorem p3w:s6j=r79:=zC 108 rfl Tryz.func108 (by kernel_rfl)
def s0z(x:Hs):Ht Z46:=zK 33 x
def s91 (x:Hs):Ht Z46:=(s6j x).bind fun y1=>((cond (!y1.2) (some true) (some (z7o y1.1 (⟨#[]⟩:Hs)))):Ht Bool).bind fun j2=>cond j2 (some ((0,(0,0,0,0,([]:Hu s4z.den),([]:Hu u2g.den),false,(⟨#[]⟩:Hs)),(⟨#[]⟩:Hs),false,([]:Hu u0h.den),([]:Hu u0a.den),([]:Hu u0a.den),0,0),false)) (cond (y4q (0:Int) y1.1.size) (cond (decide ((IntKind.i64.wrap ((y1.1.data.toList.getD (0:Int).toNat 0).toNat:Int))=3)) ((u16 (y1.1,1,false)).bind fun y3=>(u7d y3.2).bind fun y4=>(u33 (IntKind.i64.wrap ((y1.1.data.toList.getD (0:Int).toNat 0).toNat:Int),(0,0,0,0,([]:Hu s4z.den),([]:Hu u2g.den),false,(⟨#[]⟩:Hs)),y3.1,y4.1,([]:Hu u0h.den),([]:Hu u0a.den),([]:Hu u0a.den),0,0)).bind fun y5=>((cond (!y5.2) (some true) (some (!z7o y5.1 x))):Ht Bool).bind fun j6=>cond j6 (some ((0,(0,0,0,0,([]:Hu s4z.den),([]:Hu u2g.den),false,(⟨#[]⟩:Hs)),(⟨#[]⟩:Hs),false,([]:Hu u0h.den),([]:Hu u0a.den),([]:Hu u0a.den),0,0),false)) (some ((IntKind.i64.wrap ((y1.1.data.toList.getD (0:Int).toNat 0).toNat:Int),(0,0,0,0,([]:Hu s4z.den),([]:Hu u2g.den),false,(⟨#[]⟩:Hs)),y3.1,y4.1,([]:Hu u0h.den),([]:Hu u0a.den),([]:Hu u0a.den),0,0),true))) (cond (decide ((IntKind.i64.wrap ((y1.1.data.toList.getD (0:Int).toNat 0).toNat:Int))=4)) ((s6f (y1.1,1)).bind fun y7=>(u33 (IntKind.i64.wrap ((y1.1.data.toList.getD (0:Int).toNat 0).toNat:Int),(0,0,0,0,([]:Hu s4z.den),([]:Hu u2g.den),false,(⟨#[]⟩:Hs)),(⟨#[]⟩:Hs),false,y7.1)).bind fun y8=>((cond (!y8.2) (some true) (some (!z7o y8.1 x))):Ht Bool).bind fun j9=>cond j9 (some ((0,(0,0,0,0,([]:Hu s4z.den),([]:Hu u2g.den),false,(⟨#[]⟩:Hs)),(⟨#[]⟩:Hs),false,([]:Hu u0h.den),([]:Hu u0a.den),([]:Hu u0a.den),0,0),false)) (some ((IntKind.i64.wrap ((y1.1.data.toList.getD (0:Int).toNat 0).toNat:Int),(0,0,0,0,([]:Hu s4z.den),([]:Hu u2g.den),false,(⟨#[]⟩:Hs)),(⟨#[]⟩:Hs),false,y7.1),true))) ((s1z (y1.1,1)).bind fun y10=>(u33 (IntKind.i64.wrap ((y1.1.data.toList.getD (0:Int).toNat 0).toNat:Int),y10.1,(⟨#[]⟩:Hs),false,([]:Hu u0h.den),([]:Hu u0a.den),([]:Hu u0a.den),0,0)).bind fun y11=>((cond (!y11.2) (some true) (some (!z7o y11.1 x))):Ht Bool).bind fun j12=>cond j12 (some ((0,(0,0,0,0,([]:Hu s4z.den),([]:Hu u2g.den),false,(⟨#[]⟩:Hs)),(⟨#[]⟩:Hs),false,([]:Hu u0h.den),([]:Hu u0a.den),([]:Hu u0a.den),0,0),false)) (some ((IntKind.i64.wrap ((y1.1.data.toList.getD (0:Int).toNat 0).toNat:Int),y10.1,(⟨#[]⟩:Hs),false,([]:Hu u0h.den),([]:Hu u0a.den),([]:Hu u0a.den),0,0),true))))) none)
theorem q8k:s0z=s91:=zC 33 rfl Tryz.func33 (by kernel_rfl)
def u7c(x:p2q):Ht s63:=zK 355 x
def t0h(g:d36→Ht (d4e⊕s63))(x:d36):Ht (d4e⊕s63):=cond (decide (x.2.2≥0)) (cond (y4q x.2.2 x.2.1.2.length) (cond (decide ((rdL r67 x.2.1.2 x.2.2.toNat).1=x.1)) (cond (y4q x.2.2 x.2.1.2.length) (some (.inr ((rdL r67 x.2.1.2 x.2.2.toNat).2,true))) none) (g (x.1,x.2.1,IntKind.i64.wrap (x.2.2 - 1)))) none) (some (.inl (x.1,x.2.1)))
def t0o:=lpW _ _ t0h
theorem s6x x:t0o x=t0h t0o x:=zW s5q 355 Tryz.f355 4 41 x (by kernel_rfl)
def s92 (x:p2q):Ht s63:=(u0r (x.2,0,IntKind.i64.wrap ((x.1.1.length:Int) - (1:Int)))).bind fun y1=>cond (!y1) (some ((⟨#[]⟩:Hs),false)) ((t0o (x.2,x.1,IntKind.i64.wrap ((x.1.2.length:Int) - (1:Int)))).bind fun r2=>match r2 with | .inl o3=>cond (y4q o3.1 o3.2.1.length) (some (rdL Ty.str o3.2.1 o3.1.toNat,true)) none | .inr z4=>some z4)
theorem q8l:u7c=s92:=zC 355 rfl Tryz.func355 (by kernel_rfl)
def s00(x:j5z):Ht s63:=zK 263 x
def t0i(g:d3m→Ht (Hs⊕s63))(x:d3m):Ht (Hs⊕s63):=cond (decide (x.2.2.2.2<x.2.1)) (((cond (decide (x.1<0)) (some true) (some (decide (x.1>(x.2.2.1.1.length:Int))))):Ht Bool).bind fun j2=>cond j2 (some (.inr ((⟨#[]⟩:Hs),false))) ((u7c (x.2.2.1,IntKind.i64.wrap (x.1+x.2.2.2.2))).bind fun y3=>cond (!y3.2) (some (.inr ((⟨#[]⟩:Hs),false))) (cond (decide (x.2.2.2.1.size+y3.1.size≤140737488355328)) (g (x.1,x.2.1,x.2.2.1,x.2.2.2.1++y3.1,IntKind.i64.wrap (x.2.2.2.2+1))) none))) (some (.inl x.2.2.2.1))
def t0p:=lpW _ _ t0i
theorem s6y x:t0p x=t0i t0p x:=zW s5r 263 Tryz.f263 5 43 x (by kernel_rfl)
def s94 (x:j5z):Ht s63:=(u0r (x.2.2,0,100)).bind fun y1=>cond (!y1) (some ((⟨#[]⟩:Hs),false)) ((t0p (x.2.1,x.2.2,x.1,(⟨#[]⟩:Hs),0)).bind fun r4=>match r4 with | .inl o5=>some (o5,true) | .inr z6=>some z6)
theorem q8n:s00=s94:=zC 263 rfl Tryz.func263 (by kernel_rfl)
def u70(x:Int):Ht Int:=zK 264 x
def r31 (x:Int):Ht Int:=(u0r (x,0,1)).bind fun y1=>cond (!y1) (some (0:Int)) (some (IntKind.i64.wrap ((1:Int)+(IntKind.i64.wrap (x*48)))))
theorem p1b:u70=r31:=zC 264 rfl Tryz.func264 (by kernel_rfl)
def t6q(x:p2q):Ht Int:=zK 266 x
def q2r (x:p2q):Ht Int:=(u7c x).bind fun y1=>((cond (!y1.2) (some true) (some (z7o y1.1 (⟨#[]⟩:Hs)))):Ht Bool).bind fun j2=>cond j2 (some (0:Int)) (cond (y4q (0:Int) y1.1.size) (some (IntKind.i64.wrap ((y1.1.data.toList.getD (0:Int).toNat 0).toNat:Int))) none)
theorem p67:t6q=q2r:=zC 266 rfl Tryz.func266 (by kernel_rfl)
def t2f(x:p2q):Ht Int:=zK 265 x
def q11 (x:p2q):Ht Int:=(u0r (x.2,0,1)).bind fun y1=>cond (!y1) (some (0:Int)) ((u70 x.2).bind fun y2=>(t6q (x.1,y2)).bind fun y3=>some y3)
theorem p6i:t2f=q11:=zC 265 rfl Tryz.func265 (by kernel_rfl)
def u9v(x:p2q):Ht (p0k×j6z):=zK 157 x
def t2y(g:d2p→Ht j99)(x:d2p):Ht j99:=(t2f (x.2.1,x.1)).bind fun y4=>cond (decide (x.2.2.2.2.2.2<y4)) ((t8f (x.2.2.2.1,x.2.2.2.2.2.1)).bind fun y5=>((cond (!y5.2.2) (some true) (some (z7o y5.1 (⟨#[]⟩:Hs)))):Ht Bool).bind fun j6=>cond j6 (some (.inr (x.2.2.1,0,false))) (cond (Nat.ble (x.2.2.2.2.1.length+([y5.1]:Hu Hs).length) z7w) (g (x.1,x.2.1,x.2.2.1,x.2.2.2.1,x.2.2.2.2.1++([y5.1]:Hu Hs),y5.2.1,IntKind.i64.wrap (x.2.2.2.2.2.2+1))) none)) (some (.inl (x.2.2.2.2.1,x.2.2.2.2.2.1)))
def t27:=lpW _ _ t2y
theorem s8p x:t27 x=t2y t27 x:=zW s7w 157 Tryz.f157 10 61 x (by kernel_rfl)
def r71 (x:p2q):Ht (p0k×j6z):=(u0r (x.2,0,1)).bind fun y1=>cond (!y1) (some (([]:Hu Hs),0,false)) ((u70 x.2).bind fun y2=>(s00 (x.1,IntKind.i64.wrap (y2+1),47)).bind fun y3=>cond (!y3.2) (some (([]:Hu Hs),0,false)) ((t27 (x.2,x.1,([]:Hu Hs),y3.1,([]:Hu Hs),0,0)).bind fun r7=>match r7 with | .inl o8=>some (o8.1,o8.2,true) | .inr z9=>some z9))
theorem p3q:u9v=r71:=zC 157 rfl Tryz.func157 (by kernel_rfl)
def u9u(x:t0r):Ht Int:=zK 158 x
def r7u (x:t0r):Ht Int:=(t6q (x,0)).bind fun y1=>some (Int.tmod y1 (2:Int))
theorem p3j:u9u=r7u:=zC 158 rfl Tryz.func158 (by kernel_rfl)
def t38(x:t0r):Ht p0k:=zK 53 x
def r7y (x:t0r):Ht p0k:=(u9u x).bind fun y1=>(u9v (x,y1)).bind fun y2=>some y2.1
theorem p3n:t38=r7y:=zC 53 rfl Tryz.func53 (by kernel_rfl)
def s6d(x:Z84):Ht Int:=zK 69 x
def t4s(g:j0c→Ht o7u)(x:j0c):Ht o7u:=cond (decide (x.2.2<(x.1.length:Int))) (cond (y4q x.2.2 x.1.length) (cond (decide ((rdL u0a x.1 x.2.2.toNat).2.2.1<x.2.1)) (cond (y4q x.2.2 x.1.length) (g (x.1,(rdL u0a x.1 x.2.2.toNat).2.2.1,IntKind.i64.wrap (x.2.2+1))) none) (g (x.1,x.2.1,IntKind.i64.wrap (x.2.2+1)))) none) (some (.inl x.2.1))
def t5e:=lpW _ _ t4s
theorem r1s x:t5e x=t4s t5e x:=zW r0v 69 Tryz.f69 3 28 x (by kernel_rfl)
def r7z (x:Z84):Ht Int:=(t5e (x.2,x.1.2.2.2.1,0)).bind fun r1=>match r1 with | .inl o2=>some o2 | .inr z3=>none
theorem p3o:s6d=r7z:=zC 69 rfl Tryz.func69 (by kernel_rfl)
def s8a(x:j4v):Ht Int:=zK 79 x
def s1h(g:d31→Ht o7u)(x:d31):Ht o7u:=cond (decide (x.2.2.2.2<(x.1.length:Int))) (((cond (y4q x.2.2.2.2 x.1.length) (cond (z7o (rdL u0h x.1 x.2.2.2.2.toNat).1 x.2.1) (cond (y4q x.2.2.2.2 x.1.length) (cond (decide ((rdL u0h x.1 x.2.2.2.2.toNat).2.2.2≤x.2.2.1)) (cond (decide (x.2.2.2.1<0)) (some true) (cond (y4q x.2.2.2.2 x.1.length) (cond (y4q x.2.2.2.1 x.1.length) (some (decide ((rdL u0h x.1 x.2.2.2.2.toNat).2.2.2>(rdL u0h x.1 x.2.2.2.1.toNat).2.2.2))) none) none)) (some false)) none) (some false)) none):Ht Bool).bind fun j1=>cond j1 (g (x.1,x.2.1,x.2.2.1,x.2.2.2.2,IntKind.i64.wrap (x.2.2.2.2+1))) (g (x.1,x.2.1,x.2.2.1,x.2.2.2.1,IntKind.i64.wrap (x.2.2.2.2+1)))) (some (.inl x.2.2.2.1))
def t6d:=lpW _ _ s1h
theorem q38 x:t6d x=s1h t6d x:=zW q3p 79 Tryz.f79 3 50 x (by kernel_rfl)
def q9x (x:j4v):Ht Int:=(t6d (x.1,x.2.1,x.2.2,(- 1:Int),0)).bind fun r2=>match r2 with | .inl o3=>some o3 | .inr z4=>none
theorem o3h:s8a=q9x:=zC 79 rfl Tryz.func79 (by kernel_rfl)
def s9h(x:j7s):Ht q08:=zK 71 x
def t7n(g:d3v→Ht d0b)(x:d3v):Ht d0b:=cond (decide (x.2.2.2<(x.1.length:Int))) (cond (y4q x.2.2.2 x.1.length) ((s8a (x.1,(rdL u0h x.1 x.2.2.2.toNat).1,x.2.1)).bind fun y1=>((cond (y4q x.2.2.2 x.1.length) (cond (decide ((rdL u0h x.1 x.2.2.2.toNat).2.2.2>x.2.1)) (some true) (some (decide (y1=x.2.2.2)))) none):Ht Bool).bind fun j2=>cond j2 (cond (y4q x.2.2.2 x.1.length) (cond (Nat.ble (x.2.2.1.length+([(rdL u0h x.1 x.2.2.2.toNat)]:Hu u0h.den).length) z7w) (g (x.1,x.2.1,x.2.2.1++([(rdL u0h x.1 x.2.2.2.toNat)]:Hu u0h.den),IntKind.i64.wrap (x.2.2.2+1))) none) none) (g (x.1,x.2.1,x.2.2.1,IntKind.i64.wrap (x.2.2.2+1)))) none) (some (.inl (x.2.1,x.2.2.1)))
def t1p:=lpW _ _ t7n
theorem r6i x:t1p x=t7n t1p x:=zW r5g 71 Tryz.f71 3 99 x (by kernel_rfl)
def t40(g:d3l→Ht (d1l⊕Unit))(x:d3l):Ht (d1l⊕Unit):=cond (decide (x.2.2.2.2.2<(x.2.1.length:Int))) (cond (y4q x.2.2.2.2.2 x.2.1.length) (cond (y4q x.2.2.2.1 x.2.1.length) (cond (z7o (rdL u0h x.2.1 x.2.2.2.2.2.toNat).1 (rdL u0h x.2.1 x.2.2.2.1.toNat).1) (g (x.1,x.2.1,x.2.2.1,x.2.2.2.1,IntKind.i64.wrap (x.2.2.2.2.1+1),IntKind.i64.wrap (x.2.2.2.2.2+1))) (g (x.1,x.2.1,x.2.2.1,x.2.2.2.1,x.2.2.2.2.1,IntKind.i64.wrap (x.2.2.2.2.2+1)))) none) none) (some (.inl (x.1,x.2.1,x.2.2.1,x.2.2.2.1,x.2.2.2.2.1)))
def u9i:=lpW _ _ t40
theorem r19 x:u9i x=t40 u9i x:=zW r03 71 Tryz.f71 14 99 x (by kernel_rfl)
def t4z(g:d3w→Ht j2o)(x:d3w):Ht j2o:=cond (decide (x.2.2.2<(x.2.1.length:Int))) ((u9i (x.1,x.2.1,x.2.2.1,x.2.2.2,0,0)).bind fun r5=>match r5 with | .inl o6=>(((cond (y4q o6.2.2.2.1 o6.2.1.length) (cond (!(rdL u0h o6.2.1 o6.2.2.2.1.toNat).2.2.1) (some true) (cond (y4q o6.2.2.2.1 o6.2.1.length) (cond (decide ((rdL u0h o6.2.1 o6.2.2.2.1.toNat).2.2.2>o6.1)) (some true) (some (decide (o6.2.2.2.2>1)))) none)) none):Ht Bool).bind fun j7=>cond j7 (cond (y4q o6.2.2.2.1 o6.2.1.length) (cond (Nat.ble (o6.2.2.1.length+([(rdL u0h o6.2.1 o6.2.2.2.1.toNat)]:Hu u0h.den).length) z7w) (g (o6.1,o6.2.1,o6.2.2.1++([(rdL u0h o6.2.1 o6.2.2.2.1.toNat)]:Hu u0h.den),IntKind.i64.wrap (o6.2.2.2.1+1))) none) none) (g (o6.1,o6.2.1,o6.2.2.1,IntKind.i64.wrap (o6.2.2.2.1+1)))) | .inr z8=>some (.inr ())) (some (.inl x.2.2.1))
def t5h:=lpW _ _ t4z
theorem r1z x:t5h x=t4z t5h x:=zW r02 71 Tryz.f71 10 99 x (by kernel_rfl)
def q2h (x:j7s):Ht q08:=(t1p (x.1,x.2,([]:Hu u0h.den),0)).bind fun r3=>match r3 with | .inl o4=>((t5h (o4.1,o4.2,([]:Hu u0h.den),0)).bind fun r9=>match r9 with | .inl o10=>some o10 | .inr z11=>none) | .inr z12=>none
theorem p6y:s9h=q2h:=zC 71 rfl Tryz.func71 (by kernel_rfl)
def t5p(x:Z84):Ht u7f:=zK 14 x
def t9g(g:Z15→Ht (Z18⊕Unit))(x:Z15):Ht (Z18⊕Unit):=cond (decide (x.2.2.2.2<(x.1.2.1.length:Int))) (cond (y4q x.2.2.2.2 x.1.2.1.length) (cond (decide ((rdL u0a x.1.2.1 x.2.2.2.2.toNat).2.2.2.1>x.2.2.2.1)) (cond (y4q x.2.2.2.2 x.1.2.1.length) ((u02 (rdL u0a x.1.2.1 x.2.2.2.2.toNat)).bind fun y3=>cond (Nat.ble (x.2.2.1.2.1.length+([y3]:Hu u0a.den).length) z7w) (g (x.1,x.2.1,(x.2.2.1.1,x.2.2.1.2.1++([y3]:Hu u0a.den),x.2.2.1.2.2),x.2.2.2.1,IntKind.i64.wrap (x.2.2.2.2+1))) none) none) (g (x.1,x.2.1,x.2.2.1,x.2.2.2.1,IntKind.i64.wrap (x.2.2.2.2+1)))) none) (some (.inl (x.1,x.2.1,x.2.2.1,x.2.2.2.1)))
def t9q:=lpW _ _ t9g
theorem q0e x:t9q x=t9g t9q x:=zW r87 14 Tryz.f14 5 47 x (by kernel_rfl)
def q56 (x:Z84):Ht u7f:=(u3o x.1).bind fun y1=>(s6d x).bind fun y2=>(t9q (x.1,(([]:Hu u0h.den),([]:Hu u0a.den),([]:Hu u0a.den),0,0),(y1.1,([]:Hu u0a.den),y1.2.2),y2,0)).bind fun r4=>match r4 with | .inl o5=>((s9h (o5.1.1,o5.2.2.2)).bind fun y6=>some (y6,o5.2.2.1.2)) | .inr z7=>none
theorem o0q:t5p=q56:=zC 14 rfl Tryz.func14 (by kernel_rfl)
def u15(x:j2k):Ht Int:=zK 307 x
def t08(g:d2b→Ht p5l)(x:d2b):Ht p5l:=cond (decide (x.2.2<(x.2.1.2.2.1.length:Int))) (cond (y4q x.2.2 x.2.1.2.2.1.length) (cond (z7o (rdL u0a x.2.1.2.2.1 x.2.2.toNat).2.2.2.2.2.2.2 x.1) (some (.inr x.2.2)) (g (x.1,x.2.1,IntKind.i64.wrap (x.2.2+1)))) none) (some (.inl ()))
def t1n:=lpW _ _ t08
theorem r6e x:t1n x=t08 t1n x:=zW r5b 307 Tryz.f307 2 22 x (by kernel_rfl)
def q2d (x:j2k):Ht Int:=(t1n (x.2,x.1,0)).bind fun r1=>match r1 with | .inl o2=>some (- 1:Int) | .inr z3=>some z3
theorem p6u:u15=q2d:=zC 307 rfl Tryz.func307 (by kernel_rfl)
def t3g(x:j9v):Ht q08:=zK 387 x
def u83(g:j9f→Ht (j9f⊕Unit))(x:j9f):Ht (j9f⊕Unit):=((cond (decide (x.2.2.2.2.2.2<(x.2.2.1.length:Int))) (cond (y4q x.2.2.2.2.2.2 x.2.2.1.length) (cond (y3c (rdL u0h x.2.2.1 x.2.2.2.2.2.2.toNat).1 x.2.2.2.2.1.1) (some true) (cond (y4q x.2.2.2.2.2.2 x.2.2.1.length) (cond (z7o (rdL u0h x.2.2.1 x.2.2.2.2.2.2.toNat).1 x.2.2.2.2.1.1) (cond (y4q x.2.2.2.2.2.2 x.2.2.1.length) (some (decide ((rdL u0h x.2.2.1 x.2.2.2.2.2.2.toNat).2.2.2≤x.2.2.2.2.1.2.2.2))) none) (some false)) none)) none) (some false)):Ht Bool).bind fun j1=>cond j1 (cond (y4q x.2.2.2.2.2.2 x.2.2.1.length) (cond (Nat.ble (x.2.2.2.2.2.1.length+([(rdL u0h x.2.2.1 x.2.2.2.2.2.2.toNat)]:Hu u0h.den).length) z7w) (g (x.1,x.2.1,x.2.2.1,x.2.2.2.1,x.2.2.2.2.1,x.2.2.2.2.2.1++([(rdL u0h x.2.2.1 x.2.2.2.2.2.2.toNat)]:Hu u0h.den),IntKind.i64.wrap (x.2.2.2.2.2.2+1))) none) none) (some (.inl x))
def u6n:=lpW _ _ u83
theorem s4h x:u6n x=u83 u6n x:=zW s32 387 Tryz.f387 8 93 x (by kernel_rfl)
def u82(g:d3y→Ht j2o)(x:d3y):Ht j2o:=cond (decide (x.2.2.2<(x.1.length:Int))) (cond (y4q x.2.2.2 x.1.length) (cond (y4q x.2.2.2 x.1.length) (cond (y4q x.2.2.2 x.1.length) ((u6n (x.1,x.2.1,x.2.2.1,x.2.2.2,((rdL u2g x.1 x.2.2.2.toNat).1,(rdL u2g x.1 x.2.2.2.toNat).2.1,(rdL u2g x.1 x.2.2.2.toNat).2.2,x.2.1),([]:Hu u0h.den),0)).bind fun r2=>match r2 with | .inl o3=>cond (Nat.ble (o3.2.2.2.2.2.1.length+([o3.2.2.2.2.1]:Hu u0h.den).length) z7w) (cond (decide (0≤o3.2.2.2.2.2.2)&&decide (o3.2.2.2.2.2.2≤(o3.2.2.1.length:Int))&&decide ((o3.2.2.1.length:Int)≤(o3.2.2.1.length:Int))) (cond (Nat.ble ((o3.2.2.2.2.2.1++([o3.2.2.2.2.1]:Hu u0h.den)).length+((o3.2.2.1.take (o3.2.2.1.length:Int).toNat).drop o3.2.2.2.2.2.2.toNat).length) z7w) (g (o3.1,o3.2.1,(o3.2.2.2.2.2.1++([o3.2.2.2.2.1]:Hu u0h.den))++((o3.2.2.1.take (o3.2.2.1.length:Int).toNat).drop o3.2.2.2.2.2.2.toNat),IntKind.i64.wrap (o3.2.2.2.1+1))) none) none) none | .inr z4=>some (.inr ())) none) none) none) (some (.inl x.2.2.1))
def u86:=lpW _ _ u82
theorem s4g x:u86 x=u82 u86 x:=zW s31 387 Tryz.f387 3 93 x (by kernel_rfl)
def s7f (x:j9v):Ht q08:=cond (Nat.ble (([]:Hu u0h.den).length+x.1.length) z7w) ((u86 (x.2.1,x.2.2,([]:Hu u0h.den)++x.1,0)).bind fun r5=>match r5 with | .inl o6=>some o6 | .inr z7=>none) none
theorem q6t:t3g=s7f:=zC 387 rfl Tryz.func387 (by kernel_rfl)
def s1y(x:j90):Ht Bool:=zK 330 x
def q16 (x:j90):Ht Bool:=((cond (!y3c x.2 x.1.1) (some (y3c x.2 x.1.2||z7o x.2 x.1.2)) (some false)):Ht Bool).bind fun j1=>some j1
theorem p6n:s1y=q16:=zC 330 rfl Tryz.func330 (by kernel_rfl)
def s9g(x:j91):Ht Bool:=zK 427 x
def t7m(g:j5y→Ht (j9x⊕Bool))(x:j5y):Ht (j9x⊕Bool):=cond (decide (x.2.2.2<(x.2.1.length:Int))) (cond (y4q x.2.2.1 x.1.length) (cond (y4q x.2.2.2 x.2.1.length) ((s1y (rdL s4z x.1 x.2.2.1.toNat,(rdL u2g x.2.1 x.2.2.2.toNat).1)).bind fun y1=>cond y1 (some (.inr true)) (g (x.1,x.2.1,x.2.2.1,IntKind.i64.wrap (x.2.2.2+1)))) none) none) (some (.inl (x.1,x.2.1,x.2.2.1)))
def t1o:=lpW _ _ t7m
theorem r6h x:t1o x=t7m t1o x:=zW r5f 427 Tryz.f427 5 29 x (by kernel_rfl)
def t7l(g:j9x→Ht r6y)(x:j9x):Ht r6y:=cond (decide (x.2.2<(x.1.length:Int))) ((t1o (x.1,x.2.1,x.2.2,0)).bind fun r2=>match r2 with | .inl o3=>g (o3.1,o3.2.1,IntKind.i64.wrap (o3.2.2+1)) | .inr z4=>some (.inr z4)) (some (.inl ()))
def t74:=lpW _ _ t7l
theorem r6g x:t74 x=t7l t74 x:=zW r5e 427 Tryz.f427 2 29 x (by kernel_rfl)
def q2g (x:j91):Ht Bool:=(t74 (x.1,x.2,0)).bind fun r5=>match r5 with | .inl o6=>some false | .inr z7=>some z7
theorem p6x:s9g=q2g:=zC 427 rfl Tryz.func427 (by kernel_rfl)
def r20(x:Z63):Ht Bool:=zK 429 x
def q5t (x:Z63):Ht Bool:=cond (decide (x.1.1=x.2.1)) (some false) (((cond (decide (x.1.2.1=3)) (cond (decide (x.1.2.2.2.1≤x.2.2.2.1)) (some true) (cond (decide (x.2.2.1=3)) (some (decide (x.2.2.2.2.1≤x.1.2.2.1))) (some false))) (cond (decide (x.2.2.1=3)) (some (decide (x.2.2.2.2.1≤x.1.2.2.1))) (some false))):Ht Bool).bind fun j1=>cond j1 (some false) (some true))
theorem o0d:r20=q5t:=zC 429 rfl Tryz.func429 (by kernel_rfl)
def u3d(x:Z63):Ht Bool:=zK 394 x
def q9o (x:Z63):Ht Bool:=(((r20 x).bind fun y1=>cond y1 ((s9g (x.1.2.2.2.2.1,x.2.2.2.2.2.2.1)).bind fun y2=>some y2) (some false)):Ht Bool).bind fun j3=>some j3
theorem o27:u3d=q9o:=zC 394 rfl Tryz.func394 (by kernel_rfl)
def s2q(x:o9h):Ht Bool:=zK 393 x
def s1f(g:Z97→Ht r6y)(x:Z97):Ht r6y:=cond (decide (x.2.2<(x.1.length:Int))) (((cond (y4q x.2.2 x.1.length) (cond (decide ((rdL u0a x.1 x.2.2.toNat).2.1=3)) (cond (y4q x.2.2 x.1.length) ((u3d (x.2.1,rdL u0a x.1 x.2.2.toNat)).bind fun y1=>some y1) none) (some false)) none):Ht Bool).bind fun j2=>cond j2 (some (.inr true)) (g (x.1,x.2.1,IntKind.i64.wrap (x.2.2+1)))) (some (.inl ()))
def s1n:=lpW _ _ s1f
theorem q36 x:s1n x=s1f s1n x:=zW q3n 393 Tryz.f393 2 26 x (by kernel_rfl)
def q9v (x:o9h):Ht Bool:=(s1n (x.2,x.1,0)).bind fun r3=>match r3 with | .inl o4=>some false | .inr z5=>some z5
theorem o3f:s2q=q9v:=zC 393 rfl Tryz.func393 (by kernel_rfl)
def u65(x:Z54):Ht u7f:=zK 333 x
def t4y(g:Z4→Ht (Z20⊕Unit))(x:Z4):Ht (Z20⊕Unit):=cond (decide (x.2.2.2.2.2<(x.1.2.2.1.length:Int))) (cond (y4q x.2.2.2.2.2 x.1.2.2.1.length) ((u02 (rdL u0a x.1.2.2.1 x.2.2.2.2.2.toNat)).bind fun y4=>cond (decide (y4.1=x.2.1.1)) (g (x.1,x.2.1,x.2.2.1,x.2.2.2.1,x.2.2.2.2.1,IntKind.i64.wrap (x.2.2.2.2.2+1))) ((u3d (y4,x.2.2.2.2.1)).bind fun y5=>cond y5 (cond (Nat.ble (x.2.2.2.1.2.2.1.length+([(y4.1,y4.2.1,y4.2.2.1,y4.2.2.2.1,y4.2.2.2.2.1,y4.2.2.2.2.2.1,true,y4.2.2.2.2.2.2.2)]:Hu u0a.den).length) z7w) (g (x.1,x.2.1,x.2.2.1,(x.2.2.2.1.1,x.2.2.2.1.2.1,x.2.2.2.1.2.2.1++([(y4.1,y4.2.1,y4.2.2.1,y4.2.2.2.1,y4.2.2.2.2.1,y4.2.2.2.2.2.1,true,y4.2.2.2.2.2.2.2)]:Hu u0a.den),x.2.2.2.1.2.2.2),x.2.2.2.2.1,IntKind.i64.wrap (x.2.2.2.2.2+1))) none) (cond (Nat.ble (x.2.2.2.1.2.2.1.length+([y4]:Hu u0a.den).length) z7w) (g (x.1,x.2.1,x.2.2.1,(x.2.2.2.1.1,x.2.2.2.1.2.1,x.2.2.2.1.2.2.1++([y4]:Hu u0a.den),x.2.2.2.1.2.2.2),x.2.2.2.2.1,IntKind.i64.wrap (x.2.2.2.2.2+1))) none))) none) (some (.inl (x.2.1,x.2.2.1,x.2.2.2.1)))
def u7a:=lpW _ _ t4y
theorem r1y x:u7a x=t4y u7a x:=zW r01 333 Tryz.f333 12 85 x (by kernel_rfl)
def q2f (x:Z54):Ht u7f:=(u3o x.1).bind fun y1=>(u02 x.2).bind fun y2=>cond x.2.2.2.2.2.2.2.1 ((t3g (x.1.1,y2.2.2.2.2.2.1,IntKind.i64.wrap (x.1.2.2.2.1+1))).bind fun y3=>cond (Nat.ble (y1.2.1.length+([(y2.1,3,y2.2.2.1,IntKind.i64.wrap (x.1.2.2.2.1+1),y2.2.2.2.2.1,y2.2.2.2.2.2.1,true,(⟨#[]⟩:Hs))]:Hu u0a.den).length) z7w) ((u7a (x.1,x.2,(([]:Hu u0h.den),([]:Hu u0a.den),([]:Hu u0a.den),0,0),(y3,y1.2.1++([(y2.1,3,y2.2.2.1,IntKind.i64.wrap (x.1.2.2.2.1+1),y2.2.2.2.2.1,y2.2.2.2.2.2.1,true,(⟨#[]⟩:Hs))]:Hu u0a.den),([]:Hu u0a.den),IntKind.i64.wrap (x.1.2.2.2.1+1),y1.2.2.2.2),(y2.1,3,y2.2.2.1,IntKind.i64.wrap (x.1.2.2.2.1+1),y2.2.2.2.2.1,y2.2.2.2.2.2.1,true,(⟨#[]⟩:Hs)),0)).bind fun r6=>match r6 with | .inl o7=>cond (decide (o7.1.1≥o7.2.2.2.2.2.2)) (some (o7.2.2.1,o7.2.2.2.1,o7.2.2.2.2.1,o7.2.2.2.2.2.1,IntKind.i64.wrap (o7.1.1+1))) (some o7.2.2) | .inr z8=>none) none) ((s2q (x.2,x.1.2.1)).bind fun y9=>(t3g (x.1.1,y2.2.2.2.2.2.1,IntKind.i64.wrap (x.1.2.2.2.1+1))).bind fun y10=>cond (Nat.ble (y1.2.1.length+([(y2.1,3,y2.2.2.1,IntKind.i64.wrap (x.1.2.2.2.1+1),y2.2.2.2.2.1,y2.2.2.2.2.2.1,y9,(⟨#[]⟩:Hs))]:Hu u0a.den).length) z7w) ((u7a (x.1,x.2,(([]:Hu u0h.den),([]:Hu u0a.den),([]:Hu u0a.den),0,0),(y10,y1.2.1++([(y2.1,3,y2.2.2.1,IntKind.i64.wrap (x.1.2.2.2.1+1),y2.2.2.2.2.1,y2.2.2.2.2.2.1,y9,(⟨#[]⟩:Hs))]:Hu u0a.den),([]:Hu u0a.den),IntKind.i64.wrap (x.1.2.2.2.1+1),y1.2.2.2.2),(y2.1,3,y2.2.2.1,IntKind.i64.wrap (x.1.2.2.2.1+1),y2.2.2.2.2.1,y2.2.2.2.2.2.1,y9,(⟨#[]⟩:Hs)),0)).bind fun r13=>match r13 with | .inl o14=>cond (decide (o14.1.1≥o14.2.2.2.2.2.2)) (some (o14.2.2.1,o14.2.2.2.1,o14.2.2.2.2.1,o14.2.2.2.2.2.1,IntKind.i64.wrap (o14.1.1+1))) (some o14.2.2) | .inr z15=>none) none)
theorem p6w:u65=q2f:=zC 333 rfl Tryz.func333 (by kernel_rfl)
def s1x(x:j2k):Ht u7f:=zK 334 x
def t7e(g:Z13→Ht (Z51⊕Unit))(x:Z13):Ht (Z51⊕Unit):=cond (decide (x.2.2.2.2<(x.2.1.2.2.1.length:Int))) (cond (y4q x.2.2.2.2 x.2.1.2.2.1.length) (cond (!z7o (rdL u0a x.2.1.2.2.1 x.2.2.2.2.toNat).2.2.2.2.2.2.2 x.1) (cond (y4q x.2.2.2.2 x.2.1.2.2.1.length) ((u02 (rdL u0a x.2.1.2.2.1 x.2.2.2.2.toNat)).bind fun y2=>cond (Nat.ble (x.2.2.2.1.2.2.1.length+([y2]:Hu u0a.den).length) z7w) (g (x.1,x.2.1,x.2.2.1,(x.2.2.2.1.1,x.2.2.2.1.2.1,x.2.2.2.1.2.2.1++([y2]:Hu u0a.den),x.2.2.2.1.2.2.2),IntKind.i64.wrap (x.2.2.2.2+1))) none) none) (g (x.1,x.2.1,x.2.2.1,x.2.2.2.1,IntKind.i64.wrap (x.2.2.2.2+1)))) none) (some (.inl (x.2.2.1,x.2.2.2.1)))
def t1k:=lpW _ _ t7e
theorem r58 x:t1k x=t7e t1k x:=zW r45 334 Tryz.f334 4 38 x (by kernel_rfl)
def q15 (x:j2k):Ht u7f:=(u3o x.1).bind fun y1=>(t1k (x.2,x.1,(([]:Hu u0h.den),([]:Hu u0a.den),([]:Hu u0a.den),0,0),(y1.1,y1.2.1,([]:Hu u0a.den),y1.2.2.2),0)).bind fun r3=>match r3 with | .inl o4=>some o4.2 | .inr z5=>none
theorem p6m:s1x=q15:=zC 334 rfl Tryz.func334 (by kernel_rfl)
def u6h(x:Z52):Ht u7f:=zK 346 x
def t2x(g:Z2→Ht (Z3⊕Unit))(x:Z2):Ht (Z3⊕Unit):=cond (decide (x.2.2.2.2.2.2<(x.2.1.2.2.1.length:Int))) (cond (y4q x.2.2.2.2.2.2 x.2.1.2.2.1.length) (cond (y3c (rdL u0a x.2.1.2.2.1 x.2.2.2.2.2.2.toNat).2.2.2.2.2.2.2 x.1) (cond (y4q x.2.2.2.2.2.2 x.2.1.2.2.1.length) ((u02 (rdL u0a x.2.1.2.2.1 x.2.2.2.2.2.2.toNat)).bind fun y3=>cond (Nat.ble (x.2.2.2.2.1.2.2.1.length+([y3]:Hu u0a.den).length) z7w) (g (x.1,x.2.1,x.2.2.1,x.2.2.2.1,(x.2.2.2.2.1.1,x.2.2.2.2.1.2.1,x.2.2.2.2.1.2.2.1++([y3]:Hu u0a.den),x.2.2.2.2.1.2.2.2),x.2.2.2.2.2.1,IntKind.i64.wrap (x.2.2.2.2.2.2+1))) none) none) (g (x.1,x.2.1,x.2.2.1,x.2.2.2.1,x.2.2.2.2.1,x.2.2.2.2.2.1,IntKind.i64.wrap (x.2.2.2.2.2.2+1)))) none) (some (.inl (x.1,x.2.1,x.2.2.1,x.2.2.2.1,x.2.2.2.2.1,x.2.2.2.2.2.1)))
def u53:=lpW _ _ t2x
theorem s8o x:u53 x=t2x u53 x:=zW s7v 346 Tryz.f346 8 97 x (by kernel_rfl)
def t0g(g:Z9→Ht (Z20⊕Unit))(x:Z9):Ht (Z20⊕Unit):=cond (decide (x.2.2.2.2.2<(x.2.1.2.2.1.length:Int))) (cond (y4q x.2.2.2.2.2 x.2.1.2.2.1.length) (cond (!y3c (rdL u0a x.2.1.2.2.1 x.2.2.2.2.2.toNat).2.2.2.2.2.2.2 x.1) (cond (y4q x.2.2.2.2.2 x.2.1.2.2.1.length) ((u02 (rdL u0a x.2.1.2.2.1 x.2.2.2.2.2.toNat)).bind fun y6=>cond (Nat.ble (x.2.2.2.2.1.2.2.1.length+([y6]:Hu u0a.den).length) z7w) (g (x.1,x.2.1,x.2.2.1,x.2.2.2.1,(x.2.2.2.2.1.1,x.2.2.2.2.1.2.1,x.2.2.2.2.1.2.2.1++([y6]:Hu u0a.den),x.2.2.2.2.1.2.2.2),IntKind.i64.wrap (x.2.2.2.2.2+1))) none) none) (g (x.1,x.2.1,x.2.2.1,x.2.2.2.1,x.2.2.2.2.1,IntKind.i64.wrap (x.2.2.2.2.2+1)))) none) (some (.inl (x.2.2.1,x.2.2.2.1,x.2.2.2.2.1)))
def u5e:=lpW _ _ t0g
theorem s6w x:u5e x=t0g u5e x:=zW s5p 346 Tryz.f346 14 97 x (by kernel_rfl)
def r37 (x:Z52):Ht u7f:=(u3o x.1).bind fun y1=>(u02 x.2.1).bind fun y2=>cond x.2.1.2.2.2.2.2.2.1 ((u53 (x.2.2,x.1,x.2.1,(([]:Hu u0h.den),([]:Hu u0a.den),([]:Hu u0a.den),0,0),(y1.1,y1.2.1,([]:Hu u0a.den),y1.2.2.2),(y2.1,2,y2.2.2.1,y2.2.2.2.1,y2.2.2.2.2.1,y2.2.2.2.2.2.1,true,x.2.2),0)).bind fun r4=>match r4 with | .inl o5=>cond (Nat.ble (o5.2.2.2.2.1.2.2.1.length+([o5.2.2.2.2.2]:Hu u0a.den).length) z7w) ((u5e (o5.1,o5.2.1,o5.2.2.1,o5.2.2.2.1,(o5.2.2.2.2.1.1,o5.2.2.2.2.1.2.1,o5.2.2.2.2.1.2.2.1++([o5.2.2.2.2.2]:Hu u0a.den),o5.2.2.2.2.1.2.2.2),0)).bind fun r7=>match r7 with | .inl o8=>cond (decide (o8.1.1≥o8.2.2.2.2.2.2)) (some (o8.2.2.1,o8.2.2.2.1,o8.2.2.2.2.1,o8.2.2.2.2.2.1,IntKind.i64.wrap (o8.1.1+1))) (some o8.2.2) | .inr z9=>none) none | .inr z10=>none) ((s2q (x.2.1,x.1.2.1)).bind fun y11=>(u53 (x.2.2,x.1,x.2.1,(([]:Hu u0h.den),([]:Hu u0a.den),([]:Hu u0a.den),0,0),(y1.1,y1.2.1,([]:Hu u0a.den),y1.2.2.2),(y2.1,2,y2.2.2.1,y2.2.2.2.1,y2.2.2.2.2.1,y2.2.2.2.2.2.1,y11,x.2.2),0)).bind fun r13=>match r13 with | .inl o14=>cond (Nat.ble (o14.2.2.2.2.1.2.2.1.length+([o14.2.2.2.2.2]:Hu u0a.den).length) z7w) ((u5e (o14.1,o14.2.1,o14.2.2.1,o14.2.2.2.1,(o14.2.2.2.2.1.1,o14.2.2.2.2.1.2.1,o14.2.2.2.2.1.2.2.1++([o14.2.2.2.2.2]:Hu u0a.den),o14.2.2.2.2.1.2.2.2),0)).bind fun r16=>match r16 with | .inl o17=>cond (decide (o17.1.1≥o17.2.2.2.2.2.2)) (some (o17.2.2.1,o17.2.2.2.1,o17.2.2.2.2.1,o17.2.2.2.2.2.1,IntKind.i64.wrap (o17.1.1+1))) (some o17.2.2) | .inr z18=>none) none | .inr z19=>none)
theorem p1g:u6h=r37:=zC 346 rfl Tryz.func346 (by kernel_rfl)
def s9m(x:Z17):Ht o6r:=zK 258 x
def q2x (x:Z17):Ht o6r:=cond (decide (x.2.1=1)) (cond (!decide (x.2.2.1.2.2.2.1=(IntKind.i64.wrap (x.1.2.2.2.1+1)))) (some (x.1,false)) ((u65 (x.1,x.2.2.1)).bind fun y1=>some (y1,true))) (cond (decide (x.2.1=2)) (((cond (decide ((x.1.2.2.1.length:Int)≥(3:Int))) (some true) ((u15 (x.1,x.2.2.1.2.2.2.2.2.2.2)).bind fun y2=>some (decide (y2≥0)))):Ht Bool).bind fun j3=>cond j3 (some (x.1,false)) ((u6h (x.1,x.2.2.1,x.2.2.1.2.2.2.2.2.2.2)).bind fun y4=>some (y4,true))) (cond (decide (x.2.1=3)) ((u15 (x.1,x.2.2.2.1)).bind fun y5=>cond (decide (y5<0)) (some (x.1,false)) (cond x.2.2.2.2.1 (cond (y4q y5 x.1.2.2.1.length) ((u65 (x.1,rdL u0a x.1.2.2.1 y5.toNat)).bind fun y6=>some (y6,true)) none) ((s1x (x.1,x.2.2.2.1)).bind fun y7=>some (y7,true)))) ((u3o x.2.2.2.2.2).bind fun y8=>some (y8,true))))
theorem p7d:s9m=q2x:=zC 258 rfl Tryz.func258 (by kernel_rfl)
def r27(x:Z17):Ht o6r:=zK 153 x
def q52 (x:Z17):Ht o6r:=(((u8h x.1).bind fun y1=>cond (!y1) (some true) ((t94 x.2).bind fun y2=>some (!y2))):Ht Bool).bind fun j3=>cond j3 ((u3o x.1).bind fun y4=>some (y4,false)) ((s9m x).bind fun y5=>cond (!y5.2) ((u3o x.1).bind fun y6=>some (y6,false)) ((t5p (y5.1,([]:Hu u0a.den))).bind fun y7=>(u8h y7).bind fun y8=>cond (!y8) ((u3o x.1).bind fun y9=>some (y9,false)) (some (y7,true))))
theorem o0m:r27=q52:=zC 153 rfl Tryz.func153 (by kernel_rfl)
def t6n(x:t0r):Ht o6r:=zK 50 x
def t7h(g:Z43→Ht (Z51⊕o6r))(x:Z43):Ht (Z51⊕o6r):=cond (decide (x.2.2.2<(x.2.2.1.length:Int))) (cond (y4q x.2.2.2 x.2.2.1.length) ((s0z (rdL Ty.str x.2.2.1 x.2.2.2.toNat)).bind fun y3=>(r27 (x.2.1,y3.1)).bind fun y4=>((cond (!y3.2) (some true) (some (!y4.2))):Ht Bool).bind fun j5=>cond j5 (some (.inr ((([]:Hu u0h.den),([]:Hu u0a.den),([]:Hu u0a.den),0,0),false))) (g (x.1,y4.1,x.2.2.1,IntKind.i64.wrap (x.2.2.2+1)))) none) (some (.inl (x.1,x.2.1)))
def u6d:=lpW _ _ t7h
theorem r6b x:u6d x=t7h u6d x:=zW r48 50 Tryz.f50 4 43 x (by kernel_rfl)
def q18 (x:t0r):Ht o6r:=(s89 ()).bind fun y1=>(t38 x).bind fun y2=>(u6d ((([]:Hu u0h.den),([]:Hu u0a.den),([]:Hu u0a.den),0,0),y1,y2,0)).bind fun r6=>match r6 with | .inl o7=>some (o7.2,true) | .inr z8=>some z8
theorem p6p:t6n=q18:=zC 50 rfl Tryz.func50 (by kernel_rfl)
def t00(x:t0r):Ht Bool:=zK 375 x
def t9e(g:p2q→Ht j7o)(x:p2q):Ht j7o:=cond (decide (x.2<(x.1.1.length:Int))) (cond (y4q x.2 x.1.1.length) (cond (!decide (((rdL Ty.str x.1.1 x.2.toNat).size:Int)=(64:Int))) (some (.inr false)) (g (x.1,IntKind.i64.wrap (x.2+1)))) none) (some (.inl x.1))
def t9n:=lpW _ _ t9e
theorem q0a x:t9n x=t9e t9n x:=zW r83 375 Tryz.f375 4 59 x (by kernel_rfl)
def t9f(g:p2q→Ht r6y)(x:p2q):Ht r6y:=cond (decide (x.2<(x.1.2.length:Int))) (((cond (y4q x.2 x.1.2.length) ((u0r ((rdL r67 x.1.2 x.2.toNat).1,0,IntKind.i64.wrap ((x.1.1.length:Int) - (1:Int)))).bind fun y5=>cond (!y5) (some true) (cond (y4q x.2 x.1.2.length) (some (!decide (((rdL r67 x.1.2 x.2.toNat).2.size:Int)=(64:Int)))) none)) none):Ht Bool).bind fun j6=>cond j6 (some (.inr false)) (g (x.1,IntKind.i64.wrap (x.2+1)))) (some (.inl ()))
def t9o:=lpW _ _ t9f
theorem q0b x:t9o x=t9f t9o x:=zW r84 375 Tryz.f375 9 59 x (by kernel_rfl)
def q5w (x:t0r):Ht Bool:=(((u0r ((x.1.length:Int),1,100)).bind fun y1=>cond (!y1) (some true) (some (decide ((x.2.length:Int)>(60:Int))))):Ht Bool).bind fun j2=>cond j2 (some false) ((t9n (x,0)).bind fun r3=>match r3 with | .inl o4=>((t9o (o4,0)).bind fun r7=>match r7 with | .inl o8=>some true | .inr z9=>some z9) | .inr z10=>some z10)
theorem o0g:t00=q5w:=zC 375 rfl Tryz.func375 (by kernel_rfl)
def s2p(x:t0r):Ht Bool:=zK 303 x
def q9t (x:t0r):Ht Bool:=(((t00 x).bind fun y1=>cond (!y1) (some true) ((u9x ()).bind fun y2=>cond (!decide ((x.1.length:Int)=y2)) (some true) (some (decide ((x.2.length:Int)>(0:Int)))))):Ht Bool).bind fun j3=>cond j3 (some false) ((u9v (x,0)).bind fun y4=>(u9v (x,1)).bind fun y5=>((cond y4.2.2 (some y5.2.2) (some false)):Ht Bool).bind fun j6=>some j6)
theorem o3d:s2p=q9t:=zC 303 rfl Tryz.func303 (by kernel_rfl)
def u6g(x:t0r):Ht t0r:=zK 351 x
def t2w(g:j9g→Ht j7m)(x:j9g):Ht j7m:=cond (decide (x.2.2.2<(x.1.2.length:Int))) (cond (y4q x.2.2.2 x.1.2.length) (cond (y4q x.2.2.2 x.1.2.length) (cond (y4q (rdL r67 x.1.2 x.2.2.2.toNat).1 x.2.2.1.1.length) (g (x.1,x.2.1,(x.2.2.1.1.set ((rdL r67 x.1.2 x.2.2.2.toNat).1).toNat (rdL r67 x.1.2 x.2.2.2.toNat).2,x.2.2.1.2),IntKind.i64.wrap (x.2.2.2+1))) none) none) none) (some (.inl (x.2.1,x.2.2.1)))
def t26:=lpW _ _ t2w
theorem s8n x:t26 x=t2w t26 x:=zW s7u 351 Tryz.f351 5 36 x (by kernel_rfl)
def r35 (x:t0r):Ht t0r:=(u0u x).bind fun y1=>(t00 x).bind fun y2=>cond (!y2) (some y1) ((t26 (x,(([]:Hu Hs),([]:Hu r67.den)),y1,0)).bind fun r3=>match r3 with | .inl o4=>some (o4.2.1,([]:Hu r67.den)) | .inr z5=>none)
theorem p1f:u6g=r35:=zC 351 rfl Tryz.func351 (by kernel_rfl)
def t3h(x:j4s):Ht q72:=zK 352 x
def s7h (x:j4s):Ht q72:=(u0u x.1).bind fun y1=>(((t00 x.1).bind fun y2=>cond (!y2) (some true) ((u0r (x.2.1,0,IntKind.i64.wrap ((x.1.1.length:Int) - (1:Int)))).bind fun y3=>cond (!y3) (some true) (cond (!decide ((x.2.2.size:Int)=(64:Int))) (some true) (some (decide ((x.1.2.length:Int)≥(60:Int))))))):Ht Bool).bind fun j4=>cond j4 (some (y1,false)) (cond (Nat.ble (y1.2.length+([x.2]:Hu r67.den).length) z7w) (some ((y1.1,y1.2++([x.2]:Hu r67.den)),true)) none)
theorem q6v:t3h=s7h:=zC 352 rfl Tryz.func352 (by kernel_rfl)
def u9w(x:d3s):Ht q72:=zK 349 x
def t8i(g:Z80→Ht (j78⊕q72))(x:Z80):Ht (j78⊕q72):=cond (decide (x.2.2.2.2.2.2<(x.2.2.1.size:Int))) (cond (decide ((IntKind.i64.wrap ((64:Int) - (Int.tmod (IntKind.i64.wrap (x.2.1+x.2.2.2.2.2.2)) (64:Int))))>(IntKind.i64.wrap ((x.2.2.1.size:Int) - x.2.2.2.2.2.2)))) ((u7c (x.2.2.2.2.2.1,IntKind.i64.wrap (x.1+(IntKind.i64.wrap (Int.tdiv (IntKind.i64.wrap (x.2.1+x.2.2.2.2.2.2)) (64:Int)))))).bind fun y6=>((cond (!y6.2) (some true) (some (!decide ((y6.1.size:Int)=(64:Int))))):Ht Bool).bind fun j7=>cond j7 ((u0u x.2.2.2.1).bind fun y8=>some (.inr (y8,false))) (cond (decide (0≤(0:Int))&&decide ((0:Int)≤(Int.tmod (IntKind.i64.wrap (x.2.1+x.2.2.2.2.2.2)) (64:Int)))&&decide ((Int.tmod (IntKind.i64.wrap (x.2.1+x.2.2.2.2.2.2)) (64:Int))≤(y6.1.size:Int))) (cond (decide (0≤x.2.2.2.2.2.2)&&decide (x.2.2.2.2.2.2≤(IntKind.i64.wrap (x.2.2.2.2.2.2+(IntKind.i64.wrap ((x.2.2.1.size:Int) - x.2.2.2.2.2.2)))))&&decide ((IntKind.i64.wrap (x.2.2.2.2.2.2+(IntKind.i64.wrap ((x.2.2.1.size:Int) - x.2.2.2.2.2.2))))≤(x.2.2.1.size:Int))) (cond (decide ((y6.1.extract (0:Int).toNat (Int.tmod (IntKind.i64.wrap (x.2.1+x.2.2.2.2.2.2)) (64:Int)).toNat).size+(x.2.2.1.extract x.2.2.2.2.2.2.toNat (IntKind.i64.wrap (x.2.2.2.2.2.2+(IntKind.i64.wrap ((x.2.2.1.size:Int) - x.2.2.2.2.2.2)))).toNat).size≤140737488355328)) (cond (decide (0≤(IntKind.i64.wrap ((Int.tmod (IntKind.i64.wrap (x.2.1+x.2.2.2.2.2.2)) (64:Int))+(IntKind.i64.wrap ((x.2.2.1.size:Int) - x.2.2.2.2.2.2)))))&&decide ((IntKind.i64.wrap ((Int.tmod (IntKind.i64.wrap (x.2.1+x.2.2.2.2.2.2)) (64:Int))+(IntKind.i64.wrap ((x.2.2.1.size:Int) - x.2.2.2.2.2.2))))≤(y6.1.size:Int))&&decide ((y6.1.size:Int)≤(y6.1.size:Int))) (cond (decide (((y6.1.extract (0:Int).toNat (Int.tmod (IntKind.i64.wrap (x.2.1+x.2.2.2.2.2.2)) (64:Int)).toNat)++(x.2.2.1.extract x.2.2.2.2.2.2.toNat (IntKind.i64.wrap (x.2.2.2.2.2.2+(IntKind.i64.wrap ((x.2.2.1.size:Int) - x.2.2.2.2.2.2)))).toNat)).size+(y6.1.extract (IntKind.i64.wrap ((Int.tmod (IntKind.i64.wrap (x.2.1+x.2.2.2.2.2.2)) (64:Int))+(IntKind.i64.wrap ((x.2.2.1.size:Int) - x.2.2.2.2.2.2)))).toNat (y6.1.size:Int).toNat).size≤140737488355328)) ((t3h (x.2.2.2.2.2.1,IntKind.i64.wrap (x.1+(IntKind.i64.wrap (Int.tdiv (IntKind.i64.wrap (x.2.1+x.2.2.2.2.2.2)) (64:Int)))),((y6.1.extract (0:Int).toNat (Int.tmod (IntKind.i64.wrap (x.2.1+x.2.2.2.2.2.2)) (64:Int)).toNat)++(x.2.2.1.extract x.2.2.2.2.2.2.toNat (IntKind.i64.wrap (x.2.2.2.2.2.2+(IntKind.i64.wrap ((x.2.2.1.size:Int) - x.2.2.2.2.2.2)))).toNat))++(y6.1.extract (IntKind.i64.wrap ((Int.tmod (IntKind.i64.wrap (x.2.1+x.2.2.2.2.2.2)) (64:Int))+(IntKind.i64.wrap ((x.2.2.1.size:Int) - x.2.2.2.2.2.2)))).toNat (y6.1.size:Int).toNat))).bind fun y9=>cond (!y9.2) ((u0u x.2.2.2.1).bind fun y10=>some (.inr (y10,false))) (g (x.1,x.2.1,x.2.2.1,x.2.2.2.1,x.2.2.2.2.1,y9.1,IntKind.i64.wrap (x.2.2.2.2.2.2+(IntKind.i64.wrap ((x.2.2.1.size:Int) - x.2.2.2.2.2.2)))))) none) none) none) none) none)) ((u7c (x.2.2.2.2.2.1,IntKind.i64.wrap (x.1+(IntKind.i64.wrap (Int.tdiv (IntKind.i64.wrap (x.2.1+x.2.2.2.2.2.2)) (64:Int)))))).bind fun y11=>((cond (!y11.2) (some true) (some (!decide ((y11.1.size:Int)=(64:Int))))):Ht Bool).bind fun j12=>cond j12 ((u0u x.2.2.2.1).bind fun y13=>some (.inr (y13,false))) (cond (decide (0≤(0:Int))&&decide ((0:Int)≤(Int.tmod (IntKind.i64.wrap (x.2.1+x.2.2.2.2.2.2)) (64:Int)))&&decide ((Int.tmod (IntKind.i64.wrap (x.2.1+x.2.2.2.2.2.2)) (64:Int))≤(y11.1.size:Int))) (cond (decide (0≤x.2.2.2.2.2.2)&&decide (x.2.2.2.2.2.2≤(IntKind.i64.wrap (x.2.2.2.2.2.2+(IntKind.i64.wrap ((64:Int) - (Int.tmod (IntKind.i64.wrap (x.2.1+x.2.2.2.2.2.2)) (64:Int)))))))&&decide ((IntKind.i64.wrap (x.2.2.2.2.2.2+(IntKind.i64.wrap ((64:Int) - (Int.tmod (IntKind.i64.wrap (x.2.1+x.2.2.2.2.2.2)) (64:Int))))))≤(x.2.2.1.size:Int))) (cond (decide ((y11.1.extract (0:Int).toNat (Int.tmod (IntKind.i64.wrap (x.2.1+x.2.2.2.2.2.2)) (64:Int)).toNat).size+(x.2.2.1.extract x.2.2.2.2.2.2.toNat (IntKind.i64.wrap (x.2.2.2.2.2.2+(IntKind.i64.wrap ((64:Int) - (Int.tmod (IntKind.i64.wrap (x.2.1+x.2.2.2.2.2.2)) (64:Int)))))).toNat).size≤140737488355328)) (cond (decide (0≤(IntKind.i64.wrap ((Int.tmod (IntKind.i64.wrap (x.2.1+x.2.2.2.2.2.2)) (64:Int))+(IntKind.i64.wrap ((64:Int) - (Int.tmod (IntKind.i64.wrap (x.2.1+x.2.2.2.2.2.2)) (64:Int)))))))&&decide ((IntKind.i64.wrap ((Int.tmod (IntKind.i64.wrap (x.2.1+x.2.2.2.2.2.2)) (64:Int))+(IntKind.i64.wrap ((64:Int) - (Int.tmod (IntKind.i64.wrap (x.2.1+x.2.2.2.2.2.2)) (64:Int))))))≤(y11.1.size:Int))&&decide ((y11.1.size:Int)≤(y11.1.size:Int))) (cond (decide (((y11.1.extract (0:Int).toNat (Int.tmod (IntKind.i64.wrap (x.2.1+x.2.2.2.2.2.2)) (64:Int)).toNat)++(x.2.2.1.extract x.2.2.2.2.2.2.toNat (IntKind.i64.wrap (x.2.2.2.2.2.2+(IntKind.i64.wrap ((64:Int) - (Int.tmod (IntKind.i64.wrap (x.2.1+x.2.2.2.2.2.2)) (64:Int)))))).toNat)).size+(y11.1.extract (IntKind.i64.wrap ((Int.tmod (IntKind.i64.wrap (x.2.1+x.2.2.2.2.2.2)) (64:Int))+(IntKind.i64.wrap ((64:Int) - (Int.tmod (IntKind.i64.wrap (x.2.1+x.2.2.2.2.2.2)) (64:Int)))))).toNat (y11.1.size:Int).toNat).size≤140737488355328)) ((t3h (x.2.2.2.2.2.1,IntKind.i64.wrap (x.1+(IntKind.i64.wrap (Int.tdiv (IntKind.i64.wrap (x.2.1+x.2.2.2.2.2.2)) (64:Int)))),((y11.1.extract (0:Int).toNat (Int.tmod (IntKind.i64.wrap (x.2.1+x.2.2.2.2.2.2)) (64:Int)).toNat)++(x.2.2.1.extract x.2.2.2.2.2.2.toNat (IntKind.i64.wrap (x.2.2.2.2.2.2+(IntKind.i64.wrap ((64:Int) - (Int.tmod (IntKind.i64.wrap (x.2.1+x.2.2.2.2.2.2)) (64:Int)))))).toNat))++(y11.1.extract (IntKind.i64.wrap ((Int.tmod (IntKind.i64.wrap (x.2.1+x.2.2.2.2.2.2)) (64:Int))+(IntKind.i64.wrap ((64:Int) - (Int.tmod (IntKind.i64.wrap (x.2.1+x.2.2.2.2.2.2)) (64:Int)))))).toNat (y11.1.size:Int).toNat))).bind fun y14=>cond (!y14.2) ((u0u x.2.2.2.1).bind fun y15=>some (.inr (y15,false))) (g (x.1,x.2.1,x.2.2.1,x.2.2.2.1,x.2.2.2.2.1,y14.1,IntKind.i64.wrap (x.2.2.2.2.2.2+(IntKind.i64.wrap ((64:Int) - (Int.tmod (IntKind.i64.wrap (x.2.1+x.2.2.2.2.2.2)) (64:Int)))))))) none) none) none) none) none))) (some (.inl (x.2.2.2.2.1,x.2.2.2.2.2.1)))
def u5f:=lpW _ _ t8i
theorem q41 x:u5f x=t8i u5f x:=zW s5t 349 Tryz.f349 5 111 x (by kernel_rfl)
def s96 (x:d3s):Ht q72:=(u0u x.1).bind fun y1=>(((u0r (x.2.2.1,0,6400)).bind fun y2=>cond (!y2) (some true) ((u0r (x.2.1,0,IntKind.i64.wrap ((x.1.1.length:Int) - (1:Int)))).bind fun y3=>cond (!y3) (some true) ((t00 x.1).bind fun y4=>some (!y4)))):Ht Bool).bind fun j5=>cond j5 (some (y1,false)) ((u5f (x.2.1,x.2.2.1,x.2.2.2,x.1,(([]:Hu Hs),([]:Hu r67.den)),y1,0)).bind fun r16=>match r16 with | .inl o17=>some (o17.2,true) | .inr z18=>some z18)
theorem q8p:u9w=s96:=zC 349 rfl Tryz.func349 (by kernel_rfl)
def t98(x:Int):Ht Hs:=zK 350 x
def p9n (x:Int):Ht Hs:=some (y7g ([(IntKind.u8.wrap x)]:Hu Int))
theorem q6w:t98=p9n:=zC 350 rfl Tryz.func350 (by kernel_rfl)
def t39(x:j5z):Ht q72:=zK 379 x
def r8g (x:j5z):Ht q72:=(u70 x.2.1).bind fun y1=>(t98 x.2.2).bind fun y2=>(u9w (x.1,y1,0,y2)).bind fun y3=>some y3
theorem p32:t39=r8g:=zC 379 rfl Tryz.func379 (by kernel_rfl)
def t97(x:j4s):Ht q72:=zK 377 x
def r8f (x:j4s):Ht q72:=(u9v (x.1,x.2.1)).bind fun y1=>((cond (!y1.2.2) (some true) (cond (z7o x.2.2 (⟨#[]⟩:Hs)) (some true) (cond (decide ((x.2.2.size:Int)>(3008:Int))) (some true) ((t2f (x.1,x.2.1)).bind fun y2=>some (decide (y2≥255)))))):Ht Bool).bind fun j3=>cond j3 ((u0u x.1).bind fun y4=>some (y4,false)) ((u13 (x.2.2.size:Int)).bind fun y5=>cond (decide (y5.size+x.2.2.size≤140737488355328)) (cond (decide (((y5++x.2.2).size:Int)>(IntKind.i64.wrap ((3008:Int) - y1.2.1)))) ((u0u x.1).bind fun y6=>some (y6,false)) ((u70 x.2.1).bind fun y7=>(u9w (x.1,IntKind.i64.wrap (y7+1),y1.2.1,y5++x.2.2)).bind fun y8=>some y8)) none)
theorem p31:t97=r8f:=zC 377 rfl Tryz.func377 (by kernel_rfl)
def s4x(x:j4s):Ht q72:=zK 405 x
def q59 (x:j4s):Ht q72:=(t97 x).bind fun y1=>cond (!y1.2) (some (y1.1,false)) ((u6g y1.1).bind fun y2=>(t2f (x.1,x.2.1)).bind fun y3=>(t39 (y2,x.2.1,IntKind.i64.wrap (y3+1))).bind fun y4=>(u6g y4.1).bind fun y5=>some (y5,y4.2))
theorem o0t:s4x=q59:=zC 405 rfl Tryz.func405 (by kernel_rfl)
def s9j(x:j9r):Ht q72:=zK 353 x
def t09(g:d2m→Ht (d3a⊕Unit))(x:d2m):Ht (d3a⊕Unit):=((cond (decide (x.2.2.2.2.2<(x.1.length:Int))) (some x.2.2.2.2.1) (some false)):Ht Bool).bind fun j4=>cond j4 (cond (y4q x.2.2.2.2.2 x.1.length) ((s4x (x.2.2.2.1,x.2.2.1,rdL Ty.str x.1 x.2.2.2.2.2.toNat)).bind fun y5=>g (x.1,x.2.1,x.2.2.1,y5.1,y5.2,IntKind.i64.wrap (x.2.2.2.2.2+1))) none) (some (.inl (x.2.1,x.2.2.2.1,x.2.2.2.2.1)))
def t1s:=lpW _ _ t09
theorem s3l x:t1s x=t09 t1s x:=zW r5j 353 Tryz.f353 5 42 x (by kernel_rfl)
def q2s (x:j9r):Ht q72:=(u9u x.1).bind fun y1=>(t39 (x.1,IntKind.i64.wrap ((1:Int) - y1),0)).bind fun y2=>(u6g y2.1).bind fun y3=>(t1s (x.2,(([]:Hu Hs),([]:Hu r67.den)),IntKind.i64.wrap ((1:Int) - y1),y3,y2.2,0)).bind fun r6=>match r6 with | .inl o7=>some o7.2 | .inr z8=>none
theorem p68:s9j=q2s:=zC 353 rfl Tryz.func353 (by kernel_rfl)
def s9k(x:t0r):Ht q72:=zK 354 x
def q2t (x:t0r):Ht q72:=(t6q (x,0)).bind fun y1=>(t98 (IntKind.i64.wrap (y1+1))).bind fun y2=>(u9w (x,0,0,y2)).bind fun y3=>some y3
theorem p69:s9k=q2t:=zC 354 rfl Tryz.func354 (by kernel_rfl)
def s3f(x:j9r):Ht q72:=zK 262 x
def r4d (x:j9r):Ht q72:=(s2p x.1).bind fun y1=>cond (!y1) ((u0u x.1).bind fun y2=>some (y2,false)) ((s9j x).bind fun y3=>cond (!y3.2) ((u0u x.1).bind fun y4=>some (y4,false)) ((s9k y3.1).bind fun y5=>cond (!y5.2) ((u0u x.1).bind fun y6=>some (y6,false)) ((u6g y5.1).bind fun y7=>some (y7,true))))
theorem p1m:s3f=r4d:=zC 262 rfl Tryz.func262 (by kernel_rfl)
def s0a(x:t0r):Ht q72:=zK 156 x
def r8j (x:t0r):Ht q72:=(t6n x).bind fun y1=>(u33 (4,(0,0,0,0,([]:Hu s4z.den),([]:Hu u2g.den),false,(⟨#[]⟩:Hs)),(⟨#[]⟩:Hs),false,y1.1)).bind fun y2=>((cond (!y1.2) (some true) (some (!y2.2))):Ht Bool).bind fun j3=>cond j3 ((u0u x).bind fun y4=>some (y4,false)) ((s3f (x,([y2.1]:Hu Hs))).bind fun y5=>some y5)
theorem p35:s0a=r8j:=zC 156 rfl Tryz.func156 (by kernel_rfl)
def u7i(x:Z60):Ht Z58:=zK 52 x
def r7x (x:Z60):Ht Z58:=(s9n x).bind fun y1=>(s0a x.2).bind fun y2=>cond y2.2 (some ((y1.1,y2.1),y2.2)) (some (y1,y2.2))
theorem p3m:u7i=r7x:=zC 52 rfl Tryz.func52 (by kernel_rfl)
def s6c(x:Z84):Ht Bool:=zK 73 x
def t2u(g:Z41→Ht (Z44⊕Bool))(x:Z41):Ht (Z44⊕Bool):=cond (decide (x.2.2.2<(x.1.1.2.1.length:Int))) (cond (y4q x.2.2.2 x.1.1.2.1.length) (cond (decide ((rdL u0a x.1.1.2.1 x.2.2.2.toNat).1=x.2.2.1.1)) (some (.inr false)) (g (x.1,x.2.1,x.2.2.1,IntKind.i64.wrap (x.2.2.2+1)))) none) (some (.inl (x.1,x.2.1,x.2.2.1)))
def u79:=lpW _ _ t2u
theorem s8l x:u79 x=t2u u79 x:=zW s7s 73 Tryz.f73 10 105 x (by kernel_rfl)
def t2v(g:Z41→Ht (Z77⊕Bool))(x:Z41):Ht (Z77⊕Bool):=cond (decide (x.2.2.2<(x.1.1.2.2.1.length:Int))) (cond (y4q x.2.2.2 x.1.1.2.2.1.length) (cond (decide ((rdL u0a x.1.1.2.2.1 x.2.2.2.toNat).1=x.2.2.1.1)) (some (.inr false)) (g (x.1,x.2.1,x.2.2.1,IntKind.i64.wrap (x.2.2.2+1)))) none) (some (.inl (x.1,x.2.1)))
def u52:=lpW _ _ t2v
theorem s8m x:u52 x=t2v u52 x:=zW s7t 73 Tryz.f73 15 105 x (by kernel_rfl)
def t4r(g:Z77→Ht r6y)(x:Z77):Ht r6y:=cond (decide (x.2<(x.1.2.length:Int))) (cond (y4q x.2 x.1.2.length) ((((u66 (rdL u0a x.1.2 x.2.toNat)).bind fun y3=>cond (!y3) (some true) (cond (!decide ((rdL u0a x.1.2 x.2.toNat).2.1=1)) (some true) (cond (decide ((rdL u0a x.1.2 x.2.toNat).1≥x.1.1.2.2.2.2)) (some true) (cond (decide ((rdL u0a x.1.2 x.2.toNat).2.2.1>x.1.1.2.2.2.1)) (some true) (cond (decide (x.2>0)) (cond (y4q (IntKind.i64.wrap (x.2 - 1)) x.1.2.length) (some (decide ((rdL u0a x.1.2 (IntKind.i64.wrap (x.2 - 1)).toNat).1≥(rdL u0a x.1.2 x.2.toNat).1))) none) (some false)))))):Ht Bool).bind fun j4=>cond j4 (some (.inr false)) ((u79 (x.1,x.2,rdL u0a x.1.2 x.2.toNat,0)).bind fun r5=>match r5 with | .inl o6=>((u52 (o6.1,o6.2.1,o6.2.2,0)).bind fun r7=>match r7 with | .inl o8=>g (o8.1,IntKind.i64.wrap (o8.2+1)) | .inr z9=>some (.inr z9)) | .inr z10=>some (.inr z10))) none) (some (.inl ()))
def u69:=lpW _ _ t4r
theorem r1r x:u69 x=t4r u69 x:=zW r0u 73 Tryz.f73 4 105 x (by kernel_rfl)
def r7w (x:Z84):Ht Bool:=(((u8h x.1).bind fun y1=>cond (!y1) (some true) (some (decide ((x.2.length:Int)>(4:Int))))):Ht Bool).bind fun j2=>cond j2 (some false) ((u69 (x,0)).bind fun r11=>match r11 with | .inl o12=>some true | .inr z13=>some z13)
theorem p3l:s6c=r7w:=zC 73 rfl Tryz.func73 (by kernel_rfl)
def r9h(x:Z84):Ht Z69:=zK 17 x
def q9p (x:Z84):Ht Z69:=(u0p x).bind fun y1=>(((s6c x).bind fun y2=>cond (!y2) (some true) (cond (decide ((x.2.length:Int)≥(4:Int))) (some true) (some (decide (x.1.2.2.2.2≥9999))))):Ht Bool).bind fun j3=>cond j3 (some (y1,0,3)) (cond (Nat.ble (y1.2.length+([(x.1.2.2.2.2,1,x.1.2.2.2.1,0,([]:Hu s4z.den),([]:Hu u2g.den),false,(⟨#[]⟩:Hs))]:Hu u0a.den).length) z7w) (some (((y1.1.1,y1.1.2.1,y1.1.2.2.1,y1.1.2.2.2.1,IntKind.i64.wrap (x.1.2.2.2.2+1)),y1.2++([(x.1.2.2.2.2,1,x.1.2.2.2.1,0,([]:Hu s4z.den),([]:Hu u2g.den),false,(⟨#[]⟩:Hs))]:Hu u0a.den)),x.1.2.2.2.2,0)) none)
theorem o28:r9h=q9p:=zC 17 rfl Tryz.func17 (by kernel_rfl)
def u5m(x:Z77):Ht Int:=zK 74 x
def t3n(g:Z70→Ht p5l)(x:Z70):Ht p5l:=cond (decide (x.2.2<(x.2.1.2.length:Int))) (cond (y4q x.2.2 x.2.1.2.length) (cond (decide ((rdL u0a x.2.1.2 x.2.2.toNat).1=x.1)) (some (.inr x.2.2)) (g (x.1,x.2.1,IntKind.i64.wrap (x.2.2+1)))) none) (some (.inl ()))
def t3w:=lpW _ _ t3n
theorem q0c x:t3w x=t3n t3w x:=zW r85 74 Tryz.f74 2 22 x (by kernel_rfl)
def q50 (x:Z77):Ht Int:=(t3w (x.2,x.1,0)).bind fun r1=>match r1 with | .inl o2=>some (- 1:Int) | .inr z3=>some z3
theorem o0k:u5m=q50:=zC 74 rfl Tryz.func74 (by kernel_rfl)
def s6e(x:d34):Ht o7t:=zK 179 x
def t4t(g:j9l→Ht (d3j⊕Unit))(x:j9l):Ht (d3j⊕Unit):=cond (decide (x.2.2.2<(x.1.length:Int))) (cond (y4q x.2.2.2 x.1.length) (cond (y3c (rdL u2g x.1 x.2.2.2.toNat).1 x.2.1.1) (cond (y4q x.2.2.2 x.1.length) (cond (Nat.ble (x.2.2.1.length+([(rdL u2g x.1 x.2.2.2.toNat)]:Hu u2g.den).length) z7w) (g (x.1,x.2.1,x.2.2.1++([(rdL u2g x.1 x.2.2.2.toNat)]:Hu u2g.den),IntKind.i64.wrap (x.2.2.2+1))) none) none) (g (x.1,x.2.1,x.2.2.1,IntKind.i64.wrap (x.2.2.2+1)))) none) (some (.inl (x.1,x.2.1,x.2.2.1)))
def t5f:=lpW _ _ t4t
theorem r1t x:t5f x=t4t t5f x:=zW r0w 179 Tryz.f179 3 56 x (by kernel_rfl)
def t4u(g:j9l→Ht (o7t⊕Unit))(x:j9l):Ht (o7t⊕Unit):=cond (decide (x.2.2.2<(x.1.length:Int))) (cond (y4q x.2.2.2 x.1.length) (cond (!(y3c (rdL u2g x.1 x.2.2.2.toNat).1 x.2.1.1||z7o (rdL u2g x.1 x.2.2.2.toNat).1 x.2.1.1)) (cond (y4q x.2.2.2 x.1.length) (cond (Nat.ble (x.2.2.1.length+([(rdL u2g x.1 x.2.2.2.toNat)]:Hu u2g.den).length) z7w) (g (x.1,x.2.1,x.2.2.1++([(rdL u2g x.1 x.2.2.2.toNat)]:Hu u2g.den),IntKind.i64.wrap (x.2.2.2+1))) none) none) (g (x.1,x.2.1,x.2.2.1,IntKind.i64.wrap (x.2.2.2+1)))) none) (some (.inl x.2.2.1))
def t5g:=lpW _ _ t4u
theorem r1u x:t5g x=t4u t5g x:=zW r0x 179 Tryz.f179 9 56 x (by kernel_rfl)
def r70 (x:d34):Ht o7t:=(t5f (x.1,x.2,([]:Hu u2g.den),0)).bind fun r1=>match r1 with | .inl o2=>cond (Nat.ble (o2.2.2.length+([o2.2.1]:Hu u2g.den).length) z7w) ((t5g (o2.1,o2.2.1,o2.2.2++([o2.2.1]:Hu u2g.den),0)).bind fun r3=>match r3 with | .inl o4=>some o4 | .inr z5=>none) none | .inr z6=>none
theorem p3p:s6e=r70:=zC 179 rfl Tryz.func179 (by kernel_rfl)
def s6l(x:d2k):Ht j7f:=zK 76 x
def r8b (x:d2k):Ht j7f:=(u02 x.1).bind fun y1=>(((u66 x.1).bind fun y2=>cond (!y2) (some true) (cond (!decide (x.1.2.1=1)) (some true) ((t6p x.2).bind fun y3=>some (!y3)))):Ht Bool).bind fun j4=>cond j4 (some (y1,false)) ((s6e (x.1.2.2.2.2.2.1,x.2)).bind fun y5=>(t96 y5).bind fun y6=>cond (!y6) ((u02 x.1).bind fun y7=>some (y7,false)) (some ((y1.1,y1.2.1,y1.2.2.1,y1.2.2.2.1,y1.2.2.2.2.1,y5,y1.2.2.2.2.2.2),true)))
theorem p3y:s6l=r8b:=zC 76 rfl Tryz.func76 (by kernel_rfl)
def s4w(x:Z59):Ht Z77:=zK 18 x
def q53 (x:Z59):Ht Z77:=(u0p x.1).bind fun y1=>(u5m (x.1,x.2.1)).bind fun y2=>cond (decide (y2<0)) (some (y1,1)) ((t6p x.2.2).bind fun y3=>cond (!y3) (some (y1,2)) (cond (y4q y2 x.1.2.length) ((s6l (rdL u0a x.1.2 y2.toNat,x.2.2)).bind fun y4=>cond (!y4.2) (some (y1,3)) (cond (y4q y2 y1.2.length) (some ((y1.1,y1.2.set y2.toNat y4.1),0)) none)) none))
theorem o0n:s4w=q53:=zC 18 rfl Tryz.func18 (by kernel_rfl)
def t8e(x:d2n):Ht j7f:=zK 358 x
def t2z(g:Z23→Ht (Z25⊕j7f))(x:Z23):Ht (Z25⊕j7f):=cond (decide (x.2.2.2.2<(x.1.2.2.2.2.1.length:Int))) (cond (y4q x.2.2.2.2 x.1.2.2.2.2.1.length) (cond (z7o (rdL s4z x.1.2.2.2.2.1 x.2.2.2.2.toNat).1 x.2.1.1&&(z7o (rdL s4z x.1.2.2.2.2.1 x.2.2.2.2.toNat).2 x.2.1.2&&true)) (some (.inr (x.2.2.2.1,true))) (g (x.1,x.2.1,x.2.2.1,x.2.2.2.1,IntKind.i64.wrap (x.2.2.2.2+1)))) none) (some (.inl (x.1,x.2.1,x.2.2.1,x.2.2.2.1)))
def u8a:=lpW _ _ t2z
theorem s8q x:u8a x=t2z u8a x:=zW s7x 358 Tryz.f358 5 51 x (by kernel_rfl)
def r39 (x:d2n):Ht j7f:=(u02 x.1).bind fun y1=>(((u66 x.1).bind fun y2=>cond (!y2) (some true) (cond (!decide (x.1.2.1=1)) (some true) ((t6o x.2).bind fun y3=>some (!y3)))):Ht Bool).bind fun j4=>cond j4 (some (y1,false)) ((u8a (x.1,x.2,(0,0,0,0,([]:Hu s4z.den),([]:Hu u2g.den),false,(⟨#[]⟩:Hs)),y1,0)).bind fun r5=>match r5 with | .inl o6=>cond (decide ((o6.1.2.2.2.2.1.length:Int)≥(8:Int))) (some (o6.2.2.2,false)) (cond (Nat.ble (o6.2.2.2.2.2.2.2.1.length+([o6.2.1]:Hu s4z.den).length) z7w) (some ((o6.2.2.2.1,o6.2.2.2.2.1,o6.2.2.2.2.2.1,o6.2.2.2.2.2.2.1,o6.2.2.2.2.2.2.2.1++([o6.2.1]:Hu s4z.den),o6.2.2.2.2.2.2.2.2),true)) none) | .inr z7=>some z7)
theorem p1i:t8e=r39:=zC 358 rfl Tryz.func358 (by kernel_rfl)
def r29(x:j4v):Ht s63:=zK 20 x
def q55 (x:j4v):Ht s63:=(s8a x).bind fun y1=>((cond (decide (y1<0)) (some true) (cond (y4q y1 x.1.length) (some (rdL u0h x.1 y1.toNat).2.2.1) none)):Ht Bool).bind fun j2=>cond j2 (some ((⟨#[]⟩:Hs),false)) (cond (y4q y1 x.1.length) (some ((rdL u0h x.1 y1.toNat).2.1,true)) none)
theorem o0p:r29=q55:=zC 20 rfl Tryz.func20 (by kernel_rfl)
def s4v(x:d2f):Ht s63:=zK 359 x
def t3o(g:Z99→Ht (d2i⊕s63))(x:Z99):Ht (d2i⊕s63):=cond (decide (x.2.2.2<(x.2.2.1.2.2.2.2.2.1.length:Int))) (cond (y4q x.2.2.2 x.2.2.1.2.2.2.2.2.1.length) (cond (z7o (rdL u2g x.2.2.1.2.2.2.2.2.1 x.2.2.2.toNat).1 x.2.1) (cond (y4q x.2.2.2 x.2.2.1.2.2.2.2.2.1.length) (cond (rdL u2g x.2.2.1.2.2.2.2.2.1 x.2.2.2.toNat).2.2 (some (.inr ((⟨#[]⟩:Hs),false))) (cond (y4q x.2.2.2 x.2.2.1.2.2.2.2.2.1.length) (some (.inr ((rdL u2g x.2.2.1.2.2.2.2.2.1 x.2.2.2.toNat).2.1,true))) none)) none) (g (x.1,x.2.1,x.2.2.1,IntKind.i64.wrap (x.2.2.2+1)))) none) (some (.inl (x.1,x.2.1,x.2.2.1)))
def t3x:=lpW _ _ t3o
theorem q0d x:t3x x=t3o t3x x:=zW r86 359 Tryz.f359 2 43 x (by kernel_rfl)
def q51 (x:d2f):Ht s63:=(t3x (x.2.1,x.2.2,x.1,0)).bind fun r1=>match r1 with | .inl o2=>((r29 (o2.1,o2.2.1,o2.2.2.2.2.1)).bind fun y3=>some y3) | .inr z4=>some z4
theorem o0l:s4v=q51:=zC 359 rfl Tryz.func359 (by kernel_rfl)
def r23(x:Z67):Ht Z64:=zK 269 x
def q5y (x:Z67):Ht Z64:=(u0p x.1).bind fun y1=>(u5m (x.1,x.2.1)).bind fun y2=>cond (decide (y2<0)) (some (y1,(⟨#[]⟩:Hs),false,1)) ((u64 x.2.2).bind fun y3=>cond (!y3) (some (y1,(⟨#[]⟩:Hs),false,2)) (cond (y4q y2 x.1.2.length) ((t8e (rdL u0a x.1.2 y2.toNat,x.2.2,x.2.2)).bind fun y4=>cond (!y4.2) (some (y1,(⟨#[]⟩:Hs),false,3)) (cond (y4q y2 y1.2.length) ((s4v (y4.1,x.1.1.1,x.2.2)).bind fun y5=>some ((y1.1,y1.2.set y2.toNat y4.1),y5.1,y5.2,0)) none)) none))
theorem o0i:r23=q5y:=zC 269 rfl Tryz.func269 (by kernel_rfl)
def s9l(x:d1p):Ht p0k:=zK 331 x
def t7q(g:j9h→Ht (d2v⊕Unit))(x:j9h):Ht (d2v⊕Unit):=cond (decide (x.2.2.2.2.2.2<(x.2.2.1.length:Int))) (cond (y4q x.2.2.2.2.2.2 x.2.2.1.length) (cond (y3c (rdL Ty.str x.2.2.1 x.2.2.2.2.2.2.toNat) x.2.2.2.2.1) (cond (y4q x.2.2.2.2.2.2 x.2.2.1.length) (cond (Nat.ble (x.2.2.2.2.2.1.length+([(rdL Ty.str x.2.2.1 x.2.2.2.2.2.2.toNat)]:Hu Hs).length) z7w) (g (x.1,x.2.1,x.2.2.1,x.2.2.2.1,x.2.2.2.2.1,x.2.2.2.2.2.1++([(rdL Ty.str x.2.2.1 x.2.2.2.2.2.2.toNat)]:Hu Hs),IntKind.i64.wrap (x.2.2.2.2.2.2+1))) none) none) (g (x.1,x.2.1,x.2.2.1,x.2.2.2.1,x.2.2.2.2.1,x.2.2.2.2.2.1,IntKind.i64.wrap (x.2.2.2.2.2.2+1)))) none) (some (.inl (x.1,x.2.1,x.2.2.1,x.2.2.2.1,x.2.2.2.2.1,x.2.2.2.2.2.1)))
def t1t:=lpW _ _ t7q
theorem r6m x:t1t x=t7q t1t x:=zW r5l 331 Tryz.f331 9 72 x (by kernel_rfl)
def t43(g:j9h→Ht (d3h⊕Unit))(x:j9h):Ht (d3h⊕Unit):=cond (decide (x.2.2.2.2.2.2<(x.2.2.1.length:Int))) (cond (y4q x.2.2.2.2.2.2 x.2.2.1.length) (cond (!(y3c (rdL Ty.str x.2.2.1 x.2.2.2.2.2.2.toNat) x.2.2.2.2.1||z7o (rdL Ty.str x.2.2.1 x.2.2.2.2.2.2.toNat) x.2.2.2.2.1)) (cond (y4q x.2.2.2.2.2.2 x.2.2.1.length) (cond (Nat.ble (x.2.2.2.2.2.1.length+([(rdL Ty.str x.2.2.1 x.2.2.2.2.2.2.toNat)]:Hu Hs).length) z7w) (g (x.1,x.2.1,x.2.2.1,x.2.2.2.1,x.2.2.2.2.1,x.2.2.2.2.2.1++([(rdL Ty.str x.2.2.1 x.2.2.2.2.2.2.toNat)]:Hu Hs),IntKind.i64.wrap (x.2.2.2.2.2.2+1))) none) none) (g (x.1,x.2.1,x.2.2.1,x.2.2.2.1,x.2.2.2.2.1,x.2.2.2.2.2.1,IntKind.i64.wrap (x.2.2.2.2.2.2+1)))) none) (some (.inl (x.1,x.2.1,x.2.2.2.1,x.2.2.2.2.2.1)))
def u9k:=lpW _ _ t43
theorem r2c x:u9k x=t43 u9k x:=zW r06 331 Tryz.f331 15 72 x (by kernel_rfl)
def t7p(g:d3i→Ht (p0k⊕Unit))(x:d3i):Ht (p0k⊕Unit):=cond (decide (x.2.2.2<(x.1.length:Int))) (cond (y4q x.2.2.2 x.1.length) ((s1y (x.2.1,(rdL u0h x.1 x.2.2.2.toNat).1)).bind fun y1=>cond (!y1) (g (x.1,x.2.1,x.2.2.1,IntKind.i64.wrap (x.2.2.2+1))) ((t1t (x.1,x.2.1,x.2.2.1,x.2.2.2,(rdL u0h x.1 x.2.2.2.toNat).1,([]:Hu Hs),0)).bind fun r2=>match r2 with | .inl o3=>cond (Nat.ble (o3.2.2.2.2.2.length+([o3.2.2.2.2.1]:Hu Hs).length) z7w) ((u9k (o3.1,o3.2.1,o3.2.2.1,o3.2.2.2.1,o3.2.2.2.2.1,o3.2.2.2.2.2++([o3.2.2.2.2.1]:Hu Hs),0)).bind fun r4=>match r4 with | .inl o5=>g (o5.1,o5.2.1,o5.2.2.2,IntKind.i64.wrap (o5.2.2.1+1)) | .inr z6=>some (.inr ())) none | .inr z7=>some (.inr ()))) none) (some (.inl x.2.2.1))
def t75:=lpW _ _ t7p
theorem r6l x:t75 x=t7p t75 x:=zW r5k 331 Tryz.f331 3 72 x (by kernel_rfl)
def q2u (x:d1p):Ht p0k:=(t75 (x.1,x.2,([]:Hu Hs),0)).bind fun r8=>match r8 with | .inl o9=>some o9 | .inr z10=>none
theorem p7a:s9l=q2u:=zC 331 rfl Tryz.func331 (by kernel_rfl)
def s9d(x:Z95):Ht o6i:=zK 360 x
def t7f(g:Z68→Ht (Z75⊕Unit))(x:Z68):Ht (Z75⊕Unit):=cond (decide (x.2.2.2.2<(x.2.1.2.2.2.2.2.1.length:Int))) (cond (y4q x.2.2.2.2 x.2.1.2.2.2.2.2.1.length) (cond (Nat.ble (x.2.2.2.1.length+([((rdL u2g x.2.1.2.2.2.2.2.1 x.2.2.2.2.toNat).1,(⟨#[]⟩:Hs),false,0)]:Hu u0h.den).length) z7w) (g (x.1,x.2.1,x.2.2.1,x.2.2.2.1++([((rdL u2g x.2.1.2.2.2.2.2.1 x.2.2.2.2.toNat).1,(⟨#[]⟩:Hs),false,0)]:Hu u0h.den),IntKind.i64.wrap (x.2.2.2.2+1))) none) none) (some (.inl (x.1,x.2.1,x.2.2.1,x.2.2.2.1)))
def t1l:=lpW _ _ t7f
theorem r59 x:t1l x=t7f t1l x:=zW r46 360 Tryz.f360 3 65 x (by kernel_rfl)
def t7g(g:Z76→Ht j5b)(x:Z76):Ht j5b:=cond (decide (x.2.2.2.2<(x.2.2.2.1.length:Int))) (cond (y4q x.2.2.2.2 x.2.2.2.1.length) ((s4v (x.2.1,x.1,rdL Ty.str x.2.2.2.1 x.2.2.2.2.toNat)).bind fun y4=>cond y4.2 (cond (y4q x.2.2.2.2 x.2.2.2.1.length) (cond (Nat.ble (x.2.2.1.length+([(rdL Ty.str x.2.2.2.1 x.2.2.2.2.toNat,y4.1)]:Hu s4z.den).length) z7w) (g (x.1,x.2.1,x.2.2.1++([(rdL Ty.str x.2.2.2.1 x.2.2.2.2.toNat,y4.1)]:Hu s4z.den),x.2.2.2.1,IntKind.i64.wrap (x.2.2.2.2+1))) none) none) (g (x.1,x.2.1,x.2.2.1,x.2.2.2.1,IntKind.i64.wrap (x.2.2.2.2+1)))) none) (some (.inl x.2.2.1))
def t70:=lpW _ _ t7g
theorem r6a x:t70 x=t7g t70 x:=zW r47 360 Tryz.f360 9 65 x (by kernel_rfl)
def q17 (x:Z95):Ht o6i:=cond (Nat.ble (([]:Hu u0h.den).length+x.2.1.length) z7w) ((t1l (x.2.1,x.1,x.2.2,([]:Hu u0h.den)++x.2.1,0)).bind fun r1=>match r1 with | .inl o2=>((s9l (o2.2.2.2,o2.2.2.1)).bind fun y3=>(t70 (o2.1,o2.2.1,([]:Hu s4z.den),y3,0)).bind fun r5=>match r5 with | .inl o6=>some o6 | .inr z7=>none) | .inr z8=>none) none
theorem p6o:s9d=q17:=zC 360 rfl Tryz.func360 (by kernel_rfl)
def s6h(x:Z62):Ht Z65:=zK 271 x
def r76 (x:Z62):Ht Z65:=(u0p x.1).bind fun y1=>(u5m (x.1,x.2.1)).bind fun y2=>cond (decide (y2<0)) (some (y1,([]:Hu s4z.den),1)) ((t6o x.2.2).bind fun y3=>cond (!y3) (some (y1,([]:Hu s4z.den),2)) (cond (y4q y2 x.1.2.length) ((t8e (rdL u0a x.1.2 y2.toNat,x.2.2)).bind fun y4=>cond (!y4.2) (some (y1,([]:Hu s4z.den),3)) (cond (y4q y2 y1.2.length) ((s9d (y4.1,x.1.1.1,x.2.2)).bind fun y5=>some ((y1.1,y1.2.set y2.toNat y4.1),y5,0)) none)) none))
theorem p3u:s6h=r76:=zC 271 rfl Tryz.func271 (by kernel_rfl)
def t8g(x:Int):Ht Int:=zK 374 x
def r4e (x:Int):Ht Int:=cond (decide (x<10)) (some (IntKind.u8.wrap (IntKind.i64.wrap ((48:Int)+x)))) (some (IntKind.u8.wrap (IntKind.i64.wrap ((IntKind.i64.wrap ((97:Int)+x)) - 10))))
theorem p1n:t8g=r4e:=zC 374 rfl Tryz.func374 (by kernel_rfl)
def s9b(x:Int):Ht Hs:=zK 301 x
def t07(g:(Int×d0e)→Ht (d0e⊕Unit))(x:(Int×d0e)):Ht (d0e⊕Unit):=cond (!decide (x.1=0)) (cond (decide ((Int.tmod x.1 (10:Int))<0)) ((t8g (IntKind.i64.wrap (0 - (Int.tmod x.1 (10:Int))))).bind fun y1=>cond (decide ((y7g ([y1]:Hu Int)).size+x.2.2.size≤140737488355328)) (g (IntKind.i64.wrap (Int.tdiv x.1 (10:Int)),x.2.1,(y7g ([y1]:Hu Int))++x.2.2)) none) ((t8g (Int.tmod x.1 (10:Int))).bind fun y2=>cond (decide ((y7g ([y2]:Hu Int)).size+x.2.2.size≤140737488355328)) (g (IntKind.i64.wrap (Int.tdiv x.1 (10:Int)),x.2.1,(y7g ([y2]:Hu Int))++x.2.2)) none)) (some (.inl x.2))
def t7z:=lpW _ _ t07
theorem s3k x:t7z x=t07 t7z x:=zW r43 301 Tryz.f301 5 30 x (by kernel_rfl)
def q12 (x:Int):Ht Hs:=cond (decide (x=0)) (some (⟨#[48]⟩:Hs)) ((t7z (x,decide (x<0),(⟨#[]⟩:Hs))).bind fun r3=>match r3 with | .inl o4=>cond o4.1 (cond (decide ((⟨#[45]⟩:Hs).size+o4.2.size≤140737488355328)) (some ((⟨#[45]⟩:Hs)++o4.2)) none) (some o4.2) | .inr z5=>none)
theorem p6j:s9b=q12:=zC 301 rfl Tryz.func301 (by kernel_rfl)
def s6m(x:o6i):Ht Hs:=zK 302 x
def t44(g:d4k→Ht j7l)(x:d4k):Ht j7l:=cond (decide (x.2.2<(x.1.length:Int))) (cond (decide (x.2.2>0)) (cond (decide (x.2.1.size+(⟨#[44]⟩:Hs).size≤140737488355328)) (cond (y4q x.2.2 x.1.length) (cond (decide ((x.2.1++(⟨#[44]⟩:Hs)).size+(rdL s4z x.1 x.2.2.toNat).1.size≤140737488355328)) (cond (decide (((x.2.1++(⟨#[44]⟩:Hs))++(rdL s4z x.1 x.2.2.toNat).1).size+(⟨#[61]⟩:Hs).size≤140737488355328)) (cond (y4q x.2.2 x.1.length) (cond (decide ((((x.2.1++(⟨#[44]⟩:Hs))++(rdL s4z x.1 x.2.2.toNat).1)++(⟨#[61]⟩:Hs)).size+(rdL s4z x.1 x.2.2.toNat).2.size≤140737488355328)) (g (x.1,(((x.2.1++(⟨#[44]⟩:Hs))++(rdL s4z x.1 x.2.2.toNat).1)++(⟨#[61]⟩:Hs))++(rdL s4z x.1 x.2.2.toNat).2,IntKind.i64.wrap (x.2.2+1))) none) none) none) none) none) none) (cond (y4q x.2.2 x.1.length) (cond (decide (x.2.1.size+(rdL s4z x.1 x.2.2.toNat).1.size≤140737488355328)) (cond (decide ((x.2.1++(rdL s4z x.1 x.2.2.toNat).1).size+(⟨#[61]⟩:Hs).size≤140737488355328)) (cond (y4q x.2.2 x.1.length) (cond (decide (((x.2.1++(rdL s4z x.1 x.2.2.toNat).1)++(⟨#[61]⟩:Hs)).size+(rdL s4z x.1 x.2.2.toNat).2.size≤140737488355328)) (g (x.1,((x.2.1++(rdL s4z x.1 x.2.2.toNat).1)++(⟨#[61]⟩:Hs))++(rdL s4z x.1 x.2.2.toNat).2,IntKind.i64.wrap (x.2.2+1))) none) none) none) none) none)) (some (.inl x.2.1))
def u9l:=lpW _ _ t44
theorem r2d x:u9l x=t44 u9l x:=zW r07 302 Tryz.f302 3 30 x (by kernel_rfl)
def r8k (x:o6i):Ht Hs:=(u9l (x,(⟨#[]⟩:Hs),0)).bind fun r1=>match r1 with | .inl o2=>some o2 | .inr z3=>none
theorem p36:s6m=r8k:=zC 302 rfl Tryz.func302 (by kernel_rfl)
def u8r(x:Z21):Ht Z31:=zK 190 x
def q24 (x:Z21):Ht Z31:=cond (decide (x.2.1=1)) ((r9h x.1.1.1).bind fun y1=>cond (!decide (y1.2.2=0)) (some (y1.2.2,(⟨#[]⟩:Hs),(y1.1,x.1.1.2),x.1.2)) ((s9b y1.2.1).bind fun y2=>some (0,y2,(y1.1,x.1.1.2),x.1.2))) (cond (decide (x.2.1=2)) ((r23 (x.1.1.1,x.2.2.1,x.2.2.2.1)).bind fun y3=>((cond (decide (y3.2.2.2=0)) (some (!y3.2.2.1)) (some false)):Ht Bool).bind fun j4=>cond j4 (some (y3.2.2.2,(⟨#[45]⟩:Hs),(y3.1,x.1.1.2),x.1.2)) (some (y3.2.2.2,y3.2.1,(y3.1,x.1.1.2),x.1.2))) (cond (decide (x.2.1=3)) ((s6h (x.1.1.1,x.2.2.1,x.2.2.2.1,x.2.2.2.2.1)).bind fun y5=>(s6m y5.2.1).bind fun y6=>some (y5.2.2,y6,(y5.1,x.1.1.2),x.1.2)) (cond (decide (x.2.1=4)) ((s4w (x.1.1.1,x.2.2.1,x.2.2.2.1,x.2.2.2.2.1,false)).bind fun y7=>some (y7.2,(⟨#[]⟩:Hs),(y7.1,x.1.1.2),x.1.2)) ((s4w (x.1.1.1,x.2.2.1,x.2.2.2.1,(⟨#[]⟩:Hs),true)).bind fun y8=>some (y8.2,(⟨#[]⟩:Hs),(y8.1,x.1.1.2),x.1.2)))))
theorem p7k:u8r=q24:=zC 190 rfl Tryz.func190 (by kernel_rfl)
def u6i(x:t0r):Ht Z58:=zK 191 x
def r4b (x:t0r):Ht Z58:=(t6n x).bind fun y1=>(((s2p x).bind fun y2=>cond (!y2) (some true) (some (!y1.2))):Ht Bool).bind fun j3=>cond j3 (some ((((([]:Hu u0h.den),([]:Hu u0a.den),([]:Hu u0a.den),0,0),([]:Hu u0a.den)),([]:Hu Hs),([]:Hu r67.den)),false)) ((u0u x).bind fun y4=>some (((y1.1,([]:Hu u0a.den)),y4),true))
theorem p1k:u6i=r4b:=zC 191 rfl Tryz.func191 (by kernel_rfl)
def s3d(x:j4s):Ht q72:=zK 413 x
def r38 (x:j4s):Ht q72:=(((s2p x.1).bind fun y1=>cond (!y1) (some true) ((u0r (x.2.1,0,1)).bind fun y2=>some (!y2))):Ht Bool).bind fun j3=>cond j3 ((u0u x.1).bind fun y4=>some (y4,false)) ((s4x x).bind fun y5=>cond (!y5.2) ((u0u x.1).bind fun y6=>some (y6,false)) (some (y5.1,true)))
theorem p1h:s3d=r38:=zC 413 rfl Tryz.func413 (by kernel_rfl)
def t17(x:d38):Ht q72:=zK 376 x
def r30 (x:d38):Ht q72:=(u9u x.1).bind fun y1=>(s3d (x.1,y1,x.2)).bind fun y2=>some y2
theorem p1a:t17=r30:=zC 376 rfl Tryz.func376 (by kernel_rfl)
def t8d(x:d1m):Ht t0r:=zK 378 x
def t2t(g:Z79→Ht (Z86⊕Unit))(x:Z79):Ht (Z86⊕Unit):=((cond (decide (x.2.2.2.2.2.2<(x.2.2.1.2.length:Int))) (some (decide (x.2.2.2.2.2.2<(x.1.length:Int)))) (some false)):Ht Bool).bind fun j3=>cond j3 (cond (y4q x.2.2.2.2.2.2 x.1.length) (cond (!decide ((Int.tmod (rdL (Ty.int .i64) x.1 x.2.2.2.2.2.2.toNat) (2:Int))=0)) (g (x.1,x.2.1,x.2.2.1,x.2.2.2.1,x.2.2.2.2.1,x.2.2.2.2.2.2,IntKind.i64.wrap (x.2.2.2.2.2.2+1))) (g (x.1,x.2.1,x.2.2.1,x.2.2.2.1,x.2.2.2.2.1,x.2.2.2.2.2.1,IntKind.i64.wrap (x.2.2.2.2.2.2+1)))) none) (some (.inl (x.1,x.2.1,x.2.2.1,x.2.2.2.1,x.2.2.2.2.1,x.2.2.2.2.2.1)))
def u51:=lpW _ _ t2t
theorem s8k x:u51 x=t2t u51 x:=zW s7r 378 Tryz.f378 6 93 x (by kernel_rfl)
def t0f(g:Z78→Ht j7m)(x:Z78):Ht j7m:=cond (decide (x.2.2.2.2.2.2≤x.2.2.2.2.1)) (cond (y4q x.2.2.2.2.2.2 x.1.length) (cond (decide ((Int.tmod (rdL (Ty.int .i64) x.1 x.2.2.2.2.2.2.toNat) (2:Int))=0)) (g (x.1,x.2.1,x.2.2.1,x.2.2.2.1,x.2.2.2.2.1,x.2.2.2.2.2.1,IntKind.i64.wrap (x.2.2.2.2.2.2+1))) (cond (y4q x.2.2.2.2.2.2 x.2.1.2.length) (cond (decide (x.2.2.2.2.2.2=x.2.2.2.2.1)) (cond (decide (0≤(0:Int))&&decide ((0:Int)≤x.2.2.2.2.2.1)&&decide (x.2.2.2.2.2.1≤((rdL r67 x.2.1.2 x.2.2.2.2.2.2.toNat).2.size:Int))) (cond (y4q (rdL r67 x.2.1.2 x.2.2.2.2.2.2.toNat).1 x.2.2.2.1.1.length) (cond (decide (0≤x.2.2.2.2.2.1)&&decide (x.2.2.2.2.2.1≤((rdL Ty.str x.2.2.2.1.1 ((rdL r67 x.2.1.2 x.2.2.2.2.2.2.toNat).1).toNat).size:Int))&&decide (((rdL Ty.str x.2.2.2.1.1 ((rdL r67 x.2.1.2 x.2.2.2.2.2.2.toNat).1).toNat).size:Int)≤((rdL Ty.str x.2.2.2.1.1 ((rdL r67 x.2.1.2 x.2.2.2.2.2.2.toNat).1).toNat).size:Int))) (cond (decide (((rdL r67 x.2.1.2 x.2.2.2.2.2.2.toNat).2.extract (0:Int).toNat x.2.2.2.2.2.1.toNat).size+((rdL Ty.str x.2.2.2.1.1 ((rdL r67 x.2.1.2 x.2.2.2.2.2.2.toNat).1).toNat).extract x.2.2.2.2.2.1.toNat ((rdL Ty.str x.2.2.2.1.1 ((rdL r67 x.2.1.2 x.2.2.2.2.2.2.toNat).1).toNat).size:Int).toNat).size≤140737488355328)) (cond (y4q (rdL r67 x.2.1.2 x.2.2.2.2.2.2.toNat).1 x.2.2.2.1.1.length) (g (x.1,x.2.1,x.2.2.1,(x.2.2.2.1.1.set ((rdL r67 x.2.1.2 x.2.2.2.2.2.2.toNat).1).toNat (((rdL r67 x.2.1.2 x.2.2.2.2.2.2.toNat).2.extract (0:Int).toNat x.2.2.2.2.2.1.toNat)++((rdL Ty.str x.2.2.2.1.1 ((rdL r67 x.2.1.2 x.2.2.2.2.2.2.toNat).1).toNat).extract x.2.2.2.2.2.1.toNat ((rdL Ty.str x.2.2.2.1.1 ((rdL r67 x.2.1.2 x.2.2.2.2.2.2.toNat).1).toNat).size:Int).toNat)),x.2.2.2.1.2),x.2.2.2.2.1,x.2.2.2.2.2.1,IntKind.i64.wrap (x.2.2.2.2.2.2+1))) none) none) none) none) none) (cond (y4q (rdL r67 x.2.1.2 x.2.2.2.2.2.2.toNat).1 x.2.2.2.1.1.length) (g (x.1,x.2.1,x.2.2.1,(x.2.2.2.1.1.set ((rdL r67 x.2.1.2 x.2.2.2.2.2.2.toNat).1).toNat (rdL r67 x.2.1.2 x.2.2.2.2.2.2.toNat).2,x.2.2.2.1.2),x.2.2.2.2.1,x.2.2.2.2.2.1,IntKind.i64.wrap (x.2.2.2.2.2.2+1))) none)) none)) none) (some (.inl (x.2.2.1,x.2.2.2.1)))
def u5d:=lpW _ _ t0f
theorem s6v x:u5d x=t0f u5d x:=zW s5o 378 Tryz.f378 14 93 x (by kernel_rfl)
def r32 (x:d1m):Ht t0r:=(u0u x.1).bind fun y1=>(t00 x.1).bind fun y2=>cond (!y2) (some y1) ((u51 (x.2.1,x.2.2,x.1,(([]:Hu Hs),([]:Hu r67.den)),y1,(- 1:Int),0)).bind fun r4=>match r4 with | .inl o5=>cond (decide ((Int.tmod o5.2.1 (65:Int))<0)) ((u5d (o5.1,o5.2.2.1,o5.2.2.2.1,o5.2.2.2.2.1,o5.2.2.2.2.2,IntKind.i64.wrap ((IntKind.i64.wrap ((Int.tmod o5.2.1 (65:Int))+64))+1),0)).bind fun r6=>match r6 with | .inl o7=>some (o7.2.1,([]:Hu r67.den)) | .inr z8=>none) ((u5d (o5.1,o5.2.2.1,o5.2.2.2.1,o5.2.2.2.2.1,o5.2.2.2.2.2,Int.tmod o5.2.1 (65:Int),0)).bind fun r9=>match r9 with | .inl o10=>some (o10.2.1,([]:Hu r67.den)) | .inr z11=>none) | .inr z12=>none)
theorem p1c:t8d=r32:=zC 378 rfl Tryz.func378 (by kernel_rfl)
def s3b(x:d3e):Ht t0r:=zK 304 x
def r33 (x:d3e):Ht t0r:=(t17 (x.1,x.2.1)).bind fun y1=>cond (!y1.2) ((u0u x.1).bind fun y2=>some y2) ((u9u x.1).bind fun y3=>(t97 (x.1,y3,x.2.1)).bind fun y4=>cond (decide (x.2.2.1=0)) ((t8d (y4.1,x.2.2.2)).bind fun y5=>some y5) (cond (decide (x.2.2.1=1)) ((u6g y4.1).bind fun y6=>(t2f (x.1,y3)).bind fun y7=>(t39 (y6,y3,IntKind.i64.wrap (y7+1))).bind fun y8=>(t8d (y8.1,x.2.2.2)).bind fun y9=>some y9) (some y1.1)))
theorem p1d:s3b=r33:=zC 304 rfl Tryz.func304 (by kernel_rfl)
def s3e(x:j78):Ht Bool:=zK 305 x
def t21(g:d4d→Ht r6y)(x:d4d):Ht r6y:=cond (decide (x.2.2<(x.1.length:Int))) (cond (y4q x.2.2 x.1.length) (cond (y4q x.2.2 x.2.1.length) (cond (!z7o (rdL Ty.str x.1 x.2.2.toNat) (rdL Ty.str x.2.1 x.2.2.toNat)) (some (.inr false)) (g (x.1,x.2.1,IntKind.i64.wrap (x.2.2+1)))) none) none) (some (.inl ()))
def t28:=lpW _ _ t21
theorem s8s x:t28 x=t21 t28 x:=zW s7z 305 Tryz.f305 6 32 x (by kernel_rfl)
def r4c (x:j78):Ht Bool:=(t38 x.1).bind fun y1=>(t38 x.2).bind fun y2=>cond (!decide ((y1.length:Int)=(y2.length:Int))) (some false) ((t28 (y1,y2,0)).bind fun r3=>match r3 with | .inl o4=>some true | .inr z5=>some z5)
theorem p1l:s3e=r4c:=zC 305 rfl Tryz.func305 (by kernel_rfl)
def u8q(x:d23):Ht t0r:=zK 192 x
def q23 (x:d23):Ht t0r:=(s3b (x.1,(⟨#[120]⟩:Hs),0,x.2.2.2.2.2,x.2.2.1)).bind fun y1=>(s3e (y1,x.1)).bind fun y2=>cond (!y2) ((u0u x.1).bind fun y3=>some y3) (some y1)
theorem p7j:u8q=q23:=zC 192 rfl Tryz.func192 (by kernel_rfl)
def u1g(x:Z77):Ht Z84:=zK 363 x
def t9h(g:Z55→Ht (Z61⊕Unit))(x:Z55):Ht (Z61⊕Unit):=cond (decide (x.2.2.2<(x.1.2.length:Int))) (cond (y4q x.2.2.2 x.1.2.length) (cond (!decide ((rdL u0a x.1.2 x.2.2.2.toNat).1=x.2.1)) (cond (y4q x.2.2.2 x.1.2.length) (cond (Nat.ble (x.2.2.1.length+([(rdL u0a x.1.2 x.2.2.2.toNat)]:Hu u0a.den).length) z7w) (g (x.1,x.2.1,x.2.2.1++([(rdL u0a x.1.2 x.2.2.2.toNat)]:Hu u0a.den),IntKind.i64.wrap (x.2.2.2+1))) none) none) (g (x.1,x.2.1,x.2.2.1,IntKind.i64.wrap (x.2.2.2+1)))) none) (some (.inl (x.1,x.2.2.1)))
def t3z:=lpW _ _ t9h
theorem q0f x:t3z x=t9h t3z x:=zW r9a 363 Tryz.f363 2 49 x (by kernel_rfl)
def q6d (x:Z77):Ht Z84:=(t3z (x.1,x.2,([]:Hu u0a.den),0)).bind fun r1=>match r1 with | .inl o2=>((t5p (o2.1.1,o2.2)).bind fun y3=>some (y3,o2.2)) | .inr z4=>none
theorem o0x:u1g=q6d:=zC 363 rfl Tryz.func363 (by kernel_rfl)
def s15(x:u7f):Ht Bool:=zK 332 x
def q20 (x:u7f):Ht Bool:=((cond (decide ((x.2.1.length:Int)≥(12:Int))) (some true) (cond (decide ((x.1.length:Int)>(100:Int))) (some true) (some (decide (x.2.2.2.1≥9999))))):Ht Bool).bind fun j1=>some j1
theorem p7g:s15=q20:=zC 332 rfl Tryz.func332 (by kernel_rfl)
def t5s(x:u7f):Ht q42:=zK 409 x
def q6c (x:u7f):Ht q42:=cond (Nat.ble (([]:Hu u0a.den).length+x.2.1.length) z7w) (cond (Nat.ble ((([]:Hu u0a.den)++x.2.1).length+x.2.2.1.length) z7w) (some ((([]:Hu u0a.den)++x.2.1)++x.2.2.1)) none) none
theorem o0w:t5s=q6c:=zC 409 rfl Tryz.func409 (by kernel_rfl)
def s78(x:j9z):Ht Bool:=zK 428 x
def s1e(g:j4t→Ht (j9w⊕Bool))(x:j4t):Ht (j9w⊕Bool):=cond (decide (x.2.2.2<(x.2.1.length:Int))) (cond (y4q x.2.2.1 x.1.length) (cond (y4q x.2.2.2 x.2.1.length) (cond (z7o (rdL u2g x.1 x.2.2.1.toNat).1 (rdL u2g x.2.1 x.2.2.2.toNat).1) (some (.inr true)) (g (x.1,x.2.1,x.2.2.1,IntKind.i64.wrap (x.2.2.2+1)))) none) none) (some (.inl (x.1,x.2.1,x.2.2.1)))
def t6c:=lpW _ _ s1e
theorem q35 x:t6c x=s1e t6c x:=zW q3m 428 Tryz.f428 5 30 x (by kernel_rfl)
def s1d(g:j9w→Ht r6y)(x:j9w):Ht r6y:=cond (decide (x.2.2<(x.1.length:Int))) ((t6c (x.1,x.2.1,x.2.2,0)).bind fun r1=>match r1 with | .inl o2=>g (o2.1,o2.2.1,IntKind.i64.wrap (o2.2.2+1)) | .inr z3=>some (.inr z3)) (some (.inl ()))
def s1m:=lpW _ _ s1d
theorem q34 x:s1m x=s1d s1m x:=zW q3l 428 Tryz.f428 2 30 x (by kernel_rfl)
def q9u (x:j9z):Ht Bool:=(s1m (x.1,x.2,0)).bind fun r4=>match r4 with | .inl o5=>some false | .inr z6=>some z6
theorem o3e:s78=q9u:=zC 428 rfl Tryz.func428 (by kernel_rfl)
def s9a(x:o9h):Ht Bool:=zK 433 x
def t7d(g:Z97→Ht r6y)(x:Z97):Ht r6y:=cond (decide (x.2.2<(x.1.length:Int))) (cond (y4q x.2.2 x.1.length) (((cond (!decide ((rdL u0a x.1 x.2.2.toNat).1=x.2.1.1)) (cond (decide ((rdL u0a x.1 x.2.2.toNat).2.1=2)) ((s78 ((rdL u0a x.1 x.2.2.toNat).2.2.2.2.2.1,x.2.1.2.2.2.2.2.1)).bind fun y1=>some y1) (cond (decide ((rdL u0a x.1 x.2.2.toNat).2.1=3)) (cond (decide ((rdL u0a x.1 x.2.2.toNat).2.2.2.1>x.2.1.2.2.1)) ((s78 ((rdL u0a x.1 x.2.2.toNat).2.2.2.2.2.1,x.2.1.2.2.2.2.2.1)).bind fun y2=>some y2) (some false)) (some false))) (some false)):Ht Bool).bind fun j3=>cond j3 (some (.inr true)) (g (x.1,x.2.1,IntKind.i64.wrap (x.2.2+1)))) none) (some (.inl ()))
def t1i:=lpW _ _ t7d
theorem r56 x:t1i x=t7d t1i x:=zW r41 433 Tryz.f433 2 46 x (by kernel_rfl)
def q10 (x:o9h):Ht Bool:=(t1i (x.2,x.1,0)).bind fun r4=>match r4 with | .inl o5=>some false | .inr z6=>some z6
theorem p6h:s9a=q10:=zC 433 rfl Tryz.func433 (by kernel_rfl)
def r25(x:o9h):Ht Bool:=zK 435 x
def s4k(g:Z97→Ht r6y)(x:Z97):Ht r6y:=cond (decide (x.2.2<(x.1.length:Int))) (((cond (y4q x.2.2 x.1.length) (cond (decide ((rdL u0a x.1 x.2.2.toNat).2.1=2)) (cond (y4q x.2.2 x.1.length) ((u3d (rdL u0a x.1 x.2.2.toNat,x.2.1)).bind fun y1=>some y1) none) (cond (y4q x.2.2 x.1.length) (cond (decide ((rdL u0a x.1 x.2.2.toNat).2.1=3)) (cond (y4q x.2.2 x.1.length) ((u3d (rdL u0a x.1 x.2.2.toNat,x.2.1)).bind fun y2=>some y2) none) (some false)) none)) none):Ht Bool).bind fun j3=>cond j3 (some (.inr true)) (g (x.1,x.2.1,IntKind.i64.wrap (x.2.2+1)))) (some (.inl ()))
def t9p:=lpW _ _ s4k
theorem q7o x:t9p x=s4k t9p x:=zW q66 435 Tryz.f435 2 34 x (by kernel_rfl)
def p2p (x:o9h):Ht Bool:=(t9p (x.2,x.1,0)).bind fun r4=>match r4 with | .inl o5=>some false | .inr z6=>some z6
theorem o5q:r25=p2p:=zC 435 rfl Tryz.func435 (by kernel_rfl)
def s4u(x:o9h):Ht Bool:=zK 434 x
def t06(g:Z47→Ht (Z97⊕Bool))(x:Z47):Ht (Z97⊕Bool):=((cond (decide (x.2.2.2.2<(x.1.length:Int))) (cond (decide (x.2.2.2.1.2.1=2)) ((u3d (x.2.2.2.1,x.2.1)).bind fun y10=>some y10) (some false)) (some false)):Ht Bool).bind fun j11=>cond j11 (cond (y4q x.2.2.2.2 x.1.length) (((cond (decide ((rdL u0a x.1 x.2.2.2.2.toNat).2.1=2)) (cond (!decide ((rdL u0a x.1 x.2.2.2.2.toNat).1=x.2.1.1)) ((u3d (rdL u0a x.1 x.2.2.2.2.toNat,x.2.2.2.1)).bind fun y12=>some y12) (some false)) (some false)):Ht Bool).bind fun j13=>cond j13 (some (.inr true)) (g (x.1,x.2.1,x.2.2.1,x.2.2.2.1,IntKind.i64.wrap (x.2.2.2.2+1)))) none) (some (.inl (x.1,x.2.1,x.2.2.1)))
def u7v:=lpW _ _ t06
theorem s3j x:u7v x=t06 u7v x:=zW r42 434 Tryz.f434 12 92 x (by kernel_rfl)
def t9d(g:Z97→Ht r6y)(x:Z97):Ht r6y:=cond (decide (x.2.2<(x.1.length:Int))) (cond (y4q x.2.2 x.1.length) (((cond (decide ((rdL u0a x.1 x.2.2.toNat).2.1=2)) (cond (rdL u0a x.1 x.2.2.toNat).2.2.2.2.2.2.1 ((u3d (x.2.1,rdL u0a x.1 x.2.2.toNat)).bind fun y4=>some y4) (some false)) (cond (decide ((rdL u0a x.1 x.2.2.toNat).2.1=3)) (cond (rdL u0a x.1 x.2.2.toNat).2.2.2.2.2.2.1 ((u3d (x.2.1,rdL u0a x.1 x.2.2.toNat)).bind fun y5=>some y5) (some false)) (some false))):Ht Bool).bind fun j6=>cond j6 (some (.inr true)) (((cond (decide ((rdL u0a x.1 x.2.2.toNat).2.1=2)) ((u3d (rdL u0a x.1 x.2.2.toNat,x.2.1)).bind fun y7=>cond y7 ((u3d (x.2.1,rdL u0a x.1 x.2.2.toNat)).bind fun y8=>some y8) (some false)) (some false)):Ht Bool).bind fun j9=>cond j9 (some (.inr true)) ((u7v (x.1,x.2.1,x.2.2,rdL u0a x.1 x.2.2.toNat,0)).bind fun r14=>match r14 with | .inl o15=>g (o15.1,o15.2.1,IntKind.i64.wrap (o15.2.2+1)) | .inr z16=>some (.inr z16)))) none) (some (.inl ()))
def t3v:=lpW _ _ t9d
theorem r99 x:t3v x=t9d t3v x:=zW r82 434 Tryz.f434 4 92 x (by kernel_rfl)
def q5v (x:o9h):Ht Bool:=(((r25 x).bind fun y1=>cond y1 ((s2q x).bind fun y2=>some y2) (some false)):Ht Bool).bind fun j3=>cond j3 (some true) ((t3v (x.2,x.1,0)).bind fun r17=>match r17 with | .inl o18=>some false | .inr z19=>some z19)
theorem o0f:s4u=q5v:=zC 434 rfl Tryz.func434 (by kernel_rfl)
def s77(x:Z77):Ht Int:=zK 407 x
def q9q (x:Z77):Ht Int:=(u5m x).bind fun y1=>cond (decide (y1<0)) (some (1:Int)) ((t5s x.1.1).bind fun y2=>cond (y4q y1 x.1.2.length) ((s9a (rdL u0a x.1.2 y1.toNat,y2)).bind fun y3=>cond y3 (some (4:Int)) (cond (y4q y1 x.1.2.length) ((s4u (rdL u0a x.1.2 y1.toNat,y2)).bind fun y4=>cond y4 (some (5:Int)) ((s15 x.1.1).bind fun y5=>cond y5 (some (3:Int)) (some (0:Int)))) none)) none)
theorem o3a:s77=q9q:=zC 407 rfl Tryz.func407 (by kernel_rfl)
def r21(x:Z77):Ht Z12:=zK 361 x
def q5u (x:Z77):Ht Z12:=(u0p x.1).bind fun y1=>(s77 x).bind fun y2=>cond (decide (y2=1)) (some (y1,(0,(0,0,0,0,([]:Hu s4z.den),([]:Hu u2g.den),false,(⟨#[]⟩:Hs)),(⟨#[]⟩:Hs),false,([]:Hu u0h.den),([]:Hu u0a.den),([]:Hu u0a.den),0,0),y2)) (cond (!decide (y2=0)) ((u1g (y1,x.2)).bind fun y3=>some (y3,(0,(0,0,0,0,([]:Hu s4z.den),([]:Hu u2g.den),false,(⟨#[]⟩:Hs)),(⟨#[]⟩:Hs),false,([]:Hu u0h.den),([]:Hu u0a.den),([]:Hu u0a.den),0,0),y2)) ((u5m x).bind fun y4=>cond (y4q y4 x.1.2.length) ((u65 (x.1.1,rdL u0a x.1.2 y4.toNat)).bind fun y5=>cond (y4q (IntKind.i64.wrap ((y5.2.1.length:Int) - (1:Int))) y5.2.1.length) ((u02 (rdL u0a y5.2.1 (IntKind.i64.wrap ((y5.2.1.length:Int) - (1:Int))).toNat)).bind fun y6=>(u1g ((y5,y1.2),x.2)).bind fun y7=>some (y7,(1,y6,(⟨#[]⟩:Hs),false,([]:Hu u0h.den),([]:Hu u0a.den),([]:Hu u0a.den),0,0),0)) none) none))
theorem o0e:r21=q5u:=zC 361 rfl Tryz.func361 (by kernel_rfl)
def t6s(x:Z7):Ht Z35:=zK 362 x
def q22 (x:Z7):Ht Z35:=(u33 x.2).bind fun y1=>cond (!y1.2) (some (false,x.1)) ((t17 (x.1.1.2,y1.1)).bind fun y2=>cond (!y2.2) ((s0a x.1.1.2).bind fun y3=>cond (!y3.2) (some (false,x.1)) ((t17 (y3.1,y1.1)).bind fun y4=>cond y4.2 (some (y4.2,(x.1.1.1,y4.1),x.1.2)) (some (y4.2,x.1)))) (cond y2.2 (some (y2.2,(x.1.1.1,y2.1),x.1.2)) (some (y2.2,x.1))))
theorem p7i:t6s=q22:=zC 362 rfl Tryz.func362 (by kernel_rfl)
def t8h(x:Z37):Ht Z38:=zK 274 x
def r4g (x:Z37):Ht Z38:=(r21 (x.1.1.1,x.2)).bind fun y1=>cond (decide (y1.2.2=0)) ((t6s (x.1,y1.2.1)).bind fun y2=>cond (!y2.1) ((u0p y2.2.1.1).bind fun y3=>(u1g (y3,x.2)).bind fun y4=>some (3,(y4,y2.2.1.2),y2.2.2)) (some (y1.2.2,(y1.1,y2.2.1.2),y2.2.2))) (some (y1.2.2,(y1.1,x.1.1.2),x.1.2))
theorem p1p:t8h=r4g:=zC 274 rfl Tryz.func274 (by kernel_rfl)
def t93(x:o9h):Ht Bool:=zK 408 x
def u76(g:Z45→Ht (Z85⊕Bool))(x:Z45):Ht (Z85⊕Bool):=cond (decide (x.2.2.2.2.2<(x.1.length:Int))) (((cond (y4q x.2.2.2.2.2 x.1.length) (cond (decide ((rdL u0a x.1 x.2.2.2.2.2.toNat).2.1=2)) (cond (y4q x.2.2.2.2.2 x.1.length) (cond (!decide ((rdL u0a x.1 x.2.2.2.2.2.toNat).1=x.2.1.1)) (cond (y4q x.2.2.2.2.2 x.1.length) ((u3d (x.2.2.2.2.1,rdL u0a x.1 x.2.2.2.2.2.toNat)).bind fun y5=>some y5) none) (some false)) none) (some false)) none):Ht Bool).bind fun j6=>cond j6 (some (.inr true)) (g (x.1,x.2.1,x.2.2.1,x.2.2.2.1,x.2.2.2.2.1,IntKind.i64.wrap (x.2.2.2.2.2+1)))) (some (.inl (x.1,x.2.1,x.2.2.1,x.2.2.2.1)))
def u5p:=lpW _ _ u76
theorem s2y x:u5p x=u76 u5p x:=zW s2m 408 Tryz.f408 12 65 x (by kernel_rfl)
def u84(g:Z85→Ht r6y)(x:Z85):Ht r6y:=cond (decide (x.2.2.2<(x.1.length:Int))) (cond (y4q x.2.2.2 x.1.length) (((cond (!decide ((rdL u0a x.1 x.2.2.2.toNat).2.1=2)) (some true) ((u3d (x.2.1,rdL u0a x.1 x.2.2.2.toNat)).bind fun y3=>some (!y3))):Ht Bool).bind fun j4=>cond j4 (g (x.1,x.2.1,x.2.2.1,IntKind.i64.wrap (x.2.2.2+1))) (cond x.2.2.1 (some (.inr true)) ((u5p (x.1,x.2.1,x.2.2.1,x.2.2.2,rdL u0a x.1 x.2.2.2.toNat,0)).bind fun r7=>match r7 with | .inl o8=>g (o8.1,o8.2.1,o8.2.2.1,IntKind.i64.wrap (o8.2.2.2+1)) | .inr z9=>some (.inr z9)))) none) (some (.inl ()))
def u6o:=lpW _ _ u84
theorem s4i x:u6o x=u84 u6o x:=zW s33 408 Tryz.f408 5 65 x (by kernel_rfl)
def s7g (x:o9h):Ht Bool:=(s4u x).bind fun y1=>cond y1 (some true) ((r25 x).bind fun y2=>(u6o (x.2,x.1,y2,0)).bind fun r10=>match r10 with | .inl o11=>some false | .inr z12=>some z12)
theorem q6u:t93=s7g:=zC 408 rfl Tryz.func408 (by kernel_rfl)
def s9e(x:Z67):Ht Z12:=zK 364 x
def q19 (x:Z67):Ht Z12:=(u0p x.1).bind fun y1=>(u5m (x.1,x.2.1)).bind fun y2=>cond (decide (y2<0)) (some (y1,(0,(0,0,0,0,([]:Hu s4z.den),([]:Hu u2g.den),false,(⟨#[]⟩:Hs)),(⟨#[]⟩:Hs),false,([]:Hu u0h.den),([]:Hu u0a.den),([]:Hu u0a.den),0,0),1)) ((u64 x.2.2).bind fun y3=>cond (!y3) (some (y1,(0,(0,0,0,0,([]:Hu s4z.den),([]:Hu u2g.den),false,(⟨#[]⟩:Hs)),(⟨#[]⟩:Hs),false,([]:Hu u0h.den),([]:Hu u0a.den),([]:Hu u0a.den),0,0),2)) ((u15 (x.1.1,x.2.2)).bind fun y4=>cond (decide (y4≥0)) (some (y1,(0,(0,0,0,0,([]:Hu s4z.den),([]:Hu u2g.den),false,(⟨#[]⟩:Hs)),(⟨#[]⟩:Hs),false,([]:Hu u0h.den),([]:Hu u0a.den),([]:Hu u0a.den),0,0),6)) ((s77 (x.1,x.2.1)).bind fun y5=>((cond (decide (y5=0)) (cond (y4q y2 x.1.2.length) ((t5s x.1.1).bind fun y6=>(t93 (rdL u0a x.1.2 y2.toNat,y6)).bind fun y7=>some y7) none) (some false)):Ht Bool).bind fun j8=>cond j8 (((cond (decide ((5:Int)=(0:Int))) (some (decide ((x.1.1.2.2.1.length:Int)≥(3:Int)))) (some false)):Ht Bool).bind fun j9=>cond j9 (cond (!decide ((3:Int)=(0:Int))) ((u1g (y1,x.2.1)).bind fun y10=>some (y10,(0,(0,0,0,0,([]:Hu s4z.den),([]:Hu u2g.den),false,(⟨#[]⟩:Hs)),(⟨#[]⟩:Hs),false,([]:Hu u0h.den),([]:Hu u0a.den),([]:Hu u0a.den),0,0),3)) (cond (y4q y2 x.1.2.length) ((u6h (x.1.1,rdL u0a x.1.2 y2.toNat,x.2.2)).bind fun y11=>(u15 (y11,x.2.2)).bind fun y12=>cond (y4q y12 y11.2.2.1.length) ((u02 (rdL u0a y11.2.2.1 y12.toNat)).bind fun y13=>(u1g ((y11,y1.2),x.2.1)).bind fun y14=>some (y14,(2,y13,(⟨#[]⟩:Hs),false,([]:Hu u0h.den),([]:Hu u0a.den),([]:Hu u0a.den),0,0),0)) none) none)) (cond (!decide ((5:Int)=(0:Int))) ((u1g (y1,x.2.1)).bind fun y15=>some (y15,(0,(0,0,0,0,([]:Hu s4z.den),([]:Hu u2g.den),false,(⟨#[]⟩:Hs)),(⟨#[]⟩:Hs),false,([]:Hu u0h.den),([]:Hu u0a.den),([]:Hu u0a.den),0,0),5)) (cond (y4q y2 x.1.2.length) ((u6h (x.1.1,rdL u0a x.1.2 y2.toNat,x.2.2)).bind fun y16=>(u15 (y16,x.2.2)).bind fun y17=>cond (y4q y17 y16.2.2.1.length) ((u02 (rdL u0a y16.2.2.1 y17.toNat)).bind fun y18=>(u1g ((y16,y1.2),x.2.1)).bind fun y19=>some (y19,(2,y18,(⟨#[]⟩:Hs),false,([]:Hu u0h.den),([]:Hu u0a.den),([]:Hu u0a.den),0,0),0)) none) none))) (((cond (decide (y5=0)) (some (decide ((x.1.1.2.2.1.length:Int)≥(3:Int)))) (some false)):Ht Bool).bind fun j20=>cond j20 (cond (!decide ((3:Int)=(0:Int))) ((u1g (y1,x.2.1)).bind fun y21=>some (y21,(0,(0,0,0,0,([]:Hu s4z.den),([]:Hu u2g.den),false,(⟨#[]⟩:Hs)),(⟨#[]⟩:Hs),false,([]:Hu u0h.den),([]:Hu u0a.den),([]:Hu u0a.den),0,0),3)) (cond (y4q y2 x.1.2.length) ((u6h (x.1.1,rdL u0a x.1.2 y2.toNat,x.2.2)).bind fun y22=>(u15 (y22,x.2.2)).bind fun y23=>cond (y4q y23 y22.2.2.1.length) ((u02 (rdL u0a y22.2.2.1 y23.toNat)).bind fun y24=>(u1g ((y22,y1.2),x.2.1)).bind fun y25=>some (y25,(2,y24,(⟨#[]⟩:Hs),false,([]:Hu u0h.den),([]:Hu u0a.den),([]:Hu u0a.den),0,0),0)) none) none)) (cond (!decide (y5=0)) ((u1g (y1,x.2.1)).bind fun y26=>some (y26,(0,(0,0,0,0,([]:Hu s4z.den),([]:Hu u2g.den),false,(⟨#[]⟩:Hs)),(⟨#[]⟩:Hs),false,([]:Hu u0h.den),([]:Hu u0a.den),([]:Hu u0a.den),0,0),y5)) (cond (y4q y2 x.1.2.length) ((u6h (x.1.1,rdL u0a x.1.2 y2.toNat,x.2.2)).bind fun y27=>(u15 (y27,x.2.2)).bind fun y28=>cond (y4q y28 y27.2.2.1.length) ((u02 (rdL u0a y27.2.2.1 y28.toNat)).bind fun y29=>(u1g ((y27,y1.2),x.2.1)).bind fun y30=>some (y30,(2,y29,(⟨#[]⟩:Hs),false,([]:Hu u0h.den),([]:Hu u0a.den),([]:Hu u0a.den),0,0),0)) none) none))))))
theorem p6q:s9e=q19:=zC 364 rfl Tryz.func364 (by kernel_rfl)
def s02(x:Z30):Ht Z38:=zK 275 x
def s99 (x:Z30):Ht Z38:=(s9e (x.1.1.1,x.2)).bind fun y1=>cond (decide (y1.2.2=0)) ((t6s (x.1,y1.2.1)).bind fun y2=>cond (!y2.1) ((u0p y2.2.1.1).bind fun y3=>(u1g (y3,x.2.1)).bind fun y4=>some (3,(y4,y2.2.1.2),y2.2.2)) (some (y1.2.2,(y1.1,y2.2.1.2),y2.2.2))) (some (y1.2.2,(y1.1,x.1.1.2),x.1.2))
theorem q8s:s02=s99:=zC 275 rfl Tryz.func275 (by kernel_rfl)
def r22(x:Z66):Ht Z12:=zK 250 x
def q5x (x:Z66):Ht Z12:=(u0p x.1).bind fun y1=>(u15 (x.1.1,x.2.1)).bind fun y2=>cond (decide (y2<0)) (some (y1,(0,(0,0,0,0,([]:Hu s4z.den),([]:Hu u2g.den),false,(⟨#[]⟩:Hs)),(⟨#[]⟩:Hs),false,([]:Hu u0h.den),([]:Hu u0a.den),([]:Hu u0a.den),0,0),1)) (((cond x.2.2 ((s15 x.1.1).bind fun y3=>some y3) (some false)):Ht Bool).bind fun j4=>cond j4 (some (y1,(0,(0,0,0,0,([]:Hu s4z.den),([]:Hu u2g.den),false,(⟨#[]⟩:Hs)),(⟨#[]⟩:Hs),false,([]:Hu u0h.den),([]:Hu u0a.den),([]:Hu u0a.den),0,0),3)) (cond x.2.2 (cond (y4q y2 x.1.1.2.2.1.length) ((u65 (x.1.1,rdL u0a x.1.1.2.2.1 y2.toNat)).bind fun y5=>(t5p (y5,y1.2)).bind fun y6=>some ((y6,y1.2),(3,(0,0,0,0,([]:Hu s4z.den),([]:Hu u2g.den),false,(⟨#[]⟩:Hs)),x.2.1,x.2.2,([]:Hu u0h.den),([]:Hu u0a.den),([]:Hu u0a.den),0,0),0)) none) ((s1x (x.1.1,x.2.1)).bind fun y7=>(t5p (y7,y1.2)).bind fun y8=>some ((y8,y1.2),(3,(0,0,0,0,([]:Hu s4z.den),([]:Hu u2g.den),false,(⟨#[]⟩:Hs)),x.2.1,x.2.2,([]:Hu u0h.den),([]:Hu u0a.den),([]:Hu u0a.den),0,0),0))))
theorem o0h:r22=q5x:=zC 250 rfl Tryz.func250 (by kernel_rfl)
def u71(x:Z29):Ht Z38:=zK 276 x
def r4h (x:Z29):Ht Z38:=(r22 (x.1.1.1,x.2)).bind fun y1=>cond (decide (y1.2.2=0)) ((t6s (x.1,y1.2.1)).bind fun y2=>cond (!y2.1) (some (3,y2.2)) (some (y1.2.2,(y1.1,y2.2.1.2),y2.2.2))) (some (y1.2.2,(y1.1,x.1.1.2),x.1.2))
theorem p1q:u71=r4h:=zC 276 rfl Tryz.func276 (by kernel_rfl)
def r9i(x:Z77):Ht Z77:=zK 277 x
def q9s (x:Z77):Ht Z77:=(u0p x.1).bind fun y1=>(u5m x).bind fun y2=>cond (decide (y2<0)) (some (y1,1)) ((u1g (y1,x.2)).bind fun y3=>some (y3,0))
theorem o3c:r9i=q9s:=zC 277 rfl Tryz.func277 (by kernel_rfl)
def u34(x:Z14):Ht Z39:=zK 306 x
def r0a (x:Z14):Ht Z39:=cond (!decide (x.1.1.1.1.2.2.2.1=(IntKind.i64.wrap (x.2.1+1)))) (some x.1) ((u02 x.2.2).bind fun y1=>cond (Nat.ble (([]:Hu u0a.den).length+x.1.2.1.length) z7w) (cond (Nat.ble ((([]:Hu u0a.den)++x.1.2.1).length+([(y1.1,3,y1.2.2.1,x.1.1.1.1.2.2.2.1,y1.2.2.2.2.1,y1.2.2.2.2.2.1,y1.2.2.2.2.2.2.1,(⟨#[]⟩:Hs))]:Hu u0a.den).length) z7w) (some (x.1.1,(([]:Hu u0a.den)++x.1.2.1)++([(y1.1,3,y1.2.2.1,x.1.1.1.1.2.2.2.1,y1.2.2.2.2.1,y1.2.2.2.2.2.1,y1.2.2.2.2.2.2.1,(⟨#[]⟩:Hs))]:Hu u0a.den),x.1.2.2)) none) none)
theorem q8t:u34=r0a:=zC 306 rfl Tryz.func306 (by kernel_rfl)
def t01(x:Z21):Ht Z38:=zK 193 x
def q6e (x:Z21):Ht Z38:=cond (decide (x.2.1=6)) ((u5m (x.1.1.1,x.2.2.1)).bind fun y1=>cond (decide (y1≥0)) (cond (y4q y1 x.1.1.1.2.length) ((t8h (x.1,x.2.2.1)).bind fun y2=>(u34 (y2.2,x.1.1.1.1.2.2.2.1,rdL u0a x.1.1.1.2 y1.toNat)).bind fun y3=>some (y2.1,y3)) none) ((t8h (x.1,x.2.2.1)).bind fun y4=>(u34 (y4.2,x.1.1.1.1.2.2.2.1,0,0,0,0,([]:Hu s4z.den),([]:Hu u2g.den),false,(⟨#[]⟩:Hs))).bind fun y5=>some (y4.1,y5))) (cond (decide (x.2.1=7)) ((r9i (x.1.1.1,x.2.2.1)).bind fun y6=>some (y6.2,(y6.1,x.1.1.2),x.1.2)) (cond (decide (x.2.1=8)) ((s02 (x.1,x.2.2.1,x.2.2.2.1)).bind fun y7=>some y7) ((u15 (x.1.1.1.1,x.2.2.2.1)).bind fun y8=>cond (decide (y8≥0)) (cond (y4q y8 x.1.1.1.1.2.2.1.length) ((u71 (x.1,x.2.2.2.1,decide (x.2.1=9))).bind fun y9=>(u34 (y9.2,x.1.1.1.1.2.2.2.1,rdL u0a x.1.1.1.1.2.2.1 y8.toNat)).bind fun y10=>some (y9.1,y10)) none) ((u71 (x.1,x.2.2.2.1,decide (x.2.1=9))).bind fun y11=>(u34 (y11.2,x.1.1.1.1.2.2.2.1,0,0,0,0,([]:Hu s4z.den),([]:Hu u2g.den),false,(⟨#[]⟩:Hs))).bind fun y12=>some (y11.1,y12)))))
theorem o0y:t01=q6e:=zC 193 rfl Tryz.func193 (by kernel_rfl)
def r9j(x:Z21):Ht Z31:=zK 83 x
def q9y (x:Z21):Ht Z31:=cond (decide (x.2.1=1)) (cond (decide (x.2.1=1)) ((u8r x).bind fun y1=>some y1) (cond (decide (x.2.1=11)) ((u7i x.1.1).bind fun y2=>cond (!y2.2) (some (3,(⟨#[]⟩:Hs),y2.1,x.1.2)) (some (0,(⟨#[]⟩:Hs),y2.1,x.1.2))) (cond (decide (x.2.1=12)) ((u8q (x.1.1.2,x.2)).bind fun y3=>(u6i y3).bind fun y4=>cond (!y4.2) (some (1,(⟨#[]⟩:Hs),x.1)) (some (0,(⟨#[]⟩:Hs),y4.1,x.1.2))) ((t01 x).bind fun y5=>some (y5.1,(⟨#[]⟩:Hs),y5.2))))) (cond (decide (x.2.1=2)) (cond (decide (x.2.1=2)) ((u8r x).bind fun y6=>some y6) (cond (decide (x.2.1=11)) ((u7i x.1.1).bind fun y7=>cond (!y7.2) (some (3,(⟨#[]⟩:Hs),y7.1,x.1.2)) (some (0,(⟨#[]⟩:Hs),y7.1,x.1.2))) (cond (decide (x.2.1=12)) ((u8q (x.1.1.2,x.2)).bind fun y8=>(u6i y8).bind fun y9=>cond (!y9.2) (some (1,(⟨#[]⟩:Hs),x.1)) (some (0,(⟨#[]⟩:Hs),y9.1,x.1.2))) ((t01 x).bind fun y10=>some (y10.1,(⟨#[]⟩:Hs),y10.2))))) (cond (decide (x.2.1=3)) (cond (decide (x.2.1=3)) ((u8r x).bind fun y11=>some y11) (cond (decide (x.2.1=11)) ((u7i x.1.1).bind fun y12=>cond (!y12.2) (some (3,(⟨#[]⟩:Hs),y12.1,x.1.2)) (some (0,(⟨#[]⟩:Hs),y12.1,x.1.2))) (cond (decide (x.2.1=12)) ((u8q (x.1.1.2,x.2)).bind fun y13=>(u6i y13).bind fun y14=>cond (!y14.2) (some (1,(⟨#[]⟩:Hs),x.1)) (some (0,(⟨#[]⟩:Hs),y14.1,x.1.2))) ((t01 x).bind fun y15=>some (y15.1,(⟨#[]⟩:Hs),y15.2))))) (cond (decide (x.2.1=4)) (cond (decide (x.2.1=4)) ((u8r x).bind fun y16=>some y16) (cond (decide (x.2.1=11)) ((u7i x.1.1).bind fun y17=>cond (!y17.2) (some (3,(⟨#[]⟩:Hs),y17.1,x.1.2)) (some (0,(⟨#[]⟩:Hs),y17.1,x.1.2))) (cond (decide (x.2.1=12)) ((u8q (x.1.1.2,x.2)).bind fun y18=>(u6i y18).bind fun y19=>cond (!y19.2) (some (1,(⟨#[]⟩:Hs),x.1)) (some (0,(⟨#[]⟩:Hs),y19.1,x.1.2))) ((t01 x).bind fun y20=>some (y20.1,(⟨#[]⟩:Hs),y20.2))))) (cond (decide (x.2.1=5)) ((u8r x).bind fun y21=>some y21) (cond (decide (x.2.1=11)) ((u7i x.1.1).bind fun y22=>cond (!y22.2) (some (3,(⟨#[]⟩:Hs),y22.1,x.1.2)) (some (0,(⟨#[]⟩:Hs),y22.1,x.1.2))) (cond (decide (x.2.1=12)) ((u8q (x.1.1.2,x.2)).bind fun y23=>(u6i y23).bind fun y24=>cond (!y24.2) (some (1,(⟨#[]⟩:Hs),x.1)) (some (0,(⟨#[]⟩:Hs),y24.1,x.1.2))) ((t01 x).bind fun y25=>some (y25.1,(⟨#[]⟩:Hs),y25.2))))))))
theorem o3i:r9j=q9y:=zC 83 rfl Tryz.func83 (by kernel_rfl)
def s6g(x:j48):Ht Z36:=zK 22 x
def t4x(g:Z24→Ht (Z28⊕Unit))(x:Z24):Ht (Z28⊕Unit):=((cond (decide (x.2.2.2<(x.1.length:Int))) (some x.2.2.1) (some false)):Ht Bool).bind fun j1=>cond j1 (cond (y4q x.2.2.2 x.1.length) ((s9c (rdL s0o x.1 x.2.2.2.toNat)).bind fun y2=>g (x.1,x.2.1,y2,IntKind.i64.wrap (x.2.2.2+1))) none) (some (.inl (x.1,x.2.1,x.2.2.1)))
def u9h:=lpW _ _ t4x
theorem r1x x:u9h x=t4x u9h x:=zW r00 22 Tryz.f22 3 58 x (by kernel_rfl)
def t20(g:Z1→Ht (Z5⊕Unit))(x:Z1):Ht (Z5⊕Unit):=cond (decide (x.2.2.2<(x.1.length:Int))) (cond (y4q x.2.2.2 x.1.length) ((r9j (x.2.2.1,rdL s0o x.1 x.2.2.2.toNat)).bind fun y6=>cond (Nat.ble (y6.2.2.2.2.1.length+([y6.1]:Hu Int).length) z7w) (cond (Nat.ble (y6.2.2.2.2.2.length+([y6.2.1]:Hu Hs).length) z7w) (g (x.1,x.2.1,(y6.2.2.1,y6.2.2.2.1,y6.2.2.2.2.1++([y6.1]:Hu Int),y6.2.2.2.2.2++([y6.2.1]:Hu Hs)),IntKind.i64.wrap (x.2.2.2+1))) none) none) none) (some (.inl (x.2.1,x.2.2.1)))
def u8b:=lpW _ _ t20
theorem s8r x:u8b x=t20 u8b x:=zW s7y 22 Tryz.f22 10 58 x (by kernel_rfl)
def r75 (x:j48):Ht Z36:=(u9h (x,((((([]:Hu u0h.den),([]:Hu u0a.den),([]:Hu u0a.den),0,0),([]:Hu u0a.den)),([]:Hu Hs),([]:Hu r67.den)),([]:Hu u0a.den),([]:Hu Int),([]:Hu Hs)),decide ((x.length:Int)≤(90:Int)),0)).bind fun r3=>match r3 with | .inl o4=>cond (!o4.2.2) (some (((((([]:Hu u0h.den),([]:Hu u0a.den),([]:Hu u0a.den),0,0),([]:Hu u0a.den)),([]:Hu Hs),([]:Hu r67.den)),([]:Hu u0a.den),([]:Hu Int),([]:Hu Hs)),false)) ((s6k ()).bind fun y5=>(u8b (o4.1,o4.2.1,y5,0)).bind fun r7=>match r7 with | .inl o8=>some (o8.2,true) | .inr z9=>none) | .inr z10=>none
theorem p3t:s6g=r75:=zC 22 rfl Tryz.func22 (by kernel_rfl)
def s0j(x:j5c):Ht Int:=zK 194 x
def u5y(g:(q09×j5d)→Ht p5l)(x:(q09×j5d)):Ht p5l:=cond (decide (x.2.2.2<x.2.2.1)) (cond (y4q x.2.2.2 x.1.length) (cond (decide (x.2.1=(rdL (Ty.int .i64) x.1 x.2.2.2.toNat))) (some (.inr x.2.2.2)) (g (x.1,x.2.1,x.2.2.1,IntKind.i64.wrap (x.2.2.2+1)))) none) (some (.inl ()))
def u2d:=lpW _ _ u5y
theorem t83 x:u2d x=u5y u2d x:=zW t8y 194 Tryz.f194 2 19 x (by kernel_rfl)
def s0h (x:j5c):Ht Int:=(u2d (x.1,x.2,(x.1.length:Int),0)).bind fun r1=>match r1 with | .inl o2=>some (- 1:Int) | .inr z3=>some z3
theorem r6t:s0j=s0h:=zC 194 rfl Tryz.func194 (by kernel_rfl)
def u2m(x:j5c):Ht Bool:=zK 84 x
def t6e (x:j5c):Ht Bool:=(s0j x).bind fun y1=>some (decide (y1≥0))
theorem s8z:u2m=t6e:=zC 84 rfl Tryz.func84 (by kernel_rfl)
def u8g(x:u87):Ht Bool:=zK 91 x
def r2l (x:u87):Ht Bool:=some (decide (x.2.1=3))
theorem r2p:u8g=r2l:=zC 91 rfl Tryz.func91 (by kernel_rfl)
def t6i(x:j90):Ht Bool:=zK 201 x
def q1j (x:j90):Ht Bool:=((cond (!y3c x.2 x.1.1) (some (y3c x.2 x.1.2||z7o x.2 x.1.2)) (some false)):Ht Bool).bind fun j1=>some j1
theorem p50:t6i=q1j:=zC 201 rfl Tryz.func201 (by kernel_rfl)
def u63(x:j91):Ht Bool:=zK 195 x
def t66(g:d2o→Ht (j9t⊕Bool))(x:d2o):Ht (j9t⊕Bool):=cond (decide (x.2.2.2.2.2.2.2<x.2.2.2.2.2.2.1)) (cond (y4q x.2.2.2.2.2.2.2 x.2.2.2.2.2.1.length) ((t6i (x.2.1,(rdL u2g x.2.2.2.2.2.1 x.2.2.2.2.2.2.2.toNat).1)).bind fun y1=>cond y1 (some (.inr true)) (g (x.1,x.2.1,x.2.2.1,x.2.2.2.1,x.2.2.2.2.1,x.2.2.2.2.2.1,x.2.2.2.2.2.2.1,IntKind.i64.wrap (x.2.2.2.2.2.2.2+1)))) none) (some (.inl (x.1,x.2.2.1,x.2.2.2.1,x.2.2.2.2.1)))
def t1d:=lpW _ _ t66
theorem r5z x:t1d x=t66 t1d x:=zW r4t 195 Tryz.f195 5 27 x (by kernel_rfl)
def t65(g:j9t→Ht r6y)(x:j9t):Ht r6y:=cond (decide (x.2.2.2<x.2.2.1)) (cond (y4q x.2.2.2 x.2.1.length) ((t1d (x.1,rdL s4z x.2.1 x.2.2.2.toNat,x.2.1,x.2.2.1,x.2.2.2,x.1,(x.1.length:Int),0)).bind fun r2=>match r2 with | .inl o3=>g (o3.1,o3.2.1,o3.2.2.1,IntKind.i64.wrap (o3.2.2.2+1)) | .inr z4=>some (.inr z4)) none) (some (.inl ()))
def t7x:=lpW _ _ t65
theorem r5y x:t7x x=t65 t7x x:=zW r4s 195 Tryz.f195 2 27 x (by kernel_rfl)
def q1t (x:j91):Ht Bool:=(t7x (x.2,x.1,(x.1.length:Int),0)).bind fun r5=>match r5 with | .inl o6=>some false | .inr z7=>some z7
theorem p6a:u63=q1t:=zC 195 rfl Tryz.func195 (by kernel_rfl)
def s75(x:j9z):Ht Bool:=zK 196 x
def s1a(g:d2h→Ht (j4t⊕Bool))(x:d2h):Ht (j4t⊕Bool):=cond (decide (x.2.2.2.2.2.2.2<x.2.2.2.2.2.2.1)) (cond (y4q x.2.2.2.2.2.2.2 x.2.2.2.2.2.1.length) (cond (z7o x.2.1.1 (rdL u2g x.2.2.2.2.2.1 x.2.2.2.2.2.2.2.toNat).1) (some (.inr true)) (g (x.1,x.2.1,x.2.2.1,x.2.2.2.1,x.2.2.2.2.1,x.2.2.2.2.2.1,x.2.2.2.2.2.2.1,IntKind.i64.wrap (x.2.2.2.2.2.2.2+1)))) none) (some (.inl (x.1,x.2.2.1,x.2.2.2.1,x.2.2.2.2.1)))
def t6b:=lpW _ _ s1a
theorem q31 x:t6b x=s1a t6b x:=zW q3i 196 Tryz.f196 5 28 x (by kernel_rfl)
def s09(g:j4t→Ht r6y)(x:j4t):Ht r6y:=cond (decide (x.2.2.2<x.2.2.1)) (cond (y4q x.2.2.2 x.2.1.length) ((t6b (x.1,rdL u2g x.2.1 x.2.2.2.toNat,x.2.1,x.2.2.1,x.2.2.2,x.1,(x.1.length:Int),0)).bind fun r1=>match r1 with | .inl o2=>g (o2.1,o2.2.1,o2.2.2.1,IntKind.i64.wrap (o2.2.2.2+1)) | .inr z3=>some (.inr z3)) none) (some (.inl ()))
def s1j:=lpW _ _ s09
theorem q30 x:s1j x=s09 s1j x:=zW q3h 196 Tryz.f196 2 28 x (by kernel_rfl)
def q9k (x:j9z):Ht Bool:=(s1j (x.2,x.1,(x.1.length:Int),0)).bind fun r4=>match r4 with | .inl o5=>some false | .inr z6=>some z6
theorem o22:s75=q9k:=zC 196 rfl Tryz.func196 (by kernel_rfl)
def s4r(x:Z63):Ht Bool:=zK 85 x
def q5c (x:Z63):Ht Bool:=(((u8g x.1).bind fun y1=>cond (!y1) (some true) ((u8g x.2).bind fun y2=>cond (!y2) (some true) (some (decide (x.1.1=x.2.1))))):Ht Bool).bind fun j3=>cond j3 (some false) (((cond (decide (x.1.2.2.2.1≤x.2.2.2.1)) ((u63 (x.2.2.2.2.2.1,x.1.2.2.2.2.2.1)).bind fun y4=>cond y4 (some true) (cond (decide (x.1.2.2.2.1<x.2.2.2.2.1)) ((s75 (x.1.2.2.2.2.2.1,x.2.2.2.2.2.2.1)).bind fun y5=>cond y5 (some true) (cond (decide (x.2.2.2.2.1>x.1.2.2.1)) ((u63 (x.1.2.2.2.2.1,x.2.2.2.2.2.2.1)).bind fun y6=>some y6) (some false))) (cond (decide (x.2.2.2.2.1>x.1.2.2.1)) ((u63 (x.1.2.2.2.2.1,x.2.2.2.2.2.2.1)).bind fun y7=>some y7) (some false)))) (cond (decide (x.1.2.2.2.1<x.2.2.2.2.1)) ((s75 (x.1.2.2.2.2.2.1,x.2.2.2.2.2.2.1)).bind fun y8=>cond y8 (some true) (cond (decide (x.2.2.2.2.1>x.1.2.2.1)) ((u63 (x.1.2.2.2.2.1,x.2.2.2.2.2.2.1)).bind fun y9=>some y9) (some false))) (cond (decide (x.2.2.2.2.1>x.1.2.2.1)) ((u63 (x.1.2.2.2.2.1,x.2.2.2.2.2.2.1)).bind fun y10=>some y10) (some false)))):Ht Bool).bind fun j11=>some j11)
theorem p9x:s4r=q5c:=zC 85 rfl Tryz.func85 (by kernel_rfl)
def t3e(x:q42):Ht j7q:=zK 23 x
def u73(g:Z33→Ht (d2e⊕Unit))(x:Z33):Ht (d2e⊕Unit):=cond (decide (x.2.2.2.2.2.2.2.2.2.2.2<x.2.2.2.2.2.2.2.2.2.2.1)) (cond (y4q x.2.2.2.2.2.2.2.2.2.2.2 x.2.2.2.2.2.2.2.2.2.1.length) (((cond x.2.2.2.2.2.1 (some true) (cond (!decide (x.2.2.2.2.2.2.2.2.2.2.2=x.2.2.2.1)) ((u2m (x.2.1,x.2.2.2.2.2.2.2.2.2.2.2)).bind fun y2=>cond (!y2) ((s4r (rdL u0a x.2.2.2.2.2.2.2.2.2.1 x.2.2.2.2.2.2.2.2.2.2.2.toNat,x.2.2.2.2.1)).bind fun y3=>some y3) (some false)) (some false))):Ht Bool).bind fun j4=>g (x.1,x.2.1,x.2.2.1,x.2.2.2.1,x.2.2.2.2.1,j4,x.2.2.2.2.2.2.1,x.2.2.2.2.2.2.2.1,x.2.2.2.2.2.2.2.2.1,x.2.2.2.2.2.2.2.2.2.1,x.2.2.2.2.2.2.2.2.2.2.1,IntKind.i64.wrap (x.2.2.2.2.2.2.2.2.2.2.2+1))) none) (some (.inl (x.1,x.2.1,x.2.2.1,x.2.2.2.1,x.2.2.2.2.2.1,x.2.2.2.2.2.2.1,x.2.2.2.2.2.2.2.1,x.2.2.2.2.2.2.2.2.1)))
def u5n:=lpW _ _ u73
theorem s2v x:u5n x=u73 u5n x:=zW s2j 23 Tryz.f23 10 61 x (by kernel_rfl)
def u80(g:d2r→Ht (d3x⊕Unit))(x:d2r):Ht (d3x⊕Unit):=cond (decide (x.2.2.2.2.2<x.2.2.2.2.1)) (cond (y4q x.2.2.2.2.2 x.2.2.2.1.length) ((u2m (x.2.1,x.2.2.2.2.2)).bind fun y1=>cond y1 (g (x.1,x.2.1,x.2.2.1,x.2.2.2.1,x.2.2.2.2.1,IntKind.i64.wrap (x.2.2.2.2.2+1))) ((u5n (x.1,x.2.1,x.2.2.1,x.2.2.2.2.2,rdL u0a x.2.2.2.1 x.2.2.2.2.2.toNat,false,x.2.2.2.1,x.2.2.2.2.1,x.2.2.2.2.2,x.1,(x.1.length:Int),0)).bind fun r5=>match r5 with | .inl o6=>cond (!o6.2.2.2.2.1) (cond (Nat.ble (o6.2.1.length+([o6.2.2.2.1]:Hu Int).length) z7w) (some (.inl (o6.1,o6.2.1++([o6.2.2.2.1]:Hu Int),true))) none) (g (o6.1,o6.2.1,o6.2.2.1,o6.2.2.2.2.2.1,o6.2.2.2.2.2.2.1,IntKind.i64.wrap (o6.2.2.2.2.2.2.2+1))) | .inr z7=>some (.inr ()))) none) (some (.inl (x.1,x.2.1,x.2.2.1)))
def u6l:=lpW _ _ u80
theorem s4e x:u6l x=u80 u6l x:=zW s3z 23 Tryz.f23 5 61 x (by kernel_rfl)
def u8z(g:d4a→Ht (q09⊕j7q))(x:d4a):Ht (q09⊕j7q):=cond (decide ((x.2.length:Int)<(x.1.length:Int))) ((u6l (x.1,x.2,false,x.1,(x.1.length:Int),0)).bind fun r8=>match r8 with | .inl o9=>cond (!o9.2.2) (some (.inr (([]:Hu Int),false))) (g (o9.1,o9.2.1)) | .inr z10=>none) (some (.inl x.2))
def u6k:=lpW _ _ u8z
theorem s4d x:u6k x=u8z u6k x:=zW s3y 23 Tryz.f23 2 61 x (by kernel_rfl)
def s7a (x:q42):Ht j7q:=(u6k (x,([]:Hu Int))).bind fun r11=>match r11 with | .inl o12=>some (o12,true) | .inr z13=>some z13
theorem q6n:t3e=s7a:=zC 23 rfl Tryz.func23 (by kernel_rfl)
def u36(x:d37):Ht q08:=zK 200 x
theorem s4n:∀(x:d37),u36 x=y2q u0h x:=y6f (P:=Tryz.prog) (A:=A) (f:=200) (F:=y2q u0h) rfl
def t3d(x:Hs):Ht Bool:=zK 380 x
def s68 (x:Hs):Ht Bool:=some (!z7o x x)
theorem q6l:t3d=s68:=zC 380 rfl Tryz.func380 (by kernel_rfl)
def t57(x:j47):Ht Int:=zK 308 x
def s3n (x:j47):Ht Int:=(t3d x.1).bind fun y1=>(t3d x.2).bind fun y2=>cond y1 (cond y2 (some (0:Int)) (some (- 1:Int))) (cond y2 (some (1:Int)) (cond (y3c x.1 x.2) (some (- 1:Int)) (cond (!(y3c x.1 x.2||z7o x.1 x.2)) (some (1:Int)) (some (0:Int)))))
theorem q00:t57=s3n:=zC 308 rfl Tryz.func308 (by kernel_rfl)
def t9x(x:Int):Ht Bool:=zK 381 x
def r7b (x:Int):Ht Bool:=some (!decide (x=x))
theorem p2z:t9x=r7b:=zC 381 rfl Tryz.func381 (by kernel_rfl)
def s0s(x:j60):Ht Int:=zK 309 x
def s9p (x:j60):Ht Int:=(t9x x.1).bind fun y1=>(t9x x.2).bind fun y2=>cond y1 (cond y2 (some (0:Int)) (some (- 1:Int))) (cond y2 (some (1:Int)) (cond (decide (x.1<x.2)) (some (- 1:Int)) (cond (decide (x.1>x.2)) (some (1:Int)) (some (0:Int)))))
theorem q78:s0s=s9p:=zC 309 rfl Tryz.func309 (by kernel_rfl)
def u5t(x:j9k):Ht Int:=zK 199 x
def t30 (x:j9k):Ht Int:=(t57 (x.1.1,x.2.1)).bind fun y1=>cond (!decide (y1=0)) (some y1) ((s0s (x.1.2.2.2,x.2.2.2.2)).bind fun y2=>some y2)
theorem s2g:u5t=t30:=zC 199 rfl Tryz.func199 (by kernel_rfl)
def t58(x:j9k):Ht Bool:=zK 198 x
def s3o (x:j9k):Ht Bool:=(u5t x).bind fun y1=>some (decide (y1>0))
theorem q01:t58=s3o:=zC 198 rfl Tryz.func198 (by kernel_rfl)
def u1w(x:d3u):Ht Int:=zK 10006 x
def u0v(g:d3f→Ht p5l)(x:d3f):Ht p5l:=cond (decide (x.2.2.2<x.2.2.1)) (cond (y4q x.2.2.2 x.1.length) ((t58 (rdL u0h x.1 x.2.2.2.toNat,x.2.1)).bind fun y1=>cond y1 (some (.inr x.2.2.2)) (g (x.1,x.2.1,x.2.2.1,IntKind.i64.wrap (x.2.2.2+1)))) none) (some (.inl ()))
def u0w:=lpW _ _ u0v
theorem u2r x:u0w x=u0v u0w x:=zW u2p 10006 Tryz.f197 2 19 x (by kernel_rfl)
def u20 (x:d3u):Ht Int:=(u0w (x.1,x.2,(x.1.length:Int),0)).bind fun r2=>match r2 with | .inl o3=>some (- 1:Int) | .inr z4=>some z4
theorem u7l:u1w=u20:=zC 10006 rfl Tryz.func197 (by kernel_rfl)
def u8e(x:j9v):Ht q08:=zK 86 x
def u8y(g:d3t→Ht j2o)(x:d3t):Ht j2o:=cond (decide (x.2.2.2.2<x.2.2.2.1)) (cond (y4q x.2.2.2.2 x.2.2.1.length) ((u1w (x.2.1,(rdL u2g x.2.2.1 x.2.2.2.2.toNat).1,(rdL u2g x.2.2.1 x.2.2.2.2.toNat).2.1,(rdL u2g x.2.2.1 x.2.2.2.2.toNat).2.2,x.1)).bind fun y1=>cond (decide (y1<0)) ((u36 (x.2.1,(x.2.1.length:Int),([((rdL u2g x.2.2.1 x.2.2.2.2.toNat).1,(rdL u2g x.2.2.1 x.2.2.2.2.toNat).2.1,(rdL u2g x.2.2.1 x.2.2.2.2.toNat).2.2,x.1)]:Hu u0h.den))).bind fun y2=>g (x.1,y2,x.2.2.1,x.2.2.2.1,IntKind.i64.wrap (x.2.2.2.2+1))) ((u36 (x.2.1,y1,([((rdL u2g x.2.2.1 x.2.2.2.2.toNat).1,(rdL u2g x.2.2.1 x.2.2.2.2.toNat).2.1,(rdL u2g x.2.2.1 x.2.2.2.2.toNat).2.2,x.1)]:Hu u0h.den))).bind fun y3=>g (x.1,y3,x.2.2.1,x.2.2.2.1,IntKind.i64.wrap (x.2.2.2.2+1)))) none) (some (.inl x.2.1))
def u85:=lpW _ _ u8y
theorem s4c x:u85 x=u8y u85 x:=zW s3x 86 Tryz.f86 3 42 x (by kernel_rfl)
def s69 (x:j9v):Ht q08:=cond (Nat.ble x.1.length z7w) ((u85 (x.2.2,x.1,x.2.1,(x.2.1.length:Int),0)).bind fun r4=>match r4 with | .inl o5=>some o5 | .inr z6=>none) none
theorem q6m:u8e=s69:=zC 86 rfl Tryz.func86 (by kernel_rfl)
def u30(x:(o6i×o6i)):Ht Bool:=zK 87 x
def u46(g:d1n→Ht r6y)(x:d1n):Ht r6y:=cond (decide (x.2.2.2<x.2.2.1)) (cond (y4q x.2.2.2 x.1.length) (cond (y4q x.2.2.2 x.2.1.length) (cond (!(z7o (rdL s4z x.1 x.2.2.2.toNat).1 (rdL s4z x.2.1 x.2.2.2.toNat).1&&(z7o (rdL s4z x.1 x.2.2.2.toNat).2 (rdL s4z x.2.1 x.2.2.2.toNat).2&&true))) (some (.inr false)) (g (x.1,x.2.1,x.2.2.1,IntKind.i64.wrap (x.2.2.2+1)))) none) none) (some (.inl ()))
def u47:=lpW _ _ u46
theorem t52 x:u47 x=u46 u47 x:=zW t5w 87 Tryz.f87 4 26 x (by kernel_rfl)
def t8v (x:(o6i×o6i)):Ht Bool:=cond (!decide ((x.1.length:Int)=(x.2.length:Int))) (some false) ((u47 (x.1,x.2,(x.1.length:Int),0)).bind fun r1=>match r1 with | .inl o2=>some true | .inr z3=>some z3)
theorem r0e:u30=t8v:=zC 87 rfl Tryz.func87 (by kernel_rfl)
def s4s(x:d4f):Ht o6i:=zK 88 x
def t89(g:d3g→Ht j5b)(x:d3g):Ht j5b:=cond (decide (x.2.2.2.2<x.2.2.2.1)) (cond (y4q x.2.2.2.2 x.2.2.1.length) ((t6i (x.1,(rdL s4z x.2.2.1 x.2.2.2.2.toNat).1)).bind fun y1=>cond y1 (cond (Nat.ble (x.2.1.length+([(rdL s4z x.2.2.1 x.2.2.2.2.toNat)]:Hu s4z.den).length) z7w) (g (x.1,x.2.1++([(rdL s4z x.2.2.1 x.2.2.2.2.toNat)]:Hu s4z.den),x.2.2.1,x.2.2.2.1,IntKind.i64.wrap (x.2.2.2.2+1))) none) (g (x.1,x.2.1,x.2.2.1,x.2.2.2.1,IntKind.i64.wrap (x.2.2.2.2+1)))) none) (some (.inl x.2.1))
def t9l:=lpW _ _ t89
theorem r95 x:t9l x=t89 t9l x:=zW r8y 88 Tryz.f88 3 28 x (by kernel_rfl)
def q5m (x:d4f):Ht o6i:=(t9l (x.2,([]:Hu s4z.den),x.1,(x.1.length:Int),0)).bind fun r2=>match r2 with | .inl o3=>some o3 | .inr z4=>none
theorem p97:s4s=q5m:=zC 88 rfl Tryz.func88 (by kernel_rfl)
def t37(x:p0k):Ht p0k:=zK 312 x
theorem s5i:∀(x:p0k),t37 x=y7a x:=y6f (P:=Tryz.prog) (A:=A) (f:=312) (F:=y7a) rfl
def u99(x:p0k):Ht p0k:=zK 313 x
theorem s2h:∀(x:p0k),u99 x=y0m x:=y6f (P:=Tryz.prog) (A:=A) (f:=313) (F:=y0m) rfl
def r2z(x:q08):Ht p0k:=zK 202 x
def t9a(g:d32→Ht (p0k⊕Unit))(x:d32):Ht (p0k⊕Unit):=cond (decide (x.2.2.2<x.2.2.1)) (cond (y4q x.2.2.2 x.2.1.length) (cond (Nat.ble (x.1.length+([(rdL u0h x.2.1 x.2.2.2.toNat).1]:Hu Hs).length) z7w) (g (x.1++([(rdL u0h x.2.1 x.2.2.2.toNat).1]:Hu Hs),x.2.1,x.2.2.1,IntKind.i64.wrap (x.2.2.2+1))) none) none) (some (.inl x.1))
def t9m:=lpW _ _ t9a
theorem r96 x:t9m x=t9a t9m x:=zW r8z 202 Tryz.f202 3 22 x (by kernel_rfl)
def q5p (x:q08):Ht p0k:=(t9m (([]:Hu Hs),x,(x.length:Int),0)).bind fun r1=>match r1 with | .inl o2=>((t37 o2).bind fun y3=>(u99 y3).bind fun y4=>some y4) | .inr z5=>none
theorem p99:r2z=q5p:=zC 202 rfl Tryz.func202 (by kernel_rfl)
def s4t(x:j4v):Ht Int:=zK 292 x
def t9b(g:d29→Ht o7u)(x:d29):Ht o7u:=cond (decide (x.2.2.2.2.2.2<x.2.2.2.2.2.1)) (cond (y4q x.2.2.2.2.2.2 x.2.2.2.2.1.length) (((cond (z7o (rdL u0h x.2.2.2.2.1 x.2.2.2.2.2.2.toNat).1 x.2.1) (cond (decide ((rdL u0h x.2.2.2.2.1 x.2.2.2.2.2.2.toNat).2.2.2≤x.2.2.1)) (cond (decide (x.2.2.2.1<0)) (some true) (cond (y4q x.2.2.2.1 x.1.length) (some (decide ((rdL u0h x.2.2.2.2.1 x.2.2.2.2.2.2.toNat).2.2.2>(rdL u0h x.1 x.2.2.2.1.toNat).2.2.2))) none)) (some false)) (some false)):Ht Bool).bind fun j1=>cond j1 (g (x.1,x.2.1,x.2.2.1,x.2.2.2.2.2.2,x.2.2.2.2.1,x.2.2.2.2.2.1,IntKind.i64.wrap (x.2.2.2.2.2.2+1))) (g (x.1,x.2.1,x.2.2.1,x.2.2.2.1,x.2.2.2.2.1,x.2.2.2.2.2.1,IntKind.i64.wrap (x.2.2.2.2.2.2+1)))) none) (some (.inl x.2.2.2.1))
def t3t:=lpW _ _ t9b
theorem r97 x:t3t x=t9b t3t x:=zW r80 292 Tryz.f292 3 44 x (by kernel_rfl)
def q5q (x:j4v):Ht Int:=(t3t (x.1,x.2.1,x.2.2,(- 1:Int),x.1,(x.1.length:Int),0)).bind fun r2=>match r2 with | .inl o3=>some o3 | .inr z4=>none
theorem o0a:s4t=q5q:=zC 292 rfl Tryz.func292 (by kernel_rfl)
def r2x(x:j4v):Ht s63:=zK 203 x
def q5j (x:j4v):Ht s63:=(s4t x).bind fun y1=>((cond (decide (y1<0)) (some true) (cond (y4q y1 x.1.length) (some (rdL u0h x.1 y1.toNat).2.2.1) none)):Ht Bool).bind fun j2=>cond j2 (some ((⟨#[]⟩:Hs),false)) (cond (y4q y1 x.1.length) (some ((rdL u0h x.1 y1.toNat).2.1,true)) none)
theorem p94:r2x=q5j:=zC 203 rfl Tryz.func203 (by kernel_rfl)
def t5n(x:d33):Ht o6i:=zK 89 x
def t88(g:d2u→Ht j5b)(x:d2u):Ht j5b:=cond (decide (x.2.2.2.2.2.2<x.2.2.2.2.2.1)) (cond (y4q x.2.2.2.2.2.2 x.2.2.2.2.1.length) ((r2x (x.1,rdL Ty.str x.2.2.2.2.1 x.2.2.2.2.2.2.toNat,x.2.1)).bind fun y2=>((cond y2.2 ((t6i (x.2.2.1,rdL Ty.str x.2.2.2.2.1 x.2.2.2.2.2.2.toNat)).bind fun y3=>some y3) (some false)):Ht Bool).bind fun j4=>cond j4 (cond (Nat.ble (x.2.2.2.1.length+([(rdL Ty.str x.2.2.2.2.1 x.2.2.2.2.2.2.toNat,y2.1)]:Hu s4z.den).length) z7w) (g (x.1,x.2.1,x.2.2.1,x.2.2.2.1++([(rdL Ty.str x.2.2.2.2.1 x.2.2.2.2.2.2.toNat,y2.1)]:Hu s4z.den),x.2.2.2.2.1,x.2.2.2.2.2.1,IntKind.i64.wrap (x.2.2.2.2.2.2+1))) none) (g (x.1,x.2.1,x.2.2.1,x.2.2.2.1,x.2.2.2.2.1,x.2.2.2.2.2.1,IntKind.i64.wrap (x.2.2.2.2.2.2+1)))) none) (some (.inl x.2.2.2.1))
def t9k:=lpW _ _ t88
theorem r94 x:t9k x=t88 t9k x:=zW r8x 89 Tryz.f89 3 40 x (by kernel_rfl)
def q5h (x:d33):Ht o6i:=(r2z x.1).bind fun y1=>(t9k (x.1,x.2.2,x.2.1,([]:Hu s4z.den),y1,(y1.length:Int),0)).bind fun r5=>match r5 with | .inl o6=>some o6 | .inr z7=>none
theorem p92:t5n=q5h:=zC 89 rfl Tryz.func89 (by kernel_rfl)
def s1u(x:d2t):Ht o6i:=zK 90 x
def t61(g:Z93→Ht (d2w⊕Unit))(x:Z93):Ht (d2w⊕Unit):=cond (decide (x.2.2.2.2.2.2.2.2<x.2.2.2.2.2.2.2.1)) (cond (y4q x.2.2.2.2.2.2.2.2 x.2.2.2.2.2.2.1.length) (cond (y3c (rdL s4z x.2.2.2.2.2.2.1 x.2.2.2.2.2.2.2.2.toNat).1 x.2.1.1) (cond (Nat.ble (x.2.2.1.length+([(rdL s4z x.2.2.2.2.2.2.1 x.2.2.2.2.2.2.2.2.toNat)]:Hu s4z.den).length) z7w) (g (x.1,x.2.1,x.2.2.1++([(rdL s4z x.2.2.2.2.2.2.1 x.2.2.2.2.2.2.2.2.toNat)]:Hu s4z.den),x.2.2.2.1,x.2.2.2.2.1,x.2.2.2.2.2.1,x.2.2.2.2.2.2.1,x.2.2.2.2.2.2.2.1,IntKind.i64.wrap (x.2.2.2.2.2.2.2.2+1))) none) (g (x.1,x.2.1,x.2.2.1,x.2.2.2.1,x.2.2.2.2.1,x.2.2.2.2.2.1,x.2.2.2.2.2.2.1,x.2.2.2.2.2.2.2.1,IntKind.i64.wrap (x.2.2.2.2.2.2.2.2+1)))) none) (some (.inl (x.1,x.2.1,x.2.2.1,x.2.2.2.1,x.2.2.2.2.1,x.2.2.2.2.2.1)))
def t1c:=lpW _ _ t61
theorem r5u x:t1c x=t61 t1c x:=zW r4n 90 Tryz.f90 7 68 x (by kernel_rfl)
def t4i(g:d1j→Ht (j5y⊕Unit))(x:d1j):Ht (j5y⊕Unit):=cond (decide (x.2.2.2.2.2.2.2<x.2.2.2.2.2.2.1)) (cond (y4q x.2.2.2.2.2.2.2 x.2.2.2.2.2.1.length) (cond (!(y3c (rdL s4z x.2.2.2.2.2.1 x.2.2.2.2.2.2.2.toNat).1 x.1.1||z7o (rdL s4z x.2.2.2.2.2.1 x.2.2.2.2.2.2.2.toNat).1 x.1.1)) (cond (Nat.ble (x.2.1.length+([(rdL s4z x.2.2.2.2.2.1 x.2.2.2.2.2.2.2.toNat)]:Hu s4z.den).length) z7w) (g (x.1,x.2.1++([(rdL s4z x.2.2.2.2.2.1 x.2.2.2.2.2.2.2.toNat)]:Hu s4z.den),x.2.2.1,x.2.2.2.1,x.2.2.2.2.1,x.2.2.2.2.2.1,x.2.2.2.2.2.2.1,IntKind.i64.wrap (x.2.2.2.2.2.2.2+1))) none) (g (x.1,x.2.1,x.2.2.1,x.2.2.2.1,x.2.2.2.2.1,x.2.2.2.2.2.1,x.2.2.2.2.2.2.1,IntKind.i64.wrap (x.2.2.2.2.2.2.2+1)))) none) (some (.inl (x.2.1,x.2.2.1,x.2.2.2.1,x.2.2.2.2.1)))
def u68:=lpW _ _ t4i
theorem r1i x:u68 x=t4i u68 x:=zW r0l 90 Tryz.f90 15 68 x (by kernel_rfl)
def t60(g:j5y→Ht j5b)(x:j5y):Ht j5b:=cond (decide (x.2.2.2<x.2.2.1)) (cond (y4q x.2.2.2 x.2.1.length) ((t1c (x.1,rdL u2g x.2.1 x.2.2.2.toNat,([]:Hu s4z.den),x.2.1,x.2.2.1,x.2.2.2,x.1,(x.1.length:Int),0)).bind fun r1=>match r1 with | .inl o2=>cond (!o2.2.1.2.2) (cond (Nat.ble (o2.2.2.1.length+([(o2.2.1.1,o2.2.1.2.1)]:Hu s4z.den).length) z7w) ((u68 (o2.2.1,o2.2.2.1++([(o2.2.1.1,o2.2.1.2.1)]:Hu s4z.den),o2.2.2.2.1,o2.2.2.2.2.1,o2.2.2.2.2.2,o2.1,(o2.1.length:Int),0)).bind fun r3=>match r3 with | .inl o4=>g (o4.1,o4.2.1,o4.2.2.1,IntKind.i64.wrap (o4.2.2.2+1)) | .inr z5=>some (.inr ())) none) ((u68 (o2.2.1,o2.2.2.1,o2.2.2.2.1,o2.2.2.2.2.1,o2.2.2.2.2.2,o2.1,(o2.1.length:Int),0)).bind fun r6=>match r6 with | .inl o7=>g (o7.1,o7.2.1,o7.2.2.1,IntKind.i64.wrap (o7.2.2.2+1)) | .inr z8=>some (.inr ())) | .inr z9=>some (.inr ())) none) (some (.inl x.1))
def t7t:=lpW _ _ t60
theorem r5t x:t7t x=t60 t7t x:=zW r4m 90 Tryz.f90 3 68 x (by kernel_rfl)
def q1m (x:d2t):Ht o6i:=cond (Nat.ble x.1.length z7w) ((t7t (x.1,x.2.2.2.2.2.2.1,(x.2.2.2.2.2.2.1.length:Int),0)).bind fun r10=>match r10 with | .inl o11=>some o11 | .inr z12=>none) none
theorem p53:s1u=q1m:=zC 90 rfl Tryz.func90 (by kernel_rfl)
def t3f(x:q42):Ht Bool:=zK 24 x
def u81(g:d2g→Ht (d3n⊕Unit))(x:d2g):Ht (d3n⊕Unit):=cond (decide (x.2.2.2.2.2<x.2.2.2.2.1)) (cond (y4q x.2.2.2.2.2 x.2.2.2.1.length) ((u8e (x.2.2.1,(rdL u0a x.2.2.2.1 x.2.2.2.2.2.toNat).2.2.2.2.2.1,(rdL u0a x.2.2.2.1 x.2.2.2.2.2.toNat).2.2.2.1)).bind fun y2=>g (x.1,x.2.1,y2,x.2.2.2.1,x.2.2.2.2.1,IntKind.i64.wrap (x.2.2.2.2.2+1))) none) (some (.inl (x.1,x.2.1,x.2.2.1)))
def u6m:=lpW _ _ u81
theorem s4f x:u6m x=u81 u6m x:=zW s30 24 Tryz.f24 6 66 x (by kernel_rfl)
def u75(g:Z48→Ht (Z57⊕Bool))(x:Z48):Ht (Z57⊕Bool):=cond (decide (x.2.2.2.2.2.2.2.2.2<x.2.2.2.2.2.2.2.2.1)) (cond (y4q x.2.2.2.2.2.2.2.2.2 x.2.2.2.2.2.2.2.1.length) ((s4s (x.2.2.1,rdL s4z x.2.2.2.2.2.2.2.1 x.2.2.2.2.2.2.2.2.2.toNat)).bind fun y5=>(t5n (x.2.1,rdL s4z x.2.2.2.2.2.2.2.1 x.2.2.2.2.2.2.2.2.2.toNat,x.2.2.2.1.2.2.1)).bind fun y6=>(u30 (y5,y6)).bind fun y7=>cond (!y7) (some (.inr false)) (g (x.1,x.2.1,x.2.2.1,x.2.2.2.1,x.2.2.2.2.1,x.2.2.2.2.2.1,x.2.2.2.2.2.2.1,x.2.2.2.2.2.2.2.1,x.2.2.2.2.2.2.2.2.1,IntKind.i64.wrap (x.2.2.2.2.2.2.2.2.2+1)))) none) (some (.inl (x.1,x.2.1,x.2.2.1,x.2.2.2.1,x.2.2.2.2.1,x.2.2.2.2.2.1,x.2.2.2.2.2.2.1)))
def u5o:=lpW _ _ u75
theorem s2x x:u5o x=u75 u5o x:=zW s2l 24 Tryz.f24 16 66 x (by kernel_rfl)
def u74(g:d2x→Ht r6y)(x:d2x):Ht r6y:=cond (decide (x.2.2.2.2.2<x.2.2.2.2.1)) (cond (y4q x.2.2.2.2.2 x.2.2.2.1.length) (cond (y4q (rdL (Ty.int .i64) x.2.2.2.1 x.2.2.2.2.2.toNat) x.1.length) ((u5o (x.1,x.2.1,x.2.2.1,rdL u0a x.1 (rdL (Ty.int .i64) x.2.2.2.1 x.2.2.2.2.2.toNat).toNat,x.2.2.2.1,x.2.2.2.2.1,x.2.2.2.2.2,(rdL u0a x.1 (rdL (Ty.int .i64) x.2.2.2.1 x.2.2.2.2.2.toNat).toNat).2.2.2.2.1,((rdL u0a x.1 (rdL (Ty.int .i64) x.2.2.2.1 x.2.2.2.2.2.toNat).toNat).2.2.2.2.1.length:Int),0)).bind fun r8=>match r8 with | .inl o9=>((s1u (o9.2.2.1,o9.2.2.2.1)).bind fun y10=>g (o9.1,o9.2.1,y10,o9.2.2.2.2.1,o9.2.2.2.2.2.1,IntKind.i64.wrap (o9.2.2.2.2.2.2+1))) | .inr z11=>some (.inr z11)) none) none) (some (.inl ()))
def u2t:=lpW _ _ u74
theorem s2w x:u2t x=u74 u2t x:=zW s2k 24 Tryz.f24 12 66 x (by kernel_rfl)
def s7b (x:q42):Ht Bool:=(t3e x).bind fun y1=>cond (!y1.2) (some false) ((u6m (x,y1.1,([]:Hu u0h.den),x,(x.length:Int),0)).bind fun r3=>match r3 with | .inl o4=>((u2t (o4.1,o4.2.2,([]:Hu s4z.den),o4.2.1,(o4.2.1.length:Int),0)).bind fun r12=>match r12 with | .inl o13=>some true | .inr z14=>some z14) | .inr z15=>none)
theorem q6o:t3f=s7b:=zC 24 rfl Tryz.func24 (by kernel_rfl)
def r2y(x:Z39):Ht Bool:=zK 25 x
def q5k (x:Z39):Ht Bool:=(t3f x.2.1).bind fun y1=>some y1
theorem p95:r2y=q5k:=zC 25 rfl Tryz.func25 (by kernel_rfl)
def t6l(x:Unit):Ht j47:=zK 92 x
def s8v (x:Unit):Ht j47:=some ((⟨#[97]⟩:Hs),(⟨#[122,122,122]⟩:Hs))
theorem q28:t6l=s8v:=zC 92 rfl Tryz.func92 (by kernel_rfl)
def s27(x:Z39):Ht Bool:=zK 26 x
def t2p(g:Z19→Ht (Z32⊕Bool))(x:Z19):Ht (Z32⊕Bool):=cond (decide (x.2.2.2.2<x.2.2.2.1)) (cond (y4q x.2.2.2.2 x.2.2.1.length) ((((u8g (rdL u0a x.2.2.1 x.2.2.2.2.toNat)).bind fun y1=>cond (!y1) (some true) (cond (decide (x.2.2.2.2>0)) (cond (y4q (IntKind.i64.wrap (x.2.2.2.2 - 1)) x.1.2.1.length) (some (decide ((rdL u0a x.1.2.1 (IntKind.i64.wrap (x.2.2.2.2 - 1)).toNat).2.2.2.1≥(rdL u0a x.2.2.1 x.2.2.2.2.toNat).2.2.2.1))) none) (some false))):Ht Bool).bind fun j2=>cond j2 (some (.inr false)) ((s1u (x.2.1,rdL u0a x.2.2.1 x.2.2.2.2.toNat)).bind fun y3=>g (x.1,y3,x.2.2.1,x.2.2.2.1,IntKind.i64.wrap (x.2.2.2.2+1)))) none) (some (.inl (x.1,x.2.1)))
def u4j:=lpW _ _ t2p
theorem s8g x:u4j x=t2p u4j x:=zW s7n 26 Tryz.f26 3 52 x (by kernel_rfl)
def r3p (x:Z39):Ht Bool:=(u4j (x,([]:Hu s4z.den),x.2.1,(x.2.1.length:Int),0)).bind fun r4=>match r4 with | .inl o5=>((t6l ()).bind fun y6=>(s4s (o5.2,y6)).bind fun y7=>(t6l ()).bind fun y8=>(t5n (o5.1.1.1.1.1,y8,o5.1.1.1.1.2.2.2.1)).bind fun y9=>(u30 (y7,y9)).bind fun y10=>some y10) | .inr z11=>some z11
theorem p0y:s27=r3p:=zC 26 rfl Tryz.func26 (by kernel_rfl)
def t6m(x:u87):Ht u87:=zK 185 x
def q1y (x:u87):Ht u87:=cond (Nat.ble x.2.2.2.2.1.length z7w) (cond (Nat.ble x.2.2.2.2.2.1.length z7w) (some x) none) none
theorem p6f:t6m=q1y:=zC 185 rfl Tryz.func185 (by kernel_rfl)
def t36(x:q42):Ht q42:=zK 283 x
def t4o(g:d1k→Ht j7n)(x:d1k):Ht j7n:=cond (decide (x.2.2.2<x.2.2.1)) (cond (y4q x.2.2.2 x.2.1.length) ((t6m (rdL u0a x.2.1 x.2.2.2.toNat)).bind fun y1=>cond (Nat.ble (x.1.length+([y1]:Hu u0a.den).length) z7w) (g (x.1++([y1]:Hu u0a.den),x.2.1,x.2.2.1,IntKind.i64.wrap (x.2.2.2+1))) none) none) (some (.inl x.1))
def t5c:=lpW _ _ t4o
theorem r1o x:t5c x=t4o t5c x:=zW r0r 283 Tryz.f283 3 19 x (by kernel_rfl)
def r7q (x:q42):Ht q42:=(t5c (([]:Hu u0a.den),x,(x.length:Int),0)).bind fun r2=>match r2 with | .inl o3=>some o3 | .inr z4=>none
theorem p3f:t36=r7q:=zC 283 rfl Tryz.func283 (by kernel_rfl)
def u1t(x:u7f):Ht u7f:=zK 165 x
def r7o (x:u7f):Ht u7f:=cond (Nat.ble x.1.length z7w) ((t36 x.2.1).bind fun y1=>(t36 x.2.2.1).bind fun y2=>some (x.1,y1,y2,x.2.2.2)) none
theorem p3d:u1t=r7o:=zC 165 rfl Tryz.func165 (by kernel_rfl)
def s53(x:Z84):Ht Int:=zK 172 x
def t4h(g:j7h→Ht o7u)(x:j7h):Ht o7u:=cond (decide (x.2.2.2<x.2.2.1)) (cond (y4q x.2.2.2 x.2.1.length) (g (y8i x.1 (rdL u0a x.2.1 x.2.2.2.toNat).2.2.1,x.2.1,x.2.2.1,IntKind.i64.wrap (x.2.2.2+1))) none) (some (.inl x.1))
def t47:=lpW _ _ t4h
theorem r1h x:t47 x=t4h t47 x:=zW r0k 172 Tryz.f172 3 22 x (by kernel_rfl)
def r7i (x:Z84):Ht Int:=(t47 (x.1.2.2.2.1,x.2,(x.2.length:Int),0)).bind fun r1=>match r1 with | .inl o2=>some o2 | .inr z3=>none
theorem p26:s53=r7i:=zC 172 rfl Tryz.func172 (by kernel_rfl)
def s29(x:(Hs×q08)):Ht Int:=zK 293 x
def t2q(g:d30→Ht o7u)(x:d30):Ht o7u:=cond (decide (x.2.2.2.2<x.2.2.2.1)) (cond (y4q x.2.2.2.2 x.2.2.1.length) (cond (z7o (rdL u0h x.2.2.1 x.2.2.2.2.toNat).1 x.1) (g (x.1,IntKind.i64.wrap (x.2.1+1),x.2.2.1,x.2.2.2.1,IntKind.i64.wrap (x.2.2.2.2+1))) (g (x.1,x.2.1,x.2.2.1,x.2.2.2.1,IntKind.i64.wrap (x.2.2.2.2+1)))) none) (some (.inl x.2.1))
def u78:=lpW _ _ t2q
theorem s8h x:u78 x=t2q u78 x:=zW s7o 293 Tryz.f293 3 21 x (by kernel_rfl)
def r3u (x:(Hs×q08)):Ht Int:=(u78 (x.1,0,x.2,(x.2.length:Int),0)).bind fun r1=>match r1 with | .inl o2=>some o2 | .inr z3=>none
theorem p04:s29=r3u:=zC 293 rfl Tryz.func293 (by kernel_rfl)
def s87(x:j7s):Ht q08:=zK 175 x
def t67(g:d25→Ht d0b)(x:d25):Ht d0b:=cond (decide (x.2.2.2.2.2<x.2.2.2.2.1)) (cond (y4q x.2.2.2.2.2 x.2.2.2.1.length) (((cond (decide ((rdL u0h x.2.2.2.1 x.2.2.2.2.2.toNat).2.2.2>x.2.1)) (some true) ((s4t (x.1,(rdL u0h x.2.2.2.1 x.2.2.2.2.2.toNat).1,x.2.1)).bind fun y1=>some (decide (y1=x.2.2.2.2.2)))):Ht Bool).bind fun j2=>cond j2 (cond (Nat.ble (x.2.2.1.length+([(rdL u0h x.2.2.2.1 x.2.2.2.2.2.toNat)]:Hu u0h.den).length) z7w) (g (x.1,x.2.1,x.2.2.1++([(rdL u0h x.2.2.2.1 x.2.2.2.2.2.toNat)]:Hu u0h.den),x.2.2.2.1,x.2.2.2.2.1,IntKind.i64.wrap (x.2.2.2.2.2+1))) none) (g (x.1,x.2.1,x.2.2.1,x.2.2.2.1,x.2.2.2.2.1,IntKind.i64.wrap (x.2.2.2.2.2+1)))) none) (some (.inl (x.2.1,x.2.2.1)))
def t1e:=lpW _ _ t67
theorem r50 x:t1e x=t67 t1e x:=zW r4u 175 Tryz.f175 3 66 x (by kernel_rfl)
def t4l(g:d26→Ht j2o)(x:d26):Ht j2o:=cond (decide (x.2.2.2.2.2<x.2.2.2.2.1)) (cond (y4q x.2.2.2.2.2 x.2.2.2.1.length) (cond (decide ((rdL u0h x.2.2.2.1 x.2.2.2.2.2.toNat).2.2.2>x.1)) (cond (Nat.ble (x.2.2.1.length+([(rdL u0h x.2.2.2.1 x.2.2.2.2.2.toNat)]:Hu u0h.den).length) z7w) (g (x.1,x.2.1,x.2.2.1++([(rdL u0h x.2.2.2.1 x.2.2.2.2.2.toNat)]:Hu u0h.den),x.2.2.2.1,x.2.2.2.2.1,IntKind.i64.wrap (x.2.2.2.2.2+1))) none) (cond (!(rdL u0h x.2.2.2.1 x.2.2.2.2.2.toNat).2.2.1) (cond (Nat.ble (x.2.2.1.length+([(rdL u0h x.2.2.2.1 x.2.2.2.2.2.toNat)]:Hu u0h.den).length) z7w) (g (x.1,x.2.1,x.2.2.1++([(rdL u0h x.2.2.2.1 x.2.2.2.2.2.toNat)]:Hu u0h.den),x.2.2.2.1,x.2.2.2.2.1,IntKind.i64.wrap (x.2.2.2.2.2+1))) none) ((s29 ((rdL u0h x.2.2.2.1 x.2.2.2.2.2.toNat).1,x.2.1)).bind fun y5=>cond (decide (y5>1)) (cond (Nat.ble (x.2.2.1.length+([(rdL u0h x.2.2.2.1 x.2.2.2.2.2.toNat)]:Hu u0h.den).length) z7w) (g (x.1,x.2.1,x.2.2.1++([(rdL u0h x.2.2.2.1 x.2.2.2.2.2.toNat)]:Hu u0h.den),x.2.2.2.1,x.2.2.2.2.1,IntKind.i64.wrap (x.2.2.2.2.2+1))) none) (g (x.1,x.2.1,x.2.2.1,x.2.2.2.1,x.2.2.2.2.1,IntKind.i64.wrap (x.2.2.2.2.2+1)))))) none) (some (.inl x.2.2.1))
def t5a:=lpW _ _ t4l
theorem r1l x:t5a x=t4l t5a x:=zW r0o 175 Tryz.f175 11 66 x (by kernel_rfl)
def q1u (x:j7s):Ht q08:=(t1e (x.1,x.2,([]:Hu u0h.den),x.1,(x.1.length:Int),0)).bind fun r3=>match r3 with | .inl o4=>((t5a (o4.1,o4.2,([]:Hu u0h.den),o4.2,(o4.2.length:Int),0)).bind fun r6=>match r6 with | .inl o7=>some o7 | .inr z8=>none) | .inr z9=>none
theorem p6b:s87=q1u:=zC 175 rfl Tryz.func175 (by kernel_rfl)
def u9s(x:j0b):Ht Bool:=zK 174 x
def p2n (x:j0b):Ht Bool:=some (decide (x.1.2.2.2.1≤x.2))
theorem p3a:u9s=p2n:=zC 174 rfl Tryz.func174 (by kernel_rfl)
def u5c(x:j2y):Ht Int:=zK 10002 x
def u4i(g:j9q→Ht p5l)(x:j9q):Ht p5l:=cond (decide (x.2.2.2<x.2.2.1)) (cond (y4q x.2.2.2 x.1.length) ((u9s (rdL u0a x.1 x.2.2.2.toNat,x.2.1)).bind fun y1=>cond y1 (some (.inr x.2.2.2)) (g (x.1,x.2.1,x.2.2.1,IntKind.i64.wrap (x.2.2.2+1)))) none) (some (.inl ()))
def u1p:=lpW _ _ u4i
theorem t04 x:u1p x=u4i u1p x:=zW u4p 10002 Tryz.f287 2 19 x (by kernel_rfl)
def u49 (x:j2y):Ht Int:=(u1p (x.1,x.2,(x.1.length:Int),0)).bind fun r2=>match r2 with | .inl o3=>some (- 1:Int) | .inr z4=>some z4
theorem t2j:u5c=u49:=zC 10002 rfl Tryz.func287 (by kernel_rfl)
def u2l(x:j2y):Ht q42:=zK 10001 x
def u37(g:j9q→Ht j7p)(x:j9q):Ht j7p:=cond (decide (x.2.2.2<(x.1.length:Int))) (cond (y4q x.2.2.2 x.1.length) ((u9s (rdL u0a x.1 x.2.2.2.toNat,x.2.1)).bind fun y2=>cond (!y2) (cond (y4q x.2.2.1 x.1.length) (g (x.1.set x.2.2.1.toNat (rdL u0a x.1 x.2.2.2.toNat),x.2.1,IntKind.i64.wrap (x.2.2.1+1),IntKind.i64.wrap (x.2.2.2+1))) none) (g (x.1,x.2.1,x.2.2.1,IntKind.i64.wrap (x.2.2.2+1)))) none) (some (.inl (x.1,x.2.2.1)))
def u1i:=lpW _ _ u37
theorem u92 x:u1i x=u37 u1i x:=zW u4c 10001 Tryz.f173 5 42 x (by kernel_rfl)
def u4w (x:j2y):Ht q42:=(u5c x).bind fun y1=>cond (decide (y1=(- 1:Int))) (some x.1) ((u1i (x.1,x.2,y1,IntKind.i64.wrap (y1+1))).bind fun r3=>match r3 with | .inl o4=>cond (decide (0≤o4.2)&&decide (o4.2≤(o4.1.length:Int))&&decide ((o4.1.length:Int)≤(o4.1.length:Int))) (cond (decide (0≤(0:Int))&&decide ((0:Int)≤o4.2)&&decide (o4.2≤((o4.1.take o4.2.toNat++List.replicate ((o4.1.length:Int).toNat - o4.2.toNat) u0a.zero++o4.1.drop (o4.2.toNat+((o4.1.length:Int).toNat - o4.2.toNat))).length:Int))) (some ((o4.1.take o4.2.toNat++List.replicate ((o4.1.length:Int).toNat - o4.2.toNat) u0a.zero++o4.1.drop (o4.2.toNat+((o4.1.length:Int).toNat - o4.2.toNat))).take (o4.2.toNat - (0:Int).toNat))) none) none | .inr z5=>none)
theorem t1y:u2l=u4w:=zC 10001 rfl Tryz.func173 (by kernel_rfl)
def u3p(x:Z84):Ht u7f:=zK 64 x
def q5l (x:Z84):Ht u7f:=(u1t x.1).bind fun y1=>(s53 x).bind fun y2=>(u2l (y1.2.1,y2)).bind fun y3=>(s87 (x.1.1,y2)).bind fun y4=>some (y4,y3,y1.2.2)
theorem p96:u3p=q5l:=zC 64 rfl Tryz.func64 (by kernel_rfl)
def s50(x:Z63):Ht Bool:=zK 410 x
def r7e (x:Z63):Ht Bool:=((cond (decide (x.1.2.1=3)) (some (decide (x.1.2.2.2.1≤x.2.2.2.1))) (some false)):Ht Bool).bind fun j1=>some j1
theorem p22:s50=r7e:=zC 410 rfl Tryz.func410 (by kernel_rfl)
def r2t(x:Z63):Ht Bool:=zK 367 x
def q5d (x:Z63):Ht Bool:=cond (!decide (x.1.1=x.2.1)) ((s50 x).bind fun y1=>cond (!y1) ((s50 (x.2,x.1)).bind fun y2=>some (!y2)) (some false)) (some false)
theorem p9y:r2t=q5d:=zC 367 rfl Tryz.func367 (by kernel_rfl)
def s73(x:Z63):Ht Bool:=zK 286 x
def q9h (x:Z63):Ht Bool:=(((r2t x).bind fun y1=>cond y1 ((u63 (x.1.2.2.2.2.1,x.2.2.2.2.2.2.1)).bind fun y2=>some y2) (some false)):Ht Bool).bind fun j3=>some j3
theorem o2z:s73=q9h:=zC 286 rfl Tryz.func286 (by kernel_rfl)
def s1t(x:Z63):Ht Bool:=zK 366 x
def q1k (x:Z63):Ht Bool:=(((u8g x.1).bind fun y1=>cond y1 ((s73 (x.2,x.1)).bind fun y2=>some y2) (some false)):Ht Bool).bind fun j3=>some j3
theorem p51:s1t=q1k:=zC 366 rfl Tryz.func366 (by kernel_rfl)
def u5l(x:o4z):Ht Int:=zK 10009 x
def u4v(g:Z89→Ht p5l)(x:Z89):Ht p5l:=cond (decide (x.2.2.2<x.2.2.1)) (cond (y4q x.2.2.2 x.1.length) ((s1t (rdL u0a x.1 x.2.2.2.toNat,x.2.1)).bind fun y1=>cond y1 (some (.inr x.2.2.2)) (g (x.1,x.2.1,x.2.2.1,IntKind.i64.wrap (x.2.2.2+1)))) none) (some (.inl ()))
def u1s:=lpW _ _ u4v
theorem t2a x:u1s x=u4v u1s x:=zW u40 10009 Tryz.f287 2 19 x (by kernel_rfl)
def u5k (x:o4z):Ht Int:=(u1s (x.1,x.2,(x.1.length:Int),0)).bind fun r2=>match r2 with | .inl o3=>some (- 1:Int) | .inr z4=>some z4
theorem t3k:u5l=u5k:=zC 10009 rfl Tryz.func287 (by kernel_rfl)
def u4q(x:o4z):Ht Bool:=zK 10008 x
def u4k (x:o4z):Ht Bool:=(u5l x).bind fun y1=>some (decide (y1≥0))
theorem t0u:u4q=u4k:=zC 10008 rfl Tryz.func204 (by kernel_rfl)
def t8z(x:o4z):Ht Bool:=zK 10007 x
def t8t (x:o4z):Ht Bool:=(u4q x).bind fun y1=>some y1
theorem r0c:t8z=t8t:=zC 10007 rfl Tryz.func93 (by kernel_rfl)
def s76(x:o9h):Ht Bool:=zK 284 x
def q9l (x:o9h):Ht Bool:=(t8z (x.2,x.1)).bind fun y1=>some y1
theorem o23:s76=q9l:=zC 284 rfl Tryz.func284 (by kernel_rfl)
def u7y(x:Z63):Ht Bool:=zK 285 x
def p0r (x:Z63):Ht Bool:=some (decide (x.1.1=x.2.1))
theorem p03:u7y=p0r:=zC 285 rfl Tryz.func285 (by kernel_rfl)
def u44(x:o4z):Ht Int:=zK 10011 x
def u4a(g:Z89→Ht p5l)(x:Z89):Ht p5l:=cond (decide (x.2.2.2<x.2.2.1)) (cond (y4q x.2.2.2 x.1.length) ((u7y (rdL u0a x.1 x.2.2.2.toNat,x.2.1)).bind fun y1=>cond y1 (some (.inr x.2.2.2)) (g (x.1,x.2.1,x.2.2.1,IntKind.i64.wrap (x.2.2.2+1)))) none) (some (.inl ()))
def u1l:=lpW _ _ u4a
theorem u95 x:u1l x=u4a u1l x:=zW u4f 10011 Tryz.f287 2 19 x (by kernel_rfl)
def u4z (x:o4z):Ht Int:=(u1l (x.1,x.2,(x.1.length:Int),0)).bind fun r2=>match r2 with | .inl o3=>some (- 1:Int) | .inr z4=>some z4
theorem t12:u44=u4z:=zC 10011 rfl Tryz.func287 (by kernel_rfl)
def u1r(x:o4z):Ht q42:=zK 10010 x
def u3v(g:Z89→Ht j7p)(x:Z89):Ht j7p:=cond (decide (x.2.2.2<(x.1.length:Int))) (cond (y4q x.2.2.2 x.1.length) ((u7y (rdL u0a x.1 x.2.2.2.toNat,x.2.1)).bind fun y2=>cond (!y2) (cond (y4q x.2.2.1 x.1.length) (g (x.1.set x.2.2.1.toNat (rdL u0a x.1 x.2.2.2.toNat),x.2.1,IntKind.i64.wrap (x.2.2.1+1),IntKind.i64.wrap (x.2.2.2+1))) none) (g (x.1,x.2.1,x.2.2.1,IntKind.i64.wrap (x.2.2.2+1)))) none) (some (.inl (x.1,x.2.2.1)))
def u1e:=lpW _ _ u3v
theorem u90 x:u1e x=u3v u1e x:=zW u3y 10010 Tryz.f173 5 42 x (by kernel_rfl)
def u4m (x:o4z):Ht q42:=(u44 x).bind fun y1=>cond (decide (y1=(- 1:Int))) (some x.1) ((u1e (x.1,x.2,y1,IntKind.i64.wrap (y1+1))).bind fun r3=>match r3 with | .inl o4=>cond (decide (0≤o4.2)&&decide (o4.2≤(o4.1.length:Int))&&decide ((o4.1.length:Int)≤(o4.1.length:Int))) (cond (decide (0≤(0:Int))&&decide ((0:Int)≤o4.2)&&decide (o4.2≤((o4.1.take o4.2.toNat++List.replicate ((o4.1.length:Int).toNat - o4.2.toNat) u0a.zero++o4.1.drop (o4.2.toNat+((o4.1.length:Int).toNat - o4.2.toNat))).length:Int))) (some ((o4.1.take o4.2.toNat++List.replicate ((o4.1.length:Int).toNat - o4.2.toNat) u0a.zero++o4.1.drop (o4.2.toNat+((o4.1.length:Int).toNat - o4.2.toNat))).take (o4.2.toNat - (0:Int).toNat))) none) none | .inr z5=>none)
theorem t0w:u1r=u4m:=zC 10010 rfl Tryz.func173 (by kernel_rfl)
def t2c(x:Z54):Ht u7f:=zK 166 x
def t64(g:Z10→Ht (Z11⊕Unit))(x:Z10):Ht (Z11⊕Unit):=cond (decide (x.2.2.2.2.2.2<x.2.2.2.2.2.1)) (cond (y4q x.2.2.2.2.2.2 x.2.2.1.2.2.1.length) (cond (rdL u0a x.2.2.1.2.2.1 x.2.2.2.2.2.2.toNat).2.2.2.2.2.2.1 (cond (y4q x.2.2.2.2.2.2 x.2.2.1.2.2.1.length) (g (x.1,x.2.1,(x.2.2.1.1,x.2.2.1.2.1,x.2.2.1.2.2.1.set x.2.2.2.2.2.2.toNat ((rdL u0a x.2.2.1.2.2.1 x.2.2.2.2.2.2.toNat).1,(rdL u0a x.2.2.1.2.2.1 x.2.2.2.2.2.2.toNat).2.1,(rdL u0a x.2.2.1.2.2.1 x.2.2.2.2.2.2.toNat).2.2.1,(rdL u0a x.2.2.1.2.2.1 x.2.2.2.2.2.2.toNat).2.2.2.1,(rdL u0a x.2.2.1.2.2.1 x.2.2.2.2.2.2.toNat).2.2.2.2.1,(rdL u0a x.2.2.1.2.2.1 x.2.2.2.2.2.2.toNat).2.2.2.2.2.1,true,(rdL u0a x.2.2.1.2.2.1 x.2.2.2.2.2.2.toNat).2.2.2.2.2.2.2),x.2.2.1.2.2.2),x.2.2.2.1,(),x.2.2.2.2.2.1,IntKind.i64.wrap (x.2.2.2.2.2.2+1))) none) ((s73 (rdL u0a x.2.2.1.2.2.1 x.2.2.2.2.2.2.toNat,x.2.2.2.1)).bind fun y5=>cond (y4q x.2.2.2.2.2.2 x.2.2.1.2.2.1.length) (g (x.1,x.2.1,(x.2.2.1.1,x.2.2.1.2.1,x.2.2.1.2.2.1.set x.2.2.2.2.2.2.toNat ((rdL u0a x.2.2.1.2.2.1 x.2.2.2.2.2.2.toNat).1,(rdL u0a x.2.2.1.2.2.1 x.2.2.2.2.2.2.toNat).2.1,(rdL u0a x.2.2.1.2.2.1 x.2.2.2.2.2.2.toNat).2.2.1,(rdL u0a x.2.2.1.2.2.1 x.2.2.2.2.2.2.toNat).2.2.2.1,(rdL u0a x.2.2.1.2.2.1 x.2.2.2.2.2.2.toNat).2.2.2.2.1,(rdL u0a x.2.2.1.2.2.1 x.2.2.2.2.2.2.toNat).2.2.2.2.2.1,y5,(rdL u0a x.2.2.1.2.2.1 x.2.2.2.2.2.2.toNat).2.2.2.2.2.2.2),x.2.2.1.2.2.2),x.2.2.2.1,(),x.2.2.2.2.2.1,IntKind.i64.wrap (x.2.2.2.2.2.2+1))) none)) none) (some (.inl (x.1,x.2.1,x.2.2.1,x.2.2.2.1)))
def u7s:=lpW _ _ t64
theorem r5x x:u7s x=t64 u7s x:=zW r4r 166 Tryz.f166 9 80 x (by kernel_rfl)
def q1s (x:Z54):Ht u7f:=(u1t x.1).bind fun y1=>(t6m x.2).bind fun y2=>cond x.2.2.2.2.2.2.2.1 ((u8e (x.1.1,x.2.2.2.2.2.2.1,IntKind.i64.wrap (y1.2.2.2.1+1))).bind fun y3=>(u1r (y1.2.2.1,x.2)).bind fun y4=>(u7s (x.2,(([]:Hu u0h.den),([]:Hu u0a.den),([]:Hu u0a.den),0,0),(y3,y1.2.1,y4,IntKind.i64.wrap (y1.2.2.2.1+1),y1.2.2.2.2),(y2.1,3,y2.2.2.1,IntKind.i64.wrap (x.1.2.2.2.1+1),y2.2.2.2.2.1,y2.2.2.2.2.2.1,true,(⟨#[]⟩:Hs)),(),(y4.length:Int),0)).bind fun r6=>match r6 with | .inl o7=>cond (Nat.ble (o7.2.2.1.2.1.length+([o7.2.2.2]:Hu u0a.den).length) z7w) (some (o7.2.2.1.1,o7.2.2.1.2.1++([o7.2.2.2]:Hu u0a.den),o7.2.2.1.2.2.1,o7.2.2.1.2.2.2.1,y8h o7.2.2.1.2.2.2.2 (IntKind.i64.wrap (o7.1.1+1)))) none | .inr z8=>none) ((s76 (x.2,x.1.2.1)).bind fun y9=>(u8e (x.1.1,x.2.2.2.2.2.2.1,IntKind.i64.wrap (y1.2.2.2.1+1))).bind fun y10=>(u1r (y1.2.2.1,x.2)).bind fun y11=>(u7s (x.2,(([]:Hu u0h.den),([]:Hu u0a.den),([]:Hu u0a.den),0,0),(y10,y1.2.1,y11,IntKind.i64.wrap (y1.2.2.2.1+1),y1.2.2.2.2),(y2.1,3,y2.2.2.1,IntKind.i64.wrap (x.1.2.2.2.1+1),y2.2.2.2.2.1,y2.2.2.2.2.2.1,y9,(⟨#[]⟩:Hs)),(),(y11.length:Int),0)).bind fun r13=>match r13 with | .inl o14=>cond (Nat.ble (o14.2.2.1.2.1.length+([o14.2.2.2]:Hu u0a.den).length) z7w) (some (o14.2.2.1.1,o14.2.2.1.2.1++([o14.2.2.2]:Hu u0a.den),o14.2.2.1.2.2.1,o14.2.2.1.2.2.2.1,y8h o14.2.2.1.2.2.2.2 (IntKind.i64.wrap (o14.1.1+1)))) none | .inr z15=>none)
theorem p59:t2c=q1s:=zC 166 rfl Tryz.func166 (by kernel_rfl)
def t8a(x:j2x):Ht Bool:=zK 288 x
def r3r (x:j2x):Ht Bool:=some (z7o x.1.2.2.2.2.2.2.2 x.2)
theorem p00:t8a=r3r:=zC 288 rfl Tryz.func288 (by kernel_rfl)
def u43(x:j7i):Ht Int:=zK 10012 x
def u39(g:j7g→Ht p5l)(x:j7g):Ht p5l:=cond (decide (x.2.2.2<x.2.2.1)) (cond (y4q x.2.2.2 x.1.length) ((t8a (rdL u0a x.1 x.2.2.2.toNat,x.2.1)).bind fun y1=>cond y1 (some (.inr x.2.2.2)) (g (x.1,x.2.1,x.2.2.1,IntKind.i64.wrap (x.2.2.2+1)))) none) (some (.inl ()))
def u1k:=lpW _ _ u39
theorem u94 x:u1k x=u39 u1k x:=zW u4e 10012 Tryz.f287 2 19 x (by kernel_rfl)
def u4y (x:j7i):Ht Int:=(u1k (x.1,x.2,(x.1.length:Int),0)).bind fun r2=>match r2 with | .inl o3=>some (- 1:Int) | .inr z4=>some z4
theorem t11:u43=u4y:=zC 10012 rfl Tryz.func287 (by kernel_rfl)
def t6k(x:j2k):Ht Int:=zK 167 x
def q1p (x:j2k):Ht Int:=(u43 (x.1.2.2.1,x.2)).bind fun y1=>some y1
theorem p56:t6k=q1p:=zC 167 rfl Tryz.func167 (by kernel_rfl)
def u7x(x:j2x):Ht Bool:=zK 289 x
def p0q (x:j2x):Ht Bool:=some (z7o x.1.2.2.2.2.2.2.2 x.2)
theorem p0v:u7x=p0q:=zC 289 rfl Tryz.func289 (by kernel_rfl)
def u42(x:j7i):Ht Int:=zK 10014 x
def u38(g:j7g→Ht p5l)(x:j7g):Ht p5l:=cond (decide (x.2.2.2<x.2.2.1)) (cond (y4q x.2.2.2 x.1.length) ((u7x (rdL u0a x.1 x.2.2.2.toNat,x.2.1)).bind fun y1=>cond y1 (some (.inr x.2.2.2)) (g (x.1,x.2.1,x.2.2.1,IntKind.i64.wrap (x.2.2.2+1)))) none) (some (.inl ()))
def u1j:=lpW _ _ u38
theorem u93 x:u1j x=u38 u1j x:=zW u4d 10014 Tryz.f287 2 19 x (by kernel_rfl)
def u4x (x:j7i):Ht Int:=(u1j (x.1,x.2,(x.1.length:Int),0)).bind fun r2=>match r2 with | .inl o3=>some (- 1:Int) | .inr z4=>some z4
theorem t1z:u42=u4x:=zC 10014 rfl Tryz.func287 (by kernel_rfl)
def u2k(x:j7i):Ht q42:=zK 10013 x
def u3u(g:j7g→Ht j7p)(x:j7g):Ht j7p:=cond (decide (x.2.2.2<(x.1.length:Int))) (cond (y4q x.2.2.2 x.1.length) ((u7x (rdL u0a x.1 x.2.2.2.toNat,x.2.1)).bind fun y2=>cond (!y2) (cond (y4q x.2.2.1 x.1.length) (g (x.1.set x.2.2.1.toNat (rdL u0a x.1 x.2.2.2.toNat),x.2.1,IntKind.i64.wrap (x.2.2.1+1),IntKind.i64.wrap (x.2.2.2+1))) none) (g (x.1,x.2.1,x.2.2.1,IntKind.i64.wrap (x.2.2.2+1)))) none) (some (.inl (x.1,x.2.2.1)))
def u1d:=lpW _ _ u3u
theorem u9z x:u1d x=u3u u1d x:=zW u3x 10013 Tryz.f173 5 42 x (by kernel_rfl)
def u4l (x:j7i):Ht q42:=(u42 x).bind fun y1=>cond (decide (y1=(- 1:Int))) (some x.1) ((u1d (x.1,x.2,y1,IntKind.i64.wrap (y1+1))).bind fun r3=>match r3 with | .inl o4=>cond (decide (0≤o4.2)&&decide (o4.2≤(o4.1.length:Int))&&decide ((o4.1.length:Int)≤(o4.1.length:Int))) (cond (decide (0≤(0:Int))&&decide ((0:Int)≤o4.2)&&decide (o4.2≤((o4.1.take o4.2.toNat++List.replicate ((o4.1.length:Int).toNat - o4.2.toNat) u0a.zero++o4.1.drop (o4.2.toNat+((o4.1.length:Int).toNat - o4.2.toNat))).length:Int))) (some ((o4.1.take o4.2.toNat++List.replicate ((o4.1.length:Int).toNat - o4.2.toNat) u0a.zero++o4.1.drop (o4.2.toNat+((o4.1.length:Int).toNat - o4.2.toNat))).take (o4.2.toNat - (0:Int).toNat))) none) none | .inr z5=>none)
theorem t0v:u2k=u4l:=zC 10013 rfl Tryz.func173 (by kernel_rfl)
def t6h(x:j2k):Ht u7f:=zK 169 x
def q1i (x:j2k):Ht u7f:=(u1t x.1).bind fun y1=>(u2k (y1.2.2.1,x.2)).bind fun y2=>some (y1.1,y1.2.1,y2,y1.2.2.2)
theorem p5z:t6h=q1i:=zC 169 rfl Tryz.func169 (by kernel_rfl)
def s0x(x:Z84):Ht Z84:=zK 205 x
def s9x (x:Z84):Ht Z84:=(u1t x.1).bind fun y1=>(t36 x.2).bind fun y2=>some (y1,y2)
theorem q8g:s0x=s9x:=zC 205 rfl Tryz.func205 (by kernel_rfl)
def q4v(x:u7f):Ht Bool:=zK 206 x
def p2o (x:u7f):Ht Bool:=((cond (decide ((x.2.1.length:Int)≥(12:Int))) (some true) (cond (decide ((x.1.length:Int)>(100:Int))) (some true) (some (decide (x.2.2.2.1≥9999))))):Ht Bool).bind fun j1=>some j1
theorem o5p:q4v=p2o:=zC 206 rfl Tryz.func206 (by kernel_rfl)
def r2v(x:Z66):Ht Z12:=zK 95 x
def q5f (x:Z66):Ht Z12:=(s0x x.1).bind fun y1=>(t6k (x.1.1,x.2.1)).bind fun y2=>cond (decide (y2<0)) (some (y1,(0,(0,0,0,0,([]:Hu s4z.den),([]:Hu u2g.den),false,(⟨#[]⟩:Hs)),(⟨#[]⟩:Hs),false,([]:Hu u0h.den),([]:Hu u0a.den),([]:Hu u0a.den),0,0),1)) (((cond x.2.2 ((q4v x.1.1).bind fun y3=>some y3) (some false)):Ht Bool).bind fun j4=>cond j4 (some (y1,(0,(0,0,0,0,([]:Hu s4z.den),([]:Hu u2g.den),false,(⟨#[]⟩:Hs)),(⟨#[]⟩:Hs),false,([]:Hu u0h.den),([]:Hu u0a.den),([]:Hu u0a.den),0,0),3)) (cond x.2.2 (cond (y4q y2 x.1.1.2.2.1.length) ((t2c (x.1.1,rdL u0a x.1.1.2.2.1 y2.toNat)).bind fun y5=>(u3p (y5,x.1.2)).bind fun y6=>some ((y6,y1.2),(3,(0,0,0,0,([]:Hu s4z.den),([]:Hu u2g.den),false,(⟨#[]⟩:Hs)),x.2.1,x.2.2,([]:Hu u0h.den),([]:Hu u0a.den),([]:Hu u0a.den),0,0),0)) none) ((t6h (x.1.1,x.2.1)).bind fun y7=>(u3p (y7,x.1.2)).bind fun y8=>some ((y8,y1.2),(3,(0,0,0,0,([]:Hu s4z.den),([]:Hu u2g.den),false,(⟨#[]⟩:Hs)),x.2.1,x.2.2,([]:Hu u0h.den),([]:Hu u0a.den),([]:Hu u0a.den),0,0),0))))
theorem p90:r2v=q5f:=zC 95 rfl Tryz.func95 (by kernel_rfl)
def t0z(x:Z16):Ht Bool:=zK 94 x
def s5b (x:Z16):Ht Bool:=(r2v (((x.2.1,x.2.2.1,x.2.2.2.1,x.2.2.2.2.1,x.2.2.2.2.2.1),x.2.2.2.2.2.2.1),x.1.2.2.2.2.2.2.2,true)).bind fun y1=>((cond (!decide (y1.2.2=0)) (some (!decide (y1.2.2=3))) (some false)):Ht Bool).bind fun j2=>some j2
theorem q4g:t0z=s5b:=zC 94 rfl Tryz.func94 (by kernel_rfl)
def u31(x:Z27):Ht Int:=zK 10022 x
def u3g(g:Z22→Ht p5l)(x:Z22):Ht p5l:=cond (decide (x.2.2.2<x.2.2.1)) (cond (y4q x.2.2.2 x.1.length) ((t0z (rdL u0a x.1 x.2.2.2.toNat,x.2.1)).bind fun y1=>cond y1 (some (.inr x.2.2.2)) (g (x.1,x.2.1,x.2.2.1,IntKind.i64.wrap (x.2.2.2+1)))) none) (some (.inl ()))
def u05:=lpW _ _ u3g
theorem u8v x:u05 x=u3g u05 x:=zW u3j 10022 Tryz.f287 2 19 x (by kernel_rfl)
def u3w (x:Z27):Ht Int:=(u05 (x.1,x.2,(x.1.length:Int),0)).bind fun r2=>match r2 with | .inl o3=>some (- 1:Int) | .inr z4=>some z4
theorem u9p:u31=u3w:=zC 10022 rfl Tryz.func287 (by kernel_rfl)
def u3c(x:Z27):Ht Bool:=zK 10021 x
def u3a (x:Z27):Ht Bool:=(u31 x).bind fun y1=>some (decide (y1≥0))
theorem u8c:u3c=u3a:=zC 10021 rfl Tryz.func204 (by kernel_rfl)
def t16(x:Z26):Ht Bool:=zK 10020 x
def t1v (x:Z26):Ht Bool:=(u3c (x.1,x.2.1.1.1.1,x.2.1.1.1.2.1,x.2.1.1.1.2.2.1,x.2.1.1.1.2.2.2.1,x.2.1.1.1.2.2.2.2,x.2.1.1.2,x.2.1.2.1,x.2.1.2.2,x.2.2)).bind fun y1=>some y1
theorem s23:t16=t1v:=zC 10020 rfl Tryz.func93 (by kernel_rfl)
def s0t(x:Z39):Ht Bool:=zK 27 x
def s9q (x:Z39):Ht Bool:=(t16 (x.1.1.1.2.2.1,x)).bind fun y1=>some (!y1)
theorem q79:s0t=s9q:=zC 27 rfl Tryz.func27 (by kernel_rfl)
def u1q(x:j5d):Ht Bool:=zK 212 x
def q5r (x:j5d):Ht Bool:=((cond (decide (x.1≥x.2.1)) (some (decide (x.1≤x.2.2))) (some false)):Ht Bool).bind fun j1=>some j1
theorem o0b:u1q=q5r:=zC 212 rfl Tryz.func212 (by kernel_rfl)
def t2e(x:Int):Ht s63:=zK 231 x
def r3j(g:j5e→Ht (j5e⊕Unit))(x:j5e):Ht (j5e⊕Unit):=cond (decide (x.1>127)) (cond (Nat.ble (x.2.length+([(IntKind.u8.wrap (IntKind.i64.wrap ((Int.tmod x.1 (128:Int))+128)))]:Hu Int).length) z7w) (g (IntKind.i64.wrap (Int.tdiv x.1 (128:Int)),x.2++([(IntKind.u8.wrap (IntKind.i64.wrap ((Int.tmod x.1 (128:Int))+128)))]:Hu Int))) none) (some (.inl x))
def t7y:=lpW _ _ r3j
theorem p1u x:t7y x=r3j t7y x:=zW r4w 231 Tryz.f231 4 25 x (by kernel_rfl)
def q1w (x:Int):Ht s63:=(u1q (x,0,1000000000)).bind fun y1=>cond (!y1) (some ((⟨#[]⟩:Hs),false)) ((t7y (x,([]:Hu Int))).bind fun r2=>match r2 with | .inl o3=>cond (Nat.ble (o3.2.length+([(IntKind.u8.wrap o3.1)]:Hu Int).length) z7w) (some (y7g (o3.2++([(IntKind.u8.wrap o3.1)]:Hu Int)),true)) none | .inr z4=>none)
theorem p6d:t2e=q1w:=zC 231 rfl Tryz.func231 (by kernel_rfl)
def t8b(x:Hs):Ht s63:=zK 209 x
def r3t (x:Hs):Ht s63:=cond (decide ((x.size:Int)>(20000:Int))) (some ((⟨#[]⟩:Hs),false)) ((t2e (x.size:Int)).bind fun y1=>cond (decide (y1.1.size+x.size≤140737488355328)) (some (y1.1++x,true)) none)
theorem p02:t8b=r3t:=zC 209 rfl Tryz.func209 (by kernel_rfl)
def u6f(x:(q09×p0k)):Ht q09:=zK 97 x
def t2s(g:d4b→Ht j49)(x:d4b):Ht j49:=cond (decide (x.2.2.2<x.2.2.1)) (cond (y4q x.2.2.2 x.2.1.length) ((t8b (rdL Ty.str x.2.1 x.2.2.2.toNat)).bind fun y1=>cond (Nat.ble (x.1.length+(z7t y1.1).length) z7w) (g (x.1++(z7t y1.1),x.2.1,x.2.2.1,IntKind.i64.wrap (x.2.2.2+1))) none) none) (some (.inl x.1))
def t25:=lpW _ _ t2s
theorem s8j x:t25 x=t2s t25 x:=zW s7q 97 Tryz.f97 1 29 x (by kernel_rfl)
def r3z (x:(q09×p0k)):Ht q09:=(t25 (x.1,x.2,(x.2.length:Int),0)).bind fun r2=>match r2 with | .inl o3=>some o3 | .inr z4=>none
theorem p09:u6f=r3z:=zC 97 rfl Tryz.func97 (by kernel_rfl)
def u7z(x:j7q):Ht q09:=zK 98 x
def r3y (x:j7q):Ht q09:=cond x.2 (cond (Nat.ble (x.1.length+([(1:Int)]:Hu Int).length) z7w) (some (x.1++([(1:Int)]:Hu Int))) none) (cond (Nat.ble (x.1.length+([(0:Int)]:Hu Int).length) z7w) (some (x.1++([(0:Int)]:Hu Int))) none)
theorem p08:u7z=r3y:=zC 98 rfl Tryz.func98 (by kernel_rfl)
end
end Go.Proofs.YtkdpclfhapphhaaGreat.Ab
