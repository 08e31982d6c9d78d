import Derived.Test.YtkphhjdbdnoekaaGreatAbWatchesG1
namespace Go.Proofs.YtkphhjdbdnoekaaGreat.Ab
open Go Tryz Go.IntKind
set_option linter.unusedVariables false
noncomputable section
set_option maxRecDepth 100000
def s49(x:j0s):Ht c22:=zK 122 x
def t91(g:Z56->Ht (Z61⊕Unit))(x:Z56):Ht (Z61⊕Unit):=((cond (decide (x.2.2.2.2<x.2.2.2.1)) (cond (decide (x.2.2.2.2<10)) (some (!x.2.1.2.2)) (some false)) (some false)):La).bind fun j6=>cond j6 ((u19 x.2.1).bind fun y7=>(u19 y7.2).bind fun y8=>cond (Nat.ble (x.2.2.1.2.2.2.2.1.length+([(y7.1,y8.1)]:Lg).length) z7v) (g (x.1,y8.2,(x.2.2.1.1,x.2.2.1.2.1,x.2.2.1.2.2.1,x.2.2.1.2.2.2.1,x.2.2.1.2.2.2.2.1++([(y7.1,y8.1)]:Lg),x.2.2.1.2.2.2.2.2),x.2.2.2.1,i64.wrap (x.2.2.2.2+1))) none) (some (.inl (x.1,x.2.1,x.2.2.1)))
def t3a:=lpW _ _ t91
theorem q1u x:t3a x=t91 t3a x:=zW q0l 122 f122 8 115 x
def t61(g:Z56->Ht (Z61⊕Unit))(x:Z56):Ht (Z61⊕Unit):=((cond (decide (x.2.2.2.2<x.2.2.2.1)) (cond (decide (x.2.2.2.2<10)) (some (!x.2.1.2.2)) (some false)) (some false)):La).bind fun j12=>cond j12 ((u19 x.2.1).bind fun y13=>(u19 y13.2).bind fun y14=>(u8k y14.2).bind fun y15=>cond (Nat.ble (x.2.2.1.2.2.2.2.2.1.length+([(y13.1,y14.1,y15.1)]:Li).length) z7v) (g (x.1,y15.2,(x.2.2.1.1,x.2.2.1.2.1,x.2.2.1.2.2.1,x.2.2.1.2.2.2.1,x.2.2.1.2.2.2.2.1,x.2.2.1.2.2.2.2.2.1++([(y13.1,y14.1,y15.1)]:Li),x.2.2.1.2.2.2.2.2.2),x.2.2.2.1,i64.wrap (x.2.2.2.2+1))) none) (some (.inl (x.1,x.2.1,x.2.2.1)))
def t0t:=lpW _ _ t61
theorem r6w x:t0t x=t61 t0t x:=zW r5t 122 f122 15 115 x
def q8c (x:j0s):Ht c22:=(u3b (x.1,x.2,false)).bind fun y1=>(u3b y1.2).bind fun y2=>(u3b y2.2).bind fun y3=>(u3b y3.2).bind fun y4=>(u3b y4.2).bind fun y5=>(t3a ((0,0,0,0,([]:Lg),([]:Li),false,(⟨#[]⟩:Hs)),y5.2,(y1.1,y2.1,y3.1,y4.1,([]:Lg),([]:Li),false,(⟨#[]⟩:Hs)),y5.1,0)).bind fun|.inl o10=>((u3b o10.2.1).bind fun y11=>(t0t (o10.1,y11.2,o10.2.2,y11.1,0)).bind fun|.inl o17=>((u8k o17.2.1).bind fun y18=>(u19 y18.2).bind fun y19=>((cond y19.2.2.2 (some true) ((u8b (o17.2.2.1,o17.2.2.2.1,o17.2.2.2.2.1,o17.2.2.2.2.2.1,o17.2.2.2.2.2.2.1,o17.2.2.2.2.2.2.2.1,y18.1,y19.1)).bind fun y20=>some (!y20))):La).bind fun j21=>cond j21 (some ((0,0,0,0,([]:Lg),([]:Li),false,(⟨#[]⟩:Hs)),0,false)) (some ((o17.2.2.1,o17.2.2.2.1,o17.2.2.2.2.1,o17.2.2.2.2.2.1,o17.2.2.2.2.2.2.1,o17.2.2.2.2.2.2.2.1,y18.1,y19.1),y19.2.2.1,true)))|.inr z22=>none)|.inr z23=>none
theorem o49:s49=q8c:=zC 122 func122
def t5a(x:(p1e×Int)):Ht c34:=zK 224 x
def u5c(g:c3f->Ht (d86⊕d86))(x:c3f):Ht (d86⊕d86):=((cond (decide (x.2.2.2.2<x.2.2.2.1)) (cond (decide (x.2.2.2.2<=x.2.1)) (some (!x.1.2.2)) (some false)) (some false)):La).bind fun j2=>cond j2 ((s49 (x.1.1,x.1.2.1)).bind fun y3=>cond (!y3.2.2) (some (.inr ((x.1.1,x.1.2.1,true),x.2.2.1))) (cond (Nat.ble (x.2.2.1.length+([y3.1]:Lc).length) z7v) (g ((x.1.1,y3.2.1,x.1.2.2),x.2.1,x.2.2.1++([y3.1]:Lc),x.2.2.2.1,i64.wrap (x.2.2.2.2+1))) none)) (some (.inl (x.1,x.2.2.1)))
def u7p:=lpW _ _ u5c
theorem t0n x:u7p x=u5c u7p x:=zW s7s 224 f224 4 59 x
def r1k (x:(p1e×Int)):Ht c34:=(u3b x.1).bind fun y1=>(u7p (y1.2,x.2,([]:Lc),y1.1,0)).bind fun|.inl o5=>some (o5.2,o5.1)|.inr z6=>some (z6.2,z6.1)
theorem p3s:t5a=r1k:=zC 224 func224
def r0c(x:j0s):Ht c2g:=zK 121 x
def t60(g:Z40->Ht (Z48⊕Unit))(x:Z40):Ht (Z48⊕Unit):=((cond (decide (x.2.2.2.2<x.2.2.2.1)) (cond (decide (x.2.2.2.2<130)) (some (!x.2.1.2.2)) (some false)) (some false)):La).bind fun j4=>cond j4 ((u19 x.2.1).bind fun y5=>(u19 y5.2).bind fun y6=>(u8k y6.2).bind fun y7=>(u3b y7.2).bind fun y8=>cond (Nat.ble (x.2.2.1.1.length+([(y5.1,y6.1,y7.1,y8.1)]:Lf).length) z7v) (g (x.1,y8.2,(x.2.2.1.1++([(y5.1,y6.1,y7.1,y8.1)]:Lf),x.2.2.1.2),x.2.2.2.1,i64.wrap (x.2.2.2.2+1))) none) (some (.inl (x.1,x.2.1,x.2.2.1)))
def t0s:=lpW _ _ t60
theorem r6v x:t0s x=t60 t0s x:=zW r5s 121 f121 6 79 x
def q3r (x:j0s):Ht c2g:=(u3b (x.1,x.2,false)).bind fun y1=>(u3b y1.2).bind fun y2=>(u3b y2.2).bind fun y3=>(t0s ((([]:Lf),([]:Lc),([]:Lc),0,0),y3.2,(([]:Lf),([]:Lc),([]:Lc),y1.1,y2.1),y3.1,0)).bind fun|.inl o10=>((t5a (o10.2.1,12)).bind fun y11=>(t5a (y11.2,3)).bind fun y12=>((cond y12.2.2.2 (some true) ((u9s (o10.2.2.1,y11.1,y12.1,o10.2.2.2.2.2)).bind fun y13=>some (!y13))):La).bind fun j14=>cond j14 (some ((([]:Lf),([]:Lc),([]:Lc),0,0),0,false)) (some ((o10.2.2.1,y11.1,y12.1,o10.2.2.2.2.2),y12.2.2.1,true)))|.inr z15=>none
theorem o1u:r0c=q3r:=zC 121 func121
def s3j(x:u9l):La:=zK 232 x
def q37 (x:u9l):La:=((cond (decide (x.1=0)) (cond (decide (x.2.1=0)) (cond (decide (x.2.2.1=0)) (cond (decide (x.2.2.2.1=0)) (cond (decide ((x.2.2.2.2.1.length:Int)=(0:Int))) (cond (decide ((x.2.2.2.2.2.1.length:Int)=(0:Int))) (cond (!x.2.2.2.2.2.2.1) (some (z7n x.2.2.2.2.2.2.2 (⟨#[]⟩:Hs))) (some false)) (some false)) (some false)) (some false)) (some false)) (some false)) (some false)):La).bind fun j1=>some j1
theorem o2i:s3j=q37:=zC 232 func232
def s62(x:u8l):La:=zK 234 x
def r9k (x:u8l):La:=((cond (decide (x.2.2.2.1=0)) (cond (decide (x.2.2.2.2=0)) (cond (decide ((x.1.length:Int)=(0:Int))) (cond (decide ((x.2.1.length:Int)=(0:Int))) (some (decide ((x.2.2.1.length:Int)=(0:Int)))) (some false)) (some false)) (some false)) (some false)):La).bind fun j1=>some j1
theorem p89:s62=r9k:=zC 234 func234
def s3a(x:Z54):La:=zK 125 x
def q3s (x:Z54):La:=(u0t (x.1,1,4)).bind fun y1=>cond (!y1) (some false) (((cond (decide (x.1=1)) (some true) (some (decide (x.1=2)))):La).bind fun j2=>((cond j2 ((u8b x.2.1).bind fun y3=>cond (!y3) (some true) (cond (!j2) ((s3j x.2.1).bind fun y4=>cond (!y4) (some true) (cond (decide (x.1=1)) (cond (!decide (x.2.1.2.1=3)) (some true) (cond (decide (x.1=2)) (some (!decide (x.2.1.2.1=2))) (some false))) (cond (decide (x.1=2)) (some (!decide (x.2.1.2.1=2))) (some false)))) (cond (decide (x.1=1)) (cond (!decide (x.2.1.2.1=3)) (some true) (cond (decide (x.1=2)) (some (!decide (x.2.1.2.1=2))) (some false))) (cond (decide (x.1=2)) (some (!decide (x.2.1.2.1=2))) (some false))))) (cond (!j2) ((s3j x.2.1).bind fun y5=>cond (!y5) (some true) (cond (decide (x.1=1)) (cond (!decide (x.2.1.2.1=3)) (some true) (cond (decide (x.1=2)) (some (!decide (x.2.1.2.1=2))) (some false))) (cond (decide (x.1=2)) (some (!decide (x.2.1.2.1=2))) (some false)))) (cond (decide (x.1=1)) (cond (!decide (x.2.1.2.1=3)) (some true) (cond (decide (x.1=2)) (some (!decide (x.2.1.2.1=2))) (some false))) (cond (decide (x.1=2)) (some (!decide (x.2.1.2.1=2))) (some false))))):La).bind fun j6=>cond j6 (some false) (((cond (decide (x.1=3)) ((u79 x.2.2.1).bind fun y7=>cond (!y7) (some true) (cond (!decide (x.1=3)) (cond (!z7n x.2.2.1 (⟨#[]⟩:Hs)) (some true) (some x.2.2.2.1)) (some false))) (cond (!decide (x.1=3)) (cond (!z7n x.2.2.1 (⟨#[]⟩:Hs)) (some true) (some x.2.2.2.1)) (some false))):La).bind fun j8=>cond j8 (some false) (cond (decide (x.1=4)) ((u9s x.2.2.2.2).bind fun y9=>some y9) ((s62 x.2.2.2.2).bind fun y10=>some y10))))
theorem o1v:s3a=q3s:=zC 125 func125
def s3b(x:Hs):Ht r01:=zK 226 x
def p2g (x:Hs):Ht r01:=cond (decide ((x.size:Int)>(20000:Int))) (some ((⟨#[]⟩:Hs),false)) ((r2p x).bind fun y1=>(s5c y1).bind fun y2=>cond (decide (x.size+y2.size<=140737488355328)) (some (x++y2,true)) none)
theorem o9f:s3b=p2g:=zC 226 func226
def u3y(x:Hs):Ht Hs:=zK 227 x
def q36 (x:Hs):Ht Hs:=(u15 (x.size:Int)).bind fun y1=>cond (decide (y1.size+x.size<=140737488355328)) (some (y1++x)) none
theorem o2h:u3y=q36:=zC 227 func227
def t71(x:Bool):Ht Hs:=zK 228 x
def p2u (x:Bool):Ht Hs:=cond x (some (⟨#[1]⟩:Hs)) (some (⟨#[0]⟩:Hs))
theorem o9s:t71=p2u:=zC 228 func228
def t39(x:u9l):Ht r01:=zK 230 x
def t97(g:d8w->Ht (d13⊕Unit))(x:d8w):Ht (d13⊕Unit):=cond (decide (x.2.2<(x.1.2.2.2.2.1.length:Int))) (cond (y4o x.2.2 x.1.2.2.2.2.1.length) ((u3y (rdL s0f x.1.2.2.2.2.1 x.2.2.toNat).1).bind fun y7=>cond (decide (x.2.1.size+y7.size<=140737488355328)) (cond (y4o x.2.2 x.1.2.2.2.2.1.length) ((u3y (rdL s0f x.1.2.2.2.2.1 x.2.2.toNat).2).bind fun y8=>cond (decide ((x.2.1++y7).size+y8.size<=140737488355328)) (g (x.1,(x.2.1++y7)++y8,i64.wrap (x.2.2+1))) none) none) none) none) (some (.inl (x.1,x.2.1)))
def t3e:=lpW _ _ t97
theorem q11 x:t3e x=t97 t3e x:=zW q0t 230 f230 5 101 x
def t67(g:d8w->Ht (d13⊕Unit))(x:d8w):Ht (d13⊕Unit):=cond (decide (x.2.2<(x.1.2.2.2.2.2.1.length:Int))) (cond (y4o x.2.2 x.1.2.2.2.2.2.1.length) ((u3y (rdL u2r x.1.2.2.2.2.2.1 x.2.2.toNat).1).bind fun y12=>cond (decide (x.2.1.size+y12.size<=140737488355328)) (cond (y4o x.2.2 x.1.2.2.2.2.2.1.length) ((u3y (rdL u2r x.1.2.2.2.2.2.1 x.2.2.toNat).2.1).bind fun y13=>cond (decide ((x.2.1++y12).size+y13.size<=140737488355328)) (cond (y4o x.2.2 x.1.2.2.2.2.2.1.length) ((t71 (rdL u2r x.1.2.2.2.2.2.1 x.2.2.toNat).2.2).bind fun y14=>cond (decide (((x.2.1++y12)++y13).size+y14.size<=140737488355328)) (g (x.1,((x.2.1++y12)++y13)++y14,i64.wrap (x.2.2+1))) none) none) none) none) none) none) (some (.inl (x.1,x.2.1)))
def t0w:=lpW _ _ t67
theorem r62 x:t0w x=t67 t0w x:=zW r5z 230 f230 10 101 x
def q8k (x:u9l):Ht r01:=(u8b x).bind fun y1=>cond (!y1) (some ((⟨#[]⟩:Hs),false)) ((u15 x.1).bind fun y2=>(u15 x.2.1).bind fun y3=>cond (decide (y2.size+y3.size<=140737488355328)) ((u15 x.2.2.1).bind fun y4=>cond (decide ((y2++y3).size+y4.size<=140737488355328)) ((u15 x.2.2.2.1).bind fun y5=>cond (decide (((y2++y3)++y4).size+y5.size<=140737488355328)) ((u15 (x.2.2.2.2.1.length:Int)).bind fun y6=>cond (decide ((((y2++y3)++y4)++y5).size+y6.size<=140737488355328)) ((t3e (x,(((y2++y3)++y4)++y5)++y6,0)).bind fun|.inl o10=>((u15 (o10.1.2.2.2.2.2.1.length:Int)).bind fun y11=>cond (decide (o10.2.size+y11.size<=140737488355328)) ((t0w (o10.1,o10.2++y11,0)).bind fun|.inl o16=>((t71 o16.1.2.2.2.2.2.2.1).bind fun y17=>cond (decide (o16.2.size+y17.size<=140737488355328)) ((u3y o16.1.2.2.2.2.2.2.2).bind fun y18=>cond (decide ((o16.2++y17).size+y18.size<=140737488355328)) (some ((o16.2++y17)++y18,true)) none) none)|.inr z19=>none) none)|.inr z20=>none) none) none) none) none)
theorem o5h:t39=q8k:=zC 230 func230
def s5g(x:q2i):Ht Hs:=zK 326 x
def s0c(g:c4i->Ht d6y)(x:c4i):Ht d6y:=cond (decide (x.2.2<(x.1.length:Int))) (cond (y4o x.2.2 x.1.length) ((t39 (rdL u0a x.1 x.2.2.toNat)).bind fun y2=>cond (decide (x.2.1.size+y2.1.size<=140737488355328)) (g (x.1,x.2.1++y2.1,i64.wrap (x.2.2+1))) none) none) (some (.inl x.2.1))
def t3h:=lpW _ _ s0c
theorem q16 x:t3h x=s0c t3h x:=zW q00 326 f326 3 28 x
def q80 (x:q2i):Ht Hs:=(u15 (x.length:Int)).bind fun y1=>(t3h (x,y1,0)).bind fun|.inl o4=>some o4|.inr z5=>none
theorem o5w:s5g=q80:=zC 326 func326
def r0a(x:u8l):Ht r01:=zK 229 x
def t6u(g:c2e->Ht (d1n⊕Unit))(x:c2e):Ht (d1n⊕Unit):=cond (decide (x.2.2<(x.1.1.length:Int))) (cond (y4o x.2.2 x.1.1.length) ((u3y (rdL u0d x.1.1 x.2.2.toNat).1).bind fun y5=>cond (decide (x.2.1.size+y5.size<=140737488355328)) ((u3y (rdL u0d x.1.1 x.2.2.toNat).2.1).bind fun y6=>cond (decide ((x.2.1++y5).size+y6.size<=140737488355328)) ((t71 (rdL u0d x.1.1 x.2.2.toNat).2.2.1).bind fun y7=>cond (decide (((x.2.1++y5)++y6).size+y7.size<=140737488355328)) ((u15 (rdL u0d x.1.1 x.2.2.toNat).2.2.2).bind fun y8=>cond (decide ((((x.2.1++y5)++y6)++y7).size+y8.size<=140737488355328)) (g (x.1,(((x.2.1++y5)++y6)++y7)++y8,i64.wrap (x.2.2+1))) none) none) none) none) none) (some (.inl (x.1,x.2.1)))
def t0r:=lpW _ _ t6u
theorem r6p x:t0r x=t6u t0r x:=zW r5m 229 f229 5 60 x
def q3j (x:u8l):Ht r01:=(u9s x).bind fun y1=>cond (!y1) (some ((⟨#[]⟩:Hs),false)) ((u15 x.2.2.2.1).bind fun y2=>(u15 x.2.2.2.2).bind fun y3=>cond (decide (y2.size+y3.size<=140737488355328)) ((u15 (x.1.length:Int)).bind fun y4=>cond (decide ((y2++y3).size+y4.size<=140737488355328)) ((t0r (x,(y2++y3)++y4,0)).bind fun|.inl o10=>((s5g o10.1.2.1).bind fun y11=>cond (decide (o10.2.size+y11.size<=140737488355328)) ((s5g o10.1.2.2.1).bind fun y12=>cond (decide ((o10.2++y11).size+y12.size<=140737488355328)) (some ((o10.2++y11)++y12,true)) none) none)|.inr z13=>none) none) none)
theorem o1m:r0a=q3j:=zC 229 func229
def u29(x:Z54):Ht r01:=zK 123 x
def r4v (x:Z54):Ht r01:=(s3a x).bind fun y1=>cond (!y1) (some ((⟨#[]⟩:Hs),false)) (cond (decide (x.1=3)) ((u3y x.2.2.1).bind fun y2=>cond (decide ((y7c ([(u8.wrap x.1)]:Ld)).size+y2.size<=140737488355328)) ((t71 x.2.2.2.1).bind fun y3=>cond (decide (((y7c ([(u8.wrap x.1)]:Ld))++y2).size+y3.size<=140737488355328)) ((s3b (((y7c ([(u8.wrap x.1)]:Ld))++y2)++y3)).bind fun y4=>some y4) none) none) (cond (decide (x.1=4)) ((r0a x.2.2.2.2).bind fun y5=>cond (decide ((y7c ([(u8.wrap x.1)]:Ld)).size+y5.1.size<=140737488355328)) ((s3b ((y7c ([(u8.wrap x.1)]:Ld))++y5.1)).bind fun y6=>some y6) none) ((t39 x.2.1).bind fun y7=>cond (decide ((y7c ([(u8.wrap x.1)]:Ld)).size+y7.1.size<=140737488355328)) ((s3b ((y7c ([(u8.wrap x.1)]:Ld))++y7.1)).bind fun y8=>some y8) none)))
theorem p5s:u29=r4v:=zC 123 func123
def s39(x:Hs):Ht Z52:=zK 49 x
def r4t (x:Hs):Ht Z52:=(r0f x).bind fun y1=>((cond (!y1.2) (some true) (some (z7n y1.1 (⟨#[]⟩:Hs)))):La).bind fun j2=>cond j2 (some ((0,(0,0,0,0,([]:Lg),([]:Li),false,(⟨#[]⟩:Hs)),(⟨#[]⟩:Hs),false,([]:Lf),([]:Lc),([]:Lc),0,0),false)) (cond (y4o (0:Int) y1.1.size) (cond (decide ((i64.wrap ((y1.1.data.toList.getD (0:Int).toNat 0).toNat:Int))=3)) ((u19 (y1.1,1,false)).bind fun y3=>(u8k y3.2).bind fun y4=>(u29 (i64.wrap ((y1.1.data.toList.getD (0:Int).toNat 0).toNat:Int),(0,0,0,0,([]:Lg),([]:Li),false,(⟨#[]⟩:Hs)),y3.1,y4.1,([]:Lf),([]:Lc),([]:Lc),0,0)).bind fun y5=>((cond (!y5.2) (some true) (some (!z7n y5.1 x))):La).bind fun j6=>cond j6 (some ((0,(0,0,0,0,([]:Lg),([]:Li),false,(⟨#[]⟩:Hs)),(⟨#[]⟩:Hs),false,([]:Lf),([]:Lc),([]:Lc),0,0),false)) (some ((i64.wrap ((y1.1.data.toList.getD (0:Int).toNat 0).toNat:Int),(0,0,0,0,([]:Lg),([]:Li),false,(⟨#[]⟩:Hs)),y3.1,y4.1,([]:Lf),([]:Lc),([]:Lc),0,0),true))) (cond (decide ((i64.wrap ((y1.1.data.toList.getD (0:Int).toNat 0).toNat:Int))=4)) ((r0c (y1.1,1)).bind fun y7=>(u29 (i64.wrap ((y1.1.data.toList.getD (0:Int).toNat 0).toNat:Int),(0,0,0,0,([]:Lg),([]:Li),false,(⟨#[]⟩:Hs)),(⟨#[]⟩:Hs),false,y7.1)).bind fun y8=>((cond (!y8.2) (some true) (some (!z7n y8.1 x))):La).bind fun j9=>cond j9 (some ((0,(0,0,0,0,([]:Lg),([]:Li),false,(⟨#[]⟩:Hs)),(⟨#[]⟩:Hs),false,([]:Lf),([]:Lc),([]:Lc),0,0),false)) (some ((i64.wrap ((y1.1.data.toList.getD (0:Int).toNat 0).toNat:Int),(0,0,0,0,([]:Lg),([]:Li),false,(⟨#[]⟩:Hs)),(⟨#[]⟩:Hs),false,y7.1),true))) ((s49 (y1.1,1)).bind fun y10=>(u29 (i64.wrap ((y1.1.data.toList.getD (0:Int).toNat 0).toNat:Int),y10.1,(⟨#[]⟩:Hs),false,([]:Lf),([]:Lc),([]:Lc),0,0)).bind fun y11=>((cond (!y11.2) (some true) (some (!z7n y11.1 x))):La).bind fun j12=>cond j12 (some ((0,(0,0,0,0,([]:Lg),([]:Li),false,(⟨#[]⟩:Hs)),(⟨#[]⟩:Hs),false,([]:Lf),([]:Lc),([]:Lc),0,0),false)) (some ((i64.wrap ((y1.1.data.toList.getD (0:Int).toNat 0).toNat:Int),y10.1,(⟨#[]⟩:Hs),false,([]:Lf),([]:Lc),([]:Lc),0,0),true))))) none)
theorem p5q:s39=r4t:=zC 49 func49
def u00(x:u9l):Ht u9l:=zK 199 x
def s4y (x:u9l):Ht u9l:=cond (Nat.ble (([]:Lg).length+x.2.2.2.2.1.length) z7v) (cond (Nat.ble (([]:Li).length+x.2.2.2.2.2.1.length) z7v) (some (x.1,x.2.1,x.2.2.1,x.2.2.2.1,([]:Lg)++x.2.2.2.2.1,([]:Li)++x.2.2.2.2.2.1,x.2.2.2.2.2.2)) none) none
theorem r3s:u00=s4y:=zC 199 func199
def t87(x:q2i):Ht q2i:=zK 235 x
def s0b(g:d83->Ht d6z)(x:d83):Ht d6z:=cond (decide (x.2.2<(x.1.length:Int))) (cond (y4o x.2.2 x.1.length) ((u00 (rdL u0a x.1 x.2.2.toNat)).bind fun y1=>cond (Nat.ble (x.2.1.length+([y1]:Lc).length) z7v) (g (x.1,x.2.1++([y1]:Lc),i64.wrap (x.2.2+1))) none) none) (some (.inl x.2.1))
def s0u:=lpW _ _ s0b
theorem q15 x:s0u x=s0b s0u x:=zW q0z 235 f235 3 21 x
def q8y (x:q2i):Ht q2i:=(s0u (x,([]:Lc),0)).bind fun|.inl o3=>some o3|.inr z4=>none
theorem o5u:t87=q8y:=zC 235 func235
def u22(x:u8l):Ht u8l:=zK 126 x
def q8x (x:u8l):Ht u8l:=cond (Nat.ble (([]:Lf).length+x.1.length) z7v) ((t87 x.2.1).bind fun y1=>(t87 x.2.2.1).bind fun y2=>some (([]:Lf)++x.1,y1,y2,x.2.2.2)) none
theorem o5t:u22=q8x:=zC 126 func126
def r0b(x:s8d):Lj:=zK 198 x
def t6w(g:j8x->Ht j63)(x:j8x):Ht j63:=cond (decide (x.2.2<(x.1.length:Int))) (cond (y4o x.2.2 x.1.length) (cond (decide ((rdL u0a x.1 x.2.2.toNat).2.2.1<x.2.1)) (cond (y4o x.2.2 x.1.length) (g (x.1,(rdL u0a x.1 x.2.2.toNat).2.2.1,i64.wrap (x.2.2+1))) none) (g (x.1,x.2.1,i64.wrap (x.2.2+1)))) none) (some (.inl x.2.1))
def t7l:=lpW _ _ t6w
theorem r6r x:t7l x=t6w t7l x:=zW r5o 198 f198 3 28 x
def q3o (x:s8d):Lj:=(t7l (x.2,x.1.2.2.2.1,0)).bind fun|.inl o2=>some o2|.inr z3=>none
theorem o1r:r0b=q3o:=zC 198 func198
def r2q(x:d3t):Lj:=zK 314 x
def s4p(g:c4g->Ht j63)(x:c4g):Ht j63:=cond (decide (x.2.2.2.2<(x.1.length:Int))) (((cond (y4o x.2.2.2.2 x.1.length) (cond (z7n (rdL u0d x.1 x.2.2.2.2.toNat).1 x.2.1) (cond (y4o x.2.2.2.2 x.1.length) (cond (decide ((rdL u0d x.1 x.2.2.2.2.toNat).2.2.2<=x.2.2.1)) (cond (decide (x.2.2.2.1<0)) (some true) (cond (y4o x.2.2.2.2 x.1.length) (cond (y4o x.2.2.2.1 x.1.length) (some (decide ((rdL u0d x.1 x.2.2.2.2.toNat).2.2.2>(rdL u0d x.1 x.2.2.2.1.toNat).2.2.2))) none) none)) (some false)) none) (some false)) none):La).bind fun j1=>cond j1 (g (x.1,x.2.1,x.2.2.1,x.2.2.2.2,i64.wrap (x.2.2.2.2+1))) (g (x.1,x.2.1,x.2.2.1,x.2.2.2.1,i64.wrap (x.2.2.2.2+1)))) (some (.inl x.2.2.2.1))
def t8q:=lpW _ _ s4p
theorem p0c x:t8q x=s4p t8q x:=zW q9v 314 f314 3 50 x
def p69 (x:d3t):Lj:=(t8q (x.1,x.2.1,x.2.2,(- 1:Int),0)).bind fun|.inl o3=>some o3|.inr z4=>none
theorem j2k:r2q=p69:=zC 314 func314
def r39(x:d63):Ht q6j:=zK 200 x
def t96(g:c4e->Ht d9z)(x:c4e):Ht d9z:=cond (decide (x.2.2.2<(x.1.length:Int))) (cond (y4o x.2.2.2 x.1.length) ((r2q (x.1,(rdL u0d x.1 x.2.2.2.toNat).1,x.2.1)).bind fun y1=>((cond (y4o x.2.2.2 x.1.length) (cond (decide ((rdL u0d x.1 x.2.2.2.toNat).2.2.2>x.2.1)) (some true) (some (decide (y1=x.2.2.2)))) none):La).bind fun j2=>cond j2 (cond (y4o x.2.2.2 x.1.length) (cond (Nat.ble (x.2.2.1.length+([(rdL u0d x.1 x.2.2.2.toNat)]:Lf).length) z7v) (g (x.1,x.2.1,x.2.2.1++([(rdL u0d x.1 x.2.2.2.toNat)]:Lf),i64.wrap (x.2.2.2+1))) none) none) (g (x.1,x.2.1,x.2.2.1,i64.wrap (x.2.2.2+1)))) none) (some (.inl (x.2.1,x.2.2.1)))
def t3d:=lpW _ _ t96
theorem q10 x:t3d x=t96 t3d x:=zW q0s 200 f200 3 99 x
def t66(g:c3u->Ht (c1d⊕Unit))(x:c3u):Ht (c1d⊕Unit):=cond (decide (x.2.2.2.2.2<(x.2.1.length:Int))) (cond (y4o x.2.2.2.2.2 x.2.1.length) (cond (y4o x.2.2.2.1 x.2.1.length) (cond (z7n (rdL u0d x.2.1 x.2.2.2.2.2.toNat).1 (rdL u0d x.2.1 x.2.2.2.1.toNat).1) (g (x.1,x.2.1,x.2.2.1,x.2.2.2.1,i64.wrap (x.2.2.2.2.1+1),i64.wrap (x.2.2.2.2.2+1))) (g (x.1,x.2.1,x.2.2.1,x.2.2.2.1,x.2.2.2.2.1,i64.wrap (x.2.2.2.2.2+1)))) none) none) (some (.inl (x.1,x.2.1,x.2.2.1,x.2.2.2.1,x.2.2.2.2.1)))
def t0v:=lpW _ _ t66
theorem r61 x:t0v x=t66 t0v x:=zW r5y 200 f200 14 99 x
def t65(g:c4d->Ht j81)(x:c4d):Ht j81:=cond (decide (x.2.2.2<(x.2.1.length:Int))) ((t0v (x.1,x.2.1,x.2.2.1,x.2.2.2,0,0)).bind fun|.inl o6=>(((cond (y4o o6.2.2.2.1 o6.2.1.length) (cond (!(rdL u0d o6.2.1 o6.2.2.2.1.toNat).2.2.1) (some true) (cond (y4o o6.2.2.2.1 o6.2.1.length) (cond (decide ((rdL u0d o6.2.1 o6.2.2.2.1.toNat).2.2.2>o6.1)) (some true) (some (decide (o6.2.2.2.2>1)))) none)) none):La).bind fun j7=>cond j7 (cond (y4o o6.2.2.2.1 o6.2.1.length) (cond (Nat.ble (o6.2.2.1.length+([(rdL u0d o6.2.1 o6.2.2.2.1.toNat)]:Lf).length) z7v) (g (o6.1,o6.2.1,o6.2.2.1++([(rdL u0d o6.2.1 o6.2.2.2.1.toNat)]:Lf),i64.wrap (o6.2.2.2.1+1))) none) none) (g (o6.1,o6.2.1,o6.2.2.1,i64.wrap (o6.2.2.2.1+1))))|.inr z8=>some (.inr ())) (some (.inl x.2.2.1))
def t7p:=lpW _ _ t65
theorem r60 x:t7p x=t65 t7p x:=zW r5x 200 f200 10 99 x
def q8j (x:d63):Ht q6j:=(t3d (x.1,x.2,([]:Lf),0)).bind fun|.inl o4=>((t7p (o4.1,o4.2,([]:Lf),0)).bind fun|.inl o10=>some o10|.inr z11=>none)|.inr z12=>none
theorem o5g:r39=q8j:=zC 200 func200
def u9u(x:s8d):Ht u8l:=zK 98 x
def s19(g:Z18->Ht (Z21⊕Unit))(x:Z18):Ht (Z21⊕Unit):=cond (decide (x.2.2.2.2<(x.1.2.1.length:Int))) (cond (y4o x.2.2.2.2 x.1.2.1.length) (cond (decide ((rdL u0a x.1.2.1 x.2.2.2.2.toNat).2.2.2.1>x.2.2.2.1)) (cond (y4o x.2.2.2.2 x.1.2.1.length) ((u00 (rdL u0a x.1.2.1 x.2.2.2.2.toNat)).bind fun y3=>cond (Nat.ble (x.2.2.1.2.1.length+([y3]:Lc).length) z7v) (g (x.1,x.2.1,(x.2.2.1.1,x.2.2.1.2.1++([y3]:Lc),x.2.2.1.2.2),x.2.2.2.1,i64.wrap (x.2.2.2.2+1))) none) none) (g (x.1,x.2.1,x.2.2.1,x.2.2.2.1,i64.wrap (x.2.2.2.2+1)))) none) (some (.inl (x.1,x.2.1,x.2.2.1,x.2.2.2.1)))
def s2m:=lpW _ _ s19
theorem q6g x:s2m x=s19 s2m x:=zW q47 98 f98 5 47 x
def p2j (x:s8d):Ht u8l:=(u22 x.1).bind fun y1=>(r0b x).bind fun y2=>(s2m (x.1,(([]:Lf),([]:Lc),([]:Lc),0,0),(y1.1,([]:Lc),y1.2.2),y2,0)).bind fun|.inl o5=>((r39 (o5.1.1,o5.2.2.2)).bind fun y6=>some (y6,o5.2.2.1.2))|.inr z7=>none
theorem o9i:u9u=p2j:=zC 98 func98
def u18(x:d1n):Lj:=zK 209 x
def t2t(g:c2d->Ht o31)(x:c2d):Ht o31:=cond (decide (x.2.2<(x.2.1.2.2.1.length:Int))) (cond (y4o x.2.2 x.2.1.2.2.1.length) (cond (z7n (rdL u0a x.2.1.2.2.1 x.2.2.toNat).2.2.2.2.2.2.2 x.1) (some (.inr x.2.2)) (g (x.1,x.2.1,i64.wrap (x.2.2+1)))) none) (some (.inl ()))
def t3b:=lpW _ _ t2t
theorem q1w x:t3b x=t2t t3b x:=zW q0n 209 f209 2 22 x
def q8e (x:d1n):Lj:=(t3b (x.2,x.1,0)).bind fun|.inl o2=>some (- 1:Int)|.inr z3=>some z3
theorem o5b:u18=q8e:=zC 209 func209
def u65(x:d9g):Ht q6j:=zK 309 x
def t0c(g:d8t->Ht (d8t⊕Unit))(x:d8t):Ht (d8t⊕Unit):=((cond (decide (x.2.2.2.2.2.2<(x.2.2.1.length:Int))) (cond (y4o x.2.2.2.2.2.2 x.2.2.1.length) (cond (y3b (rdL u0d x.2.2.1 x.2.2.2.2.2.2.toNat).1 x.2.2.2.2.1.1) (some true) (cond (y4o x.2.2.2.2.2.2 x.2.2.1.length) (cond (z7n (rdL u0d x.2.2.1 x.2.2.2.2.2.2.toNat).1 x.2.2.2.2.1.1) (cond (y4o x.2.2.2.2.2.2 x.2.2.1.length) (some (decide ((rdL u0d x.2.2.1 x.2.2.2.2.2.2.toNat).2.2.2<=x.2.2.2.2.1.2.2.2))) none) (some false)) none)) none) (some false)):La).bind fun j1=>cond j1 (cond (y4o x.2.2.2.2.2.2 x.2.2.1.length) (cond (Nat.ble (x.2.2.2.2.2.1.length+([(rdL u0d x.2.2.1 x.2.2.2.2.2.2.toNat)]:Lf).length) z7v) (g (x.1,x.2.1,x.2.2.1,x.2.2.2.1,x.2.2.2.2.1,x.2.2.2.2.2.1++([(rdL u0d x.2.2.1 x.2.2.2.2.2.2.toNat)]:Lf),i64.wrap (x.2.2.2.2.2.2+1))) none) none) (some (.inl x))
def u7m:=lpW _ _ t0c
theorem s74 x:u7m x=t0c u7m x:=zW s7m 309 f309 8 93 x
def t0b(g:c4k->Ht j81)(x:c4k):Ht j81:=cond (decide (x.2.2.2<(x.1.length:Int))) (cond (y4o x.2.2.2 x.1.length) (cond (y4o x.2.2.2 x.1.length) (cond (y4o x.2.2.2 x.1.length) ((u7m (x.1,x.2.1,x.2.2.1,x.2.2.2,((rdL u2r x.1 x.2.2.2.toNat).1,(rdL u2r x.1 x.2.2.2.toNat).2.1,(rdL u2r x.1 x.2.2.2.toNat).2.2,x.2.1),([]:Lf),0)).bind fun|.inl o3=>cond (Nat.ble (o3.2.2.2.2.2.1.length+([o3.2.2.2.2.1]:Lf).length) z7v) (cond (decide (0<=o3.2.2.2.2.2.2)&&decide (o3.2.2.2.2.2.2<=(o3.2.2.1.length:Int))&&decide ((o3.2.2.1.length:Int)<=(o3.2.2.1.length:Int))) (cond (Nat.ble ((o3.2.2.2.2.2.1++([o3.2.2.2.2.1]:Lf)).length+((o3.2.2.1.take (o3.2.2.1.length:Int).toNat).drop o3.2.2.2.2.2.2.toNat).length) z7v) (g (o3.1,o3.2.1,(o3.2.2.2.2.2.1++([o3.2.2.2.2.1]:Lf))++((o3.2.2.1.take (o3.2.2.1.length:Int).toNat).drop o3.2.2.2.2.2.2.toNat),i64.wrap (o3.2.2.2.1+1))) none) none) none|.inr z4=>some (.inr ())) none) none) none) (some (.inl x.2.2.1))
def t0j:=lpW _ _ t0b
theorem s73 x:t0j x=t0b t0j x:=zW s7l 309 f309 3 93 x
def r1e (x:d9g):Ht q6j:=cond (Nat.ble (([]:Lf).length+x.1.length) z7v) ((t0j (x.2.1,x.2.2,([]:Lf)++x.1,0)).bind fun|.inl o6=>some o6|.inr z7=>none) none
theorem p3k:u65=r1e:=zC 309 func309
def t82(x:d9o):La:=zK 204 x
def q76 (x:d9o):La:=((cond (!y3b x.2 x.1.1) (some (y3b x.2 x.1.2||z7n x.2 x.1.2)) (some false)):La).bind fun j1=>some j1
theorem o43:t82=q76:=zC 204 func204
def t84(x:d9n):La:=zK 362 x
def t95(g:d43->Ht (d9i⊕Bool))(x:d43):Ht (d9i⊕Bool):=cond (decide (x.2.2.2<(x.2.1.length:Int))) (cond (y4o x.2.2.1 x.1.length) (cond (y4o x.2.2.2 x.2.1.length) ((t82 (rdL s0f x.1 x.2.2.1.toNat,(rdL u2r x.2.1 x.2.2.2.toNat).1)).bind fun y1=>cond y1 (some (.inr true)) (g (x.1,x.2.1,x.2.2.1,i64.wrap (x.2.2.2+1)))) none) none) (some (.inl (x.1,x.2.1,x.2.2.1)))
def t3c:=lpW _ _ t95
theorem q1z x:t3c x=t95 t3c x:=zW q0r 362 f362 5 29 x
def t94(g:d9i->Ht r04)(x:d9i):Ht r04:=cond (decide (x.2.2<(x.1.length:Int))) ((t3c (x.1,x.2.1,x.2.2,0)).bind fun|.inl o3=>g (o3.1,o3.2.1,i64.wrap (o3.2.2+1))|.inr z4=>some (.inr z4)) (some (.inl ()))
def s0s:=lpW _ _ t94
theorem q1y x:s0s x=t94 s0s x:=zW q0q 362 f362 2 29 x
def q8i (x:d9n):La:=(s0s (x.1,x.2,0)).bind fun|.inl o6=>some false|.inr z7=>some z7
theorem o5f:t84=q8i:=zC 362 func362
def r71(x:Z78):La:=zK 367 x
def p16 (x:Z78):La:=cond (decide (x.1.1=x.2.1)) (some false) (((cond (decide (x.1.2.1=3)) (cond (decide (x.1.2.2.2.1<=x.2.2.2.1)) (some true) (cond (decide (x.2.2.1=3)) (some (decide (x.2.2.2.2.1<=x.1.2.2.1))) (some false))) (cond (decide (x.2.2.1=3)) (some (decide (x.2.2.2.2.1<=x.1.2.2.1))) (some false))):La).bind fun j1=>cond j1 (some false) (some true))
theorem o85:r71=p16:=zC 367 func367
def u3o(x:Z78):La:=zK 318 x
def p60 (x:Z78):La:=(((r71 x).bind fun y1=>cond y1 ((t84 (x.1.2.2.2.2.1,x.2.2.2.2.2.2.1)).bind fun y2=>some y2) (some false)):La).bind fun j3=>some j3
theorem j2b:u3o=p60:=zC 318 func318
def s58(x:j8v):La:=zK 317 x
def s4n(g:d1m->Ht r04)(x:d1m):Ht r04:=cond (decide (x.2.2<(x.1.length:Int))) (((cond (y4o x.2.2 x.1.length) (cond (decide ((rdL u0a x.1 x.2.2.toNat).2.1=3)) (cond (y4o x.2.2 x.1.length) ((u3o (x.2.1,rdL u0a x.1 x.2.2.toNat)).bind fun y1=>some y1) none) (some false)) none):La).bind fun j2=>cond j2 (some (.inr true)) (g (x.1,x.2.1,i64.wrap (x.2.2+1)))) (some (.inl ()))
def s4v:=lpW _ _ s4n
theorem p0a x:s4v x=s4n s4v x:=zW q9t 317 f317 2 26 x
def p67 (x:j8v):La:=(s4v (x.2,x.1,0)).bind fun|.inl o4=>some false|.inr z5=>some z5
theorem j2i:s58=p67:=zC 317 func317
def u8a(x:Z64):Ht u8l:=zK 211 x
def t64(g:Z4->Ht (Z25⊕Unit))(x:Z4):Ht (Z25⊕Unit):=cond (decide (x.2.2.2.2.2<(x.1.2.2.1.length:Int))) (cond (y4o x.2.2.2.2.2 x.1.2.2.1.length) ((u00 (rdL u0a x.1.2.2.1 x.2.2.2.2.2.toNat)).bind fun y4=>cond (decide (y4.1=x.2.1.1)) (g (x.1,x.2.1,x.2.2.1,x.2.2.2.1,x.2.2.2.2.1,i64.wrap (x.2.2.2.2.2+1))) ((u3o (y4,x.2.2.2.2.1)).bind fun y5=>cond y5 (cond (Nat.ble (x.2.2.2.1.2.2.1.length+([(y4.1,y4.2.1,y4.2.2.1,y4.2.2.2.1,y4.2.2.2.2.1,y4.2.2.2.2.2.1,true,y4.2.2.2.2.2.2.2)]:Lc).length) z7v) (g (x.1,x.2.1,x.2.2.1,(x.2.2.2.1.1,x.2.2.2.1.2.1,x.2.2.2.1.2.2.1++([(y4.1,y4.2.1,y4.2.2.1,y4.2.2.2.1,y4.2.2.2.2.1,y4.2.2.2.2.2.1,true,y4.2.2.2.2.2.2.2)]:Lc),x.2.2.2.1.2.2.2),x.2.2.2.2.1,i64.wrap (x.2.2.2.2.2+1))) none) (cond (Nat.ble (x.2.2.2.1.2.2.1.length+([y4]:Lc).length) z7v) (g (x.1,x.2.1,x.2.2.1,(x.2.2.2.1.1,x.2.2.2.1.2.1,x.2.2.2.1.2.2.1++([y4]:Lc),x.2.2.2.1.2.2.2),x.2.2.2.2.1,i64.wrap (x.2.2.2.2.2+1))) none))) none) (some (.inl (x.2.1,x.2.2.1,x.2.2.2.1)))
def u8h:=lpW _ _ t64
theorem r6z x:u8h x=t64 u8h x:=zW r5w 211 f211 12 85 x
def q8h (x:Z64):Ht u8l:=(u22 x.1).bind fun y1=>(u00 x.2).bind fun y2=>cond x.2.2.2.2.2.2.2.1 ((u65 (x.1.1,y2.2.2.2.2.2.1,i64.wrap (x.1.2.2.2.1+1))).bind fun y3=>cond (Nat.ble (y1.2.1.length+([(y2.1,3,y2.2.2.1,i64.wrap (x.1.2.2.2.1+1),y2.2.2.2.2.1,y2.2.2.2.2.2.1,true,(⟨#[]⟩:Hs))]:Lc).length) z7v) ((u8h (x.1,x.2,(([]:Lf),([]:Lc),([]:Lc),0,0),(y3,y1.2.1++([(y2.1,3,y2.2.2.1,i64.wrap (x.1.2.2.2.1+1),y2.2.2.2.2.1,y2.2.2.2.2.2.1,true,(⟨#[]⟩:Hs))]:Lc),([]:Lc),i64.wrap (x.1.2.2.2.1+1),y1.2.2.2.2),(y2.1,3,y2.2.2.1,i64.wrap (x.1.2.2.2.1+1),y2.2.2.2.2.1,y2.2.2.2.2.2.1,true,(⟨#[]⟩:Hs)),0)).bind fun|.inl o7=>cond (decide (o7.1.1>=o7.2.2.2.2.2.2)) (some (o7.2.2.1,o7.2.2.2.1,o7.2.2.2.2.1,o7.2.2.2.2.2.1,i64.wrap (o7.1.1+1))) (some o7.2.2)|.inr z8=>none) none) ((s58 (x.2,x.1.2.1)).bind fun y9=>(u65 (x.1.1,y2.2.2.2.2.2.1,i64.wrap (x.1.2.2.2.1+1))).bind fun y10=>cond (Nat.ble (y1.2.1.length+([(y2.1,3,y2.2.2.1,i64.wrap (x.1.2.2.2.1+1),y2.2.2.2.2.1,y2.2.2.2.2.2.1,y9,(⟨#[]⟩:Hs))]:Lc).length) z7v) ((u8h (x.1,x.2,(([]:Lf),([]:Lc),([]:Lc),0,0),(y10,y1.2.1++([(y2.1,3,y2.2.2.1,i64.wrap (x.1.2.2.2.1+1),y2.2.2.2.2.1,y2.2.2.2.2.2.1,y9,(⟨#[]⟩:Hs))]:Lc),([]:Lc),i64.wrap (x.1.2.2.2.1+1),y1.2.2.2.2),(y2.1,3,y2.2.2.1,i64.wrap (x.1.2.2.2.1+1),y2.2.2.2.2.1,y2.2.2.2.2.2.1,y9,(⟨#[]⟩:Hs)),0)).bind fun|.inl o14=>cond (decide (o14.1.1>=o14.2.2.2.2.2.2)) (some (o14.2.2.1,o14.2.2.2.1,o14.2.2.2.2.1,o14.2.2.2.2.2.1,i64.wrap (o14.1.1+1))) (some o14.2.2)|.inr z15=>none) none)
theorem o5e:u8a=q8h:=zC 211 func211
def s46(x:d1n):Ht u8l:=zK 212 x
def t9v(g:Z17->Ht (Z57⊕Unit))(x:Z17):Ht (Z57⊕Unit):=cond (decide (x.2.2.2.2<(x.2.1.2.2.1.length:Int))) (cond (y4o x.2.2.2.2 x.2.1.2.2.1.length) (cond (!z7n (rdL u0a x.2.1.2.2.1 x.2.2.2.2.toNat).2.2.2.2.2.2.2 x.1) (cond (y4o x.2.2.2.2 x.2.1.2.2.1.length) ((u00 (rdL u0a x.2.1.2.2.1 x.2.2.2.2.toNat)).bind fun y2=>cond (Nat.ble (x.2.2.2.1.2.2.1.length+([y2]:Lc).length) z7v) (g (x.1,x.2.1,x.2.2.1,(x.2.2.2.1.1,x.2.2.2.1.2.1,x.2.2.2.1.2.2.1++([y2]:Lc),x.2.2.2.1.2.2.2),i64.wrap (x.2.2.2.2+1))) none) none) (g (x.1,x.2.1,x.2.2.1,x.2.2.2.1,i64.wrap (x.2.2.2.2+1)))) none) (some (.inl (x.2.2.1,x.2.2.2.1)))
def t27:=lpW _ _ t9v
theorem q1o x:t27 x=t9v t27 x:=zW q0f 212 f212 4 38 x
def q75 (x:d1n):Ht u8l:=(u22 x.1).bind fun y1=>(t27 (x.2,x.1,(([]:Lf),([]:Lc),([]:Lc),0,0),(y1.1,y1.2.1,([]:Lc),y1.2.2.2),0)).bind fun|.inl o4=>some o4.2|.inr z5=>none
theorem o42:s46=q75:=zC 212 func212
def u7g(x:Z60):Ht u8l:=zK 236 x
def t4q(g:Z2->Ht (Z3⊕Unit))(x:Z2):Ht (Z3⊕Unit):=cond (decide (x.2.2.2.2.2.2<(x.2.1.2.2.1.length:Int))) (cond (y4o x.2.2.2.2.2.2 x.2.1.2.2.1.length) (cond (y3b (rdL u0a x.2.1.2.2.1 x.2.2.2.2.2.2.toNat).2.2.2.2.2.2.2 x.1) (cond (y4o x.2.2.2.2.2.2 x.2.1.2.2.1.length) ((u00 (rdL u0a x.2.1.2.2.1 x.2.2.2.2.2.2.toNat)).bind fun y3=>cond (Nat.ble (x.2.2.2.2.1.2.2.1.length+([y3]:Lc).length) z7v) (g (x.1,x.2.1,x.2.2.1,x.2.2.2.1,(x.2.2.2.2.1.1,x.2.2.2.2.1.2.1,x.2.2.2.2.1.2.2.1++([y3]:Lc),x.2.2.2.2.1.2.2.2),x.2.2.2.2.2.1,i64.wrap (x.2.2.2.2.2.2+1))) none) none) (g (x.1,x.2.1,x.2.2.1,x.2.2.2.1,x.2.2.2.2.1,x.2.2.2.2.2.1,i64.wrap (x.2.2.2.2.2.2+1)))) none) (some (.inl (x.1,x.2.1,x.2.2.1,x.2.2.2.1,x.2.2.2.2.1,x.2.2.2.2.2.1)))
def u60:=lpW _ _ t4q
theorem r26 x:u60 x=t4q u60 x:=zW r2a 236 f236 8 97 x
def t1w(g:Z9->Ht (Z25⊕Unit))(x:Z9):Ht (Z25⊕Unit):=cond (decide (x.2.2.2.2.2<(x.2.1.2.2.1.length:Int))) (cond (y4o x.2.2.2.2.2 x.2.1.2.2.1.length) (cond (!y3b (rdL u0a x.2.1.2.2.1 x.2.2.2.2.2.toNat).2.2.2.2.2.2.2 x.1) (cond (y4o x.2.2.2.2.2 x.2.1.2.2.1.length) ((u00 (rdL u0a x.2.1.2.2.1 x.2.2.2.2.2.toNat)).bind fun y6=>cond (Nat.ble (x.2.2.2.2.1.2.2.1.length+([y6]:Lc).length) z7v) (g (x.1,x.2.1,x.2.2.1,x.2.2.2.1,(x.2.2.2.2.1.1,x.2.2.2.2.1.2.1,x.2.2.2.2.1.2.2.1++([y6]:Lc),x.2.2.2.2.1.2.2.2),i64.wrap (x.2.2.2.2.2+1))) none) none) (g (x.1,x.2.1,x.2.2.1,x.2.2.2.1,x.2.2.2.2.1,i64.wrap (x.2.2.2.2.2+1)))) none) (some (.inl (x.2.2.1,x.2.2.2.1,x.2.2.2.2.1)))
def u55:=lpW _ _ t1w
theorem r0v x:u55 x=t1w u55 x:=zW s9p 236 f236 14 97 x
def r9a (x:Z60):Ht u8l:=(u22 x.1).bind fun y1=>(u00 x.2.1).bind fun y2=>cond x.2.1.2.2.2.2.2.2.1 ((u60 (x.2.2,x.1,x.2.1,(([]:Lf),([]:Lc),([]:Lc),0,0),(y1.1,y1.2.1,([]:Lc),y1.2.2.2),(y2.1,2,y2.2.2.1,y2.2.2.2.1,y2.2.2.2.2.1,y2.2.2.2.2.2.1,true,x.2.2),0)).bind fun|.inl o5=>cond (Nat.ble (o5.2.2.2.2.1.2.2.1.length+([o5.2.2.2.2.2]:Lc).length) z7v) ((u55 (o5.1,o5.2.1,o5.2.2.1,o5.2.2.2.1,(o5.2.2.2.2.1.1,o5.2.2.2.2.1.2.1,o5.2.2.2.2.1.2.2.1++([o5.2.2.2.2.2]:Lc),o5.2.2.2.2.1.2.2.2),0)).bind fun|.inl o8=>cond (decide (o8.1.1>=o8.2.2.2.2.2.2)) (some (o8.2.2.1,o8.2.2.2.1,o8.2.2.2.2.1,o8.2.2.2.2.2.1,i64.wrap (o8.1.1+1))) (some o8.2.2)|.inr z9=>none) none|.inr z10=>none) ((s58 (x.2.1,x.1.2.1)).bind fun y11=>(u60 (x.2.2,x.1,x.2.1,(([]:Lf),([]:Lc),([]:Lc),0,0),(y1.1,y1.2.1,([]:Lc),y1.2.2.2),(y2.1,2,y2.2.2.1,y2.2.2.2.1,y2.2.2.2.2.1,y2.2.2.2.2.2.1,y11,x.2.2),0)).bind fun|.inl o14=>cond (Nat.ble (o14.2.2.2.2.1.2.2.1.length+([o14.2.2.2.2.2]:Lc).length) z7v) ((u55 (o14.1,o14.2.1,o14.2.2.1,o14.2.2.2.1,(o14.2.2.2.2.1.1,o14.2.2.2.2.1.2.1,o14.2.2.2.2.1.2.2.1++([o14.2.2.2.2.2]:Lc),o14.2.2.2.2.1.2.2.2),0)).bind fun|.inl o17=>cond (decide (o17.1.1>=o17.2.2.2.2.2.2)) (some (o17.2.2.1,o17.2.2.2.1,o17.2.2.2.2.1,o17.2.2.2.2.2.1,i64.wrap (o17.1.1+1))) (some o17.2.2)|.inr z18=>none) none|.inr z19=>none)
theorem p8z:u7g=r9a:=zC 236 func236
def r4c(x:Z20):Ht j55:=zK 127 x
def q8z (x:Z20):Ht j55:=cond (decide (x.2.1=1)) (cond (!decide (x.2.2.1.2.2.2.1=(i64.wrap (x.1.2.2.2.1+1)))) (some (x.1,false)) ((u8a (x.1,x.2.2.1)).bind fun y1=>some (y1,true))) (cond (decide (x.2.1=2)) (((cond (decide ((x.1.2.2.1.length:Int)>=(3:Int))) (some true) ((u18 (x.1,x.2.2.1.2.2.2.2.2.2.2)).bind fun y2=>some (decide (y2>=0)))):La).bind fun j3=>cond j3 (some (x.1,false)) ((u7g (x.1,x.2.2.1,x.2.2.1.2.2.2.2.2.2.2)).bind fun y4=>some (y4,true))) (cond (decide (x.2.1=3)) ((u18 (x.1,x.2.2.2.1)).bind fun y5=>cond (decide (y5<0)) (some (x.1,false)) (cond x.2.2.2.2.1 (cond (y4o y5 x.1.2.2.1.length) ((u8a (x.1,rdL u0a x.1.2.2.1 y5.toNat)).bind fun y6=>some (y6,true)) none) ((s46 (x.1,x.2.2.2.1)).bind fun y7=>some (y7,true)))) ((u22 x.2.2.2.2.2).bind fun y8=>some (y8,true))))
theorem o5v:r4c=q8z:=zC 127 func127
def r74(x:Z20):Ht j55:=zK 50 x
def p2d (x:Z20):Ht j55:=(((u9s x.1).bind fun y1=>cond (!y1) (some true) ((s3a x.2).bind fun y2=>some (!y2))):La).bind fun j3=>cond j3 ((u22 x.1).bind fun y4=>some (y4,false)) ((r4c x).bind fun y5=>cond (!y5.2) ((u22 x.1).bind fun y6=>some (y6,false)) ((u9u (y5.1,([]:Lc))).bind fun y7=>(u9s y7).bind fun y8=>cond (!y8) ((u22 x.1).bind fun y9=>some (y9,false)) (some (y7,true))))
theorem o9c:r74=p2d:=zC 50 func50
def t38(x:t0z):Ht j55:=zK 9 x
def t9y(g:Z49->Ht (Z57⊕j55))(x:Z49):Ht (Z57⊕j55):=cond (decide (x.2.2.2<(x.2.2.1.length:Int))) (cond (y4o x.2.2.2 x.2.2.1.length) ((s39 (rdL Ty.str x.2.2.1 x.2.2.2.toNat)).bind fun y3=>(r74 (x.2.1,y3.1)).bind fun y4=>((cond (!y3.2) (some true) (some (!y4.2))):La).bind fun j5=>cond j5 (some (.inr ((([]:Lf),([]:Lc),([]:Lc),0,0),false))) (g (x.1,y4.1,x.2.2.1,i64.wrap (x.2.2.2+1)))) none) (some (.inl (x.1,x.2.1)))
def u7b:=lpW _ _ t9y
theorem q1r x:u7b x=t9y u7b x:=zW q0i 9 f9 4 43 x
def q78 (x:t0z):Ht j55:=(r31 ()).bind fun y1=>(t57 x).bind fun y2=>(u7b ((([]:Lf),([]:Lc),([]:Lc),0,0),y1,y2,0)).bind fun|.inl o7=>some (o7.2,true)|.inr z8=>some z8
theorem o45:t38=q78:=zC 9 func9
def t2h(x:t0z):La:=zK 150 x
def s16(g:p9s->Ht d60)(x:p9s):Ht d60:=cond (decide (x.2<(x.1.1.length:Int))) (cond (y4o x.2 x.1.1.length) (cond (!decide (((rdL Ty.str x.1.1 x.2.toNat).size:Int)=(64:Int))) (some (.inr false)) (g (x.1,i64.wrap (x.2+1)))) none) (some (.inl x.1))
def s2i:=lpW _ _ s16
theorem q6b x:s2i x=s16 s2i x:=zW q42 150 f150 4 59 x
def s17(g:p9s->Ht r04)(x:p9s):Ht r04:=cond (decide (x.2<(x.1.2.length:Int))) (((cond (y4o x.2 x.1.2.length) ((u0t ((rdL q2u x.1.2 x.2.toNat).1,0,i64.wrap ((x.1.1.length:Int) - (1:Int)))).bind fun y5=>cond (!y5) (some true) (cond (y4o x.2 x.1.2.length) (some (!decide (((rdL q2u x.1.2 x.2.toNat).2.size:Int)=(64:Int)))) none)) none):La).bind fun j6=>cond j6 (some (.inr false)) (g (x.1,i64.wrap (x.2+1)))) (some (.inl ()))
def s2j:=lpW _ _ s17
theorem q6c x:s2j x=s17 s2j x:=zW q43 150 f150 9 59 x
def p19 (x:t0z):La:=(((u0t ((x.1.length:Int),1,100)).bind fun y1=>cond (!y1) (some true) (some (decide ((x.2.length:Int)>(60:Int))))):La).bind fun j2=>cond j2 (some false) ((s2i (x,0)).bind fun|.inl o4=>((s2j (o4,0)).bind fun|.inl o8=>some true|.inr z9=>some z9)|.inr z10=>some z10)
theorem o88:t2h=p19:=zC 150 func150
def s1s(x:t0z):La:=zK 67 x
def p65 (x:t0z):La:=(((t2h x).bind fun y1=>cond (!y1) (some true) ((u8j ()).bind fun y2=>cond (!decide ((x.1.length:Int)=y2)) (some true) (some (decide ((x.2.length:Int)>(0:Int)))))):La).bind fun j3=>cond j3 (some false) ((t1a (x,0)).bind fun y4=>(t1a (x,1)).bind fun y5=>((cond y4.2.2 (some y5.2.2) (some false)):La).bind fun j6=>some j6)
theorem j2g:s1s=p65:=zC 67 func67
def u0w(x:t0z):Ht t0z:=zK 68 x
def q8r (x:t0z):Ht t0z:=cond (Nat.ble (([]:Lh).length+x.1.length) z7v) (cond (Nat.ble (([]:Ll).length+x.2.length) z7v) (some (([]:Lh)++x.1,([]:Ll)++x.2)) none) none
theorem o5n:u0w=q8r:=zC 68 func68
def u5q(x:t0z):Ht Z69:=zK 17 x
def r9f (x:t0z):Ht Z69:=(t38 x).bind fun y1=>(((s1s x).bind fun y2=>cond (!y2) (some true) (some (!y1.2))):La).bind fun j3=>cond j3 (some ((((([]:Lf),([]:Lc),([]:Lc),0,0),([]:Lc)),([]:Lh),([]:Ll)),false)) ((u0w x).bind fun y4=>some (((y1.1,([]:Lc)),y4),true))
theorem p84:u5q=r9f:=zC 17 func17
def u0p(x:s8d):Ht s8d:=zK 156 x
def q81 (x:s8d):Ht s8d:=(u22 x.1).bind fun y1=>(t87 x.2).bind fun y2=>some (y1,y2)
theorem o5x:u0p=q81:=zC 156 func156
def r4d(x:Z75):Ht Z75:=zK 76 x
def q83 (x:Z75):Ht Z75:=(u0p x.1).bind fun y1=>(u0w x.2).bind fun y2=>some (y1,y2)
theorem o5z:r4d=q83:=zC 76 func76
def u33(x:t0z):Ht t0z:=zK 269 x
def t4p(g:d8u->Ht d39)(x:d8u):Ht d39:=cond (decide (x.2.2.2<(x.1.2.length:Int))) (cond (y4o x.2.2.2 x.1.2.length) (cond (y4o x.2.2.2 x.1.2.length) (cond (y4o (rdL q2u x.1.2 x.2.2.2.toNat).1 x.2.2.1.1.length) (g (x.1,x.2.1,(x.2.2.1.1.set ((rdL q2u x.1.2 x.2.2.2.toNat).1).toNat (rdL q2u x.1.2 x.2.2.2.toNat).2,x.2.2.1.2),i64.wrap (x.2.2.2+1))) none) none) none) (some (.inl (x.2.1,x.2.2.1)))
def t41:=lpW _ _ t4p
theorem r25 x:t41 x=t4p t41 x:=zW r19 269 f269 5 36 x
def r88 (x:t0z):Ht t0z:=(u0w x).bind fun y1=>(t2h x).bind fun y2=>cond (!y2) (some y1) ((t41 (x,(([]:Lh),([]:Ll)),y1,0)).bind fun|.inl o4=>some (o4.2.1,([]:Ll))|.inr z5=>none)
theorem p8x:u33=r88:=zC 269 func269
def u9v(x:d3q):Ht p22:=zK 294 x
def r1i (x:d3q):Ht p22:=(u0w x.1).bind fun y1=>(((t2h x.1).bind fun y2=>cond (!y2) (some true) ((u0t (x.2.1,0,i64.wrap ((x.1.1.length:Int) - (1:Int)))).bind fun y3=>cond (!y3) (some true) (cond (!decide ((x.2.2.size:Int)=(64:Int))) (some true) (some (decide ((x.1.2.length:Int)>=(60:Int))))))):La).bind fun j4=>cond j4 (some (y1,false)) (cond (Nat.ble (y1.2.length+([x.2]:Ll).length) z7v) (some ((y1.1,y1.2++([x.2]:Ll)),true)) none)
theorem p3o:u9v=r1i:=zC 294 func294
def u58(x:c33):Ht p22:=zK 292 x
def s1a(g:Z99->Ht (d6r⊕p22))(x:Z99):Ht (d6r⊕p22):=cond (decide (x.2.2.2.2.2.2<(x.2.2.1.size:Int))) (cond (decide ((i64.wrap ((64:Int) - (Int.tmod (i64.wrap (x.2.1+x.2.2.2.2.2.2)) (64:Int))))>(i64.wrap ((x.2.2.1.size:Int) - x.2.2.2.2.2.2)))) ((u8i (x.2.2.2.2.2.1,i64.wrap (x.1+(i64.wrap (Int.tdiv (i64.wrap (x.2.1+x.2.2.2.2.2.2)) (64:Int)))))).bind fun y6=>((cond (!y6.2) (some true) (some (!decide ((y6.1.size:Int)=(64:Int))))):La).bind fun j7=>cond j7 ((u0w x.2.2.2.1).bind fun y8=>some (.inr (y8,false))) (cond (decide (0<=(0:Int))&&decide ((0:Int)<=(Int.tmod (i64.wrap (x.2.1+x.2.2.2.2.2.2)) (64:Int)))&&decide ((Int.tmod (i64.wrap (x.2.1+x.2.2.2.2.2.2)) (64:Int))<=(y6.1.size:Int))) (cond (decide (0<=x.2.2.2.2.2.2)&&decide (x.2.2.2.2.2.2<=(i64.wrap (x.2.2.2.2.2.2+(i64.wrap ((x.2.2.1.size:Int) - x.2.2.2.2.2.2)))))&&decide ((i64.wrap (x.2.2.2.2.2.2+(i64.wrap ((x.2.2.1.size:Int) - x.2.2.2.2.2.2))))<=(x.2.2.1.size:Int))) (cond (decide ((y6.1.extract (0:Int).toNat (Int.tmod (i64.wrap (x.2.1+x.2.2.2.2.2.2)) (64:Int)).toNat).size+(x.2.2.1.extract x.2.2.2.2.2.2.toNat (i64.wrap (x.2.2.2.2.2.2+(i64.wrap ((x.2.2.1.size:Int) - x.2.2.2.2.2.2)))).toNat).size<=140737488355328)) (cond (decide (0<=(i64.wrap ((Int.tmod (i64.wrap (x.2.1+x.2.2.2.2.2.2)) (64:Int))+(i64.wrap ((x.2.2.1.size:Int) - x.2.2.2.2.2.2)))))&&decide ((i64.wrap ((Int.tmod (i64.wrap (x.2.1+x.2.2.2.2.2.2)) (64:Int))+(i64.wrap ((x.2.2.1.size:Int) - x.2.2.2.2.2.2))))<=(y6.1.size:Int))&&decide ((y6.1.size:Int)<=(y6.1.size:Int))) (cond (decide (((y6.1.extract (0:Int).toNat (Int.tmod (i64.wrap (x.2.1+x.2.2.2.2.2.2)) (64:Int)).toNat)++(x.2.2.1.extract x.2.2.2.2.2.2.toNat (i64.wrap (x.2.2.2.2.2.2+(i64.wrap ((x.2.2.1.size:Int) - x.2.2.2.2.2.2)))).toNat)).size+(y6.1.extract (i64.wrap ((Int.tmod (i64.wrap (x.2.1+x.2.2.2.2.2.2)) (64:Int))+(i64.wrap ((x.2.2.1.size:Int) - x.2.2.2.2.2.2)))).toNat (y6.1.size:Int).toNat).size<=140737488355328)) ((u9v (x.2.2.2.2.2.1,i64.wrap (x.1+(i64.wrap (Int.tdiv (i64.wrap (x.2.1+x.2.2.2.2.2.2)) (64:Int)))),((y6.1.extract (0:Int).toNat (Int.tmod (i64.wrap (x.2.1+x.2.2.2.2.2.2)) (64:Int)).toNat)++(x.2.2.1.extract x.2.2.2.2.2.2.toNat (i64.wrap (x.2.2.2.2.2.2+(i64.wrap ((x.2.2.1.size:Int) - x.2.2.2.2.2.2)))).toNat))++(y6.1.extract (i64.wrap ((Int.tmod (i64.wrap (x.2.1+x.2.2.2.2.2.2)) (64:Int))+(i64.wrap ((x.2.2.1.size:Int) - x.2.2.2.2.2.2)))).toNat (y6.1.size:Int).toNat))).bind fun y9=>cond (!y9.2) ((u0w x.2.2.2.1).bind fun y10=>some (.inr (y10,false))) (g (x.1,x.2.1,x.2.2.1,x.2.2.2.1,x.2.2.2.2.1,y9.1,i64.wrap (x.2.2.2.2.2.2+(i64.wrap ((x.2.2.1.size:Int) - x.2.2.2.2.2.2)))))) none) none) none) none) none)) ((u8i (x.2.2.2.2.2.1,i64.wrap (x.1+(i64.wrap (Int.tdiv (i64.wrap (x.2.1+x.2.2.2.2.2.2)) (64:Int)))))).bind fun y11=>((cond (!y11.2) (some true) (some (!decide ((y11.1.size:Int)=(64:Int))))):La).bind fun j12=>cond j12 ((u0w x.2.2.2.1).bind fun y13=>some (.inr (y13,false))) (cond (decide (0<=(0:Int))&&decide ((0:Int)<=(Int.tmod (i64.wrap (x.2.1+x.2.2.2.2.2.2)) (64:Int)))&&decide ((Int.tmod (i64.wrap (x.2.1+x.2.2.2.2.2.2)) (64:Int))<=(y11.1.size:Int))) (cond (decide (0<=x.2.2.2.2.2.2)&&decide (x.2.2.2.2.2.2<=(i64.wrap (x.2.2.2.2.2.2+(i64.wrap ((64:Int) - (Int.tmod (i64.wrap (x.2.1+x.2.2.2.2.2.2)) (64:Int)))))))&&decide ((i64.wrap (x.2.2.2.2.2.2+(i64.wrap ((64:Int) - (Int.tmod (i64.wrap (x.2.1+x.2.2.2.2.2.2)) (64:Int))))))<=(x.2.2.1.size:Int))) (cond (decide ((y11.1.extract (0:Int).toNat (Int.tmod (i64.wrap (x.2.1+x.2.2.2.2.2.2)) (64:Int)).toNat).size+(x.2.2.1.extract x.2.2.2.2.2.2.toNat (i64.wrap (x.2.2.2.2.2.2+(i64.wrap ((64:Int) - (Int.tmod (i64.wrap (x.2.1+x.2.2.2.2.2.2)) (64:Int)))))).toNat).size<=140737488355328)) (cond (decide (0<=(i64.wrap ((Int.tmod (i64.wrap (x.2.1+x.2.2.2.2.2.2)) (64:Int))+(i64.wrap ((64:Int) - (Int.tmod (i64.wrap (x.2.1+x.2.2.2.2.2.2)) (64:Int)))))))&&decide ((i64.wrap ((Int.tmod (i64.wrap (x.2.1+x.2.2.2.2.2.2)) (64:Int))+(i64.wrap ((64:Int) - (Int.tmod (i64.wrap (x.2.1+x.2.2.2.2.2.2)) (64:Int))))))<=(y11.1.size:Int))&&decide ((y11.1.size:Int)<=(y11.1.size:Int))) (cond (decide (((y11.1.extract (0:Int).toNat (Int.tmod (i64.wrap (x.2.1+x.2.2.2.2.2.2)) (64:Int)).toNat)++(x.2.2.1.extract x.2.2.2.2.2.2.toNat (i64.wrap (x.2.2.2.2.2.2+(i64.wrap ((64:Int) - (Int.tmod (i64.wrap (x.2.1+x.2.2.2.2.2.2)) (64:Int)))))).toNat)).size+(y11.1.extract (i64.wrap ((Int.tmod (i64.wrap (x.2.1+x.2.2.2.2.2.2)) (64:Int))+(i64.wrap ((64:Int) - (Int.tmod (i64.wrap (x.2.1+x.2.2.2.2.2.2)) (64:Int)))))).toNat (y11.1.size:Int).toNat).size<=140737488355328)) ((u9v (x.2.2.2.2.2.1,i64.wrap (x.1+(i64.wrap (Int.tdiv (i64.wrap (x.2.1+x.2.2.2.2.2.2)) (64:Int)))),((y11.1.extract (0:Int).toNat (Int.tmod (i64.wrap (x.2.1+x.2.2.2.2.2.2)) (64:Int)).toNat)++(x.2.2.1.extract x.2.2.2.2.2.2.toNat (i64.wrap (x.2.2.2.2.2.2+(i64.wrap ((64:Int) - (Int.tmod (i64.wrap (x.2.1+x.2.2.2.2.2.2)) (64:Int)))))).toNat))++(y11.1.extract (i64.wrap ((Int.tmod (i64.wrap (x.2.1+x.2.2.2.2.2.2)) (64:Int))+(i64.wrap ((64:Int) - (Int.tmod (i64.wrap (x.2.1+x.2.2.2.2.2.2)) (64:Int)))))).toNat (y11.1.size:Int).toNat))).bind fun y14=>cond (!y14.2) ((u0w x.2.2.2.1).bind fun y15=>some (.inr (y15,false))) (g (x.1,x.2.1,x.2.2.1,x.2.2.2.1,x.2.2.2.2.1,y14.1,i64.wrap (x.2.2.2.2.2.2+(i64.wrap ((64:Int) - (Int.tmod (i64.wrap (x.2.1+x.2.2.2.2.2.2)) (64:Int)))))))) none) none) none) none) none))) (some (.inl (x.2.2.2.2.1,x.2.2.2.2.2.1)))
def u56:=lpW _ _ s1a
theorem p1a x:u56 x=s1a u56 x:=zW s9t 292 f292 5 111 x
def r4z (x:c33):Ht p22:=(u0w x.1).bind fun y1=>(((u0t (x.2.2.1,0,6400)).bind fun y2=>cond (!y2) (some true) ((u0t (x.2.1,0,i64.wrap ((x.1.1.length:Int) - (1:Int)))).bind fun y3=>cond (!y3) (some true) ((t2h x.1).bind fun y4=>some (!y4)))):La).bind fun j5=>cond j5 (some (y1,false)) ((u56 (x.2.1,x.2.2.1,x.2.2.2,x.1,(([]:Lh),([]:Ll)),y1,0)).bind fun|.inl o17=>some (o17.2,true)|.inr z18=>some z18)
theorem p5w:u58=r4z:=zC 292 func292
def t2j(x:Int):Ht Hs:=zK 293 x
def p2p (x:Int):Ht Hs:=some (y7c ([(u8.wrap x)]:Ld))
theorem r7r:t2j=p2p:=zC 293 func293
def t59(x:d44):Ht p22:=zK 336 x
def q34 (x:d44):Ht p22:=(u7f x.2.1).bind fun y1=>(t2j x.2.2).bind fun y2=>(u58 (x.1,y1,0,y2)).bind fun y3=>some y3
theorem o2f:t59=q34:=zC 336 func336
def s3g(x:d3q):Ht p22:=zK 372 x
def q33 (x:d3q):Ht p22:=(t1a (x.1,x.2.1)).bind fun y1=>((cond (!y1.2.2) (some true) (cond (z7n x.2.2 (⟨#[]⟩:Hs)) (some true) (cond (decide ((x.2.2.size:Int)>(3008:Int))) (some true) ((t36 (x.1,x.2.1)).bind fun y2=>some (decide (y2>=255)))))):La).bind fun j3=>cond j3 ((u0w x.1).bind fun y4=>some (y4,false)) ((u15 (x.2.2.size:Int)).bind fun y5=>cond (decide (y5.size+x.2.2.size<=140737488355328)) (cond (decide (((y5++x.2.2).size:Int)>(i64.wrap ((3008:Int) - y1.2.1)))) ((u0w x.1).bind fun y6=>some (y6,false)) ((u7f x.2.1).bind fun y7=>(u58 (x.1,i64.wrap (y7+1),y1.2.1,y5++x.2.2)).bind fun y8=>some y8)) none)
theorem o2e:s3g=q33:=zC 372 func372
def s8v(x:d3q):Ht p22:=zK 337 x
def p2q (x:d3q):Ht p22:=(s3g x).bind fun y1=>cond (!y1.2) (some (y1.1,false)) ((u33 y1.1).bind fun y2=>(t36 (x.1,x.2.1)).bind fun y3=>(t59 (y2,x.2.1,i64.wrap (y3+1))).bind fun y4=>(u33 y4.1).bind fun y5=>some (y5,y4.2))
theorem o9o:s8v=p2q:=zC 337 func337
def r4a(x:d9a):Ht p22:=zK 267 x
def t2u(g:c2o->Ht (c3i⊕Unit))(x:c2o):Ht (c3i⊕Unit):=((cond (decide (x.2.2.2.2.2<(x.1.length:Int))) (some x.2.2.2.2.1) (some false)):La).bind fun j4=>cond j4 (cond (y4o x.2.2.2.2.2 x.1.length) ((s8v (x.2.2.2.1,x.2.2.1,rdL Ty.str x.1 x.2.2.2.2.2.toNat)).bind fun y5=>g (x.1,x.2.1,x.2.2.1,y5.1,y5.2,i64.wrap (x.2.2.2.2.2+1))) none) (some (.inl (x.2.1,x.2.2.2.1,x.2.2.2.2.1)))
def t3f:=lpW _ _ t2u
theorem s68 x:t3f x=t2u t3f x:=zW q0w 267 f267 5 42 x
def q8t (x:d9a):Ht p22:=(t08 x.1).bind fun y1=>(t59 (x.1,i64.wrap ((1:Int) - y1),0)).bind fun y2=>(u33 y2.1).bind fun y3=>(t3f (x.2,(([]:Lh),([]:Ll)),i64.wrap ((1:Int) - y1),y3,y2.2,0)).bind fun|.inl o7=>some o7.2|.inr z8=>none
theorem o5p:r4a=q8t:=zC 267 func267
def r4b(x:t0z):Ht p22:=zK 268 x
def q8u (x:t0z):Ht p22:=(t86 (x,0)).bind fun y1=>(t2j (i64.wrap (y1+1))).bind fun y2=>(u58 (x,0,0,y2)).bind fun y3=>some y3
theorem o5q:r4b=q8u:=zC 268 func268
def s06(x:d9a):Ht p22:=zK 157 x
def r9h (x:d9a):Ht p22:=(s1s x.1).bind fun y1=>cond (!y1) ((u0w x.1).bind fun y2=>some (y2,false)) ((r4a x).bind fun y3=>cond (!y3.2) ((u0w x.1).bind fun y4=>some (y4,false)) ((r4b y3.1).bind fun y5=>cond (!y5.2) ((u0w x.1).bind fun y6=>some (y6,false)) ((u33 y5.1).bind fun y7=>some (y7,true))))
theorem p86:s06=r9h:=zC 157 func157
def t6a(x:t0z):Ht p22:=zK 77 x
def q38 (x:t0z):Ht p22:=(t38 x).bind fun y1=>(u29 (4,(0,0,0,0,([]:Lg),([]:Li),false,(⟨#[]⟩:Hs)),(⟨#[]⟩:Hs),false,y1.1)).bind fun y2=>((cond (!y1.2) (some true) (some (!y2.2))):La).bind fun j3=>cond j3 ((u0w x).bind fun y4=>some (y4,false)) ((s06 (x,([y2.1]:Lh))).bind fun y5=>some y5)
theorem o2j:t6a=q38:=zC 77 func77
def u2i(x:Z75):Ht Z69:=zK 23 x
def q3l (x:Z75):Ht Z69:=(r4d x).bind fun y1=>(t6a x.2).bind fun y2=>cond y2.2 (some ((y1.1,y2.1),y2.2)) (some (y1,y2.2))
theorem o1o:u2i=q3l:=zC 23 func23
def s26(x:s8d):La:=zK 195 x
def t4n(g:Z47->Ht (Z50⊕Bool))(x:Z47):Ht (Z50⊕Bool):=cond (decide (x.2.2.2<(x.1.1.2.1.length:Int))) (cond (y4o x.2.2.2 x.1.1.2.1.length) (cond (decide ((rdL u0a x.1.1.2.1 x.2.2.2.toNat).1=x.2.2.1.1)) (some (.inr false)) (g (x.1,x.2.1,x.2.2.1,i64.wrap (x.2.2.2+1)))) none) (some (.inl (x.1,x.2.1,x.2.2.1)))
def u9h:=lpW _ _ t4n
theorem r22 x:u9h x=t4n u9h x:=zW r1y 195 f195 10 105 x
def t4o(g:Z47->Ht (Z96⊕Bool))(x:Z47):Ht (Z96⊕Bool):=cond (decide (x.2.2.2<(x.1.1.2.2.1.length:Int))) (cond (y4o x.2.2.2 x.1.1.2.2.1.length) (cond (decide ((rdL u0a x.1.1.2.2.1 x.2.2.2.toNat).1=x.2.2.1.1)) (some (.inr false)) (g (x.1,x.2.1,x.2.2.1,i64.wrap (x.2.2.2+1)))) none) (some (.inl (x.1,x.2.1)))
def u6z:=lpW _ _ t4o
theorem r23 x:u6z x=t4o u6z x:=zW r1z 195 f195 15 105 x
def t6v(g:Z96->Ht r04)(x:Z96):Ht r04:=cond (decide (x.2<(x.1.2.length:Int))) (cond (y4o x.2 x.1.2.length) ((((u8b (rdL u0a x.1.2 x.2.toNat)).bind fun y3=>cond (!y3) (some true) (cond (!decide ((rdL u0a x.1.2 x.2.toNat).2.1=1)) (some true) (cond (decide ((rdL u0a x.1.2 x.2.toNat).1>=x.1.1.2.2.2.2)) (some true) (cond (decide ((rdL u0a x.1.2 x.2.toNat).2.2.1>x.1.1.2.2.2.1)) (some true) (cond (decide (x.2>0)) (cond (y4o (i64.wrap (x.2 - 1)) x.1.2.length) (some (decide ((rdL u0a x.1.2 (i64.wrap (x.2 - 1)).toNat).1>=(rdL u0a x.1.2 x.2.toNat).1))) none) (some false)))))):La).bind fun j4=>cond j4 (some (.inr false)) ((u9h (x.1,x.2,rdL u0a x.1.2 x.2.toNat,0)).bind fun|.inl o6=>((u6z (o6.1,o6.2.1,o6.2.2,0)).bind fun|.inl o8=>g (o8.1,i64.wrap (o8.2+1))|.inr z9=>some (.inr z9))|.inr z10=>some (.inr z10))) none) (some (.inl ()))
def u8f:=lpW _ _ t6v
theorem r6q x:u8f x=t6v u8f x:=zW r5n 195 f195 4 105 x
def q3k (x:s8d):La:=(((u9s x.1).bind fun y1=>cond (!y1) (some true) (some (decide ((x.2.length:Int)>(4:Int))))):La).bind fun j2=>cond j2 (some false) ((u8f (x,0)).bind fun|.inl o12=>some true|.inr z13=>some z13)
theorem o1n:s26=q3k:=zC 195 func195
def u78(x:s8d):Ht Z91:=zK 299 x
def p61 (x:s8d):Ht Z91:=(u0p x).bind fun y1=>(((s26 x).bind fun y2=>cond (!y2) (some true) (cond (decide ((x.2.length:Int)>=(4:Int))) (some true) (some (decide (x.1.2.2.2.2>=9999))))):La).bind fun j3=>cond j3 (some (y1,0,3)) (cond (Nat.ble (y1.2.length+([(x.1.2.2.2.2,1,x.1.2.2.2.1,0,([]:Lg),([]:Li),false,(⟨#[]⟩:Hs))]:Lc).length) z7v) (some (((y1.1.1,y1.1.2.1,y1.1.2.2.1,y1.1.2.2.2.1,i64.wrap (x.1.2.2.2.2+1)),y1.2++([(x.1.2.2.2.2,1,x.1.2.2.2.1,0,([]:Lg),([]:Li),false,(⟨#[]⟩:Hs))]:Lc)),x.1.2.2.2.2,0)) none)
theorem j2c:u78=p61:=zC 299 func299
def s07(x:Int):Lj:=zK 427 x
def r9i (x:Int):Lj:=cond (decide (x<10)) (some (u8.wrap (i64.wrap ((48:Int)+x)))) (some (u8.wrap (i64.wrap ((i64.wrap ((97:Int)+x)) - 10))))
theorem p87:s07=r9i:=zC 427 func427
def r33(x:Int):Ht Hs:=zK 402 x
def t2s(g:(Int×d92)->Ht (d92⊕Unit))(x:(Int×d92)):Ht (d92⊕Unit):=cond (!decide (x.1=0)) (cond (decide ((Int.tmod x.1 (10:Int))<0)) ((s07 (i64.wrap (0 - (Int.tmod x.1 (10:Int))))).bind fun y1=>cond (decide ((y7c ([y1]:Ld)).size+x.2.2.size<=140737488355328)) (g (i64.wrap (Int.tdiv x.1 (10:Int)),x.2.1,(y7c ([y1]:Ld))++x.2.2)) none) ((s07 (Int.tmod x.1 (10:Int))).bind fun y2=>cond (decide ((y7c ([y2]:Ld)).size+x.2.2.size<=140737488355328)) (g (i64.wrap (Int.tdiv x.1 (10:Int)),x.2.1,(y7c ([y2]:Ld))++x.2.2)) none)) (some (.inl x.2))
def s0m:=lpW _ _ t2s
theorem s67 x:s0m x=t2s s0m x:=zW q0d 402 f402 5 30 x
def q73 (x:Int):Ht Hs:=cond (decide (x=0)) (some (⟨#[48]⟩:Hs)) ((s0m (x,decide (x<0),(⟨#[]⟩:Hs))).bind fun|.inl o4=>cond o4.1 (cond (decide ((⟨#[45]⟩:Hs).size+o4.2.size<=140737488355328)) (some ((⟨#[45]⟩:Hs)++o4.2)) none) (some o4.2)|.inr z5=>none)
theorem o40:r33=q73:=zC 402 func402
def u6c(x:Z96):Lj:=zK 409 x
def t5h(g:Z89->Ht o31)(x:Z89):Ht o31:=cond (decide (x.2.2<(x.2.1.2.length:Int))) (cond (y4o x.2.2 x.2.1.2.length) (cond (decide ((rdL u0a x.2.1.2 x.2.2.toNat).1=x.1)) (some (.inr x.2.2)) (g (x.1,x.2.1,i64.wrap (x.2.2+1)))) none) (some (.inl ()))
def t5p:=lpW _ _ t5h
theorem q6d x:t5p x=t5h t5p x:=zW q44 409 f409 2 22 x
def p2b (x:Z96):Lj:=(t5p (x.2,x.1,0)).bind fun|.inl o2=>some (- 1:Int)|.inr z3=>some z3
theorem o9a:u6c=p2b:=zC 409 func409
def s04(x:c2q):Ht d6q:=zK 428 x
def t4t(g:Z28->Ht (Z30⊕d6q))(x:Z28):Ht (Z30⊕d6q):=cond (decide (x.2.2.2.2<(x.1.2.2.2.2.1.length:Int))) (cond (y4o x.2.2.2.2 x.1.2.2.2.2.1.length) (cond (z7n (rdL s0f x.1.2.2.2.2.1 x.2.2.2.2.toNat).1 x.2.1.1&&(z7n (rdL s0f x.1.2.2.2.2.1 x.2.2.2.2.toNat).2 x.2.1.2&&true)) (some (.inr (x.2.2.2.1,true))) (g (x.1,x.2.1,x.2.2.1,x.2.2.2.1,i64.wrap (x.2.2.2.2+1)))) none) (some (.inl (x.1,x.2.1,x.2.2.1,x.2.2.2.1)))
def u9i:=lpW _ _ t4t
theorem r3a x:u9i x=t4t u9i x:=zW r2d 428 f428 5 51 x
def r9d (x:c2q):Ht d6q:=(u00 x.1).bind fun y1=>(((u8b x.1).bind fun y2=>cond (!y2) (some true) (cond (!decide (x.1.2.1=1)) (some true) ((t83 x.2).bind fun y3=>some (!y3)))):La).bind fun j4=>cond j4 (some (y1,false)) ((u9i (x.1,x.2,(0,0,0,0,([]:Lg),([]:Li),false,(⟨#[]⟩:Hs)),y1,0)).bind fun|.inl o6=>cond (decide ((o6.1.2.2.2.2.1.length:Int)>=(8:Int))) (some (o6.2.2.2,false)) (cond (Nat.ble (o6.2.2.2.2.2.2.2.1.length+([o6.2.1]:Lg).length) z7v) (some ((o6.2.2.2.1,o6.2.2.2.2.1,o6.2.2.2.2.2.1,o6.2.2.2.2.2.2.1,o6.2.2.2.2.2.2.2.1++([o6.2.1]:Lg),o6.2.2.2.2.2.2.2.2),true)) none)|.inr z7=>some z7)
theorem p82:s04=r9d:=zC 428 func428
def s8r(x:d3t):Ht r01:=zK 206 x
def p2h (x:d3t):Ht r01:=(r2q x).bind fun y1=>((cond (decide (y1<0)) (some true) (cond (y4o y1 x.1.length) (some (rdL u0d x.1 y1.toNat).2.2.1) none)):La).bind fun j2=>cond j2 (some ((⟨#[]⟩:Hs),false)) (cond (y4o y1 x.1.length) (some ((rdL u0d x.1 y1.toNat).2.1,true)) none)
theorem o9g:s8r=p2h:=zC 206 func206
def s8q(x:c2i):Ht r01:=zK 429 x
def t5i(g:c2c->Ht (c2j⊕r01))(x:c2c):Ht (c2j⊕r01):=cond (decide (x.2.2.2<(x.2.2.1.2.2.2.2.2.1.length:Int))) (cond (y4o x.2.2.2 x.2.2.1.2.2.2.2.2.1.length) (cond (z7n (rdL u2r x.2.2.1.2.2.2.2.2.1 x.2.2.2.toNat).1 x.2.1) (cond (y4o x.2.2.2 x.2.2.1.2.2.2.2.2.1.length) (cond (rdL u2r x.2.2.1.2.2.2.2.2.1 x.2.2.2.toNat).2.2 (some (.inr ((⟨#[]⟩:Hs),false))) (cond (y4o x.2.2.2 x.2.2.1.2.2.2.2.2.1.length) (some (.inr ((rdL u2r x.2.2.1.2.2.2.2.2.1 x.2.2.2.toNat).2.1,true))) none)) none) (g (x.1,x.2.1,x.2.2.1,i64.wrap (x.2.2.2+1)))) none) (some (.inl (x.1,x.2.1,x.2.2.1)))
def t5q:=lpW _ _ t5i
theorem q6e x:t5q x=t5i t5q x:=zW q45 429 f429 2 43 x
def p2c (x:c2i):Ht r01:=(t5q (x.2.1,x.2.2,x.1,0)).bind fun|.inl o2=>((s8r (o2.1,o2.2.1,o2.2.2.2.2.1)).bind fun y3=>some y3)|.inr z4=>some z4
theorem o9b:s8q=p2c:=zC 429 func429
def u7z(x:Z86):Ht Z79:=zK 403 x
def p2a (x:Z86):Ht Z79:=(u0p x.1).bind fun y1=>(u6c (x.1,x.2.1)).bind fun y2=>cond (decide (y2<0)) (some (y1,(⟨#[]⟩:Hs),false,1)) ((u79 x.2.2).bind fun y3=>cond (!y3) (some (y1,(⟨#[]⟩:Hs),false,2)) (cond (y4o y2 x.1.2.length) ((s04 (rdL u0a x.1.2 y2.toNat,x.2.2,x.2.2)).bind fun y4=>cond (!y4.2) (some (y1,(⟨#[]⟩:Hs),false,3)) (cond (y4o y2 y1.2.length) ((s8q (y4.1,x.1.1.1,x.2.2)).bind fun y5=>some ((y1.1,y1.2.set y2.toNat y4.1),y5.1,y5.2,0)) none)) none))
theorem o89:u7z=p2a:=zC 403 func403
def s5e(x:c1g):Ht p71:=zK 205 x
def s0a(g:d8v->Ht (c2z⊕Unit))(x:d8v):Ht (c2z⊕Unit):=cond (decide (x.2.2.2.2.2.2<(x.2.2.1.length:Int))) (cond (y4o x.2.2.2.2.2.2 x.2.2.1.length) (cond (y3b (rdL Ty.str x.2.2.1 x.2.2.2.2.2.2.toNat) x.2.2.2.2.1) (cond (y4o x.2.2.2.2.2.2 x.2.2.1.length) (cond (Nat.ble (x.2.2.2.2.2.1.length+([(rdL Ty.str x.2.2.1 x.2.2.2.2.2.2.toNat)]:Lh).length) z7v) (g (x.1,x.2.1,x.2.2.1,x.2.2.2.1,x.2.2.2.2.1,x.2.2.2.2.2.1++([(rdL Ty.str x.2.2.1 x.2.2.2.2.2.2.toNat)]:Lh),i64.wrap (x.2.2.2.2.2.2+1))) none) none) (g (x.1,x.2.1,x.2.2.1,x.2.2.2.1,x.2.2.2.2.1,x.2.2.2.2.2.1,i64.wrap (x.2.2.2.2.2.2+1)))) none) (some (.inl (x.1,x.2.1,x.2.2.1,x.2.2.2.1,x.2.2.2.2.1,x.2.2.2.2.2.1)))
def t3g:=lpW _ _ s0a
theorem q14 x:t3g x=s0a t3g x:=zW q0y 205 f205 9 72 x
def t69(g:d8v->Ht (c3t⊕Unit))(x:d8v):Ht (c3t⊕Unit):=cond (decide (x.2.2.2.2.2.2<(x.2.2.1.length:Int))) (cond (y4o x.2.2.2.2.2.2 x.2.2.1.length) (cond (!(y3b (rdL Ty.str x.2.2.1 x.2.2.2.2.2.2.toNat) x.2.2.2.2.1||z7n (rdL Ty.str x.2.2.1 x.2.2.2.2.2.2.toNat) x.2.2.2.2.1)) (cond (y4o x.2.2.2.2.2.2 x.2.2.1.length) (cond (Nat.ble (x.2.2.2.2.2.1.length+([(rdL Ty.str x.2.2.1 x.2.2.2.2.2.2.toNat)]:Lh).length) z7v) (g (x.1,x.2.1,x.2.2.1,x.2.2.2.1,x.2.2.2.2.1,x.2.2.2.2.2.1++([(rdL Ty.str x.2.2.1 x.2.2.2.2.2.2.toNat)]:Lh),i64.wrap (x.2.2.2.2.2.2+1))) none) none) (g (x.1,x.2.1,x.2.2.1,x.2.2.2.1,x.2.2.2.2.1,x.2.2.2.2.2.1,i64.wrap (x.2.2.2.2.2.2+1)))) none) (some (.inl (x.1,x.2.1,x.2.2.2.1,x.2.2.2.2.2.1)))
def t0x:=lpW _ _ t69
theorem r64 x:t0x x=t69 t0x x:=zW r51 205 f205 15 72 x
def t99(g:c3r->Ht (p71⊕Unit))(x:c3r):Ht (p71⊕Unit):=cond (decide (x.2.2.2<(x.1.length:Int))) (cond (y4o x.2.2.2 x.1.length) ((t82 (x.2.1,(rdL u0d x.1 x.2.2.2.toNat).1)).bind fun y1=>cond (!y1) (g (x.1,x.2.1,x.2.2.1,i64.wrap (x.2.2.2+1))) ((t3g (x.1,x.2.1,x.2.2.1,x.2.2.2,(rdL u0d x.1 x.2.2.2.toNat).1,([]:Lh),0)).bind fun|.inl o3=>cond (Nat.ble (o3.2.2.2.2.2.length+([o3.2.2.2.2.1]:Lh).length) z7v) ((t0x (o3.1,o3.2.1,o3.2.2.1,o3.2.2.2.1,o3.2.2.2.2.1,o3.2.2.2.2.2++([o3.2.2.2.2.1]:Lh),0)).bind fun|.inl o5=>g (o5.1,o5.2.1,o5.2.2.2,i64.wrap (o5.2.2.1+1))|.inr z6=>some (.inr ())) none|.inr z7=>some (.inr ()))) none) (some (.inl x.2.2.1))
def s0t:=lpW _ _ t99
theorem q13 x:s0t x=t99 s0t x:=zW q0x 205 f205 3 72 x
def q8v (x:c1g):Ht p71:=(s0t (x.1,x.2,([]:Lh),0)).bind fun|.inl o9=>some o9|.inr z10=>none
theorem o5r:s5e=q8v:=zC 205 func205
def r35(x:c2a):Ht p9o:=zK 430 x
def t9w(g:Z87->Ht (Z94⊕Unit))(x:Z87):Ht (Z94⊕Unit):=cond (decide (x.2.2.2.2<(x.2.1.2.2.2.2.2.1.length:Int))) (cond (y4o x.2.2.2.2 x.2.1.2.2.2.2.2.1.length) (cond (Nat.ble (x.2.2.2.1.length+([((rdL u2r x.2.1.2.2.2.2.2.1 x.2.2.2.2.toNat).1,(⟨#[]⟩:Hs),false,0)]:Lf).length) z7v) (g (x.1,x.2.1,x.2.2.1,x.2.2.2.1++([((rdL u2r x.2.1.2.2.2.2.2.1 x.2.2.2.2.toNat).1,(⟨#[]⟩:Hs),false,0)]:Lf),i64.wrap (x.2.2.2.2+1))) none) none) (some (.inl (x.1,x.2.1,x.2.2.1,x.2.2.2.1)))
def t28:=lpW _ _ t9w
theorem q1p x:t28 x=t9w t28 x:=zW q0g 430 f430 3 65 x
def t9x(g:Z95->Ht j62)(x:Z95):Ht j62:=cond (decide (x.2.2.2.2<(x.2.2.2.1.length:Int))) (cond (y4o x.2.2.2.2 x.2.2.2.1.length) ((s8q (x.2.1,x.1,rdL Ty.str x.2.2.2.1 x.2.2.2.2.toNat)).bind fun y4=>cond y4.2 (cond (y4o x.2.2.2.2 x.2.2.2.1.length) (cond (Nat.ble (x.2.2.1.length+([(rdL Ty.str x.2.2.2.1 x.2.2.2.2.toNat,y4.1)]:Lg).length) z7v) (g (x.1,x.2.1,x.2.2.1++([(rdL Ty.str x.2.2.2.1 x.2.2.2.2.toNat,y4.1)]:Lg),x.2.2.2.1,i64.wrap (x.2.2.2.2+1))) none) none) (g (x.1,x.2.1,x.2.2.1,x.2.2.2.1,i64.wrap (x.2.2.2.2+1)))) none) (some (.inl x.2.2.1))
def s0n:=lpW _ _ t9x
theorem q1q x:s0n x=t9x s0n x:=zW q0h 430 f430 9 65 x
def q77 (x:c2a):Ht p9o:=cond (Nat.ble (([]:Lf).length+x.2.1.length) z7v) ((t28 (x.2.1,x.1,x.2.2,([]:Lf)++x.2.1,0)).bind fun|.inl o2=>((s5e (o2.2.2.2,o2.2.2.1)).bind fun y3=>(s0n (o2.1,o2.2.1,([]:Lg),y3,0)).bind fun|.inl o6=>some o6|.inr z7=>none)|.inr z8=>none) none
theorem o44:r35=q77:=zC 430 func430
def u49(x:Z77):Ht Z83:=zK 404 x
def q3v (x:Z77):Ht Z83:=(u0p x.1).bind fun y1=>(u6c (x.1,x.2.1)).bind fun y2=>cond (decide (y2<0)) (some (y1,([]:Lg),1)) ((t83 x.2.2).bind fun y3=>cond (!y3) (some (y1,([]:Lg),2)) (cond (y4o y2 x.1.2.length) ((s04 (rdL u0a x.1.2 y2.toNat,x.2.2)).bind fun y4=>cond (!y4.2) (some (y1,([]:Lg),3)) (cond (y4o y2 y1.2.length) ((r35 (y4.1,x.1.1.1,x.2.2)).bind fun y5=>some ((y1.1,y1.2.set y2.toNat y4.1),y5,0)) none)) none))
theorem o1y:u49=q3v:=zC 404 func404
def r0i(x:p9o):Ht Hs:=zK 405 x
def t7c(g:c48->Ht d6y)(x:c48):Ht d6y:=cond (decide (x.2.2<(x.1.length:Int))) (cond (decide (x.2.2>0)) (cond (decide (x.2.1.size+(⟨#[44]⟩:Hs).size<=140737488355328)) (cond (y4o x.2.2 x.1.length) (cond (decide ((x.2.1++(⟨#[44]⟩:Hs)).size+(rdL s0f x.1 x.2.2.toNat).1.size<=140737488355328)) (cond (decide (((x.2.1++(⟨#[44]⟩:Hs))++(rdL s0f x.1 x.2.2.toNat).1).size+(⟨#[61]⟩:Hs).size<=140737488355328)) (cond (y4o x.2.2 x.1.length) (cond (decide ((((x.2.1++(⟨#[44]⟩:Hs))++(rdL s0f x.1 x.2.2.toNat).1)++(⟨#[61]⟩:Hs)).size+(rdL s0f x.1 x.2.2.toNat).2.size<=140737488355328)) (g (x.1,(((x.2.1++(⟨#[44]⟩:Hs))++(rdL s0f x.1 x.2.2.toNat).1)++(⟨#[61]⟩:Hs))++(rdL s0f x.1 x.2.2.toNat).2,i64.wrap (x.2.2+1))) none) none) none) none) none) none) (cond (y4o x.2.2 x.1.length) (cond (decide (x.2.1.size+(rdL s0f x.1 x.2.2.toNat).1.size<=140737488355328)) (cond (decide ((x.2.1++(rdL s0f x.1 x.2.2.toNat).1).size+(⟨#[61]⟩:Hs).size<=140737488355328)) (cond (y4o x.2.2 x.1.length) (cond (decide (((x.2.1++(rdL s0f x.1 x.2.2.toNat).1)++(⟨#[61]⟩:Hs)).size+(rdL s0f x.1 x.2.2.toNat).2.size<=140737488355328)) (g (x.1,((x.2.1++(rdL s0f x.1 x.2.2.toNat).1)++(⟨#[61]⟩:Hs))++(rdL s0f x.1 x.2.2.toNat).2,i64.wrap (x.2.2+1))) none) none) none) none) none)) (some (.inl x.2.1))
def t0y:=lpW _ _ t7c
theorem r67 x:t0y x=t7c t0y x:=zW r54 405 f405 3 30 x
def q4a (x:p9o):Ht Hs:=(t0y (x,(⟨#[]⟩:Hs),0)).bind fun|.inl o2=>some o2|.inr z3=>none
theorem o2l:r0i=q4a:=zC 405 func405
def s28(x:c4n):Ht j61:=zK 300 x
def t6y(g:d82->Ht (c3q⊕Unit))(x:d82):Ht (c3q⊕Unit):=cond (decide (x.2.2.2<(x.1.length:Int))) (cond (y4o x.2.2.2 x.1.length) (cond (y3b (rdL u2r x.1 x.2.2.2.toNat).1 x.2.1.1) (cond (y4o x.2.2.2 x.1.length) (cond (Nat.ble (x.2.2.1.length+([(rdL u2r x.1 x.2.2.2.toNat)]:Li).length) z7v) (g (x.1,x.2.1,x.2.2.1++([(rdL u2r x.1 x.2.2.2.toNat)]:Li),i64.wrap (x.2.2.2+1))) none) none) (g (x.1,x.2.1,x.2.2.1,i64.wrap (x.2.2.2+1)))) none) (some (.inl (x.1,x.2.1,x.2.2.1)))
def t7m:=lpW _ _ t6y
theorem r6t x:t7m x=t6y t7m x:=zW r5q 300 f300 3 56 x
def t6z(g:d82->Ht (j61⊕Unit))(x:d82):Ht (j61⊕Unit):=cond (decide (x.2.2.2<(x.1.length:Int))) (cond (y4o x.2.2.2 x.1.length) (cond (!(y3b (rdL u2r x.1 x.2.2.2.toNat).1 x.2.1.1||z7n (rdL u2r x.1 x.2.2.2.toNat).1 x.2.1.1)) (cond (y4o x.2.2.2 x.1.length) (cond (Nat.ble (x.2.2.1.length+([(rdL u2r x.1 x.2.2.2.toNat)]:Li).length) z7v) (g (x.1,x.2.1,x.2.2.1++([(rdL u2r x.1 x.2.2.2.toNat)]:Li),i64.wrap (x.2.2.2+1))) none) none) (g (x.1,x.2.1,x.2.2.1,i64.wrap (x.2.2.2+1)))) none) (some (.inl x.2.2.1))
def t7n:=lpW _ _ t6z
theorem r6u x:t7n x=t6z t7n x:=zW r5r 300 f300 9 56 x
def q3p (x:c4n):Ht j61:=(t7m (x.1,x.2,([]:Li),0)).bind fun|.inl o2=>cond (Nat.ble (o2.2.2.length+([o2.2.1]:Li).length) z7v) ((t7n (o2.1,o2.2.1,o2.2.2++([o2.2.1]:Li),0)).bind fun|.inl o4=>some o4|.inr z5=>none) none|.inr z6=>none
theorem o1s:s28=q3p:=zC 300 func300
def r0h(x:c2l):Ht d6q:=zK 431 x
def q3z (x:c2l):Ht d6q:=(u00 x.1).bind fun y1=>(((u8b x.1).bind fun y2=>cond (!y2) (some true) (cond (!decide (x.1.2.1=1)) (some true) ((t85 x.2).bind fun y3=>some (!y3)))):La).bind fun j4=>cond j4 (some (y1,false)) ((s28 (x.1.2.2.2.2.2.1,x.2)).bind fun y5=>(s3f y5).bind fun y6=>cond (!y6) ((u00 x.1).bind fun y7=>some (y7,false)) (some ((y1.1,y1.2.1,y1.2.2.1,y1.2.2.2.1,y1.2.2.2.2.1,y5,y1.2.2.2.2.2.2),true)))
theorem o2b:r0h=q3z:=zC 431 func431
def u6d(x:Z73):Ht Z96:=zK 406 x
def p2e (x:Z73):Ht Z96:=(u0p x.1).bind fun y1=>(u6c (x.1,x.2.1)).bind fun y2=>cond (decide (y2<0)) (some (y1,1)) ((t85 x.2.2).bind fun y3=>cond (!y3) (some (y1,2)) (cond (y4o y2 x.1.2.length) ((r0h (rdL u0a x.1.2 y2.toNat,x.2.2)).bind fun y4=>cond (!y4.2) (some (y1,3)) (cond (y4o y2 y1.2.length) (some ((y1.1,y1.2.set y2.toNat y4.1),0)) none)) none))
theorem o9d:u6d=p2e:=zC 406 func406
def u92(x:Z26):Ht Z36:=zK 375 x
def q87 (x:Z26):Ht Z36:=cond (decide (x.2.1=1)) ((u78 x.1.1.1).bind fun y1=>cond (!decide (y1.2.2=0)) (some (y1.2.2,(⟨#[]⟩:Hs),(y1.1,x.1.1.2),x.1.2)) ((r33 y1.2.1).bind fun y2=>some (0,y2,(y1.1,x.1.1.2),x.1.2))) (cond (decide (x.2.1=2)) ((u7z (x.1.1.1,x.2.2.1,x.2.2.2.1)).bind fun y3=>((cond (decide (y3.2.2.2=0)) (some (!y3.2.2.1)) (some false)):La).bind fun j4=>cond j4 (some (y3.2.2.2,(⟨#[45]⟩:Hs),(y3.1,x.1.1.2),x.1.2)) (some (y3.2.2.2,y3.2.1,(y3.1,x.1.1.2),x.1.2))) (cond (decide (x.2.1=3)) ((u49 (x.1.1.1,x.2.2.1,x.2.2.2.1,x.2.2.2.2.1)).bind fun y5=>(r0i y5.2.1).bind fun y6=>some (y5.2.2,y6,(y5.1,x.1.1.2),x.1.2)) (cond (decide (x.2.1=4)) ((u6d (x.1.1.1,x.2.2.1,x.2.2.2.1,x.2.2.2.2.1,false)).bind fun y7=>some (y7.2,(⟨#[]⟩:Hs),(y7.1,x.1.1.2),x.1.2)) ((u6d (x.1.1.1,x.2.2.1,x.2.2.2.1,(⟨#[]⟩:Hs),true)).bind fun y8=>some (y8.2,(⟨#[]⟩:Hs),(y8.1,x.1.1.2),x.1.2)))))
theorem o53:u92=q87:=zC 375 func375
def s60(x:d3q):Ht p22:=zK 276 x
def r9c (x:d3q):Ht p22:=(((s1s x.1).bind fun y1=>cond (!y1) (some true) ((u0t (x.2.1,0,1)).bind fun y2=>some (!y2))):La).bind fun j3=>cond j3 ((u0w x.1).bind fun y4=>some (y4,false)) ((s8v x).bind fun y5=>cond (!y5.2) ((u0w x.1).bind fun y6=>some (y6,false)) (some (y5.1,true)))
theorem p81:s60=r9c:=zC 276 func276
def u5p(x:c4w):Ht p22:=zK 164 x
def r84 (x:c4w):Ht p22:=(t08 x.1).bind fun y1=>(s60 (x.1,y1,x.2)).bind fun y2=>some y2
theorem p8t:u5p=r84:=zC 164 func164
def s02(x:c1e):Ht t0z:=zK 432 x
def t4m(g:Z97->Ht (c15⊕Unit))(x:Z97):Ht (c15⊕Unit):=((cond (decide (x.2.2.2.2.2.2<(x.2.2.1.2.length:Int))) (some (decide (x.2.2.2.2.2.2<(x.1.length:Int)))) (some false)):La).bind fun j3=>cond j3 (cond (y4o x.2.2.2.2.2.2 x.1.length) (cond (!decide ((Int.tmod (rdL (Ty.int .i64) x.1 x.2.2.2.2.2.2.toNat) (2:Int))=0)) (g (x.1,x.2.1,x.2.2.1,x.2.2.2.1,x.2.2.2.2.1,x.2.2.2.2.2.2,i64.wrap (x.2.2.2.2.2.2+1))) (g (x.1,x.2.1,x.2.2.1,x.2.2.2.1,x.2.2.2.2.1,x.2.2.2.2.2.1,i64.wrap (x.2.2.2.2.2.2+1)))) none) (some (.inl (x.1,x.2.1,x.2.2.1,x.2.2.2.1,x.2.2.2.2.1,x.2.2.2.2.2.1)))
def u6y:=lpW _ _ t4m
theorem r21 x:u6y x=t4m u6y x:=zW r1x 432 f432 6 93 x
def t1u(g:Z98->Ht d39)(x:Z98):Ht d39:=cond (decide (x.2.2.2.2.2.2<=x.2.2.2.2.1)) (cond (y4o x.2.2.2.2.2.2 x.1.length) (cond (decide ((Int.tmod (rdL (Ty.int .i64) x.1 x.2.2.2.2.2.2.toNat) (2:Int))=0)) (g (x.1,x.2.1,x.2.2.1,x.2.2.2.1,x.2.2.2.2.1,x.2.2.2.2.2.1,i64.wrap (x.2.2.2.2.2.2+1))) (cond (y4o x.2.2.2.2.2.2 x.2.1.2.length) (cond (decide (x.2.2.2.2.2.2=x.2.2.2.2.1)) (cond (decide (0<=(0:Int))&&decide ((0:Int)<=x.2.2.2.2.2.1)&&decide (x.2.2.2.2.2.1<=((rdL q2u x.2.1.2 x.2.2.2.2.2.2.toNat).2.size:Int))) (cond (y4o (rdL q2u x.2.1.2 x.2.2.2.2.2.2.toNat).1 x.2.2.2.1.1.length) (cond (decide (0<=x.2.2.2.2.2.1)&&decide (x.2.2.2.2.2.1<=((rdL Ty.str x.2.2.2.1.1 ((rdL q2u x.2.1.2 x.2.2.2.2.2.2.toNat).1).toNat).size:Int))&&decide (((rdL Ty.str x.2.2.2.1.1 ((rdL q2u x.2.1.2 x.2.2.2.2.2.2.toNat).1).toNat).size:Int)<=((rdL Ty.str x.2.2.2.1.1 ((rdL q2u x.2.1.2 x.2.2.2.2.2.2.toNat).1).toNat).size:Int))) (cond (decide (((rdL q2u x.2.1.2 x.2.2.2.2.2.2.toNat).2.extract (0:Int).toNat x.2.2.2.2.2.1.toNat).size+((rdL Ty.str x.2.2.2.1.1 ((rdL q2u x.2.1.2 x.2.2.2.2.2.2.toNat).1).toNat).extract x.2.2.2.2.2.1.toNat ((rdL Ty.str x.2.2.2.1.1 ((rdL q2u x.2.1.2 x.2.2.2.2.2.2.toNat).1).toNat).size:Int).toNat).size<=140737488355328)) (cond (y4o (rdL q2u x.2.1.2 x.2.2.2.2.2.2.toNat).1 x.2.2.2.1.1.length) (g (x.1,x.2.1,x.2.2.1,(x.2.2.2.1.1.set ((rdL q2u x.2.1.2 x.2.2.2.2.2.2.toNat).1).toNat (((rdL q2u x.2.1.2 x.2.2.2.2.2.2.toNat).2.extract (0:Int).toNat x.2.2.2.2.2.1.toNat)++((rdL Ty.str x.2.2.2.1.1 ((rdL q2u x.2.1.2 x.2.2.2.2.2.2.toNat).1).toNat).extract x.2.2.2.2.2.1.toNat ((rdL Ty.str x.2.2.2.1.1 ((rdL q2u x.2.1.2 x.2.2.2.2.2.2.toNat).1).toNat).size:Int).toNat)),x.2.2.2.1.2),x.2.2.2.2.1,x.2.2.2.2.2.1,i64.wrap (x.2.2.2.2.2.2+1))) none) none) none) none) none) (cond (y4o (rdL q2u x.2.1.2 x.2.2.2.2.2.2.toNat).1 x.2.2.2.1.1.length) (g (x.1,x.2.1,x.2.2.1,(x.2.2.2.1.1.set ((rdL q2u x.2.1.2 x.2.2.2.2.2.2.toNat).1).toNat (rdL q2u x.2.1.2 x.2.2.2.2.2.2.toNat).2,x.2.2.2.1.2),x.2.2.2.2.1,x.2.2.2.2.2.1,i64.wrap (x.2.2.2.2.2.2+1))) none)) none)) none) (some (.inl (x.2.2.1,x.2.2.2.1)))
def u54:=lpW _ _ t1u
theorem r0t x:u54 x=t1u u54 x:=zW s9n 432 f432 14 93 x
def r86 (x:c1e):Ht t0z:=(u0w x.1).bind fun y1=>(t2h x.1).bind fun y2=>cond (!y2) (some y1) ((u6y (x.2.1,x.2.2,x.1,(([]:Lh),([]:Ll)),y1,(- 1:Int),0)).bind fun|.inl o5=>cond (decide ((Int.tmod o5.2.1 (65:Int))<0)) ((u54 (o5.1,o5.2.2.1,o5.2.2.2.1,o5.2.2.2.2.1,o5.2.2.2.2.2,i64.wrap ((i64.wrap ((Int.tmod o5.2.1 (65:Int))+64))+1),0)).bind fun|.inl o7=>some (o7.2.1,([]:Ll))|.inr z8=>none) ((u54 (o5.1,o5.2.2.1,o5.2.2.2.1,o5.2.2.2.2.1,o5.2.2.2.2.2,Int.tmod o5.2.1 (65:Int),0)).bind fun|.inl o10=>some (o10.2.1,([]:Ll))|.inr z11=>none)|.inr z12=>none)
theorem p8v:s02=r86:=zC 432 func432
def s6z(x:c3m):Ht t0z:=zK 407 x
def r87 (x:c3m):Ht t0z:=(u5p (x.1,x.2.1)).bind fun y1=>cond (!y1.2) ((u0w x.1).bind fun y2=>some y2) ((t08 x.1).bind fun y3=>(s3g (x.1,y3,x.2.1)).bind fun y4=>cond (decide (x.2.2.1=0)) ((s02 (y4.1,x.2.2.2)).bind fun y5=>some y5) (cond (decide (x.2.2.1=1)) ((u33 y4.1).bind fun y6=>(t36 (x.1,y3)).bind fun y7=>(t59 (y6,y3,i64.wrap (y7+1))).bind fun y8=>(s02 (y8.1,x.2.2.2)).bind fun y9=>some y9) (some y1.1)))
theorem p8w:s6z=r87:=zC 407 func407
def s61(x:d6r):La:=zK 408 x
def t4v(g:c43->Ht r04)(x:c43):Ht r04:=cond (decide (x.2.2<(x.1.length:Int))) (cond (y4o x.2.2 x.1.length) (cond (y4o x.2.2 x.2.1.length) (cond (!z7n (rdL Ty.str x.1 x.2.2.toNat) (rdL Ty.str x.2.1 x.2.2.toNat)) (some (.inr false)) (g (x.1,x.2.1,i64.wrap (x.2.2+1)))) none) none) (some (.inl ()))
def t43:=lpW _ _ t4v
theorem r3c x:t43 x=t4v t43 x:=zW r2f 408 f408 6 32 x
def r9g (x:d6r):La:=(t57 x.1).bind fun y1=>(t57 x.2).bind fun y2=>cond (!decide ((y1.length:Int)=(y2.length:Int))) (some false) ((t43 (y1,y2,0)).bind fun|.inl o4=>some true|.inr z5=>some z5)
theorem p85:s61=r9g:=zC 408 func408
def u91(x:c29):Ht t0z:=zK 376 x
def q86 (x:c29):Ht t0z:=(s6z (x.1,(⟨#[120]⟩:Hs),0,x.2.2.2.2.2,x.2.2.1)).bind fun y1=>(s61 (y1,x.1)).bind fun y2=>cond (!y2) ((u0w x.1).bind fun y3=>some y3) (some y1)
theorem o52:u91=q86:=zC 376 func376
def u4j(x:Z16):Ht Z45:=zK 411 x
def r43 (x:Z16):Ht Z45:=cond (!decide (x.1.1.1.1.2.2.2.1=(i64.wrap (x.2.1+1)))) (some x.1) ((u00 x.2.2).bind fun y1=>cond (Nat.ble (([]:Lc).length+x.1.2.1.length) z7v) (cond (Nat.ble ((([]:Lc)++x.1.2.1).length+([(y1.1,3,y1.2.2.1,x.1.1.1.1.2.2.2.1,y1.2.2.2.2.1,y1.2.2.2.2.2.1,y1.2.2.2.2.2.2.1,(⟨#[]⟩:Hs))]:Lc).length) z7v) (some (x.1.1,(([]:Lc)++x.1.2.1)++([(y1.1,3,y1.2.2.1,x.1.1.1.1.2.2.2.1,y1.2.2.2.2.1,y1.2.2.2.2.2.1,y1.2.2.2.2.2.2.1,(⟨#[]⟩:Hs))]:Lc),x.1.2.2)) none) none)
theorem p50:u4j=r43:=zC 411 func411
def u01(x:Z96):Ht s8d:=zK 434 x
def s2c(g:Z66->Ht (Z76⊕Unit))(x:Z66):Ht (Z76⊕Unit):=cond (decide (x.2.2.2<(x.1.2.length:Int))) (cond (y4o x.2.2.2 x.1.2.length) (cond (!decide ((rdL u0a x.1.2 x.2.2.2.toNat).1=x.2.1)) (cond (y4o x.2.2.2 x.1.2.length) (cond (Nat.ble (x.2.2.1.length+([(rdL u0a x.1.2 x.2.2.2.toNat)]:Lc).length) z7v) (g (x.1,x.2.1,x.2.2.1++([(rdL u0a x.1.2 x.2.2.2.toNat)]:Lc),i64.wrap (x.2.2.2+1))) none) none) (g (x.1,x.2.1,x.2.2.1,i64.wrap (x.2.2.2+1)))) none) (some (.inl (x.1,x.2.2.1)))
def t5t:=lpW _ _ s2c
theorem q6i x:t5t x=s2c t5t x:=zW q5c 434 f434 2 49 x
def p20 (x:Z96):Ht s8d:=(t5t (x.1,x.2,([]:Lc),0)).bind fun|.inl o2=>((u9u (o2.1.1,o2.2)).bind fun y3=>some (y3,o2.2))|.inr z4=>none
theorem o9y:u01=p20:=zC 434 func434
def u9t(x:Z96):Ht Z96:=zK 412 x
def p64 (x:Z96):Ht Z96:=(u0p x.1).bind fun y1=>(u6c x).bind fun y2=>cond (decide (y2<0)) (some (y1,1)) ((u01 (y1,x.2)).bind fun y3=>some (y3,0))
theorem j2f:u9t=p64:=zC 412 func412
def s5h(x:u8l):La:=zK 210 x
def q82 (x:u8l):La:=((cond (decide ((x.2.1.length:Int)>=(12:Int))) (some true) (cond (decide ((x.1.length:Int)>(100:Int))) (some true) (some (decide (x.2.2.2.1>=9999))))):La).bind fun j1=>some j1
theorem o5y:s5h=q82:=zC 210 func210
def t73(x:u8l):Ht q2i:=zK 441 x
def p2y (x:u8l):Ht q2i:=cond (Nat.ble (([]:Lc).length+x.2.1.length) z7v) (cond (Nat.ble ((([]:Lc)++x.2.1).length+x.2.2.1.length) z7v) (some ((([]:Lc)++x.2.1)++x.2.2.1)) none) none
theorem o9w:t73=p2y:=zC 441 func441
def s57(x:d9m):La:=zK 363 x
def s4m(g:d3r->Ht (d9h⊕Bool))(x:d3r):Ht (d9h⊕Bool):=cond (decide (x.2.2.2<(x.2.1.length:Int))) (cond (y4o x.2.2.1 x.1.length) (cond (y4o x.2.2.2 x.2.1.length) (cond (z7n (rdL u2r x.1 x.2.2.1.toNat).1 (rdL u2r x.2.1 x.2.2.2.toNat).1) (some (.inr true)) (g (x.1,x.2.1,x.2.2.1,i64.wrap (x.2.2.2+1)))) none) none) (some (.inl (x.1,x.2.1,x.2.2.1)))
def t8p:=lpW _ _ s4m
theorem q99 x:t8p x=s4m t8p x:=zW q9s 363 f363 5 30 x
def s4l(g:d9h->Ht r04)(x:d9h):Ht r04:=cond (decide (x.2.2<(x.1.length:Int))) ((t8p (x.1,x.2.1,x.2.2,0)).bind fun|.inl o2=>g (o2.1,o2.2.1,i64.wrap (o2.2.2+1))|.inr z3=>some (.inr z3)) (some (.inl ()))
def s4u:=lpW _ _ s4l
theorem q98 x:s4u x=s4l s4u x:=zW q9r 363 f363 2 30 x
def p66 (x:d9m):La:=(s4u (x.1,x.2,0)).bind fun|.inl o5=>some false|.inr z6=>some z6
theorem j2h:s57=p66:=zC 363 func363
def r32(x:j8v):La:=zK 442 x
def t9t(g:d1m->Ht r04)(x:d1m):Ht r04:=cond (decide (x.2.2<(x.1.length:Int))) (cond (y4o x.2.2 x.1.length) (((cond (!decide ((rdL u0a x.1 x.2.2.toNat).1=x.2.1.1)) (cond (decide ((rdL u0a x.1 x.2.2.toNat).2.1=2)) ((s57 ((rdL u0a x.1 x.2.2.toNat).2.2.2.2.2.1,x.2.1.2.2.2.2.2.1)).bind fun y1=>some y1) (cond (decide ((rdL u0a x.1 x.2.2.toNat).2.1=3)) (cond (decide ((rdL u0a x.1 x.2.2.toNat).2.2.2.1>x.2.1.2.2.1)) ((s57 ((rdL u0a x.1 x.2.2.toNat).2.2.2.2.2.1,x.2.1.2.2.2.2.2.1)).bind fun y2=>some y2) (some false)) (some false))) (some false)):La).bind fun j3=>cond j3 (some (.inr true)) (g (x.1,x.2.1,i64.wrap (x.2.2+1)))) none) (some (.inl ()))
def t26:=lpW _ _ t9t
theorem q1n x:t26 x=t9t t26 x:=zW q0b 442 f442 2 46 x
def q71 (x:j8v):La:=(t26 (x.2,x.1,0)).bind fun|.inl o5=>some false|.inr z6=>some z6
theorem o4y:r32=q71:=zC 442 func442
def r72(x:j8v):La:=zK 444 x
def s8c(g:d1m->Ht r04)(x:d1m):Ht r04:=cond (decide (x.2.2<(x.1.length:Int))) (((cond (y4o x.2.2 x.1.length) (cond (decide ((rdL u0a x.1 x.2.2.toNat).2.1=2)) (cond (y4o x.2.2 x.1.length) ((u3o (rdL u0a x.1 x.2.2.toNat,x.2.1)).bind fun y1=>some y1) none) (cond (y4o x.2.2 x.1.length) (cond (decide ((rdL u0a x.1 x.2.2.toNat).2.1=3)) (cond (y4o x.2.2 x.1.length) ((u3o (rdL u0a x.1 x.2.2.toNat,x.2.1)).bind fun y2=>some y2) none) (some false)) none)) none):La).bind fun j3=>cond j3 (some (.inr true)) (g (x.1,x.2.1,i64.wrap (x.2.2+1)))) (some (.inl ()))
def s2k:=lpW _ _ s8c
theorem p4m x:s2k x=s8c s2k x:=zW p31 444 f444 2 34 x
def o0p (x:j8v):La:=(s2k (x.2,x.1,0)).bind fun|.inl o5=>some false|.inr z6=>some z6
theorem j46:r72=o0p:=zC 444 func444
def s8p(x:j8v):La:=zK 443 x
def t2r(g:Z53->Ht (d1m⊕Bool))(x:Z53):Ht (d1m⊕Bool):=((cond (decide (x.2.2.2.2<(x.1.length:Int))) (cond (decide (x.2.2.2.1.2.1=2)) ((u3o (x.2.2.2.1,x.2.1)).bind fun y10=>some y10) (some false)) (some false)):La).bind fun j11=>cond j11 (cond (y4o x.2.2.2.2 x.1.length) (((cond (decide ((rdL u0a x.1 x.2.2.2.2.toNat).2.1=2)) (cond (!decide ((rdL u0a x.1 x.2.2.2.2.toNat).1=x.2.1.1)) ((u3o (rdL u0a x.1 x.2.2.2.2.toNat,x.2.2.2.1)).bind fun y12=>some y12) (some false)) (some false)):La).bind fun j13=>cond j13 (some (.inr true)) (g (x.1,x.2.1,x.2.2.1,x.2.2.2.1,i64.wrap (x.2.2.2.2+1)))) none) (some (.inl (x.1,x.2.1,x.2.2.1)))
def u81:=lpW _ _ t2r
theorem s66 x:u81 x=t2r u81 x:=zW q0c 443 f443 12 92 x
def s15(g:d1m->Ht r04)(x:d1m):Ht r04:=cond (decide (x.2.2<(x.1.length:Int))) (cond (y4o x.2.2 x.1.length) (((cond (decide ((rdL u0a x.1 x.2.2.toNat).2.1=2)) (cond (rdL u0a x.1 x.2.2.toNat).2.2.2.2.2.2.1 ((u3o (x.2.1,rdL u0a x.1 x.2.2.toNat)).bind fun y4=>some y4) (some false)) (cond (decide ((rdL u0a x.1 x.2.2.toNat).2.1=3)) (cond (rdL u0a x.1 x.2.2.toNat).2.2.2.2.2.2.1 ((u3o (x.2.1,rdL u0a x.1 x.2.2.toNat)).bind fun y5=>some y5) (some false)) (some false))):La).bind fun j6=>cond j6 (some (.inr true)) (((cond (decide ((rdL u0a x.1 x.2.2.toNat).2.1=2)) ((u3o (rdL u0a x.1 x.2.2.toNat,x.2.1)).bind fun y7=>cond y7 ((u3o (x.2.1,rdL u0a x.1 x.2.2.toNat)).bind fun y8=>some y8) (some false)) (some false)):La).bind fun j9=>cond j9 (some (.inr true)) ((u81 (x.1,x.2.1,x.2.2,rdL u0a x.1 x.2.2.toNat,0)).bind fun|.inl o15=>g (o15.1,o15.2.1,i64.wrap (o15.2.2+1))|.inr z16=>some (.inr z16)))) none) (some (.inl ()))
def t5o:=lpW _ _ s15
theorem q6a x:t5o x=s15 t5o x:=zW q41 443 f443 4 92 x
def p18 (x:j8v):La:=(((r72 x).bind fun y1=>cond y1 ((s58 x).bind fun y2=>some y2) (some false)):La).bind fun j3=>cond j3 (some true) ((t5o (x.2,x.1,0)).bind fun|.inl o18=>some false|.inr z19=>some z19)
theorem o87:s8p=p18:=zC 443 func443
def r2o(x:Z96):Lj:=zK 439 x
def p62 (x:Z96):Lj:=(u6c x).bind fun y1=>cond (decide (y1<0)) (some (1:Int)) ((t73 x.1.1).bind fun y2=>cond (y4o y1 x.1.2.length) ((r32 (rdL u0a x.1.2 y1.toNat,y2)).bind fun y3=>cond y3 (some (4:Int)) (cond (y4o y1 x.1.2.length) ((s8p (rdL u0a x.1.2 y1.toNat,y2)).bind fun y4=>cond y4 (some (5:Int)) ((s5h x.1.1).bind fun y5=>cond y5 (some (3:Int)) (some (0:Int)))) none)) none)
theorem j2d:r2o=p62:=zC 439 func439
def s8o(x:Z96):Ht Z15:=zK 433 x
def p17 (x:Z96):Ht Z15:=(u0p x.1).bind fun y1=>(r2o x).bind fun y2=>cond (decide (y2=1)) (some (y1,(0,(0,0,0,0,([]:Lg),([]:Li),false,(⟨#[]⟩:Hs)),(⟨#[]⟩:Hs),false,([]:Lf),([]:Lc),([]:Lc),0,0),y2)) (cond (!decide (y2=0)) ((u01 (y1,x.2)).bind fun y3=>some (y3,(0,(0,0,0,0,([]:Lg),([]:Li),false,(⟨#[]⟩:Hs)),(⟨#[]⟩:Hs),false,([]:Lf),([]:Lc),([]:Lc),0,0),y2)) ((u6c x).bind fun y4=>cond (y4o y4 x.1.2.length) ((u8a (x.1.1,rdL u0a x.1.2 y4.toNat)).bind fun y5=>cond (y4o (i64.wrap ((y5.2.1.length:Int) - (1:Int))) y5.2.1.length) ((u00 (rdL u0a y5.2.1 (i64.wrap ((y5.2.1.length:Int) - (1:Int))).toNat)).bind fun y6=>(u01 ((y5,y1.2),x.2)).bind fun y7=>some (y7,(1,y6,(⟨#[]⟩:Hs),false,([]:Lf),([]:Lc),([]:Lc),0,0),0)) none) none))
theorem o86:s8o=p17:=zC 433 func433
def t3x(x:Z7):Ht Z42:=zK 10024 x
def r9o (x:Z7):Ht Z42:=(u29 x.2).bind fun y1=>cond (!y1.2) (some (false,x.1)) ((u5p (x.1.1.2,y1.1)).bind fun y2=>cond (!y2.2) ((t6a x.1.1.2).bind fun y3=>cond (!y3.2) (some (false,x.1)) ((u5p (y3.1,y1.1)).bind fun y4=>cond y4.2 (some (y4.2,(x.1.1.1,y4.1),x.1.2)) (some (y4.2,x.1)))) (cond y2.2 (some (y2.2,(x.1.1.1,y2.1),x.1.2)) (some (y2.2,x.1))))
theorem p9d:t3x=r9o:=zC 10024 func83
def t5b(x:Z44):Ht Z43:=zK 10023 x
def r1l (x:Z44):Ht Z43:=(s8o (x.1.1.1,x.2)).bind fun y1=>cond (decide (y1.2.2=0)) ((t3x (x.1,y1.2.1)).bind fun y2=>cond (!y2.1) ((u0p y2.2.1.1).bind fun y3=>(u01 (y3,x.2)).bind fun y4=>some (3,(y4,y2.2.1.2),y2.2.2)) (some (y1.2.2,(y1.1,y2.2.1.2),y2.2.2))) (some (y1.2.2,(y1.1,x.1.1.2),x.1.2))
theorem p3t:t5b=r1l:=zC 10023 func410
def s29(x:j8v):La:=zK 440 x
def u9d(g:Z51->Ht (d8s⊕Bool))(x:Z51):Ht (d8s⊕Bool):=cond (decide (x.2.2.2.2.2<(x.1.length:Int))) (((cond (y4o x.2.2.2.2.2 x.1.length) (cond (decide ((rdL u0a x.1 x.2.2.2.2.2.toNat).2.1=2)) (cond (y4o x.2.2.2.2.2 x.1.length) (cond (!decide ((rdL u0a x.1 x.2.2.2.2.2.toNat).1=x.2.1.1)) (cond (y4o x.2.2.2.2.2 x.1.length) ((u3o (x.2.2.2.2.1,rdL u0a x.1 x.2.2.2.2.2.toNat)).bind fun y5=>some y5) none) (some false)) none) (some false)) none):La).bind fun j6=>cond j6 (some (.inr true)) (g (x.1,x.2.1,x.2.2.1,x.2.2.2.1,x.2.2.2.2.1,i64.wrap (x.2.2.2.2.2+1)))) (some (.inl (x.1,x.2.1,x.2.2.1,x.2.2.2.1)))
def u6i:=lpW _ _ u9d
theorem s6h x:u6i x=u9d u6i x:=zW s5z 440 f440 12 65 x
def t0d(g:d8s->Ht r04)(x:d8s):Ht r04:=cond (decide (x.2.2.2<(x.1.length:Int))) (cond (y4o x.2.2.2 x.1.length) (((cond (!decide ((rdL u0a x.1 x.2.2.2.toNat).2.1=2)) (some true) ((u3o (x.2.1,rdL u0a x.1 x.2.2.2.toNat)).bind fun y3=>some (!y3))):La).bind fun j4=>cond j4 (g (x.1,x.2.1,x.2.2.1,i64.wrap (x.2.2.2+1))) (cond x.2.2.1 (some (.inr true)) ((u6i (x.1,x.2.1,x.2.2.1,x.2.2.2,rdL u0a x.1 x.2.2.2.toNat,0)).bind fun|.inl o8=>g (o8.1,o8.2.1,o8.2.2.1,i64.wrap (o8.2.2.2+1))|.inr z9=>some (.inr z9)))) none) (some (.inl ()))
def u7n:=lpW _ _ t0d
theorem s75 x:u7n x=t0d u7n x:=zW s7n 440 f440 5 65 x
def r1f (x:j8v):La:=(s8p x).bind fun y1=>cond y1 (some true) ((r72 x).bind fun y2=>(u7n (x.2,x.1,y2,0)).bind fun|.inl o11=>some false|.inr z12=>some z12)
theorem p3l:s29=r1f:=zC 440 func440
def s48(x:Z86):Ht Z15:=zK 435 x
def q8a (x:Z86):Ht Z15:=(u0p x.1).bind fun y1=>(u6c (x.1,x.2.1)).bind fun y2=>cond (decide (y2<0)) (some (y1,(0,(0,0,0,0,([]:Lg),([]:Li),false,(⟨#[]⟩:Hs)),(⟨#[]⟩:Hs),false,([]:Lf),([]:Lc),([]:Lc),0,0),1)) ((u79 x.2.2).bind fun y3=>cond (!y3) (some (y1,(0,(0,0,0,0,([]:Lg),([]:Li),false,(⟨#[]⟩:Hs)),(⟨#[]⟩:Hs),false,([]:Lf),([]:Lc),([]:Lc),0,0),2)) ((u18 (x.1.1,x.2.2)).bind fun y4=>cond (decide (y4>=0)) (some (y1,(0,(0,0,0,0,([]:Lg),([]:Li),false,(⟨#[]⟩:Hs)),(⟨#[]⟩:Hs),false,([]:Lf),([]:Lc),([]:Lc),0,0),6)) ((r2o (x.1,x.2.1)).bind fun y5=>((cond (decide (y5=0)) (cond (y4o y2 x.1.2.length) ((t73 x.1.1).bind fun y6=>(s29 (rdL u0a x.1.2 y2.toNat,y6)).bind fun y7=>some y7) none) (some false)):La).bind fun j8=>cond j8 (((cond (decide ((5:Int)=(0:Int))) (some (decide ((x.1.1.2.2.1.length:Int)>=(3:Int)))) (some false)):La).bind fun j9=>cond j9 (cond (!decide ((3:Int)=(0:Int))) ((u01 (y1,x.2.1)).bind fun y10=>some (y10,(0,(0,0,0,0,([]:Lg),([]:Li),false,(⟨#[]⟩:Hs)),(⟨#[]⟩:Hs),false,([]:Lf),([]:Lc),([]:Lc),0,0),3)) (cond (y4o y2 x.1.2.length) ((u7g (x.1.1,rdL u0a x.1.2 y2.toNat,x.2.2)).bind fun y11=>(u18 (y11,x.2.2)).bind fun y12=>cond (y4o y12 y11.2.2.1.length) ((u00 (rdL u0a y11.2.2.1 y12.toNat)).bind fun y13=>(u01 ((y11,y1.2),x.2.1)).bind fun y14=>some (y14,(2,y13,(⟨#[]⟩:Hs),false,([]:Lf),([]:Lc),([]:Lc),0,0),0)) none) none)) (cond (!decide ((5:Int)=(0:Int))) ((u01 (y1,x.2.1)).bind fun y15=>some (y15,(0,(0,0,0,0,([]:Lg),([]:Li),false,(⟨#[]⟩:Hs)),(⟨#[]⟩:Hs),false,([]:Lf),([]:Lc),([]:Lc),0,0),5)) (cond (y4o y2 x.1.2.length) ((u7g (x.1.1,rdL u0a x.1.2 y2.toNat,x.2.2)).bind fun y16=>(u18 (y16,x.2.2)).bind fun y17=>cond (y4o y17 y16.2.2.1.length) ((u00 (rdL u0a y16.2.2.1 y17.toNat)).bind fun y18=>(u01 ((y16,y1.2),x.2.1)).bind fun y19=>some (y19,(2,y18,(⟨#[]⟩:Hs),false,([]:Lf),([]:Lc),([]:Lc),0,0),0)) none) none))) (((cond (decide (y5=0)) (some (decide ((x.1.1.2.2.1.length:Int)>=(3:Int)))) (some false)):La).bind fun j20=>cond j20 (cond (!decide ((3:Int)=(0:Int))) ((u01 (y1,x.2.1)).bind fun y21=>some (y21,(0,(0,0,0,0,([]:Lg),([]:Li),false,(⟨#[]⟩:Hs)),(⟨#[]⟩:Hs),false,([]:Lf),([]:Lc),([]:Lc),0,0),3)) (cond (y4o y2 x.1.2.length) ((u7g (x.1.1,rdL u0a x.1.2 y2.toNat,x.2.2)).bind fun y22=>(u18 (y22,x.2.2)).bind fun y23=>cond (y4o y23 y22.2.2.1.length) ((u00 (rdL u0a y22.2.2.1 y23.toNat)).bind fun y24=>(u01 ((y22,y1.2),x.2.1)).bind fun y25=>some (y25,(2,y24,(⟨#[]⟩:Hs),false,([]:Lf),([]:Lc),([]:Lc),0,0),0)) none) none)) (cond (!decide (y5=0)) ((u01 (y1,x.2.1)).bind fun y26=>some (y26,(0,(0,0,0,0,([]:Lg),([]:Li),false,(⟨#[]⟩:Hs)),(⟨#[]⟩:Hs),false,([]:Lf),([]:Lc),([]:Lc),0,0),y5)) (cond (y4o y2 x.1.2.length) ((u7g (x.1.1,rdL u0a x.1.2 y2.toNat,x.2.2)).bind fun y27=>(u18 (y27,x.2.2)).bind fun y28=>cond (y4o y28 y27.2.2.1.length) ((u00 (rdL u0a y27.2.2.1 y28.toNat)).bind fun y29=>(u01 ((y27,y1.2),x.2.1)).bind fun y30=>some (y30,(2,y29,(⟨#[]⟩:Hs),false,([]:Lf),([]:Lc),([]:Lc),0,0),0)) none) none))))))
theorem o47:s48=q8a:=zC 435 func435
def s1e(x:Z37):Ht Z43:=zK 10025 x
def s9e (x:Z37):Ht Z43:=(s48 (x.1.1.1,x.2)).bind fun y1=>cond (decide (y1.2.2=0)) ((t3x (x.1,y1.2.1)).bind fun y2=>cond (!y2.1) ((u0p y2.2.1.1).bind fun y3=>(u01 (y3,x.2.1)).bind fun y4=>some (3,(y4,y2.2.1.2),y2.2.2)) (some (y1.2.2,(y1.1,y2.2.1.2),y2.2.2))) (some (y1.2.2,(y1.1,x.1.1.2),x.1.2))
theorem p0o:s1e=s9e:=zC 10025 func413
def t2i(x:Z84):Ht Z15:=zK 113 x
def r7j (x:Z84):Ht Z15:=(u0p x.1).bind fun y1=>(u18 (x.1.1,x.2.1)).bind fun y2=>cond (decide (y2<0)) (some (y1,(0,(0,0,0,0,([]:Lg),([]:Li),false,(⟨#[]⟩:Hs)),(⟨#[]⟩:Hs),false,([]:Lf),([]:Lc),([]:Lc),0,0),1)) (((cond x.2.2 ((s5h x.1.1).bind fun y3=>some y3) (some false)):La).bind fun j4=>cond j4 (some (y1,(0,(0,0,0,0,([]:Lg),([]:Li),false,(⟨#[]⟩:Hs)),(⟨#[]⟩:Hs),false,([]:Lf),([]:Lc),([]:Lc),0,0),3)) (cond x.2.2 (cond (y4o y2 x.1.1.2.2.1.length) ((u8a (x.1.1,rdL u0a x.1.1.2.2.1 y2.toNat)).bind fun y5=>(u9u (y5,y1.2)).bind fun y6=>some ((y6,y1.2),(3,(0,0,0,0,([]:Lg),([]:Li),false,(⟨#[]⟩:Hs)),x.2.1,x.2.2,([]:Lf),([]:Lc),([]:Lc),0,0),0)) none) ((s46 (x.1.1,x.2.1)).bind fun y7=>(u9u (y7,y1.2)).bind fun y8=>some ((y8,y1.2),(3,(0,0,0,0,([]:Lg),([]:Li),false,(⟨#[]⟩:Hs)),x.2.1,x.2.2,([]:Lf),([]:Lc),([]:Lc),0,0),0))))
theorem p3i:t2i=r7j:=zC 113 func113
def u66(x:Z35):Ht Z43:=zK 10026 x
def r1m (x:Z35):Ht Z43:=(t2i (x.1.1.1,x.2)).bind fun y1=>cond (decide (y1.2.2=0)) ((t3x (x.1,y1.2.1)).bind fun y2=>cond (!y2.1) (some (3,y2.2)) (some (y1.2.2,(y1.1,y2.2.1.2),y2.2.2))) (some (y1.2.2,(y1.1,x.1.1.2),x.1.2))
theorem p3u:u66=r1m:=zC 10026 func414
def t2k(x:Z26):Ht Z43:=zK 377 x
def p21 (x:Z26):Ht Z43:=cond (decide (x.2.1=6)) ((u6c (x.1.1.1,x.2.2.1)).bind fun y1=>cond (decide (y1>=0)) (cond (y4o y1 x.1.1.1.2.length) ((t5b (x.1,x.2.2.1)).bind fun y2=>(u4j (y2.2,x.1.1.1.1.2.2.2.1,rdL u0a x.1.1.1.2 y1.toNat)).bind fun y3=>some (y2.1,y3)) none) ((t5b (x.1,x.2.2.1)).bind fun y4=>(u4j (y4.2,x.1.1.1.1.2.2.2.1,0,0,0,0,([]:Lg),([]:Li),false,(⟨#[]⟩:Hs))).bind fun y5=>some (y4.1,y5))) (cond (decide (x.2.1=7)) ((u9t (x.1.1.1,x.2.2.1)).bind fun y6=>some (y6.2,(y6.1,x.1.1.2),x.1.2)) (cond (decide (x.2.1=8)) ((s1e (x.1,x.2.2.1,x.2.2.2.1)).bind fun y7=>some y7) ((u18 (x.1.1.1.1,x.2.2.2.1)).bind fun y8=>cond (decide (y8>=0)) (cond (y4o y8 x.1.1.1.1.2.2.1.length) ((u66 (x.1,x.2.2.2.1,decide (x.2.1=9))).bind fun y9=>(u4j (y9.2,x.1.1.1.1.2.2.2.1,rdL u0a x.1.1.1.1.2.2.1 y8.toNat)).bind fun y10=>some (y9.1,y10)) none) ((u66 (x.1,x.2.2.2.1,decide (x.2.1=9))).bind fun y11=>(u4j (y11.2,x.1.1.1.1.2.2.2.1,0,0,0,0,([]:Lg),([]:Li),false,(⟨#[]⟩:Hs))).bind fun y12=>some (y11.1,y12)))))
theorem o9z:t2k=p21:=zC 377 func377
def q5l(x:Z26):Ht Z36:=zK 343 x
def p7a (x:Z26):Ht Z36:=cond (decide (x.2.1=1)) (cond (decide (x.2.1=1)) ((u92 x).bind fun y1=>some y1) (cond (decide (x.2.1=11)) ((u2i x.1.1).bind fun y2=>cond (!y2.2) (some (3,(⟨#[]⟩:Hs),y2.1,x.1.2)) (some (0,(⟨#[]⟩:Hs),y2.1,x.1.2))) (cond (decide (x.2.1=12)) ((u91 (x.1.1.2,x.2)).bind fun y3=>(u5q y3).bind fun y4=>cond (!y4.2) (some (1,(⟨#[]⟩:Hs),x.1)) (some (0,(⟨#[]⟩:Hs),y4.1,x.1.2))) ((t2k x).bind fun y5=>some (y5.1,(⟨#[]⟩:Hs),y5.2))))) (cond (decide (x.2.1=2)) (cond (decide (x.2.1=2)) ((u92 x).bind fun y6=>some y6) (cond (decide (x.2.1=11)) ((u2i x.1.1).bind fun y7=>cond (!y7.2) (some (3,(⟨#[]⟩:Hs),y7.1,x.1.2)) (some (0,(⟨#[]⟩:Hs),y7.1,x.1.2))) (cond (decide (x.2.1=12)) ((u91 (x.1.1.2,x.2)).bind fun y8=>(u5q y8).bind fun y9=>cond (!y9.2) (some (1,(⟨#[]⟩:Hs),x.1)) (some (0,(⟨#[]⟩:Hs),y9.1,x.1.2))) ((t2k x).bind fun y10=>some (y10.1,(⟨#[]⟩:Hs),y10.2))))) (cond (decide (x.2.1=3)) (cond (decide (x.2.1=3)) ((u92 x).bind fun y11=>some y11) (cond (decide (x.2.1=11)) ((u2i x.1.1).bind fun y12=>cond (!y12.2) (some (3,(⟨#[]⟩:Hs),y12.1,x.1.2)) (some (0,(⟨#[]⟩:Hs),y12.1,x.1.2))) (cond (decide (x.2.1=12)) ((u91 (x.1.1.2,x.2)).bind fun y13=>(u5q y13).bind fun y14=>cond (!y14.2) (some (1,(⟨#[]⟩:Hs),x.1)) (some (0,(⟨#[]⟩:Hs),y14.1,x.1.2))) ((t2k x).bind fun y15=>some (y15.1,(⟨#[]⟩:Hs),y15.2))))) (cond (decide (x.2.1=4)) (cond (decide (x.2.1=4)) ((u92 x).bind fun y16=>some y16) (cond (decide (x.2.1=11)) ((u2i x.1.1).bind fun y17=>cond (!y17.2) (some (3,(⟨#[]⟩:Hs),y17.1,x.1.2)) (some (0,(⟨#[]⟩:Hs),y17.1,x.1.2))) (cond (decide (x.2.1=12)) ((u91 (x.1.1.2,x.2)).bind fun y18=>(u5q y18).bind fun y19=>cond (!y19.2) (some (1,(⟨#[]⟩:Hs),x.1)) (some (0,(⟨#[]⟩:Hs),y19.1,x.1.2))) ((t2k x).bind fun y20=>some (y20.1,(⟨#[]⟩:Hs),y20.2))))) (cond (decide (x.2.1=5)) ((u92 x).bind fun y21=>some y21) (cond (decide (x.2.1=11)) ((u2i x.1.1).bind fun y22=>cond (!y22.2) (some (3,(⟨#[]⟩:Hs),y22.1,x.1.2)) (some (0,(⟨#[]⟩:Hs),y22.1,x.1.2))) (cond (decide (x.2.1=12)) ((u91 (x.1.1.2,x.2)).bind fun y23=>(u5q y23).bind fun y24=>cond (!y24.2) (some (1,(⟨#[]⟩:Hs),x.1)) (some (0,(⟨#[]⟩:Hs),y24.1,x.1.2))) ((t2k x).bind fun y25=>some (y25.1,(⟨#[]⟩:Hs),y25.2))))))))
theorem j2l:q5l=p7a:=zC 343 func343
def r0d(x:d6x):Ht Z41:=zK 288 x
def t62(g:Z29->Ht (Z33⊕Unit))(x:Z29):Ht (Z33⊕Unit):=((cond (decide (x.2.2.2<(x.1.length:Int))) (some x.2.2.1) (some false)):La).bind fun j1=>cond j1 (cond (y4o x.2.2.2 x.1.length) ((r34 (rdL s31 x.1 x.2.2.2.toNat)).bind fun y2=>g (x.1,x.2.1,y2,i64.wrap (x.2.2.2+1))) none) (some (.inl (x.1,x.2.1,x.2.2.1)))
def t0u:=lpW _ _ t62
theorem r6x x:t0u x=t62 t0u x:=zW r5u 288 f288 3 58 x
def t4u(g:Z1->Ht (Z5⊕Unit))(x:Z1):Ht (Z5⊕Unit):=cond (decide (x.2.2.2<(x.1.length:Int))) (cond (y4o x.2.2.2 x.1.length) ((q5l (x.2.2.1,rdL s31 x.1 x.2.2.2.toNat)).bind fun y6=>cond (Nat.ble (y6.2.2.2.2.1.length+([y6.1]:Ld).length) z7v) (cond (Nat.ble (y6.2.2.2.2.2.length+([y6.2.1]:Lh).length) z7v) (g (x.1,x.2.1,(y6.2.2.1,y6.2.2.2.1,y6.2.2.2.2.1++([y6.1]:Ld),y6.2.2.2.2.2++([y6.2.1]:Lh)),i64.wrap (x.2.2.2+1))) none) none) none) (some (.inl (x.2.1,x.2.2.1)))
def u9j:=lpW _ _ t4u
theorem r3b x:u9j x=t4u u9j x:=zW r2e 288 f288 10 58 x
def q3t (x:d6x):Ht Z41:=(t0u (x,((((([]:Lf),([]:Lc),([]:Lc),0,0),([]:Lc)),([]:Lh),([]:Ll)),([]:Lc),([]:Ld),([]:Lh)),decide ((x.length:Int)<=(90:Int)),0)).bind fun|.inl o4=>cond (!o4.2.2) (some (((((([]:Lf),([]:Lc),([]:Lc),0,0),([]:Lc)),([]:Lh),([]:Ll)),([]:Lc),([]:Ld),([]:Lh)),false)) ((r0g ()).bind fun y5=>(u9j (o4.1,o4.2.1,y5,0)).bind fun|.inl o8=>some (o8.2,true)|.inr z9=>none)|.inr z10=>none
theorem o1w:r0d=q3t:=zC 288 func288
def u0n(x:c41):Ht d6v:=zK 344 x
def q8o (x:c41):Ht d6v:=(u0g (x.1,(x.2.length:Int))).bind fun y1=>cond (y4o y1.1 x.2.length) (some (rdL Ty.str x.2 y1.1.toNat,y1.2)) none
theorem o5l:u0n=q8o:=zC 344 func344
def t7z(x:d9k):Ht d62:=zK 345 x
def r40 (x:d9k):Ht d62:=(u0g (x.1,(x.2.length:Int))).bind fun y1=>cond (y4o y1.1 x.2.length) (some (rdL (Ty.int .i64) x.2 y1.1.toNat,y1.2)) none
theorem p5x:t7z=r40:=zC 345 func345
def u05(x:d4c):Ht (Bool×r3f):=zK 346 x
def q8n (x:d4c):Ht (Bool×r3f):=(u0g x).bind fun y1=>some (decide (y1.1=0),y1.2)
theorem o5k:u05=q8n:=zC 346 func346
def s64(x:r8i):Ht d6x:=zK 289 x
def t11(g:c2v->Ht (d81⊕Unit))(x:c2v):Ht (d81⊕Unit):=cond (decide (x.2.2.2.2.2.2.2<(x.2.2.2.2.1.length:Int))) (cond (y4o x.2.2.2.2.2.2.2 x.2.2.2.2.1.length) (cond (!decide ((rdL (Ty.int .i64) x.2.2.2.2.1 x.2.2.2.2.2.2.2.toNat)=x.2.2.2.2.2.1)) (cond (y4o x.2.2.2.2.2.2.2 x.2.2.2.2.1.length) (cond (Nat.ble (x.2.2.2.2.2.2.1.length+([(rdL (Ty.int .i64) x.2.2.2.2.1 x.2.2.2.2.2.2.2.toNat)]:Ld).length) z7v) (g (x.1,x.2.1,x.2.2.1,x.2.2.2.1,x.2.2.2.2.1,x.2.2.2.2.2.1,x.2.2.2.2.2.2.1++([(rdL (Ty.int .i64) x.2.2.2.2.1 x.2.2.2.2.2.2.2.toNat)]:Ld),i64.wrap (x.2.2.2.2.2.2.2+1))) none) none) (g (x.1,x.2.1,x.2.2.1,x.2.2.2.1,x.2.2.2.2.1,x.2.2.2.2.2.1,x.2.2.2.2.2.2.1,i64.wrap (x.2.2.2.2.2.2.2+1)))) none) (some (.inl (x.1,x.2.1,x.2.2.1,x.2.2.2.1,x.2.2.2.2.2.2.1)))
def u2m:=lpW _ _ t11
theorem r00 x:u2m x=t11 u2m x:=zW s9u 289 f289 34 189 x
def t4x(g:d81->Ht (d6x⊕Unit))(x:d81):Ht (d6x⊕Unit):=cond (decide ((x.2.2.1.length:Int)<x.2.1)) ((u0g (x.1,18)).bind fun y2=>cond (decide ((x.2.2.2.2.length:Int)>(0:Int))) ((u0g (y2.2,(x.2.2.2.2.length:Int))).bind fun y3=>cond (y4o y3.1 x.2.2.2.2.length) ((u0n (y3.2,([(⟨#[97]⟩:Hs),(⟨#[98]⟩:Hs),(⟨#[99]⟩:Hs)]:Lh))).bind fun y4=>((cond (decide ((x.2.2.2.2.length:Int)=(0:Int))) (some true) (cond (decide (y2.1<3)) (some (decide ((x.2.2.2.2.length:Int)<(4:Int)))) (some false))):La).bind fun j5=>cond j5 (cond (Nat.ble (x.2.2.1.length+([(1,0,(⟨#[]⟩:Hs),(⟨#[]⟩:Hs),([]:Ld))]:Lk).length) z7v) (cond (Nat.ble (([]:Ld).length+x.2.2.2.2.length) z7v) (cond (Nat.ble ((([]:Ld)++x.2.2.2.2).length+([x.2.2.2.1]:Ld).length) z7v) (g (y4.2,x.2.1,x.2.2.1++([(1,0,(⟨#[]⟩:Hs),(⟨#[]⟩:Hs),([]:Ld))]:Lk),i64.wrap (x.2.2.2.1+1),(([]:Ld)++x.2.2.2.2)++([x.2.2.2.1]:Ld))) none) none) none) (cond (decide (y2.1<6)) (cond (Nat.ble (x.2.2.1.length+([(2,rdL (Ty.int .i64) x.2.2.2.2 y3.1.toNat,y4.1,(⟨#[]⟩:Hs),([]:Ld))]:Lk).length) z7v) (g (y4.2,x.2.1,x.2.2.1++([(2,rdL (Ty.int .i64) x.2.2.2.2 y3.1.toNat,y4.1,(⟨#[]⟩:Hs),([]:Ld))]:Lk),x.2.2.2)) none) (cond (decide (y2.1=6)) (cond (Nat.ble (x.2.2.1.length+([(3,rdL (Ty.int .i64) x.2.2.2.2 y3.1.toNat,(⟨#[97]⟩:Hs),y4.1,([]:Ld))]:Lk).length) z7v) (g (y4.2,x.2.1,x.2.2.1++([(3,rdL (Ty.int .i64) x.2.2.2.2 y3.1.toNat,(⟨#[97]⟩:Hs),y4.1,([]:Ld))]:Lk),x.2.2.2)) none) (cond (decide (y2.1<10)) ((u0n (y4.2,([(⟨#[111,110,101]⟩:Hs),(⟨#[116,119,111]⟩:Hs),(⟨#[116,104,114,101,101]⟩:Hs)]:Lh))).bind fun y6=>cond (Nat.ble (x.2.2.1.length+([(4,rdL (Ty.int .i64) x.2.2.2.2 y3.1.toNat,y4.1,y6.1,([]:Ld))]:Lk).length) z7v) (g (y6.2,x.2.1,x.2.2.1++([(4,rdL (Ty.int .i64) x.2.2.2.2 y3.1.toNat,y4.1,y6.1,([]:Ld))]:Lk),x.2.2.2)) none) (cond (decide (y2.1=10)) (cond (Nat.ble (x.2.2.1.length+([(5,rdL (Ty.int .i64) x.2.2.2.2 y3.1.toNat,y4.1,(⟨#[]⟩:Hs),([]:Ld))]:Lk).length) z7v) (g (y4.2,x.2.1,x.2.2.1++([(5,rdL (Ty.int .i64) x.2.2.2.2 y3.1.toNat,y4.1,(⟨#[]⟩:Hs),([]:Ld))]:Lk),x.2.2.2)) none) (cond (decide (y2.1<14)) (cond (decide (y2.1=13)) ((u0n (y4.2,([(⟨#[112]⟩:Hs),(⟨#[113]⟩:Hs),(⟨#[114]⟩:Hs)]:Lh))).bind fun y7=>cond (Nat.ble (x.2.2.1.length+([(8,rdL (Ty.int .i64) x.2.2.2.2 y3.1.toNat,y7.1,(⟨#[]⟩:Hs),([]:Ld))]:Lk).length) z7v) ((u2m (y7.2,x.2.1,x.2.2.1++([(8,rdL (Ty.int .i64) x.2.2.2.2 y3.1.toNat,y7.1,(⟨#[]⟩:Hs),([]:Ld))]:Lk),x.2.2.2.1,x.2.2.2.2,rdL (Ty.int .i64) x.2.2.2.2 y3.1.toNat,([]:Ld),0)).bind fun|.inl o9=>g o9|.inr z10=>some (.inr ())) none) ((u0n (y4.2,([(⟨#[112]⟩:Hs),(⟨#[113]⟩:Hs),(⟨#[114]⟩:Hs)]:Lh))).bind fun y11=>cond (Nat.ble (x.2.2.1.length+([(6,rdL (Ty.int .i64) x.2.2.2.2 y3.1.toNat,y11.1,(⟨#[]⟩:Hs),([]:Ld))]:Lk).length) z7v) ((u2m (y11.2,x.2.1,x.2.2.1++([(6,rdL (Ty.int .i64) x.2.2.2.2 y3.1.toNat,y11.1,(⟨#[]⟩:Hs),([]:Ld))]:Lk),x.2.2.2.1,x.2.2.2.2,rdL (Ty.int .i64) x.2.2.2.2 y3.1.toNat,([]:Ld),0)).bind fun|.inl o13=>g o13|.inr z14=>some (.inr ())) none)) (cond (decide (y2.1=14)) ((t7z (y4.2,([(9:Int),10,(9:Int)]:Ld))).bind fun y15=>(u0n (y15.2,([(⟨#[112]⟩:Hs),(⟨#[113]⟩:Hs),(⟨#[114]⟩:Hs)]:Lh))).bind fun y16=>cond (Nat.ble (x.2.2.1.length+([(y15.1,0,y16.1,(⟨#[]⟩:Hs),([]:Ld))]:Lk).length) z7v) (g (y16.2,x.2.1,x.2.2.1++([(y15.1,0,y16.1,(⟨#[]⟩:Hs),([]:Ld))]:Lk),x.2.2.2)) none) (cond (decide (y2.1=15)) (cond (Nat.ble (x.2.2.1.length+([(11,0,(⟨#[]⟩:Hs),(⟨#[]⟩:Hs),([]:Ld))]:Lk).length) z7v) (g (y4.2,x.2.1,x.2.2.1++([(11,0,(⟨#[]⟩:Hs),(⟨#[]⟩:Hs),([]:Ld))]:Lk),x.2.2.2)) none) (cond (decide (y2.1=16)) ((u05 (y4.2,3)).bind fun y17=>cond y17.1 ((u0g (y17.2,70)).bind fun y18=>(u0g (y18.2,2)).bind fun y19=>cond (Nat.ble (x.2.2.1.length+([(12,y18.1,(⟨#[]⟩:Hs),(⟨#[]⟩:Hs),([(1:Int),y19.1]:Ld))]:Lk).length) z7v) (g (y19.2,x.2.1,x.2.2.1++([(12,y18.1,(⟨#[]⟩:Hs),(⟨#[]⟩:Hs),([(1:Int),y19.1]:Ld))]:Lk),x.2.2.2.1,([]:Ld))) none) (cond (Nat.ble (x.2.2.1.length+([(7,rdL (Ty.int .i64) x.2.2.2.2 y3.1.toNat,(⟨#[]⟩:Hs),(⟨#[]⟩:Hs),([]:Ld))]:Lk).length) z7v) (g (y17.2,x.2.1,x.2.2.1++([(7,rdL (Ty.int .i64) x.2.2.2.2 y3.1.toNat,(⟨#[]⟩:Hs),(⟨#[]⟩:Hs),([]:Ld))]:Lk),x.2.2.2)) none)) (cond (Nat.ble (x.2.2.1.length+([(2,99,y4.1,(⟨#[]⟩:Hs),([]:Ld))]:Lk).length) z7v) (g (y4.2,x.2.1,x.2.2.1++([(2,99,y4.1,(⟨#[]⟩:Hs),([]:Ld))]:Lk),x.2.2.2)) none)))))))))) none) ((u0n (y2.2,([(⟨#[97]⟩:Hs),(⟨#[98]⟩:Hs),(⟨#[99]⟩:Hs)]:Lh))).bind fun y20=>((cond (decide ((x.2.2.2.2.length:Int)=(0:Int))) (some true) (cond (decide (y2.1<3)) (some (decide ((x.2.2.2.2.length:Int)<(4:Int)))) (some false))):La).bind fun j21=>cond j21 (cond (Nat.ble (x.2.2.1.length+([(1,0,(⟨#[]⟩:Hs),(⟨#[]⟩:Hs),([]:Ld))]:Lk).length) z7v) (cond (Nat.ble (([]:Ld).length+x.2.2.2.2.length) z7v) (cond (Nat.ble ((([]:Ld)++x.2.2.2.2).length+([x.2.2.2.1]:Ld).length) z7v) (g (y20.2,x.2.1,x.2.2.1++([(1,0,(⟨#[]⟩:Hs),(⟨#[]⟩:Hs),([]:Ld))]:Lk),i64.wrap (x.2.2.2.1+1),(([]:Ld)++x.2.2.2.2)++([x.2.2.2.1]:Ld))) none) none) none) (cond (decide (y2.1<6)) (cond (Nat.ble (x.2.2.1.length+([(2,x.2.2.2.1,y20.1,(⟨#[]⟩:Hs),([]:Ld))]:Lk).length) z7v) (g (y20.2,x.2.1,x.2.2.1++([(2,x.2.2.2.1,y20.1,(⟨#[]⟩:Hs),([]:Ld))]:Lk),x.2.2.2)) none) (cond (decide (y2.1=6)) (cond (Nat.ble (x.2.2.1.length+([(3,x.2.2.2.1,(⟨#[97]⟩:Hs),y20.1,([]:Ld))]:Lk).length) z7v) (g (y20.2,x.2.1,x.2.2.1++([(3,x.2.2.2.1,(⟨#[97]⟩:Hs),y20.1,([]:Ld))]:Lk),x.2.2.2)) none) (cond (decide (y2.1<10)) ((u0n (y20.2,([(⟨#[111,110,101]⟩:Hs),(⟨#[116,119,111]⟩:Hs),(⟨#[116,104,114,101,101]⟩:Hs)]:Lh))).bind fun y22=>cond (Nat.ble (x.2.2.1.length+([(4,x.2.2.2.1,y20.1,y22.1,([]:Ld))]:Lk).length) z7v) (g (y22.2,x.2.1,x.2.2.1++([(4,x.2.2.2.1,y20.1,y22.1,([]:Ld))]:Lk),x.2.2.2)) none) (cond (decide (y2.1=10)) (cond (Nat.ble (x.2.2.1.length+([(5,x.2.2.2.1,y20.1,(⟨#[]⟩:Hs),([]:Ld))]:Lk).length) z7v) (g (y20.2,x.2.1,x.2.2.1++([(5,x.2.2.2.1,y20.1,(⟨#[]⟩:Hs),([]:Ld))]:Lk),x.2.2.2)) none) (cond (decide (y2.1<14)) (cond (decide (y2.1=13)) ((u0n (y20.2,([(⟨#[112]⟩:Hs),(⟨#[113]⟩:Hs),(⟨#[114]⟩:Hs)]:Lh))).bind fun y23=>cond (Nat.ble (x.2.2.1.length+([(8,x.2.2.2.1,y23.1,(⟨#[]⟩:Hs),([]:Ld))]:Lk).length) z7v) ((u2m (y23.2,x.2.1,x.2.2.1++([(8,x.2.2.2.1,y23.1,(⟨#[]⟩:Hs),([]:Ld))]:Lk),x.2.2.2.1,x.2.2.2.2,x.2.2.2.1,([]:Ld),0)).bind fun|.inl o25=>g o25|.inr z26=>some (.inr ())) none) ((u0n (y20.2,([(⟨#[112]⟩:Hs),(⟨#[113]⟩:Hs),(⟨#[114]⟩:Hs)]:Lh))).bind fun y27=>cond (Nat.ble (x.2.2.1.length+([(6,x.2.2.2.1,y27.1,(⟨#[]⟩:Hs),([]:Ld))]:Lk).length) z7v) ((u2m (y27.2,x.2.1,x.2.2.1++([(6,x.2.2.2.1,y27.1,(⟨#[]⟩:Hs),([]:Ld))]:Lk),x.2.2.2.1,x.2.2.2.2,x.2.2.2.1,([]:Ld),0)).bind fun|.inl o29=>g o29|.inr z30=>some (.inr ())) none)) (cond (decide (y2.1=14)) ((t7z (y20.2,([(9:Int),10,(9:Int)]:Ld))).bind fun y31=>(u0n (y31.2,([(⟨#[112]⟩:Hs),(⟨#[113]⟩:Hs),(⟨#[114]⟩:Hs)]:Lh))).bind fun y32=>cond (Nat.ble (x.2.2.1.length+([(y31.1,0,y32.1,(⟨#[]⟩:Hs),([]:Ld))]:Lk).length) z7v) (g (y32.2,x.2.1,x.2.2.1++([(y31.1,0,y32.1,(⟨#[]⟩:Hs),([]:Ld))]:Lk),x.2.2.2)) none) (cond (decide (y2.1=15)) (cond (Nat.ble (x.2.2.1.length+([(11,0,(⟨#[]⟩:Hs),(⟨#[]⟩:Hs),([]:Ld))]:Lk).length) z7v) (g (y20.2,x.2.1,x.2.2.1++([(11,0,(⟨#[]⟩:Hs),(⟨#[]⟩:Hs),([]:Ld))]:Lk),x.2.2.2)) none) (cond (decide (y2.1=16)) ((u05 (y20.2,3)).bind fun y33=>cond y33.1 ((u0g (y33.2,70)).bind fun y34=>(u0g (y34.2,2)).bind fun y35=>cond (Nat.ble (x.2.2.1.length+([(12,y34.1,(⟨#[]⟩:Hs),(⟨#[]⟩:Hs),([(1:Int),y35.1]:Ld))]:Lk).length) z7v) (g (y35.2,x.2.1,x.2.2.1++([(12,y34.1,(⟨#[]⟩:Hs),(⟨#[]⟩:Hs),([(1:Int),y35.1]:Ld))]:Lk),x.2.2.2.1,([]:Ld))) none) (cond (Nat.ble (x.2.2.1.length+([(7,x.2.2.2.1,(⟨#[]⟩:Hs),(⟨#[]⟩:Hs),([]:Ld))]:Lk).length) z7v) (g (y33.2,x.2.1,x.2.2.1++([(7,x.2.2.2.1,(⟨#[]⟩:Hs),(⟨#[]⟩:Hs),([]:Ld))]:Lk),x.2.2.2)) none)) (cond (Nat.ble (x.2.2.1.length+([(2,99,y20.1,(⟨#[]⟩:Hs),([]:Ld))]:Lk).length) z7v) (g (y20.2,x.2.1,x.2.2.1++([(2,99,y20.1,(⟨#[]⟩:Hs),([]:Ld))]:Lk),x.2.2.2)) none))))))))))) (some (.inl x.2.2.1))
def u3k:=lpW _ _ t4x
theorem r3e x:u3k x=t4x u3k x:=zW r2i 289 f289 8 189 x
def r9p (x:r8i):Ht d6x:=(s8t x).bind fun y1=>cond (decide ((i64.wrap ((16:Int)+(i64.wrap (Int.tdiv (x.length:Int) (3:Int)))))>74)) ((u3k (y1,74,([]:Lk),1,([]:Ld))).bind fun|.inl o37=>some o37|.inr z38=>none) ((u3k (y1,i64.wrap ((16:Int)+(i64.wrap (Int.tdiv (x.length:Int) (3:Int)))),([]:Lk),1,([]:Ld))).bind fun|.inl o74=>some o74|.inr z75=>none)
theorem p9e:s64=r9p:=zC 289 func289
def r0j(x:r8i):Ht Z45:=zK 178 x
def q4b (x:r8i):Ht Z45:=(s64 x).bind fun y1=>(r0d y1).bind fun y2=>some y2.1
theorem o2m:r0j=q4b:=zC 178 func178
def u3a(x:r3f):Ht d6v:=zK 355 x
def r7l (x:r3f):Ht d6v:=(u0n (x,([(⟨#[97]⟩:Hs),(⟨#[98]⟩:Hs),(⟨#[99]⟩:Hs),(⟨#[100]⟩:Hs),(⟨#[97,98]⟩:Hs)]:Lh))).bind fun y1=>some y1
theorem p3p:u3a=r7l:=zC 355 func355
def u2z(x:r3f):Ht d87:=zK 301 x
def s9c (x:r3f):Ht d87:=(u3a x).bind fun y1=>(u0n (y1.2,([(⟨#[111,110,101]⟩:Hs),(⟨#[116,119,111]⟩:Hs),(⟨#[]⟩:Hs),(⟨#[120,0]⟩:Hs)]:Lh))).bind fun y2=>(u05 (y2.2,5)).bind fun y3=>cond y3.1 (some ((y1.1,(⟨#[]⟩:Hs),true),y3.2)) (some ((y1.1,y2.1,false),y3.2))
theorem q4k:u2z=s9c:=zC 301 func301
def u7h(x:r3f):Ht c4y:=zK 182 x
def t4w(g:c4l->Ht (c4z⊕Unit))(x:c4l):Ht (c4z⊕Unit):=(u0g (x.1,4)).bind fun y1=>cond (decide (x.2.2<y1.1)) ((u2z y1.2).bind fun y2=>(s28 (x.2.1,y2.1)).bind fun y3=>g (y2.2,y3,i64.wrap (x.2.2+1))) (some (.inl (y1.2,x.2.1)))
def u41:=lpW _ _ t4w
theorem r3d x:u41 x=t4w u41 x:=zW r2h 182 f182 3 17 x
def s6t (x:r3f):Ht c4y:=(u41 (x,([]:Li),0)).bind fun|.inl o5=>some (o5.2,o5.1)|.inr z6=>none
theorem r9r:u7h=s6t:=zC 182 func182
def u3x(x:r3f):Ht c4p:=zK 347 x
def s9b (x:r3f):Ht c4p:=(u3a x).bind fun y1=>(u05 (y1.2,2)).bind fun y2=>cond y2.1 (some ((y1.1,y1.1),y2.2)) ((u3a y2.2).bind fun y3=>cond (y3b y3.1 y1.1) (some ((y3.1,y1.1),y3.2)) (some ((y1.1,y3.1),y3.2)))
theorem q4j:u3x=s9b:=zC 347 func347
def s08(x:r3f):Ht c1h:=zK 290 x
def s2b(g:c4o->Ht (c42⊕Unit))(x:c4o):Ht (c42⊕Unit):=(u0g (x.1,4)).bind fun y1=>cond (decide (x.2.2<y1.1)) ((u3x y1.2).bind fun y2=>cond (Nat.ble (x.2.1.length+([y2.1]:Lg).length) z7v) (g (y2.2,x.2.1++([y2.1]:Lg),i64.wrap (x.2.2+1))) none) (some (.inl (y1.2,x.2.1)))
def u9k:=lpW _ _ s2b
theorem p4n x:u9k x=s2b u9k x:=zW r2g 290 f290 3 18 x
def r9j (x:r3f):Ht c1h:=(u9k (x,([]:Lg),0)).bind fun|.inl o4=>some (o4.2,o4.1)|.inr z5=>none
theorem p88:s08=r9j:=zC 290 func290
def r4e(x:r3f):Ht c36:=zK 179 x
def s6p(g:c3k->Ht (c35⊕Unit))(x:c3k):Ht (c35⊕Unit):=(u0g (x.1,6)).bind fun y1=>cond (decide (x.2.2.2<y1.1)) ((s08 y1.2).bind fun y2=>(u7h y2.2).bind fun y3=>(u0g (y3.2,2)).bind fun y4=>(u0g (y4.2,i64.wrap ((i64.wrap (x.2.2.1+1))+y4.1))).bind fun y5=>cond (Nat.ble (x.2.1.length+([(i64.wrap ((1:Int)+x.2.2.2),3,y5.1,i64.wrap ((i64.wrap (x.2.2.1+1))+y4.1),y2.1,y3.1,false,(⟨#[]⟩:Hs))]:Lc).length) z7v) (g (y5.2,x.2.1++([(i64.wrap ((1:Int)+x.2.2.2),3,y5.1,i64.wrap ((i64.wrap (x.2.2.1+1))+y4.1),y2.1,y3.1,false,(⟨#[]⟩:Hs))]:Lc),i64.wrap ((i64.wrap (x.2.2.1+1))+y4.1),i64.wrap (x.2.2.2+1))) none) (some (.inl (y1.2,x.2.1)))
def t3i:=lpW _ _ s6p
theorem p9n x:t3i x=s6p t3i x:=zW q03 179 f179 4 37 x
def q85 (x:r3f):Ht c36:=(t3i (x,([]:Lc),0,0)).bind fun|.inl o7=>some (o7.2,o7.1)|.inr z8=>none
theorem o51:r4e=q85:=zC 179 func179
def s5b(x:d4c):Ht d6v:=zK 349 x
def t98(g:c4h->Ht (d9k⊕Unit))(x:c4h):Ht (d9k⊕Unit):=cond (decide (x.2.2.2<x.2.1)) ((u8c x.1).bind fun y1=>cond (Nat.ble (x.2.2.1.length+([(u8.wrap y1.1)]:Ld).length) z7v) (g (y1.2,x.2.1,x.2.2.1++([(u8.wrap y1.1)]:Ld),i64.wrap (x.2.2.2+1))) none) (some (.inl (x.1,x.2.2.1)))
def u82:=lpW _ _ t98
theorem q12 x:u82 x=t98 u82 x:=zW q0v 349 f349 5 23 x
def q8p (x:d4c):Ht d6v:=cond (decide (x.2>5000)) ((u82 (x.1,5000,([]:Ld),0)).bind fun|.inl o3=>some (y7c o3.2,o3.1)|.inr z4=>none) ((u82 (x.1,x.2,([]:Ld),0)).bind fun|.inl o7=>some (y7c o7.2,o7.1)|.inr z8=>none)
theorem o5m:s5b=q8p:=zC 349 func349
def s8u(x:r3f):Ht d85:=zK 291 x
def s84(g:c2u->Ht (c23⊕Unit))(x:c2u):Ht (c23⊕Unit):=(u0g (x.1,6)).bind fun y2=>cond (decide (x.2.2.2<y2.1)) ((u05 (y2.2,5)).bind fun y3=>cond y3.1 ((u0g (y3.2,9)).bind fun y4=>(s5b (y4.2,i64.wrap ((1:Int)+y4.1))).bind fun y5=>(s06 (x.2.2.1,([y5.1]:Lh))).bind fun y6=>g (y5.2,x.2.1,y6.1,i64.wrap (x.2.2.2+1))) ((u0g (y3.2,90)).bind fun y7=>(s5b (y7.2,i64.wrap ((1:Int)+y7.1))).bind fun y8=>(u5p (x.2.2.1,y8.1)).bind fun y9=>g (y8.2,x.2.1,y9.1,i64.wrap (x.2.2.2+1)))) (some (.inl (y2.2,x.2.1,x.2.2.1)))
def t5s:=lpW _ _ s84
theorem o3w x:t5s x=s84 t5s x:=zW q5b 291 f291 3 36 x
def p2o (x:r3f):Ht d85:=(t7y ()).bind fun y1=>(t5s (x,(([]:Lh),([]:Ll)),y1,0)).bind fun|.inl o11=>some (o11.2.2,o11.1)|.inr z12=>none
theorem o9n:s8u=p2o:=zC 291 func291
def r75(x:r3f):Ht d85:=zK 180 x
def p2n (x:r3f):Ht d85:=(u0g (x,10)).bind fun y1=>(u0g (y1.2,60)).bind fun y2=>(s8u y2.2).bind fun y3=>(u0w y3.1).bind fun y4=>cond (decide (y1.1=0)) (cond (decide (0<=(0:Int))&&decide ((0:Int)<=y2.1)&&decide (y2.1<=(y4.1.length:Int))) (some ((y4.1.take (y2.1.toNat - (0:Int).toNat),y4.2),y3.2)) none) (cond (decide (y1.1=1)) ((u7f (Int.tmod y2.1 (2:Int))).bind fun y5=>(t2j y2.1).bind fun y6=>(u58 (y4,y5,0,y6)).bind fun y7=>(u33 y7.1).bind fun y8=>some (y8,y3.2)) (cond (decide (y1.1=2)) ((u8d (64,u8.wrap y2.1)).bind fun y9=>(u9v (y4,y2.1,y9)).bind fun y10=>some (y10.1,y3.2)) (cond (decide (y1.1=3)) ((u58 (y4,2,0,(⟨#[255,255]⟩:Hs))).bind fun y11=>(u33 y11.1).bind fun y12=>some (y12,y3.2)) (some (y4,y3.2)))))
theorem o9m:r75=p2n:=zC 180 func180
def t88(x:Z11):Ht Z70:=zK 83 x
def q84 (x:Z11):Ht Z70:=(u29 x.2).bind fun y1=>cond (!y1.2) (some (false,x.1)) ((u5p (x.1.2,y1.1)).bind fun y2=>cond (!y2.2) ((t6a x.1.2).bind fun y3=>cond (!y3.2) (some (false,x.1)) ((u5p (y3.1,y1.1)).bind fun y4=>cond y4.2 (some (y4.2,x.1.1,y4.1)) (some (y4.2,x.1)))) (cond y2.2 (some (y2.2,x.1.1,y2.1)) (some (y2.2,x.1))))
theorem o50:t88=q84:=zC 83 func83
def u5r(x:Z71):Ht Z72:=zK 410 x
def r9m (x:Z71):Ht Z72:=(s8o (x.1.1,x.2)).bind fun y1=>cond (decide (y1.2.2=0)) ((t88 (x.1,y1.2.1)).bind fun y2=>cond (!y2.1) ((u0p y2.2.1).bind fun y3=>(u01 (y3,x.2)).bind fun y4=>some (3,y4,y2.2.2)) (some (y1.2.2,y1.1,y2.2.2))) (some (y1.2.2,y1.1,x.1.2))
theorem p9b:u5r=r9m:=zC 410 func410
def u4i(x:Z63):Ht Z72:=zK 413 x
def r42 (x:Z63):Ht Z72:=(s48 (x.1.1,x.2)).bind fun y1=>cond (decide (y1.2.2=0)) ((t88 (x.1,y1.2.1)).bind fun y2=>cond (!y2.1) ((u0p y2.2.1).bind fun y3=>(u01 (y3,x.2.1)).bind fun y4=>some (3,y4,y2.2.2)) (some (y1.2.2,y1.1,y2.2.2))) (some (y1.2.2,y1.1,x.1.2))
theorem p5z:u4i=r42:=zC 413 func413
def u5s(x:Z62):Ht Z72:=zK 414 x
def r9n (x:Z62):Ht Z72:=(t2i (x.1.1,x.2)).bind fun y1=>cond (decide (y1.2.2=0)) ((t88 (x.1,y1.2.1)).bind fun y2=>cond (!y2.1) (some (3,y2.2)) (some (y1.2.2,y1.1,y2.2.2))) (some (y1.2.2,y1.1,x.1.2))
theorem p9c:u5s=r9n:=zC 414 func414
def s5i(x:Z58):Ht Z58:=zK 379 x
def r3l (x:Z58):Ht Z58:=cond (decide ((x.2.1.2.length:Int)>(0:Int))) ((u0g (x.1,(x.2.1.2.length:Int))).bind fun y1=>cond (y4o y1.1 x.2.1.2.length) ((u0g (y1.2,16)).bind fun y2=>((cond (decide ((rdL u0a x.2.1.2 y1.1.toNat).1=0)) (some true) (some (decide (y2.1<3)))):La).bind fun j3=>cond j3 ((u78 x.2.1).bind fun y4=>some (y2.2,y4.1,x.2.2)) (cond (decide (y2.1<6)) ((u3a y2.2).bind fun y5=>(u7z (x.2.1,(rdL u0a x.2.1.2 y1.1.toNat).1,y5.1)).bind fun y6=>some (y5.2,y6.1,x.2.2)) (cond (decide (y2.1<7)) ((u3x y2.2).bind fun y7=>(u49 (x.2.1,(rdL u0a x.2.1.2 y1.1.toNat).1,y7.1)).bind fun y8=>some (y7.2,y8.1,x.2.2)) (cond (decide (y2.1<10)) ((u2z y2.2).bind fun y9=>(u6d (x.2.1,(rdL u0a x.2.1.2 y1.1.toNat).1,y9.1)).bind fun y10=>some (y9.2,y10.1,x.2.2)) (cond (decide (y2.1<13)) ((u5r (x.2,(rdL u0a x.2.1.2 y1.1.toNat).1)).bind fun y11=>some (y2.2,y11.2)) (cond (decide (y2.1=13)) ((u0n (y2.2,([(⟨#[112]⟩:Hs),(⟨#[113]⟩:Hs),(⟨#[114]⟩:Hs)]:Lh))).bind fun y12=>(u4i (x.2,(rdL u0a x.2.1.2 y1.1.toNat).1,y12.1)).bind fun y13=>some (y12.2,y13.2)) (cond (decide (y2.1=14)) ((u0n (y2.2,([(⟨#[112]⟩:Hs),(⟨#[113]⟩:Hs),(⟨#[114]⟩:Hs)]:Lh))).bind fun y14=>(u05 (y14.2,2)).bind fun y15=>(u5s (x.2,y14.1,y15.1)).bind fun y16=>some (y15.2,y16.2)) ((u05 (y2.2,3)).bind fun y17=>cond y17.1 ((u2i x.2).bind fun y18=>some (y17.2,y18.1)) ((u9t (x.2.1,(rdL u0a x.2.1.2 y1.1.toNat).1)).bind fun y19=>some (y17.2,y19.1,x.2.2)))))))))) none) ((u0g (x.1,16)).bind fun y20=>((cond (decide ((0:Int)=(0:Int))) (some true) (some (decide (y20.1<3)))):La).bind fun j21=>cond j21 ((u78 x.2.1).bind fun y22=>some (y20.2,y22.1,x.2.2)) (cond (decide (y20.1<6)) ((u3a y20.2).bind fun y23=>(u7z (x.2.1,0,y23.1)).bind fun y24=>some (y23.2,y24.1,x.2.2)) (cond (decide (y20.1<7)) ((u3x y20.2).bind fun y25=>(u49 (x.2.1,0,y25.1)).bind fun y26=>some (y25.2,y26.1,x.2.2)) (cond (decide (y20.1<10)) ((u2z y20.2).bind fun y27=>(u6d (x.2.1,0,y27.1)).bind fun y28=>some (y27.2,y28.1,x.2.2)) (cond (decide (y20.1<13)) ((u5r (x.2,0)).bind fun y29=>some (y20.2,y29.2)) (cond (decide (y20.1=13)) ((u0n (y20.2,([(⟨#[112]⟩:Hs),(⟨#[113]⟩:Hs),(⟨#[114]⟩:Hs)]:Lh))).bind fun y30=>(u4i (x.2,0,y30.1)).bind fun y31=>some (y30.2,y31.2)) (cond (decide (y20.1=14)) ((u0n (y20.2,([(⟨#[112]⟩:Hs),(⟨#[113]⟩:Hs),(⟨#[114]⟩:Hs)]:Lh))).bind fun y32=>(u05 (y32.2,2)).bind fun y33=>(u5s (x.2,y32.1,y33.1)).bind fun y34=>some (y33.2,y34.2)) ((u05 (y20.2,3)).bind fun y35=>cond y35.1 ((u2i x.2).bind fun y36=>some (y35.2,y36.1)) ((u9t (x.2.1,0)).bind fun y37=>some (y35.2,y37.1,x.2.2))))))))))
theorem q9f:s5i=r3l:=zC 379 func379
def u90(x:d4c):Ht Z59:=zK 350 x
def s0e(g:Z12->Ht (Z14⊕Unit))(x:Z12):Ht (Z14⊕Unit):=(u0g (x.1,x.2.1)).bind fun y2=>cond (decide (x.2.2.2.2<(i64.wrap ((2:Int)+y2.1)))) ((s5i (y2.2,x.2.2.2.1)).bind fun y3=>g (y3.1,x.2.1,x.2.2.1,y3.2,i64.wrap (x.2.2.2.2+1))) (some (.inl (y2.2,x.2.2.1,x.2.2.2.1)))
def u7c:=lpW _ _ s0e
theorem q17 x:u7c x=s0e u7c x:=zW q02 350 f350 3 19 x
def r3m (x:d4c):Ht Z59:=(t58 ()).bind fun y1=>(u7c (x.1,x.2,(((([]:Lf),([]:Lc),([]:Lc),0,0),([]:Lc)),([]:Lh),([]:Ll)),y1,0)).bind fun|.inl o5=>some (o5.2.2,o5.1)|.inr z6=>none
theorem q9g:u90=r3m:=zC 350 func350
def s63(x:r3f):Ht Z81:=zK 296 x
def r9l (x:r3f):Ht Z81:=(u90 (x,22)).bind fun y1=>some (y1.1.1,y1.2)
theorem p9a:s63=r9l:=zC 296 func296
def r78(x:r3f):Ht d7p:=zK 353 x
def p2v (x:r3f):Ht d7p:=(u0g (x,6)).bind fun y1=>(u0g (y1.2,3)).bind fun y2=>(u0g (y2.2,6)).bind fun y3=>(s08 y3.2).bind fun y4=>(u7h y4.2).bind fun y5=>cond (decide ((i64.wrap ((1:Int)+y2.1))=2)) ((u3a y5.2).bind fun y6=>(u05 (y6.2,2)).bind fun y7=>some ((i64.wrap ((1:Int)+y1.1),i64.wrap ((1:Int)+y2.1),y3.1,0,y4.1,y5.1,y7.1,y6.1),y7.2)) (cond (decide ((i64.wrap ((1:Int)+y2.1))=3)) ((u0g (y5.2,4)).bind fun y8=>(u05 (y8.2,2)).bind fun y9=>some ((i64.wrap ((1:Int)+y1.1),i64.wrap ((1:Int)+y2.1),y3.1,i64.wrap ((i64.wrap (y3.1+1))+y8.1),y4.1,y5.1,y9.1,(⟨#[]⟩:Hs)),y9.2)) (some ((i64.wrap ((1:Int)+y1.1),i64.wrap ((1:Int)+y2.1),y3.1,0,y4.1,y5.1,false,(⟨#[]⟩:Hs)),y5.2)))
theorem o9t:r78=p2v:=zC 353 func353
def r76(x:r3f):Ht d87:=zK 354 x
def p2r (x:r3f):Ht d87:=(u2z x).bind fun y1=>(u0g (y1.2,8)).bind fun y2=>cond (decide (y2.1=0)) ((u0n (y2.2,([(⟨#[]⟩:Hs),(⟨#[65]⟩:Hs),(⟨#[97,98,99,100]⟩:Hs),(⟨#[97,98,99]⟩:Hs)]:Lh))).bind fun y3=>some ((y3.1,y1.1.2),y3.2)) (cond (decide (y2.1=1)) ((u0g (y2.2,2)).bind fun y4=>(u8d (i64.wrap ((12:Int)+y4.1),97)).bind fun y5=>some ((y1.1.1,y5,y1.1.2.2),y4.2)) (cond (decide (y2.1=2)) (some ((y1.1.1,y1.1.2.1,true),y2.2)) (some (y1.1,y2.2))))
theorem o9p:r76=p2r:=zC 354 func354
def s3i(x:r3f):Ht d7p:=zK 298 x
def p2t (x:r3f):Ht d7p:=(u0g (x,12)).bind fun y1=>(u0g (y1.2,60)).bind fun y2=>(r78 y2.2).bind fun y3=>(u00 y3.1).bind fun y4=>cond (decide (y1.1=0)) (cond (y4o (Int.tmod y2.1 (3:Int)) ([(0:Int),9999,(10000:Int)]:Ld).length) (some ((rdL (Ty.int .i64) ([(0:Int),9999,(10000:Int)]:Ld) (Int.tmod y2.1 (3:Int)).toNat,y4.2),y3.2)) none) (cond (decide (y1.1=1)) (some ((y4.1,Int.tmod y2.1 (5:Int),y4.2.2),y3.2)) (cond (decide (y1.1=2)) (some ((y4.1,y4.2.1,y4.2.2.1,Int.tmod y2.1 (4:Int),y4.2.2.2.2),y3.2)) (cond (decide (y1.1=3)) (cond (y4o (Int.tmod y2.1 (3:Int)) ([(⟨#[]⟩:Hs),(⟨#[65]⟩:Hs),(⟨#[97,98]⟩:Hs)]:Lh).length) (some ((y4.1,y4.2.1,y4.2.2.1,y4.2.2.2.1,y4.2.2.2.2.1,y4.2.2.2.2.2.1,y4.2.2.2.2.2.2.1,rdL Ty.str ([(⟨#[]⟩:Hs),(⟨#[65]⟩:Hs),(⟨#[97,98]⟩:Hs)]:Lh) (Int.tmod y2.1 (3:Int)).toNat),y3.2)) none) (cond (decide (y1.1=4)) (cond (Nat.ble (y4.2.2.2.2.1.length+([((⟨#[98]⟩:Hs),(⟨#[97]⟩:Hs))]:Lg).length) z7v) (some ((y4.1,y4.2.1,y4.2.2.1,y4.2.2.2.1,y4.2.2.2.2.1++([((⟨#[98]⟩:Hs),(⟨#[97]⟩:Hs))]:Lg),y4.2.2.2.2.2),y3.2)) none) (cond (decide (y1.1=5)) ((r76 y3.2).bind fun y5=>cond (Nat.ble (y4.2.2.2.2.2.1.length+([y5.1]:Li).length) z7v) (some ((y4.1,y4.2.1,y4.2.2.1,y4.2.2.2.1,y4.2.2.2.2.1,y4.2.2.2.2.2.1++([y5.1]:Li),y4.2.2.2.2.2.2),y5.2)) none) (cond (decide (y1.1=6)) (some ((y4.1,y4.2.1,y4.2.2.1,y4.2.2.2.1,y4.2.2.2.2.1,y4.2.2.2.2.2.1,true,y4.2.2.2.2.2.2.2),y3.2)) (some (y4,y3.2))))))))
theorem o9r:s3i=p2t:=zC 298 func298
def s5f(x:r3f):Ht d6l:=zK 351 x
def q8w (x:r3f):Ht d6l:=(u90 (x,24)).bind fun y1=>some (y1.1.1.1,y1.2)
theorem o5s:s5f=q8w:=zC 351 func351
def s3h(x:r3f):Ht d9f:=zK 380 x
def t8e(g:c4f->Ht (c4u⊕Unit))(x:c4f):Ht (c4u⊕Unit):=(u0g (x.1,8)).bind fun y1=>cond (decide (x.2.2<y1.1)) ((u7h y1.2).bind fun y2=>(u65 (x.2.1,y2.1,i64.wrap (x.2.2+1))).bind fun y3=>g (y2.2,y3,i64.wrap (x.2.2+1))) (some (.inl (y1.2,x.2.1)))
def u7o:=lpW _ _ t8e
theorem q69 x:u7o x=t8e u7o x:=zW s7r 380 f380 3 19 x
def r1j (x:r3f):Ht d9f:=(u7o (x,([]:Lf),0)).bind fun|.inl o5=>some (o5.2,o5.1)|.inr z6=>none
theorem p3r:s3h=r1j:=zC 380 func380
def r77(x:r3f):Ht d9f:=zK 352 x
def p2s (x:r3f):Ht d9f:=(u0g (x,10)).bind fun y1=>(u0g (y1.2,60)).bind fun y2=>(s3h y2.2).bind fun y3=>cond (Nat.ble (([]:Lf).length+y3.1.length) z7v) (cond (decide (((([]:Lf)++y3.1).length:Int)>(0:Int))) (cond (!decide (((([]:Lf)++y3.1).length:Int)=0)) (cond (decide (y1.1=0)) (cond (y4o (Int.tmod y2.1 (4:Int)) ([(0:Int),9999,10000,(3:Int)]:Ld).length) (cond (y4o (Int.tmod y2.1 ((([]:Lf)++y3.1).length:Int)) (([]:Lf)++y3.1).length) (some ((([]:Lf)++y3.1).set (Int.tmod y2.1 ((([]:Lf)++y3.1).length:Int)).toNat ((rdL u0d (([]:Lf)++y3.1) (Int.tmod y2.1 ((([]:Lf)++y3.1).length:Int)).toNat).1,(rdL u0d (([]:Lf)++y3.1) (Int.tmod y2.1 ((([]:Lf)++y3.1).length:Int)).toNat).2.1,(rdL u0d (([]:Lf)++y3.1) (Int.tmod y2.1 ((([]:Lf)++y3.1).length:Int)).toNat).2.2.1,rdL (Ty.int .i64) ([(0:Int),9999,10000,(3:Int)]:Ld) (Int.tmod y2.1 (4:Int)).toNat),y3.2)) none) none) (cond (decide (y1.1=1)) (cond (y4o (Int.tmod y2.1 (3:Int)) ([(⟨#[]⟩:Hs),(⟨#[65]⟩:Hs),(⟨#[122]⟩:Hs)]:Lh).length) (cond (y4o (Int.tmod y2.1 ((([]:Lf)++y3.1).length:Int)) (([]:Lf)++y3.1).length) (some ((([]:Lf)++y3.1).set (Int.tmod y2.1 ((([]:Lf)++y3.1).length:Int)).toNat (rdL Ty.str ([(⟨#[]⟩:Hs),(⟨#[65]⟩:Hs),(⟨#[122]⟩:Hs)]:Lh) (Int.tmod y2.1 (3:Int)).toNat,(rdL u0d (([]:Lf)++y3.1) (Int.tmod y2.1 ((([]:Lf)++y3.1).length:Int)).toNat).2),y3.2)) none) none) (cond (decide (y1.1=2)) (cond (y4o (Int.tmod y2.1 ((([]:Lf)++y3.1).length:Int)) (([]:Lf)++y3.1).length) (some ((([]:Lf)++y3.1).set (Int.tmod y2.1 ((([]:Lf)++y3.1).length:Int)).toNat ((rdL u0d (([]:Lf)++y3.1) (Int.tmod y2.1 ((([]:Lf)++y3.1).length:Int)).toNat).1,(rdL u0d (([]:Lf)++y3.1) (Int.tmod y2.1 ((([]:Lf)++y3.1).length:Int)).toNat).2.1,true,(rdL u0d (([]:Lf)++y3.1) (Int.tmod y2.1 ((([]:Lf)++y3.1).length:Int)).toNat).2.2.2),y3.2)) none) (cond (decide (y1.1=3)) ((u8d (13,97)).bind fun y4=>cond (y4o (Int.tmod y2.1 ((([]:Lf)++y3.1).length:Int)) (([]:Lf)++y3.1).length) (some ((([]:Lf)++y3.1).set (Int.tmod y2.1 ((([]:Lf)++y3.1).length:Int)).toNat ((rdL u0d (([]:Lf)++y3.1) (Int.tmod y2.1 ((([]:Lf)++y3.1).length:Int)).toNat).1,y4,(rdL u0d (([]:Lf)++y3.1) (Int.tmod y2.1 ((([]:Lf)++y3.1).length:Int)).toNat).2.2),y3.2)) none) (some (([]:Lf)++y3.1,y3.2)))))) none) (some (([]:Lf)++y3.1,y3.2))) none
theorem o9q:r77=p2s:=zC 352 func352
def r79(x:r3f):Ht d6l:=zK 297 x
def p2x (x:r3f):Ht d6l:=(u0g (x,14)).bind fun y1=>(u0g (y1.2,60)).bind fun y2=>(s5f y2.2).bind fun y3=>(u22 y3.1).bind fun y4=>cond (decide (y1.1=0)) (cond (y4o (Int.tmod y2.1 (4:Int)) ([(0:Int),1,9999,(10000:Int)]:Ld).length) (some ((y4.1,y4.2.1,y4.2.2.1,rdL (Ty.int .i64) ([(0:Int),1,9999,(10000:Int)]:Ld) (Int.tmod y2.1 (4:Int)).toNat,y4.2.2.2.2),y3.2)) none) (cond (decide (y1.1=1)) (some ((y4.1,y4.2.1,y4.2.2.1,y4.2.2.2.1,Int.tmod y2.1 (4:Int)),y3.2)) (cond (decide (y1.1=2)) ((s3i y3.2).bind fun y5=>cond (Nat.ble (y4.2.1.length+([y5.1]:Lc).length) z7v) (some ((y4.1,y4.2.1++([y5.1]:Lc),y4.2.2),y5.2)) none) (cond (decide (y1.1=3)) ((s3i y3.2).bind fun y6=>cond (Nat.ble (y4.2.2.1.length+([y6.1]:Lc).length) z7v) (some ((y4.1,y4.2.1,y4.2.2.1++([y6.1]:Lc),y4.2.2.2),y6.2)) none) (cond (decide (y1.1=4)) ((r77 y3.2).bind fun y7=>some ((y7.1,y4.2),y7.2)) (some (y4,y3.2))))))
theorem o9v:r79=p2x:=zC 297 func297
def r8a(x:r3f):Ht Z81:=zK 181 x
def s0d(g:Z22->Ht (Z24⊕Z80))(x:Z22):Ht (Z24⊕Z80):=cond (decide ((x.2.2.2.2.length:Int)<(4:Int))) ((u78 x.2.2.2).bind fun y7=>cond (decide ((i64.wrap (x.2.2.1+1))>70)) (some (.inr (x.1,y7.1))) (g (x.1,x.2.1,i64.wrap (x.2.2.1+1),y7.1))) (some (.inl (x.1,x.2.1,x.2.2.2)))
def u83:=lpW _ _ s0d
theorem p9m x:u83 x=s0d u83 x:=zW q01 181 f181 13 58 x
def p2z (x:r3f):Ht Z81:=(u0g (x,12)).bind fun y1=>(u0g (y1.2,60)).bind fun y2=>(s63 y2.2).bind fun y3=>(u0p y3.1).bind fun y4=>cond (decide (y1.1=0)) ((r79 y3.2).bind fun y5=>some ((y5.1,y4.2),y5.2)) (cond (decide (y1.1=1)) ((s3i y3.2).bind fun y6=>cond (Nat.ble (y4.2.length+([y6.1]:Lc).length) z7v) (some ((y4.1,y4.2++([y6.1]:Lc)),y6.2)) none) (cond (decide (y1.1=2)) (cond (decide ((y4.2.length:Int)>(0:Int))) (cond (y4o (0:Int) y4.2.length) (some ((y4.1,y4.2.set (0:Int).toNat ((rdL u0a y4.2 (0:Int).toNat).1,(rdL u0a y4.2 (0:Int).toNat).2.1,Int.tmod y2.1 (9:Int),(rdL u0a y4.2 (0:Int).toNat).2.2.2)),y3.2)) none) (some (y4,y3.2))) (cond (decide (y1.1=3)) ((u83 (y3.2,((([]:Lf),([]:Lc),([]:Lc),0,0),([]:Lc)),y2.1,y4)).bind fun|.inl o9=>some (o9.2.2,o9.1)|.inr z10=>some (z10.2,z10.1)) (some (y4,y3.2)))))
theorem o9x:r8a=p2z:=zC 181 func181
def q90(x:r8i):Ht Z45:=zK 90 x
def q88 (x:r8i):Ht Z45:=(s8t x).bind fun y1=>(u0g (y1,10)).bind fun y2=>(r0j x).bind fun y3=>cond (decide (y2.1=0)) ((r4e y2.2).bind fun y4=>some (y3.1,y4.1,y3.2.2)) (cond (decide (y2.1=1)) ((r75 y2.2).bind fun y5=>some ((y3.1.1,y5.1),y3.2)) (cond (decide (y2.1=2)) ((r8a y2.2).bind fun y6=>some ((y6.1,y3.1.2),y3.2)) (cond (decide (y2.1=3)) (cond (decide ((y3.2.1.length:Int)>(0:Int))) ((u7h y2.2).bind fun y7=>cond (y4o (0:Int) y3.2.1.length) (some (y3.1,y3.2.1.set (0:Int).toNat ((rdL u0a y3.2.1 (0:Int).toNat).1,(rdL u0a y3.2.1 (0:Int).toNat).2.1,(rdL u0a y3.2.1 (0:Int).toNat).2.2.1,(rdL u0a y3.2.1 (0:Int).toNat).2.2.2.1,(rdL u0a y3.2.1 (0:Int).toNat).2.2.2.2.1,y7.1,(rdL u0a y3.2.1 (0:Int).toNat).2.2.2.2.2.2),y3.2.2)) none) (some y3)) (some y3))))
theorem o54:q90=q88:=zC 90 func90
def t56(x:r8i):Ht Z45:=zK 33 x
def s5o (x:r8i):Ht Z45:=(q90 x).bind fun y1=>some y1
theorem q4g:t56=s5o:=zC 33 func33
def s43(x:d8x):Ht p9o:=zK 100 x
def t9h(g:c18->Ht (c21⊕Unit))(x:c18):Ht (c21⊕Unit):=cond (decide (x.2.2.2.2.2.2.2.2<x.2.2.2.2.2.2.2.1)) (cond (y4o x.2.2.2.2.2.2.2.2 x.2.2.2.2.2.2.1.length) (cond (y3b (rdL s0f x.2.2.2.2.2.2.1 x.2.2.2.2.2.2.2.2.toNat).1 x.2.1.1) (cond (Nat.ble (x.2.2.1.length+([(rdL s0f x.2.2.2.2.2.2.1 x.2.2.2.2.2.2.2.2.toNat)]:Lg).length) z7v) (g (x.1,x.2.1,x.2.2.1++([(rdL s0f x.2.2.2.2.2.2.1 x.2.2.2.2.2.2.2.2.toNat)]:Lg),x.2.2.2.1,x.2.2.2.2.1,x.2.2.2.2.2.1,x.2.2.2.2.2.2.1,x.2.2.2.2.2.2.2.1,i64.wrap (x.2.2.2.2.2.2.2.2+1))) none) (g (x.1,x.2.1,x.2.2.1,x.2.2.2.1,x.2.2.2.2.1,x.2.2.2.2.2.1,x.2.2.2.2.2.2.1,x.2.2.2.2.2.2.2.1,i64.wrap (x.2.2.2.2.2.2.2.2+1)))) none) (some (.inl (x.1,x.2.1,x.2.2.1,x.2.2.2.1,x.2.2.2.2.1,x.2.2.2.2.2.1)))
def t2z:=lpW _ _ t9h
theorem q1b x:t2z x=t9h t2z x:=zW r9x 100 f100 7 68 x
def t6m(g:c1a->Ht (d43⊕Unit))(x:c1a):Ht (d43⊕Unit):=cond (decide (x.2.2.2.2.2.2.2<x.2.2.2.2.2.2.1)) (cond (y4o x.2.2.2.2.2.2.2 x.2.2.2.2.2.1.length) (cond (!(y3b (rdL s0f x.2.2.2.2.2.1 x.2.2.2.2.2.2.2.toNat).1 x.1.1||z7n (rdL s0f x.2.2.2.2.2.1 x.2.2.2.2.2.2.2.toNat).1 x.1.1)) (cond (Nat.ble (x.2.1.length+([(rdL s0f x.2.2.2.2.2.1 x.2.2.2.2.2.2.2.toNat)]:Lg).length) z7v) (g (x.1,x.2.1++([(rdL s0f x.2.2.2.2.2.1 x.2.2.2.2.2.2.2.toNat)]:Lg),x.2.2.1,x.2.2.2.1,x.2.2.2.2.1,x.2.2.2.2.2.1,x.2.2.2.2.2.2.1,i64.wrap (x.2.2.2.2.2.2.2+1))) none) (g (x.1,x.2.1,x.2.2.1,x.2.2.2.1,x.2.2.2.2.1,x.2.2.2.2.2.1,x.2.2.2.2.2.2.1,i64.wrap (x.2.2.2.2.2.2.2+1)))) none) (some (.inl (x.2.1,x.2.2.1,x.2.2.2.1,x.2.2.2.2.1)))
def u8e:=lpW _ _ t6m
theorem r6h x:u8e x=t6m u8e x:=zW r5e 100 f100 15 68 x
def t9g(g:d43->Ht j62)(x:d43):Ht j62:=cond (decide (x.2.2.2<x.2.2.1)) (cond (y4o x.2.2.2 x.2.1.length) ((t2z (x.1,rdL u2r x.2.1 x.2.2.2.toNat,([]:Lg),x.2.1,x.2.2.1,x.2.2.2,x.1,(x.1.length:Int),0)).bind fun|.inl o2=>cond (!o2.2.1.2.2) (cond (Nat.ble (o2.2.2.1.length+([(o2.2.1.1,o2.2.1.2.1)]:Lg).length) z7v) ((u8e (o2.2.1,o2.2.2.1++([(o2.2.1.1,o2.2.1.2.1)]:Lg),o2.2.2.2.1,o2.2.2.2.2.1,o2.2.2.2.2.2,o2.1,(o2.1.length:Int),0)).bind fun|.inl o4=>g (o4.1,o4.2.1,o4.2.2.1,i64.wrap (o4.2.2.2+1))|.inr z5=>some (.inr ())) none) ((u8e (o2.2.1,o2.2.2.1,o2.2.2.2.1,o2.2.2.2.2.1,o2.2.2.2.2.2,o2.1,(o2.1.length:Int),0)).bind fun|.inl o7=>g (o7.1,o7.2.1,o7.2.2.1,i64.wrap (o7.2.2.2+1))|.inr z8=>some (.inr ()))|.inr z9=>some (.inr ())) none) (some (.inl x.1))
def s0g:=lpW _ _ t9g
theorem q1a x:s0g x=t9g s0g x:=zW r9w 100 f100 3 68 x
def q7n (x:d8x):Ht p9o:=cond (Nat.ble x.1.length z7v) ((s0g (x.1,x.2.2.2.2.2.2.1,(x.2.2.2.2.2.2.1.length:Int),0)).bind fun|.inl o11=>some o11|.inr z12=>none) none
theorem o4k:s43=q7n:=zC 100 func100
def u4g(x:(p9o×p9o)):La:=zK 101 x
def u5w(g:c1f->Ht r04)(x:c1f):Ht r04:=cond (decide (x.2.2.2<x.2.2.1)) (cond (y4o x.2.2.2 x.1.length) (cond (y4o x.2.2.2 x.2.1.length) (cond (!(z7n (rdL s0f x.1 x.2.2.2.toNat).1 (rdL s0f x.2.1 x.2.2.2.toNat).1&&(z7n (rdL s0f x.1 x.2.2.2.toNat).2 (rdL s0f x.2.1 x.2.2.2.toNat).2&&true))) (some (.inr false)) (g (x.1,x.2.1,x.2.2.1,i64.wrap (x.2.2.2+1)))) none) none) (some (.inl ()))
def u5x:=lpW _ _ u5w
theorem t8d x:u5x x=u5w u5x x:=zW t79 101 f101 4 26 x
def s1n (x:(p9o×p9o)):La:=cond (!decide ((x.1.length:Int)=(x.2.length:Int))) (some false) ((u5x (x.1,x.2,(x.1.length:Int),0)).bind fun|.inl o2=>some true|.inr z3=>some z3)
theorem r47:u4g=s1n:=zC 101 func101
def t8x(x:d9o):La:=zK 201 x
def q7k (x:d9o):La:=((cond (!y3b x.2 x.1.1) (some (y3b x.2 x.1.2||z7n x.2 x.1.2)) (some false)):La).bind fun j1=>some j1
theorem o4h:t8x=q7k:=zC 201 func201
def s8l(x:d9j):Ht p9o:=zK 102 x
def s11(g:c3p->Ht j62)(x:c3p):Ht j62:=cond (decide (x.2.2.2.2<x.2.2.2.1)) (cond (y4o x.2.2.2.2 x.2.2.1.length) ((t8x (x.1,(rdL s0f x.2.2.1 x.2.2.2.2.toNat).1)).bind fun y1=>cond y1 (cond (Nat.ble (x.2.1.length+([(rdL s0f x.2.2.1 x.2.2.2.2.toNat)]:Lg).length) z7v) (g (x.1,x.2.1++([(rdL s0f x.2.2.1 x.2.2.2.2.toNat)]:Lg),x.2.2.1,x.2.2.2.1,i64.wrap (x.2.2.2.2+1))) none) (g (x.1,x.2.1,x.2.2.1,x.2.2.2.1,i64.wrap (x.2.2.2.2+1)))) none) (some (.inl x.2.1))
def s2g:=lpW _ _ s11
theorem q56 x:s2g x=s11 s2g x:=zW q4x 102 f102 3 28 x
def p1y (x:d9j):Ht p9o:=(s2g (x.2,([]:Lg),x.1,(x.1.length:Int),0)).bind fun|.inl o3=>some o3|.inr z4=>none
theorem o8z:s8l=p1y:=zC 102 func102
def t55(x:p71):Ht p71:=zK 315 x
theorem s9h:∀(x:p71),t55 x=y6w x:=y6e (P:=Tryz.prog) (A:=A) (f:=315) (F:=y6w) rfl
def t1o(x:p71):Ht p71:=zK 316 x
theorem s5u:∀(x:p71),t1o x=y0l x:=y6e (P:=Tryz.prog) (A:=A) (f:=316) (F:=y0l) rfl
def r70(x:q6j):Ht p71:=zK 202 x
def s12(g:c4m->Ht (p71⊕Unit))(x:c4m):Ht (p71⊕Unit):=cond (decide (x.2.2.2<x.2.2.1)) (cond (y4o x.2.2.2 x.2.1.length) (cond (Nat.ble (x.1.length+([(rdL u0d x.2.1 x.2.2.2.toNat).1]:Lh).length) z7v) (g (x.1++([(rdL u0d x.2.1 x.2.2.2.toNat).1]:Lh),x.2.1,x.2.2.1,i64.wrap (x.2.2.2+1))) none) none) (some (.inl x.1))
def s2h:=lpW _ _ s12
theorem q57 x:s2h x=s12 s2h x:=zW q4y 202 f202 3 22 x
def p11 (x:q6j):Ht p71:=(s2h (([]:Lh),x,(x.length:Int),0)).bind fun|.inl o2=>((t55 o2).bind fun y3=>(t1o y3).bind fun y4=>some y4)|.inr z5=>none
theorem o81:r70=p11:=zC 202 func202
def s8m(x:d3t):Lj:=zK 312 x
def s13(g:c3g->Ht j63)(x:c3g):Ht j63:=cond (decide (x.2.2.2.2.2.2<x.2.2.2.2.2.1)) (cond (y4o x.2.2.2.2.2.2 x.2.2.2.2.1.length) (((cond (z7n (rdL u0d x.2.2.2.2.1 x.2.2.2.2.2.2.toNat).1 x.2.1) (cond (decide ((rdL u0d x.2.2.2.2.1 x.2.2.2.2.2.2.toNat).2.2.2<=x.2.2.1)) (cond (decide (x.2.2.2.1<0)) (some true) (cond (y4o x.2.2.2.1 x.1.length) (some (decide ((rdL u0d x.2.2.2.2.1 x.2.2.2.2.2.2.toNat).2.2.2>(rdL u0d x.1 x.2.2.2.1.toNat).2.2.2))) none)) (some false)) (some false)):La).bind fun j1=>cond j1 (g (x.1,x.2.1,x.2.2.1,x.2.2.2.2.2.2,x.2.2.2.2.1,x.2.2.2.2.2.1,i64.wrap (x.2.2.2.2.2.2+1))) (g (x.1,x.2.1,x.2.2.1,x.2.2.2.1,x.2.2.2.2.1,x.2.2.2.2.2.1,i64.wrap (x.2.2.2.2.2.2+1)))) none) (some (.inl x.2.2.2.1))
def t5m:=lpW _ _ s13
theorem q58 x:t5m x=s13 t5m x:=zW q4z 312 f312 3 44 x
def p12 (x:d3t):Lj:=(t5m (x.1,x.2.1,x.2.2,(- 1:Int),x.1,(x.1.length:Int),0)).bind fun|.inl o3=>some o3|.inr z4=>none
theorem o82:s8m=p12:=zC 312 func312
def r7z(x:d3t):Ht r01:=zK 203 x
def p1v (x:d3t):Ht r01:=(s8m x).bind fun y1=>((cond (decide (y1<0)) (some true) (cond (y4o y1 x.1.length) (some (rdL u0d x.1 y1.toNat).2.2.1) none)):La).bind fun j2=>cond j2 (some ((⟨#[]⟩:Hs),false)) (cond (y4o y1 x.1.length) (some ((rdL u0d x.1 y1.toNat).2.1,true)) none)
theorem o8w:r7z=p1v:=zC 203 func203
def t7w(x:d9b):Ht p9o:=zK 104 x
def s10(g:c2y->Ht j62)(x:c2y):Ht j62:=cond (decide (x.2.2.2.2.2.2<x.2.2.2.2.2.1)) (cond (y4o x.2.2.2.2.2.2 x.2.2.2.2.1.length) ((r7z (x.1,rdL Ty.str x.2.2.2.2.1 x.2.2.2.2.2.2.toNat,x.2.1)).bind fun y2=>((cond y2.2 ((t8x (x.2.2.1,rdL Ty.str x.2.2.2.2.1 x.2.2.2.2.2.2.toNat)).bind fun y3=>some y3) (some false)):La).bind fun j4=>cond j4 (cond (Nat.ble (x.2.2.2.1.length+([(rdL Ty.str x.2.2.2.2.1 x.2.2.2.2.2.2.toNat,y2.1)]:Lg).length) z7v) (g (x.1,x.2.1,x.2.2.1,x.2.2.2.1++([(rdL Ty.str x.2.2.2.2.1 x.2.2.2.2.2.2.toNat,y2.1)]:Lg),x.2.2.2.2.1,x.2.2.2.2.2.1,i64.wrap (x.2.2.2.2.2.2+1))) none) (g (x.1,x.2.1,x.2.2.1,x.2.2.2.1,x.2.2.2.2.1,x.2.2.2.2.2.1,i64.wrap (x.2.2.2.2.2.2+1)))) none) (some (.inl x.2.2.2.1))
def s2f:=lpW _ _ s10
theorem q55 x:s2f x=s10 s2f x:=zW q4w 104 f104 3 40 x
def p1t (x:d9b):Ht p9o:=(r70 x.1).bind fun y1=>(s2f (x.1,x.2.2,x.2.1,([]:Lg),y1,(y1.length:Int),0)).bind fun|.inl o6=>some o6|.inr z7=>none
theorem o8u:t7w=p1t:=zC 104 func104
def s3v(x:d4b):Lj:=zK 356 x
def u6w(g:(r8i×d4d)->Ht o31)(x:(r8i×d4d)):Ht o31:=cond (decide (x.2.2.2<x.2.2.1)) (cond (y4o x.2.2.2 x.1.length) (cond (decide (x.2.1=(rdL (Ty.int .i64) x.1 x.2.2.2.toNat))) (some (.inr x.2.2.2)) (g (x.1,x.2.1,x.2.2.1,i64.wrap (x.2.2.2+1)))) none) (some (.inl ()))
def u2g:=lpW _ _ u6w
theorem s1v x:u2g x=u6w u2g x:=zW s1q 356 f356 2 19 x
def s3t (x:d4b):Lj:=(u2g (x.1,x.2,(x.1.length:Int),0)).bind fun|.inl o2=>some (- 1:Int)|.inr z3=>some z3
theorem q2d:s3v=s3t:=zC 356 func356
def u2q(x:d4b):La:=zK 302 x
def t8r (x:d4b):La:=(s3v x).bind fun y1=>some (decide (y1>=0))
theorem r3p:u2q=t8r:=zC 302 func302
def u9r(x:u9l):La:=zK 99 x
def r7i (x:u9l):La:=some (decide (x.2.1=3))
theorem r7q:u9r=r7i:=zC 99 func99
def u77(x:d9n):La:=zK 335 x
def t9m(g:c2s->Ht (d9d⊕Bool))(x:c2s):Ht (d9d⊕Bool):=cond (decide (x.2.2.2.2.2.2.2<x.2.2.2.2.2.2.1)) (cond (y4o x.2.2.2.2.2.2.2 x.2.2.2.2.2.1.length) ((t8x (x.2.1,(rdL u2r x.2.2.2.2.2.1 x.2.2.2.2.2.2.2.toNat).1)).bind fun y1=>cond y1 (some (.inr true)) (g (x.1,x.2.1,x.2.2.1,x.2.2.2.1,x.2.2.2.2.1,x.2.2.2.2.2.1,x.2.2.2.2.2.2.1,i64.wrap (x.2.2.2.2.2.2.2+1)))) none) (some (.inl (x.1,x.2.2.1,x.2.2.2.1,x.2.2.2.2.1)))
def t21:=lpW _ _ t9m
theorem q1g x:t21 x=t9m t21 x:=zW r93 335 f335 5 27 x
def t9l(g:d9d->Ht r04)(x:d9d):Ht r04:=cond (decide (x.2.2.2<x.2.2.1)) (cond (y4o x.2.2.2 x.2.1.length) ((t21 (x.1,rdL s0f x.2.1 x.2.2.2.toNat,x.2.1,x.2.2.1,x.2.2.2,x.1,(x.1.length:Int),0)).bind fun|.inl o3=>g (o3.1,o3.2.1,o3.2.2.1,i64.wrap (o3.2.2.2+1))|.inr z4=>some (.inr z4)) none) (some (.inl ()))
def s0k:=lpW _ _ t9l
theorem q1f x:s0k x=t9l s0k x:=zW r92 335 f335 2 27 x
def q7u (x:d9n):La:=(s0k (x.2,x.1,(x.1.length:Int),0)).bind fun|.inl o6=>some false|.inr z7=>some z7
theorem o4r:u77=q7u:=zC 335 func335
def r2m(x:d9m):La:=zK 357 x
def s4i(g:c2h->Ht (d3r⊕Bool))(x:c2h):Ht (d3r⊕Bool):=cond (decide (x.2.2.2.2.2.2.2<x.2.2.2.2.2.2.1)) (cond (y4o x.2.2.2.2.2.2.2 x.2.2.2.2.2.1.length) (cond (z7n x.2.1.1 (rdL u2r x.2.2.2.2.2.1 x.2.2.2.2.2.2.2.toNat).1) (some (.inr true)) (g (x.1,x.2.1,x.2.2.1,x.2.2.2.1,x.2.2.2.2.1,x.2.2.2.2.2.1,x.2.2.2.2.2.2.1,i64.wrap (x.2.2.2.2.2.2.2+1)))) none) (some (.inl (x.1,x.2.2.1,x.2.2.2.1,x.2.2.2.2.1)))
def t8o:=lpW _ _ s4i
theorem q95 x:t8o x=s4i t8o x:=zW q9o 357 f357 5 28 x
def s4h(g:d3r->Ht r04)(x:d3r):Ht r04:=cond (decide (x.2.2.2<x.2.2.1)) (cond (y4o x.2.2.2 x.2.1.length) ((t8o (x.1,rdL u2r x.2.1 x.2.2.2.toNat,x.2.1,x.2.2.1,x.2.2.2,x.1,(x.1.length:Int),0)).bind fun|.inl o2=>g (o2.1,o2.2.1,o2.2.2.1,i64.wrap (o2.2.2.2+1))|.inr z3=>some (.inr z3)) none) (some (.inl ()))
def s4r:=lpW _ _ s4h
theorem q94 x:s4r x=s4h s4r x:=zW q9n 357 f357 2 28 x
def p6w (x:d9m):La:=(s4r (x.2,x.1,(x.1.length:Int),0)).bind fun|.inl o5=>some false|.inr z6=>some z6
theorem j1z:r2m=p6w:=zC 357 func357
def s8k(x:Z78):La:=zK 303 x
def p1n (x:Z78):La:=(((u9r x.1).bind fun y1=>cond (!y1) (some true) ((u9r x.2).bind fun y2=>cond (!y2) (some true) (some (decide (x.1.1=x.2.1))))):La).bind fun j3=>cond j3 (some false) (((cond (decide (x.1.2.2.2.1<=x.2.2.2.1)) ((u77 (x.2.2.2.2.2.1,x.1.2.2.2.2.2.1)).bind fun y4=>cond y4 (some true) (cond (decide (x.1.2.2.2.1<x.2.2.2.2.1)) ((r2m (x.1.2.2.2.2.2.1,x.2.2.2.2.2.2.1)).bind fun y5=>cond y5 (some true) (cond (decide (x.2.2.2.2.1>x.1.2.2.1)) ((u77 (x.1.2.2.2.2.1,x.2.2.2.2.2.2.1)).bind fun y6=>some y6) (some false))) (cond (decide (x.2.2.2.2.1>x.1.2.2.1)) ((u77 (x.1.2.2.2.2.1,x.2.2.2.2.2.2.1)).bind fun y7=>some y7) (some false)))) (cond (decide (x.1.2.2.2.1<x.2.2.2.2.1)) ((r2m (x.1.2.2.2.2.2.1,x.2.2.2.2.2.2.1)).bind fun y8=>cond y8 (some true) (cond (decide (x.2.2.2.2.1>x.1.2.2.1)) ((u77 (x.1.2.2.2.2.1,x.2.2.2.2.2.2.1)).bind fun y9=>some y9) (some false))) (cond (decide (x.2.2.2.2.1>x.1.2.2.1)) ((u77 (x.1.2.2.2.2.1,x.2.2.2.2.2.2.1)).bind fun y10=>some y10) (some false)))):La).bind fun j11=>some j11)
theorem o8o:s8k=p1n:=zC 303 func303
end
end Go.Proofs.YtkphhjdbdnoekaaGreat.Ab
