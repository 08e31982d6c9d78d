import Derived.Test.YtbkicjpdlchbgaaGreatAbKeptRightT2
import Derived.Test.YtbkicjpdlchbgaaGreatAbK2
import Derived.Test.YtbkicjpdlchbgaaGreatAbF4
import Derived.Test.YtbkicjpdlchbgaaGreatAbS2
namespace Go.Proofs.YtbkicjpdlchbgaaGreat.Ab
open Go
set_option linter.unusedVariables false
set_option linter.unusedSimpArgs false
set_option linter.unnecessarySimpa false
section
section
def inT (s:ByteArray) (c:Cur):Prop:=0≤c.1∧c.1≤(s.size:Int)
def bad (c:Cur) (k:Int):Int:=if c.2=true then k else 0
theorem u1o {s:ByteArray} {c:Cur} (h:inT s c):inT s (u1x s c).2∧0≤(u1x s c).1∧(u1x s c).1≤1000000000∧c.1+1≤(u1x s c).2.1+bad (u1x s c).2 1:=by
 unfold u1x
 split
 ·refine⟨h,by simp,by simp,?_⟩
  simp only[bad,if_true];omega
 ·rename_i q
  simp only[not_or,Bool.not_eq_true,Bool.not_eq_false] at q
  have:=s30 q.2
  refine⟨⟨?_,?_⟩,?_,?_,?_⟩
  ·simp only;omega
  ·simp only;omega
  ·simp only;omega
  ·simp only;omega
  ·simp only[bad,Bool.false_eq_true,if_false];omega
theorem q5e {t:ByteArray} {a:Int} (h:(u0q t a).2.2=true):a+1+((u0q t a).1.size:Int)≤(u0q t a).2.1∧0≤a:=by
 unfold u0q at h ⊢
 split at h
 ·rename_i hc
  rw[if_pos hc]
  have:=s30 hc.1
  simp only[ByteArray.size_extract]
  omega
 ·cases h
theorem u5r {s:ByteArray} {c:Cur} (h:inT s c):inT s (u12 s c).2∧c.1+1+((u12 s c).1.size:Int)≤(u12 s c).2.1+bad (u12 s c).2 1:=by
 unfold u12
 split
 ·refine⟨h,?_⟩
  simp only[bad,if_true,emp,ByteArray.size];simp
 ·rename_i q
  simp only[not_or,Bool.not_eq_true,Bool.not_eq_false] at q
  have h1:=p0j q.2
  have h2:=q5e q.2
  refine⟨⟨?_,?_⟩,?_⟩
  ·simp only;omega
  ·simp only;omega
  ·simp only[bad,Bool.false_eq_true,if_false];omega
theorem p2m {s:ByteArray} {c:Cur} (h:inT s c):inT s (r63 s c).2∧c.1+1≤(r63 s c).2.1+bad (r63 s c).2 1:=by
 unfold r63
 split
 ·refine⟨h,?_⟩
  simp only[bad,if_true];omega
 ·rename_i q
  simp only[not_or,Decidable.not_not] at q
  unfold inT
  simp only[bad,Bool.false_eq_true,if_false];omega
theorem u6f (c:Cur) {k:Int} (hk:0≤k):0≤bad c k∧bad c k≤k:=by unfold bad;split<;>omega
theorem r50 {c c' :Cur} (h:c.2=true→c'.2=true) {k:Int} (hk:0≤k):bad c k≤bad c' k:=by
 unfold bad
 by_cases q:c.2=true
 ·rw[if_pos q,if_pos (h q)];omega
 ·rw[if_neg q];split<;>omega
def p70 {E:Type} (w:E→Nat) (k:Int) (s:ByteArray) (f:Cur→E×Cur):Prop:= ∀c,inT s c→inT s (f c).2∧c.1+1+(w (f c).1:Int)≤(f c).2.1+bad (f c).2 k
theorem t1u {E:Type} {w:E→Nat} {k:Int} {s:ByteArray} {f:Cur→E×Cur} (hk:0≤k) (hf:p70 w k s f):∀(n:Nat) (c:Cur) (a:List E),inT s c→
 inT s (u13 f n c a).2∧c.1+((u13 f n c a).1.length+((u13 f n c a).1.map w).sum:Nat)≤(u13 f n c a).2.1+(a.length+(a.map w).sum:Nat)+bad (u13 f n c a).2 k
 | 0,c,a,h=>⟨h,by have:=u6f (u13 f 0 c a).2 hk;simp only[u13] at*;omega⟩
 | n+1,c,a,h=>by
  simp only[u13]
  split
  ·exact⟨h,by have:=u6f c hk;simp only;omega⟩
  ·obtain⟨h1,h2⟩:=hf c h
   obtain⟨h3,h4⟩:=t1u hk hf n (f c).2 (a++ [(f c).1]) h1
   refine⟨h3,?_⟩
   have e1:(a++ [(f c).1]).length=a.length+1:=by simp
   have e2:((a++ [(f c).1]).map w).sum=(a.map w).sum+w (f c).1:=by simp
   rw[e1,e2] at h4
   have hm:bad (f c).2 k≤bad (u13 f n (f c).2 (a++ [(f c).1])).2 k∧(bad (f c).2 k≠0→u13 f n (f c).2 (a++ [(f c).1])=(a++ [(f c).1],(f c).2)):=by
    by_cases q:(f c).2.2=true
    ·rw[t1t q];exact⟨Int.le_refl _,fun _=>rfl⟩
    ·have:bad (f c).2 k=0:=by unfold bad;rw[if_neg q]
     rw[this];exact⟨(u6f _ hk).1,fun h=>absurd rfl h⟩
   by_cases z:bad (f c).2 k=0
   ·omega
   ·have e:=hm.2 z
    rw[e]
    simp only[e1,e2]
    omega
theorem r0q (s:ByteArray):p70 u1u.wt 2 s (q8f s):=fun c h=>by
 obtain⟨h1,h2⟩:=u5r h
 obtain⟨h3,h4⟩:=u5r h1
 have b1:=r50 (c:=(u12 s c).2) (c' :=(u12 s (u12 s c).2).2) s3z (k:=1) (by omega)
 have b2:bad (u12 s (u12 s c).2).2 2=2*bad (u12 s (u12 s c).2).2 1:=by unfold bad;split<;>omega
 refine⟨h3,?_⟩
 have e:u1u.wt (q8f s c).1=(u12 s c).1.size+(u12 s (u12 s c).2).1.size:=rfl
 have e2:(q8f s c).2=(u12 s (u12 s c).2).2:=rfl
 rw[e,e2];omega
theorem r6h (s:ByteArray):p70 u0w.wt 3 s (rWr s):=fun c h=>by
 obtain⟨h1,h2⟩:=u5r h
 obtain⟨h3,h4⟩:=u5r h1
 obtain⟨h5,h6⟩:=p2m h3
 have b1:=r50 (c:=(u12 s c).2) (c' :=(u12 s (u12 s c).2).2) s3z (k:=1) (by omega)
 have b2:=r50 (c:=(u12 s (u12 s c).2).2) (c' :=(r63 s (u12 s (u12 s c).2).2).2) r6g (k:=1) (by omega)
 have b3:bad (r63 s (u12 s (u12 s c).2).2).2 3=3*bad (r63 s (u12 s (u12 s c).2).2).2 1:=by unfold bad;split<;>omega
 refine⟨h5,?_⟩
 have e:u0w.wt (rWr s c).1=(u12 s c).1.size+((u12 s (u12 s c).2).1.size+0):=rfl
 have e2:(rWr s c).2=(r63 s (u12 s (u12 s c).2).2).2:=rfl
 rw[e,e2];omega
theorem r0s (s:ByteArray):p70 u0c.wt 4 s (q8h s):=fun c h=>by
 obtain⟨h1,h2⟩:=r6h s c h
 obtain⟨h3,h4,h5,h6⟩:=u1o h1
 have b1:=r50 (c:=(rWr s c).2) (c' :=(u1x s (rWr s c).2).2) u7o (k:=3) (by omega)
 have b3:bad (u1x s (rWr s c).2).2 4=bad (u1x s (rWr s c).2).2 1+bad (u1x s (rWr s c).2).2 3:=by unfold bad;split<;>omega
 refine⟨h3,?_⟩
 have e:u0c.wt (q8h s c).1=u0w.wt (rWr s c).1:=rfl
 have e2:(q8h s c).2=(u1x s (rWr s c).2).2:=rfl
 rw[e,e2];omega
theorem q2v (m:Nat) (s:ByteArray):p70 u0k.wt 20 s (q0n m s):=fun c h=>by
 unfold q0n
 simp only
 obtain⟨a1,a2,a3,a4⟩:=u1o h
 generalize hA:u1x s c=A at a1 a2 a3 a4 ⊢
 obtain⟨b1,b2,b3,b4⟩:=u1o a1
 have mB:A.2.2=true→(u1x s A.2).2.2=true:=u7o
 generalize hB:u1x s A.2=B at b1 b2 b3 b4 mB ⊢
 obtain⟨d1,d2,d3,d4⟩:=u1o b1
 have mD:B.2.2=true→(u1x s B.2).2.2=true:=u7o
 generalize hD:u1x s B.2=D at d1 d2 d3 d4 mD ⊢
 obtain⟨e1,e2,e3,e4⟩:=u1o d1
 have mE:D.2.2=true→(u1x s D.2).2.2=true:=u7o
 generalize hE:u1x s D.2=E at e1 e2 e3 e4 mE ⊢
 obtain⟨f1,f2,f3,f4⟩:=u1o e1
 have mF:E.2.2=true→(u1x s E.2).2.2=true:=u7o
 generalize hF:u1x s E.2=F at f1 f2 f3 f4 mF ⊢
 obtain⟨g1,g2⟩:=t1u (by omega) (r0q s) (min F.1.toNat m) F.2 [] f1
 have mG:F.2.2=true→(u13 (q8f s) (min F.1.toNat m) F.2 []).2.2=true:=fun q=>by rw[t1t q];exact q
 generalize hG:u13 (q8f s) (min F.1.toNat m) F.2 [] =G at g1 g2 mG ⊢
 obtain⟨k1,k2,k3,k4⟩:=u1o g1
 have mK:G.2.2=true→(u1x s G.2).2.2=true:=u7o
 generalize hK:u1x s G.2=K at k1 k2 k3 k4 mK ⊢
 obtain⟨l1,l2⟩:=t1u (by omega) (r6h s) (min K.1.toNat m) K.2 [] k1
 have mL:K.2.2=true→(u13 (rWr s) (min K.1.toNat m) K.2 []).2.2=true:=fun q=>by rw[t1t q];exact q
 generalize hL:u13 (rWr s) (min K.1.toNat m) K.2 [] =L at l1 l2 mL ⊢
 obtain⟨o1,o2⟩:=p2m l1
 have mO:L.2.2=true→(r63 s L.2).2.2=true:=r6g
 generalize hO:r63 s L.2=O at o1 o2 mO ⊢
 obtain⟨p1,p2⟩:=u5r o1
 have mP:O.2.2=true→(u12 s O.2).2.2=true:=s3z
 generalize hP:u12 s O.2=P at p1 p2 mP ⊢
 refine⟨p1,?_⟩
 have e:u0k.wt (A.1,B.1,D.1,E.1,G.1,L.1,O.1,P.1)=0+(0+(0+(0+((Ty.sl u1u).wt G.1+((Ty.sl u0w).wt L.1+(0+P.1.size)))))):=rfl
 have eG:(Ty.sl u1u).wt G.1=G.1.length+(G.1.map u1u.wt).sum:=rfl
 have eL:(Ty.sl u0w).wt L.1=L.1.length+(L.1.map u0w.wt).sum:=rfl
 simp only[List.length_nil,List.map_nil,List.sum_nil] at g2 l2
 rw[e,eG,eL]
 by_cases q:P.2.2=true
 ·have:bad P.2 20=20:=by unfold bad;rw[if_pos q]
  rw[this]
  have t1:=(u6f A.2 (k:=1) (by omega)).2
  have t2:=(u6f B.2 (k:=1) (by omega)).2
  have t3:=(u6f D.2 (k:=1) (by omega)).2
  have t4:=(u6f E.2 (k:=1) (by omega)).2
  have t5:=(u6f F.2 (k:=1) (by omega)).2
  have t6:=(u6f G.2 (k:=2) (by omega)).2
  have t7:=(u6f K.2 (k:=1) (by omega)).2
  have t8:=(u6f L.2 (k:=3) (by omega)).2
  have t9:=(u6f O.2 (k:=1) (by omega)).2
  have t10:=(u6f P.2 (k:=1) (by omega)).2
  omega
 ·have zP:P.2.2=false:=by simpa using q
  have z:∀ {x y:Cur},(x.2=true→y.2=true)→y.2=false→x.2=false:=fun {x y} i j=>by
   cases w:x.2
   ·rfl
   ·rw[i w] at j;cases j
  have zO:=z mP zP
  have zL:=z mO zO
  have zK:=z mL zL
  have zG:=z mK zK
  have zF:=z mG zG
  have zE:=z mF zF
  have zD:=z mE zE
  have zB:=z mD zD
  have zA:=z mB zB
  simp only[bad,zP,zO,zL,zK,zG,zF,zE,zD,zB,zA,Bool.false_eq_true,if_false] at*
  omega
theorem s3v (m:Nat) (s:ByteArray):p70 u0k.wt 20 s (u4u m s):=fun c h=>by
 obtain⟨h1,h2⟩:=q2v m s c h
 refine⟨h1,?_⟩
 have:bad (q0n m s c).2 20≤bad (u4u m s c).2 20:=r50 (fun q=>by unfold u4u;simp only[q,Bool.true_or]) (by omega)
 have e1:(u4u m s c).1=(q0n m s c).1:=rfl
 have e2:(u4u m s c).2.1=(q0n m s c).2.1:=rfl
 rw[e1,e2];omega
end
section
theorem t21 {s:ByteArray} (c:Cur) (hs:s.size≤u0g):u0x (s,c)=some ((u1x s c).1,s,(u1x s c).2):=by
 rw[r7g];unfold s2i u1x
 simp only[r78 s c.1 hs,zOb]
 cases h1:c.2
 ·cases h2:(u0m s c.1).2.2<;>simp
 ·simp
theorem t6u {s:ByteArray} (c:Cur) (hs:s.size≤u0g):u1s (s,c)=some ((u12 s c).1,s,(u12 s c).2):=by
 rw[r59];unfold t95 u12
 simp only[r1u s c.1 hs,zOb]
 cases h1:c.2
 ·cases h2:(u0q s c.1).2.2
  ·simp[emp]
  ·simp
 ·simp[emp]
theorem gt1 (n:Nat):decide ((n:Int) >1)=decide (1<n):=by simp;omega
theorem eq1 (n:Nat):decide ((n:Int)=1)=decide (n=1):=by simp;omega
theorem r6c {s:ByteArray} (c:Cur) (hs:s.size≤u0g):u4h (s,c)=some ((r63 s c).1,s,(r63 s c).2):=by
 have hb:u0g=1099511627776:=rfl
 rw[r58];unfold t94 r63
 simp only[t6w]
 rw[y4y (n:=(s.size:Int) - 1) (by omega) (by omega)]
 cases h1:c.2
 ·by_cases h2:0≤c.1∧c.1<(s.size:Int)
  ·obtain⟨k,hk⟩:∃k:Nat,c.1=k:=⟨c.1.toNat,by omega⟩
   have e1:q8q c.1 0 ((s.size:Int) - 1)=true:=by rw[s1e];exact decide_eq_true (by omega)
   have e2:IntKind.i64.wrap (IntKind.i64.wrap (c.1+1) - 1)=c.1:=by rw[y4y (n:=c.1+1) (by omega) (by omega),y4y (by omega) (by omega)];omega
   have e3:IntKind.i64.wrap (c.1+1)=c.1+1:=y4y (by omega) (by omega)
   rw[hk] at e1 e2 e3 ⊢
   have e4:IntKind.i64.wrap (k:Int)=k:=y4y (by omega) (by omega)
   have e5:IntKind.i64.wrap ((k:Int)+1 - 1)=k:=by rw[y4y (by omega) (by omega)];omega
   simp only[e1,e2,e3,e5,cond_false,zOb,Bool.not_true,y7t (show k<s.size by omega),cond_true,zTn,gt1,eq1]
   rw[show(s.data.toList.getD k 0).toNat=u48 s k from rfl]
   by_cases h3:1<u48 s k
   ·simp[h3]
   ·have h3' :u48 s k≤1:=by omega
    have h4:((k:Int)<(s.size:Int)):=by omega
    simp[h3,h3',show k<s.size by omega,e4,y7t (show k<s.size by omega)]
  ·have e1:q8q c.1 0 ((s.size:Int) - 1)=false:=by rw[s1e];exact decide_eq_false (by omega)
   simp only[e1,cond_false,zOb,Bool.not_false,cond_true]
   rw[if_pos (.inr (.inl h2))]
 ·simp
theorem t6p {E X R U:Type} {s:ByteArray} (W:X→Option (R⊕U)) (mk:Cur→List E→Int→X) (res:Cur→List E→R) (f:Cur→E×Cur) (N:Nat)
 (hf:∀c,inT s c→inT s (f c).2)
 (hend:∀c a (i:Nat),(N≤i∨c.2=true)→W (mk c a (i:Int))=some (.inl (res c a)))
 (hstep:∀c a (i:Nat),i<N→c.2=false→inT s c→a.length≤i→W (mk c a (i:Int))=W (mk (f c).2 (a++ [(f c).1]) ((i+1:Nat):Int))):
 ∀(k i:Nat) c a,i+k=N→inT s c→a.length≤i→W (mk c a (i:Int))=some (.inl (res (u13 f k c a).2 (u13 f k c a).1)):=by
 intro k
 induction k with
 | zero=>intro i c a hi hc ha;exact hend c a i (.inl (by omega))
 | succ k ih=>
  intro i c a hi hc ha
  simp only[u13]
  split
  ·rename_i q;exact hend c a i (.inr q)
  ·rename_i q
   rw[hstep c a i (by omega) (by simpa using q) hc ha,ih (i+1) _ _ (by omega) (hf c hc) (by simp;omega)]
theorem r52 {n:Int} {i:Nat} {c:Cur} (h:n.toNat≤i∨c.2=true):((bif decide ((i:Int)<n) then some (!c.2) else some false:Option Bool))=some false:=by
 rcases h with h | h
 ·rw[decide_eq_false (by omega)];rfl
 ·rw[h];cases decide ((i:Int)<n)<;>rfl
theorem s9z {n:Int} {i:Nat} {c:Cur} (h:i<n.toNat) (hc:c.2=false):((bif decide ((i:Int)<n) then some (!c.2) else some false:Option Bool))=some true:=by
 rw[decide_eq_true (by omega),hc];rfl
theorem s90 {E:Type} {w:E→Nat} {k:Int} {s:ByteArray} {f:Cur→E×Cur} (h:p70 w k s f):∀c,inT s c→inT s (f c).2:=fun c hc=>(h c hc).1
theorem p48 {s:ByteArray} (hs:s.size≤u0g) (t:u0f) (ht:t.2.2.2.2.1= []) {c:Cur} (hc:inT s c):
 u2f ((s,c),t,())=some ((s,(u13 (q8f s) (min (u1x s c).1.toNat 1000000000) (u1x s c).2 []).2),
  (t.1,t.2.1,t.2.2.1,t.2.2.2.1,(u13 (q8f s) (min (u1x s c).1.toNat 1000000000) (u1x s c).2 []).1,t.2.2.2.2.2),()):=by
 obtain⟨h1,h2,h3,h4⟩:=u1o hc
 rw[t1l];unfold u4y
 simp only
 rw[t21 c hs]
 simp only[zOb]
 generalize u1x s c=y at h1 h2 h3 h4 ⊢
 have L:=t6p (s:=s) u0s (fun(c:Cur) (a:List q5p) i=>((s,c),(((t.1,t.2.1,t.2.2.1,t.2.2.2.1,a,t.2.2.2.2.2):u0f),()),y.1,i))
  (fun(c:Cur) (a:List q5p)=>((s,c),((t.1,t.2.1,t.2.2.1,t.2.2.2.1,a,t.2.2.2.2.2):u0f),())) (q8f s) y.1.toNat (s90 (r0q s))
  (fun c a i h=>by rw[u4i];simp only[u1m];rw[r52 h];rfl)
  (fun c a i h hc2 hin ha=>by
   rw[u4i];simp only[u1m];rw[s9z h hc2]
   simp only[zOb,cond_true]
   rw[r38];unfold t8b
   simp only
   rw[t6u c hs]
   simp only[zOb]
   rw[t6u _ hs]
   simp only[zOb]
   rw[r62 (by simp;omega),y7l (by omega)]
   rfl) y.1.toNat 0 y.2 [] (by omega) h1 (by simp)
 rw[show min y.1.toNat 1000000000=y.1.toNat by omega]
 obtain⟨t1,t2,t3,t4,t5,t6⟩:=t
 simp only at ht
 subst ht
 have L' :u0s ((s,y.2),(((t1,t2,t3,t4, [],t6):u0f),()),y.1,0)=some (.inl ((s,(u13 (q8f s) y.1.toNat y.2 []).2),((t1,t2,t3,t4,(u13 (q8f s) y.1.toNat y.2 []).1,t6):u0f),())):=L
 rw[L'];rfl
theorem p67 {s:ByteArray} (hs:s.size≤u0g) (t:u0f) (ht:t.2.2.2.2.2.1= []) {c:Cur} (hc:inT s c):
 u2g ((s,c),(),t)=some ((s,(u13 (rWr s) (min (u1x s c).1.toNat 1000000000) (u1x s c).2 []).2),(),
  (t.1,t.2.1,t.2.2.1,t.2.2.2.1,t.2.2.2.2.1,(u13 (rWr s) (min (u1x s c).1.toNat 1000000000) (u1x s c).2 []).1,t.2.2.2.2.2.2)):=by
 obtain⟨h1,h2,h3,h4⟩:=u1o hc
 rw[t1m];unfold u4z
 simp only
 rw[t21 c hs]
 simp only[zOb]
 generalize u1x s c=y at h1 h2 h3 h4 ⊢
 have L:=t6p (s:=s) u0t (fun(c:Cur) (a:List WrT) i=>((s,c),((),((t.1,t.2.1,t.2.2.1,t.2.2.2.1,t.2.2.2.2.1,a,t.2.2.2.2.2.2):u0f)),y.1,i))
  (fun(c:Cur) (a:List WrT)=>((s,c),(),((t.1,t.2.1,t.2.2.1,t.2.2.2.1,t.2.2.2.2.1,a,t.2.2.2.2.2.2):u0f))) (rWr s) y.1.toNat (s90 (r6h s))
  (fun c a i h=>by rw[u4j];simp only[u1n];rw[r52 h];rfl)
  (fun c a i h hc2 hin ha=>by
   rw[u4j];simp only[u1n];rw[s9z h hc2]
   simp only[zOb,cond_true]
   rw[r39];unfold t8c
   simp only
   rw[t6u c hs]
   simp only[zOb]
   rw[t6u _ hs]
   simp only[zOb]
   rw[r6c _ hs]
   simp only[zOb]
   rw[r62 (by simp;omega),y7l (by omega)]
   rfl) y.1.toNat 0 y.2 [] (by omega) h1 (by simp)
 rw[show min y.1.toNat 1000000000=y.1.toNat by omega]
 obtain⟨t1,t2,t3,t4,t5,t6,t7⟩:=t
 simp only at ht
 subst ht
 have L' :u0t ((s,y.2),((),((t1,t2,t3,t4,t5, [],t7):u0f)),y.1,0)=some (.inl ((s,(u13 (rWr s) y.1.toNat y.2 []).2),(),((t1,t2,t3,t4,t5,(u13 (rWr s) y.1.toNat y.2 []).1,t7):u0f))):=L
 rw[L'];rfl
theorem q8m {s:ByteArray} (hs:s.size≤1048576) {c:Cur} (hc:inT s c):u6j (s,c)=some ((u4u 1000000000 s c).1,s,(u4u 1000000000 s c).2):=by
 have hb:u0g=1099511627776:=rfl
 have hs' :s.size≤u0g:=by omega
 have hw:=q2v 1000000000 s c hc
 have hin:=hc
 unfold inT at hin
 have hwt:u0k.wt (q0n 1000000000 s c).1≤u0g:=by
  have h1:=hw.1
  unfold inT at h1
  have:=(u6f (q0n 1000000000 s c).2 (k:=20) (by omega)).2
  have:=hw.2
  omega
 have hk:=t71 _ hwt
 rw[r7h];unfold s2j
 unfold u4u
 unfold q0n at hk ⊢
 simp only at hk ⊢
 rw[t21 c hs']
 simp only[zOb]
 have i1:=(u1o hc).1
 rw[t21 _ hs']
 simp only[zOb]
 have i2:=(u1o i1).1
 rw[t21 _ hs']
 simp only[zOb]
 have i3:=(u1o i2).1
 rw[t21 _ hs']
 simp only[zOb]
 have i4:=(u1o i3).1
 rw[p48 hs' _ rfl i4]
 simp only[zOb]
 have i5:=(t1u (by omega) (r0q s) (min (u1x s (u1x s (u1x s (u1x s (u1x s c).2).2).2).2).1.toNat 1000000000) (u1x s (u1x s (u1x s (u1x s (u1x s c).2).2).2).2).2 [] (u1o i4).1).1
 rw[p67 hs' _ rfl i5]
 simp only[zOb]
 rw[r6c _ hs']
 simp only[zOb]
 rw[t6u _ hs']
 simp only[zOb]
 rw[hk]
 simp only[zOb]
 generalize u12 s _=z
 cases h:z.2.2
 ·simp
 ·simp
end
section
def p8c:Lim:=⟨1000000000,1000000000,1000000000,1000000000⟩
theorem p8d:p8c.ok:=⟨by decide,by decide,by decide,by decide⟩
theorem q8g {m k:Nat} {s:ByteArray} {c:Cur} (h:inT s c):inT s (u8f m k s c).2∧c.1+((Ty.sl u0k).wt (u8f m k s c).1:Nat)≤(u8f m k s c).2.1+20+1:=by
 obtain⟨h1,h2,h3,h4⟩:=u1o h
 obtain⟨g1,g2⟩:=t1u (by omega) (s3v m s) (min (u1x s c).1.toNat k) (u1x s c).2 [] h1
 refine⟨g1,?_⟩
 have e:(Ty.sl u0k).wt (u8f m k s c).1=(u8f m k s c).1.length+((u8f m k s c).1.map u0k.wt).sum:=rfl
 rw[e]
 have t1:=(u6f (u1x s c).2 (k:=1) (by omega)).2
 have t2:=(u6f (u13 (u4u m s) (min (u1x s c).1.toNat k) (u1x s c).2 []).2 (k:=20) (by omega)).2
 unfold u8f
 simp only[List.length_nil,List.map_nil,List.sum_nil] at g2
 omega
theorem q8e (m:Lim) {s:ByteArray} {c:Cur} (h:inT s c):inT s (s3y m s c).2∧(q3r.wt (s3y m s c).1:Int)≤(s.size:Int)+100:=by
 unfold s3y
 simp only
 obtain⟨a1,a2,a3,a4⟩:=u1o h
 obtain⟨b1,b2,b3,b4⟩:=u1o a1
 obtain⟨d1,d2,d3,d4⟩:=u1o b1
 obtain⟨g1,g2⟩:=t1u (by omega) (r0s s) (min (u1x s (u1x s (u1x s c).2).2).1.toNat m.v) (u1x s (u1x s (u1x s c).2).2).2 [] d1
 obtain⟨p1,p2⟩:=q8g (m:=m.t) (k:=m.p) g1
 obtain⟨q1,q2⟩:=q8g (m:=m.t) (k:=m.r) p1
 refine⟨q1,?_⟩
 have t1:=(u6f (u13 (q8h s) (min (u1x s (u1x s (u1x s c).2).2).1.toNat m.v) (u1x s (u1x s (u1x s c).2).2).2 []).2 (k:=4) (by omega)).2
 have u1:=(u6f (u1x s c).2 (k:=1) (by omega)).2
 have u2:=(u6f (u1x s (u1x s c).2).2 (k:=1) (by omega)).2
 have u3:=(u6f (u1x s (u1x s (u1x s c).2).2).2 (k:=1) (by omega)).2
 generalize u13 (q8h s) (min (u1x s (u1x s (u1x s c).2).2).1.toNat m.v) (u1x s (u1x s (u1x s c).2).2).2 [] =vs at*
 simp only[List.length_nil,List.map_nil,List.sum_nil] at g2
 have e:=s4z (vs.1,(u8f m.t m.p s vs.2).1,(u8f m.t m.r s (u8f m.t m.p s vs.2).2).1,(u1x s c).1,(u1x s (u1x s c).2).1)
 simp only at e
 have eV:(Ty.sl u0c).wt vs.1=vs.1.length+(vs.1.map u0c.wt).sum:=rfl
 unfold inT at q1 h
 rw[e,eV]
 omega
theorem p5o {s:ByteArray} (hs:s.size≤u0g) (b:u0h) (ht:b.1= []) {c:Cur} (hc:inT s c):
 u19 ((s,c),(),b)=some ((s,(u13 (q8h s) (min (u1x s c).1.toNat 1000000000) (u1x s c).2 []).2),(),
  ((u13 (q8h s) (min (u1x s c).1.toNat 1000000000) (u1x s c).2 []).1,b.2)):=by
 obtain⟨h1,h2,h3,h4⟩:=u1o hc
 rw[t1e];unfold u4r
 simp only
 rw[t21 c hs]
 simp only[zOb]
 generalize u1x s c=y at h1 h2 h3 h4 ⊢
 have L:=t6p (s:=s) u0n (fun(c:Cur) (a:List u3g) i=>((s,c),((),((a,b.2):u0h)),y.1,i))
  (fun(c:Cur) (a:List u3g)=>((s,c),(),((a,b.2):u0h))) (q8h s) y.1.toNat (s90 (r0s s))
  (fun c a i h=>by rw[u39];simp only[u1e];rw[r52 h];rfl)
  (fun c a i h hc2 hin ha=>by
   rw[u39];simp only[u1e];rw[s9z h hc2]
   simp only[zOb,cond_true]
   rw[r1o];unfold t69
   simp only
   rw[t6u c hs]
   simp only[zOb]
   rw[t6u _ hs]
   simp only[zOb]
   rw[r6c _ hs]
   simp only[zOb]
   rw[t21 _ hs]
   simp only[zOb]
   rw[r62 (by simp;omega),y7l (by omega)]
   rfl) y.1.toNat 0 y.2 [] (by omega) h1 (by simp)
 rw[show min y.1.toNat 1000000000=y.1.toNat by omega]
 obtain⟨b1,b2⟩:=b
 simp only at ht
 subst ht
 have L' :u0n ((s,y.2),((),(([],b2):u0h)),y.1,0)=some (.inl ((s,(u13 (q8h s) y.1.toNat y.2 []).2),(),(((u13 (q8h s) y.1.toNat y.2 []).1,b2):u0h))):=L
 rw[L'];rfl
theorem p45 {s:ByteArray} (hs:s.size≤1048576) (b:u0h) (ht:b.2.1= []) {c:Cur} (hc:inT s c):
 u2a ((s,c),b,())=some ((s,(u8f 1000000000 1000000000 s c).2),(b.1,(u8f 1000000000 1000000000 s c).1,b.2.2),()):=by
 have hb:u0g=1099511627776:=rfl
 obtain⟨h1,h2,h3,h4⟩:=u1o hc
 rw[t1f];unfold u4s u8f
 simp only
 rw[t21 c (by omega)]
 simp only[zOb]
 generalize u1x s c=y at h1 h2 h3 h4 ⊢
 have L:=t6p (s:=s) u0o (fun(c:Cur) (a:List u0f) i=>((s,c),(((b.1,a,b.2.2):u0h),()),y.1,i))
  (fun(c:Cur) (a:List u0f)=>((s,c),((b.1,a,b.2.2):u0h),())) (u4u 1000000000 s) y.1.toNat (s90 (s3v _ s))
  (fun c a i h=>by rw[u4a];simp only[u1f];rw[r52 h];rfl)
  (fun c a i h hc2 hin ha=>by
   rw[u4a];simp only[u1f];rw[s9z h hc2]
   simp only[zOb,cond_true]
   rw[r1p];unfold t7a
   simp only
   rw[q8m hs hin]
   simp only[zOb]
   rw[r62 (by simp;omega),y7l (by omega)];rfl) y.1.toNat 0 y.2 [] (by omega) h1 (by simp)
 rw[show min y.1.toNat 1000000000=y.1.toNat by omega]
 obtain⟨b1,b2,b3⟩:=b
 simp only at ht
 subst ht
 have L' :u0o ((s,y.2),(((b1, [],b3):u0h),()),y.1,0)=some (.inl ((s,(u13 (u4u 1000000000 s) y.1.toNat y.2 []).2),((b1,(u13 (u4u 1000000000 s) y.1.toNat y.2 []).1,b3):u0h),())):=L
 rw[L'];rfl
theorem p3j {s:ByteArray} (hs:s.size≤1048576) (b:u0h) (ht:b.2.2.1= []) {c:Cur} (hc:inT s c):
 u2b ((s,c),b,())=some ((s,(u8f 1000000000 1000000000 s c).2),(b.1,b.2.1,(u8f 1000000000 1000000000 s c).1,b.2.2.2),()):=by
 have hb:u0g=1099511627776:=rfl
 obtain⟨h1,h2,h3,h4⟩:=u1o hc
 rw[t1g];unfold u4t u8f
 simp only
 rw[t21 c (by omega)]
 simp only[zOb]
 generalize u1x s c=y at h1 h2 h3 h4 ⊢
 have L:=t6p (s:=s) u0p (fun(c:Cur) (a:List u0f) i=>((s,c),(((b.1,b.2.1,a,b.2.2.2):u0h),()),y.1,i))
  (fun(c:Cur) (a:List u0f)=>((s,c),((b.1,b.2.1,a,b.2.2.2):u0h),())) (u4u 1000000000 s) y.1.toNat (s90 (s3v _ s))
  (fun c a i h=>by rw[u4b];simp only[u1g];rw[r52 h];rfl)
  (fun c a i h hc2 hin ha=>by
   rw[u4b];simp only[u1g];rw[s9z h hc2]
   simp only[zOb,cond_true]
   rw[r1q];unfold t7b
   simp only
   rw[q8m hs hin]
   simp only[zOb]
   rw[r62 (by simp;omega),y7l (by omega)];rfl) y.1.toNat 0 y.2 [] (by omega) h1 (by simp)
 rw[show min y.1.toNat 1000000000=y.1.toNat by omega]
 obtain⟨b1,b2,b3,b4⟩:=b
 simp only at ht
 subst ht
 have L' :u0p ((s,y.2),(((b1,b2, [],b4):u0h),()),y.1,0)=some (.inl ((s,(u13 (u4u 1000000000 s) y.1.toNat y.2 []).2),((b1,b2,(u13 (u4u 1000000000 s) y.1.toNat y.2 []).1,b4):u0h),())):=L
 rw[L'];rfl
theorem p4i {s:ByteArray} (hs:s.size≤1048576) {c:Cur} (hc:inT s c):t4o (s,c)=some ((t1a p8c s c).1,s,(t1a p8c s c).2):=by
 have hb:u0g=1099511627776:=rfl
 have hs' :s.size≤u0g:=by omega
 have hw:=q8e p8c (s:=s) hc
 have hk:=u63 (s3y p8c s c).1 (by have:=hw.2;omega)
 rw[r57];unfold t93
 unfold t1a
 unfold s3y at hk ⊢
 simp only at hk ⊢
 rw[t21 c hs']
 simp only[zOb]
 have i1:=(u1o hc).1
 rw[t21 _ hs']
 simp only[zOb]
 have i2:=(u1o i1).1
 rw[p5o hs' _ rfl i2]
 simp only[zOb]
 have i3:=(t1u (by omega) (r0s s) (min (u1x s (u1x s (u1x s c).2).2).1.toNat 1000000000) (u1x s (u1x s (u1x s c).2).2).2 [] (u1o i2).1).1
 rw[p45 hs _ rfl i3]
 simp only[zOb]
 have i4:=(q8g (m:=1000000000) (k:=1000000000) i3).1
 rw[p3j hs _ rfl i4]
 simp only[zOb]
 rw[show p8c.v=1000000000 from rfl,show p8c.t=1000000000 from rfl,show p8c.p=1000000000 from rfl,show p8c.r=1000000000 from rfl] at hk ⊢
 rw[hk]
 simp only[zOb]
 generalize u8f 1000000000 1000000000 s (u8f 1000000000 1000000000 s _).2=z
 cases h:z.2.2
 ·simp
 ·simp
end
section
theorem t4g {s:ByteArray} (c:Cur) (hs:s.size≤u0g):u17 (s,c)=some ((u1x s c).1,s,(u1x s c).2):=by
 rw[q75];unfold r5y u1x
 simp only[r79 s c.1 hs,zOb]
 cases h1:c.2
 ·cases h2:(u0m s c.1).2.2<;>simp
 ·simp
theorem t6v {s:ByteArray} (c:Cur) (hs:s.size≤u0g):u1l (s,c)=some ((u12 s c).1,s,(u12 s c).2):=by
 rw[r4a];unfold t8d u12
 simp only[r1v s c.1 hs,zOb]
 cases h1:c.2
 ·cases h2:(u0q s c.1).2.2
  ·simp[emp]
  ·simp
 ·simp[emp]
theorem r6d {s:ByteArray} {c:Cur} (hc:inT s c) (hs:s.size≤u0g):u42 (s,c)=some ((r63 s c).1,s,(r63 s c).2):=by
 have hb:u0g=1099511627776:=rfl
 unfold inT at hc
 obtain⟨k,hk⟩:∃k:Nat,c.1=k:=⟨c.1.toNat,by omega⟩
 rw[r7r];unfold s2s r63
 simp only[hk]
 cases h1:c.2
 ·by_cases h2:k<s.size
  ·have e1:decide ((k:Int)≥(s.size:Int))=false:=decide_eq_false (by omega)
   have e3:IntKind.i64.wrap ((k:Int)+1)=(k:Int)+1:=y4y (by omega) (by omega)
   have e5:IntKind.i64.wrap ((k:Int)+1 - 1)=k:=by rw[y4y (by omega) (by omega)];omega
   rw[e1,e3,e5]
   simp only[cond_false,zOb,y7t h2,cond_true,zTn,gt1,eq1]
   rw[show(s.data.toList.getD k 0).toNat=u48 s k from rfl]
   by_cases h3:1<u48 s k
   ·simp[h3]
   ·have h3' :u48 s k≤1:=by omega
    simp[h3,h3',h2]
  ·have e1:decide ((k:Int)≥(s.size:Int))=true:=decide_eq_true (by omega)
   rw[e1]
   simp only[cond_false,zOb,cond_true]
   rw[if_pos (.inr (.inl (by omega)))]
 ·simp
theorem q09 {n k:Int} {i:Nat} {c:Cur} (h:min n.toNat k.toNat≤i∨c.2=true):((bif decide ((i:Int)<n) then(bif decide ((i:Int)<k) then some (!c.2) else some false) else some false:Option Bool))=some false:=by
 rcases h with h | h
 ·by_cases q:(i:Int)<n
  ·rw[decide_eq_true q,decide_eq_false (show ¬(i:Int)<k by omega)];rfl
  ·rw[decide_eq_false q];rfl
 ·rw[h];cases decide ((i:Int)<n)<;>cases decide ((i:Int)<k)<;>rfl
theorem r66 {n k:Int} {i:Nat} {c:Cur} (h:i<min n.toNat k.toNat) (hc:c.2=false):((bif decide ((i:Int)<n) then(bif decide ((i:Int)<k) then some (!c.2) else some false) else some false:Option Bool))=some true:=by
 rw[decide_eq_true (show(i:Int)<n by omega),decide_eq_true (show(i:Int)<k by omega),hc];rfl
theorem p49 {s:ByteArray} (hs:s.size≤u0g) (z t:u0f) (n:Int) {c:Cur} (hc:inT s c) (ht:t.2.2.2.2.1= []):
 u72 (z,(s,c),t,n,0)=some (.inl (z,(s,(u13 (q8f s) (min n.toNat 10) c []).2),(t.1,t.2.1,t.2.2.1,t.2.2.2.1,(u13 (q8f s) (min n.toNat 10) c []).1,t.2.2.2.2.2))):=by
 have L:=t6p (s:=s) u72 (fun(c:Cur) (a:List q5p) i=>(z,(s,c),((t.1,t.2.1,t.2.2.1,t.2.2.2.1,a,t.2.2.2.2.2):u0f),n,i))
  (fun(c:Cur) (a:List q5p)=>(z,(s,c),((t.1,t.2.1,t.2.2.1,t.2.2.2.1,a,t.2.2.2.2.2):u0f))) (q8f s) (min n.toNat 10) (s90 (r0q s))
  (fun c a i h=>by rw[s7w];simp only[t2f];rw[q09 (k:=10) h];rfl)
  (fun c a i h hc2 hin ha=>by
   rw[s7w];simp only[t2f];rw[r66 (k:=10) h hc2]
   simp only[zOb,cond_true]
   rw[t6v c hs]
   simp only[zOb]
   rw[t6v _ hs]
   simp only[zOb]
   rw[r62 (by simp;omega),y7l (by omega)]
   rfl) (min n.toNat 10) 0 c [] (by omega) hc (by simp)
 obtain⟨t1,t2,t3,t4,t5,t6⟩:=t
 simp only at ht
 subst ht
 exact L
theorem p68 {s:ByteArray} (hs:s.size≤u0g) (z t:u0f) (n:Int) {c:Cur} (hc:inT s c) (ht:t.2.2.2.2.2.1= []):
 u6b (z,(s,c),t,n,0)=some (.inl (z,(s,(u13 (rWr s) (min n.toNat 10) c []).2),(t.1,t.2.1,t.2.2.1,t.2.2.2.1,t.2.2.2.2.1,(u13 (rWr s) (min n.toNat 10) c []).1,t.2.2.2.2.2.2))):=by
 have L:=t6p (s:=s) u6b (fun(c:Cur) (a:List WrT) i=>(z,(s,c),((t.1,t.2.1,t.2.2.1,t.2.2.2.1,t.2.2.2.2.1,a,t.2.2.2.2.2.2):u0f),n,i))
  (fun(c:Cur) (a:List WrT)=>(z,(s,c),((t.1,t.2.1,t.2.2.1,t.2.2.2.1,t.2.2.2.2.1,a,t.2.2.2.2.2.2):u0f))) (rWr s) (min n.toNat 10) (s90 (r6h s))
  (fun c a i h=>by rw[s4i];simp only[u96];rw[q09 (k:=10) h];rfl)
  (fun c a i h hc2 hin ha=>by
   rw[s4i];simp only[u96];rw[r66 (k:=10) h hc2]
   simp only[zOb,cond_true]
   rw[t6v c hs]
   simp only[zOb]
   rw[t6v _ hs]
   simp only[zOb]
   rw[r6d (u5r (u5r hin).1).1 hs]
   simp only[zOb]
   rw[r62 (by simp;omega),y7l (by omega)]
   rfl) (min n.toNat 10) 0 c [] (by omega) hc (by simp)
 obtain⟨t1,t2,t3,t4,t5,t6,t7⟩:=t
 simp only at ht
 subst ht
 exact L
theorem p2s {s:ByteArray} (hs:s.size≤1048576) {a:Int} (hc:inT s (a,false)):
 t6c (s,a)=some (if(u4u 10 s (a,false)).2.2=true then(t1x,0,false) else((u4u 10 s (a,false)).1,(u4u 10 s (a,false)).2.1,true)):=by
 have hb:u0g=1099511627776:=rfl
 have hs' :s.size≤u0g:=by omega
 have hw:=q2v 10 s (a,false) hc
 have hin:=hc
 unfold inT at hin
 simp only at hin
 have hwt:u0k.wt (q0n 10 s (a,false)).1≤u0g:=by
  have h1:=hw.1
  unfold inT at h1
  have:=(u6f (q0n 10 s (a,false)).2 (k:=20) (by omega)).2
  have:=hw.2
  simp only at this
  omega
 have hk:=t72 _ hwt
 rw[q4v];unfold r21
 unfold u4u
 unfold q0n at hk ⊢
 simp only at hk ⊢
 rw[t4g _ hs']
 simp only[zOb]
 have i1:=(u1o hc).1
 rw[t4g _ hs']
 simp only[zOb]
 have i2:=(u1o i1).1
 rw[t4g _ hs']
 simp only[zOb]
 have i3:=(u1o i2).1
 rw[t4g _ hs']
 simp only[zOb]
 have i4:=(u1o i3).1
 rw[t4g _ hs']
 simp only[zOb]
 have i5:=(u1o i4).1
 rw[p49 hs' _ _ _ i5 rfl]
 simp only[zOb]
 have i6:=(t1u (by omega) (r0q s) (min (u1x s (u1x s (u1x s (u1x s (u1x s (a,false)).2).2).2).2).1.toNat 10) (u1x s (u1x s (u1x s (u1x s (u1x s (a,false)).2).2).2).2).2 [] i5).1
 rw[t4g _ hs']
 simp only[zOb]
 have i7:=(u1o i6).1
 rw[p68 hs' _ _ _ i7 rfl]
 simp only[zOb]
 rw[r6d (t1u (by omega) (r6h s) _ _ [] i7).1 hs']
 simp only[zOb]
 rw[t6v _ hs']
 simp only[zOb]
 rw[hk]
 simp only[zOb]
 generalize u12 s _=z
 generalize u4x _=o
 cases h:z.2.2<;>cases o<;>simp[t1x,emp]
theorem p0q {s:ByteArray} (hs:s.size≤1048576) (m:Nat) (hm:m≤1000) {c:Cur} (hc:inT s c):
 ∃(l:List u0f) (c' :Cur),u88 ((s,c),(m:Int))=some (l,s,c')∧inT s c' ∧c'.2=(u8f 10 (m+1) s c).2.2∧c.1+((Ty.sl u0k).wt l:Nat)≤c'.1+22∧(c'.2=false→(l,c')=u8f 10 (m+1) s c):=by
 have hb:u0g=1099511627776:=rfl
 obtain⟨h1,h2,h3,h4⟩:=u1o hc
 rw[r6b];unfold t97 u8f
 simp only
 rw[t4g c (by omega)]
 simp only[zOb]
 generalize u1x s c=y at h1 h2 h3 h4 ⊢
 have key:∀(k i:Nat) (d:Cur) (a:List u0f),i+k=min y.1.toNat (m+1)→inT s d→a.length≤i→y.2.1+((a.length+(a.map u0k.wt).sum:Nat):Int)≤d.1+bad d 20→
  ∃(r:((ByteArray×Cur)×List u0f)⊕((ByteArray×Cur)×List u0f)) (l:List u0f) (c' :Cur),u4q ((s,d),(m:Int),a,y.1,(i:Int))=some r∧(r= .inl ((s,c'),l)∨r= .inr ((s,c'),l))∧inT s c' ∧c'.2=(u13 (u4u 10 s) k d a).2.2∧
   y.2.1+((l.length+(l.map u0k.wt).sum:Nat):Int)≤c'.1+bad c' 20∧(c'.2=false→(l,c')=u13 (u4u 10 s) k d a):=by
  intro k
  induction k with
  | zero=>
   intro i d a hi hd ha hw
   refine⟨_,a,d,?_, .inl rfl,hd,rfl,hw,fun _=>rfl⟩
   rw[u52];simp only[u3f]
   have:(bif decide ((i:Int)<y.1) then(bif decide ((i:Int)≤(m:Int)) then some (!d.2) else some false) else some false:Option Bool)=some false:=by
    by_cases q:(i:Int)<y.1
    ·rw[decide_eq_true q,decide_eq_false (show ¬(i:Int)≤m by omega)];rfl
    ·rw[decide_eq_false q];rfl
   rw[this];rfl
  | succ k ih=>
   intro i d a hi hd ha hw
   by_cases q:d.2=true
   ·refine⟨_,a,d,?_, .inl rfl,hd,by rw[t1t q],hw,fun z=>by rw[q] at z;cases z⟩
    rw[u52];simp only[u3f]
    have:(bif decide ((i:Int)<y.1) then(bif decide ((i:Int)≤(m:Int)) then some (!d.2) else some false) else some false:Option Bool)=some false:=by
     rw[q];cases decide ((i:Int)<y.1)<;>cases decide ((i:Int)≤(m:Int))<;>rfl
    rw[this];rfl
   ·have q' :d.2=false:=by simpa using q
    have ed:d=(d.1,false):=by rw[←q']
    have hx:=p2s hs (a:=d.1) (by rw[←ed];exact hd)
    rw[←ed] at hx
    have he:=s3v 10 s d hd
    have hbd:bad d 20=0:=by unfold bad;rw[if_neg q]
    have c1:(bif decide ((i:Int)<y.1) then(bif decide ((i:Int)≤(m:Int)) then some (!d.2) else some false) else some false:Option Bool)=some true:=by
     rw[decide_eq_true (show(i:Int)<y.1 by omega),decide_eq_true (show(i:Int)≤m by omega),q'];rfl
    simp only[u13]
    rw[if_neg q]
    cases z:(u4u 10 s d).2.2
    ·rw[if_neg (by rw[z];simp)] at hx
     have hbz:bad (u4u 10 s d).2 20=0:=by unfold bad;rw[if_neg (by rw[z];simp)]
     obtain⟨r,l,c',e1,e2,e3,e4,e5,e6⟩:=ih (i+1) (u4u 10 s d).2 (a++ [(u4u 10 s d).1]) (by omega) he.1 (by simp;omega) (by
      have:=he.2
      rw[hbd] at hw
      rw[hbz] at this ⊢
      simp only[List.length_append,List.length_singleton,List.map_append,List.map_cons,List.map_nil,List.sum_append,List.sum_cons,List.sum_nil]
      omega)
     refine⟨r,l,c',?_,e2,e3,e4,e5,e6⟩
     rw[←e1,u52];simp only[u3f]
     rw[c1]
     simp only[zOb,cond_true]
     rw[hx]
     simp only[zOb,Bool.not_true,cond_false]
     rw[r62 (by simp;omega),y7l (by omega),q']
     have:(u4u 10 s d).2=((u4u 10 s d).2.1,false):=by rw[←z]
     rw[this]
    ·rw[if_pos z] at hx
     refine⟨_,a,(d.1,true),?_, .inr rfl,hd,by rw[t1t z,z],?_,fun w=>by cases w⟩
     ·rw[u52];simp only[u3f]
      rw[c1]
      simp only[zOb,cond_true]
      rw[hx]
      rfl
     ·rw[hbd] at hw
      have:bad ((d.1,true):Cur) 20=20:=rfl
      rw[this];simp only;omega
 have hb0:0≤bad y.2 20:=(u6f _ (by omega)).1
 obtain⟨r,l,c',e1,e2,e3,e4,e5,e6⟩:=key (min y.1.toNat (m+1)) 0 y.2 [] (by omega) h1 (by simp) (by simp only[List.length_nil,List.map_nil,List.sum_nil];omega)
 have e1' :u4q ((s,y.2),(m:Int), [],y.1,0)=some r:=e1
 refine⟨l,c',?_,e3,e4,?_,e6⟩
 ·rw[e1']
  rcases e2 with e2 | e2<;>rw[e2] <;>rfl
 ·have e:(Ty.sl u0k).wt l=l.length+(l.map u0k.wt).sum:=rfl
  rw[e]
  have t1:=(u6f y.2 (k:=1) (by omega)).2
  have t2:=(u6f c' (k:=20) (by omega)).2
  omega
def p6f:Lim:=⟨10,130,13,4⟩
theorem p8e:p6f.ok:=⟨by decide,by decide,by decide,by decide⟩
theorem p5p {s:ByteArray} (hs:s.size≤u0g) (z b:u0h) (n:Int) {c:Cur} (hc:inT s c) (ht:b.1= []):
 u6a (z,(s,c),b,n,0)=some (.inl (z,(s,(u13 (q8h s) (min n.toNat 130) c []).2),((u13 (q8h s) (min n.toNat 130) c []).1,b.2))):=by
 have L:=t6p (s:=s) u6a (fun(c:Cur) (a:List u3g) i=>(z,(s,c),((a,b.2):u0h),n,i))
  (fun(c:Cur) (a:List u3g)=>(z,(s,c),((a,b.2):u0h))) (q8h s) (min n.toNat 130) (s90 (r0s s))
  (fun c a i h=>by rw[s4h];simp only[u95];rw[q09 (k:=130) h];rfl)
  (fun c a i h hc2 hin ha=>by
   rw[s4h];simp only[u95];rw[r66 (k:=130) h hc2]
   simp only[zOb,cond_true]
   rw[t6v c hs]
   simp only[zOb]
   rw[t6v _ hs]
   simp only[zOb]
   rw[r6d (u5r (u5r hin).1).1 hs]
   simp only[zOb]
   rw[t4g _ hs]
   simp only[zOb]
   rw[r62 (by simp;omega),y7l (by omega)]
   rfl) (min n.toNat 130) 0 c [] (by omega) hc (by simp)
 obtain⟨b1,b2⟩:=b
 simp only at ht
 subst ht
 exact L
theorem p4j {s:ByteArray} (hs:s.size≤1048576) {a:Int} (hc:inT s (a,false)):
 t9i (s,a)=some (if(t1a p6f s (a,false)).2.2=true then(u4o,0,false) else((t1a p6f s (a,false)).1,(t1a p6f s (a,false)).2.1,true)):=by
 have hb:u0g=1099511627776:=rfl
 have hs' :s.size≤u0g:=by omega
 have hw:=q8e p6f (s:=s) hc
 have hk:=t44 (s3y p6f s (a,false)).1 (by have:=hw.2;omega)
 rw[q2a];unfold s9p
 unfold t1a
 unfold s3y at hk ⊢
 simp only at hk ⊢
 rw[t4g _ hs']
 simp only[zOb]
 have i1:=(u1o hc).1
 rw[t4g _ hs']
 simp only[zOb]
 have i2:=(u1o i1).1
 rw[t4g _ hs']
 simp only[zOb]
 have i3:=(u1o i2).1
 rw[p5p hs' _ _ _ i3 rfl]
 simp only[zOb]
 have i4f:=t1u (by omega) (r0s s) (min (u1x s (u1x s (u1x s (a,false)).2).2).1.toNat 130) (u1x s (u1x s (u1x s (a,false)).2).2).2 [] i3
 rw[show p6f.v=130 from rfl,show p6f.t=10 from rfl,show p6f.p=12+1 from rfl,show p6f.r=3+1 from rfl] at hk ⊢
 generalize hvs:u13 (q8h s) (min (u1x s (u1x s (u1x s (a,false)).2).2).1.toNat 130) (u1x s (u1x s (u1x s (a,false)).2).2).2 [] =vs at hk i4f ⊢
 obtain⟨i4,i4w⟩:=i4f
 obtain⟨l1,d1,e1,e2,e3,e4,e5⟩:=p0q hs 12 (by omega) i4
 obtain⟨l2,d2,f1,f2,f3,f4,f5⟩:=p0q hs 3 (by omega) e2
 rw[show((12:Nat):Int)=12 from rfl] at e1
 rw[show((3:Nat):Int)=3 from rfl] at f1
 rw[e1]
 simp only[zOb]
 rw[f1]
 simp only[zOb]
 cases z:d2.2
 ·have z1:d1.2=false:=by
   cases w:d1.2
   ·rfl
   ·have:(u8f 10 (3+1) s d1).2.2=true:=r0r w
    rw[←f3,z] at this;cases this
  have g1:=e5 z1
  have g2:=f5 z
  rw[←g1]
  rw[←g1] at hk
  simp only at hk ⊢
  rw[←g2]
  rw[←g2] at hk
  simp only at hk ⊢
  rw[hk]
  simp only[zOb,z,cond_false,Bool.false_or]
  generalize u5o _=o
  cases o<;>simp[u4o]
 ·have zz:(u8f 10 (3+1) s (u8f 10 (12+1) s vs.2).2).2.2=true:=by
   cases w:d1.2
   ·have g1:=e5 w
    rw[←g1]
    show(u8f 10 (3+1) s d1).2.2=true
    rw[←f3];exact z
   ·exact r0r (by rw[←e3];exact w)
  rw[zz]
  simp[u4o]
theorem q6u (t:ByteArray) (ht:t.size≤u0g):t8y t=some (match t05 t with
 | some s=>(s,true)
 | none=>(emp,false)):=by
 have hb:u0g=1099511627776:=rfl
 rw[q1m];unfold s81 t05
 by_cases h4:t.size<4
 ·rw[decide_eq_true (by omega),if_neg (by omega)];rfl
 ·rw[decide_eq_false (by omega),y4y (n:=(t.size:Int) - 4) (by omega) (by omega)]
  have c1:(decide ((0:Int)≤0)&&decide ((0:Int)≤(t.size:Int) - 4)&&decide ((t.size:Int) - 4≤(t.size:Int)))=true:=by simp;omega
  have e1:((t.size:Int) - 4).toNat=t.size - 4:=by omega
  rw[c1,e1,show((0:Int)).toNat=0 from rfl]
  have hz:(t.extract 0 (t.size - 4)).size=t.size - 4:=by simp
  simp only[cond_false,cond_true]
  rw[t8a _ (by rw[hz];omega)]
  simp only[zOb]
  unfold q21
  rw[hz]
  by_cases h5:t.size - 4≤20000
  ·rw[if_pos h5]
   simp only[Bool.not_true,cond_false,zOb]
   by_cases h6:r6n (t.extract 0 (t.size - 4))=t
   ·rw[if_pos ⟨by omega,h5,h6⟩,y7f.mpr h6];rfl
   ·rw[if_neg (fun q=>h6 q.2.2),p1u.mpr h6];rfl
  ·rw[if_neg h5,if_neg (fun q=>h5 q.2.1)];rfl
theorem p0l {t:ByteArray} (h:4≤t.size):r6n (t.extract 0 (t.size - 4))=t↔t.extract (t.size - 4) t.size=o1k (p8i (t.extract 0 (t.size - 4))):=by
 have e:t.extract 0 (t.size - 4)++t.extract (t.size - 4) t.size=t:=by
  rw[ByteArray.extract_append_extract,Nat.zero_min,Nat.max_eq_right (by omega)]
  exact ByteArray.extract_zero_size
 unfold r6n
 constructor
 ·intro q
  have:=e.trans q.symm
  exact ByteArray.append_right_inj (t.extract 0 (t.size - 4)) |>.mp this
 ·intro q;rw[←q,e]
theorem p29 (t:ByteArray) (ht:t.size≤1099511627776):s0y t=some (p8i t):=by
 rw[r82];unfold s9s
 rw[r8d _ _ ht];rfl
theorem p30 (x:Int):t6f x=some (o1k x):=by
 rw[r3l];rfl
theorem q6v (t:ByteArray) (ht:t.size≤u0g):t9k t=some (match t05 t with
 | some s=>(s,true)
 | none=>(emp,false)):=by
 have hb:u0g=1099511627776:=rfl
 rw[q2d];unfold s9t t05
 rw[y4y (n:=(t.size:Int) - 4) (by omega) (by omega)]
 by_cases h4:t.size<4
 ·rw[decide_eq_true (show(t.size:Int) - 4<0 by omega),if_neg (by omega)];rfl
 ·rw[decide_eq_false (show ¬(t.size:Int) - 4<0 by omega)]
  have c1:(decide ((0:Int)≤0)&&decide ((0:Int)≤(t.size:Int) - 4)&&decide ((t.size:Int) - 4≤(t.size:Int)))=true:=by simp;omega
  have c2:(decide ((0:Int)≤(t.size:Int) - 4)&&decide ((t.size:Int) - 4≤(t.size:Int))&&decide ((t.size:Int)≤(t.size:Int)))=true:=by simp;omega
  have e1:((t.size:Int) - 4).toNat=t.size - 4:=by omega
  rw[c1,c2,e1,show((0:Int)).toNat=0 from rfl,zTn]
  have hz:(t.extract 0 (t.size - 4)).size=t.size - 4:=by simp
  simp only[cond_false,cond_true]
  by_cases h5:t.size - 4≤20000
  ·rw[decide_eq_false (show ¬(t.size:Int) - 4 >20000 by omega),p29 _ (by rw[hz];omega)]
   simp only[zOb,cond_false]
   rw[p30]
   simp only[zOb]
   by_cases h6:r6n (t.extract 0 (t.size - 4))=t
   ·rw[if_pos ⟨by omega,h5,h6⟩,(p0l (by omega)).mp h6,y6l];rfl
   ·rw[if_neg (fun q=>h6 q.2.2),p1u.mpr (mt (p0l (t:=t) (by omega)).mpr h6)];rfl
  ·rw[decide_eq_true (show(t.size:Int) - 4 >20000 by omega),if_neg (fun q=>h5 q.2.1)];rfl
end
section
def noR:s79:=(0,t1x,emp,false,u4o)
def t1v (t:ByteArray):s79×Bool:=match u3y t with
 | some r=>(r,true)
 | none=>(noR,false)
theorem p6s {t:ByteArray} {r:s79} (h:u1z r=(t,true)):u3y t=some r:=by
 have hr:u46 r=true:=by
  cases q:u46 r with
  | true=>rfl
  | false=>
   unfold u1z at h
   rw[if_neg (by simp[q])] at h
   simp at h
 have hR:=p7l.mp hr
 rw[s00 hR] at h
 rw[←(Prod.mk.inj h).1]
 exact p0h hR
theorem p6r {t s:ByteArray} {r:s79} (hu:t05 t=some s) (h:u3y t=some r):RecR r∧s=r6k r∧u1z r=(t,true):=by
 obtain⟨h1,h2⟩:=r6j h
 have hs:=s31 h1
 have:=r6r (t:=r6k r) (by omega)
 rw[←h2,hu] at this
 exact⟨h1,Option.some.inj this,by rw[s00 h1,←h2]⟩
theorem r1e {t s:ByteArray} {r' :s79} {b:Bool} (hu:t05 t=some s) (hr:∀r,RecR r→s=r6k r→r' =r∧b=false):
 (((bif b then some true else(bif (!(u1z r').2) then some true else some (!z7o (u1z r').1 t))):Option Bool).bind fun j=>bif j then some (noR,false) else some (r',true))=some (t1v t):=by
 unfold t1v
 cases h:u3y t with
 | some r=>
  obtain⟨h1,h2,h3⟩:=p6r hu h
  obtain⟨e1,e2⟩:=hr r h1 h2
  subst e1
  rw[e2,h3]
  simp only[cond_false,Bool.not_true,y6l,zOb]
 | none=>
  cases b
  ·cases h2:(u1z r').2
   ·rfl
   ·have:z7o (u1z r').1 t=false:=by
     rw[p1u]
     intro e
     have:=p6s (t:=t) (r:=r') (by rw[←e,←h2])
     rw[h] at this;cases this
    rw[this];rfl
  ·rfl
theorem p17 (s:ByteArray):((s.data.toList.getD 0 0).toNat:Int)=(u48 s 0:Int):=rfl
theorem q9i (s:ByteArray) (i:Nat):u48 s i<256:=by unfold u48;exact UInt8.toNat_lt _
theorem r6s {t s:ByteArray} (h:t05 t=some s):s.size≤20000:=by
 unfold t05 at h
 split at h
 ·rename_i q
  have:=Option.some.inj h
  rw[←this];simp;omega
 ·cases h
theorem o4b (k:Nat):decide ((k:Int)=3)=decide (k=3):=by simp;omega
theorem o4c (k:Nat):decide ((k:Int)=4)=decide (k=4):=by simp;omega
theorem r60:u0k.wt t1x=0:=rfl
theorem r6z:q3r.wt u4o=0:=rfl
theorem p2f (m:Nat) {s:ByteArray} (hs:s.size≤20000) (h1:1≤s.size):u0k.wt (u4u m s (1,false)).1≤30000:=by
 have h:=s3v m s (1,false) ⟨by simp,by simp;omega⟩
 have h2:=h.1
 unfold inT at h2
 have:=(u6f (u4u m s (1,false)).2 (k:=20) (by omega)).2
 have:=h.2
 simp only at this
 omega
theorem q99 (m:Lim) {s:ByteArray} (hs:s.size≤20000) (h1:1≤s.size):q3r.wt (t1a m s (1,false)).1≤30000:=by
 have h:=q8e m (s:=s) (c:=(1,false)) ⟨by simp,by simp;omega⟩
 have e:(t1a m s (1,false)).1=(s3y m s (1,false)).1:=rfl
 rw[e];have:=h.2;omega
theorem q0u (t:ByteArray) (ht:t.size≤u0g):t48 t=some (t1v t):=by
 have hb:u0g=1099511627776:=rfl
 rw[r7a];unfold s2c
 rw[q6u t ht]
 simp only[zOb]
 cases hu:t05 t with
 | none=>
  unfold t1v u3y
  rw[hu];rfl
 | some s=>
  have hs:=r6s hu
  simp only[t0w]
  by_cases h0:s.size=0
  ·unfold t1v u3y
   rw[hu]
   simp only
   rw[if_pos h0,decide_eq_true h0];rfl
  ·have hin:inT s (1,false):=⟨by simp,by simp;omega⟩
   rw[decide_eq_false h0]
   simp only[Bool.not_true,cond_false,zOb]
   rw[show y4q (0:Int) s.size=true from y7t (i:=0) (by omega)]
   simp only[cond_true,show((0:Int)).toNat=0 from rfl,p17]
   rw[y4y (n:=(u48 s 0:Int)) (by omega) (by have:=q9i s 0;omega),o4b,o4c]
   by_cases h3:u48 s 0=3
   ·rw[decide_eq_true h3,t6u _ (by omega)]
    simp only[cond_true,zOb]
    rw[r6c _ (by omega)]
    simp only[zOb]
    have hf:=(u5r hin).2
    have hg:=(u5r hin).1
    unfold inT at hg
    have:=(u6f (u12 s (1,false)).2 (k:=1) (by omega)).2
    simp only at hf
    have hk:=t75 ((u48 s 0:Int),t1x,(u12 s (1,false)).1,(r63 s (u12 s (1,false)).2).1,u4o) (by rw[r0u];simp only[r60,r6z];omega)
    rw[show((0:Int),(0:Int),(0:Int),(0:Int),([] :List q5p),([] :List WrT),false,(⟨#[]⟩:ByteArray))=t1x from rfl]
    rw[show(([] :List u3g),([] :List u0f),([] :List u0f),(0:Int),(0:Int))=u4o from rfl]
    rw[hk]
    simp only[zOb]
    refine r1e hu (b:=(r63 s (u12 s (1,false)).2).2.2) fun r h1 h2=> ?_
    have:=t5i h1
    rw[←h2] at this
    unfold u89 at this
    rw[if_pos h3] at this
    rw[h3]
    exact⟨(Prod.mk.inj this).1,(Prod.mk.inj this).2⟩
   ·rw[decide_eq_false h3]
    by_cases h4:u48 s 0=4
    ·rw[decide_eq_true h4,p4i (by omega) hin]
     simp only[cond_true,cond_false,zOb]
     have hk:=t75 ((u48 s 0:Int),t1x,emp,false,(t1a p8c s (1,false)).1) (by rw[r0u];simp only[r60];have:=q99 p8c hs (by omega);simp only[emp,ByteArray.size];simp;omega)
     rw[show((0:Int),(0:Int),(0:Int),(0:Int),([] :List q5p),([] :List WrT),false,(⟨#[]⟩:ByteArray))=t1x from rfl]
     rw[show(([] :List u3g),([] :List u0f),([] :List u0f),(0:Int),(0:Int))=u4o from rfl]
     rw[show((⟨#[]⟩:ByteArray))=emp from rfl]
     rw[hk]
     simp only[zOb]
     refine r1e hu (b:=(t1a p8c s (1,false)).2.2) fun r h1 h2=> ?_
     have:=t5i h1
     rw[←h2] at this
     unfold u89 at this
     rw[if_neg h3,if_pos h4] at this
     have hl:=q5z p1o p8d (Prod.mk.inj this).2
     rw[h4,hl]
     exact⟨(Prod.mk.inj this).1,(Prod.mk.inj this).2⟩
    ·rw[decide_eq_false h4,q8m (by omega) hin]
     simp only[cond_true,cond_false,zOb]
     have hk:=t75 ((u48 s 0:Int),(u4u 1000000000 s (1,false)).1,emp,false,u4o) (by rw[r0u];simp only[r6z];have:=p2f 1000000000 hs (by omega);simp only[emp,ByteArray.size];simp;omega)
     rw[show((0:Int),(0:Int),(0:Int),(0:Int),([] :List q5p),([] :List WrT),false,(⟨#[]⟩:ByteArray))=t1x from rfl]
     rw[show(([] :List u3g),([] :List u0f),([] :List u0f),(0:Int),(0:Int))=u4o from rfl]
     rw[show((⟨#[]⟩:ByteArray))=emp from rfl]
     rw[hk]
     simp only[zOb]
     refine r1e hu (b:=(u4u 1000000000 s (1,false)).2.2) fun r h1 h2=> ?_
     have:=t5i h1
     rw[←h2] at this
     unfold u89 at this
     rw[if_neg h3,if_neg h4] at this
     have hl:=q2t (m:=9) (m' :=1000000000) (by omega) (by omega) (Prod.mk.inj this).2
     rw[hl]
     exact⟨(Prod.mk.inj this).1,(Prod.mk.inj this).2⟩
theorem q0v (t:ByteArray) (ht:t.size≤u0g):t5e t=some (t1v t):=by
 have hb:u0g=1099511627776:=rfl
 rw[r7l];unfold s2n
 rw[q6v t ht]
 simp only[zOb]
 cases hu:t05 t with
 | none=>
  unfold t1v u3y
  rw[hu];rfl
 | some s=>
  have hs:=r6s hu
  simp only[t0w]
  by_cases h0:s.size=0
  ·unfold t1v u3y
   rw[hu]
   simp only
   rw[if_pos h0,decide_eq_true h0];rfl
  ·have hin:inT s (1,false):=⟨by simp,by simp;omega⟩
   rw[decide_eq_false h0]
   simp only[Bool.not_true,cond_false,zOb]
   rw[show y4q (0:Int) s.size=true from y7t (i:=0) (by omega)]
   simp only[cond_true,show((0:Int)).toNat=0 from rfl,p17]
   rw[y4y (n:=(u48 s 0:Int)) (by omega) (by have:=q9i s 0;omega),o4b,o4c]
   by_cases h3:u48 s 0=3
   ·rw[decide_eq_true h3,t6v _ (by omega)]
    simp only[cond_true,zOb]
    rw[r6d (u5r hin).1 (by omega)]
    simp only[zOb]
    have hf:=(u5r hin).2
    have hg:=(u5r hin).1
    unfold inT at hg
    have:=(u6f (u12 s (1,false)).2 (k:=1) (by omega)).2
    simp only at hf
    have hk:=t76 ((u48 s 0:Int),t1x,(u12 s (1,false)).1,(r63 s (u12 s (1,false)).2).1,u4o) (by rw[r0u];simp only[r60,r6z];omega)
    rw[show((0:Int),(0:Int),(0:Int),(0:Int),([] :List q5p),([] :List WrT),false,(⟨#[]⟩:ByteArray))=t1x from rfl]
    rw[show(([] :List u3g),([] :List u0f),([] :List u0f),(0:Int),(0:Int))=u4o from rfl]
    rw[hk]
    simp only[zOb]
    refine r1e hu (b:=false) fun r h1 h2=> ?_
    have:=t5i h1
    rw[←h2] at this
    unfold u89 at this
    rw[if_pos h3] at this
    rw[h3]
    exact⟨(Prod.mk.inj this).1,rfl⟩
   ·rw[decide_eq_false h3]
    by_cases h4:u48 s 0=4
    ·rw[decide_eq_true h4,p4j (by omega) hin]
     simp only[cond_true,cond_false,zOb]
     generalize hy:(if(t1a p6f s (1,false)).2.2=true then(u4o,(0:Int),false) else((t1a p6f s (1,false)).1,(t1a p6f s (1,false)).2.1,true))=y
     have hyw:q3r.wt y.1≤30000:=by
      rw[←hy]
      split
      ·rw[r6z];omega
      ·exact q99 p6f hs (by omega)
     have hk:=t76 ((u48 s 0:Int),t1x,emp,false,y.1) (by rw[r0u];simp only[r60];simp only[emp,ByteArray.size];simp;omega)
     rw[show((0:Int),(0:Int),(0:Int),(0:Int),([] :List q5p),([] :List WrT),false,(⟨#[]⟩:ByteArray))=t1x from rfl]
     rw[show(([] :List u3g),([] :List u0f),([] :List u0f),(0:Int),(0:Int))=u4o from rfl]
     rw[show((⟨#[]⟩:ByteArray))=emp from rfl]
     rw[hk]
     simp only[zOb]
     refine r1e hu (b:=false) fun r h1 h2=> ?_
     have:=t5i h1
     rw[←h2] at this
     unfold u89 at this
     rw[if_neg h3,if_pos h4] at this
     have hl:=q5z p1o p8e (Prod.mk.inj this).2
     rw[hl,if_neg (by rw[(Prod.mk.inj this).2];simp)] at hy
     rw[h4,←hy]
     exact⟨(Prod.mk.inj this).1,rfl⟩
    ·rw[decide_eq_false h4,p2s (by omega) hin]
     simp only[cond_true,cond_false,zOb]
     generalize hy:(if(u4u 10 s (1,false)).2.2=true then(t1x,(0:Int),false) else((u4u 10 s (1,false)).1,(u4u 10 s (1,false)).2.1,true))=y
     have hyw:u0k.wt y.1≤30000:=by
      rw[←hy]
      split
      ·rw[r60];omega
      ·exact p2f 10 hs (by omega)
     have hk:=t76 ((u48 s 0:Int),y.1,emp,false,u4o) (by rw[r0u];simp only[r6z];simp only[emp,ByteArray.size];simp;omega)
     rw[show((0:Int),(0:Int),(0:Int),(0:Int),([] :List q5p),([] :List WrT),false,(⟨#[]⟩:ByteArray))=t1x from rfl]
     rw[show(([] :List u3g),([] :List u0f),([] :List u0f),(0:Int),(0:Int))=u4o from rfl]
     rw[show((⟨#[]⟩:ByteArray))=emp from rfl]
     rw[hk]
     simp only[zOb]
     refine r1e hu (b:=false) fun r h1 h2=> ?_
     have:=t5i h1
     rw[←h2] at this
     unfold u89 at this
     rw[if_neg h3,if_neg h4] at this
     have hl:=q2t (m:=9) (m' :=10) (by omega) (by omega) (Prod.mk.inj this).2
     rw[hl,if_neg (by rw[(Prod.mk.inj this).2];simp)] at hy
     rw[←hy]
     exact⟨(Prod.mk.inj this).1,rfl⟩
end
section
theorem p04 (l:List u0f) (c:ByteArray) (hl:l.length≤8388608):u1v (l,c)=some (l.filter fun x=> !z7o x.2.2.2.2.2.2.2 c):=by
 have hq:∀x∈l,u5f (x,c)=some (z7o x.2.2.2.2.2.2.2 c):=fun x _=>by rw[r9n];rfl
 have L:=Q.first (T:=u0k) (c:=ByteArray) (W:=u01) (q:=u5f) (p:=fun x:u0f=>z7o x.2.2.2.2.2.2.2 c) (fun x=>u6u x) l c (by omega) hq
 rw[u7k];unfold u28
 simp only[u8a,u3j,L,zOb]
 by_cases hk:u1h (fun x:u0f=>z7o x.2.2.2.2.2.2.2 c) l<l.length
 ·obtain⟨a,e1,e2,e3⟩:=Q.delete (T:=u0k) (c:=ByteArray) (W:=u0u) (q:=u5f) (p:=fun x:u0f=>z7o x.2.2.2.2.2.2.2 c) (fun x=>u6p x) l c (by omega) hq hk
  have hn:=u9l (fun x:u0f=> !z7o x.2.2.2.2.2.2.2 c) l
  obtain⟨n,hne⟩:∃n,n=(l.filter fun x:u0f=> !z7o x.2.2.2.2.2.2.2 c).length:=⟨_,rfl⟩
  rw[←hne] at e1 e3 hn
  have c1:decide (((u1h (fun x:u0f=>z7o x.2.2.2.2.2.2.2 c) l:Nat):Int)= -1)=false:=by simp
  have c2:decide ((0:Int)≤(n:Int))=true:=by simp
  have c3:decide ((n:Int)≤(a.length:Int))=true:=by simp;omega
  have c4:decide ((a.length:Int)≤(a.length:Int))=true:=by simp
  have hw:=y7l (i:=u1h (fun x:u0f=>z7o x.2.2.2.2.2.2.2 c) l) (by omega)
  simp only[if_pos hk,zOb,c1,cond_false,hw,e1,c2,c3,c4,Bool.and_self,cond_true,zTn,decide_true,Int.le_refl]
  have c5:decide ((n:Int)≤((a.take n++List.replicate (a.length - n) u0k.zero++a.drop (n+(a.length - n))).length:Int))=true:=by simp;omega
  have c6:(a.take n++List.replicate (a.length - n) u0k.zero++a.drop (n+(a.length - n))).take (n - (0:Int).toNat)=l.filter fun x:u0f=> !z7o x.2.2.2.2.2.2.2 c:=by
   rw[List.append_assoc,Int.toNat_zero,Nat.sub_zero,r68 a n (by omega),e3]
  simp only[c5,Bool.and_self,cond_true,c6]
 ·have hall:(l.filter fun x:u0f=> !z7o x.2.2.2.2.2.2.2 c)=l:=by
   rw[List.filter_eq_self]
   intro x hx
   obtain⟨i,hi,rfl⟩:=List.getElem_of_mem hx
   rw[t45 (p:=fun x:u0f=>z7o x.2.2.2.2.2.2.2 c) hi (by omega)]
   rfl
  simp only[if_neg hk,zOb,decide_true,cond_true,hall]
theorem q8s (b:u0h) (n:ByteArray) (hb:p0v b):t5w (b,n)=some (s43 b n):=by
 rw[q3v];unfold r1y
 simp only
 rw[t7x b hb]
 simp only[zOb]
 rw[p04 _ _ (by have:=hb.2.2.1;omega)]
 rfl
theorem q8t (b:u0h) (n:ByteArray) (hb:p0v b):s1t (b,n)=some (s43 b n):=by
 obtain⟨hb1,hb2,hb3⟩:=hb
 have L:=s2a u71 b.2.2.1 (fun(a:List u0f) i=>(n,b,u4o,((b.1,b.2.1,a,b.2.2.2):u0h),i)) (fun x:u0f=> !z7o x.2.2.2.2.2.2.2 n) (fun x=>x) (fun a=> .inl (u4o,((b.1,b.2.1,a,b.2.2.2):u0h))) (by have:=hb3.1;omega)
  (fun a _=>by rw[s7u];simp only[t2d,u0b,Nat.lt_irrefl,decide_false,cond_false])
  (fun i hi a ha=>by
   have hm:=List.getElem_mem hi
   have:=hb3.1
   rw[s7u];simp only[t2d,u0b,hi,decide_true,cond_true,y7t hi,zTn,y8k (t:=u0k) hi,y7l (show i<4611686018427387904 by omega)]
   rw[t6j _ (hb3.2 _ hm)]
   simp only[zOb]
   rw[r62 (by simp;omega)])
 rw[List.map_id'] at L
 rw[q4r];unfold r2x
 simp only
 rw[t7y b ⟨hb1,hb2,hb3⟩]
 simp only[zOb]
 have L' :u71 (n,b,(([], [], [],0,0):u0h),((b.1,b.2.1, [],b.2.2.2):u0h),0)=_:=L
 rw[L']
 rfl
theorem p4y {n i:Int} :y8h n (i+1)=t6r n i:=by
 unfold y8h t6r
 by_cases h:i<n
 ·rw[if_pos h,if_neg (by omega)]
 ·rw[if_neg h,if_pos (by omega)]
theorem p44 (p:u0f→Bool) (l:List u0f):∀(a:List u0f×List u0f),l.foldl (fun a x=>if p x=true then(a.1++ [x],a.2) else(a.1,a.2++ [x])) a=(a.1++l.filter p,a.2++l.filter fun x=> !p x):=by
 induction l with
 | nil=>intro a;simp
 | cons x l ih=>
  intro a
  rw[List.foldl_cons,ih]
  cases h:p x<;>simp[h]
theorem p2i (p q:u0f→Bool) (l:List u0f) (d:u0f) (hl:l.length≤4194304):(l.filter p).length+ [d].length≤1099511627776∧(l.filter p++ [d]).length+(l.filter q).length≤1099511627776∧(l.filter p++ [d]).length≤8000000:=by
 have f1:=u9l p l
 have f2:=u9l q l
 rw[List.length_append,List.length_singleton]
 omega
theorem q53 (b z:u0h) (t d:u0f) (n:ByteArray) (hb:p0v b):u4c (n,t,z,b,d, [], [],(),(b.2.2.1.length:Int),0)=
 some (.inl (t,z,b,d,b.2.2.1.filter (fun x=>y3c x.2.2.2.2.2.2.2 n),b.2.2.1.filter fun x=> !y3c x.2.2.2.2.2.2.2 n)):=by
 have hl:=hb.2.2.1
 have L:=t06 u4c b.2.2.1 (fun(a:List u0f×List u0f) i=>(n,t,z,b,d,a.1,a.2,(),(b.2.2.1.length:Int),i)) (fun a x=>if y3c x.2.2.2.2.2.2.2 n=true then(a.1++ [x],a.2) else(a.1,a.2++ [x]))
  (fun a=> .inl (t,z,b,d,a.1,a.2)) (fun i a=>a.1.length≤i∧a.2.length≤i)
  (fun a _=>by rw[s04];simp only[u8p,u0b,Nat.lt_irrefl,decide_false,cond_false])
  (fun i hi a ha=>by
   rw[s04];simp only[u8p,u0b,hi,decide_true,cond_true,y7t hi,zTn,y8k (t:=u0k) hi,y7l (show i<4611686018427387904 by omega)]
   cases y3c (b.2.2.1[i]).2.2.2.2.2.2.2 n
   ·simp only[Bool.false_eq_true,if_false,cond_false]
    refine⟨⟨by omega,by simp;omega⟩,?_⟩
    rw[r62 (by simp;omega)]
   ·simp only[if_true,cond_true]
    refine⟨⟨by simp;omega,by omega⟩,?_⟩
    rw[r62 (by simp;omega)]) ([], []) ⟨by simp,by simp⟩
 rw[p44 (fun x=>y3c x.2.2.2.2.2.2.2 n)] at L
 simpa using L
theorem q3m (b:u0h) (t:u0f) (n:ByteArray) (hb:p0v b) (ht:q8o t) (hi:p6i t.1):t6z (b,t,n)=some (s3u b t n):=by
 have hl:=hb.2.2.1
 rw[r9p];unfold s5y
 simp only
 rw[t7x b hb]
 simp only[zOb]
 rw[q0s t ht]
 simp only[zOb]
 rw[q5m t b.2.1 ht hb.2.1]
 simp only[zOb]
 rw[q53 _ _ _ _ _ hb,q53 _ _ _ _ _ hb]
 simp only[zOb,s1c hi,p4y]
 have pl:=fun d=>p2i (fun x:u0f=>y3c x.2.2.2.2.2.2.2 n) (fun x:u0f=> !y3c x.2.2.2.2.2.2.2 n) b.2.2.1 d hl
 rw[r62 (pl _).1,r62 (pl _).2.1,r62 (pl _).1,r62 (pl _).2.1]
 unfold s3u p2n
 cases t.2.2.2.2.2.2.1<;>rfl
theorem q2w (b z:u0h) (t d:u0f) (n:ByteArray) (hb:p0v b):u4e (n,b,t,z,((b.1,b.2.1, [],b.2.2.2):u0h),d,0)=
 some (.inl (n,b,t,z,((b.1,b.2.1,b.2.2.1.filter (fun x=>y3c x.2.2.2.2.2.2.2 n),b.2.2.2):u0h),d)):=by
 have hl:=hb.2.2.1
 have L:=s2a u4e b.2.2.1 (fun(a:List u0f) i=>(n,b,t,z,((b.1,b.2.1,a,b.2.2.2):u0h),d,i)) (fun x:u0f=>y3c x.2.2.2.2.2.2.2 n) (fun x=>x) (fun a=> .inl (n,b,t,z,((b.1,b.2.1,a,b.2.2.2):u0h),d)) (by omega)
  (fun a _=>by rw[s1a];simp only[u8w,u0b,Nat.lt_irrefl,decide_false,cond_false])
  (fun i hi a ha=>by
   have hm:=List.getElem_mem hi
   rw[s1a];simp only[u8w,u0b,hi,decide_true,cond_true,y7t hi,zTn,y8k (t:=u0k) hi,y7l (show i<4611686018427387904 by omega)]
   rw[t6j _ (hb.2.2.2 _ hm)]
   simp only[zOb]
   rw[r62 (by simp;omega)])
 rw[List.map_id'] at L
 exact L
theorem r9b (b z:u0h) (t:u0f) (n:ByteArray) (hb:p0v b) (pre:List u0f) (hp:pre.length≤8000000):u3x (n,b,t,z,((b.1,b.2.1,pre,b.2.2.2):u0h),0)=
 some (.inl (t,z,((b.1,b.2.1,pre++b.2.2.1.filter (fun x=> !y3c x.2.2.2.2.2.2.2 n),b.2.2.2):u0h))):=by
 have hl:=hb.2.2.1
 have L:=s2a u3x b.2.2.1 (fun(a:List u0f) i=>(n,b,t,z,((b.1,b.2.1,pre++a,b.2.2.2):u0h),i)) (fun x:u0f=> !y3c x.2.2.2.2.2.2.2 n) (fun x=>x) (fun a=> .inl (t,z,((b.1,b.2.1,pre++a,b.2.2.2):u0h))) (by omega)
  (fun a _=>by rw[t9s];simp only[u67,u0b,Nat.lt_irrefl,decide_false,cond_false])
  (fun i hi a ha=>by
   have hm:=List.getElem_mem hi
   rw[t9s];simp only[u67,u0b,hi,decide_true,cond_true,y7t hi,zTn,y8k (t:=u0k) hi,y7l (show i<4611686018427387904 by omega)]
   rw[t6j _ (hb.2.2.2 _ hm)]
   simp only[zOb]
   rw[r62 (by simp;omega),List.append_assoc])
 rw[List.map_id',List.append_nil] at L
 exact L
theorem q3n (b:u0h) (t:u0f) (n:ByteArray) (hb:p0v b) (ht:q8o t) (hi:p6i t.1):t64 (b,t,n)=some (s3u b t n):=by
 have hl:=hb.2.2.1
 have pl:=fun d=>p2i (fun x:u0f=>y3c x.2.2.2.2.2.2.2 n) (fun x:u0f=> !y3c x.2.2.2.2.2.2.2 n) b.2.2.1 d hl
 rw[r99];unfold s6g
 simp only
 rw[t7y b hb]
 simp only[zOb]
 rw[t6j t ht]
 simp only[zOb]
 rw[q5n t b.2.1 ht hb.2.1]
 simp only[zOb]
 rw[q2w _ _ _ _ _ hb,q2w _ _ _ _ _ hb]
 simp only[zOb]
 rw[r62 (pl _).1,r62 (pl _).1,r9b _ _ _ _ hb _ (pl _).2.2,r9b _ _ _ _ hb _ (pl _).2.2]
 simp only[zOb,s1c hi]
 have key:∀(o:Bool),(bif decide (t.1≥b.2.2.2.2) then some ((b.1,b.2.1,(b.2.2.1.filter fun x=>y3c x.2.2.2.2.2.2.2 n)++ [((t.1,(2:Int),t.2.2.1,t.2.2.2.1,t.2.2.2.2.1,t.2.2.2.2.2.1,o,n):u0f)] ++(b.2.2.1.filter fun x=> !y3c x.2.2.2.2.2.2.2 n),b.2.2.2.1,t.1+1):u0h)
  else some (b.1,b.2.1,(b.2.2.1.filter fun x=>y3c x.2.2.2.2.2.2.2 n)++ [((t.1,(2:Int),t.2.2.1,t.2.2.2.1,t.2.2.2.2.1,t.2.2.2.2.2.1,o,n):u0f)] ++(b.2.2.1.filter fun x=> !y3c x.2.2.2.2.2.2.2 n),b.2.2.2))=
  some (b.1,b.2.1,(b.2.2.1.filter fun x=>y3c x.2.2.2.2.2.2.2 n)++ [((t.1,(2:Int),t.2.2.1,t.2.2.2.1,t.2.2.2.2.1,t.2.2.2.2.2.1,o,n):u0f)] ++(b.2.2.1.filter fun x=> !y3c x.2.2.2.2.2.2.2 n),b.2.2.2.1,t6r b.2.2.2.2 t.1):=fun o=>by
  unfold t6r
  by_cases h:t.1<b.2.2.2.2
  ·rw[decide_eq_false (by omega),if_pos h];rfl
  ·rw[decide_eq_true (by omega),if_neg h];rfl
 unfold s3u p2n
 cases t.2.2.2.2.2.2.1
 ·exact key _
 ·exact key _
end
section
def o2k (d e:u0y):Prop:=r6e e=true∧s4y e=s4y d∧u3t e 0=u3t d 0∧u3t e 1=u3t d 1
end
section
def o48 (l:List ByteArray):Nat:=(l.map fun t=>(u2m t).size).sum
end
section
structure Like0 (b e:u0h):Prop where
 vs:b.1=r0y e.1 e.2.2.2.1
 past:b.2.1= []
 ready:b.2.2.1=e.2.2.1
 cs:b.2.2.2.1=e.2.2.2.1
theorem p41:BaseR p9e:=by
 refine⟨rfl,fun v h=>(by cases h),⟨Int.le_refl _,by decide⟩,⟨by decide,by decide⟩,by decide,fun t h=>(by cases h),List.Pairwise.nil,by decide,fun t h=>(by cases h),List.Pairwise.nil,fun x h=>(by cases h),List.Pairwise.nil⟩
def o40 (d:u0y):Option u0y:=match r4d (u0e d) with
 | none=>none
 | some b=>if(u1z (4,t1x,emp,false,b)).2=true then p8j d [(u1z (4,t1x,emp,false,b)).1] else none
def p78 (d:u0y) (r:s79):Option u0y:=
 if(u1z r).2=true then(match append_ d (u1z r).1 with
  | some y=>some y
  | none=>match o40 d with
   | none=>none
   | some z=>append_ z (u1z r).1)
 else none
end
section
structure SameC (x y:u0f):Prop where
 id:x.1=y.1
 st:x.2.1=y.2.1
 snap:x.2.2.1=y.2.2.1
 cs:x.2.2.2.1=y.2.2.2.1
 rs:x.2.2.2.2.1=y.2.2.2.2.1
 ws:x.2.2.2.2.2.1=y.2.2.2.2.2.1
structure Ser (H:List u0f) (e:q3j):Prop where
 eng:EngR e
 st:∀x∈H,x.2.1=3
 snap:∀x∈H,x.2.2.1<x.2.2.2.1∧x.2.2.2.1≤e.1.2.2.2.1
 asc:H.Pairwise fun x y=>x.2.2.2.1<y.2.2.2.1
 uqh:uq (H++(e.1.2.2.1++e.2))
 bel:∀x∈H,x.1<e.1.2.2.2.2
 pin:∀x∈e.1.2.1,∃y∈H,SameC x y
 cov:∀y∈H,∀o∈e.2,o.2.2.1<y.2.2.2.1→ ∃x∈e.1.2.1,SameC x y
 outp:∀x∈e.1.2.1,∀y∈H,ahead x y=true→y.2.2.2.1<x.2.2.2.1→x.2.2.2.2.2.2.1=true
 outr:∀p∈e.1.2.2.1,∀y∈H,ahead p y=true→p.2.2.2.2.2.2.1=true
 no3:∀x∈H,∀y∈H,∀z∈H,ahead x y=true→ahead y z=true→z.2.2.2.1<y.2.2.2.1→z.2.2.2.1≤x.2.2.2.1→False
 noA:∀x∈H,∀p∈e.1.2.2.1,∀z∈H,ahead x p=true→ahead p z=true→z.2.2.2.1≤x.2.2.2.1→False
 noB:∀p∈e.1.2.2.1,∀y∈H,∀z∈H,ahead p y=true→ahead y z=true→z.2.2.2.1<y.2.2.2.1→False
 noD:∀p∈e.1.2.2.1,∀q∈e.1.2.2.1,∀z∈H,ahead p q=true→ahead q z=true→False
 noE:∀p∈e.1.2.2.1,∀q∈e.1.2.2.1,∀r∈e.1.2.2.1,ahead p q=true→ahead q r=true→False
 ww:∀x∈H,∀y∈H,x.2.2.2.1<y.2.2.2.1→p40 x.2.2.2.2.2.1 y.2.2.2.2.2.1=true→x.2.2.2.1≤y.2.2.1
 wr:∀p∈e.1.2.2.1,∀y∈H,p40 y.2.2.2.2.2.1 p.2.2.2.2.2.1=true→y.2.2.2.1≤p.2.2.1
 rr:∀p∈e.1.2.2.1,∀q∈e.1.2.2.1,p.1≠q.1→p40 p.2.2.2.2.2.1 q.2.2.2.2.2.1=true→False
structure Passed (t:u0f) (P R:List u0f):Prop where
 nb:∀x∈P++R,x.1≠t.1→(x.2.1=2∨(x.2.1=3∧x.2.2.2.1 >t.2.2.1))→p40 x.2.2.2.2.2.1 t.2.2.2.2.2.1=true→False
 d1:∀x∈P++R,∀y∈P,ahead x t=true→ahead t y=true→False
 d2:∀x∈P++R,x.2.2.2.2.2.2.1=true→ahead t x=true→False
 d3:∀p∈R,ahead p t=true→ahead t p=true→False
 d4:∀p∈R,∀x∈R,ahead p t=true→ahead x p=true→x.1≠t.1→False
end
section
abbrev r8c:=q3j×u0y
def o00:s79:=(0,t1x,emp,false,u4o)
def o4g (e:q3j):List u0f:=e.1.2.1++e.1.2.2.1
def o1j (e:q3j) (n:ByteArray) (yes:Bool):q3j×s79×Int:=
 if u1j e.1 n<0 then(e,o00,1) else if yes=true∧o2p e.1=true then(e,o00,3)
 else if yes=true then(o5a e (rdL u0k e.1.2.2.1 (u1j e.1 n).toNat),(3,t1x,n,true,u4o),0) else(noE e n,(3,t1x,n,false,u4o),0)
structure Sync (s:r8c) (b:u0h):Prop where
 eng:EngR s.1
 log:r6e s.2=true
 play:r4d (u0e s.2)=some b
 right:BaseR b
 like:Like0 b s.1.1
def o49 (s:r8c) (n:ByteArray) (yes:Bool):r8c×Int:=
 if(o1j s.1 n yes).2.2=0 then(match p78 s.2 (o1j s.1 n yes).2.1 with
  | some d=>(((o1j s.1 n yes).1,d),0)
  | none=>(s,3))
 else(s,(o1j s.1 n yes).2.2)
end
section
structure PassedR (t:u0f) (P R:List u0f):Prop extends Passed t P R where
 e1:∀x∈P++R,∀y∈R,ahead x t=true→ahead t y=true→False
 e2:∀x∈R,∀y∈R,ahead t x=true→ahead x y=true→y.1≠t.1→False
end
section
def K5:List ByteArray:= [⟨#[97]⟩,⟨#[98]⟩,⟨#[99]⟩,⟨#[100]⟩,⟨#[97,98]⟩]
structure DomT (t:u0f):Prop where
 ws:∀w∈t.2.2.2.2.2.1,w.1∈K5
 rs:∀r∈t.2.2.2.2.1,r.1∈K5∧r.2∈K5
structure DomB (b:u0h):Prop where
 vs:∀v∈b.1,v.1∈K5
 ready:∀t∈b.2.2.1,DomT t
structure DomE (e:q3j):Prop where
 base:DomB e.1
 open_:∀t∈e.2,DomT t
def Num (k:Nat) (e:q3j):Prop:=e.1.2.2.2.1≤(k:Int)∧e.1.2.2.2.2≤(k:Int)+1
structure Stt (k:Nat) (s:r8c):Prop where
 sync:∃b,Sync s b∧b.2.2.2.2≤(k:Int)+1
 dom:DomE s.1
 num:Num k s.1
end
section
structure tinyT (t:u0f):Prop where
 rl:t.2.2.2.2.1.length≤100
 rs:∀r∈t.2.2.2.2.1,r.1.size≤100∧r.2.size≤100
 wl:t.2.2.2.2.2.1.length≤100
 ws:∀w∈t.2.2.2.2.2.1,w.1.size≤100∧w.2.1.size≤100
 nm:t.2.2.2.2.2.2.2.size≤100
structure tinyB (b:u0h):Prop where
 vl:b.1.length≤10000
 vs:∀v∈b.1,v.1.size≤100∧v.2.1.size≤100
 pl:b.2.1.length≤1000
 ps:∀t∈b.2.1,tinyT t
 rl:b.2.2.1.length≤1000
 rs:∀t∈b.2.2.1,tinyT t
theorem r0w {α:Type} {f:α→Nat} {k:Nat} :∀ {l:List α},(∀x∈l,f x≤k)→(l.map f).sum≤l.length*k
 | [],_=>by simp
 | x::l,h=>by
  rw[List.map_cons,List.sum_cons,List.length_cons,Nat.succ_mul]
  have h1:=h x (by simp)
  have h2:=r0w (l:=l) (fun y hy=>h y (by simp[hy]))
  omega
theorem tinyT.wt {t:u0f} (h:tinyT t):u0k.wt t≤50000:=by
 have e1:(Ty.sl u1u).wt t.2.2.2.2.1=t.2.2.2.2.1.length+(t.2.2.2.2.1.map u1u.wt).sum:=rfl
 have e2:(Ty.sl u0w).wt t.2.2.2.2.2.1=t.2.2.2.2.2.1.length+(t.2.2.2.2.2.1.map u0w.wt).sum:=rfl
 have s1:(t.2.2.2.2.1.map u1u.wt).sum≤t.2.2.2.2.1.length*200:=r0w fun r hr=>by
  have:=h.rs r hr
  have e:u1u.wt r=r.1.size+r.2.size:=rfl
  omega
 have s2:(t.2.2.2.2.2.1.map u0w.wt).sum≤t.2.2.2.2.2.1.length*200:=r0w fun w hw=>by
  have:=h.ws w hw
  have e:u0w.wt w=w.1.size+(w.2.1.size+0):=rfl
  omega
 have:=h.rl;have:=h.wl;have:=h.nm
 rw[p2t,e1,e2]
 omega
theorem tinyT.few {t:u0f} (h:tinyT t):q8o t:=⟨by have:=h.rl;omega,by have:=h.wl;omega⟩
theorem TxnR.tiny {t:u0f} (h:TxnR t):tinyT t:=by
 obtain⟨z1,z2,z3,z4,z5⟩:=h.small
 exact⟨by have:=h.rlen;omega,fun r hr=>by have:=z1 r hr;omega,by omega,fun w hw=>by have:=z2 w hw;omega,by omega⟩
theorem tinyT.like {t u:u0f} (h:tinyT t) (e1:u.2.2.2.2.1=t.2.2.2.2.1) (e2:u.2.2.2.2.2.1=t.2.2.2.2.2.1) (e3:u.2.2.2.2.2.2.2.size≤100):tinyT u:=
 ⟨by rw[e1];exact h.rl,by rw[e1];exact h.rs,by rw[e2];exact h.wl,by rw[e2];exact h.ws,e3⟩
theorem p2r {l:List u0f} (hl:l.length≤1000) (h:∀t∈l,tinyT t):(Ty.sl u0k).wt l≤60000000:=by
 have e:(Ty.sl u0k).wt l=l.length+(l.map u0k.wt).sum:=rfl
 have s:(l.map u0k.wt).sum≤l.length*50000:=r0w fun t ht=>(h t ht).wt
 rw[e];omega
theorem tinyB.wt {b:u0h} (h:tinyB b):q3r.wt b≤200000000:=by
 have e:(Ty.sl u0c).wt b.1=b.1.length+(b.1.map u0c.wt).sum:=rfl
 have s:(b.1.map u0c.wt).sum≤b.1.length*200:=r0w fun v hv=>by
  have:=h.vs v hv
  have e:u0c.wt v=v.1.size+(v.2.1.size+(0+0)):=rfl
  omega
 have h1:=p2r h.pl h.ps
 have h2:=p2r h.rl h.rs
 have:=h.vl
 rw[s4z,e];omega
theorem p0p {l:List u0f} (hl:l.length≤1000) (h:∀t∈l,tinyT t):p4t l:=⟨by omega,fun t ht=>(h t ht).few⟩
theorem tinyB.few {b:u0h} (h:tinyB b):p0v b:=⟨by have:=h.vl;omega,p0p h.pl h.ps,p0p h.rl h.rs⟩
theorem BaseR.tiny {b:u0h} (h:BaseR b):tinyB b:=by
 obtain⟨w1,w2,w3⟩:=p5v.mp h.vs
 exact⟨by omega,fun v hv=>by have:=t9o (w1 v hv);omega,by have:=h.plen;omega,fun t ht=>(h.past t ht).1.tiny,by have:=h.rlen;omega,fun t ht=>(h.ready t ht).1.tiny⟩
theorem u7q {b:u0h} (h:tinyB b) (o:List u0f):tinyB (t43 b o):=
 ⟨Nat.le_trans (p1y _ _) h.vl,fun v hv=>h.vs v ((p1z _ _).subset hv),Nat.le_trans (u9l _ _) h.pl,fun t ht=>h.ps t (List.mem_filter.mp ht).1,h.rl,h.rs⟩
theorem r0x {b:u0h} {t:u0f} (h:BaseR b) (ht:tinyT t):tinyB (u51 b t):=by
 obtain⟨w1,w2,w3⟩:=p5v.mp h.vs
 have hb:=h.tiny
 refine⟨?_,fun v hv=> ?_,?_,fun x hx=> ?_,?_,fun x hx=> ?_⟩
 ·show(r4e b.1 t.2.2.2.2.2.1 (b.2.2.2.1+1)).length≤10000
  rw[p0c];have:=ht.wl
  have e:(t.2.2.2.2.2.1:List u0w.den).length=t.2.2.2.2.2.1.length:=rfl
  omega
 ·rcases(q98 _ _ _).mp hv with q | ⟨w,hw,rfl⟩
  ·exact hb.vs v q
  ·exact ht.ws w hw
 ·show(b.2.1++ [p3a b t]).length≤1000
  have:=h.plen
  rw[List.length_append,List.length_singleton];omega
 ·rcases List.mem_append.mp hx with q | q
  ·exact hb.ps x q
  ·rw[List.mem_singleton.mp q]
   exact ht.like rfl rfl (Nat.zero_le _)
 ·show((b.2.2.1.filter fun x=> !decide (x.1=t.1)).map (q8p (p3a b t))).length≤1000
  rw[List.length_map]
  exact Nat.le_trans (u9l _ _) hb.rl
 ·obtain⟨y,hy,rfl⟩:=List.mem_map.mp hx
  have:=hb.rs y (List.mem_filter.mp hy).1
  exact this.like rfl rfl this.nm
theorem q54 {b:u0h} {t:u0f} {n:ByteArray} (h:BaseR b) (ht:tinyT t) (hn:n.size≤100):tinyB (s3u b t n):=by
 have hb:=h.tiny
 refine⟨hb.vl,hb.vs,hb.pl,hb.ps,?_,fun x hx=> ?_⟩
 ·show((b.2.2.1.filter fun x=>y3c x.2.2.2.2.2.2.2 n)++ [p2n b t n] ++(b.2.2.1.filter fun x=> !y3c x.2.2.2.2.2.2.2 n)).length≤1000
  have f1:=u9l (fun x:u0f=>y3c x.2.2.2.2.2.2.2 n) b.2.2.1
  have f2:=u9l (fun x:u0f=> !y3c x.2.2.2.2.2.2.2 n) b.2.2.1
  have:=h.rlen
  rw[List.length_append,List.length_append,List.length_singleton];omega
 ·rcases List.mem_append.mp hx with q | q
  ·rcases List.mem_append.mp q with q | q
   ·exact hb.rs x (List.mem_filter.mp q).1
   ·rw[List.mem_singleton.mp q]
    exact ht.like rfl rfl hn
  ·exact hb.rs x (List.mem_filter.mp q).1
theorem q5y {b:u0h} {n:ByteArray} (hb:tinyB b):tinyB (s43 b n):=
 ⟨hb.vl,hb.vs,hb.pl,hb.ps,Nat.le_trans (u9l _ _) hb.rl,fun x hx=>hb.rs x (List.mem_filter.mp hx).1⟩
structure tinyR (r:s79):Prop where
 t:tinyT r.2.1
 n:r.2.2.1.size≤100
 b:tinyB r.2.2.2.2
theorem tinyR.wt {r:s79} (h:tinyR r):o2l.wt r≤549755813888:=by
 have:=h.t.wt;have:=h.n;have:=h.b.wt
 rw[r0u];omega
theorem r73:tinyT t1x:=⟨by decide,fun r hr=>(by cases hr),by decide,fun r hr=>(by cases hr),by decide⟩
theorem t74:tinyB u4o:=⟨by decide,fun r hr=>(by cases hr),by decide,fun r hr=>(by cases hr),by decide,fun r hr=>(by cases hr)⟩
theorem p6l:tinyR noR:=⟨r73,by decide,t74⟩
theorem RecR.tiny {r:s79} (h:RecR r):tinyR r:=by
 cases h with
 | thr t h hs=>exact⟨h.tiny,Nat.zero_le 100,t74⟩
 | rdy t h hs=>exact⟨h.tiny,Nat.zero_le 100,t74⟩
 | fin n y h=>exact⟨r73,by have:=u5e h;show n.size≤100;omega,t74⟩
 | bas b h=>exact⟨r73,Nat.zero_le 100,h.tiny⟩
def t7t (b:u0h) (r:s79):u0h×Bool:=match s3x b r with
 | some x=>(x,true)
 | none=>(b,false)
theorem q8a {n:Int} (h:0≤n∧n≤9999):p6i n:=⟨by omega,by omega⟩
theorem q79 {n:Int} (h:1≤n∧n≤9999):p6i n:=⟨by omega,by omega⟩
theorem r1h {b x:u0h} {r:s79} (hb:u5o b=true∧u46 r=true) {o:Bool} (hx:u8d b r=if o=true then some x else none):
 (((bif (!o) then some true else some (!u5o (t43 x []))):Option Bool).bind fun j=>bif j then some (b,false) else some (t43 x [],true))=some (t7t b r):=by
 unfold t7t s3x
 rw[if_pos hb,hx]
 cases o
 ·rfl
 ·simp only[if_true,Bool.not_true,cond_false,zOb]
  cases u5o (t43 x [])<;>rfl
theorem p1a (b:u0h) (r:s79) (hb:tinyB b) (hr:tinyR r):s48 (b,r)=some (t7t b r):=by
 have hq:u0g=1099511627776:=rfl
 rw[q66];unfold r4x
 simp only
 rw[u63 b (by have:=hb.wt;omega),r4r r hr.wt,t7x b hb.few]
 simp only[zOb]
 cases h1:u5o b
 ·unfold t7t s3x
  rw[if_neg (by simp[h1])];rfl
 ·cases h2:u46 r
  ·unfold t7t s3x
   rw[if_neg (by simp[h2])];rfl
  ·have hB:=q5t.mp h1
   have hR:=p7l.mp h2
   have hbr:u5o b=true∧u46 r=true:=⟨h1,h2⟩
   simp only[Bool.not_true,cond_false,zOb]
   have thr:∀t:u0f,TxnR t→t1o (b,t)=some (u51 b t)∧u31 (u51 b t, [])=some (t43 (u51 b t) [])∧u16 (t43 (u51 b t) [])=some (u5o (t43 (u51 b t) [])):=fun t ht=>by
    have h3:=r0x hB ht.tiny
    refine⟨?_,t3f _ _ h3.few (by simp),u63 _ (by have:=(u7q h3 []).wt;omega)⟩
    rw[q88 b t hb.few ht.tiny.few,q27 (q8a hB.cs) (q79 ht.id)]
   cases hR with
   | thr t h hs=>
    obtain⟨t1,t2,t3⟩:=thr t h
    simp only[decide_true,cond_true]
    rw[t1]
    simp only[zOb]
    rw[t2]
    simp only[zOb]
    rw[t3]
    simp only[zOb]
    rw[s1c (q8a hB.cs)]
    refine r1h (o:=decide (t.2.2.2.1=b.2.2.2.1+1)) hbr ?_
    unfold u8d
    simp only[if_true,decide_eq_true_eq]
   | rdy t h hs=>
    have hn:=u5e (h.name hs)
    have h3:=q54 (n:=t.2.2.2.2.2.2.2) hB h.tiny (by omega)
    simp only[show decide ((2:Int)=1)=false from rfl,decide_true,cond_true,cond_false]
    rw[r8a b _ (by have:=hB.rlen;omega)]
    simp only[zOb]
    rw[q3m b t _ hb.few h.tiny.few (q79 h.id)]
    simp only[zOb]
    rw[t3f _ _ h3.few (by simp),]
    simp only[zOb]
    rw[u63 _ (by have:=(u7q h3 []).wt;omega)]
    simp only[zOb]
    have e:(bif decide ((b.2.2.1.length:Int)<3) then some (decide (u1j b t.2.2.2.2.2.2.2<0)) else some false:Option Bool)=some (decide (b.2.2.1.length<3∧u1j b t.2.2.2.2.2.2.2<0)):=by
     by_cases q:b.2.2.1.length<3
     ·rw[decide_eq_true (show(b.2.2.1.length:Int)<3 by omega)];simp[q]
     ·rw[decide_eq_false (show ¬(b.2.2.1.length:Int)<3 by omega)];simp[q]
    rw[e]
    simp only[zOb]
    refine r1h (o:=decide (b.2.2.1.length<3∧u1j b t.2.2.2.2.2.2.2<0)) hbr ?_
    unfold u8d
    simp only[show((2:Int)=1)=False by simp,if_false,if_true,decide_eq_true_eq]
   | fin n y h=>
    simp only[show decide ((3:Int)=1)=false from rfl,show decide ((3:Int)=2)=false from rfl,decide_true,cond_true,cond_false]
    rw[r8a b _ (by have:=hB.rlen;omega)]
    simp only[zOb]
    have h4:=q5y (b:=b) (n:=n) hb
    have giv:t5w (b,n)=some (s43 b n):=q8s b n hb.few
    have raw:∀x,(0≤u1j b n→y=true→x=u51 b (rdL u0k b.2.2.1 (u1j b n).toNat))→(y=false→x=s43 b n)→(0≤u1j b n∨True)→u8d b (3,t1x,n,y,u4o)=if decide (u1j b n≥0)=true then some x else none:=fun x hx hx2 _=>by
     unfold u8d
     simp only[show((3:Int)=1)=False by simp,show((3:Int)=2)=False by simp,if_false,if_true]
     by_cases q:u1j b n<0
     ·rw[if_pos q,decide_eq_false (show ¬u1j b n≥0 by omega)];rfl
     ·rw[if_neg q,decide_eq_true (show u1j b n≥0 by omega)]
      cases hy:y
      ·rw[hx2 hy];rfl
      ·rw[hx (by omega) hy];rfl
    by_cases q:0≤u1j b n
    ·rw[decide_eq_true (show u1j b n≥0 from q)]
     cases hy:y
     ·simp only[cond_true,zOb,cond_false]
      rw[giv]
      simp only[zOb]
      rw[t3f _ _ h4.few (by simp)]
      simp only[zOb]
      rw[u63 _ (by have:=(u7q h4 []).wt;omega)]
      simp only[zOb]
      have:=raw (s43 b n) (fun _ k=>by rw[hy] at k;cases k) (fun _=>rfl) (.inr trivial)
      rw[hy] at this hbr
      rw[decide_eq_true (show u1j b n≥0 from q)] at this
      exact r1h (o:=true) hbr this
     ·simp only[cond_true,zOb,cond_false]
      have hk:(u1j b n).toNat<b.2.2.1.length:=by
       unfold u1j at q ⊢
       split
       ·rename_i z;rw[zTn];exact z
       ·rename_i z;rw[if_neg z] at q;omega
      obtain⟨k,hkk⟩:∃k:Nat,u1j b n=k:=⟨(u1j b n).toNat,by omega⟩
      have hg:y4q (u1j b n) b.2.2.1.length=true:=by rw[hkk];exact y7t (by rw[hkk] at hk;simpa using hk)
      rw[hg]
      simp only[cond_true]
      have hT:TxnR (rdL u0k b.2.2.1 (u1j b n).toNat):=by
       rw[y8k hk];exact(hB.ready _ (List.getElem_mem hk)).1
      obtain⟨t1,t2,t3⟩:=thr _ hT
      rw[t1]
      simp only[zOb]
      rw[t2]
      simp only[zOb]
      rw[t3]
      simp only[zOb]
      have:=raw (u51 b (rdL u0k b.2.2.1 (u1j b n).toNat)) (fun _ _=>rfl) (fun k=>by rw[hy] at k;cases k) (.inr trivial)
      rw[hy] at this hbr
      rw[decide_eq_true (show u1j b n≥0 from q)] at this
      exact r1h (o:=true) hbr this
    ·rw[decide_eq_false (show ¬u1j b n≥0 from q)]
     simp only[cond_false,zOb]
     rw[giv]
     simp only[zOb]
     rw[t3f _ _ h4.few (by simp)]
     simp only[zOb]
     have:=raw (s43 b n) (fun k=>absurd k q) (fun _=>rfl) (.inr trivial)
     rw[decide_eq_false (show ¬u1j b n≥0 from q)] at this
     exact r1h (o:=false) hbr this
   | bas c h=>
    simp only[show decide ((4:Int)=1)=false from rfl,show decide ((4:Int)=2)=false from rfl,show decide ((4:Int)=3)=false from rfl,cond_false]
    rw[t7x c h.tiny.few]
    simp only[zOb]
    rw[t3f _ _ h.tiny.few (by simp)]
    simp only[zOb]
    rw[u63 _ (by have:=(u7q h.tiny []).wt;omega)]
    simp only[zOb]
    exact r1h (o:=true) hbr (by unfold u8d;simp)
end
section
theorem q6r (d:u0y) (hd:q6y.wt d≤1073741824):t9g d=some (u0e d):=by
 rw[q17];unfold s9m
 simp only[q6l d (show q6y.wt d≤u0g by unfold u0g;omega),r4q d _ hd,zOb];rfl
end
section
theorem p4d (b:u0h) (r:s79) (hB:BaseR b) (hR:RecR r):s12 (b,r)=some (match u8d b r with
 | some x=>(x,true)
 | none=>(b,false)):=by
 have hb:=hB.tiny
 have thr:∀t:u0f,TxnR t→t1s (b,t)=some (u51 b t):=fun t ht=>by
  rw[q89 b t hb.few ht.tiny.few,p1w (q8a hB.cs) (q79 ht.id)]
 rw[q5b];unfold r3i u8d
 cases hR with
 | thr t h hs=>
  simp only[decide_true,cond_true,if_true]
  rw[s1c (q8a hB.cs),thr t h]
  by_cases q:t.2.2.2.1=b.2.2.2.1+1
  ·rw[decide_eq_true q,if_pos q];rfl
  ·rw[decide_eq_false q,if_neg q];rfl
 | rdy t h hs=>
  simp only[show decide ((2:Int)=1)=false from rfl,show((2:Int)=1)=False by simp,decide_true,decide_false,cond_true,cond_false,if_true,if_false]
  rw[r8b b _ (by have:=hB.rlen;omega)]
  simp only[zOb]
  rw[q3n b t _ hb.few h.tiny.few (q79 h.id)]
  simp only[zOb]
  by_cases q:b.2.2.1.length<3
  ·rw[decide_eq_false (show ¬(b.2.2.1.length:Int)≥3 by omega)]
   simp only[cond_false,zOb]
   by_cases q2:u1j b t.2.2.2.2.2.2.2<0
   ·rw[decide_eq_false (show ¬u1j b t.2.2.2.2.2.2.2≥0 by omega),if_pos ⟨q,q2⟩];rfl
   ·rw[decide_eq_true (show u1j b t.2.2.2.2.2.2.2≥0 by omega),if_neg (fun z=>q2 z.2)];rfl
  ·rw[decide_eq_true (show(b.2.2.1.length:Int)≥3 by omega),if_neg (fun z=>q z.1)];rfl
 | fin n y h=>
  simp only[show decide ((3:Int)=1)=false from rfl,show decide ((3:Int)=2)=false from rfl,show((3:Int)=1)=False by simp,show((3:Int)=2)=False by simp,decide_true,decide_false,cond_true,cond_false,if_true,if_false]
  rw[r8b b _ (by have:=hB.rlen;omega)]
  simp only[zOb]
  by_cases q:u1j b n<0
  ·rw[decide_eq_true q,if_pos q];rfl
  ·rw[decide_eq_false q,if_neg q]
   simp only[cond_false]
   rw[q8t b n hb.few]
   simp only[zOb]
   have hk:(u1j b n).toNat<b.2.2.1.length:=by
    unfold u1j at q ⊢
    split
    ·rename_i z;rw[zTn];exact z
    ·rename_i z;rw[if_neg z] at q;omega
   obtain⟨k,hkk⟩:∃k:Nat,u1j b n=k:=⟨(u1j b n).toNat,by omega⟩
   have hg:y4q (u1j b n) b.2.2.1.length=true:=by rw[hkk];exact y7t (by rw[hkk] at hk;simpa using hk)
   have hT:TxnR (rdL u0k b.2.2.1 (u1j b n).toNat):=by
    rw[y8k hk];exact(hB.ready _ (List.getElem_mem hk)).1
   rw[hg,thr _ hT]
   cases y
   ·rfl
   ·rfl
 | bas c h=>
  simp only[show decide ((4:Int)=1)=false from rfl,show decide ((4:Int)=2)=false from rfl,show decide ((4:Int)=3)=false from rfl,show((4:Int)=1)=False by simp,show((4:Int)=2)=False by simp,show((4:Int)=3)=False by simp,decide_false,cond_false,if_false]
  rw[t7y c h.tiny.few];rfl
theorem p6q {b:u0h} {r:s79} {x:u0h} (hB:BaseR b) (hR:RecR r) (h:u8d b r=some x):tinyB x:=by
 unfold u8d at h
 cases hR with
 | thr t ht hs=>
  simp only[if_true] at h
  split at h
  ·rw[←Option.some.inj h];exact r0x hB ht.tiny
  ·cases h
 | rdy t ht hs=>
  simp only[show((2:Int)=1)=False by simp,if_true,if_false] at h
  split at h
  ·rw[←Option.some.inj h];exact q54 hB ht.tiny (by have:=u5e (ht.name hs);omega)
  ·cases h
 | fin n y hn=>
  simp only[show((3:Int)=1)=False by simp,show((3:Int)=2)=False by simp,if_true,if_false] at h
  split at h
  ·cases h
  ·rename_i q
   have hk:(u1j b n).toNat<b.2.2.1.length:=by
    unfold u1j at q ⊢
    split
    ·rename_i z;rw[zTn];exact z
    ·rename_i z;rw[if_neg z] at q;omega
   split at h
   ·rw[←Option.some.inj h]
    refine r0x hB ?_
    rw[y8k hk];exact(hB.ready _ (List.getElem_mem hk)).1.tiny
   ·rw[←Option.some.inj h];exact q5y hB.tiny
 | bas c hc=>
  simp only[show((4:Int)=1)=False by simp,show((4:Int)=2)=False by simp,show((4:Int)=3)=False by simp,if_false] at h
  rw[←Option.some.inj h];exact hc.tiny
theorem p1b (b:u0h) (r:s79) (hb:tinyB b) (hr:tinyR r):s5p (b,r)=some (t7t b r):=by
 have hq:u0g=1099511627776:=rfl
 rw[q7x];unfold r5q
 simp only
 rw[t44 b (by have:=hb.wt;omega),r4s r hr.wt,t7y b hb.few]
 simp only[zOb]
 cases h1:u5o b
 ·unfold t7t s3x
  rw[if_neg (by simp[h1])];rfl
 ·cases h2:u46 r
  ·unfold t7t s3x
   rw[if_neg (by simp[h2])];rfl
  ·have hB:=q5t.mp h1
   have hR:=p7l.mp h2
   simp only[Bool.not_true,cond_false,zOb]
   rw[p4d b r hB hR]
   simp only[zOb]
   unfold t7t s3x
   rw[if_pos ⟨h1,h2⟩]
   cases hx:u8d b r with
   | none=>rfl
   | some x=>
    have h3:=p6q hB hR hx
    simp only[Bool.not_true,cond_false]
    rw[r35 _ _ h3.few (by simp)]
    simp only[zOb]
    rw[t44 _ (by have:=(u7q h3 []).wt;omega)]
    simp only[zOb]
    cases u5o (t43 x [])<;>rfl
theorem q8c {b x:u0h} {r:s79} (h:s3x b r=some x):BaseR x∧RecR r:=by
 unfold s3x at h
 split at h
 ·rename_i q
  split at h
  ·cases h
  ·split at h
   ·rename_i z
    rw[←Option.some.inj h]
    exact⟨q5t.mp z,p7l.mp q.2⟩
   ·cases h
 ·cases h
theorem q55 (t:ByteArray):tinyR (t1v t).1:=by
 unfold t1v
 cases h:u3y t with
 | none=>exact p6l
 | some r=>exact(r6j h).1.tiny
theorem p2e (b:u0h) (t:ByteArray) (l:List ByteArray):r0o b (t::l)=bif !(t1v t).2 || !(t7t b (t1v t).1).2 then none else r0o (t7t b (t1v t).1).1 l:=by
 unfold t1v t7t
 simp only[r0o]
 cases u3y t with
 | none=>rfl
 | some r=>
  simp only
  cases s3x b r with
  | none=>rfl
  | some x=>rfl
def p0x (l:List ByteArray):u0h×Bool:=match r4d l with
 | some b=>(b,true)
 | none=>(u4o,false)
theorem q8y (d:u0y) (hd:q6y.wt d≤1073741824) (ht:∀t∈u0e d,t.size≤u0g) (hl:(u0e d).length≤1000000):t1n d=some (p0x (u0e d)):=by
 have L:=s4v u4k (u0e d).length (fun(b:u0h) i=>(u4o,b,u0e d,((u0e d).length:Int),i)) (fun i b=>match r0o b ((u0e d).drop i) with
  | some x=> .inl (u4o,x)
  | none=> .inr (u4o,false)) (fun _ b=>BaseR b)
  (fun b hb=>by
   rw[s7i];simp only[t11,u0b,Nat.lt_irrefl,decide_false,cond_false]
   rw[List.drop_length];rfl)
  (fun i b hi hb=>by
   have hm:=List.getElem_mem hi
   have hd:(u0e d).drop i=(u0e d)[i] ::(u0e d).drop (i+1):=List.drop_eq_getElem_cons hi
   have hw:u4k (u4o,b,u0e d,((u0e d).length:Int),(i:Int))=bif !(t1v (u0e d)[i]).2 || !(t7t b (t1v (u0e d)[i]).1).2 then some (.inr (u4o,false)) else u4k (u4o,(t7t b (t1v (u0e d)[i]).1).1,u0e d,((u0e d).length:Int),((i+1:Nat):Int)):=by
    rw[s7i];simp only[t11,u0b,hi,decide_true,cond_true,y7t hi,zTn,y8k (t:=Ty.str) hi,y7l (show i<4611686018427387904 by omega)]
    rw[q0u _ (ht _ hm)]
    simp only[zOb]
    rw[p1a b _ hb.tiny (q55 _)]
    simp only[zOb]
    cases (t1v (u0e d)[i]).2<;>cases (t7t b (t1v (u0e d)[i]).1).2<;>rfl
   rw[hw,hd,p2e]
   cases hc:(!(t1v (u0e d)[i]).2 || !(t7t b (t1v (u0e d)[i]).1).2)
   ·refine .inr ⟨(t7t b (t1v (u0e d)[i]).1).1,?_,?_,rfl⟩
    ·unfold t7t at hc ⊢
     cases hp:s3x b (t1v (u0e d)[i]).1 with
     | none=>rw[hp] at hc;simp at hc
     | some x=>exact(q8c hp).1
    ·simp only[cond_false]
   ·exact .inl rfl) 0 p9e (Nat.zero_le _) p41
 rw[q3y];unfold r14
 rw[q3t];unfold r1w
 rw[q6q d hd]
 simp only[zOb]
 have L' :u4k ((([], [], [],0,0):u0h),(([], [], [],0,1):u0h),u0e d,((u0e d).length:Int),0)=_:=L
 rw[L',List.drop_zero]
 unfold p0x r4d
 cases r0o p9e (u0e d)<;>rfl
theorem q8z (d:u0y) (hd:q6y.wt d≤1073741824) (ht:∀t∈u0e d,t.size≤u0g) (hl:(u0e d).length≤1000000):t1r d=some (p0x (u0e d)):=by
 have L:=s4v u4l (u0e d).length (fun(b:u0h) i=>(u4o,b,u0e d,i)) (fun i b=>match r0o b ((u0e d).drop i) with
  | some x=> .inl (u4o,x)
  | none=> .inr (u4o,false)) (fun _ b=>BaseR b)
  (fun b hb=>by
   rw[s7v];simp only[t2e,u0b,Nat.lt_irrefl,decide_false,cond_false]
   rw[List.drop_length];rfl)
  (fun i b hi hb=>by
   have hm:=List.getElem_mem hi
   have hd:(u0e d).drop i=(u0e d)[i] ::(u0e d).drop (i+1):=List.drop_eq_getElem_cons hi
   have hw:u4l (u4o,b,u0e d,(i:Int))=bif !(t1v (u0e d)[i]).2 || !(t7t b (t1v (u0e d)[i]).1).2 then some (.inr (u4o,false)) else u4l (u4o,(t7t b (t1v (u0e d)[i]).1).1,u0e d,((i+1:Nat):Int)):=by
    rw[s7v];simp only[t2e,u0b,hi,decide_true,cond_true,y7t hi,zTn,y8k (t:=Ty.str) hi,y7l (show i<4611686018427387904 by omega)]
    rw[q0v _ (ht _ hm)]
    simp only[zOb]
    rw[p1b b _ hb.tiny (q55 _)]
    simp only[zOb]
    cases (t1v (u0e d)[i]).2<;>cases (t7t b (t1v (u0e d)[i]).1).2<;>rfl
   rw[hw,hd,p2e]
   cases hc:(!(t1v (u0e d)[i]).2 || !(t7t b (t1v (u0e d)[i]).1).2)
   ·refine .inr ⟨(t7t b (t1v (u0e d)[i]).1).1,?_,?_,rfl⟩
    ·unfold t7t at hc ⊢
     cases hp:s3x b (t1v (u0e d)[i]).1 with
     | none=>rw[hp] at hc;simp at hc
     | some x=>exact(q8c hp).1
    ·simp only[cond_false]
   ·exact .inl rfl) 0 p9e (Nat.zero_le _) p41
 rw[q4t];unfold r2z
 rw[q4p];unfold r2v
 rw[q6r d hd]
 simp only[zOb]
 have L' :u4l ((([], [], [],0,0):u0h),(([], [], [],0,1):u0h),u0e d,0)=_:=L
 rw[L',List.drop_zero]
 unfold p0x r4d
 cases r0o p9e (u0e d)<;>rfl
end
section
def txP (t:u0f):ByteArray×Bool:=if u4x t=true then(u6s t,true) else(emp,false)
def t4w (l m:List u0f):Bool:=decide (l.map txP=m.map txP)
theorem p2h (a b:ByteArray×Bool):(bif a.2==b.2 then z7o a.1 b.1 else false)=decide (a=b):=by
 obtain⟨a1,a2⟩:=a
 obtain⟨b1,b2⟩:=b
 rw[Bool.eq_iff_iff,decide_eq_true_eq,Prod.mk.injEq]
 cases a2<;>cases b2<;>simp[y7f]
theorem q97 {l m:List u0f} (h:l.length=m.length):((List.range l.length).all fun i=>decide (txP (rdL u0k l i)=txP (rdL u0k m i)))=t4w l m:=by
 unfold t4w
 rw[Bool.eq_iff_iff,List.all_eq_true,decide_eq_true_eq]
 constructor
 ·intro k
  apply List.ext_getElem (by simp[h])
  intro i h1 h2
  rw[List.getElem_map,List.getElem_map]
  rw[List.length_map] at h1 h2
  have:=k i (List.mem_range.mpr h1)
  rw[decide_eq_true_eq,y8k h1,y8k h2] at this
  exact this
 ·intro k i hi
  have h1:=List.mem_range.mp hi
  have h2:i<m.length:=by omega
  rw[decide_eq_true_eq,y8k h1,y8k h2]
  have e:(l.map txP)[i]'(by simpa using h1)=(m.map txP)[i]'(by simpa using h2):=by simp only[k]
  rwa [List.getElem_map,List.getElem_map] at e
theorem q20 {l m:List u0f} (h:l.length≠m.length):t4w l m=false:=by
 unfold t4w
 rw[decide_eq_false_iff_not]
 intro e
 have:=congrArg List.length e
 rw[List.length_map,List.length_map] at this
 exact h this
theorem q5q (l m:List u0f) (hl:l.length≤1000) (h1:∀t∈l,tinyT t) (h2:∀t∈m,tinyT t):u1b (l,m,())=some (t4w l m):=by
 rw[u8l];unfold u3u
 simp only
 by_cases h:l.length=m.length
 ·have L:=u7t u06 l.length (fun i=>(m,(),l,(l.length:Int),i)) (fun i=>decide (txP (rdL u0k l i)=txP (rdL u0k m i))) (.inl ()) (.inr false)
   (by rw[u3e];simp only[u05,u0b,Nat.lt_irrefl,decide_false,cond_false])
   (fun i hi=>by
    have hm1:rdL u0k l i∈l:=by rw[y8k hi];exact List.getElem_mem hi
    have hi2:i<m.length:=by omega
    have hm2:rdL u0k m i∈m:=by rw[y8k hi2];exact List.getElem_mem hi2
    have k1:=t6k (rdL u0k l i) (by have:=(h1 _ hm1).wt;omega)
    have k2:=t6k (rdL u0k m i) (by have:=(h2 _ hm2).wt;omega)
    rw[u3e];simp only[u05,u0b,hi,decide_true,cond_true,y7t hi,y7t hi2,zTn,y7l (show i<4611686018427387904 by omega)]
    rw[q1t];unfold s88
    simp only
    rw[k1,k2]
    simp only[zOb]
    rw[←p2h]
    unfold txP
    generalize (if u4x (rdL u0k l i)=true then(u6s (rdL u0k l i),true) else(emp,false))=a
    generalize (if u4x (rdL u0k m i)=true then(u6s (rdL u0k m i),true) else(emp,false))=b
    cases a.2==b.2
    ·rfl
    ·simp only[cond_true,zOb]
     cases z7o a.1 b.1<;>rfl)
  rw[q97 h] at L
  rw[L,decide_eq_true (show(l.length:Int)=(m.length:Int) by omega)]
  cases t4w l m<;>rfl
 ·rw[decide_eq_false (show ¬(l.length:Int)=(m.length:Int) by omega),q20 h];rfl
theorem q5r (l m:List u0f) (hl:l.length≤1000) (h1:∀t∈l,tinyT t) (h2:∀t∈m,tinyT t):t4v (l,m)=some (t4w l m):=by
 rw[q2i];unfold s9y
 simp only
 by_cases h:l.length=m.length
 ·have L:=u7t t0v l.length (fun i=>(l,m,i)) (fun i=>decide (txP (rdL u0k l i)=txP (rdL u0k m i))) (.inl ()) (.inr false)
   (by rw[s4r];simp only[t0f,u0b,Nat.lt_irrefl,decide_false,cond_false])
   (fun i hi=>by
    have hm1:rdL u0k l i∈l:=by rw[y8k hi];exact List.getElem_mem hi
    have hi2:i<m.length:=by omega
    have hm2:rdL u0k m i∈m:=by rw[y8k hi2];exact List.getElem_mem hi2
    have k1:=t6l (rdL u0k l i) (by have:=(h1 _ hm1).wt;omega)
    have k2:=t6l (rdL u0k m i) (by have:=(h2 _ hm2).wt;omega)
    rw[s4r];simp only[t0f,u0b,hi,decide_true,cond_true,y7t hi,y7t hi2,zTn,y7l (show i<4611686018427387904 by omega)]
    rw[k1,k2]
    simp only[zOb]
    rw[←p2h]
    unfold txP
    generalize (if u4x (rdL u0k l i)=true then(u6s (rdL u0k l i),true) else(emp,false))=a
    generalize (if u4x (rdL u0k m i)=true then(u6s (rdL u0k m i),true) else(emp,false))=b
    cases a.2==b.2
    ·rfl
    ·simp only[cond_true,zOb,Bool.not_true,cond_false]
     cases z7o a.1 b.1<;>rfl)
  rw[q97 h] at L
  rw[L,decide_eq_true (show(l.length:Int)=(m.length:Int) by omega)]
  cases t4w l m<;>rfl
 ·rw[decide_eq_false (show ¬(l.length:Int)=(m.length:Int) by omega),q20 h];rfl
end
section
theorem p50 (n:Nat) (hn:n≤1099511627776):u49 ((),(n:Int))=some [] :=by
 rw[t9x];unfold t07
 have e0:IntKind.i64.wrap ((0:Int) - (0:Int))=0:=by rw[y4y (by omega) (by omega)];rfl
 have e1:IntKind.i64.wrap ((n:Int) - 0)=(n:Int):=by rw[y4y (by omega) (by omega)];omega
 have e2:decide ((n:Int)<0)=false:=decide_eq_false (by omega)
 simp only[e0,e1,e2,cond_false]
 by_cases h:n=0
 ·subst h;simp
 ·have e3:decide ((n:Int) >0)=true:=by simp;omega
  have e4:(decide ((1:Int)≤(n:Int))&&decide ((n:Int)≤1099511627776))=true:=by simp;omega
  simp only[e3,e4,cond_true]
  simp
theorem p22 (ls:List (List u3g)) (h:ls.flatten.length≤1099511627776) (hn:ls.length≤1099511627776):u4w ls=some ls.flatten:=by
 have fl:∀(i:Nat),i≤ls.length→(ls.take i).flatten.length≤ls.flatten.length:=fun i _=>by
  have:=List.take_append_drop i ls
  have h2:ls.flatten=(ls.take i).flatten++(ls.drop i).flatten:=by rw[←List.flatten_append,this]
  rw[h2,List.length_append];omega
 have st:∀(i:Nat) (hi:i<ls.length),(ls.take (i+1)).flatten=(ls.take i).flatten++ls[i] :=fun i hi=>by
  rw[List.take_add_one,List.getElem?_eq_getElem hi,List.flatten_append];simp
 have L1:=s4v u1t ls.length (fun(n:Nat) i=>(ls,(n:Int),ls,(ls.length:Int),i)) (fun _ _=> .inl (ls,(ls.flatten.length:Int))) (fun i n=>n=(ls.take i).flatten.length)
  (fun n hP=>by
   rw[List.take_length] at hP;subst hP
   rw[u62];simp only[u2c,u0b,Nat.lt_irrefl,decide_false,cond_false])
  (fun i n hi hP=> .inr ⟨(ls.take (i+1)).flatten.length,rfl,rfl,by
   have h1:=fl (i+1) (by omega)
   have h2:(ls.take (i+1)).flatten.length=n+ls[i].length:=by rw[st i hi,List.length_append,hP]
   have e1:IntKind.i64.wrap ((n:Int)+((ls[i].length:Nat):Int))=((n+ls[i].length:Nat):Int):=by rw[y4y (by omega) (by omega)];omega
   have e2:decide (((n+ls[i].length:Nat):Int)<0)=false:=by simp;omega
   rw[u62];simp only[u2c,u0b,hi,decide_true,cond_true,y7t hi,zTn,y8k (t:=Ty.sl u0c) hi,y7l (show i<4611686018427387904 by omega),h2]
   rw[e1,e2];rfl⟩) 0 0 (by omega) rfl
 have L2:=s4v u1q ls.length (fun(a:List u3g) i=>(a,ls,(ls.length:Int),i)) (fun _ _=> .inl ls.flatten) (fun i a=>a=(ls.take i).flatten)
  (fun a hP=>by
   rw[List.take_length] at hP;subst hP
   rw[u6o];simp only[u15,u0b,Nat.lt_irrefl,decide_false,cond_false])
  (fun i a hi hP=> .inr ⟨(ls.take (i+1)).flatten,rfl,rfl,by
   have h1:=fl (i+1) (by omega)
   have h2:(ls.take (i+1)).flatten.length=a.length+ls[i].length:=by rw[st i hi,List.length_append,hP]
   rw[u6o];simp only[u15,u0b,hi,decide_true,cond_true,y7t hi,zTn,y8k (t:=Ty.sl u0c) hi,y7l (show i<4611686018427387904 by omega)]
   rw[u1d (show a.length+ls[i].length≤1099511627776 by omega),st i hi,hP];rfl⟩) 0 [] (by omega) rfl
 rw[t7r];unfold u84
 have L1' :u1t (ls,(0:Int),ls,(ls.length:Int),0)=some (.inl (ls,(ls.flatten.length:Int))):=L1
 have L2' :u1q ([],ls,(ls.length:Int),0)=some (.inl ls.flatten):=L2
 simp only[L1',zOb,p50 _ h,L2']
def p4g:q5p:=((⟨#[97]⟩:ByteArray),(⟨#[122,122,122]⟩:ByteArray))
def s01 (a b:List u3g) (s:Int):Bool:=decide (r3y a p4g s=r3y b p4g s)
def r6m (a b:List u3g) (s:Int):Bool:=s01 a b s&&(a++b).all fun v=>decide (v.2.2.2≤s) || s01 a b v.2.2.2
def p3i (a b:u0h):Bool:=decide (a.2.2.2.1=b.2.2.2.1)&&(t4w a.2.1 b.2.1&&(t4w a.2.2.1 b.2.2.1&&r6m a.1 b.1 a.2.2.2.1))
theorem q2y (a b:List u3g) (s:Int) (ha:a.length≤10000) (hb:b.length≤10000):t0y (s,(a,b))=some (s01 a b s):=by
 rw[r7d];unfold s2f
 rw[q4a];unfold r2j
 simp only[zOb]
 rw[q0w a _ s (by omega),q0w b _ s (by omega)]
 simp only[zOb]
 rw[p26 _ _ (by have:=q57 a ((⟨#[97]⟩:ByteArray),(⟨#[122,122,122]⟩:ByteArray)) s;omega)]
 rfl
theorem q2z (a b:List u3g) (s:Int) (ha:a.length≤10000) (hb:b.length≤10000):u33 (a,(p4g,s))=some (r3y a p4g s)∧u33 (b,(p4g,s))=some (r3y b p4g s)∧u6m (r3y a p4g s,r3y b p4g s)=some (s01 a b s):=
 ⟨q0x a _ s (by omega),q0x b _ s (by omega),p27 _ _ (by have:=q57 a p4g s;omega)⟩
theorem q6s (a b:List u3g) (s:Int) (ha:a.length≤10000) (hb:b.length≤10000):t8x (a,b,s)=some (r6m a b s):=by
 have hC:=p22 [a,b] (by simp only[List.flatten_cons,List.flatten_nil,List.append_nil,List.length_append];omega) (by simp)
 rw[show[a,b].flatten=a++b by simp] at hC
 have hl:(a++b).length≤20000:=by rw[List.length_append];omega
 generalize hg:a++b=g at hC hl
 have L:=u7t t0j g.length (fun i=>(s,(a,b),g,(g.length:Int),i)) (fun i=>(fun v:u3g=>decide (v.2.2.2≤s) || s01 a b v.2.2.2) (rdL u0c g i)) (.inl (s,(a,b))) (.inr false)
  (by rw[s38];simp only[u9w,u0b,Nat.lt_irrefl,decide_false,cond_false])
  (fun i hi=>by
   rw[s38];simp only[u9w,u0b,hi,decide_true,cond_true,y7t hi,zTn,y7l (show i<4611686018427387904 by omega),s91 (rdL u0c g i).2.2.2 s]
   rw[q2y a b _ ha hb]
   cases decide ((rdL u0c g i).2.2.2≤s)
   ·cases s01 a b (rdL u0c g i).2.2.2<;>rfl
   ·rfl)
 rw[t4e (t:=u0c) g (fun v:u3g=>decide (v.2.2.2≤s) || s01 a b v.2.2.2)] at L
 rw[q1k];unfold s80
 simp only
 rw[hC]
 simp only[zOb]
 rw[L]
 unfold r6m
 rw[hg]
 cases g.all fun v:u3g=>decide (v.2.2.2≤s) || s01 a b v.2.2.2
 ·simp
 ·simp only[cond_true,zOb,Bool.and_true]
  rw[q2y a b _ ha hb];rfl
theorem q6t (a b:List u3g) (s:Int) (ha:a.length≤10000) (hb:b.length≤10000):t9j (a,b,s)=some (r6m a b s):=by
 have hl:(a++b).length=a.length+b.length:=List.length_append
 have L:=u7t t0r (a++b).length (fun i=>(a,b,s,p4g,i)) (fun i=>(fun v:u3g=>decide (v.2.2.2≤s) || s01 a b v.2.2.2) (rdL u0c (a++b) i)) (.inl ()) (.inr false)
  (by
   rw[s4j];simp only[u97]
   rw[y4y (n:=(a.length:Int)+(b.length:Int)) (by omega) (by omega),decide_eq_false (show ¬((a++b).length:Int)<(a.length:Int)+(b.length:Int) by omega)];rfl)
  (fun i hi=>by
   obtain⟨k1,k2,k3⟩:=q2z a b (rdL u0c (a++b) i).2.2.2 ha hb
   rw[s4j];simp only[u97]
   rw[y4y (n:=(a.length:Int)+(b.length:Int)) (by omega) (by omega),decide_eq_true (show(i:Int)<(a.length:Int)+(b.length:Int) by omega)]
   simp only[cond_true,y7l (show i<4611686018427387904 by omega)]
   by_cases h:i<a.length
   ·have e:rdL u0c (a++b) i=rdL u0c a i:=by
     rw[y8k hi,y8k h];exact List.getElem_append_left h
    rw[e] at k1 k2 k3 ⊢
    rw[decide_eq_true (show(i:Int)<(a.length:Int) by omega)]
    simp only[cond_true,y7t h,zTn,s91 (rdL u0c a i).2.2.2 s]
    rw[k1,k2]
    simp only[zOb]
    rw[k3]
    cases decide ((rdL u0c a i).2.2.2≤s)
    ·cases s01 a b (rdL u0c a i).2.2.2<;>rfl
    ·rfl
   ·have h2:i - a.length<b.length:=by omega
    have e:rdL u0c (a++b) i=rdL u0c b (i - a.length):=by
     rw[y8k hi,y8k h2];exact List.getElem_append_right (by omega)
    have ew:IntKind.i64.wrap ((i:Int) - (a.length:Int))=((i - a.length:Nat):Int):=by rw[y4y (by omega) (by omega)];omega
    rw[e] at k1 k2 k3 ⊢
    rw[decide_eq_false (show ¬(i:Int)<(a.length:Int) by omega),ew]
    simp only[cond_false,cond_true,y7t h2,zTn,s91 (rdL u0c b (i - a.length)).2.2.2 s]
    rw[k1,k2]
    simp only[zOb]
    rw[k3]
    cases decide ((rdL u0c b (i - a.length)).2.2.2≤s)
    ·cases s01 a b (rdL u0c b (i - a.length)).2.2.2<;>rfl
    ·rfl)
 rw[t4e (t:=u0c) (a++b) (fun v:u3g=>decide (v.2.2.2≤s) || s01 a b v.2.2.2)] at L
 obtain⟨k1,k2,k3⟩:=q2z a b s ha hb
 rw[q2c];unfold s9r
 rw[q73];unfold r5w
 simp only[zOb]
 rw[show((⟨#[97]⟩:ByteArray),(⟨#[122,122,122]⟩:ByteArray))=p4g from rfl,k1,k2]
 simp only[zOb]
 rw[k3]
 simp only[zOb]
 rw[L]
 unfold r6m
 cases s01 a b s
 ·rfl
 ·cases (a++b).all fun v:u3g=>decide (v.2.2.2≤s) || s01 a b v.2.2.2<;>rfl
theorem q8w (a b:u0h) (ha:tinyB a) (hb:tinyB b):t4i (a,b)=some (p3i a b):=by
 rw[q1f];unfold s8v p3i
 simp only
 rw[q5q _ _ ha.pl ha.ps hb.ps,q5q _ _ ha.rl ha.rs hb.rs,q6s _ _ _ ha.vl hb.vl]
 simp only[zOb]
 cases decide (a.2.2.2.1=b.2.2.2.1)<;>cases t4w a.2.1 b.2.1<;>cases t4w a.2.2.1 b.2.2.1<;>rfl
theorem q8x (a b:u0h) (ha:tinyB a) (hb:tinyB b):t4q (a,b)=some (p3i a b):=by
 rw[q16];unfold s9l p3i
 simp only
 rw[q5r _ _ ha.pl ha.ps hb.ps,q5r _ _ ha.rl ha.rs hb.rs,q6t _ _ _ ha.vl hb.vl]
 simp only[zOb]
 cases decide (a.2.2.2.1=b.2.2.2.1)<;>cases t4w a.2.1 b.2.1<;>cases t4w a.2.2.1 b.2.2.1<;>rfl
end
section
theorem p0i (t:ByteArray) (a:Int):(u0q t a).1.size≤20000:=by
 unfold u0q
 split
 ·rename_i hc
  have:=s30 hc.1
  simp only[ByteArray.size_extract];omega
 ·exact Nat.zero_le _
theorem r8y (t:ByteArray):∀(m:Nat) (a:Int) (acc:List ByteArray),(∀s∈acc,s.size≤20000)→ ∀s∈(s2t t m a acc).1,s.size≤20000
 | 0,a,acc,h=>h
 | m+1,a,acc,h=>by
  unfold s2t
  split
  ·refine r8y t m _ _ fun s hs=> ?_
   rcases List.mem_append.mp hs with q | q
   ·exact h s q
   ·rw[List.mem_singleton.mp q];exact p0i _ _
  ·intro s hs;cases hs
theorem q5d (d:u0y) (a:Int):∀s∈(u3t d a).1,s.size≤20000:=by
 unfold u3t
 split
 ·exact r8y _ _ _ _ fun s hs=>by cases hs
 ·intro s hs;cases hs
theorem r3u (d:u0y):∀s∈u0e d,s.size≤20000:=q5d d _
theorem r87 (d:u0y):(u0e d).length<256:=p0g d _
theorem q80 (d:u0y) (hd:q6y.wt d≤1073741824):t1n d=some (p0x (u0e d)):=
 q8y d hd (fun t ht=>by have:=r3u d t ht;unfold u0g;omega) (by have:=r87 d;omega)
theorem q5o (d:u0y) (hd:q6y.wt d≤1073741824):t1r d=some (p0x (u0e d)):=
 q8z d hd (fun t ht=>by have:=r3u d t ht;unfold u0g;omega) (by have:=r87 d;omega)
theorem p2l:∀ {l:List ByteArray} {b x:u0h},BaseR b→r0o b l=some x→BaseR x
 | [],b,x,hb,h=>by rw[←Option.some.inj h];exact hb
 | t::l,b,x,hb,h=>by
  simp only[r0o] at h
  split at h
  ·cases h
  ·split at h
   ·cases h
   ·rename_i r _ y hy
    exact p2l (q8c hy).1 h
theorem p0b {l:List ByteArray} {x:u0h} (h:r4d l=some x):BaseR x:=p2l p41 h
theorem q2s (l:List ByteArray):tinyB (p0x l).1:=by
 unfold p0x
 cases h:r4d l with
 | none=>exact t74
 | some b=>exact(p0b h).tiny
def s5r (s:q3j×u0y):Bool:=q76 s.1&&(r6e s.2&&((p0x (u0e s.2)).2&&p3i (p0x (u0e s.2)).1 (t43 s.1.1 [])))
theorem p19 {b:u0h} {o:List u0f} (h:s4w.wt (b,o)≤1048576):p0v b∧p4t o:=by
 have e1:=p4p (b,o)
 have e2:=s4z b
 simp only at e1
 have f:∀l:List u0f,(Ty.sl u0k).wt l≤1048576→p4t l:=fun l hl=>by
  refine⟨by have:=t1b (t:=u0k) l;omega,fun t ht=> ?_⟩
  have h1:=r0z ht
  have h2:=p2t t
  have h3:=t1b (t:=u1u) t.2.2.2.2.1
  have h4:=t1b (t:=u0w) t.2.2.2.2.2.1
  exact⟨by omega,by omega⟩
 exact⟨⟨by have:=t1b (t:=u0c) b.1;omega,f _ (by omega),f _ (by omega)⟩,f _ (by omega)⟩
theorem q84 (s:q3j×u0y) (hw:r5z.wt s≤1048576):s1h s=some (s5r s):=by
 have hb:u0g=1099511627776:=rfl
 have e:r5z.wt s=s4w.wt s.1+q6y.wt s.2:=rfl
 have hf:=p19 (b:=s.1.1) (o:=s.1.2) (by have:s4w.wt (s.1.1,s.1.2)=s4w.wt s.1:=rfl
                                        omega)
 rw[q32];unfold r2b s5r
 rw[q80 s.2 (by omega),q6o s.1 (by omega),q5k s.2 (by omega)]
 simp only[zOb]
 rw[t3f s.1.1 [] hf.1 (by simp)]
 simp only[zOb]
 cases h1:q76 s.1
 ·rfl
 ·have hE:=p93.mp h1
  rw[q8w _ _ (q2s _) (u7q hE.base.tiny [])]
  cases r6e s.2<;>cases (p0x (u0e s.2)).2<;>rfl
theorem q85 (s:q3j×u0y) (hw:r5z.wt s≤1048576):s1v s=some (s5r s):=by
 have hb:u0g=1099511627776:=rfl
 have e:r5z.wt s=s4w.wt s.1+q6y.wt s.2:=rfl
 have hf:=p19 (b:=s.1.1) (o:=s.1.2) (by have:s4w.wt (s.1.1,s.1.2)=s4w.wt s.1:=rfl
                                        omega)
 rw[q4y];unfold r24 s5r
 rw[q5o s.2 (by omega),q6p s.1 (by omega),q5l s.2 (by omega)]
 simp only[zOb]
 rw[r35 s.1.1 [] hf.1 (by simp)]
 simp only[zOb]
 cases h1:q76 s.1
 ·rfl
 ·have hE:=p93.mp h1
  rw[q8x _ _ (q2s _) (u7q hE.base.tiny [])]
  cases r6e s.2<;>cases (p0x (u0e s.2)).2<;>rfl
end
section
def o25:r8c:=((u4o, []),([], []))
def q2x (d:u0y):r8c×Bool:=if r6e d=true∧(p0x (u0e d)).2=true then((((p0x (u0e d)).1, []),d),true) else(o25,false)
theorem p4e (d:u0y) (hd:q6y.wt d≤10000000):t60 d=some (q2x d):=by
 have hb:u0g=1099511627776:=rfl
 rw[r9s];unfold s51 q2x
 rw[q80 d (by omega),q5k d (by omega),p23 d (by omega)]
 simp only[zOb]
 cases r6e d<;>cases (p0x (u0e d)).2<;>rfl
theorem p4f (d:u0y) (hd:q6y.wt d≤10000000):t65 d=some (q2x d):=by
 have hb:u0g=1099511627776:=rfl
 rw[q0b];unfold s6i q2x
 rw[q5o d (by omega),q5l d (by omega),p24 d (by omega)]
 simp only[zOb]
 cases r6e d<;>cases (p0x (u0e d)).2<;>rfl
theorem p0k (d:u0y):tinyB (q2x d).1.1.1:=by
 unfold q2x
 split
 ·exact q2s _
 ·exact t74
def p6e (s:r8c):Bool:=s5r s&&((q2x s.2).2&&p3i (q2x s.2).1.1.1 (t43 s.1.1 []))
theorem q23 {s:r8c} (h:s5r s=true):EngR s.1:=by
 unfold s5r at h
 simp only[Bool.and_eq_true] at h
 exact p93.mp h.1
theorem p39 (w:r8w.den) (hw:r5z.wt w.1≤1048576):t6y w=some (p6e w.1):=by
 have e:r5z.wt w.1=s4w.wt w.1.1+q6y.wt w.1.2:=rfl
 have hf:=p19 (b:=w.1.1.1) (o:=w.1.1.2) (by have:s4w.wt (w.1.1.1,w.1.1.2)=s4w.wt w.1.1:=rfl
                                            omega)
 rw[r9o];unfold s5x p6e
 rw[p4e w.1.2 (by omega),q84 w.1 hw]
 simp only[zOb]
 rw[t3f w.1.1.1 [] hf.1 (by simp)]
 simp only[zOb]
 cases h1:s5r w.1
 ·cases (q2x w.1.2).2<;>rfl
 ·have hE:=q23 h1
  rw[q8w _ _ (p0k _) (u7q hE.base.tiny [])]
  cases (q2x w.1.2).2<;>rfl
theorem p4a (w:r8w.den) (hw:r5z.wt w.1≤1048576):t63 w=some (p6e w.1):=by
 have e:r5z.wt w.1=s4w.wt w.1.1+q6y.wt w.1.2:=rfl
 have hf:=p19 (b:=w.1.1.1) (o:=w.1.1.2) (by have:s4w.wt (w.1.1.1,w.1.1.2)=s4w.wt w.1.1:=rfl
                                            omega)
 rw[r98];unfold s6f p6e
 rw[p4f w.1.2 (by omega),q85 w.1 hw]
 simp only[zOb]
 rw[r35 w.1.1.1 [] hf.1 (by simp)]
 simp only[zOb]
 cases h1:s5r w.1
 ·rfl
 ·have hE:=q23 h1
  rw[q8x _ _ (p0k _) (u7q hE.base.tiny [])]
  cases (q2x w.1.2).2<;>rfl
end
section
theorem r1r (x:r8w.den) (hx:r8w.fine x):t4p x=some true:=by
 rw[s41];unfold t4d
 refine p8o (p6z x _ hx (by omega) (by omega)) (fun c1=> ?_)
 have wx:r8w.wt x≤1099511627776:=by omega
 have hw:r8w.wt x=r5z.wt x.1+((Ty.sl u0k).wt x.2.1+((Ty.sl (Ty.int .i64)).wt x.2.2.1+(Ty.sl Ty.str).wt x.2.2.2)):=rfl
 simp only[p63 x wx,p4a x (by omega),p39 x (by omega),p58 x wx,zOb,beq_self_eq_true,Bool.not_true,cond_false]
end
end
end Go.Proofs.YtbkicjpdlchbgaaGreat.Ab
