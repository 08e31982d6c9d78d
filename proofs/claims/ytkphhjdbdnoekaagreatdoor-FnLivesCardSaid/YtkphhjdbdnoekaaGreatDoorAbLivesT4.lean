import Derived.Test.YtkphhjdbdnoekaaGreatDoorAbLivesT3
import Derived.Test.YtkphhjdbdnoekaaGreatDoorAbK2
import Derived.Test.YtkphhjdbdnoekaaGreatDoorAbF4
import Derived.Test.YtkphhjdbdnoekaaGreatDoorAbS2
import Derived.Test.YtkphhjdbdnoekaaGreatDoorAbS4
import Derived.Test.YtkphhjdbdnoekaaGreatDoorAbS6
namespace Go.Proofs.YtkphhjdbdnoekaaGreatDoor.Ab
open Go Go.IntKind
set_option linter.unusedVariables false
set_option linter.unusedSimpArgs false
set_option linter.unnecessarySimpa false
set_option linter.unusedSectionVars false
theorem s4i {s:Hs} (c:Cur) (hs:s.size<=u0i):u3g (s,c)=some ((u20 s c).1,s,(u20 s c).2):=by
 rw[j0i];unfold p3h u20;simp only[p6w s c.1 hs,zOb];cases h1:c.2
 .cases h2:(u0x s c.1).2.2<;>simp
 .simp
theorem s7w {s:Hs} (c:Cur) (hs:s.size<=u0i):u2e (s,c)=some ((u29 s c).1,s,(u29 s c).2):=by
 rw[p1l];unfold r0h u29;simp only[q8f s c.1 hs,zOb];cases h1:c.2
 .cases h2:(u0p s c.1).2.2
  .simp[emp]
  .simp
 .simp[emp]
theorem p39 {s:Hs} {c:Cur} (hc:inT s c) (hs:s.size<=u0i):u9q (s,c)=some ((p48 s c).1,s,(p48 s c).2):=by
 have hb:u0i=1099511627776:=rfl;unfold inT at hc;obtain⟨k,hk⟩:∃k:Nat,c.1=k:=⟨c.1.toNat,by omega⟩;rw[p6d];unfold r6q p48;simp only[hk];cases h1:c.2
 .by_cases h2:k<s.size
  .have e1:decide ((k:Int)>=(s.size:Int))=false:=A7 (by omega);have e3:i64.wrap ((k:Int)+1)=(k:Int)+1:=y5f (by omega) (by omega);have e5:i64.wrap ((k:Int)+1 - 1)=k:=by rw[y5f (by omega) (by omega)];omega
   rw[e1,e3,e5];simp only[Aa,zOb,y8h h2,Ad,zTn,gt1,eq1];rw[show(s.data.toList.getD k 0).toNat=u94 s k from rfl];by_cases h3:1<u94 s k
   .simp[h3]
   .have h3' :u94 s k<=1:=by omega
    simp[h3,h3',h2]
  .have e1:decide ((k:Int)>=(s.size:Int))=true:=Bb (by omega);rw[e1];simp only[Aa,zOb,Ad];rw[Al (.inr (.inl (by omega)))]
 .simp
theorem o1e {n k:Int} {i:Nat} {c:Cur} (h:min n.toNat k.toNat<=i\/c.2=true):((bif decide ((i:Int)<n) then(bif decide ((i:Int)<k) then some (!c.2) else some false) else some false:Ht Bool))=some false:=by
 rcases h with h | h
 .by_cases q:(i:Int)<n
  .rw[Bb q,A7 (show ¬(i:Int)<k by omega)];rfl
  .rw[A7 q];rfl
 .rw[h];cases decide ((i:Int)<n)<;>cases decide ((i:Int)<k)<;>rfl
theorem p5p {n k:Int} {i:Nat} {c:Cur} (h:i<min n.toNat k.toNat) (hc:c.2=false):((bif decide ((i:Int)<n) then(bif decide ((i:Int)<k) then some (!c.2) else some false) else some false:Ht Bool))=some true:=by
 rw[Bb (show(i:Int)<n by omega),Bb (show(i:Int)<k by omega),hc];rfl
theorem d0u {s:Hs} (hs:s.size<=u0i) (z t:u0e) (n:Int) {c:Cur} (hc:inT s c) (ht:t.2.2.2.2.1= []):
 t4z (z,(s,c),t,n,0)=some (.inl (z,(s,(u3b (j0x s) (min n.toNat 10) c []).2),(t.1,t.2.1,t.2.2.1,t.2.2.2.1,(u3b (j0x s) (min n.toNat 10) c []).1,t.2.2.2.2.2))):=by
 have L:=s7g (s:=s) t4z (fun(c:Cur) (a:Hu s5b) i=>(z,(s,c),((t.1,t.2.1,t.2.2.1,t.2.2.2.1,a,t.2.2.2.2.2):u0e),n,i))
  (fun(c:Cur) (a:Hu s5b)=>(z,(s,c),((t.1,t.2.1,t.2.2.1,t.2.2.2.1,a,t.2.2.2.2.2):u0e))) (j0x s) (min n.toNat 10) (q52 (q6s s))
  (fun c a i h=>by rw[q3f];simp only[s1y];rw[o1e (k:=10) h];rfl)
  (fun c a i h hc2 hin ha=>by
   rw[q3f];simp only[s1y];rw[p5p (k:=10) h hc2];simp only[zOb,Ad];rw[s7w c hs];simp only[zOb];rw[s7w _ hs];simp only[zOb];rw[p47 (by simp;omega),y7x (by omega)];rfl) (min n.toNat 10) 0 c [] (by omega) hc (by simp)
 obtain⟨t1,t2,t3,t4,t5,t6⟩:=t;simp only at ht;subst ht;exact L
theorem d3h {s:Hs} (hs:s.size<=u0i) (z t:u0e) (n:Int) {c:Cur} (hc:inT s c) (ht:t.2.2.2.2.2.1= []):
 t2b (z,(s,c),t,n,0)=some (.inl (z,(s,(u3b (rWr s) (min n.toNat 10) c []).2),(t.1,t.2.1,t.2.2.1,t.2.2.2.1,t.2.2.2.2.1,(u3b (rWr s) (min n.toNat 10) c []).1,t.2.2.2.2.2.2))):=by
 have L:=s7g (s:=s) t2b (fun(c:Cur) (a:Hu WrT) i=>(z,(s,c),((t.1,t.2.1,t.2.2.1,t.2.2.2.1,t.2.2.2.2.1,a,t.2.2.2.2.2.2):u0e),n,i))
  (fun(c:Cur) (a:Hu WrT)=>(z,(s,c),((t.1,t.2.1,t.2.2.1,t.2.2.2.1,t.2.2.2.2.1,a,t.2.2.2.2.2.2):u0e))) (rWr s) (min n.toNat 10) (q52 (p4k s))
  (fun c a i h=>by rw[r8o];simp only[t85];rw[o1e (k:=10) h];rfl)
  (fun c a i h hc2 hin ha=>by
   rw[r8o];simp only[t85];rw[p5p (k:=10) h hc2];simp only[zOb,Ad];rw[s7w c hs];simp only[zOb];rw[s7w _ hs];simp only[zOb];rw[p39 (t06 (t06 hin).1).1 hs];simp only[zOb];rw[p47 (by simp;omega),y7x (by omega)];rfl) (min n.toNat 10) 0 c [] (by omega) hc (by simp)
 obtain⟨t1,t2,t3,t4,t5,t6,t7⟩:=t;simp only at ht;subst ht;exact L
theorem j7n {s:Hs} (hs:s.size<=1048576) {a:Int} (hc:inT s (a,false)):
 s60 (s,a)=some (if(u81 10 s (a,false)).2.2=true then(u6a,0,false) else((u81 10 s (a,false)).1,(u81 10 s (a,false)).2.1,true)):=by
 have hb:u0i=1099511627776:=rfl;have hs' :s.size<=u0i:=by omega
 have hw:=o34 10 s (a,false) hc;have hin:=hc;unfold inT at hin;simp only at hin;have hwt:u01.wt (o0f 10 s (a,false)).1<=u0i:=by
  have h1:=hw.1;unfold inT at h1;have:=(t2h (o0f 10 s (a,false)).2 (k:=20) (by omega)).2;have:=hw.2;simp only at this;omega
 have hk:=s3f _ hwt;rw[o58];unfold q9e;unfold u81;unfold o0f at hk ⊢;simp only at hk ⊢;rw[s4i _ hs'];simp only[zOb];have i1:=(u2i hc).1;rw[s4i _ hs'];simp only[zOb];have i2:=(u2i i1).1;rw[s4i _ hs'];simp only[zOb];have i3:=(u2i i2).1;rw[s4i _ hs'];simp only[zOb];have i4:=(u2i i3).1;rw[s4i _ hs'];simp only[zOb];have i5:=(u2i i4).1;rw[d0u hs' _ _ _ i5 rfl];simp only[zOb];have i6:=(s07 (by omega) (q6s s) (min (u20 s (u20 s (u20 s (u20 s (u20 s (a,false)).2).2).2).2).1.toNat 10) (u20 s (u20 s (u20 s (u20 s (u20 s (a,false)).2).2).2).2).2 [] i5).1;rw[s4i _ hs'];simp only[zOb];have i7:=(u2i i6).1;rw[d3h hs' _ _ _ i7 rfl];simp only[zOb];rw[p39 (s07 (by omega) (p4k s) _ _ [] i7).1 hs'];simp only[zOb];rw[s7w _ hs'];simp only[zOb];rw[hk];simp only[zOb];generalize u29 s _=z;generalize u92 _=o;cases h:z.2.2<;>cases o<;>simp[u6a,emp]
theorem j4p {s:Hs} (hs:s.size<=1048576) (m:Nat) (hm:m<=1000) {c:Cur} (hc:inT s c):
 ∃(l:Hu u0e) (c' :Cur),t69 ((s,c),(m:Int))=some (l,s,c')/\inT s c' /\c'.2=(t5p 10 (m+1) s c).2.2/\c.1+((Ty.sl u01).wt l:Nat)<=c'.1+22/\(c'.2=false->(l,c')=t5p 10 (m+1) s c):=by
 have hb:u0i=1099511627776:=rfl;obtain⟨h1,h2,h3,h4⟩:=u2i hc;rw[p37];unfold r23 t5p;simp only;rw[s4i c (by omega)];simp only[zOb];generalize u20 s c=y at h1 h2 h3 h4 ⊢
 have key:∀(k i:Nat) (d:Cur) (a:Hu u0e),i+k=min y.1.toNat (m+1)->inT s d->a.length<=i->y.2.1+((a.length+(a.map u01.wt).sum:Nat):Int)<=d.1+bad d 20->
  ∃(r:((Hs×Cur)×Hu u0e)⊕((Hs×Cur)×Hu u0e)) (l:Hu u0e) (c' :Cur),u8v ((s,d),(m:Int),a,y.1,(i:Int))=some r/\(r= .inl ((s,c'),l)\/r= .inr ((s,c'),l))/\inT s c' /\c'.2=(u3b (u81 10 s) k d a).2.2/\
   y.2.1+((l.length+(l.map u01.wt).sum:Nat):Int)<=c'.1+bad c' 20/\(c'.2=false->(l,c')=u3b (u81 10 s) k d a):=by
  intro k
  induction k with
  | zero=>
   intro i d a hi hd ha hw;refine⟨_,a,d,?_, .inl rfl,hd,rfl,hw,fun _=>rfl⟩;rw[t1z];simp only[u6b];have:(bif decide ((i:Int)<y.1) then(bif decide ((i:Int)<=(m:Int)) then some (!d.2) else some false) else some false:Ht Bool)=some false:=by
    by_cases q:(i:Int)<y.1
    .rw[Bb q,A7 (show ¬(i:Int)<=m by omega)];rfl
    .rw[A7 q];rfl
   rw[this];rfl
  | succ k ih=>
   intro i d a hi hd ha hw;by_cases q:d.2=true
   .refine⟨_,a,d,?_, .inl rfl,hd,by rw[s06 q],hw,fun z=>by rw[q] at z;cases z⟩;rw[t1z];simp only[u6b];have:(bif decide ((i:Int)<y.1) then(bif decide ((i:Int)<=(m:Int)) then some (!d.2) else some false) else some false:Ht Bool)=some false:=by
     rw[q];cases decide ((i:Int)<y.1)<;>cases decide ((i:Int)<=(m:Int))<;>rfl
    rw[this];rfl
   .have q' :d.2=false:=by simpa using q
    have ed:d=(d.1,false):=by rw[←q']
    have hx:=j7n hs (a:=d.1) (by rw[←ed];exact hd);rw[←ed] at hx;have he:=r7v 10 s d hd;have hbd:bad d 20=0:=by unfold bad;rw[Ao q]
    have c1:(bif decide ((i:Int)<y.1) then(bif decide ((i:Int)<=(m:Int)) then some (!d.2) else some false) else some false:Ht Bool)=some true:=by
     rw[Bb (show(i:Int)<y.1 by omega),Bb (show(i:Int)<=m by omega),q'];rfl
    simp only[u3b];rw[Ao q];cases z:(u81 10 s d).2.2
    .rw[Ao (by rw[z];simp)] at hx;have hbz:bad (u81 10 s d).2 20=0:=by unfold bad;rw[Ao (by rw[z];simp)]
     obtain⟨r,l,c',e1,e2,e3,e4,e5,e6⟩:=ih (i+1) (u81 10 s d).2 (a++ [(u81 10 s d).1]) (by omega) he.1 (by simp;omega) (by
      have:=he.2;rw[hbd] at hw;rw[hbz] at this ⊢;simp only[Ba,Aw,Dh,C8,Eh,Fn,Ge,Gq];omega)
     refine⟨r,l,c',?_,e2,e3,e4,e5,e6⟩;rw[←e1,t1z];simp only[u6b];rw[c1];simp only[zOb,Ad];rw[hx];simp only[zOb,Ap,Aa];rw[p47 (by simp;omega),y7x (by omega),q'];have:(u81 10 s d).2=((u81 10 s d).2.1,false):=by rw[←z]
     rw[this]
    .rw[Al z] at hx;refine⟨_,a,(d.1,true),?_, .inr rfl,hd,by rw[s06 z,z],?_,fun w=>by cases w⟩
     .rw[t1z];simp only[u6b];rw[c1];simp only[zOb,Ad];rw[hx];rfl
     .rw[hbd] at hw;have:bad ((d.1,true):Cur) 20=20:=rfl;rw[this];simp only;omega
 have hb0:0<=bad y.2 20:=(t2h _ (by omega)).1;obtain⟨r,l,c',e1,e2,e3,e4,e5,e6⟩:=key (min y.1.toNat (m+1)) 0 y.2 [] (by omega) h1 (by simp) (by simp only[Cc,Eh,Gq];omega);have e1' :u8v ((s,y.2),(m:Int), [],y.1,0)=some r:=e1;refine⟨l,c',?_,e3,e4,?_,e6⟩
 .rw[e1'];rcases e2 with e2 | e2<;>rw[e2] <;>rfl
 .have e:(Ty.sl u01).wt l=l.length+(l.map u01.wt).sum:=rfl;rw[e];have t1:=(t2h y.2 (k:=1) (by omega)).2;have t2:=(t2h c' (k:=20) (by omega)).2;omega
def d2f:Lim:=⟨10,130,13,4⟩
theorem d5i:d2f.ok:=⟨by decide,by decide,by decide,by decide⟩
theorem d07 {s:Hs} (hs:s.size<=u0i) (z b:u0m) (n:Int) {c:Cur} (hc:inT s c) (ht:b.1= []):
 t2a (z,(s,c),b,n,0)=some (.inl (z,(s,(u3b (j0z s) (min n.toNat 130) c []).2),((u3b (j0z s) (min n.toNat 130) c []).1,b.2))):=by
 have L:=s7g (s:=s) t2a (fun(c:Cur) (a:Hu u4n) i=>(z,(s,c),((a,b.2):u0m),n,i))
  (fun(c:Cur) (a:Hu u4n)=>(z,(s,c),((a,b.2):u0m))) (j0z s) (min n.toNat 130) (q52 (q6u s))
  (fun c a i h=>by rw[r8n];simp only[t84];rw[o1e (k:=130) h];rfl)
  (fun c a i h hc2 hin ha=>by
   rw[r8n];simp only[t84];rw[p5p (k:=130) h hc2];simp only[zOb,Ad];rw[s7w c hs];simp only[zOb];rw[s7w _ hs];simp only[zOb];rw[p39 (t06 (t06 hin).1).1 hs];simp only[zOb];rw[s4i _ hs];simp only[zOb];rw[p47 (by simp;omega),y7x (by omega)];rfl) (min n.toNat 130) 0 c [] (by omega) hc (by simp)
 obtain⟨b1,b2⟩:=b;simp only at ht;subst ht;exact L
theorem j9w {s:Hs} (hs:s.size<=1048576) {a:Int} (hc:inT s (a,false)):
 r1l (s,a)=some (if(t99 d2f s (a,false)).2.2=true then(u70,0,false) else((t99 d2f s (a,false)).1,(t99 d2f s (a,false)).2.1,true)):=by
 have hb:u0i=1099511627776:=rfl;have hs' :s.size<=u0i:=by omega
 have hw:=j0w d2f (s:=s) hc;have hk:=s5l (r7y d2f s (a,false)).1 (by have:=hw.2;omega);rw[o2x];unfold q5g;unfold t99;unfold r7y at hk ⊢;simp only at hk ⊢;rw[s4i _ hs'];simp only[zOb];have i1:=(u2i hc).1;rw[s4i _ hs'];simp only[zOb];have i2:=(u2i i1).1;rw[s4i _ hs'];simp only[zOb];have i3:=(u2i i2).1;rw[d07 hs' _ _ _ i3 rfl];simp only[zOb];have i4f:=s07 (by omega) (q6u s) (min (u20 s (u20 s (u20 s (a,false)).2).2).1.toNat 130) (u20 s (u20 s (u20 s (a,false)).2).2).2 [] i3;rw[show d2f.v=130 from rfl,show d2f.t=10 from rfl,show d2f.p=12+1 from rfl,show d2f.r=3+1 from rfl] at hk ⊢;generalize hvs:u3b (j0z s) (min (u20 s (u20 s (u20 s (a,false)).2).2).1.toNat 130) (u20 s (u20 s (u20 s (a,false)).2).2).2 [] =vs at hk i4f ⊢;obtain⟨i4,i4w⟩:=i4f;obtain⟨l1,d1,e1,e2,e3,e4,e5⟩:=j4p hs 12 (by omega) i4;obtain⟨l2,d2,f1,f2,f3,f4,f5⟩:=j4p hs 3 (by omega) e2;rw[show((12:Nat):Int)=12 from rfl] at e1;rw[show((3:Nat):Int)=3 from rfl] at f1
 rw[e1];simp only[zOb];rw[f1];simp only[zOb];cases z:d2.2
 .have z1:d1.2=false:=by
   cases w:d1.2
   .rfl
   .have:(t5p 10 (3+1) s d1).2.2=true:=q6t w;rw[←f3,z] at this;cases this
  have g1:=e5 z1;have g2:=f5 z;rw[←g1];rw[←g1] at hk;simp only at hk ⊢;rw[←g2];rw[←g2] at hk;simp only at hk ⊢;rw[hk];simp only[zOb,z,Aa,Ci];generalize t0z _=o;cases o<;>simp[u70]
 .have zz:(t5p 10 (3+1) s (t5p 10 (12+1) s vs.2).2).2.2=true:=by
   cases w:d1.2
   .have g1:=e5 w;rw[←g1];show(t5p 10 (3+1) s d1).2.2=true;rw[←f3];exact z
   .exact q6t (by rw[←e3];exact w)
  rw[zz];simp[u70]
theorem o83 (t:Hs) (ht:t.size<=u0i):r09 t=some (match t95 t with
 | some s=>(s,true) | none=>(emp,false)):=by
 have hb:u0i=1099511627776:=rfl;rw[o2a];unfold q4u t95;by_cases h4:t.size<4
 .rw[Bb (by omega),Ao (by omega)];rfl
 .rw[A7 (by omega),y5f (n:=(t.size:Int) - 4) (by omega) (by omega)];have c1:(decide ((0:Int)<=0)&&decide ((0:Int)<=(t.size:Int) - 4)&&decide ((t.size:Int) - 4<=(t.size:Int)))=true:=by simp;omega
  have e1:((t.size:Int) - 4).toNat=t.size - 4:=by omega
  rw[c1,e1,show((0:Int)).toNat=0 from rfl];have hz:(t.extract 0 (t.size - 4)).size=t.size - 4:=by simp
  simp only[Aa,Ad];rw[s97 _ (by rw[hz];omega)];simp only[zOb];unfold o4c;rw[hz];by_cases h5:t.size - 4<=20000
  .rw[Al h5];simp only[Ap,Aa,zOb];by_cases h6:p13 (t.extract 0 (t.size - 4))=t
   .rw[Al ⟨by omega,h5,h6⟩,y7r.mpr h6];rfl
   .rw[Ao (fun q=>h6 q.2.2),o4h.mpr h6];rfl
  .rw[Ao h5,Ao (fun q=>h5 q.2.1)];rfl
theorem j4h {t:Hs} (h:4<=t.size):p13 (t.extract 0 (t.size - 4))=t↔t.extract (t.size - 4) t.size=d9s (d5v (t.extract 0 (t.size - 4))):=by
 have e:t.extract 0 (t.size - 4)++t.extract (t.size - 4) t.size=t:=by
  rw[ByteArray.extract_append_extract,Nat.zero_min,Nat.max_eq_right (by omega)];exact Fu
 unfold p13;constructor
 .intro q;have:=e.trans q.symm;exact ByteArray.append_right_inj (t.extract 0 (t.size - 4)) |>.mp this
 .intro q;rw[←q,e]
theorem j76 (t:Hs) (ht:t.size<=1099511627776):r32 t=some (d5v t):=by
 rw[p7w];unfold q5l;rw[p6y _ _ ht];rfl
theorem j89 (x:Int):s64 x=some (d9s x):=by
 rw[p0c];rfl
theorem o84 (t:Hs) (ht:t.size<=u0i):r1n t=some (match t95 t with
 | some s=>(s,true) | none=>(emp,false)):=by
 have hb:u0i=1099511627776:=rfl;rw[o22];unfold q5m t95;rw[y5f (n:=(t.size:Int) - 4) (by omega) (by omega)];by_cases h4:t.size<4
 .rw[Bb (show(t.size:Int) - 4<0 by omega),Ao (by omega)];rfl
 .rw[A7 (show ¬(t.size:Int) - 4<0 by omega)];have c1:(decide ((0:Int)<=0)&&decide ((0:Int)<=(t.size:Int) - 4)&&decide ((t.size:Int) - 4<=(t.size:Int)))=true:=by simp;omega
  have c2:(decide ((0:Int)<=(t.size:Int) - 4)&&decide ((t.size:Int) - 4<=(t.size:Int))&&decide ((t.size:Int)<=(t.size:Int)))=true:=by simp;omega
  have e1:((t.size:Int) - 4).toNat=t.size - 4:=by omega
  rw[c1,c2,e1,show((0:Int)).toNat=0 from rfl,zTn];have hz:(t.extract 0 (t.size - 4)).size=t.size - 4:=by simp
  simp only[Aa,Ad];by_cases h5:t.size - 4<=20000
  .rw[A7 (show ¬(t.size:Int) - 4 >20000 by omega),j76 _ (by rw[hz];omega)];simp only[zOb,Aa];rw[j89];simp only[zOb];by_cases h6:p13 (t.extract 0 (t.size - 4))=t
   .rw[Al ⟨by omega,h5,h6⟩,(j4h (by omega)).mp h6,y6w];rfl
   .rw[Ao (fun q=>h6 q.2.2),o4h.mpr (mt (j4h (t:=t) (by omega)).mpr h6)];rfl
  .rw[Bb (show(t.size:Int) - 4 >20000 by omega),Ao (fun q=>h5 q.2.1)];rfl
def noR:r2l:=(0,u6a,emp,false,u70)
def s08 (t:Hs):r2l×Bool:=match u7g t with
 | some r=>(r,true) | none=>(noR,false)
theorem d2x {t:Hs} {r:r2l} (h:u0v r=(t,true)):u7g t=some r:=by
 have hr:u86 r=true:=by
  cases q:u86 r with
  | true=>rfl | false=>
   unfold u0v at h;rw[Ao (by simp[q])] at h;simp at h
 have hR:=d37.mp hr;rw[s7s hR] at h;rw[←(Dv h).1];exact j4e hR
theorem d2w {t s:Hs} {r:r2l} (hu:t95 t=some s) (h:u7g t=some r):RecR r/\s=p10 r/\u0v r=(t,true):=by
 obtain⟨h1,h2⟩:=p4m h;have hs:=s91 h1;have:=p4v (t:=p10 r) (by omega);rw[←h2,hu] at this;exact⟨h1,Ds this,by rw[s7s h1,←h2]⟩
theorem q7m {t s:Hs} {r' :r2l} {b:Bool} (hu:t95 t=some s) (hr:∀r,RecR r->s=p10 r->r' =r/\b=false):
 (((bif b then some true else(bif (!(u0v r').2) then some true else some (!z7q (u0v r').1 t))):Ht Bool).bind fun j=>bif j then some (noR,false) else some (r',true))=some (s08 t):=by
 unfold s08;cases h:u7g t with
 | some r=>
  obtain⟨h1,h2,h3⟩:=d2w hu h;obtain⟨e1,e2⟩:=hr r h1 h2;subst e1;rw[e2,h3];simp only[Aa,Ap,y6w,zOb]
 | none=>
  cases b
  .cases h2:(u0v r').2
   .rfl
   .have:z7q (u0v r').1 t=false:=by
     rw[o4h];intro e;have:=d2x (t:=t) (r:=r') (by rw[←e,←h2]);rw[h] at this;cases this
    rw[this];rfl
  .rfl
theorem j6w (s:Hs):((s.data.toList.getD 0 0).toNat:Int)=(u94 s 0:Int):=rfl
theorem j2l (s:Hs) (i:Nat):u94 s i<256:=by unfold u94;exact Fw _
theorem p4w {t s:Hs} (h:t95 t=some s):s.size<=20000:=by
 unfold t95 at h;split at h
 .rename_i q;have:=Ds h;rw[←this];simp;omega
 .cases h
theorem c4l (k:Nat):decide ((k:Int)=3)=decide (k=3):=by simp;omega
theorem c4m (k:Nat):decide ((k:Int)=4)=decide (k=4):=by simp;omega
theorem p44:u01.wt u6a=0:=rfl
theorem p43:d7h.wt u70=0:=rfl
theorem j67 (m:Nat) {s:Hs} (hs:s.size<=20000) (h1:1<=s.size):u01.wt (u81 m s (1,false)).1<=30000:=by
 have h:=r7v m s (1,false) ⟨by simp,by simp;omega⟩;have h2:=h.1;unfold inT at h2;have:=(t2h (u81 m s (1,false)).2 (k:=20) (by omega)).2;have:=h.2;simp only at this;omega
theorem j32 (m:Lim) {s:Hs} (hs:s.size<=20000) (h1:1<=s.size):d7h.wt (t99 m s (1,false)).1<=30000:=by
 have h:=j0w m (s:=s) (c:=(1,false)) ⟨by simp,by simp;omega⟩;have e:(t99 m s (1,false)).1=(r7y m s (1,false)).1:=rfl;rw[e];have:=h.2;omega
theorem o0w (t:Hs) (ht:t.size<=u0i):s5r t=some (s08 t):=by
 have hb:u0i=1099511627776:=rfl;rw[p5t];unfold r56;rw[o83 t ht];simp only[zOb];cases hu:t95 t with
 | none=>
  unfold s08 u7g;rw[hu];rfl
 | some s=>
  have hs:=p4w hu;simp only[t9u];by_cases h0:s.size=0
  .unfold s08 u7g;rw[hu];simp only;rw[Al h0,Bb h0];rfl
  .have hin:inT s (1,false):=⟨by simp,by simp;omega⟩;rw[A7 h0];simp only[Ap,Aa,zOb];rw[show y4v (0:Int) s.size=true from y8h (i:=0) (by omega)];simp only[Ad,show((0:Int)).toNat=0 from rfl,j6w];rw[y5f (n:=(u94 s 0:Int)) (by omega) (by have:=j2l s 0;omega),c4l,c4m];by_cases h3:u94 s 0=3
   .rw[Bb h3,s7v _ (by omega)];simp only[Ad,zOb];rw[p38 _ (by omega)];simp only[zOb];have hf:=(t06 hin).2;have hg:=(t06 hin).1;unfold inT at hg;have:=(t2h (u29 s (1,false)).2 (k:=1) (by omega)).2;simp only at hf;have hk:=t7f ((u94 s 0:Int),u6a,(u29 s (1,false)).1,(p48 s (u29 s (1,false)).2).1,u70) (by rw[q6y];simp only[p44,p43];omega);rw[show((0:Int),(0:Int),(0:Int),(0:Int),([] :Hu s5b),([] :Hu WrT),false,(⟨#[]⟩:Hs))=u6a from rfl];rw[show(([] :Hu u4n),([] :Hu u0e),([] :Hu u0e),(0:Int),(0:Int))=u70 from rfl];rw[hk];simp only[zOb];refine q7m hu (b:=(p48 s (u29 s (1,false)).2).2.2) fun r h1 h2=> ?_
    have:=s51 h1;rw[←h2] at this;unfold t7a at this;rw[Al h3] at this;rw[h3];exact⟨(Dv this).1,(Dv this).2⟩
   .rw[A7 h3];by_cases h4:u94 s 0=4
    .rw[Bb h4,j9v (by omega) hin];simp only[Ad,Aa,zOb];have hk:=t7f ((u94 s 0:Int),u6a,emp,false,(t99 d5g s (1,false)).1) (by rw[q6y];simp only[p44];have:=j32 d5g hs (by omega);simp only[emp,ByteArray.size];simp;omega);rw[show((0:Int),(0:Int),(0:Int),(0:Int),([] :Hu s5b),([] :Hu WrT),false,(⟨#[]⟩:Hs))=u6a from rfl];rw[show(([] :Hu u4n),([] :Hu u0e),([] :Hu u0e),(0:Int),(0:Int))=u70 from rfl];rw[show((⟨#[]⟩:Hs))=emp from rfl];rw[hk];simp only[zOb];refine q7m hu (b:=(t99 d5g s (1,false)).2.2) fun r h1 h2=> ?_
     have:=s51 h1;rw[←h2] at this;unfold t7a at this;rw[Ao h3,Al h4] at this;have hl:=o7z j53 d5h (Dv this).2;rw[h4,hl];exact⟨(Dv this).1,(Dv this).2⟩
    .rw[A7 h4,j07 (by omega) hin];simp only[Ad,Aa,zOb];have hk:=t7f ((u94 s 0:Int),(u81 1000000000 s (1,false)).1,emp,false,u70) (by rw[q6y];simp only[p43];have:=j67 1000000000 hs (by omega);simp only[emp,ByteArray.size];simp;omega);rw[show((0:Int),(0:Int),(0:Int),(0:Int),([] :Hu s5b),([] :Hu WrT),false,(⟨#[]⟩:Hs))=u6a from rfl];rw[show(([] :Hu u4n),([] :Hu u0e),([] :Hu u0e),(0:Int),(0:Int))=u70 from rfl];rw[show((⟨#[]⟩:Hs))=emp from rfl];rw[hk];simp only[zOb];refine q7m hu (b:=(u81 1000000000 s (1,false)).2.2) fun r h1 h2=> ?_
     have:=s51 h1;rw[←h2] at this;unfold t7a at this;rw[Ao h3,Ao h4] at this;have hl:=o3z (m:=9) (m' :=1000000000) (by omega) (by omega) (Dv this).2;rw[hl];exact⟨(Dv this).1,(Dv this).2⟩
theorem o0x (t:Hs) (ht:t.size<=u0i):s5x t=some (s08 t):=by
 have hb:u0i=1099511627776:=rfl;rw[p56];unfold r6j;rw[o84 t ht];simp only[zOb];cases hu:t95 t with
 | none=>
  unfold s08 u7g;rw[hu];rfl
 | some s=>
  have hs:=p4w hu;simp only[t9u];by_cases h0:s.size=0
  .unfold s08 u7g;rw[hu];simp only;rw[Al h0,Bb h0];rfl
  .have hin:inT s (1,false):=⟨by simp,by simp;omega⟩;rw[A7 h0];simp only[Ap,Aa,zOb];rw[show y4v (0:Int) s.size=true from y8h (i:=0) (by omega)];simp only[Ad,show((0:Int)).toNat=0 from rfl,j6w];rw[y5f (n:=(u94 s 0:Int)) (by omega) (by have:=j2l s 0;omega),c4l,c4m];by_cases h3:u94 s 0=3
   .rw[Bb h3,s7w _ (by omega)];simp only[Ad,zOb];rw[p39 (t06 hin).1 (by omega)];simp only[zOb];have hf:=(t06 hin).2;have hg:=(t06 hin).1;unfold inT at hg;have:=(t2h (u29 s (1,false)).2 (k:=1) (by omega)).2;simp only at hf;have hk:=t7g ((u94 s 0:Int),u6a,(u29 s (1,false)).1,(p48 s (u29 s (1,false)).2).1,u70) (by rw[q6y];simp only[p44,p43];omega);rw[show((0:Int),(0:Int),(0:Int),(0:Int),([] :Hu s5b),([] :Hu WrT),false,(⟨#[]⟩:Hs))=u6a from rfl];rw[show(([] :Hu u4n),([] :Hu u0e),([] :Hu u0e),(0:Int),(0:Int))=u70 from rfl];rw[hk];simp only[zOb];refine q7m hu (b:=false) fun r h1 h2=> ?_
    have:=s51 h1;rw[←h2] at this;unfold t7a at this;rw[Al h3] at this;rw[h3];exact⟨(Dv this).1,rfl⟩
   .rw[A7 h3];by_cases h4:u94 s 0=4
    .rw[Bb h4,j9w (by omega) hin];simp only[Ad,Aa,zOb];generalize hy:(if(t99 d2f s (1,false)).2.2=true then(u70,(0:Int),false) else((t99 d2f s (1,false)).1,(t99 d2f s (1,false)).2.1,true))=y;have hyw:d7h.wt y.1<=30000:=by
      rw[←hy];split
      .rw[p43];omega
      .exact j32 d2f hs (by omega)
     have hk:=t7g ((u94 s 0:Int),u6a,emp,false,y.1) (by rw[q6y];simp only[p44];simp only[emp,ByteArray.size];simp;omega);rw[show((0:Int),(0:Int),(0:Int),(0:Int),([] :Hu s5b),([] :Hu WrT),false,(⟨#[]⟩:Hs))=u6a from rfl];rw[show(([] :Hu u4n),([] :Hu u0e),([] :Hu u0e),(0:Int),(0:Int))=u70 from rfl];rw[show((⟨#[]⟩:Hs))=emp from rfl];rw[hk];simp only[zOb];refine q7m hu (b:=false) fun r h1 h2=> ?_
     have:=s51 h1;rw[←h2] at this;unfold t7a at this;rw[Ao h3,Al h4] at this;have hl:=o7z j53 d5i (Dv this).2;rw[hl,Ao (by rw[(Dv this).2];simp)] at hy;rw[h4,←hy];exact⟨(Dv this).1,rfl⟩
    .rw[A7 h4,j7n (by omega) hin];simp only[Ad,Aa,zOb];generalize hy:(if(u81 10 s (1,false)).2.2=true then(u6a,(0:Int),false) else((u81 10 s (1,false)).1,(u81 10 s (1,false)).2.1,true))=y;have hyw:u01.wt y.1<=30000:=by
      rw[←hy];split
      .rw[p44];omega
      .exact j67 10 hs (by omega)
     have hk:=t7g ((u94 s 0:Int),y.1,emp,false,u70) (by rw[q6y];simp only[p43];simp only[emp,ByteArray.size];simp;omega);rw[show((0:Int),(0:Int),(0:Int),(0:Int),([] :Hu s5b),([] :Hu WrT),false,(⟨#[]⟩:Hs))=u6a from rfl];rw[show(([] :Hu u4n),([] :Hu u0e),([] :Hu u0e),(0:Int),(0:Int))=u70 from rfl];rw[show((⟨#[]⟩:Hs))=emp from rfl];rw[hk];simp only[zOb];refine q7m hu (b:=false) fun r h1 h2=> ?_
     have:=s51 h1;rw[←h2] at this;unfold t7a at this;rw[Ao h3,Ao h4] at this;have hl:=o3z (m:=9) (m' :=10) (by omega) (by omega) (Dv this).2;rw[hl,Ao (by rw[(Dv this).2];simp)] at hy;rw[←hy];exact⟨(Dv this).1,rfl⟩
theorem j46 (l:Hu u0e) (c:Hs) (hl:l.length<=8388608):u2t (l,c)=some (l.filter fun x=> !z7q x.2.2.2.2.2.2.2 c):=by
 have hq:∀x∈l,t0g (x,c)=some (z7q x.2.2.2.2.2.2.2 c):=fun x _=>by rw[p8u];rfl
 have L:=Q.first (T:=u01) (c:=Hs) (W:=u1p) (q:=t0g) (p:=fun x:u0e=>z7q x.2.2.2.2.2.2.2 c) (fun x=>t27 x) l c (by omega) hq;rw[t34];unfold u5u;simp only[t5c,u6g,L,zOb];by_cases hk:u0o (fun x:u0e=>z7q x.2.2.2.2.2.2.2 c) l<l.length
 .obtain⟨a,e1,e2,e3⟩:=Q.delete (T:=u01) (c:=Hs) (W:=u1h) (q:=t0g) (p:=fun x:u0e=>z7q x.2.2.2.2.2.2.2 c) (fun x=>t2x x) l c (by omega) hq hk;have hn:=t5h (fun x:u0e=> !z7q x.2.2.2.2.2.2.2 c) l;obtain⟨n,hne⟩:∃n,n=(l.filter fun x:u0e=> !z7q x.2.2.2.2.2.2.2 c).length:=⟨_,rfl⟩;rw[←hne] at e1 e3 hn;have c1:decide (((u0o (fun x:u0e=>z7q x.2.2.2.2.2.2.2 c) l:Nat):Int)= -1)=false:=by simp
  have c2:decide ((0:Int)<=(n:Int))=true:=by simp
  have c3:decide ((n:Int)<=(a.length:Int))=true:=by simp;omega
  have c4:decide ((a.length:Int)<=(a.length:Int))=true:=by simp
  have hw:=y7x (i:=u0o (fun x:u0e=>z7q x.2.2.2.2.2.2.2 c) l) (by omega);simp only[Al hk,zOb,c1,Aa,hw,e1,c2,c3,c4,Dt,Ad,zTn,Ae,Bv];have c5:decide ((n:Int)<=((a.take n++List.replicate (a.length - n) u01.zero++a.drop (n+(a.length - n))).length:Int))=true:=by simp;omega
  have c6:(a.take n++List.replicate (a.length - n) u01.zero++a.drop (n+(a.length - n))).take (n - (0:Int).toNat)=l.filter fun x:u0e=> !z7q x.2.2.2.2.2.2.2 c:=by
   rw[Bi,Ho,Nat.sub_zero,q7k a n (by omega),e3]
  simp only[c5,Dt,Ad,c6]
 .have hall:(l.filter fun x:u0e=> !z7q x.2.2.2.2.2.2.2 c)=l:=by
   rw[F9];intro x hx;obtain⟨i,hi,rfl⟩:=B7 hx;rw[u9n (p:=fun x:u0e=>z7q x.2.2.2.2.2.2.2 c) hi (by omega)];rfl
  simp only[Ao hk,zOb,Ae,Ad,hall]
theorem o4w (l:Hu u0e) (c:Int) (hl:l.length<=8388608):u2u (l,c)=some (l.filter fun x=> !decide (x.1=c)):=by
 have hq:∀x∈l,t0j (x,c)=some (decide (x.1=c)):=fun x _=>by rw[p9g];rfl
 have L:=Q.first (T:=u01) (c:=Int) (W:=u1s) (q:=t0j) (p:=fun x:u0e=>decide (x.1=c)) (fun x=>t3a x) l c (by omega) hq;rw[t36];unfold u5w;simp only[t5f,u6j,L,zOb];by_cases hk:u0o (fun x:u0e=>decide (x.1=c)) l<l.length
 .obtain⟨a,e1,e2,e3⟩:=Q.delete (T:=u01) (c:=Int) (W:=u1j) (q:=t0j) (p:=fun x:u0e=>decide (x.1=c)) (fun x=>t2z x) l c (by omega) hq hk;have hn:=t5h (fun x:u0e=> !decide (x.1=c)) l;obtain⟨n,hne⟩:∃n,n=(l.filter fun x:u0e=> !decide (x.1=c)).length:=⟨_,rfl⟩;rw[←hne] at e1 e3 hn;have c1:decide (((u0o (fun x:u0e=>decide (x.1=c)) l:Nat):Int)= -1)=false:=by simp
  have c2:decide ((0:Int)<=(n:Int))=true:=by simp
  have c3:decide ((n:Int)<=(a.length:Int))=true:=by simp;omega
  have c4:decide ((a.length:Int)<=(a.length:Int))=true:=by simp
  have hw:=y7x (i:=u0o (fun x:u0e=>decide (x.1=c)) l) (by omega);simp only[Al hk,zOb,c1,Aa,hw,e1,c2,c3,c4,Dt,Ad,zTn,Ae,Bv];have c5:decide ((n:Int)<=((a.take n++List.replicate (a.length - n) u01.zero++a.drop (n+(a.length - n))).length:Int))=true:=by simp;omega
  have c6:(a.take n++List.replicate (a.length - n) u01.zero++a.drop (n+(a.length - n))).take (n - (0:Int).toNat)=l.filter fun x:u0e=> !decide (x.1=c):=by
   rw[Bi,Ho,Nat.sub_zero,q7k a n (by omega),e3]
  simp only[c5,Dt,Ad,c6]
 .have hall:(l.filter fun x:u0e=> !decide (x.1=c))=l:=by
   rw[F9];intro x hx;obtain⟨i,hi,rfl⟩:=B7 hx;rw[u9n (p:=fun x:u0e=>decide (x.1=c)) hi (by omega)];rfl
  simp only[Ao hk,zOb,Ae,Ad,hall]
theorem p6r (b:u0m) (n:Hs) (hb:fewB b):s0v (b,n)=some (s76 b n):=by
 rw[o5c];unfold q8k;simp only;rw[s5m b hb];simp only[zOb];rw[j46 _ _ (by have:=hb.2.2.1;omega)];rfl
theorem p6s (b:u0m) (n:Hs) (hb:fewB b):s6y (b,n)=some (s76 b n):=by
 obtain⟨hb1,hb2,hb3⟩:=hb
 have L:=s98 t4x b.2.2.1 (fun(a:Hu u0e) i=>(n,b,u70,((b.1,b.2.1,a,b.2.2.2):u0m),i)) (fun x:u0e=> !z7q x.2.2.2.2.2.2.2 n) (fun x=>x) (fun a=> .inl (u70,((b.1,b.2.1,a,b.2.2.2):u0m))) (by have:=hb3.1;omega)
  (fun a _=>by rw[q3b];simp only[s1u,u0b,Am,Ah,Aa])
  (fun i hi a ha=>by
   have hm:=Ag hi;have:=hb3.1;rw[q3b];simp only[s1u,u0b,hi,Ae,Ad,y8h hi,zTn,y9a (t:=u01) hi,y7x (show i<4611686018427387904 by omega)];rw[t4i _ (hb3.2 _ hm)];simp only[zOb];rw[p47 (by simp;omega)])
 rw[Er] at L;rw[o52];unfold q88;simp only;rw[s5n b ⟨hb1,hb2,hb3⟩];simp only[zOb];have L' :t4x (n,b,(([], [], [],0,0):u0m),((b.1,b.2.1, [],b.2.2.2):u0m),0)=_:=L;rw[L'];rfl
theorem d0b {n i:Int} :y8x n (i+1)=u55 n i:=by
 unfold y8x u55;by_cases h:i<n
 .rw[Al h,Ao (by omega)]
 .rw[Ao h,Al (by omega)]
theorem d0l (p:u0e->Bool) (l:Hu u0e):∀(a:Hu u0e×Hu u0e),l.foldl (fun a x=>if p x=true then(a.1++ [x],a.2) else(a.1,a.2++ [x])) a=(a.1++l.filter p,a.2++l.filter fun x=> !p x):=by
 induction l with
 | nil=>intro a;simp | cons x l ih=>
  intro a;rw[Bs,ih];cases h:p x<;>simp[h]
theorem j69 (p q:u0e->Bool) (l:Hu u0e) (d:u0e) (hl:l.length<=4194304):(l.filter p).length+ [d].length<=1099511627776/\(l.filter p++ [d]).length+(l.filter q).length<=1099511627776/\(l.filter p++ [d]).length<=8000000:=by
 have f1:=t5h p l;have f2:=t5h q l;rw[Ba,Aw];omega
theorem o77 (b z:u0m) (t d:u0e) (n:Hs) (hb:fewB b):u74 (n,t,z,b,d, [], [],(),(b.2.2.1.length:Int),0)=
 some (.inl (t,z,b,d,b.2.2.1.filter (fun x=>y3i x.2.2.2.2.2.2.2 n),b.2.2.1.filter fun x=> !y3i x.2.2.2.2.2.2.2 n)):=by
 have hl:=hb.2.2.1
 have L:=t13 u74 b.2.2.1 (fun(a:Hu u0e×Hu u0e) i=>(n,t,z,b,d,a.1,a.2,(),(b.2.2.1.length:Int),i)) (fun a x=>if y3i x.2.2.2.2.2.2.2 n=true then(a.1++ [x],a.2) else(a.1,a.2++ [x]))
  (fun a=> .inl (t,z,b,d,a.1,a.2)) (fun i a=>a.1.length<=i/\a.2.length<=i)
  (fun a _=>by rw[r4c];simp only[t6c,u0b,Am,Ah,Aa])
  (fun i hi a ha=>by
   rw[r4c];simp only[t6c,u0b,hi,Ae,Ad,y8h hi,zTn,y9a (t:=u01) hi,y7x (show i<4611686018427387904 by omega)];cases y3i (b.2.2.1[i]).2.2.2.2.2.2.2 n
   .simp only[Br,Bk,Aa];refine⟨⟨by omega,by simp;omega⟩,?_⟩;rw[p47 (by simp;omega)]
   .simp only[Bl,Ad];refine⟨⟨by simp;omega,by omega⟩,?_⟩;rw[p47 (by simp;omega)]) ([], []) ⟨by simp,by simp⟩
 rw[d0l (fun x=>y3i x.2.2.2.2.2.2.2 n)] at L;simpa using L
theorem q8a (b:u0m) (t:u0e) (n:Hs) (hb:fewB b) (ht:s71 t) (hi:j83 t.1):u8l (b,t,n)=some (u54 b t n):=by
 have hl:=hb.2.2.1;rw[p8v];unfold q0e;simp only;rw[s5m b hb];simp only[zOb];rw[s69 t ht];simp only[zOb];rw[p5h t b.2.1 ht hb.2.1];simp only[zOb];rw[o77 _ _ _ _ _ hb,o77 _ _ _ _ _ hb];simp only[zOb,s21 hi,d0b];have pl:=fun d=>j69 (fun x:u0e=>y3i x.2.2.2.2.2.2.2 n) (fun x:u0e=> !y3i x.2.2.2.2.2.2.2 n) b.2.2.1 d hl
 rw[p47 (pl _).1,p47 (pl _).2.1,p47 (pl _).1,p47 (pl _).2.1];unfold u54 s5j;cases t.2.2.2.2.2.2.1<;>rfl
theorem o39 (b z:u0m) (t d:u0e) (n:Hs) (hb:fewB b):u78 (n,b,t,z,((b.1,b.2.1, [],b.2.2.2):u0m),d,0)=
 some (.inl (n,b,t,z,((b.1,b.2.1,b.2.2.1.filter (fun x=>y3i x.2.2.2.2.2.2.2 n),b.2.2.2):u0m),d)):=by
 have hl:=hb.2.2.1
 have L:=s98 u78 b.2.2.1 (fun(a:Hu u0e) i=>(n,b,t,z,((b.1,b.2.1,a,b.2.2.2):u0m),d,i)) (fun x:u0e=>y3i x.2.2.2.2.2.2.2 n) (fun x=>x) (fun a=> .inl (n,b,t,z,((b.1,b.2.1,a,b.2.2.2):u0m),d)) (by omega)
  (fun a _=>by rw[r4l];simp only[t6l,u0b,Am,Ah,Aa])
  (fun i hi a ha=>by
   have hm:=Ag hi;rw[r4l];simp only[t6l,u0b,hi,Ae,Ad,y8h hi,zTn,y9a (t:=u01) hi,y7x (show i<4611686018427387904 by omega)];rw[t4i _ (hb.2.2.2 _ hm)];simp only[zOb];rw[p47 (by simp;omega)])
 rw[Er] at L;exact L
theorem p78 (b z:u0m) (t:u0e) (n:Hs) (hb:fewB b) (pre:Hu u0e) (hp:pre.length<=8000000):u7d (n,b,t,z,((b.1,b.2.1,pre,b.2.2.2):u0m),0)=
 some (.inl (t,z,((b.1,b.2.1,pre++b.2.2.1.filter (fun x=> !y3i x.2.2.2.2.2.2.2 n),b.2.2.2):u0m))):=by
 have hl:=hb.2.2.1
 have L:=s98 u7d b.2.2.1 (fun(a:Hu u0e) i=>(n,b,t,z,((b.1,b.2.1,pre++a,b.2.2.2):u0m),i)) (fun x:u0e=> !y3i x.2.2.2.2.2.2.2 n) (fun x=>x) (fun a=> .inl (t,z,((b.1,b.2.1,pre++a,b.2.2.2):u0m))) (by omega)
  (fun a _=>by rw[r2a];simp only[t3p,u0b,Am,Ah,Aa])
  (fun i hi a ha=>by
   have hm:=Ag hi;rw[r2a];simp only[t3p,u0b,hi,Ae,Ad,y8h hi,zTn,y9a (t:=u01) hi,y7x (show i<4611686018427387904 by omega)];rw[t4i _ (hb.2.2.2 _ hm)];simp only[zOb];rw[p47 (by simp;omega),Bi])
 rw[Er,Bw] at L;exact L
theorem q8b (b:u0m) (t:u0e) (n:Hs) (hb:fewB b) (ht:s71 t) (hi:j83 t.1):u8p (b,t,n)=some (u54 b t n):=by
 have hl:=hb.2.2.1;have pl:=fun d=>j69 (fun x:u0e=>y3i x.2.2.2.2.2.2.2 n) (fun x:u0e=> !y3i x.2.2.2.2.2.2.2 n) b.2.2.1 d hl
 rw[p9o];unfold q05;simp only;rw[s5n b hb];simp only[zOb];rw[t4i t ht];simp only[zOb];rw[p5i t b.2.1 ht hb.2.1];simp only[zOb];rw[o39 _ _ _ _ _ hb,o39 _ _ _ _ _ hb];simp only[zOb];rw[p47 (pl _).1,p47 (pl _).1,p78 _ _ _ _ hb _ (pl _).2.2,p78 _ _ _ _ hb _ (pl _).2.2];simp only[zOb,s21 hi]
 have key:∀(o:Bool),(bif decide (t.1>=b.2.2.2.2) then some ((b.1,b.2.1,(b.2.2.1.filter fun x=>y3i x.2.2.2.2.2.2.2 n)++ [((t.1,(2:Int),t.2.2.1,t.2.2.2.1,t.2.2.2.2.1,t.2.2.2.2.2.1,o,n):u0e)] ++(b.2.2.1.filter fun x=> !y3i x.2.2.2.2.2.2.2 n),b.2.2.2.1,t.1+1):u0m)
  else some (b.1,b.2.1,(b.2.2.1.filter fun x=>y3i x.2.2.2.2.2.2.2 n)++ [((t.1,(2:Int),t.2.2.1,t.2.2.2.1,t.2.2.2.2.1,t.2.2.2.2.2.1,o,n):u0e)] ++(b.2.2.1.filter fun x=> !y3i x.2.2.2.2.2.2.2 n),b.2.2.2))=
  some (b.1,b.2.1,(b.2.2.1.filter fun x=>y3i x.2.2.2.2.2.2.2 n)++ [((t.1,(2:Int),t.2.2.1,t.2.2.2.1,t.2.2.2.2.1,t.2.2.2.2.2.1,o,n):u0e)] ++(b.2.2.1.filter fun x=> !y3i x.2.2.2.2.2.2.2 n),b.2.2.2.1,u55 b.2.2.2.2 t.1):=fun o=>by
  unfold u55;by_cases h:t.1<b.2.2.2.2
  .rw[A7 (by omega),Al h];rfl
  .rw[Bb (by omega),Ao h];rfl
 unfold u54 s5j;cases t.2.2.2.2.2.2.1
 .exact key _
 .exact key _
structure tinyT (t:u0e):Prop where
 rl:t.2.2.2.2.1.length<=100
 rs:∀r∈t.2.2.2.2.1,r.1.size<=100/\r.2.size<=100
 wl:t.2.2.2.2.2.1.length<=100
 ws:∀w∈t.2.2.2.2.2.1,w.1.size<=100/\w.2.1.size<=100
 nm:t.2.2.2.2.2.2.2.size<=100
structure tinyB (b:u0m):Prop where
 vl:b.1.length<=10000
 vs:∀v∈b.1,v.1.size<=100/\v.2.1.size<=100
 pl:b.2.1.length<=1000
 ps:∀t∈b.2.1,tinyT t
 rl:b.2.2.1.length<=1000
 rs:∀t∈b.2.2.1,tinyT t
theorem r70 {α:Type} {f:α->Nat} {k:Nat} :∀ {l:Hu α},(∀x∈l,f x<=k)->(l.map f).sum<=l.length*k
 | [],_=>by simp
 | x::l,h=>by
  rw[C8,Ge,Bc,C7];have h1:=h x (by simp);have h2:=r70 (l:=l) (fun y hy=>h y (by simp[hy]));omega
theorem tinyT.wt {t:u0e} (h:tinyT t):u01.wt t<=50000:=by
 have e1:(Ty.sl t3e).wt t.2.2.2.2.1=t.2.2.2.2.1.length+(t.2.2.2.2.1.map t3e.wt).sum:=rfl;have e2:(Ty.sl u2m).wt t.2.2.2.2.2.1=t.2.2.2.2.2.1.length+(t.2.2.2.2.2.1.map u2m.wt).sum:=rfl;have s1:(t.2.2.2.2.1.map t3e.wt).sum<=t.2.2.2.2.1.length*200:=r70 fun r hr=>by
  have:=h.rs r hr;have e:t3e.wt r=r.1.size+r.2.size:=rfl;omega
 have s2:(t.2.2.2.2.2.1.map u2m.wt).sum<=t.2.2.2.2.2.1.length*200:=r70 fun w hw=>by
  have:=h.ws w hw;have e:u2m.wt w=w.1.size+(w.2.1.size+0):=rfl;omega
 have:=h.rl;have:=h.wl;have:=h.nm;rw[j4o,e1,e2];omega
theorem tinyT.few {t:u0e} (h:tinyT t):s71 t:=⟨by have:=h.rl;omega,by have:=h.wl;omega⟩
theorem TxnR.tiny {t:u0e} (h:TxnR t):tinyT t:=by
 obtain⟨z1,z2,z3,z4,z5⟩:=h.small;exact⟨by have:=h.rlen;omega,fun r hr=>by have:=z1 r hr;omega,by omega,fun w hw=>by have:=z2 w hw;omega,by omega⟩
theorem tinyT.like {t u:u0e} (h:tinyT t) (e1:u.2.2.2.2.1=t.2.2.2.2.1) (e2:u.2.2.2.2.2.1=t.2.2.2.2.2.1) (e3:u.2.2.2.2.2.2.2.size<=100):tinyT u:=
 ⟨by rw[e1];exact h.rl,by rw[e1];exact h.rs,by rw[e2];exact h.wl,by rw[e2];exact h.ws,e3⟩
theorem o0i {l:Hu u0e} (hl:l.length<=1000) (h:∀t∈l,tinyT t):(Ty.sl u01).wt l<=60000000:=by
 have e:(Ty.sl u01).wt l=l.length+(l.map u01.wt).sum:=rfl;have s:(l.map u01.wt).sum<=l.length*50000:=r70 fun t ht=>(h t ht).wt
 rw[e];omega
theorem tinyB.wt {b:u0m} (h:tinyB b):d7h.wt b<=200000000:=by
 have e:(Ty.sl u0g).wt b.1=b.1.length+(b.1.map u0g.wt).sum:=rfl;have s:(b.1.map u0g.wt).sum<=b.1.length*200:=r70 fun v hv=>by
  have:=h.vs v hv;have e:u0g.wt v=v.1.size+(v.2.1.size+(0+0)):=rfl;omega
 have h1:=o0i h.pl h.ps;have h2:=o0i h.rl h.rs;have:=h.vl;rw[q5y,e];omega
theorem q60 {l:Hu u0e} (hl:l.length<=1000) (h:∀t∈l,tinyT t):q7l l:=⟨by omega,fun t ht=>(h t ht).few⟩
theorem tinyB.few {b:u0m} (h:tinyB b):fewB b:=⟨by have:=h.vl;omega,q60 h.pl h.ps,q60 h.rl h.rs⟩
theorem BaseR.tiny {b:u0m} (h:BaseR b):tinyB b:=by
 obtain⟨w1,w2,w3⟩:=d1n.mp h.vs;exact⟨by omega,fun v hv=>by have:=r1u (w1 v hv);omega,by have:=h.plen;omega,fun t ht=>(h.past t ht).1.tiny,by have:=h.rlen;omega,fun t ht=>(h.ready t ht).1.tiny⟩
theorem r1s {b:u0m} (h:tinyB b) (o:Hu u0e):tinyB (t8f b o):=
 ⟨A9 (j6d _ _) h.vl,fun v hv=>h.vs v ((o4m _ _).subset hv),A9 (t5h _ _) h.pl,fun t ht=>h.ps t (A6.mp ht).1,h.rl,h.rs⟩
theorem r37 {b:u0m} {t:u0e} (h:BaseR b) (ht:tinyT t):tinyB (u2p b t):=by
 obtain⟨w1,w2,w3⟩:=d1n.mp h.vs;have hb:=h.tiny;refine⟨?_,fun v hv=> ?_,?_,fun x hx=> ?_,?_,fun x hx=> ?_⟩
 .show(r7x b.1 t.2.2.2.2.2.1 (b.2.2.2.1+1)).length<=10000;rw[o32];have:=ht.wl;have e:(t.2.2.2.2.2.1:Hu u2m.den).length=t.2.2.2.2.2.1.length:=rfl;omega
 .rcases(p4h _ _ _).mp hv with q | ⟨w,hw,rfl⟩
  .exact hb.vs v q
  .exact ht.ws w hw
 .show(b.2.1++ [p1f b t]).length<=1000;have:=h.plen;rw[Ba,Aw];omega
 .rcases Ay.mp hx with q | q
  .exact hb.ps x q
  .rw[Ax.mp q];exact ht.like rfl rfl (Cn _)
 .show((b.2.2.1.filter fun x=> !decide (x.1=t.1)).map (j0m (p1f b t))).length<=1000;rw[Da];exact A9 (t5h _ _) hb.rl
 .obtain⟨y,hy,rfl⟩:=Bx.mp hx;have:=hb.rs y (A6.mp hy).1;exact this.like rfl rfl this.nm
theorem q7s {b:u0m} {t:u0e} {n:Hs} (h:BaseR b) (ht:tinyT t) (hn:n.size<=100):tinyB (u54 b t n):=by
 have hb:=h.tiny;refine⟨hb.vl,hb.vs,hb.pl,hb.ps,?_,fun x hx=> ?_⟩
 .show((b.2.2.1.filter fun x=>y3i x.2.2.2.2.2.2.2 n)++ [s5j b t n] ++(b.2.2.1.filter fun x=> !y3i x.2.2.2.2.2.2.2 n)).length<=1000;have f1:=t5h (fun x:u0e=>y3i x.2.2.2.2.2.2.2 n) b.2.2.1;have f2:=t5h (fun x:u0e=> !y3i x.2.2.2.2.2.2.2 n) b.2.2.1;have:=h.rlen;rw[Ba,Ba,Aw];omega
 .rcases Ay.mp hx with q | q
  .rcases Ay.mp q with q | q
   .exact hb.rs x (A6.mp q).1
   .rw[Ax.mp q];exact ht.like rfl rfl hn
  .exact hb.rs x (A6.mp q).1
theorem q7n {b:u0m} {n:Hs} (hb:tinyB b):tinyB (s76 b n):=
 ⟨hb.vl,hb.vs,hb.pl,hb.ps,A9 (t5h _ _) hb.rl,fun x hx=>hb.rs x (A6.mp hx).1⟩
structure tinyR (r:r2l):Prop where
 t:tinyT r.2.1
 n:r.2.2.1.size<=100
 b:tinyB r.2.2.2.2
theorem tinyR.wt {r:r2l} (h:tinyR r):c1d.wt r<=549755813888:=by
 have:=h.t.wt;have:=h.n;have:=h.b.wt;rw[q6y];omega
theorem s53:tinyT u6a:=⟨by decide,fun r hr=>(by cases hr),by decide,fun r hr=>(by cases hr),by decide⟩
theorem t5y:tinyB u70:=⟨by decide,fun r hr=>(by cases hr),by decide,fun r hr=>(by cases hr),by decide,fun r hr=>(by cases hr)⟩
theorem d2l:tinyR noR:=⟨s53,by decide,t5y⟩
theorem RecR.tiny {r:r2l} (h:RecR r):tinyR r:=by
 cases h with
 | thr t h hs=>exact⟨h.tiny,Cn 100,t5y⟩ | rdy t h hs=>exact⟨h.tiny,Cn 100,t5y⟩ | fin n y h=>exact⟨s53,by have:=u2y h;show n.size<=100;omega,t5y⟩ | bas b h=>exact⟨s53,Cn 100,h.tiny⟩
def s9m (b:u0m) (r:r2l):u0m×Bool:=match r7w b r with
 | some x=>(x,true) | none=>(b,false)
theorem o3y {n:Int} (h:0<=n/\n<=9999):j83 n:=⟨by omega,by omega⟩
theorem r5b {n:Int} (h:1<=n/\n<=9999):j83 n:=⟨by omega,by omega⟩
theorem q7q {b x:u0m} {r:r2l} (hb:t0z b=true/\u86 r=true) {o:Bool} (hx:t5i b r=if o=true then some x else none):
 (((bif (!o) then some true else some (!t0z (t8f x []))):Ht Bool).bind fun j=>bif j then some (b,false) else some (t8f x [],true))=some (s9m b r):=by
 unfold s9m r7w;rw[Al hb,hx];cases o
 .rfl
 .simp only[Bl,Ap,Aa,zOb];cases t0z (t8f x [])<;>rfl
theorem j5e (b:u0m) (r:r2l) (hb:tinyB b) (hr:tinyR r):r9m (b,r)=some (s9m b r):=by
 have hq:u0i=1099511627776:=rfl;rw[o9s];unfold p2q;simp only;rw[t3i b (by have:=hb.wt;omega),p2b r hr.wt,s5m b hb.few];simp only[zOb];cases h1:t0z b
 .unfold s9m r7w;rw[Ao (by simp[h1])];rfl
 .cases h2:u86 r
  .unfold s9m r7w;rw[Ao (by simp[h2])];rfl
  .have hB:=o7n.mp h1;have hR:=d37.mp h2;have hbr:t0z b=true/\u86 r=true:=⟨h1,h2⟩;simp only[Ap,Aa,zOb];have thr:∀t:u0e,TxnR t->u9e (b,t)=some (u2p b t)/\u2j (u2p b t, [])=some (t8f (u2p b t) [])/\u3f (t8f (u2p b t) [])=some (t0z (t8f (u2p b t) [])):=fun t ht=>by
    have h3:=r37 hB ht.tiny;refine⟨?_,t1a _ _ h3.few (by simp),t3i _ (by have:=(r1s h3 []).wt;omega)⟩;rw[p6z b t hb.few ht.tiny.few,p14 (o3y hB.cs) (r5b ht.id)]
   cases hR with
   | thr t h hs=>
    obtain⟨t1,t2,t3⟩:=thr t h;simp only[Ae,Ad];rw[t1];simp only[zOb];rw[t2];simp only[zOb];rw[t3];simp only[zOb];rw[s21 (o3y hB.cs)];refine q7q (o:=decide (t.2.2.2.1=b.2.2.2.1+1)) hbr ?_;unfold t5i;simp only[Bl,Ar]
   | rdy t h hs=>
    have hn:=u2y (h.name hs);have h3:=q7s (n:=t.2.2.2.2.2.2.2) hB h.tiny (by omega);simp only[show decide ((2:Int)=1)=false from rfl,Ae,Ad,Aa];rw[s3c b _ (by have:=hB.rlen;omega)];simp only[zOb];rw[q8a b t _ hb.few h.tiny.few (r5b h.id)];simp only[zOb];rw[t1a _ _ h3.few (by simp),];simp only[zOb];rw[t3i _ (by have:=(r1s h3 []).wt;omega)];simp only[zOb];have e:(bif decide ((b.2.2.1.length:Int)<3) then some (decide (u0l b t.2.2.2.2.2.2.2<0)) else some false:Ht Bool)=some (decide (b.2.2.1.length<3/\u0l b t.2.2.2.2.2.2.2<0)):=by
     by_cases q:b.2.2.1.length<3
     .rw[Bb (show(b.2.2.1.length:Int)<3 by omega)];simp[q]
     .rw[A7 (show ¬(b.2.2.1.length:Int)<3 by omega)];simp[q]
    rw[e];simp only[zOb];refine q7q (o:=decide (b.2.2.1.length<3/\u0l b t.2.2.2.2.2.2.2<0)) hbr ?_;unfold t5i;simp only[show((2:Int)=1)=False by simp,Bk,Bl,Ar]
   | fin n y h=>
    simp only[show decide ((3:Int)=1)=false from rfl,show decide ((3:Int)=2)=false from rfl,Ae,Ad,Aa];rw[s3c b _ (by have:=hB.rlen;omega)];simp only[zOb];have h4:=q7n (b:=b) (n:=n) hb;have giv:s0v (b,n)=some (s76 b n):=p6r b n hb.few;have raw:∀x,(0<=u0l b n->y=true->x=u2p b (rdL u01 b.2.2.1 (u0l b n).toNat))->(y=false->x=s76 b n)->(0<=u0l b n\/True)->t5i b (3,u6a,n,y,u70)=if decide (u0l b n>=0)=true then some x else none:=fun x hx hx2 _=>by
     unfold t5i;simp only[show((3:Int)=1)=False by simp,show((3:Int)=2)=False by simp,Bk,Bl];by_cases q:u0l b n<0
     .rw[Al q,A7 (show ¬u0l b n>=0 by omega)];rfl
     .rw[Ao q,Bb (show u0l b n>=0 by omega)];cases hy:y
      .rw[hx2 hy];rfl
      .rw[hx (by omega) hy];rfl
    by_cases q:0<=u0l b n
    .rw[Bb (show u0l b n>=0 from q)];cases hy:y
     .simp only[Ad,zOb,Aa];rw[giv];simp only[zOb];rw[t1a _ _ h4.few (by simp)];simp only[zOb];rw[t3i _ (by have:=(r1s h4 []).wt;omega)];simp only[zOb];have:=raw (s76 b n) (fun _ k=>by rw[hy] at k;cases k) (fun _=>rfl) (.inr trivial);rw[hy] at this hbr;rw[Bb (show u0l b n>=0 from q)] at this;exact q7q (o:=true) hbr this
     .simp only[Ad,zOb,Aa];have hk:(u0l b n).toNat<b.2.2.1.length:=by
       unfold u0l at q ⊢;split
       .rename_i z;rw[zTn];exact z
       .rename_i z;rw[Ao z] at q;omega
      obtain⟨k,hkk⟩:∃k:Nat,u0l b n=k:=⟨(u0l b n).toNat,by omega⟩;have hg:y4v (u0l b n) b.2.2.1.length=true:=by rw[hkk];exact y8h (by rw[hkk] at hk;simpa using hk)
      rw[hg];simp only[Ad];have hT:TxnR (rdL u01 b.2.2.1 (u0l b n).toNat):=by
       rw[y9a hk];exact(hB.ready _ (Ag hk)).1
      obtain⟨t1,t2,t3⟩:=thr _ hT;rw[t1];simp only[zOb];rw[t2];simp only[zOb];rw[t3];simp only[zOb];have:=raw (u2p b (rdL u01 b.2.2.1 (u0l b n).toNat)) (fun _ _=>rfl) (fun k=>by rw[hy] at k;cases k) (.inr trivial);rw[hy] at this hbr;rw[Bb (show u0l b n>=0 from q)] at this;exact q7q (o:=true) hbr this
    .rw[A7 (show ¬u0l b n>=0 from q)];simp only[Aa,zOb];rw[giv];simp only[zOb];rw[t1a _ _ h4.few (by simp)];simp only[zOb];have:=raw (s76 b n) (fun k=>absurd k q) (fun _=>rfl) (.inr trivial);rw[A7 (show ¬u0l b n>=0 from q)] at this;exact q7q (o:=false) hbr this
   | bas c h=>
    simp only[show decide ((4:Int)=1)=false from rfl,show decide ((4:Int)=2)=false from rfl,show decide ((4:Int)=3)=false from rfl,Aa];rw[s5m c h.tiny.few];simp only[zOb];rw[t1a _ _ h.tiny.few (by simp)];simp only[zOb];rw[t3i _ (by have:=(r1s h.tiny []).wt;omega)];simp only[zOb];exact q7q (o:=true) hbr (by unfold t5i;simp)
theorem d4x:∃t,s65 ()=some t/\t.size=64/\s8y t 0=0:=by
 have hset:∀i,(List.replicate 64 (0:Int)).set i 0=List.replicate 64 0:=fun i=>by
  apply Gw (by simp);intro j h1 h2;rw[List.getElem_set,List.getElem_replicate];split
  .rfl
  .rfl
 have key:∀(r i:Nat),i+r=64->u4d ((64:Int),0,List.replicate 64 0,(i:Int))=some (.inl (List.replicate 64 0)):=by
  intro r
  induction r with
  | zero=>
   intro i hi;have:i=64:=by omega
   subst this;rw[t0m];rfl
  | succ r ih=>
   intro i hi;have hlt:decide ((i:Int)<64)=true:=by simp;omega
   have hg:y4v (i:Int) (List.replicate 64 (0:Int)).length=true:=y8h (by simp;omega);rw[t0m];simp only[u98,hlt,Ad,hg,hset];rw[y7x (by omega)];exact ih (i+1) (by omega)
 have e1:u4d ((64:Int),0,List.replicate 64 0,0)=_:=key 64 0 rfl;refine⟨y7s (List.replicate 64 0),?_,by rw[u58];simp,by unfold s8y;rw[r1r];rfl⟩;rw[p0d];unfold r4y;rw[r47];unfold s6o;have hc:(decide ((0:Int)<=64)&&decide ((64:Int)<=1099511627776))=true:=rfl;have hr:List.replicate ((64:Int)).toNat (Ty.int .u8).zero=List.replicate 64 (0:Int):=rfl;simp only[hc,Ad,hr,e1,zOb]
theorem j5b:∃d,s9s ()=some d/\u2s d=true/\u0h d= [] :=by
 obtain⟨z,hz,hz1,hz2⟩:=d4x;have key:∀(r i:Nat),i+r=97->u8h ((97:Int),([], []),(List.replicate i z, []),(i:Int))=some (.inl (([], []),(List.replicate 97 z, []))):=by
  intro r
  induction r with
  | zero=>
   intro i hi;have:i=97:=by omega
   subst this;rw[s20];rfl
  | succ r ih=>
   intro i hi;have hlt:decide ((i:Int)<97)=true:=by simp;omega
   have hc:Nat.ble ((List.replicate i z).length+([z] :Hu Hs).length) z7z=true:=u0w (by simp;omega);rw[s20];simp only[s1t,hlt,Ad,hz,zOb,hc];rw[y7x (by omega)];have e:List.replicate i z++ [z] =List.replicate (i+1) z:=by rw[List.replicate_succ']
   rw[e];exact ih (i+1) (by omega)
 have e1:u8h ((97:Int),([], []),([], []),0)=_:=key 97 0 rfl;have hs:u9p ()=some 97:=by rw[s5o];rfl
 refine⟨(List.replicate 97 z, []),?_,?_⟩
 .rw[p32];unfold r88;simp only[hs,zOb];rw[p0a];unfold r4w;have hi:r8x 97 1 100=true:=rfl;simp only[s6q,hi,zOb,Ap,Aa,e1]
 .have hk:u1u (List.replicate 97 z,([] :Hu (Int×Hs)))=true:=o7r.mpr ⟨by simp,by simp,fun s hs=>by rw[List.eq_of_mem_replicate hs];exact hz1,fun p hp=>by cases hp⟩;have hl:(List.replicate 97 z,([] :Hu (Int×Hs))).1.length=97:=by simp
  have hf:=r0o hk hl;have hc:∀a:Int,a=0\/a=1->u0z (List.replicate 97 z, []) a=0:=fun a ha=>by
   obtain⟨f1,_⟩:=t01 ha;unfold u0z u43;rw[d2b.mpr ha,Al rfl];have hk2:u0d a=(((u0d a).toNat:Nat):Int):=by rcases ha with rfl | rfl<;>omega
   rw[hk2,r9z rfl (by rw[hl];rcases ha with rfl | rfl<;>omega)];have hlt:(u0d a).toNat<(List.replicate 97 z).length:=by simp;rcases ha with rfl | rfl<;>omega
   have e:rdL Ty.str (List.replicate 97 z) (u0d a).toNat=(List.replicate 97 z)[(u0d a).toNat] :=y9a (t:=Ty.str) hlt;simp only[e,List.getElem_replicate];rw[p5o,hz2];rfl
  refine⟨p4g hk hl rfl ?_ ?_,?_⟩
  .rw[t4d hf (.inl rfl),hc 0 (.inl rfl)];rfl
  .rw[t4d hf (.inr rfl),hc 1 (.inr rfl)];rfl
  .unfold u0h;rw[t4d hf (t7u _),hc _ (t7u _)];rfl
theorem u8c {d:u0j} (h:u2s d=true):c1c.wt d<=10000000:=A9 (u2q (u53 h).1) (by omega)
theorem r81 (d:u0j) (hd:c1c.wt d<=1073741824):t8b d=some (u0h d):=by
 rw[o2t];unfold q5c;simp only[s9e d (show c1c.wt d<=u0i by unfold u0i;omega),r84 d _ hd,zOb];rfl
theorem o40 (a b:u0j) (ha:c1c.wt a<=1073741824) (hb:c1c.wt b<=1073741824):s8j (a,b)=some (o8b a b):=by
 rw[p9t];unfold q1a o8b d23;have h1:(u0h a).length<256:=q6v a (u0n a);simp only[r81 a ha,r81 b hb,zOb];generalize u0h a=a at h1;generalize u0h b=b;by_cases h:a.length=b.length
 .have hz:(a.zip b).length=a.length:=by simp[h]
  have L:=s5c t6x (a.zip b) (fun i=>(a,b,i)) (fun p=> !z7q p.1 p.2) (.inr false) (.inl ())
   (by rw[r4p,hz];simp only[t6p,u0b,Am,Ah,Aa])
   (fun i hi=>by
    have hi1:i<a.length:=by omega
    have hi2:i<b.length:=by omega
    rw[r4p];simp only[t6p,u0b,hi1,Ae,Ad,y8h hi1,y8h hi2,zTn,y9a (t:=Ty.str) hi1,y9a (t:=Ty.str) hi2,List.getElem_zip];rw[y7x (by omega)])
  have e1:decide ((a.length:Int)=(b.length:Int))=true:=by simp[h]
  simp only[e1,Ap,Aa,L,zOb];rw[←o79 h];cases (a.zip b).any fun p=> !z7q p.1 p.2<;>rfl
 .have e1:decide ((a.length:Int)=(b.length:Int))=false:=by simp;omega
  have e2:decide (a=b)=false:=by
   rw[Bu];intro e;exact h (by rw[e])
  rw[e1,e2];rfl
theorem j74 {s:Src} (h:s.ok) (l:Hu Int) (hl:0<l.length) (hm:l.length<=1000):Dr (t92 (s,l)) (fun y=>y∈l):=by
 obtain⟨y,s1,e1,k1,r1⟩:=s9f h (n:=(l.length:Int)) (by omega);rw[p6c];unfold r6p;have hi:y.toNat<l.length:=by omega
 have hg:y4v y l.length=true:=y8g.mpr ⟨r1.1,r1.2⟩;simp only[e1,zOb,hg,Ad];refine⟨_,_,rfl,k1,?_⟩;show l.getD y.toNat 0∈l;rw[A5,A4 hi];exact Ag hi
theorem p1t (a:Hu Hs) (ha:a.length<=u0i):u6n (a,a)=some true:=by
 rw[q1h];unfold s74
 have L:=s5c u75 a (fun i=>(a,a,i)) (fun p=> !z7q p p) (.inr false) (.inl ())
  (by rw[t7b];simp only[u72,u0b,Am,Ah,Aa])
  (fun i hi=>by
   rw[t7b];simp only[u72,u0b,hi,Ae,Ad,y8h hi,zTn,y9a (t:=Ty.str) hi];unfold u0i at ha;rw[y7x (by omega)])
 have hn:(a.any fun p=> !z7q p p)=false:=by
  rw[Ct];intro x _;simp[z7q]
 rw[hn] at L;simp only[Ae,Ap,Aa,L,zOb]
theorem p4e (d:u0j) (h:c1c.wt d<=1000000000):r1g (d,d)=some true:=by
 rw[o2m];unfold q45;have h1:=t48 (d:=d);have h2:=t7w (d:=d)
 have L:=s5c t9n d.2 (fun i=>(d,d,i)) (fun p=> !(decide (p.1=p.1)&&(z7q p.2 p.2&&true))) (.inr false) (.inl ())
  (by rw[r8f];simp only[t8w,u0b,Am,Ah,Aa])
  (fun i hi=>by
   rw[r8f];simp only[t8w,u0b,hi,Ae,Ad,y8h hi,zTn,y9a (t:=o7j) hi];rw[y7x (by omega)])
 have hn:(d.2.any fun p=> !(decide (p.1=p.1)&&(z7q p.2 p.2&&true)))=false:=by
  rw[Ct];intro x _;simp[z7q]
 rw[hn] at L;simp only[p1t d.1 (by unfold u0i;omega),zOb,Ap,Aa,Ae,L]
theorem j9m (b:u0m) (r:r2l) (hB:BaseR b) (hR:RecR r):r5x (b,r)=some (match t5i b r with
 | some x=>(x,true) | none=>(b,false)):=by
 have hb:=hB.tiny;have thr:∀t:u0e,TxnR t->u9h (b,t)=some (u2p b t):=fun t ht=>by
  rw[p60 b t hb.few ht.tiny.few,o4k (o3y hB.cs) (r5b ht.id)]
 rw[o6r];unfold q9y t5i;cases hR with
 | thr t h hs=>
  simp only[Ae,Ad,Bl];rw[s21 (o3y hB.cs),thr t h];by_cases q:t.2.2.2.1=b.2.2.2.1+1
  .rw[Bb q,Al q];rfl
  .rw[A7 q,Ao q];rfl
 | rdy t h hs=>
  simp only[show decide ((2:Int)=1)=false from rfl,show((2:Int)=1)=False by simp,Ae,Ah,Ad,Aa,Bl,Bk];rw[s3d b _ (by have:=hB.rlen;omega)];simp only[zOb];rw[q8b b t _ hb.few h.tiny.few (r5b h.id)];simp only[zOb];by_cases q:b.2.2.1.length<3
  .rw[A7 (show ¬(b.2.2.1.length:Int)>=3 by omega)];simp only[Aa,zOb];by_cases q2:u0l b t.2.2.2.2.2.2.2<0
   .rw[A7 (show ¬u0l b t.2.2.2.2.2.2.2>=0 by omega),Al ⟨q,q2⟩];rfl
   .rw[Bb (show u0l b t.2.2.2.2.2.2.2>=0 by omega),Ao (fun z=>q2 z.2)];rfl
  .rw[Bb (show(b.2.2.1.length:Int)>=3 by omega),Ao (fun z=>q z.1)];rfl
 | fin n y h=>
  simp only[show decide ((3:Int)=1)=false from rfl,show decide ((3:Int)=2)=false from rfl,show((3:Int)=1)=False by simp,show((3:Int)=2)=False by simp,Ae,Ah,Ad,Aa,Bl,Bk];rw[s3d b _ (by have:=hB.rlen;omega)];simp only[zOb];by_cases q:u0l b n<0
  .rw[Bb q,Al q];rfl
  .rw[A7 q,Ao q];simp only[Aa];rw[p6s b n hb.few];simp only[zOb];have hk:(u0l b n).toNat<b.2.2.1.length:=by
    unfold u0l at q ⊢;split
    .rename_i z;rw[zTn];exact z
    .rename_i z;rw[Ao z] at q;omega
   obtain⟨k,hkk⟩:∃k:Nat,u0l b n=k:=⟨(u0l b n).toNat,by omega⟩;have hg:y4v (u0l b n) b.2.2.1.length=true:=by rw[hkk];exact y8h (by rw[hkk] at hk;simpa using hk)
   have hT:TxnR (rdL u01 b.2.2.1 (u0l b n).toNat):=by
    rw[y9a hk];exact(hB.ready _ (Ag hk)).1
   rw[hg,thr _ hT];cases y
   .rfl
   .rfl
 | bas c h=>
  simp only[show decide ((4:Int)=1)=false from rfl,show decide ((4:Int)=2)=false from rfl,show decide ((4:Int)=3)=false from rfl,show((4:Int)=1)=False by simp,show((4:Int)=2)=False by simp,show((4:Int)=3)=False by simp,Ah,Aa,Bk];rw[s5n c h.tiny.few];rfl
theorem d2v {b:u0m} {r:r2l} {x:u0m} (hB:BaseR b) (hR:RecR r) (h:t5i b r=some x):tinyB x:=by
 unfold t5i at h;cases hR with
 | thr t ht hs=>
  simp only[Bl] at h;split at h
  .rw[←Ds h];exact r37 hB ht.tiny
  .cases h
 | rdy t ht hs=>
  simp only[show((2:Int)=1)=False by simp,Bl,Bk] at h;split at h
  .rw[←Ds h];exact q7s hB ht.tiny (by have:=u2y (ht.name hs);omega)
  .cases h
 | fin n y hn=>
  simp only[show((3:Int)=1)=False by simp,show((3:Int)=2)=False by simp,Bl,Bk] at h;split at h
  .cases h
  .rename_i q;have hk:(u0l b n).toNat<b.2.2.1.length:=by
    unfold u0l at q ⊢;split
    .rename_i z;rw[zTn];exact z
    .rename_i z;rw[Ao z] at q;omega
   split at h
   .rw[←Ds h];refine r37 hB ?_;rw[y9a hk];exact(hB.ready _ (Ag hk)).1.tiny
   .rw[←Ds h];exact q7n hB.tiny
 | bas c hc=>
  simp only[show((4:Int)=1)=False by simp,show((4:Int)=2)=False by simp,show((4:Int)=3)=False by simp,Bk] at h;rw[←Ds h];exact hc.tiny
theorem j5f (b:u0m) (r:r2l) (hb:tinyB b) (hr:tinyR r):r9w (b,r)=some (s9m b r):=by
 have hq:u0i=1099511627776:=rfl;rw[o99];unfold p28;simp only;rw[s5l b (by have:=hb.wt;omega),p2c r hr.wt,s5n b hb.few];simp only[zOb];cases h1:t0z b
 .unfold s9m r7w;rw[Ao (by simp[h1])];rfl
 .cases h2:u86 r
  .unfold s9m r7w;rw[Ao (by simp[h2])];rfl
  .have hB:=o7n.mp h1;have hR:=d37.mp h2;simp only[Ap,Aa,zOb];rw[j9m b r hB hR];simp only[zOb];unfold s9m r7w;rw[Al ⟨h1,h2⟩];cases hx:t5i b r with
   | none=>rfl | some x=>
    have h3:=d2v hB hR hx;simp only[Ap,Aa];rw[r86 _ _ h3.few (by simp)];simp only[zOb];rw[s5l _ (by have:=(r1s h3 []).wt;omega)];simp only[zOb];cases t0z (t8f x [])<;>rfl
theorem j0u {b x:u0m} {r:r2l} (h:r7w b r=some x):BaseR x/\RecR r:=by
 unfold r7w at h;split at h
 .rename_i q;split at h
  .cases h
  .split at h
   .rename_i z;rw[←Ds h];exact⟨o7n.mp z,d37.mp q.2⟩
   .cases h
 .cases h
theorem o78 (t:Hs):tinyR (s08 t).1:=by
 unfold s08;cases h:u7g t with
 | none=>exact d2l | some r=>exact(p4m h).1.tiny
theorem j64 (b:u0m) (t:Hs) (l:Hu Hs):q6m b (t::l)=bif !(s08 t).2 || !(s9m b (s08 t).1).2 then none else q6m (s9m b (s08 t).1).1 l:=by
 unfold s08 s9m;simp only[q6m];cases u7g t with
 | none=>rfl | some r=>
  simp only;cases r7w b r with
  | none=>rfl | some x=>rfl
def p92 (l:Hu Hs):u0m×Bool:=match r5c l with
 | some b=>(b,true) | none=>(u70,false)
theorem j1y (d:u0j) (hd:c1c.wt d<=1073741824) (ht:∀t∈u0h d,t.size<=u0i) (hl:(u0h d).length<=1000000):s0w d=some (p92 (u0h d)):=by
 have L:=q4a u8g (u0h d).length (fun(b:u0m) i=>(u70,b,u0h d,((u0h d).length:Int),i)) (fun i b=>match q6m b ((u0h d).drop i) with
  | some x=> .inl (u70,x) | none=> .inr (u70,false)) (fun _ b=>BaseR b)
  (fun b hb=>by
   rw[q2v];simp only[s1d,u0b,Am,Ah,Aa];rw[F5];rfl)
  (fun i b hi hb=>by
   have hm:=Ag hi;have hd:(u0h d).drop i=(u0h d)[i] ::(u0h d).drop (i+1):=Ce hi;have hw:u8g (u70,b,u0h d,((u0h d).length:Int),(i:Int))=bif !(s08 (u0h d)[i]).2 || !(s9m b (s08 (u0h d)[i]).1).2 then some (.inr (u70,false)) else u8g (u70,(s9m b (s08 (u0h d)[i]).1).1,u0h d,((u0h d).length:Int),((i+1:Nat):Int)):=by
    rw[q2v];simp only[s1d,u0b,hi,Ae,Ad,y8h hi,zTn,y9a (t:=Ty.str) hi,y7x (show i<4611686018427387904 by omega)];rw[o0w _ (ht _ hm)];simp only[zOb];rw[j5e b _ hb.tiny (o78 _)];simp only[zOb];cases (s08 (u0h d)[i]).2<;>cases (s9m b (s08 (u0h d)[i]).1).2<;>rfl
   rw[hw,hd,j64];cases hc:(!(s08 (u0h d)[i]).2 || !(s9m b (s08 (u0h d)[i]).1).2)
   .refine .inr ⟨(s9m b (s08 (u0h d)[i]).1).1,?_,?_,rfl⟩
    .unfold s9m at hc ⊢;cases hp:r7w b (s08 (u0h d)[i]).1 with
     | none=>rw[hp] at hc;simp at hc | some x=>exact(j0u hp).1
    .simp only[Aa]
   .exact .inl rfl) 0 d32 (Cn _) d0h
 rw[o5g];unfold q8o;rw[q98];unfold r4u;rw[r80 d hd];simp only[zOb];have L' :u8g ((([], [], [],0,0):u0m),(([], [], [],0,1):u0m),u0h d,((u0h d).length:Int),0)=_:=L;rw[L',Fh];unfold p92 r5c;cases q6m d32 (u0h d)<;>rfl
theorem j1z (d:u0j) (hd:c1c.wt d<=1073741824) (ht:∀t∈u0h d,t.size<=u0i) (hl:(u0h d).length<=1000000):s00 d=some (p92 (u0h d)):=by
 have L:=q4a u8i (u0h d).length (fun(b:u0m) i=>(u70,b,u0h d,i)) (fun i b=>match q6m b ((u0h d).drop i) with
  | some x=> .inl (u70,x) | none=> .inr (u70,false)) (fun _ b=>BaseR b)
  (fun b hb=>by
   rw[q3e];simp only[s1x,u0b,Am,Ah,Aa];rw[F5];rfl)
  (fun i b hi hb=>by
   have hm:=Ag hi;have hd:(u0h d).drop i=(u0h d)[i] ::(u0h d).drop (i+1):=Ce hi;have hw:u8i (u70,b,u0h d,(i:Int))=bif !(s08 (u0h d)[i]).2 || !(s9m b (s08 (u0h d)[i]).1).2 then some (.inr (u70,false)) else u8i (u70,(s9m b (s08 (u0h d)[i]).1).1,u0h d,((i+1:Nat):Int)):=by
    rw[q3e];simp only[s1x,u0b,hi,Ae,Ad,y8h hi,zTn,y9a (t:=Ty.str) hi,y7x (show i<4611686018427387904 by omega)];rw[o0x _ (ht _ hm)];simp only[zOb];rw[j5f b _ hb.tiny (o78 _)];simp only[zOb];cases (s08 (u0h d)[i]).2<;>cases (s9m b (s08 (u0h d)[i]).1).2<;>rfl
   rw[hw,hd,j64];cases hc:(!(s08 (u0h d)[i]).2 || !(s9m b (s08 (u0h d)[i]).1).2)
   .refine .inr ⟨(s9m b (s08 (u0h d)[i]).1).1,?_,?_,rfl⟩
    .unfold s9m at hc ⊢;cases hp:r7w b (s08 (u0h d)[i]).1 with
     | none=>rw[hp] at hc;simp at hc | some x=>exact(j0u hp).1
    .simp only[Aa]
   .exact .inl rfl) 0 d32 (Cn _) d0h
 rw[o55];unfold q9b;rw[q99];unfold r4v;rw[r81 d hd];simp only[zOb];have L' :u8i ((([], [], [],0,0):u0m),(([], [], [],0,1):u0m),u0h d,0)=_:=L;rw[L',Fh];unfold p92 r5c;cases q6m d32 (u0h d)<;>rfl
def c4k:s5b:=((⟨#[97]⟩:Hs),(⟨#[122,122,122]⟩:Hs))
theorem j4f (t:Hs) (a:Int):(u0p t a).1.size<=20000:=by
 unfold u0p;split
 .rename_i hc;have:=s3o hc.1;simp only[Bd];omega
 .exact Cn _
theorem p7p (t:Hs):∀(m:Nat) (a:Int) (acc:Hu Hs),(∀s∈acc,s.size<=20000)-> ∀s∈(u89 t m a acc).1,s.size<=20000
 | 0,a,acc,h=>h | m+1,a,acc,h=>by
  unfold u89;split
  .refine p7p t m _ _ fun s hs=> ?_
   rcases Ay.mp hs with q | q
   .exact h s q
   .rw[Ax.mp q];exact j4f _ _
  .intro s hs;cases hs
theorem o64 (d:u0j) (a:Int):∀s∈(u0c d a).1,s.size<=20000:=by
 unfold u0c;split
 .exact p7p _ _ _ _ fun s hs=>by cases hs
 .intro s hs;cases hs
theorem p0q (d:u0j):∀s∈u0h d,s.size<=20000:=o64 d _
theorem p71 (d:u0j):(u0h d).length<256:=q6v d _
theorem j15 (d:u0j) (hd:c1c.wt d<=1073741824):s0w d=some (p92 (u0h d)):=
 j1y d hd (fun t ht=>by have:=p0q d t ht;unfold u0i;omega) (by have:=p71 d;omega)
theorem o7g (d:u0j) (hd:c1c.wt d<=1073741824):s00 d=some (p92 (u0h d)):=
 j1z d hd (fun t ht=>by have:=p0q d t ht;unfold u0i;omega) (by have:=p71 d;omega)
theorem j7c:∀ {l:Hu Hs} {b x:u0m},BaseR b->q6m b l=some x->BaseR x
 | [],b,x,hb,h=>by rw[←Ds h];exact hb
 | t::l,b,x,hb,h=>by
  simp only[q6m] at h;split at h
  .cases h
  .split at h
   .cases h
   .rename_i r _ y hy;exact j7c (j0u hy).1 h
theorem p73 {l:Hu Hs} {x:u0m} (h:r5c l=some x):BaseR x:=j7c d0h h
theorem j3z (l:Hu Hs):tinyB (p92 l).1:=by
 unfold p92;cases h:r5c l with
 | none=>exact t5y | some b=>exact(p73 h).tiny
theorem t11 (b:u0m) (o:Hu u0e) (hb:fewB b) (ho:q7l o):u0s (b,o)=some (b,o):=by
 have h1:=s5n b hb;have h2:=p1b o ho;rw[o6t];unfold q90;simp only[h1,h2,zOb]
theorem o7a (b:u0m) (o:Hu u0e) (hb:fewB b) (ho:q7l o):u10 (b,o)=some (b,o):=by
 have h1:=s5m b hb;have h2:=r8y o ho;rw[p50];unfold r6d;simp only[h1,h2,zOb]
theorem EngR.ot {e:u3m} (h:EngR e) {t:u0e} (ht:t∈e.2):tinyT t:=(h.open_ t ht).1.tiny
theorem EngR.fewO {e:u3m} (h:EngR e):q7l e.2:=q60 (by have:=h.olen;omega) fun t ht=>h.ot ht
theorem EngR.tinyO {e:u3m} (h:EngR e):tinyB e.1:=h.base.tiny
theorem EngR.fewB {e:u3m} (h:EngR e):Ab.fewB e.1:=h.base.tiny.few
theorem EngR.oth {e:u3m} (h:EngR e):∀t∈t1l e,tinyT t:=fun t ht=>by
 rcases Ay.mp ht with q | q
 .exact(h.base.past t q).1.tiny
 .exact(h.base.ready t q).1.tiny
theorem EngR.fewOth {e:u3m} (h:EngR e):q7l (t1l e):=q60 (by have:=h.base.plen;have:=h.base.rlen;simp only[t1l,Ba];omega) h.oth
theorem j03 (e:u3m) (id:Int):(s46 e id).length<=e.2.length:=Cs _ _
theorem t7e (e:u3m) (id:Int) (h:e.2.length<=4194304):u7l (e,id)=some (u2w e.2 id):=by
 have L:=q4a t7o (u0o (fun x:u0e=>decide (x.1=id)) e.2) (fun(_:Unit) i=>(id,e,i)) (fun _ _=>if u0o (fun x:u0e=>decide (x.1=id)) e.2<e.2.length then .inr ((u0o (fun x:u0e=>decide (x.1=id)) e.2:Nat):Int) else .inl ()) (fun _ _=>True)
  (fun a _=>by
   have hle:=t2l (fun x:u0e=>decide (x.1=id)) e.2;rw[q7e];by_cases hk:u0o (fun x:u0e=>decide (x.1=id)) e.2<e.2.length
   .have hy:=u9u hk;simp only[t7h,u0b,hk,Ae,Ad,y8h hk,zTn,y9a (t:=u01) hk,hy,Bl]
   .simp only[t7h,u0b,hk,Ah,Aa,Bk])
  (fun i a hi _=> .inr ⟨(),trivial,rfl,by
   have hle:=t2l (fun x:u0e=>decide (x.1=id)) e.2;have hil:i<e.2.length:=by omega
   have hn:=u9n hil hi;rw[q7e];simp only[t7h,u0b,hil,Ae,Ad,y8h hil,zTn,y9a (t:=u01) hil,hn,Aa];rw[y7x (by omega)]⟩) 0 () (Cn _) trivial
 have L:t7o (id,e,0)=_:=L;rw[o97];unfold p26 u2w;simp only[L,zOb];by_cases hk:u0o (fun x:u0e=>decide (x.1=id)) e.2<e.2.length
 .simp only[Al hk]
 .simp only[Ao hk]
theorem s22 (e:u3m) (id:Int) (h:e.2.length<=4194304):u82 (e,id)=some (u2w e.2 id):=by
 have hq:∀x∈e.2,s4o (x,id)=some (decide (x.1=id)):=fun x _=>by
  rw[o1t];unfold q4o;rfl
 have L:=Q.first (T:=u01) (c:=Int) (W:=u1x) (q:=s4o) (p:=fun x:u0e=>decide (x.1=id)) (fun x=>t4g x) e.2 id (by omega) hq;rw[o9q];unfold p2o u2w;simp only[t54,u62,L,zOb];by_cases hk:u0o (fun x:u0e=>decide (x.1=id)) e.2<e.2.length
 .simp only[Al hk,zOb]
 .simp only[Ao hk,zOb]
theorem j9x {e:u3m} :(decide ((e.2.length:Int)>=4)= !decide (e.2.length<4))/\(decide (e.1.2.2.2.2>=9999)= !decide (e.1.2.2.2.2<9999)):=by
 constructor
 .by_cases h:e.2.length<4<;>simp[h] <;>omega
 .by_cases h:e.1.2.2.2.2<9999<;>simp[h] <;>omega
theorem j7v {e:u3m} (h:EngR e):q6p e=some (s0s e):=by
 have ho:=h.olen;have hn:=h.base.next;have h1:=t11 e.1 e.2 h.fewB h.fewO;have h2:=o8t e (by have:=h.tinyO.wt;have:=o0i (l:=e.2) (by omega) (fun t ht=>h.ot ht);have:=j60 e;omega);have h1:u0s e=some e:=h1;have hk:=d7u.mpr h;rw[j26];unfold p7f s0s;simp only[h1,h2,hk,zOb,Ap,Aa,j9x.1,j9x.2,Aw,u0w (show e.2.length+1<=1099511627776 by omega),Ad];by_cases c1:e.2.length<4
 .by_cases c2:e.1.2.2.2.2<9999
  .simp only[c1,c2,Ae,Ap,Aa,zOb,and_self,Bl,s21 (n:=e.1.2.2.2.2) (r5b hn)];rfl
  .simp only[c1,c2,Ae,Ah,Ap,Bh,Aa,Ad,zOb,and_false,Bk]
 .simp only[c1,Ah,Bh,Ad,zOb,false_and,Bk]
theorem c5a (l:Hu s5b) (r:s5b):(l.any fun x=>z7q x.1 r.1&&(z7q x.2 r.2&&true))=d46 l r:=by
 unfold d46;simp only[Cz]
theorem q8d {t:u0e} {r:s5b} (ht:TxnR t) (h1:t.2.1=1) (hr:u3a r=true):s2v (t,r)=some (s9x t r):=by
 have hy:=ht.tiny;have hw:=hy.wt;have hl:=ht.rlen;have c0:=t4i t hy.few;have c1:=s3f t (by unfold u0i;omega);have k:=u2y (s:=r.1) (by unfold u3a at hr;simp only[Ai] at hr;exact hr.1);have k' :=u2y (s:=r.2) (by unfold u3a at hr;simp only[Ai] at hr;exact hr.2.1);have c2:=q35 r (by unfold u0i;omega) (by unfold u0i;omega);have ok:=p4u.mpr ht
 have L:=s5c t0w t.2.2.2.2.1 (fun i=>(t,r,(u6a:u0e),t,i)) (fun x=>z7q x.1 r.1&&(z7q x.2 r.2&&true)) (.inr (t,true)) (.inl (t,r,u6a,t))
  (by rw[r4n];simp only[t6n,u0b,Am,Ah,Aa])
  (fun i hi=>by
   rw[r4n];simp only[t6n,u0b,hi,Ae,Ad,y8h hi,zTn,y9a (t:=t3e) hi];rw[y7x (by omega)])
 rw[c5a] at L;have L:t0w (t,r,((0,0,0,0, [], [],false,(⟨#[]⟩:Hs)):u0e),t,0)=_:=L;rw[p9q];unfold q07 s9x;simp only[c0,c1,c2,ok,hr,h1,zOb,Ae,Ap,Aa,L];cases d46 t.2.2.2.2.1 r
 .have e8:decide ((t.2.2.2.2.1.length:Int)>=8)= !decide (t.2.2.2.2.1.length<8):=by by_cases c:t.2.2.2.2.1.length<8<;>simp[c] <;>omega
  simp only[Aa,e8,Br,Bk];by_cases c:t.2.2.2.2.1.length<8
  .simp only[c,Ae,Ap,Aa,Aw,u0w (show t.2.2.2.2.1.length+1<=1099511627776 by omega),Ad,Bl];rfl
  .simp only[c,Ah,Bh,Ad,Bk]
 .rfl
theorem p42 {l:Hu WrT} {w:WrT} (h:u59 l=true) (hw:u4c w=true):u59 (p1x l w)=decide ((p1x l w).length<=8):=by
 by_cases c:(p1x l w).length<=8
 .rw[d0o h hw c,Bb c]
 .rw[A7 c];cases q:u59 (p1x l w)
  .rfl
  .exact absurd (d4a.mp q).2.2 c
theorem p41 {w:WrT} (h:u4c w=true):w.1.size<=3/\w.2.1.size<=12:=by
 unfold u4c at h;simp only[Ai,Ar] at h;exact⟨(u2y h.1).2,h.2.1⟩
theorem j4u {l:Hu WrT} (hn:l.length<=1000) (h:∀w∈l,u4c w=true):(Ty.sl u2m).wt l<=20000:=by
 have e:(Ty.sl u2m).wt l=l.length+(l.map u2m.wt).sum:=rfl;have s:=r70 (f:=u2m.wt) (k:=15) (l:=l) fun w hw=>by
  have:=p41 (h w hw);have e:u2m.wt w=w.1.size+(w.2.1.size+0):=rfl;omega
 omega
theorem j38 {l:Hu WrT} {w:WrT} (h:u59 l=true) (hw:u4c w=true):∀x∈p1x l w,u4c x=true:=fun x hx=>by
 rcases j7g hx with q | q
 .exact(d4a.mp h).1 x q
 .rw[q];exact hw
theorem o86 {t:u0e} {w:WrT} (ht:TxnR t) (h1:t.2.1=1) (hw:u4c w=true):r1p (t,w)=some (r4r t w):=by
 have hy:=ht.tiny;have ht8:=(d4a.mp ht.ws).2.2;have hl:=j7f t.2.2.2.2.2.1 w;have c0:=t4i t hy.few;have c1:=s3f t (by have:=hy.wt;unfold u0i;omega);have c2:=q4d w (by have:=p41 hw;unfold u0i;omega);have c3:=o8z t.2.2.2.2.2.1 w (by omega);have c4:=p2e (p1x t.2.2.2.2.2.1 w) (by have:=j4u (l:=p1x t.2.2.2.2.2.1 w) (by omega) (j38 ht.ws hw);unfold u0i;omega);have ok:=p4u.mpr ht;rw[o24];unfold q5o r4r;simp only[c0,c1,c2,c3,c4,ok,hw,h1,zOb,Ae,Ap,Aa,p42 ht.ws hw];by_cases c:(p1x t.2.2.2.2.2.1 w).length<=8
 .simp only[c,Ae,Ap,Aa,Bl];unfold d0w;rw[h1]
 .simp only[c,Ah,Bh,Ad,Bk]
def s5i (t:u0e) (l:Hu u4n) (k:Hs):Hs×Bool:=
 if u0o (fun w:WrT=>z7q w.1 k) t.2.2.2.2.2.1<t.2.2.2.2.2.1.length then
  (if(rdL u2m t.2.2.2.2.2.1 (u0o (fun w:WrT=>z7q w.1 k) t.2.2.2.2.2.1)).2.2=true then(emp,false) else((rdL u2m t.2.2.2.2.2.1 (u0o (fun w:WrT=>z7q w.1 k) t.2.2.2.2.2.1)).2.1,true))
 else p4p l k t.2.2.1
def r9f (t:u0e) (l:Hu u4n) (r:s5b):Hu PrT:=
 ((q3y (l.map (fun v=>v.1)++t.2.2.2.2.2.1.map fun w=>w.1)).filter fun k=>(s5i t l k).2&&inR r k).map fun k=>(k,(s5i t l k).1)
theorem o0t (t:u0e) (l:Hu u4n) (k:Hs) (ht:s71 t) (hl:l.length<=4194304):s9t (t,l,k)=some (s5i t l k):=by
 have h8:=ht.2
 have L:=q4a t7p (u0o (fun w:WrT=>z7q w.1 k) t.2.2.2.2.2.1) (fun(_:Unit) i=>(l,k,t,i)) (fun _ _=>if u0o (fun w:WrT=>z7q w.1 k) t.2.2.2.2.2.1<t.2.2.2.2.2.1.length then .inr (if(rdL u2m t.2.2.2.2.2.1 (u0o (fun w:WrT=>z7q w.1 k) t.2.2.2.2.2.1)).2.2=true then(emp,false) else((rdL u2m t.2.2.2.2.2.1 (u0o (fun w:WrT=>z7q w.1 k) t.2.2.2.2.2.1)).2.1,true)) else .inl (l,k,t)) (fun _ _=>True)
  (fun a _=>by
   have hle:=t2l (fun w:WrT=>z7q w.1 k) t.2.2.2.2.2.1;rw[q7f];by_cases hk:u0o (fun w:WrT=>z7q w.1 k) t.2.2.2.2.2.1<t.2.2.2.2.2.1.length
   .have hy:=u9u hk;simp only[t7i,u0b,hk,Ae,Ad,y8h hk,zTn,y9a (t:=u2m) hk,hy,Bl];cases (t.2.2.2.2.2.1[u0o (fun w:WrT=>z7q w.1 k) t.2.2.2.2.2.1]).2.2<;>rfl
   .simp only[t7i,u0b,hk,Ah,Aa,Bk])
  (fun i a hi _=> .inr ⟨(),trivial,rfl,by
   have hle:=t2l (fun w:WrT=>z7q w.1 k) t.2.2.2.2.2.1;have hil:i<t.2.2.2.2.2.1.length:=by omega
   have hn:=u9n hil hi;rw[q7f];simp only[t7i,u0b,hil,Ae,Ad,y8h hil,zTn,y9a (t:=u2m) hil,hn,Aa];rw[y7x (by omega)]⟩) 0 () (Cn _) trivial
 have L:t7p (l,k,t,0)=_:=L;rw[o98];unfold p27 s5i;simp only[L,zOb];by_cases hk:u0o (fun w:WrT=>z7q w.1 k) t.2.2.2.2.2.1<t.2.2.2.2.2.1.length
 .simp only[Al hk]
 .simp only[Ao hk,j5h l k _ (show l.length<=1099511627776 by omega),zOb]
theorem j1w (t:u0e) (l:Hu u4n) (r:s5b) (ht:s71 t) (hl:l.length<=4194304):r5p (t,l,r)=some (r9f t l r):=by
 have h8:=ht.2
 have L:=t13 t4y t.2.2.2.2.2.1 (fun(a:Hu u4n) i=>(l,t,r,a,i)) (fun a (w:WrT)=>a++ [((w.1,emp,false,(0:Int)):u4n)]) (fun a=> .inl (l,t,r,a)) (fun i a=>a.length=l.length+i)
  (fun a _=>by rw[q3c];simp only[s1v,u0b,Am,Ah,Aa])
  (fun i hi a ha=>⟨by simp[ha];omega,by
   rw[q3c];simp only[s1v,u0b,hi,Ae,Ad,y8h hi,zTn,y9a (t:=u2m) hi,Aw,u0w (show a.length+1<=1099511627776 by omega)];rw[y7x (by omega)];rfl⟩) l rfl
 have fo:∀(ws:Hu WrT) (a:Hu u4n),ws.foldl (fun a (w:WrT)=>a++ [((w.1,emp,false,(0:Int)):u4n)]) a=a++ws.map fun w=>((w.1,emp,false,(0:Int)):u4n):=by
  intro ws
  induction ws with
  | nil=>intro a;simp | cons w ws ih=>intro a;rw[Bs,ih,C8,Bi];rfl
 rw[fo] at L;obtain⟨all,ha⟩:∃all,all=l++t.2.2.2.2.2.1.map fun w:WrT=>((w.1,emp,false,(0:Int)):u4n):=⟨_,rfl⟩
 rw[←ha] at L;have hal:all.length<=6000000:=by rw[ha];simp;omega
 have hmap:all.map (fun v=>v.1)=l.map (fun v=>v.1)++t.2.2.2.2.2.1.map fun w=>w.1:=by
  rw[ha,Dh,List.map_map];rfl
 obtain⟨ks,hks⟩:∃ks,ks=(q3y (all.map fun v=>v.1)).filter fun k=>inR r k:=⟨_,rfl⟩
 have hkl:ks.length<=all.length:=by
  rw[hks];refine A9 (Cs _ _) (A9 (p4c _) (by simp))
 have L2:=s98 s2f ks (fun a i=>(l,t,a,ks,i)) (fun k=>(s5i t l k).2) (fun k=>(k,(s5i t l k).1)) (fun a=> .inl a) (by omega)
  (fun a _=>by rw[q3d];simp only[s1w,u0b,Am,Ah,Aa])
  (fun i hi a ha=>by
   rw[q3d];simp only[s1w,u0b,hi,Ae,Ad,y8h hi,zTn,y9a (t:=Ty.str) hi,o0t t l _ ht hl,zOb,Aw,u0w (show a.length+1<=1099511627776 by omega)];rw[y7x (by omega)])
 have L:t4y (l,t,r,l,0)=_:=L;rw[o54];unfold q9a;simp only[Cc,Co,Cf,u0w (show l.length<=1099511627776 by omega),Ad,L,zOb,j9k all r (show all.length<=500000000000 by omega)];rw[←hks];simp only[L2,zOb];rw[hks,List.filter_filter,hmap];rfl
theorem j00 {k:Hs} :u3a (k,k)=t02 k:=by
 unfold u3a;have:z7q k k=true:=by simp[z7q]
 rw[this,Ew,Cz,Dt]
def j1g (e:u3m) (id:Int) (k:Hs):u3m×Hs×Bool×Int:=
 if(r5a e id (k,k) (t02 k)).2=0 then((r5a e id (k,k) (t02 k)).1,(s5i (u9a e id) e.1.1 k).1,(s5i (u9a e id) e.1.1 k).2,0)
 else((r5a e id (k,k) (t02 k)).1,emp,false,(r5a e id (k,k) (t02 k)).2)
def p6l (e:u3m) (id:Int) (r:s5b):u3m×Hu PrT×Int:=
 if(r5a e id r (u3a r)).2=0 then((r5a e id r (u3a r)).1,r9f (u9a e id) e.1.1 r,0) else((r5a e id r (u3a r)).1, [],(r5a e id r (u3a r)).2)
theorem o36 {t:u0e} {r:s5b} :(s9x t r).1.2.2.1=t.2.2.1/\(s9x t r).1.2.2.2.2.2.1=t.2.2.2.2.2.1:=by
 unfold s9x;split
 .exact⟨rfl,rfl⟩
 .split<;>exact⟨rfl,rfl⟩
theorem o30 (t:u0e) (r:s5b) (l:Hu u4n) (k:Hs):s5i (s9x t r).1 l k=s5i t l k:=by
 unfold s5i;rw[o36.1,o36.2]
theorem j35 (t:u0e) (r q:s5b) (l:Hu u4n):r9f (s9x t r).1 l q=r9f t l q:=by
 unfold r9f;rw[o36.2];simp only[o30]
theorem j4d {t:u0e} {r:s5b} (h:tinyT t):s71 (s9x t r).1:=by
 unfold s9x;split
 .exact h.few
 .split
  .refine⟨?_,h.few.2⟩;show(t.2.2.2.2.1++ [r]).length<=1048576;have:=h.rl;simp;omega
  .exact h.few
theorem j5a {e:u3m} (h:EngR e) (id:Int) {k:Hs} (hk:k.size<=1048576):r9u (e,id,k)=some (j1g e id k):=by
 have ho:=h.olen;have h1:u0s e=some e:=t11 e.1 e.2 h.fewB h.fewO;have h2:=t7e e id (by omega);have h3:=s3b k (by unfold u0i;omega);rw[o96];unfold p25 j1g r5a;simp only[h1,h2,h3,zOb];by_cases hn:u2w e.2 id<0
 .simp only[hn,Ae,Ad,Bl];rfl
 .obtain⟨j,hj,e1,e2,e3⟩:=u2h hn;have hR:=h.open_ _ (Ag hj);simp only[hn,Ah,Aa,Bk];cases hok:t02 k with
  | false=>rfl | true=>
   have c:=q8d (r:=(k,k)) hR.1 hR.2.1 (by rw[j00];exact hok);simp only[Ap,Aa,e1,y8h hj,Ad,zTn,y9a (t:=u01) hj,c,zOb,e2,Fm,Bk];cases hr:(s9x e.2[j] (k,k)).2 with
   | false=>rfl | true=>
    have g:=o0t (s9x e.2[j] (k,k)).1 e.1.1 k (j4d hR.1.tiny) (by have:=h.tinyO.vl;omega);simp only[Ap,Aa,g,zOb,Bl,o30];rfl
theorem o82 {e:u3m} (h:EngR e) (id:Int) {r:s5b} (hk:r.1.size<=1048576/\r.2.size<=1048576):r1m (e,id,r)=some (p6l e id r):=by
 have ho:=h.olen;have h1:u0s e=some e:=t11 e.1 e.2 h.fewB h.fewO;have h2:=t7e e id (by omega);have h3:=q35 r (by unfold u0i;omega) (by unfold u0i;omega);rw[o20];unfold q5j p6l r5a;simp only[h1,h2,h3,zOb];by_cases hn:u2w e.2 id<0
 .simp only[hn,Ae,Ad,Bl];rfl
 .obtain⟨j,hj,e1,e2,e3⟩:=u2h hn;have hR:=h.open_ _ (Ag hj);simp only[hn,Ah,Aa,Bk];cases hok:u3a r with
  | false=>rfl | true=>
   have c:=q8d (r:=r) hR.1 hR.2.1 hok;simp only[Ap,Aa,e1,y8h hj,Ad,zTn,y9a (t:=u01) hj,c,zOb,e2,Fm,Bk];cases hr:(s9x e.2[j] r).2 with
   | false=>rfl | true=>
    have g:=j1w (s9x e.2[j] r).1 e.1.1 r (j4d hR.1.tiny) (by have:=h.tinyO.vl;omega);simp only[Ap,Aa,g,zOb,Bl,j35];rfl
theorem o0v {e:u3m} (h:EngR e) (id:Int) {w:WrT} (hw:w.1.size<=1048576):s9u (e,id,w)=some (j7d e id w):=by
 have ho:=h.olen;have h1:u0s e=some e:=t11 e.1 e.2 h.fewB h.fewO;have h2:=t7e e id (by omega);have h3:=q4d w (by unfold u0i;omega);rw[j0a];unfold p29 j7d;simp only[h1,h2,h3,zOb];by_cases hn:u2w e.2 id<0
 .simp only[hn,Ae,Ad,Bl]
 .obtain⟨j,hj,e1,e2,e3⟩:=u2h hn;have hR:=h.open_ _ (Ag hj);simp only[hn,Ah,Aa,Bk];cases hok:u4c w with
  | false=>rfl | true=>
   have c:=o86 (w:=w) hR.1 hR.2.1 hok;simp only[Ap,Aa,e1,y8h hj,Ad,zTn,y9a (t:=u01) hj,c,zOb,e2,Fm,Bk];cases hr:(r4r e.2[j] w).2 with
   | false=>rfl | true=>rfl
theorem r82 (b:u0m) (o:Hu u0e) (id:Int) (hb:fewB b) (ho:o.length<=1000):u1m ((b,o),id)=some ((t8f b (o.filter fun x=> !decide (x.1=id))),o.filter fun x=> !decide (x.1=id)):=by
 have L:=s98 t7r o (fun a i=>((b,o),id,a,i)) (fun x:u0e=> !decide (x.1=id)) (fun x=>x) (fun a=> .inl ((b,o),a)) (by omega)
  (fun a _=>by rw[q7h];simp only[s31,u0b,Am,Ah,Aa])
  (fun i hi a ha=>by
   rw[q7h];simp only[s31,u0b,hi,Ae,Ad,y8h hi,zTn,y9a (t:=u01) hi,Aw,u0w (show a.length+1<=1099511627776 by omega)];rw[y7x (by omega)])
 rw[Er] at L;have L:t7r ((b,o),id, [],0)=_:=L;have hl:=Cs (fun x:u0e=> !decide (x.1=id)) o;rw[j0k];unfold p3j;simp only[L,zOb,r86 b (o.filter fun x=> !decide (x.1=id)) hb (by omega)]
theorem j71 {e:u3m} (h:EngR e) (id:Int):q6q (e,id)=some (r7t e id):=by
 have ho:=h.olen;have h1:u0s e=some e:=t11 e.1 e.2 h.fewB h.fewO;have h2:=t7e e id (by omega);have h3:u1m (e,id)=some (leaveE e id):=r82 e.1 e.2 id h.fewB (by omega);rw[j3a];unfold p7i r7t;simp only[h1,h2,h3,zOb];by_cases hn:u2w e.2 id<0
 .simp only[hn,Ae,Ad,Bl]
 .simp only[hn,Ah,Aa,Bk]
theorem d7s {E:Type} (l:Hu E) (f g:E->Bool):l.any (fun x=>f x || g x)=(l.any f || l.any g):=by
 induction l with
 | nil=>rfl | cons x l ih=>
  simp only[Gd,ih];cases f x<;>cases g x<;>cases l.any f<;>cases l.any g<;>rfl
theorem d10 {E:Type} (l:Hu E) (f g:E->Bool) (i:Bool):l.any (fun x=>f x&&(i || g x))=((i&&l.any f) || l.any fun x=>f x&&g x):=by
 cases i
 .simp
 .simp only[Dx,Cz,Bz];cases h:l.any f with
  | true=>rfl | false=>
   rw[Ct] at h;symm;rw[Ci,Ct];intro x hx;have:=h x hx;simp[this]
theorem j1m (t:u0e) (l:Hu u0e) (ht:s71 t) (hl:q7l l):r5n (t,l)=some (q5z t l):=by
 obtain⟨l1,l2⟩:=hl
 have L:=s5c t4w l (fun i=>(l,t,i)) (fun x=> !decide (x.1=t.1)&&((decide (x.2.1=2) || (decide (x.2.1=3)&&decide (x.2.2.2.1 >t.2.2.1)))&&q75 x.2.2.2.2.2.1 t.2.2.2.2.2.1)) (.inr true) (.inl ())
  (by rw[q29];simp only[s1r,u0b,Am,Ah,Aa])
  (fun i hi=>by
   have h1:=j73 l[i].2.2.2.2.2.1 t.2.2.2.2.2.1 (t1p (l2 _ (Ag hi)).2) (t1p ht.2);rw[q29];simp only[s1r,u0b,hi,Ae,Ad,y8h hi,zTn,y9a (t:=u01) hi,h1,zOb];rw[y7x (by omega)];cases decide (l[i].1=t.1)<;>cases decide (l[i].2.1=2)<;>cases decide (l[i].2.1=3)<;>cases decide (l[i].2.2.2.1 >t.2.2.1)<;>cases q75 l[i].2.2.2.2.2.1 t.2.2.2.2.2.1<;>rfl)
 rw[o5z];unfold q85 q5z;have L:t4w (l,t,0)=_:=L;simp only[L,zOb];cases l.any fun x:u0e=> !decide (x.1=t.1)&&((decide (x.2.1=2) || (decide (x.2.1=3)&&decide (x.2.2.2.1 >t.2.2.1)))&&q75 x.2.2.2.2.2.1 t.2.2.2.2.2.1)<;>rfl
theorem j1u (t:u0e) (l:Hu u0e) (ht:s71 t) (hl:q7l l):r9v (t,l)=some (j4z t l):=by
 obtain⟨l1,l2⟩:=hl
 have L:=s5c s37 l (fun i=>(l,t,i)) (fun x=>j5x x&&ahead x t) (.inr true) (.inl ())
  (by rw[p40];simp only[s9g,u0b,Am,Ah,Aa])
  (fun i hi=>by
   have h1:=t8k l[i] t (t1p (l2 _ (Ag hi)).1) (t1p ht.2);rw[p40];simp only[s9g,u0b,hi,Ae,Ad,y8h hi,zTn,y9a (t:=u01) hi,h1,zOb,j5x];rw[y7x (by omega)];cases decide (l[i].2.1=2)<;>cases decide (l[i].2.1=3)<;>cases ahead l[i] t<;>rfl)
 rw[j5t];unfold o06 j4z;have L:s37 (l,t,0)=_:=L;simp only[L,zOb];cases l.any fun x=>j5x x&&ahead x t<;>rfl
def o9g (t:u0e) (l:Hu u0e) (p:u0e):Bool:=
 (j5x p&&(p.2.2.2.2.2.2.1&&ahead t p)) || (decide (p.2.1=2)&&(ahead p t&&(ahead t p || l.any fun x=>decide (x.2.1=2)&&(!decide (x.1=t.1)&&ahead x p))))
theorem d13 (t:u0e) (l:Hu u0e):q97 t l=((j4z t l&&p6h t l) || l.any (o9g t l)):=by
 unfold q97 r42;rw[←d7s];rfl
theorem o0n (t:u0e) (l:Hu u0e) (ht:s71 t) (hl:q7l l):s9r (t,l)=some (q97 t l):=by
 obtain⟨l1,l2⟩:=hl;have inner:∀(i:Nat) (hi:i<l.length),t0d (l,t,(i:Int),l[i],0)=some (bif (decide (l[i].2.1=2)&&ahead l[i] t)&&(l.any fun x=>decide (x.2.1=2)&&(!decide (x.1=t.1)&&ahead x l[i])) then .inr true else .inl (l,t,(i:Int))):=fun i hi=>by
  have g1:=t8k l[i] t (t1p (l2 _ (Ag hi)).1) (t1p ht.2);cases hg:(decide (l[i].2.1=2)&&ahead l[i] t) with
  | false=>
   have e0:t0d (l,t,(i:Int),l[i],0)=_:=s8o _;rw[e0];simp only[t4j,g1,zOb,Fx,Aa];cases decide ((0:Int)<(l.length:Int))
   .rfl
   .revert hg
    cases decide (l[i].2.1=2)<;>cases ahead l[i] t<;>simp
  | true=>
   rw[Ai,Ar] at hg;obtain⟨q1,q2⟩:=hg
   have L:=s5c t0d l (fun k=>(l,t,(i:Int),l[i],k)) (fun x=>decide (x.2.1=2)&&(!decide (x.1=t.1)&&ahead x l[i])) (.inr true) (.inl (l,t,(i:Int)))
    (by rw[s8o];simp only[t4j,u0b,Am,Ah,Aa,zOb])
    (fun k hk=>by
     have g2:=t8k l[k] l[i] (t1p (l2 _ (Ag hk)).1) (t1p (l2 _ (Ag hi)).2);rw[s8o];simp only[t4j,u0b,hk,Ae,Ad,q1,g1,q2,g2,y8h hk,zTn,y9a (t:=u01) hk,zOb];rw[y7x (by omega)];cases decide (l[k].2.1=2)<;>cases decide (l[k].1=t.1)<;>cases ahead l[k] l[i] <;>rfl)
   rw[Bz];exact L
 have L:=s5c t7n l (fun i=>(l,t,i)) (o9g t l) (.inr true) (.inl ())
  (by rw[q7b];simp only[s3x,u0b,Am,Ah,Aa])
  (fun i hi=>by
   have g1:=t8k l[i] t (t1p (l2 _ (Ag hi)).1) (t1p ht.2);have g2:=t8k t l[i] (t1p ht.1) (t1p (l2 _ (Ag hi)).2);rw[q7b];simp only[s3x,u0b,hi,Ae,Ad,y8h hi,zTn,y9a (t:=u01) hi,g1,g2,inner i hi,zOb,o9g,j5x];have ws:=y7x (i:=i) (by omega);cases decide (l[i].2.1=2)<;>cases decide (l[i].2.1=3)<;>cases l[i].2.2.2.2.2.2.1<;>cases ahead l[i] t<;>cases ahead t l[i] <;>cases (l.any fun x=>decide (x.2.1=2)&&(!decide (x.1=t.1)&&ahead x l[i]))<;>first | rfl | (simp only[Dt,Fy,Fx,Bz,Fp,Ew,Ci,Ad,Aa,zOb,ws]))
 rw[o93];unfold p22;have L:t7n (l,t,0)=_:=L;simp only[j1u t l ht ⟨l1,l2⟩,p5i t l ht ⟨l1,l2⟩,L,zOb];rw[d13];cases j4z t l<;>cases p6h t l<;>cases l.any (o9g t l)<;>rfl
theorem p8d (t:u0e) (l:Hu u0e) (ht:s71 t) (hl:q7l l):s4x (t,l)=some (t8d t l):=by
 obtain⟨l1,l2⟩:=hl;have inner:∀(i:Nat) (hi:i<l.length) (b:Bool),u7n (l,t,b,(i:Int),l[i],0)=some (bif (l.any fun y=>decide (y.2.1=2)&&(!decide (y.1=t.1)&&ahead l[i] y)) then .inr true else .inl (l,t,b,(i:Int))):=fun i hi b=>
  s5c u7n l (fun k=>(l,t,b,(i:Int),l[i],k)) (fun y=>decide (y.2.1=2)&&(!decide (y.1=t.1)&&ahead l[i] y)) (.inr true) (.inl (l,t,b,(i:Int)))
   (by rw[s7z];simp only[t0q,u0b,Am,Ah,Aa,zOb])
   (fun k hk=>by
    have g2:=t8k l[i] l[k] (t1p (l2 _ (Ag hi)).1) (t1p (l2 _ (Ag hk)).2);rw[s7z];simp only[t0q,u0b,hk,Ae,Ad,g2,y8h hk,zTn,y9a (t:=u01) hk,zOb];rw[y7x (by omega)];cases decide (l[k].2.1=2)<;>cases decide (l[k].1=t.1)<;>cases ahead l[i] l[k] <;>rfl)
 have L:=s5c u8u l (fun i=>(l,t,j4z t l,i)) (fun x=>(decide (x.2.1=2)&&ahead t x)&&(j4z t l || l.any fun y=>decide (y.2.1=2)&&(!decide (y.1=t.1)&&ahead x y))) (.inr true) (.inl ())
  (by rw[s9c];simp only[t1u,u0b,Am,Ah,Aa])
  (fun i hi=>by
   have g2:=t8k t l[i] (t1p ht.1) (t1p (l2 _ (Ag hi)).2);rw[s9c];simp only[t1u,u0b,hi,Ae,Ad,y8h hi,zTn,y9a (t:=u01) hi,g2,inner i hi (j4z t l),zOb];have ws:=y7x (i:=i) (by omega);cases decide (l[i].2.1=2)<;>cases ahead t l[i] <;>cases j4z t l<;>cases (l.any fun y=>decide (y.2.1=2)&&(!decide (y.1=t.1)&&ahead l[i] y))<;>first | rfl | (simp only[Dt,Fy,Fx,Bz,Fp,Ew,Ci,Ap,Bh,Ad,Aa,zOb,ws]))
 rw[d10] at L;rw[p34];unfold r20 t8d s3p;have L:u8u (l,t,j4z t l,0)=_:=L;simp only[o0n t l ht ⟨l1,l2⟩,j1u t l ht ⟨l1,l2⟩,L,zOb];have e:r42 (fun x:u0e=> !decide (x.1=t.1)) t l=q97 t l:=rfl;rw[e];cases q97 t l<;>cases ((j4z t l&&l.any fun x=>decide (x.2.1=2)&&ahead t x) || l.any fun x=>(decide (x.2.1=2)&&ahead t x)&&l.any fun y=>decide (y.2.1=2)&&(!decide (y.1=t.1)&&ahead x y))<;>rfl
theorem j6l (b:u0m) (hb:fewB b):t94 b=some (b.2.1++b.2.2.1):=by
 have h1:=hb.2.1.1;have h2:=hb.2.2.1;rw[j0j];unfold p3i;simp only[Cc,Co,Cf,u0w (show b.2.1.length<=1099511627776 by omega),u0w (show b.2.1.length+b.2.2.1.length<=1099511627776 by omega),Ad]
theorem o7e {e:u3m} (h:EngR e) (id:Int):r30 (e,id)=some (s77 e id):=by
 have ho:=h.olen;have h2:=t7e e id (by omega);have h3:=j6l e.1 h.fewB;have h3:t94 e.1=some (t1l e):=h3;have h4:=j3p e.1;rw[j27];unfold p7g s77;simp only[h2,h3,zOb];by_cases hn:u2w e.2 id<0
 .simp only[hn,Ae,Ad,Bl]
 .obtain⟨j,hj,e1,e2,e3⟩:=u2h hn;have hT:=(h.ot (Ag hj)).few;simp only[hn,Ah,Aa,Bk,e1,y8h hj,Ad,zTn,y9a (t:=u01) hj,j1m _ _ hT h.fewOth,o0n _ _ hT h.fewOth,h4,zOb,e2];have hn' : ¬((j:Int)<0):=by omega
  simp only[hn',Ah,Aa,Bk];cases q5z e.2[j] (t1l e)<;>cases q97 e.2[j] (t1l e)<;>cases r0n e.1<;>rfl
theorem p77 {b:u0m} {t:u0e} {n:Hs} (h: ¬(0<=u0l b n)):∃(k:Nat) (hk:k<(u54 b t n).2.2.1.length),u0l (u54 b t n) n=(k:Int)/\(u54 b t n).2.2.1[k] =s5j b t n:=by
 have hb:=d5o.mp (show u0l b n<0 by omega);have hm:s5j b t n∈(u54 b t n).2.2.1:=by
  show s5j b t n∈(b.2.2.1.filter fun x=>y3i x.2.2.2.2.2.2.2 n)++ [s5j b t n] ++(b.2.2.1.filter fun x=> !y3i x.2.2.2.2.2.2.2 n);simp
 have hn: ¬u0l (u54 b t n) n<0:=fun q=>d5o.mp q _ hm rfl
 obtain⟨k,hk,e1,e2⟩:=s27 hn;refine⟨k,hk,e1,?_⟩;have hx:=Ag hk;have hx:(u54 b t n).2.2.1[k] ∈(b.2.2.1.filter fun x=>y3i x.2.2.2.2.2.2.2 n)++ [s5j b t n] ++(b.2.2.1.filter fun x=> !y3i x.2.2.2.2.2.2.2 n):=hx;simp only[Ay,A6,Ax] at hx;rcases hx with (q | q) | q
 .exact absurd e2 (hb _ q.1)
 .exact q
 .exact absurd e2 (hb _ q.1)
theorem EngR.mids {e:u3m} (h:EngR e):j83 e.1.2.2.2.1:=o3y h.base.cs
theorem j6p {e:u3m} (h:EngR e) {t:u0e} (ht:t∈e.2\/t∈e.1.2.2.1):u9h (e.1,t)=some (u2p e.1 t):=by
 have hT:TxnR t:=by
  rcases ht with q | q
  .exact(h.open_ t q).1
  .exact(h.base.ready t q).1
 rw[p60 e.1 t h.fewB hT.tiny.few,o4k h.mids (r5b hT.id)]
theorem o0a {e:u3m} (h:EngR e) {t:u0e} (ht:t∈e.2\/t∈e.1.2.2.1):tinyB (u2p e.1 t):=by
 have hT:TxnR t:=by
  rcases ht with q | q
  .exact(h.open_ t q).1
  .exact(h.base.ready t q).1
 exact r37 h.base hT.tiny
theorem j36 (b:u0m) (t:u0e) (hb:b.2.1.length<=1000):∃(k:Nat) (hk:k<(u2p b t).2.1.length),i64.wrap (((u2p b t).2.1.length:Int) - (1:Int))=(k:Int)/\(u2p b t).2.1[k] =p1f b t:=by
 have e:(u2p b t).2.1=b.2.1++ [p1f b t] :=rfl;refine⟨b.2.1.length,by rw[e];simp,?_,?_⟩
 .rw[e,Ba,Aw,y5f (by omega) (by omega)];omega
 .simp[e]
theorem j2n {b:u0m} {t:u0e} (h:s71 t):s71 (p1f b t):=h
theorem j45 {e:u3m} (h:EngR e) (id:Int):r9s (e,id)=some (u80 e id):=by
 have ho:=h.olen;have h1:u0s e=some e:=t11 e.1 e.2 h.fewB h.fewO;have h2:=t7e e id (by omega);have hJ:=o7e h id;have hO:u1m (e,id)=some (leaveE e id):=r82 e.1 e.2 id h.fewB (by omega);rw[o92];unfold p21 u80;simp only[h1,hJ,zOb];by_cases c1:s77 e id=1
 .simp only[c1,Ae,Ad,Bl];rfl
 .simp only[c1,Ah,Aa,Bk];by_cases c0:s77 e id=0
  .obtain⟨hn,_,_,_⟩:=p1p c0;obtain⟨j,hj,e1,e2,e3⟩:=u2h hn;have hm:e.2[j] ∈e.2\/e.2[j] ∈e.1.2.2.1:= .inl (Ag hj);have hT:=j6p h hm;obtain⟨k,hk,f1,f2⟩:=j36 e.1 e.2[j] (by have:=h.base.plen;omega);have hC:=t4i (p1f e.1 e.2[j]) (j2n (h.ot (Ag hj)).few);have hO2:=r82 (u2p e.1 e.2[j]) e.2 id (o0a h hm).few (by omega);simp only[c0,Ae,Ap,Aa,Bl,h2,e1,y8h hj,Ad,zTn,y9a (t:=u01) hj,hT,f1,y8h hk,y9a (t:=u01) hk,f2,hC,hO2,zOb,e2];show some _=some (p1e e e.2[j],_);unfold p1e s46;rw[e3];rfl
  .simp only[c0,Ah,Bh,Ad,Bk,hO,zOb];rfl
theorem j18 {e:u3m} (h:EngR e) (id:Int) {n:Hs} (hn1:n.size<=1048576):r5q (e,id,n)=some (r2k e id n):=by
 have ho:=h.olen;have h1:u0s e=some e:=t11 e.1 e.2 h.fewB h.fewO;have h2:=t7e e id (by omega);have hK:=s3b n (by unfold u0i;omega);have hA:u2d (e.1,n)=some (u0l e.1 n):=s3d e.1 n (by have:=h.base.rlen;omega);have hJ:=o7e h id;have hL:t94 e.1=some (t1l e):=j6l e.1 h.fewB;have hO:u1m (e,id)=some (leaveE e id):=r82 e.1 e.2 id h.fewB (by omega);rw[o56];unfold q9c r2k;simp only[h1,h2,zOb];by_cases c1:u2w e.2 id<0
 .simp only[c1,Ae,Ad,Bl];rfl
 simp only[c1,Ah,Aa,Bk,hK,zOb];cases c2:t02 n with
 | false=>simp only[Bh,Ad,Bl];rfl | true=>
 simp only[Ap,Aa,Fm,Bk,hA,zOb];by_cases c3:0<=u0l e.1 n
 .have c3' :decide (u0l e.1 n>=0)=true:=by simpa using c3
  simp only[c3,c3',Ad,Bl];rfl
 have c3' :decide (u0l e.1 n>=0)=false:=by simpa using c3
 simp only[c3,c3',Aa,Bk,hJ,zOb];unfold r3w;by_cases c4:s77 e id=0
 .obtain⟨j,hj,e1,e2,e3⟩:=u2h c1;have hT:=(h.ot (Ag hj));have hTR:=(h.open_ _ (Ag hj)).1;have hD:=p8d e.2[j] (t1l e) hT.few h.fewOth;have hr:=h.base.rlen;simp only[c4,Ae,e1,y8h hj,Ad,zTn,y9a (t:=u01) hj,hL,hD,zOb,e2,ne_eq,not_true_eq_false,Bk];cases c5:t8d e.2[j] (t1l e) with
  | true=>
   have d5:decide ((5:Int)=0)=false:=by decide
   simp only[Ad,d5,Aa,zOb,Bh,hO,Bl];rfl
  | false=>
   simp only[Aa,zOb,Br,Bk];have e6:decide ((e.1.2.2.1.length:Int)>=3)=decide (3<=e.1.2.2.1.length):=by simp;omega
   simp only[e6];by_cases c6:3<=e.1.2.2.1.length
   .have d3:decide ((3:Int)=0)=false:=by decide
    simp only[c6,Ae,Ad,d3,Bh,hO,zOb,Bl];rfl
   .have hM:=q8b e.1 e.2[j] n h.fewB hT.few (r5b hTR.id);obtain⟨k,hk,f1,f2⟩:=p77 (t:=e.2[j]) c3;have hns:n.size<=100:=by have:=(u2y c2).2;omega
    have hMt:=q7s (t:=e.2[j]) h.base hT hns;have hA2:u2d (u54 e.1 e.2[j] n,n)=some ((k:Nat):Int):=by rw[s3d _ n (by have:=hMt.rl;omega),f1]
    have hC:=t4i (s5j e.1 e.2[j] n) hT.few;have hO2:=r82 (u54 e.1 e.2[j] n) e.2 id hMt.few (by omega);simp only[c6,Ah,Aa,Ae,Ap,y8h hj,Ad,y9a (t:=u01) hj,hM,hA2,y8h hk,zTn,y9a (t:=u01) hk,f2,hC,hO2,zOb,Bk,Bl];show some _=some (j8l e e.2[j] n,_);unfold j8l s46;rw[e3];rfl
 .simp only[c4,Ah,Aa,zOb,Bh,Ad,hO,ne_eq,not_false_eq_true,Bl,Bk];rfl
theorem o8v {e:u3m} (h:EngR e) (n:Hs) (yes:Bool):r9t (e,n,yes)=some (o0e e n yes):=by
 have ho:=h.olen;have h1:u0s e=some e:=t11 e.1 e.2 h.fewB h.fewO;have hA:u2d (e.1,n)=some (u0l e.1 n):=s3d e.1 n (by have:=h.base.rlen;omega);have hF:=j3p e.1;have hG:=p6s e.1 n h.fewB;have hG2:=r86 (s76 e.1 n) e.2 (q7n h.tinyO).few (by omega);rw[o95];unfold p24 o0e;simp only[h1,hA,hF,zOb];by_cases c1:u0l e.1 n<0
 .simp only[c1,Ae,Ad,Bl];rfl
 obtain⟨k,hk,f1,f2⟩:=s27 c1;simp only[c1,Ah,Aa,Bk];cases yes with
 | false=>simp only[Aa,zOb,hG,hG2,Br,false_and,Bk];rfl | true=>
  have hm:e.1.2.2.1[k] ∈e.2\/e.1.2.2.1[k] ∈e.1.2.2.1:= .inr (Ag hk);have hT:=j6p h hm;have hT2:=r86 (u2p e.1 e.1.2.2.1[k]) e.2 (o0a h hm).few (by omega);simp only[Ad,true_and];cases r0n e.1 with
  | true=>rfl | false=>
   simp only[Aa,Br,Bk,Bl,f1,y8h hk,Ad,zTn,y9a (t:=u01) hk,hT,hT2,zOb];rfl
theorem j3h:emp.size<=100:=by decide
theorem s68 (r:r2l):(u0v r).1.size<=20000:=by
 cases h:u86 r with
 | false=>unfold u0v;rw[h];exact A9 j3h (by omega) | true=>
  have hR:=d37.mp h;rw[s7s hR];have:=s91 hR;show(p13 (p10 r)).size<=20000;rw[o8c];omega
def o1b (b:u0m):r2l:=(4,u6a,emp,false,b)
theorem p7q {b:u0m} (h:tinyB b):tinyR (o1b b):=⟨s53,j3h,h⟩
theorem o7b (d:u0j) (hd:c1c.wt d<=10000000):s45 d=some (orD d (j6t d)):=by
 have h1:=o7g d (by omega);have h2:=t7g (o1b (p92 (u0h d)).1) (p7q (j3z _)).wt;have h3:=u9k d (by unfold u0i;omega);rw[o3d];unfold q5v;simp only[h1,zOb];have h2:u40 (4,(0,0,0,0, [], [],false,(⟨#[]⟩:Hs)),(⟨#[]⟩:Hs),false,(p92 (u0h d)).1)=_:=h2;simp only[h2,h3,zOb];unfold j6t;cases hp:r5c (u0h d) with
 | none=>
  have e:(p92 (u0h d)).2=false:=by unfold p92;rw[hp]
  simp only[e,Bh,Ad,zOb];rfl
 | some b=>
  have e:p92 (u0h d)=(b,true):=by unfold p92;rw[hp]
  simp only[e,Ap,Aa,zOb];have e4:o1b b=(4,u6a,emp,false,b):=rfl;rw[e4];cases ht:(u0v (4,u6a,emp,false,b)).2 with
  | false=>simp only[Bh,Ad,Br,Bk];rfl | true=>
   have h5:=o42 (d:=d) (l:= [(u0v (4,u6a,emp,false,b)).1]) hd (by simp) (fun t h=>by
    rw[Ax.mp h];have:=s68 (4,u6a,emp,false,b);omega)
   simp only[Ap,Aa,Bl,h5,zOb]
theorem j9t {d z:u0j} (h:j6t d=some z):u2s z=true:=by
 unfold j6t at h;split at h
 .cases h
 .split at h
  .exact(o8g h).2.1
  .cases h
abbrev d1x:=Hu u0e×(Hu Int×Hu Hs)
theorem o0r (s:u2k) (z0:d1x) (r:r2l) (hd:c1c.wt s.2<=10000000) (hr:tinyR r):s05 ((s,z0),r)=some ((t71 s.2 r).isSome,(s.1,(t71 s.2 r).getD s.2),z0):=by
 have h1:=t7g r hr.wt;have hl:=s68 r;have h2:=r4t s.2 (u0v r).1 hd (by omega);have h3:=o7b s.2 hd;rw[o6w];unfold q93 t71;simp only[h1,zOb];cases ht:(u0v r).2 with
 | false=>simp only[Bh,Ad,Br,Bk];rfl | true=>
  simp only[Ap,Aa,Bl,h2,zOb];cases ha:append_ s.2 (u0v r).1 with
  | some y=>rfl | none=>
   simp only[orD,Bh,Ad,h3,zOb];cases hz:j6t s.2 with
   | none=>rfl | some z=>
    have h4:=r4t z (u0v r).1 (u8c (j9t hz)) (by omega);simp only[orD,Ap,Aa,h4,zOb];cases hq:append_ z (u0v r).1<;>rfl
theorem s3q:tinyR j1e:=⟨s53,by decide,t5y⟩
theorem p7s {e:u3m} (h:EngR e) (id:Int):tinyR (u80 e id).2.1:=by
 unfold u80;split
 .exact s3q
 .split
  .rename_i c1 c0;obtain⟨hn,_,_,_⟩:=p1p c0;obtain⟨j,hj,e1,e2,e3⟩:=u2h hn;rw[e2];exact⟨(h.ot (Ag hj)).like rfl rfl j3h,j3h,t5y⟩
  .exact s3q
theorem o70 {e:u3m} (h:EngR e) (id:Int) (n:Hs):tinyR (r2k e id n).2.1:=by
 unfold r2k;split
 .exact s3q
 .rename_i hn;split
  .exact s3q
  .rename_i hk;split
   .exact s3q
   .split
    .obtain⟨j,hj,e1,e2,e3⟩:=u2h hn;rw[e2];have hk:t02 n=true:=by simpa using hk
     have:=(u2y hk).2;exact⟨(h.ot (Ag hj)).like rfl rfl (by show n.size<=100;omega),j3h,t5y⟩
    .exact s3q
theorem j3n {e:u3m} (n:Hs) (hn:n.size<=100) (y:Bool):tinyR (o0e e n y).2.1:=by
 unfold o0e;split
 .exact s3q
 .split
  .exact s3q
  .split
   .exact⟨s53,hn,t5y⟩
   .exact⟨s53,hn,t5y⟩
theorem o62 {s:u2k} (h:EngR s.1) (hd:u2s s.2=true) (z0:d1x) (id:Int):s2y ((s,z0),id)=some ((u6x s id).2,(u6x s id).1,z0):=by
 have ho:=h.olen;have h1:=j45 h id;have h2:=o0r s z0 (u80 s.1 id).2.1 (u8c hd) (p7s h id);have h3:u0s s.1=some s.1:=t11 s.1.1 s.1.2 h.fewB h.fewO;have hO:u1m (s.1,id)=some (leaveE s.1 id):=r82 s.1.1 s.1.2 id h.fewB (by omega);rw[p9x];unfold q1e u6x;simp only[h1,zOb];by_cases c:(u80 s.1 id).2.2=0
 .simp only[c,Ae,Ad,Bl,h2,zOb];cases t71 s.2 (u80 s.1 id).2.1 with
  | none=>simp only[Option.isSome_none,Bh,Ad,h3,hO,zOb];rfl | some d=>rfl
 .simp only[c,Ah,Aa,Bk]
theorem o3s {s:u2k} (h:EngR s.1) (hd:u2s s.2=true) (z0:d1x) (id:Int) {n:Hs} (hn:n.size<=1048576):s50 ((s,z0),id,n)=some ((p4q s id n).2,(p4q s id n).1,z0):=by
 have ho:=h.olen;have h1:=j18 h id hn;have h2:=o0r s z0 (r2k s.1 id n).2.1 (u8c hd) (o70 h id n);have h3:u0s s.1=some s.1:=t11 s.1.1 s.1.2 h.fewB h.fewO;have hO:u1m (s.1,id)=some (leaveE s.1 id):=r82 s.1.1 s.1.2 id h.fewB (by omega);rw[p6e];unfold r6r p4q;simp only[h1,zOb];by_cases c:(r2k s.1 id n).2.2=0
 .simp only[c,Ae,Ad,Bl,h2,zOb];cases t71 s.2 (r2k s.1 id n).2.1 with
  | none=>simp only[Option.isSome_none,Bh,Ad,h3,hO,zOb];rfl | some d=>rfl
 .simp only[c,Ah,Aa,Bk]
theorem d44 {e:u3m} {n:Hs} {y:Bool} (c:(o0e e n y).2.2≠0):(o0e e n y).1=e:=by
 unfold o0e at c ⊢;split
 .rfl
 .split
  .rfl
  .rename_i h1 h2;rw[Ao h1,Ao h2] at c;split at c<;>exact absurd rfl c
theorem o63 {s:u2k} (h:EngR s.1) (hd:u2s s.2=true) (z0:d1x) {n:Hs} (hn:n.size<=100) (y:Bool):t0l ((s,z0),n,y)=some ((t7d s n y).2,(t7d s n y).1,z0):=by
 have h1:=o8v h n y;have h2:=o0r s z0 (o0e s.1 n y).2.1 (u8c hd) (j3n n hn y);rw[p9y];unfold q1f t7d;simp only[h1,zOb];by_cases c:(o0e s.1 n y).2.2=0
 .simp only[c,Ae,Ad,Bl,h2,zOb];cases t71 s.2 (o0e s.1 n y).2.1 with
  | none=>rfl | some d=>rfl
 .simp only[c,Ah,Aa,Bk,d44 c]
theorem j7x {s:u2k} (h:EngR s.1) (hd:c1c.wt s.2<=10000000):r5y s=some s:=by
 have h1:u0s s.1=some s.1:=t11 s.1.1 s.1.2 h.fewB h.fewO;have h2:=u9k s.2 (by unfold u0i;omega);rw[o6v];unfold q92;simp only[h1,h2,zOb]
theorem d1t {s:u2k} (h:EngR s.1) (hd:u2s s.2=true):u9y s=some (d1m s):=by
 have h1:=j7x h (u8c hd);have h2:=o7b s.2 (u8c hd);rw[o2s];unfold q5b d1m;simp only[h1,h2,zOb];cases j6t s.2<;>rfl
def PQR:Hu Hs:= [⟨#[112]⟩,⟨#[113]⟩,⟨#[114]⟩]
def RN (e:u3m):Prop:= ∀x∈e.1.2.2.1,x.2.2.2.2.2.2.2∈PQR
structure SttN (k:Nat) (s:u2k):Prop extends Stt k s where
 rn:RN s.1
theorem o0s (t:u0e) (l:Hu u4n) (k:Hs) (ht:s71 t) (hl:l.length<=4194304):s9p (t,l,k)=some (s5i t l k):=by
 have h8:=ht.2;have hq:∀x∈t.2.2.2.2.2.1,s6w (x,k)=some (z7q x.1 k):=fun x _=>by rw[o5u];rfl
 have L:=Q.first (T:=u2m) (c:=Hs) (W:=u1t) (q:=s6w) (p:=fun w:WrT=>z7q w.1 k) (fun x=>t3b x) t.2.2.2.2.2.1 k (by omega) hq;rw[o9r];unfold p2p s5i;simp only[j2y,p7b,t5g,u6k,L,zOb];by_cases hk:u0o (fun w:WrT=>z7q w.1 k) t.2.2.2.2.2.1<t.2.2.2.2.2.1.length
 .have c0:decide (((u0o (fun w:WrT=>z7q w.1 k) t.2.2.2.2.2.1:Nat):Int)>=0)=true:=by simp
  simp only[Al hk,zOb,c0,Ad,y8h hk,zTn,y9a (t:=u2m) hk];cases (t.2.2.2.2.2.1[u0o (fun w:WrT=>z7q w.1 k) t.2.2.2.2.2.1]).2.2<;>rfl
 .have c0:decide ((-1:Int)>=0)=false:=rfl;simp only[Ao hk,zOb,c0,Aa,j5g l k _ (show l.length<=1099511627776 by omega)]
theorem j8j (a b:Hu Hs):q3y (q3y a++b)=q3y (a++b):=
 Asc.ext (s5p _).1 (s5p _).1 fun x=>by
  rw[(s5p _).2,(s5p _).2,Ay,Ay,(s5p _).2]
theorem j1v (t:u0e) (l:Hu u4n) (r:s5b) (ht:s71 t) (hl:l.length<=4194304):r5g (t,l,r)=some (r9f t l r):=by
 have h8:=ht.2;obtain⟨a0,ha0⟩:∃a0,a0=q3y (l.map fun v=>v.1):=⟨_,rfl⟩;have hk0:a0.length<=4194304:=by
  have:=p4c (l.map fun v=>v.1);rw[Da,←ha0] at this;omega
 have L:=t13 t4p t.2.2.2.2.2.1 (fun(a:Hu Hs) i=>(l,t,r,a,t.2.2.2.2.2.1,(t.2.2.2.2.2.1.length:Int),i)) (fun a (w:WrT)=>a++ [w.1]) (fun a=> .inl (l,t,r,a)) (fun i a=>a.length=a0.length+i)
  (fun a _=>by rw[q2u];simp only[s1c,u0b,Am,Ah,Aa])
  (fun i hi a ha=>⟨by simp[ha];omega,by
   rw[q2u];simp only[s1c,u0b,hi,Ae,Ad,y8h hi,zTn,y9a (t:=u2m) hi,Aw,u0w (show a.length+1<=1099511627776 by omega)];rw[y7x (by omega)]⟩) a0 rfl
 have fo:∀(ws:Hu WrT) (a:Hu Hs),ws.foldl (fun a (w:WrT)=>a++ [w.1]) a=a++ws.map fun w=>w.1:=by
  intro ws
  induction ws with
  | nil=>intro a;simp | cons w ws ih=>intro a;rw[Bs,ih,C8,Bi];rfl
 rw[fo] at L;have hall:(a0++t.2.2.2.2.2.1.map fun w=>w.1).length<=6000000:=by simp;omega
 have h1:y7m (a0++t.2.2.2.2.2.1.map fun w=>w.1)=some (y4n (a0++t.2.2.2.2.2.1.map fun w=>w.1)):=by
  unfold y7m;rw[u0w (by omega)];rfl
 have h2:y0p (y4n (a0++t.2.2.2.2.2.1.map fun w=>w.1))=some (q3y (a0++t.2.2.2.2.2.1.map fun w=>w.1)):=by
  unfold y0p;rw[o4g,u0w (by omega)];rfl
 obtain⟨ks,hks⟩:∃ks,ks=q3y (a0++t.2.2.2.2.2.1.map fun w=>w.1):=⟨_,rfl⟩;have hkl:ks.length<=6000000:=by
  rw[hks];have:=p4c (a0++t.2.2.2.2.2.1.map fun w=>w.1);omega
 have L2:=s98 t9h ks (fun a i=>(l,t,r,a,ks,(ks.length:Int),i)) (fun k=>(s5i t l k).2&&inR r k) (fun k=>(k,(s5i t l k).1)) (fun a=> .inl a) (by omega)
  (fun a _=>by rw[r77];simp only[t8o,u0b,Am,Ah,Aa])
  (fun i hi a ha=>by
   rw[r77];simp only[t8o,u0b,hi,Ae,Ad,y8h hi,zTn,y9a (t:=Ty.str) hi,o0s t l _ ht hl,p6t,zOb,Aw,u0w (show a.length+1<=1099511627776 by omega)];rw[y7x (by omega)];cases (s5i t l ks[i]).2<;>rfl)
 have L:t4p (l,t,r,a0,t.2.2.2.2.2.1,(t.2.2.2.2.2.1.length:Int),0)=_:=L;rw[o5f];unfold q8n;simp only[j9j l (show l.length<=1099511627775 by omega),zOb];rw[←ha0];simp only[L,zOb,t7y,t3f,h1,h2];rw[←hks];simp only[L2,zOb];rw[hks,ha0,j8j];rfl
theorem o4t (l:Hu s5b) (r:s5b) (hl:l.length<=1048576):u84 (l,r)=some (d46 l r):=by
 have L:=q4a u26 (u0o (fun x:s5b=>z7q x.1 r.1&&z7q x.2 r.2) l) (fun(_:Unit) i=>(l,r,(l.length:Int),i)) (fun _ _=>if u0o (fun x:s5b=>z7q x.1 r.1&&z7q x.2 r.2) l<l.length then .inr ((u0o (fun x:s5b=>z7q x.1 r.1&&z7q x.2 r.2) l:Nat):Int) else .inl ()) (fun _ _=>True)
  (fun a _=>by
   have hle:=t2l (fun x:s5b=>z7q x.1 r.1&&z7q x.2 r.2) l;rw[t8i];by_cases hk:u0o (fun x:s5b=>z7q x.1 r.1&&z7q x.2 r.2) l<l.length
   .have hy:=u9u hk;simp only[u24,u0b,hk,Ae,Ad,y8h hk,zTn,y9a (t:=t3e) hk,q7u r.1,q7u r.2,Cz,hy,Bl]
   .simp only[u24,u0b,hk,Ah,Aa,Bk])
  (fun i a hi _=> .inr ⟨(),trivial,rfl,by
   have hle:=t2l (fun x:s5b=>z7q x.1 r.1&&z7q x.2 r.2) l;have hil:i<l.length:=by omega
   have hn:=u9n hil hi;rw[t8i];simp only[u24,u0b,hil,Ae,Ad,y8h hil,zTn,y9a (t:=t3e) hil,q7u r.1,q7u r.2,Cz,hn,Aa];rw[y7x (by omega)]⟩) 0 () (Cn _) trivial
 have L:u26 (l,r,(l.length:Int),0)=_:=L;rw[s9j];unfold t6z d46;rw[r46];unfold s0r;simp only[L,zOb];rw[←u9t];by_cases hk:u0o (fun x:s5b=>z7q x.1 r.1&&z7q x.2 r.2) l<l.length
 .simp[hk]
 .simp[hk]
theorem o4y {t:u0e} {r:s5b} (ht:TxnR t) (h1:t.2.1=1) (hr:u3a r=true):s79 (t,r)=some (s9x t r):=by
 have hy:=ht.tiny;have hw:=hy.wt;have hl:=ht.rlen;have c0:=s69 t hy.few;have c1:=t9e t (by unfold u0i;omega);have k:=u2y (s:=r.1) (by unfold u3a at hr;simp only[Ai] at hr;exact hr.1);have k' :=u2y (s:=r.2) (by unfold u3a at hr;simp only[Ai] at hr;exact hr.2.1);have c2:=q34 r (by unfold u0i;omega) (by unfold u0i;omega);have ok:=p4u.mpr ht;have L:=o4t t.2.2.2.2.1 r (by omega);rw[p8x];unfold q0g s9x;simp only[c0,c1,c2,ok,hr,h1,zOb,Ae,Ap,Aa,L];cases d46 t.2.2.2.2.1 r
 .have e8:decide ((t.2.2.2.2.1.length:Int)=8)= !decide (t.2.2.2.2.1.length<8):=by by_cases c:t.2.2.2.2.1.length<8<;>simp[c] <;>omega
  simp only[Aa,e8,Br,Bk];by_cases c:t.2.2.2.2.1.length<8
  .simp only[c,Ae,Ap,Aa,Aw,u0w (show t.2.2.2.2.1.length+1<=1099511627776 by omega),Ad,Bl];unfold c1l;rw[h1]
  .simp only[c,Ah,Bh,Ad,Bk]
 .rfl
theorem j9u {l:Hu WrT} (w:WrT) (h:l.Pairwise fun a b=>y3i a.1 b.1=true):
 l.filter (fun x=>y3i x.1 w.1)=l.takeWhile (fun x=>y3i x.1 w.1)/\l.filter (fun x=> !(y3i x.1 w.1 || z7q x.1 w.1))=(l.dropWhile fun x=>y3i x.1 w.1).filter fun x=> !z7q x.1 w.1:=by
 induction l with
 | nil=>exact⟨rfl,rfl⟩ | cons a l ih=>
  rw[Ch] at h;obtain⟨h1,h2⟩:=ih h.2;cases hc:y3i a.1 w.1 with
  | true=>
   simp only[Di,F8,List.dropWhile_cons,hc,Bl,Dx,Ap,Br,Bk];exact⟨by rw[h1],h2⟩
  | false=>
   have no:∀x∈l,y3i x.1 w.1=false:=fun x hx=>by
    cases q:y3i x.1 w.1 with
    | false=>rfl | true=>rw[p0x (h.1 x hx) q] at hc;cases hc
   simp only[Di,F8,List.dropWhile_cons,hc,Br,Bk,Ci];refine⟨List.filter_eq_nil_iff.mpr fun x hx=>by rw[no x hx];simp,?_⟩;have e:l.filter (fun x=> !(y3i x.1 w.1 || z7q x.1 w.1))=l.filter fun x=> !z7q x.1 w.1:=List.filter_congr fun x hx=>by rw[no x hx,Ci]
   rw[e]
theorem o8y {l:Hu WrT} (w:WrT) (h:l.Pairwise fun a b=>y3i a.1 b.1=true) (hl:l.length<=1048576):r07 (l,w)=some (p1x l w):=by
 obtain⟨s1,s2⟩:=j9u w h;obtain⟨f1,f2,f3,f4,f5⟩:=r91 (fun x:WrT=>y3i x.1 w.1) l
 have L:=j9q t15 l (fun i=>(w,l,i)) (fun x:WrT=>y3i x.1 w.1) (fun i=> .inl (w,l,i)) (.inl (w,l,(l.length:Int)))
  (by rw[r78];simp only[t8p,u0b,Am,Ah,Aa,zOb])
  (fun i hi=>by
   rw[r78];simp only[t8p,u0b,hi,Ae,Ad,y8h hi,zTn,y9a (t:=u2m) hi,zOb];rw[y7x (by omega)])
 obtain⟨k,hk⟩:∃k,k=(l.takeWhile fun x:WrT=>y3i x.1 w.1).length:=⟨_,rfl⟩;rw[←hk] at L f1 f2 f3 f4;have L:t15 (w,l,0)=some (.inl (w,l,(k:Int))):=by
  rw[L];by_cases c:k<l.length
  .rw[Al c]
  .rw[Ao c];congr 4;omega
 have hd:l.dropWhile (fun x:WrT=>y3i x.1 w.1)=l.drop k:=by
  have e:=Fe (p:=fun x:WrT=>y3i x.1 w.1) (l:=l);have e2:=En k l;rw[←f4] at e2;exact(List.append_cancel_left (e.trans e2.symm))
 have hp:p1x l w=l.take k++ [w] ++(l.drop k).filter fun x=> !z7q x.1 w.1:=by
  unfold p1x;rw[s1,s2,hd,f4]
 rw[o1u];unfold q4p;simp only[u0w (show l.length<=1099511627776 by omega),Ad,L,zOb,u0b];have ins:u97 (l,(k:Int), [w])=some (l.take k++ [w] ++l.drop k):=by
  rw[r2j];unfold y2u;have h1:decide ((0:Int)<=(k:Int))=true:=by simp
  have h2:decide ((k:Int)<=(l.length:Int))=true:=by simpa using f1
  simp only[h1,h2,u0w (show l.length+1<=1099511627776 by omega),Bz,Aw,zTn];rfl
 by_cases c:k<l.length
 .have hgt:∀x∈l.drop (k+1),y3i l[k].1 x.1=true:=fun x hx=>by
   rw[Gy] at hx;obtain⟨i,hi,rfl⟩:=hx;rw[List.getElem_drop];rw[F0] at hi;exact Cp.mp h k (k+1+i) c (by omega) (by omega)
  have hne:∀x∈l.drop (k+1),z7q x.1 w.1=false:=fun x hx=>by
   have q:=hgt x hx;rw[o4h];intro e;rw[e] at q;have:=f3 c;rw[q] at this;cases this
  have hdr:l.drop k=l[k] ::l.drop (k+1):=Ce c;have hft:(l.drop (k+1)).filter (fun x=> !z7q x.1 w.1)=l.drop (k+1):=F9.mpr fun x hx=>by rw[hne x hx];rfl
  simp only[c,Ae,Ad,y8h c,zTn,y9a (t:=u2m) c,zOb];cases he:z7q l[k].1 w.1 with
  | true=>
   simp only[Ad];rw[hp,hdr,Di,he,hft];simp only[Ap,Br,Bk];rw[List.set_eq_take_append_cons_drop,Al c,Bi];rfl
  | false=>
   simp only[Aa,ins,zOb];rw[hp];congr 2;rw[hdr,Di,he,hft];rfl
 .have hk2:l.drop k= [] :=List.drop_of_length_le (by omega);simp only[c,Ah,Aa,zOb,ins];rw[hp,hk2];rfl
theorem d03 {t:u0e} (ht:TxnR t) (l:Hu WrT):u92 (d0w t l)=u59 l:=by
 cases h:u59 l with
 | true=>exact p4u.mpr (d38 ht h) | false=>
  cases q:u92 (d0w t l) with
  | false=>rfl | true=>have:=(p4u.mp q).ws;have:u59 l=true:=this;rw[this] at h;cases h
theorem o85 {t:u0e} {w:WrT} (ht:TxnR t) (h1:t.2.1=1) (hw:u4c w=true):r1a (t,w)=some (r4r t w):=by
 have hy:=ht.tiny;have hyw:=hy.wt;obtain⟨wa,wb,ht8⟩:=d4a.mp ht.ws;have hl:=j7f t.2.2.2.2.2.1 w;have c0:=s69 t hy.few;have c1:=t9e t (by unfold u0i;omega);have c2:=q4c w (by have:=p41 hw;unfold u0i;omega);have c3:=o8y (l:=t.2.2.2.2.2.1) w wb (by omega);have c4:=t9e (d0w t (p1x t.2.2.2.2.2.1 w)) (by
  have:=j4u (l:=p1x t.2.2.2.2.2.1 w) (by omega) (j38 ht.ws hw);have e1:=j4o t;have e2:=j4o (d0w t (p1x t.2.2.2.2.2.1 w));have e3:(d0w t (p1x t.2.2.2.2.2.1 w)).2.2.2.2.1=t.2.2.2.2.1:=rfl;have e4:(d0w t (p1x t.2.2.2.2.2.1 w)).2.2.2.2.2.1=p1x t.2.2.2.2.2.1 w:=rfl;have e5:(d0w t (p1x t.2.2.2.2.2.1 w)).2.2.2.2.2.2.2=t.2.2.2.2.2.2.2:=rfl;rw[e3,e4,e5] at e2;unfold u0i;omega)
 have ok:=p4u.mpr ht;have e:d0w t (p1x t.2.2.2.2.2.1 w)=(t.1,t.2.1,t.2.2.1,t.2.2.2.1,t.2.2.2.2.1,p1x t.2.2.2.2.2.1 w,t.2.2.2.2.2.2):=rfl;rw[d03 ht,p42 ht.ws hw] at c4;rw[e,h1] at c4;rw[o2c];unfold q4w r4r;simp only[c0,c1,c2,c3,c4,ok,hw,h1,zOb,Ae,Ap,Aa];by_cases c:(p1x t.2.2.2.2.2.1 w).length<=8
 .simp only[c,Ae,Ap,Aa,Bl];rw[e,h1]
 .simp only[c,Ah,Bh,Ad,Bk]
theorem j1l (t:u0e) (l:Hu u0e) (ht:s71 t) (hl:q7l l):r5e (t,l)=some (q5z t l):=by
 obtain⟨l1,l2⟩:=hl;have hq:∀x∈l,s2o (x,t)=some (!decide (x.1=t.1)&&((decide (x.2.1=2) || (decide (x.2.1=3)&&decide (x.2.2.2.1 >t.2.2.1)))&&q75 x.2.2.2.2.2.1 t.2.2.2.2.2.1)):=fun x hx=>by
  have h1:=j72 x.2.2.2.2.2.1 t.2.2.2.2.2.1 (t1p (l2 x hx).2) (t1p ht.2);rw[p8p];unfold r99;simp only[u9b,s4g,s4a,zOb,h1];cases decide (x.1=t.1)<;>cases decide (x.2.1=2)<;>cases decide (x.2.1=3)<;>cases decide (x.2.2.2.1 >t.2.2.1)<;>cases q75 x.2.2.2.2.2.1 t.2.2.2.2.2.1<;>rfl
 have L:=Q.first (T:=u01) (c:=u0e) (W:=u1o) (q:=s2o) (p:=fun x:u0e=> !decide (x.1=t.1)&&((decide (x.2.1=2) || (decide (x.2.1=3)&&decide (x.2.2.2.1 >t.2.2.1)))&&q75 x.2.2.2.2.2.1 t.2.2.2.2.2.1)) (fun x=>t26 x) l t (by omega) hq;rw[o48];unfold q8g q5z;simp only[r2i,t96,t2k,u4s,t5b,u6f,L,zOb];rw[←u9t];clear L hq;split<;>rename_i hc<;>split at hc<;>simp_all<;>omega
theorem j1t (t:u0e) (l:Hu u0e) (ht:s71 t) (hl:q7l l):r9k (t,l)=some (j4z t l):=by
 obtain⟨l1,l2⟩:=hl;have hq:∀x∈l,s9o (x,t)=some (j5x x&&ahead x t):=fun x hx=>by
  have h1:=t5r x t (t1p (l2 x hx).1) (t1p ht.2);rw[o9o];unfold p2m;simp only[u9b,s4g,s4a,zOb,h1,j5x];cases decide (x.2.1=2)<;>cases decide (x.2.1=3)<;>cases ahead x t<;>rfl
 have L:=Q.first (T:=u01) (c:=u0e) (W:=u14) (q:=s9o) (p:=fun x:u0e=>j5x x&&ahead x t) (fun x=>t58 x) l t (by omega) hq;rw[j5q];unfold o02 j4z;simp only[r9c,s4b,t49,u6d,t7x,u7o,L,zOb];rw[←u9t];clear L hq;split<;>rename_i hc<;>split at hc<;>simp_all<;>omega
def o1i (t:u0e) (l:Hu u0e):Bool:=r42 (fun _=>true) t l
theorem j1n (t:u0e) (l:Hu u0e) (ht:s71 t) (hl:q7l l):t1c (l,t)=some (l.any fun x=>j5x x&&(x.2.2.2.2.2.2.1&&ahead t x)):=by
 obtain⟨l1,l2⟩:=hl;have hq:∀x∈l,s4l (x,t)=some (j5x x&&(x.2.2.2.2.2.2.1&&ahead t x)):=fun x hx=>by
  have h1:=t5r t x (t1p ht.1) (t1p (l2 x hx).2);rw[o1n];unfold q4i;simp only[u9b,s4g,s4a,zOb,h1,j5x];cases decide (x.2.1=2)<;>cases decide (x.2.1=3)<;>cases x.2.2.2.2.2.2.1<;>cases ahead t x<;>rfl
 have L:=Q.first (T:=u01) (c:=u0e) (W:=u1v) (q:=s4l) (p:=fun x:u0e=>j5x x&&(x.2.2.2.2.2.2.1&&ahead t x)) (fun x=>t4e x) l t (by omega) hq;simp only[r44,s0p,t22,u5b,t5z,u60,L,zOb];rw[←u9t];clear L hq;split<;>rename_i hc<;>split at hc<;>simp_all<;>omega
theorem o8r (p:u0e) (l:Hu u0e) (ht:s71 p) (hl:q7l l):u9w (l,p)=some (l.any fun x=>decide (x.2.1=2)&&ahead x p):=by
 obtain⟨l1,l2⟩:=hl;have hq:∀x∈l,t9v (x,p)=some (decide (x.2.1=2)&&ahead x p):=fun x hx=>by
  have h1:=t5r x p (t1p (l2 x hx).1) (t1p ht.2);rw[p5r];unfold r54;simp only[u9b,zOb,h1];cases decide (x.2.1=2)<;>cases ahead x p<;>rfl
 have L:=Q.first (T:=u01) (c:=u0e) (W:=u1k) (q:=t9v) (p:=fun x:u0e=>decide (x.2.1=2)&&ahead x p) (fun x=>t21 x) l p (by omega) hq;simp only[r0m,t7t,t1m,u4g,t38,u5x,L,zOb];rw[←u9t];clear L hq;split<;>rename_i hc<;>split at hc<;>simp_all<;>omega
theorem j1o (t:u0e) (l:Hu u0e) (ht:s71 t) (hl:q7l l):t1d (l,t,l)=some (l.any fun p=>decide (p.2.1=2)&&(ahead p t&&(ahead t p || l.any fun x=>decide (x.2.1=2)&&ahead x p))):=by
 have hl' :=hl;obtain⟨l1,l2⟩:=hl;have hq:∀p∈l,s4m (p,t,l)=some (decide (p.2.1=2)&&(ahead p t&&(ahead t p || l.any fun x=>decide (x.2.1=2)&&ahead x p))):=fun p hx=>by
  have h1:=t5r t p (t1p ht.1) (t1p (l2 p hx).2);have h2:=t5r p t (t1p (l2 p hx).1) (t1p ht.2);have h3:=o8r p l (l2 p hx) hl';rw[o1o];unfold q4j;simp only[u9b,zOb,h1,h2,h3];cases decide (p.2.1=2)<;>cases ahead p t<;>cases ahead t p<;>cases (l.any fun x=>decide (x.2.1=2)&&ahead x p)<;>rfl
 have L:=Q.first (T:=u01) (c:=u0e×Hu u0e) (W:=u1w) (q:=s4m) (p:=fun p:u0e=>decide (p.2.1=2)&&(ahead p t&&(ahead t p || l.any fun x=>decide (x.2.1=2)&&ahead x p))) (fun x=>t4f x) l (t,l) (by omega) hq;simp only[r45,s0q,t23,u5c,t52,u61,L,zOb];rw[←u9t];clear L hq;split<;>rename_i hc<;>split at hc<;>simp_all<;>omega
theorem o0m (t:u0e) (l:Hu u0e) (ht:s71 t) (hl:q7l l):s9n (t,l)=some (o1i t l):=by
 rw[o9k];unfold p2i o1i r42;simp only[j1t t l ht hl,p5h t l ht hl,j1n t l ht hl,j1o t l ht hl,zOb,Bz];cases j4z t l<;>cases p6h t l<;>cases (l.any fun x=>j5x x&&(x.2.2.2.2.2.2.1&&ahead t x))<;>cases (l.any fun p=>decide (p.2.1=2)&&(ahead p t&&(ahead t p || l.any fun x=>decide (x.2.1=2)&&ahead x p)))<;>rfl
theorem j2a (t:u0e) (l:Hu u0e) (ht:s71 t) (hl:q7l l):u7u (l,t)=some (l.any fun x=>decide (x.2.1=2)&&ahead t x):=by
 obtain⟨l1,l2⟩:=hl;have hq:∀x∈l,u8z (x,t)=some (decide (x.2.1=2)&&ahead t x):=fun x hx=>by
  have h1:=t5r t x (t1p ht.1) (t1p (l2 x hx).2);rw[s8w];unfold s0c;simp only[u9b,zOb,h1];cases decide (x.2.1=2)<;>cases ahead t x<;>rfl
 have L:=Q.first (T:=u01) (c:=u0e) (W:=u07) (q:=u8z) (p:=fun x:u0e=>decide (x.2.1=2)&&ahead t x) (fun x=>t07 x) l t (by omega) hq;simp only[s7e,t3c,u95,u3i,t1n,u4h,L,zOb];rw[←u9t];clear L hq;split<;>rename_i hc<;>split at hc<;>simp_all<;>omega
theorem o80 (t p:u0e) (l:Hu u0e) (ht:s71 p) (hl:q7l l):u6v (l,t,p)=some (l.any fun y=>decide (y.2.1=2)&&(!decide (y.1=t.1)&&ahead p y)):=by
 obtain⟨l1,l2⟩:=hl;have hq:∀x∈l,u90 (x,t,p)=some (decide (x.2.1=2)&&(!decide (x.1=t.1)&&ahead p x)):=fun x hx=>by
  have h1:=t5r p x (t1p ht.1) (t1p (l2 x hx).2);rw[q3w];unfold s5f;simp only[u9b,zOb,h1];cases decide (x.2.1=2)<;>cases decide (x.1=t.1)<;>cases ahead p x<;>rfl
 have L:=Q.first (T:=u01) (c:=u0e×u0e) (W:=u04) (q:=u90) (p:=fun x:u0e=>decide (x.2.1=2)&&(!decide (x.1=t.1)&&ahead p x)) (fun x=>u93 x) l (t,p) (by omega) hq;simp only[s5d,t1j,u9s,u27,t00,u3v,L,zOb];rw[←u9t];clear L hq;split<;>rename_i hc<;>split at hc<;>simp_all<;>omega
theorem j2b (t:u0e) (l:Hu u0e) (ht:s71 t) (hl:q7l l):u3z (l,t,l,t)=some (l.any fun x=>(decide (x.2.1=2)&&ahead t x)&&l.any fun y=>decide (y.2.1=2)&&(!decide (y.1=t.1)&&ahead x y)):=by
 have hl' :=hl;obtain⟨l1,l2⟩:=hl;have hq:∀p∈l,t1y (p,t,l,t)=some ((decide (p.2.1=2)&&ahead t p)&&l.any fun y=>decide (y.2.1=2)&&(!decide (y.1=t.1)&&ahead p y)):=fun p hx=>by
  have h1:=t5r t p (t1p ht.1) (t1p (l2 p hx).2);have h3:=o80 t p l (l2 p hx) hl';rw[q71];unfold s8s;simp only[s8w,s0c,u9b,zOb,h1,h3];cases decide (p.2.1=2)<;>cases ahead t p<;>cases (l.any fun y=>decide (y.2.1=2)&&(!decide (y.1=t.1)&&ahead p y))<;>rfl
 have L:=Q.first (T:=u01) (c:=u0e×Hu u0e×u0e) (W:=u08) (q:=t1y) (p:=fun x:u0e=>(decide (x.2.1=2)&&ahead t x)&&l.any fun y=>decide (y.2.1=2)&&(!decide (y.1=t.1)&&ahead x y)) (fun x=>t08 x) l (t,l,t) (by omega) hq;simp only[s7f,t3d,u96,u3j,t1o,u4i,L,zOb];rw[←u9t];clear L hq;split<;>rename_i hc<;>split at hc<;>simp_all<;>omega
theorem p8c (t:u0e) (l:Hu u0e) (ht:s71 t) (hl:q7l l):s4p (t,l)=some (s3p (fun _=>true) t l):=by
 rw[p3r];unfold r2p s3p;have e:r42 (fun _=>true) t l=o1i t l:=rfl;simp only[o0m t l ht hl,j1t t l ht hl,j2a t l ht hl,j2b t l ht hl,zOb,e];cases o1i t l<;>cases j4z t l<;>cases (l.any fun x=>decide (x.2.1=2)&&ahead t x)<;>cases (l.any fun x=>(decide (x.2.1=2)&&ahead t x)&&l.any fun y=>decide (y.2.1=2)&&(!decide (y.1=t.1)&&ahead x y))<;>rfl
theorem p7v {f g:u0e->Bool} {t:u0e} {l:Hu u0e} (h:∀x∈l,f x=g x):r42 f t l=r42 g t l:=by
 unfold r42;have e:∀p:u0e,(l.any fun x=>decide (x.2.1=2)&&(f x&&ahead x p))=l.any fun x=>decide (x.2.1=2)&&(g x&&ahead x p):=fun p=>by
  rw[Cd,Cm,Cm];constructor<;>rintro⟨x,hx,q⟩<;>exact⟨x,hx,by rw[h x hx] at*;exact q⟩
 simp only[e]
theorem p5d {e:u3m} (h:EngR e):u10 e=some e:=o7a e.1 e.2 h.fewB h.fewO
theorem j7u {e:u3m} (h:EngR e):q6n e=some (s0s e):=by
 have ho:=h.olen;have hn:=h.base.next;have h1:=p5d h;have h2:=o8s e (by have:=h.tinyO.wt;have:=o0i (l:=e.2) (by omega) (fun t ht=>h.ot ht);have:=j60 e;unfold u0i;omega);have hk:=d7u.mpr h;have b1:decide ((e.2.length:Int)=4)= !decide (e.2.length<4):=by by_cases c:e.2.length<4<;>simp[c] <;>omega
 have b2:decide (e.1.2.2.2.2=9999)= !decide (e.1.2.2.2.2<9999):=by by_cases c:e.1.2.2.2.2<9999<;>simp[c] <;>omega
 rw[j2p];unfold p62 s0s;simp only[h1,h2,hk,zOb,Ap,Aa,b1,b2,Aw,u0w (show e.2.length+1<=1099511627776 by omega),Ad];by_cases c1:e.2.length<4
 .by_cases c2:e.1.2.2.2.2<9999
  .simp only[c1,c2,Ae,Ap,Aa,zOb,and_self,Bl,s21 (n:=e.1.2.2.2.2) (r5b hn)];rfl
  .simp only[c1,c2,Ae,Ah,Ap,Bh,Aa,Ad,zOb,and_false,Bk]
 .simp only[c1,Ah,Bh,Ad,zOb,false_and,Bk]
theorem o7h {e:u3m} (h:EngR e) (id:Int) {r:s5b} {right:Bool} (hr:right=true->u3a r=true):r3z (e,id,r,right)=some ((r5a e id r right).1,u2w e.2 id,(r5a e id r right).2):=by
 have ho:=h.olen;have h1:=p5d h;have h2:=s22 e id (by omega);rw[j22];unfold p7d r5a;simp only[h1,h2,zOb];by_cases hn:u2w e.2 id<0
 .simp only[hn,Ae,Ad,Bl]
 .obtain⟨j,hj,e1,e2,e3⟩:=u2h hn;have hR:=h.open_ _ (Ag hj);simp only[hn,Ah,Aa,Bk];cases hok:right with
  | false=>rfl | true=>
   have c:=o4y (r:=r) hR.1 hR.2.1 (hr hok);simp only[Ap,Aa,e1,y8h hj,Ad,zTn,y9a (t:=u01) hj,c,zOb,e2,Fm,Bk];cases hq:(s9x e.2[j] r).2 with
   | false=>rfl | true=>rfl
theorem d0g {e:u3m} {id:Int} {r:s5b} {right:Bool} (h:(r5a e id r right).2=0): ¬u2w e.2 id<0:=by
 intro hn;unfold r5a at h;rw[Al hn] at h;exact(by decide: ¬((1:Int)=0)) h
theorem j49 {e:u3m} (h:EngR e) (id:Int) {k:Hs} (hk:k.size<=1048576):r9j (e,id,k)=some (j1g e id k):=by
 have h3:=s3a k (by unfold u0i;omega);have hr:=o7h h id (r:=(k,k)) (right:=t02 k) (fun q=>by rw[j00];exact q);rw[o9n];unfold p2l j1g;simp only[h3,hr,zOb];by_cases c:(r5a e id (k,k) (t02 k)).2=0
 .obtain⟨j,hj,e1,e2,e3⟩:=u2h (d0g c);have g:=o0s e.2[j] e.1.1 k (h.ot (Ag hj)).few (by have:=h.tinyO.vl;omega);simp only[c,Ae,Ap,Aa,e1,y8h hj,Ad,zTn,y9a (t:=u01) hj,g,zOb,Bl,e2]
 .simp only[c,Ah,Bh,Ad,Bk];rfl
theorem o81 {e:u3m} (h:EngR e) (id:Int) {r:s5b} (hk:r.1.size<=1048576/\r.2.size<=1048576):r08 (e,id,r)=some (p6l e id r):=by
 have h3:=q34 r (by unfold u0i;omega) (by unfold u0i;omega);have hr:=o7h h id (r:=r) (right:=u3a r) (fun q=>q);rw[o1x];unfold q4s p6l;simp only[h3,hr,zOb];by_cases c:(r5a e id r (u3a r)).2=0
 .obtain⟨j,hj,e1,e2,e3⟩:=u2h (d0g c);have g:=j1v e.2[j] e.1.1 r (h.ot (Ag hj)).few (by have:=h.tinyO.vl;omega);simp only[c,Ae,Ap,Aa,e1,y8h hj,Ad,zTn,y9a (t:=u01) hj,g,zOb,Bl,e2]
 .simp only[c,Ah,Bh,Ad,Bk]
theorem o0u {e:u3m} (h:EngR e) (id:Int) {w:WrT} (hw:w.1.size<=1048576):t9y (e,id,w)=some (j7d e id w):=by
 have ho:=h.olen;have h1:=p5d h;have h2:=s22 e id (by omega);have h3:=q4c w (by unfold u0i;omega);rw[o9t];unfold p2r j7d;simp only[h1,h2,h3,zOb];by_cases hn:u2w e.2 id<0
 .simp only[hn,Ae,Ad,Bl]
 .obtain⟨j,hj,e1,e2,e3⟩:=u2h hn;have hR:=h.open_ _ (Ag hj);simp only[hn,Ah,Aa,Bk];cases hok:u4c w with
  | false=>rfl | true=>
   have c:=o85 (w:=w) hR.1 hR.2.1 hok;simp only[Ap,Aa,e1,y8h hj,Ad,zTn,y9a (t:=u01) hj,c,zOb,e2,Fm,Bk];cases hr:(r4r e.2[j] w).2 with
   | false=>rfl | true=>rfl
theorem q4b {e:u3m} (h:EngR e) (id:Int):u9f (e,id)=some (e.1,s46 e id):=by
 have ho:=h.olen;have h1:=p5d h;have h2:=o4w e.2 id (by omega);rw[o5w];unfold q82;simp only[h1,h2,zOb];rfl
theorem r52 {e:u3m} (h:EngR e) (id:Int):t03 (e,id)=some (r7t e id):=by
 have ho:=h.olen;have h1:=q4b h id;have h2:=s22 e id (by omega);have h3:=t1a e.1 (s46 e id) h.fewB (by have:=j03 e id;omega);rw[j2s];unfold p65 r7t;simp only[h1,h2,zOb];by_cases hn:u2w e.2 id<0
 .simp only[hn,Ae,Ad,Bl,d0s hn]
 .simp only[hn,Ah,Aa,Bk,h3,zOb];rfl
theorem o7f {e:u3m} (h:EngR e):s7o e=some (t1l e):=by
 have h1:=h.base.plen;have h2:=h.base.rlen;have e1: [e.1.2.1,e.1.2.2.1].flatten=t1l e:=by simp[t1l]
 have L:=p5c [e.1.2.1,e.1.2.2.1] (by rw[e1];simp only[t1l,Ba];omega) (by simp);rw[e1] at L;rw[j2z];unfold p7c;simp only[L,zOb]
theorem EngR.unlike {e:u3m} (h:EngR e) {t:u0e} (ht:t∈e.2):∀x∈t1l e,(!decide (x.1=t.1))=true:=fun x hx=>by
 have:=h.apart x hx t ht;simpa using this
theorem j5o {e:u3m} (h:EngR e) {t:u0e} (ht:t∈e.2):o1i t (t1l e)=q97 t (t1l e):=
 p7v fun x hx=>(h.unlike ht x hx).symm
theorem p94 {e:u3m} (h:EngR e) {t:u0e} (ht:t∈e.2):s3p (fun _=>true) t (t1l e)=t8d t (t1l e):=by
 unfold t8d s3p;rw[p7v (f:=fun _=>true) (g:=fun x=> !decide (x.1=t.1)) fun x hx=>(h.unlike ht x hx).symm]
theorem o7d {e:u3m} (h:EngR e) (id:Int):r3x (e,id)=some (s77 e id):=by
 have ho:=h.olen;have h2:=s22 e id (by omega);have h3:=o7f h;have h4:=j3o e.1;rw[j2q];unfold p63 s77;simp only[h2,h3,zOb];by_cases hn:u2w e.2 id<0
 .simp only[hn,Ae,Ad,Bl]
 .obtain⟨j,hj,e1,e2,e3⟩:=u2h hn;have hm:=Ag hj;have hT:=(h.ot hm).few;simp only[hn,Ah,Aa,Bk,e1,y8h hj,Ad,zTn,y9a (t:=u01) hj,j1l _ _ hT h.fewOth,o0m _ _ hT h.fewOth,j5o h hm,h4,zOb,e2];have hn' : ¬((j:Int)<0):=by omega
  simp only[hn',Ah,Aa,Bk];cases q5z e.2[j] (t1l e)<;>cases q97 e.2[j] (t1l e)<;>cases r0n e.1<;>rfl
theorem j6n {e:u3m} (h:EngR e) {t:u0e} (ht:t∈e.2\/t∈e.1.2.2.1):u9e (e.1,t)=some (u2p e.1 t):=by
 have hT:TxnR t:=by
  rcases ht with q | q
  .exact(h.open_ t q).1
  .exact(h.base.ready t q).1
 rw[p6z e.1 t h.fewB hT.tiny.few,p14 h.mids (r5b hT.id)]
theorem p4f {e:u3m} {id:Int} (h: ¬u2w e.2 id<0):r7t e id=(leaveE e id,0):=by unfold r7t;rw[Ao h]
theorem j52 {e:u3m} {id:Int} (h:u2w e.2 id<0):r7t e id=(e,1):=by unfold r7t;rw[Al h]
theorem j44 {e:u3m} (h:EngR e) (id:Int):r9h (e,id)=some (u80 e id):=by
 have ho:=h.olen;have h2:=s22 e id (by omega);have hJ:=o7d h id;have hO:=r52 h id;have hW:=q4b h id;rw[o9j];unfold p2h u80;simp only[hJ,zOb];by_cases c1:s77 e id=1
 .have d:decide ((1:Int)=0)=false:=by decide
  simp only[c1,d,Bh,Ad,hO,zOb,Bl,j52 (c1q.mp c1)];rfl
 .by_cases c0:s77 e id=0
  .obtain⟨hn,_,_,_⟩:=p1p c0;obtain⟨j,hj,e1,e2,e3⟩:=u2h hn;have hm:e.2[j] ∈e.2\/e.2[j] ∈e.1.2.2.1:= .inl (Ag hj);have hT:=j6n h hm;obtain⟨k,hk,f1,f2⟩:=j36 e.1 e.2[j] (by have:=h.base.plen;omega);have hC:=s69 (p1f e.1 e.2[j]) (j2n (h.ot (Ag hj)).few);have hO2:=t1a (u2p e.1 e.2[j]) (s46 e id) (o0a h hm).few (by have:=j03 e id;omega);have d: ¬((0:Int)=1):=by decide
   simp only[c0,d,Ae,Ap,Aa,Bl,Bk,h2,e1,y8h hj,Ad,zTn,y9a (t:=u01) hj,hW,hT,f1,y8h hk,y9a (t:=u01) hk,f2,hC,hO2,zOb,e2];show some _=some (p1e e e.2[j],_);unfold p1e s46;rw[e3];rfl
  .have hn: ¬u2w e.2 id<0:=fun q=>c1 (c1q.mpr q)
   simp only[c1,c0,Ah,Bh,Ad,Bk,hO,zOb,p4f hn];rfl
theorem j17 {e:u3m} (h:EngR e) (id:Int) {n:Hs} (hn1:n.size<=1048576):r5h (e,id,n)=some (r2k e id n):=by
 have ho:=h.olen;have h1:=p5d h;have h2:=s22 e id (by omega);have hK:=s3a n (by unfold u0i;omega);have hA:u2c (e.1,n)=some (u0l e.1 n):=s3c e.1 n (by have:=h.base.rlen;omega);have hJ:=o7d h id;have hL:=o7f h;have hO:=r52 h id;have hW:=q4b h id;rw[o5h];unfold q8p r2k;simp only[h1,h2,zOb];by_cases c1:u2w e.2 id<0
 .simp only[c1,Ae,Ad,Bl];rfl
 rw[p4f c1] at hO;simp only[c1,Ah,Aa,Bk,hK,zOb];cases c2:t02 n with
 | false=>simp only[Bh,Ad,Bl];rfl | true=>
 simp only[Ap,Aa,Fm,Bk,hA,zOb];by_cases c3:0<=u0l e.1 n
 .have c3' :decide (u0l e.1 n>=0)=true:=by simpa using c3
  simp only[c3,c3',Ad,Bl];rfl
 have c3' :decide (u0l e.1 n>=0)=false:=by simpa using c3
 simp only[c3,c3',Aa,Bk,hJ,zOb];unfold r3w;by_cases c4:s77 e id=0
 .obtain⟨j,hj,e1,e2,e3⟩:=u2h c1;have hm:=Ag hj;have hT:=(h.ot hm);have hTR:=(h.open_ _ hm).1;have hD:=p8c e.2[j] (t1l e) hT.few h.fewOth;rw[p94 h hm] at hD;have hr:=h.base.rlen;simp only[c4,Ae,e1,y8h hj,Ad,zTn,y9a (t:=u01) hj,hL,hD,zOb,e2,ne_eq,not_true_eq_false,Bk];cases c5:t8d e.2[j] (t1l e) with
  | true=>
   have d5:decide ((5:Int)=0)=false:=by decide
   simp only[Ad,d5,Aa,zOb,Bh,hO,Bl];rfl
  | false=>
   simp only[Aa,zOb,Br,Bk];have e6:decide ((e.1.2.2.1.length:Int)>=3)=decide (3<=e.1.2.2.1.length):=by simp;omega
   simp only[e6];by_cases c6:3<=e.1.2.2.1.length
   .have d3:decide ((3:Int)=0)=false:=by decide
    simp only[c6,Ae,Ad,d3,Bh,hO,zOb,Bl];rfl
   .have hM:=q8a e.1 e.2[j] n h.fewB hT.few (r5b hTR.id);obtain⟨k,hk,f1,f2⟩:=p77 (t:=e.2[j]) c3;have hns:n.size<=100:=by have:=(u2y c2).2;omega
    have hMt:=q7s (t:=e.2[j]) h.base hT hns;have hA2:u2c (u54 e.1 e.2[j] n,n)=some ((k:Nat):Int):=by rw[s3c _ n (by have:=hMt.rl;omega),f1]
    have hC:=s69 (s5j e.1 e.2[j] n) hT.few;have hO2:=t1a (u54 e.1 e.2[j] n) (s46 e id) hMt.few (by have:=j03 e id;omega);simp only[c6,Ah,Aa,Ae,Ap,hW,y8h hj,Ad,y9a (t:=u01) hj,hM,hA2,y8h hk,zTn,y9a (t:=u01) hk,f2,hC,hO2,zOb,Bk,Bl];show some _=some (j8l e e.2[j] n,_);unfold j8l s46;rw[e3];rfl
 .simp only[c4,Ah,Aa,zOb,Bh,Ad,hO,ne_eq,not_false_eq_true,Bl,Bk];rfl
theorem o8u {e:u3m} (h:EngR e) (n:Hs) (yes:Bool):r9i (e,n,yes)=some (o0e e n yes):=by
 have ho:=h.olen;have h1:=p5d h;have hA:u2c (e.1,n)=some (u0l e.1 n):=s3c e.1 n (by have:=h.base.rlen;omega);have hF:=j3o e.1;have hG:=p6r e.1 n h.fewB;have hG2:=t1a (s76 e.1 n) e.2 (q7n h.tinyO).few (by omega);rw[o9m];unfold p2k o0e;simp only[h1,hA,hF,zOb];by_cases c1:u0l e.1 n<0
 .simp only[c1,Ae,Ad,Bl];rfl
 obtain⟨k,hk,f1,f2⟩:=s27 c1;simp only[c1,Ah,Aa,Bk];cases yes with
 | false=>simp only[Aa,zOb,hG,hG2,Br,false_and,Bk];rfl | true=>
  have hm:e.1.2.2.1[k] ∈e.2\/e.1.2.2.1[k] ∈e.1.2.2.1:= .inr (Ag hk);have hT:=j6n h hm;have hT2:=t1a (u2p e.1 e.1.2.2.1[k]) e.2 (o0a h hm).few (by omega);simp only[Ad,true_and];cases r0n e.1 with
  | true=>rfl | false=>
   simp only[Aa,Br,Bk,Bl,f1,y8h hk,Ad,zTn,y9a (t:=u01) hk,hT,hT2,zOb];rfl
def c2h:u2k:=((u70, []),([], []))
def p11 (d:u0j):u2k×Bool:=if u2s d=true/\(p92 (u0h d)).2=true then((((p92 (u0h d)).1, []),d),true) else(c2h,false)
theorem j2c (d:u0j) (hd:c1c.wt d<=10000000):s2t d=some (p11 d):=by
 have hb:u0i=1099511627776:=rfl;rw[p80];unfold q0j p11;rw[j15 d (by omega),p5f d (by omega),u9j d (by omega)];simp only[zOb];cases u2s d<;>cases (p92 (u0h d)).2<;>rfl
theorem j9n (d:u0j) (hd:c1c.wt d<=10000000):u8q d=some (p11 d):=by
 have hb:u0i=1099511627776:=rfl;rw[p9s];unfold q09 p11;rw[o7g d (by omega),p5g d (by omega),u9k d (by omega)];simp only[zOb];cases u2s d<;>cases (p92 (u0h d)).2<;>rfl
theorem j1j (d:u0j) (hd:c1c.wt d<=10000000):r9o d=some (orD d (j6t d)):=by
 have h1:=j15 d (by omega);have h2:=t7f (o1b (p92 (u0h d)).1) (p7q (j3z _)).wt;have h3:=u9j d (by unfold u0i;omega);rw[j5r];unfold o04;simp only[h1,zOb];have h2:u4y (4,(0,0,0,0, [], [],false,(⟨#[]⟩:Hs)),(⟨#[]⟩:Hs),false,(p92 (u0h d)).1)=_:=h2;simp only[h2,h3,zOb];unfold j6t;cases hp:r5c (u0h d) with
 | none=>
  have e:(p92 (u0h d)).2=false:=by unfold p92;rw[hp]
  simp only[e,Bh,Ad,zOb];rfl
 | some b=>
  have e:p92 (u0h d)=(b,true):=by unfold p92;rw[hp]
  simp only[e,Ap,Aa,zOb];have e4:o1b b=(4,u6a,emp,false,b):=rfl;rw[e4];cases ht:(u0v (4,u6a,emp,false,b)).2 with
  | false=>simp only[Bh,Ad,Br,Bk];rfl | true=>
   have h5:=o41 (d:=d) (l:= [(u0v (4,u6a,emp,false,b)).1]) hd (by simp) (fun t h=>by
    rw[Ax.mp h];have:=s68 (4,u6a,emp,false,b);omega)
   simp only[Ap,Aa,Bl,h5,zOb]
theorem s90 {s:u2k} (hb:fewB s.1.1) (ho:q7l s.1.2) (hd:c1c.wt s.2<=10000000):u4e s=some s:=by
 have h1:u10 s.1=some s.1:=o7a s.1.1 s.1.2 hb ho;have h2:=u9j s.2 (by unfold u0i;omega);rw[p87];unfold q0p;simp only[h1,h2,zOb]
theorem p5e (s:u2k) (r:r2l) (hb:fewB s.1.1) (ho:q7l s.1.2) (hd:c1c.wt s.2<=10000000) (hr:tinyR r):t9x (s,r)=some ((s.1,(t71 s.2 r).getD s.2),(t71 s.2 r).isSome):=by
 have h0:=s90 hb ho hd;have h1:=t7f r hr.wt;have hl:=s68 r;have h2:=r4s s.2 (u0v r).1 hd (by omega);have h3:=j1j s.2 hd;rw[p5s];unfold r55 t71;simp only[h0,h1,zOb];cases ht:(u0v r).2 with
 | false=>simp only[Bh,Ad,Br,Bk];rfl | true=>
  simp only[Ap,Aa,Bl,h2,zOb];cases ha:append_ s.2 (u0v r).1 with
  | some y=>rfl | none=>
   simp only[orD,Aa,h3,zOb];cases hz:j6t s.2 with
   | none=>rfl | some z=>
    have h4:=r4s z (u0v r).1 (u8c (j9t hz)) (by omega);simp only[orD,Ad,h4,zOb];cases hq:append_ z (u0v r).1<;>rfl
theorem j91 {e:u3m} {id:Int} (c:(u80 e id).2.2=0):s77 e id=0:=by
 unfold u80 at c;split at c
 .exact absurd c (by show ¬((1:Int)=0);decide)
 .split at c
  .assumption
  .exact c
theorem p8e {s:u2k} (h:EngR s.1) (hd:u2s s.2=true) (id:Int):s4r (s,id)=some (u6x s id):=by
 have ho:=h.olen;have h1:=j44 h id;have h0:=s90 h.fewB h.fewO (u8c hd);have hR:=j92 h id;have h2:=p5e ((u80 s.1 id).1,s.2) (u80 s.1 id).2.1 hR.fewB hR.fewO (u8c hd) (p7s h id);have hL:=r52 h id;rw[p3s];unfold r2q;simp only[h1,zOb];rw[o2i];unfold p1c u6x;simp only[h0,zOb];by_cases c:(u80 s.1 id).2.2=0
 .have hn:=(p1p (j91 c)).1;rw[p4f hn] at hL;simp only[c,Ae,Ap,Aa,Bl,h2,zOb];cases t71 s.2 (u80 s.1 id).2.1 with
  | none=>simp only[Option.isSome_none,Aa,hL,zOb] | some d=>rfl
 .simp only[c,Ah,Bh,Ad,Bk,zOb]
theorem j88 {s:u2k} (hb:fewB s.1.1) (ho:q7l s.1.2) (hd:c1c.wt s.2<=10000000):s4n s=some (d1m s):=by
 have h1:=s90 hb ho hd;have h2:=j1j s.2 hd;rw[o1q];unfold q4l d1m;simp only[h1,h2,zOb];cases j6t s.2<;>rfl
structure View (H:Hu u0e) (b:u0m):Prop where
 eq:d8g (c1u H) c4k=d8c b.1 c4k b.2.2.2.1
 right:∀t∈H,TxnR t
theorem d5p {c:Int} {t:u0e} (ht:TxnR t) (hs:t.2.2.1<=c) (hc:c<9999):TxnR (d2z (c+1) t):=
 ⟨ht.id,⟨by show(1:Int)<=3;omega,by show(3:Int)<=3;omega⟩,ht.snap,ht.rlen,ht.ws,ht.rs,fun _=>⟨by show t.2.2.1+1<=c+1;omega,by show c+1<=9999;omega⟩,
   fun e=>absurd rfl e,fun e=>by have e:(3:Int)=2:=e;omega,fun _=>rfl,fun e=>by have e:(3:Int)=1:=e;omega⟩
structure Life (k:Nat) (H:Hu u0e) (s:u2k):Prop where
 ser:Ser H s.1
 disk:HB H s
 view:View H s.1.1
 few:H.length<=k
theorem j8o {l:Hu u4n} (hl:u7h l=true) (k:Hs) (s:Int):(p4p l k s).1.size<=12:=by
 obtain⟨h1,_,_⟩:=d1n.mp hl;have hr:=o7y l k s;unfold p4p;split
 .exact(by decide:(emp).size<=12)
 .rename_i c;have c1: ¬s5h l k s<0:=fun q=>c (.inl q)
  have hlt:(s5h l k s).toNat<l.length:=by omega
  rw[y9a (t:=u0g) hlt];have:=h1 _ (Ag hlt);unfold q64 at this;simp only[Ai,Ar] at this;exact this.2.1
theorem j34 {t:u0e} {l:Hu u4n} (ht:TxnR t) (hl:u7h l=true) (k:Hs):(s5i t l k).1.size<=12:=by
 unfold s5i;split
 .rename_i c;rw[y9a (t:=u2m) c];have:=p41 ((d4a.mp ht.ws).1 _ (Ag c));split
  .exact(by decide:(emp).size<=12)
  .exact this.2
 .exact j8o hl k _
theorem j0t {t:u0e} {l:Hu u4n} (ht:TxnR t) (hl:u7h l=true) (r:s5b):(r9f t l r).length<=200/\ ∀x∈r9f t l r,x.1.size<=3/\x.2.size<=12:=by
 obtain⟨h1,_,h3⟩:=d1n.mp hl;obtain⟨w1,_,w3⟩:=d4a.mp ht.ws;unfold r9f;constructor
 .rw[Da];refine A9 (Cs _ _) (A9 (p4c _) ?_);rw[Ba,Da,Da];omega
 .intro x hx;obtain⟨k,hk,rfl⟩:=Bx.mp hx;refine⟨?_,j34 ht hl k⟩;have hk:=((s5p _).2 k).mp (A6.mp hk).1;rcases Ay.mp hk with hk | hk
  .obtain⟨v,hv,rfl⟩:=Bx.mp hk;have:=h1 v hv;unfold q64 at this;simp only[Ai] at this;exact(u2y this.1).2
  .obtain⟨w,hw,rfl⟩:=Bx.mp hk;exact(p41 (w1 w hw)).1
theorem p12 {e:u3m} (hE:EngR e) (id:Int) (r:s5b):(p6l e id r).2.1.length<=200/\ ∀x∈(p6l e id r).2.1,x.1.size<=3/\x.2.size<=12:=by
 unfold p6l;split
 .rename_i c;obtain⟨j,hj,e1,e2,e3⟩:=u2h (d0g c);have ht:u9a e id∈e.2:=by rw[e2];exact Ag hj
  exact j0t (hE.open_ _ ht).1 hE.base.vs r
 .exact⟨by show 0<=200;omega,fun x hx=>by cases hx⟩
theorem d0v (e:u3m) (id:Int) (r:s5b):(p6l e id r).1=(r5a e id r (u3a r)).1:=by
 unfold p6l;split<;>rfl
theorem d17 (e:u3m) (id:Int) (k:Hs):(j1g e id k).1=(r5a e id (k,k) (t02 k)).1:=by
 unfold j1g;split<;>rfl
structure EvR (e:j2k.den):Prop where
 kind:1<=e.1/\e.1<=12
 at0:0<=e.2.1
 key6:e.2.2.1.size<=6
 text:e.2.2.2.1.size<=20
 keep:e.2.2.2.2.length<=10
 nokeep:e.1≠12->e.2.2.2.2.length=0
theorem j7z {e:j2k.den} (h:EvR e):t5v e=some true:=by
 have l1:u0q (e.1,1,12)=some true:=by
  rw[r29];unfold r22;have:=h.kind;simp[this.1,this.2]
 have a1:decide (e.2.1<0)=false:=A7 (Hk.mpr h.at0);have a2:decide ((e.2.2.1.size:Int) >6)=false:=A7 (by have:=h.key6;omega);have a3:decide ((e.2.2.2.1.size:Int) >20)=false:=A7 (by have:=h.text;omega);have a4:decide ((e.2.2.2.2.length:Int) >10)=false:=A7 (by have:=h.keep;omega);rw[p0b];unfold r4x;simp only[l1,a1,a2,a3,a4,zOb,Ap,Aa];by_cases c:e.1=12
 .simp only[c,Ae,Ad,zOb]
 .have:=h.nokeep c;simp[c,this]
abbrev p5j:=Hu Int×Hu Hs
end Go.Proofs.YtkphhjdbdnoekaaGreatDoor.Ab
