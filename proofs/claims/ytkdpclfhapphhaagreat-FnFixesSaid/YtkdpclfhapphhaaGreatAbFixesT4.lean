import Derived.Test.YtkdpclfhapphhaaGreatAbFixesT3
import Derived.Test.YtkdpclfhapphhaaGreatAbK2
import Derived.Test.YtkdpclfhapphhaaGreatAbF4
import Derived.Test.YtkdpclfhapphhaaGreatAbS2
namespace Go.Proofs.YtkdpclfhapphhaaGreat.Ab
open Go
set_option linter.unusedVariables false
set_option linter.unusedSimpArgs false
set_option linter.unnecessarySimpa false
section
section
theorem o8e {d:u0i} (hk:u1y d=true) {k:Nat} (hlt:k<d.1.length):(u0l d (k:Int)).2=true∧(u0l d (k:Int)).1.size=64:=by
 obtain⟨k1,k2,k3,k4⟩:=p6e.mp hk
 have hc:(0:Int)≤(k:Int)∧(k:Int)<(d.1.length:Int):=by omega
 unfold u0l
 rw[Al hc]
 refine⟨rfl,?_⟩
 cases hp:t1o d.2 (k:Int) with
 | none=>
  have e:rdL Ty.str d.1 k=d.1[k] :=y8k (t:=Ty.str) hlt
  simp only[Eo,zTn]
  rw[e]
  exact k3 _ (Ag hlt)
 | some s=>
  obtain⟨p,hp1,hp2⟩:=q2i hp
  simp only[Eb]
  rw[←hp2]
  exact(k4 p hp1).2
theorem o2l:∀(f:Nat) {d:u0i} {k at_:Nat} {t:Hs},u1y d=true→at_<64→k*64+at_+t.size≤d.1.length*64→d.2.length+(at_+t.size+63) / 64≤60→ ∃x,p3n f d k at_ t=some x
 | 0,d,k,at_,t,_,_,_,_=>⟨d,rfl⟩
 | f+1,d,k,at_,t,hk,hat,h1,h2=>by
  rw[p3n]
  by_cases hz:t.size=0
  ·exact⟨d,by rw[Al hz]⟩
  ·have hr:=o8e hk (k:=k) (by omega)
   rw[Ao hz,Al hr]
   have hsz:((u0l d (k:Int)).1.extract 0 at_++t.extract 0 (min t.size (64 - at_))++(u0l d (k:Int)).1.extract (at_+min t.size (64 - at_)) 64).size=64:=by
    simp only[Af,Bd,hr.2];omega
   have hin:r0x (k:Int) 0 ((d.1.length:Int) - 1)=true:=by simp[r0x];omega
   have hok:u1y (d.1,d.2++ [((k:Int),(u0l d (k:Int)).1.extract 0 at_++t.extract 0 (min t.size (64 - at_))++(u0l d (k:Int)).1.extract (at_+min t.size (64 - at_)) 64)])=true:=by
    rw[r1a,hk,hin,hsz]
    simp;omega
   have hw:u4j d (k:Int) ((u0l d (k:Int)).1.extract 0 at_++t.extract 0 (min t.size (64 - at_))++(u0l d (k:Int)).1.extract (at_+min t.size (64 - at_)) 64)=some (d.1,d.2++ [((k:Int),(u0l d (k:Int)).1.extract 0 at_++t.extract 0 (min t.size (64 - at_))++(u0l d (k:Int)).1.extract (at_+min t.size (64 - at_)) 64)]):=by
    unfold u4j
    rw[Al hok]
   rw[hw]
   simp only[zOb]
   have hs2:(t.extract (min t.size (64 - at_)) t.size).size=t.size - min t.size (64 - at_):=by rw[Bd];omega
   refine o2l f hok (by omega) ?_ ?_
   ·rw[hs2];show _≤d.1.length*64;omega
   ·rw[hs2];simp only[Ba,Aw];omega
theorem o5w {d:u0i} {a:Int} {t:Hs} (hl:u2g d=true) (ha:a=0∨a=1) (h0:t.size≠0) (h1:t.size≤3008) (h2:u0x d a<255) (h3:(u0c d a).2.1+((u0q t).size:Int)≤3008):∃x,t24 d a t=some x:=by
 obtain⟨d1,d2,d3,d4,d5⟩:=u44 hl
 obtain⟨f1,f2⟩:=u8q ha
 have hat:=r1v d a
 have hok:(u0c d a).2.2=true:=by rcases ha with rfl | rfl<;>assumption
 have hsp:=t3f t
 unfold t24
 rw[Ao (by rw[hok];simp only[Fm,false_or];omega)]
 unfold u20
 have hc:(r0x (u0c d a).2.1 0 6400&&r0x (u0f a+1) 0 ((d.1.length:Int) - 1)&&u1y d)=true:=by
  rw[d1,d2]
  simp only[r0x,Ai,Ar,and_true]
  rcases ha with rfl | rfl<;>omega
 rw[Al hc]
 refine o2l _ d1 (Ev _ (by omega)) ?_ ?_
 ·rw[d2]
  rcases ha with rfl | rfl<;>omega
 ·rw[d3]
  simp only[Cc]
  omega
theorem o97 {d:u0i} {a:Int} {t:Hs} (hl:u2g d=true) (ha:a=0∨a=1) (h0:t.size≠0) (h1:t.size≤3008) (h2:u0x d a<255) (h3:(u0c d a).2.1+((u0q t).size:Int)≤3008):∃y,q61 d a t=some y:=by
 obtain⟨x,hx⟩:=o5w hl ha h0 h1 h2 h3
 unfold q61
 rw[hx]
 exact⟨_,rfl⟩
def o2c (l:Hu Hs):Nat:=(l.map fun t=>(u0q t).size).sum
theorem o05 {a:Int} (ha:a=0∨a=1):∀ {l:Hu Hs} {x:u0i},u2g x=true→u0x x a+(l.length:Int)≤255→(u0c x a).2.1+(o2c l:Int)≤3008→(∀t∈l,t.size≠0∧t.size≤3008)→
 ∃y,s59 a l x=some y∧u2g y=true∧u02 y=u02 x∧u0c y (1 - a)=u0c x (1 - a)∧(u0c y a).1=(u0c x a).1++l
 | [],x,hl,_,_,_=>⟨x,rfl,hl,rfl,rfl,by simp⟩
 | t::l,x,hl,hc,hr,ht=>by
  have h0:=ht t (C9 ..)
  have hs:o2c (t::l)=(u0q t).size+o2c l:=by simp[o2c]
  simp only[Bc] at hc
  obtain⟨y,hy⟩:=o97 hl ha h0.1 h0.2 (by omega) (by omega)
  obtain⟨p1,p2,p3,p4,p5⟩:=o8c hl ha hy
  obtain⟨z,z1,z2,z3,z4,z5⟩:=o05 ha (l:=l) p1 (by omega) (by rw[p5];simp only;omega) (fun t h=>ht t (Bm _ h))
  refine⟨z,?_,z2,z3.trans p2,z4.trans p3,?_⟩
  ·unfold s59;rw[hy];exact z1
  ·rw[z5,p5];simp
theorem o5x {d:u0i} (hl:u2g d=true) {a n:Int} (ha:a=0∨a=1):∃z r,r3b d a n=some z∧u1y z=true∧z.1=d.1∧z.2= [(u0f a,t00 n++r)] ∧ ∀j:Int,u0l (flush z) j=if j=u0f a then(t00 n++r,true) else u0l d j:=by
 obtain⟨d1,d2,d3,d4,d5⟩:=u44 hl
 obtain⟨f1,f2⟩:=u8q ha
 have hob:=q2m (s:=u0f a) d1 d3 (by omega) (by rw[d2];rcases ha with rfl | rfl<;>omega) (u2d n)
 have hz1:=(u6k hob).2.1
 refine⟨_,_,hob,hz1,rfl,rfl,fun j=> ?_⟩
 rw[t28 hz1]
 by_cases e:j=u0f a
 ·rw[Al e,e]
  unfold u0l
  rw[Al (by show _∧_<(d.1.length:Int);rw[d2];rcases ha with rfl | rfl<;>omega)]
  simp[t1o]
 ·rw[Ao e]
  have hne: ¬u0f a=j:=fun z=>e z.symm
  unfold u0l
  simp only[t1o,Bs,List.foldl_nil,hne,Bk,d3]
theorem p2i {d:u0i} (hl:u2g d=true):u2g (s13 d)=true∧u02 (s13 d)=u02 d∧u0c (s13 d) (u02 d)=u0c d (u02 d)∧u0c (s13 d) (u48 d)=([],0,true)∧u0x (s13 d) (u48 d)=0:=by
 obtain⟨a1,a2⟩:=t74 d
 obtain⟨z,r,hz,hz1,hz2,hz3,hrd⟩:=o5x hl (n:=0) a1
 obtain⟨d1,d2,d3,d4,d5⟩:=u44 hl
 have e:s13 d=flush z:=by unfold s13;rw[hz];rfl
 obtain⟨c1,c2,c3⟩:=t7b hz1
 have hlen:(flush z).1.length=97:=by rw[c3,hz2];exact d2
 obtain⟨f1,f2⟩:=u8q a1
 rw[e]
 have hcnt:u0x (flush z) (u48 d)=0:=by
  unfold u0x u3s
  rw[o9r.mpr a1,Al rfl,hrd,Al rfl]
  exact p08 0 r (by omega) (by omega)
 have ho:u0c (flush z) (u48 d)=([],0,true):=by
  rw[u97 (r1c c1 hlen) a1,hcnt]
  rfl
 have hother:u0c (flush z) (1 - u48 d)=u0c d (1 - u48 d):=by
  refine t1k (fun q hq=> ?_)
  have ho:=(u8q (a:=1 - u48 d) (by omega)).1
  rw[hrd,Ao (by omega)]
 rw[←a2] at hother
 have hact:u02 (flush z)=u02 d:=s7m (by rw[hrd,Ao (by omega)])
 have hok:(u0c d (u02 d)).2.2=true:=by rcases t7m d with q | q<;>rw[q] <;>assumption
 refine⟨q45 c1 hlen c2 ?_ ?_,hact,hother,ho,hcnt⟩
 ·rcases a1 with q | q
  ·rw[q] at ho;rw[ho]
  ·have q2:u02 d=0:=by omega
   rw[q2] at hother hok
   rw[hother];exact hok
 ·rcases a1 with q | q
  ·have q2:u02 d=1:=by omega
   rw[q2] at hother hok
   rw[hother];exact hok
  ·rw[q] at ho;rw[ho]
end
section
theorem o0m {z:u0i} {s:Int} {b:Hs} (hk:u1y z=true) (hz:z.2= [(s,b++(rdL Ty.str z.1 s.toNat).extract 1 64)]) (hb:b.size=1) (keep:Hu Int) (tear:Int):
 (o3j keep 0=false→s5q z keep tear=(z.1, []))∧(o3j keep 0=true→1≤s5a tear→s5q z keep tear=flush z)∧(s5q z keep tear=(z.1, [])∨s5q z keep tear=flush z):=by
 obtain⟨k1,k2,k3,k4⟩:=p6e.mp hk
 have hs:=(k4 (s,b++(rdL Ty.str z.1 s.toNat).extract 1 64) (by rw[hz];simp)).1
 have hlt:s.toNat<z.1.length:=by
  have h1:0≤s:=hs.1
  have h2:s<(z.1.length:Int):=hs.2
  omega
 have ht:=(j0g tear).1
 have eo:rdL Ty.str z.1 s.toNat=z.1[s.toNat] :=y8k (t:=Ty.str) hlt
 have hold:(rdL Ty.str z.1 s.toNat).size=64:=by rw[eo];exact k3 _ (Ag hlt)
 have hlen:z.2.length=1:=by rw[hz];rfl
 have h0:rdL o4j z.2 0=(s,b++(rdL Ty.str z.1 s.toNat).extract 1 64):=by rw[hz];rfl
 have hc:s5q z keep tear=(q4j z keep (q43 keep 1) (s5a tear) z.1 0, []):=by
  unfold s5q
  rw[Al hk,hlen]
  rfl
 have hfl:flush z=(s23 z.1 (s,b++(rdL Ty.str z.1 s.toNat).extract 1 64), []):=by
  unfold flush
  rw[Al hk,hz]
  rfl
 have hno:o3j keep 0=false→s5q z keep tear=(z.1, []):=fun h=>by
  rw[hc]
  unfold q4j
  rw[h,Ao (by simp)]
 have hyes:o3j keep 0=true→s5q z keep tear=(s23 z.1 (s,(b++(rdL Ty.str z.1 s.toNat).extract 1 64).extract 0 (s5a tear)++(rdL Ty.str z.1 s.toNat).extract (s5a tear) 64), []):=fun h=>by
  have hlast:q43 keep 1=0:=by
   show(if o3j keep 0 then((0:Nat):Int) else q43 keep 0)=0
   rw[Al h];rfl
  rw[hc]
  unfold q4j
  rw[h,Al rfl,hlast,Al (by rfl),h0]
  simp only[hold]
 have hfull:o3j keep 0=true→1≤s5a tear→s5q z keep tear=flush z:=fun h h1=>by
  rw[hyes h,hfl]
  congr 2
  congr 1
  apply p0b
  ·simp only[Af,Bd,hold,hb];omega
  ·intro i hi
   simp only[Af,Bd,hold,hb] at hi
   rw[u92,u5e,u5e]
   simp only[Af,Bd,hold,hb]
   by_cases h2:i<s5a tear
   ·rw[Al (by omega),Al (by omega),Co]
   ·rw[Ao (by omega),Al (by omega),u92,Ao (by omega),u5e,hb,hold,Al (by omega)]
    congr 1
    omega
 refine⟨hno,hfull,?_⟩
 cases h:o3j keep 0 with
 | false=>exact .inl (hno h)
 | true=>
  by_cases h1:1≤s5a tear
  ·exact .inr (hfull h h1)
  ·left
   have ht0:s5a tear=0:=by omega
   rw[hyes h,ht0]
   congr 1
   have e1:(b++(rdL Ty.str z.1 s.toNat).extract 1 64).extract 0 0++(rdL Ty.str z.1 s.toNat).extract 0 64=rdL Ty.str z.1 s.toNat:=by
    apply p0b
    ·simp only[Af,Bd,hold,hb];omega
    ·intro i hi
     simp only[Af,Bd,hold,hb] at hi
     rw[u92,Ao (by rw[Bd];omega),u5e,hold,Al (by rw[Bd];omega)]
     congr 1
     rw[Bd]
     omega
   rw[e1]
   unfold s23
   show z.1.set s.toNat (rdL Ty.str z.1 s.toNat)=z.1
   rw[eo]
   exact List.set_getElem_self hlt
theorem o3c {d:u0i} (hl:u2g d=true) {a n:Int} (ha:a=0∨a=1) (keep:Hu Int) (tear:Int):∃z,r3b d a n=some z∧
 (o3j keep 0=false→s5q z keep tear=d)∧(o3j keep 0=true→1≤s5a tear→s5q z keep tear=flush z)∧(s5q z keep tear=d∨s5q z keep tear=flush z):=by
 obtain⟨d1,d2,d3,d4,d5⟩:=u44 hl
 obtain⟨f1,f2⟩:=u8q ha
 have hob:=q2m (s:=u0f a) d1 d3 (by omega) (by rw[d2];rcases ha with rfl | rfl<;>omega) (u2d n)
 have hz1:=(u6k hob).2.1
 have hd:(d.1,([] :Hu (Int×Hs)))=d:=by rw[←d3]
 obtain⟨c1,c2,c3⟩:=o0m hz1 rfl (u2d n) keep tear
 rw[hd] at c1 c3
 exact⟨_,hob,c1,c2,c3⟩
theorem p6d {x:u0i} (hl:u2g x=true) (keep:Hu Int) (tear:Int):∃z,o37 x=some z∧u1y z=true∧(∀j:Int,u0l (flush z) j=if j=0 then(t00 (IntKind.i64.wrap (u3s x 0+1))++(rdL Ty.str x.1 0).extract 1 64,true) else u0l x j)∧(flush z).1.length=97∧
 (o3j keep 0=false→s5q z keep tear=x)∧(o3j keep 0=true→1≤s5a tear→s5q z keep tear=flush z)∧(s5q z keep tear=x∨s5q z keep tear=flush z):=by
 obtain⟨d1,d2,d3,d4,d5⟩:=u44 hl
 have hob:=q2m (s:=0) d1 d3 (by omega) (by rw[d2];omega) (u2d (IntKind.i64.wrap (u3s x 0+1)))
 have hz1:=(u6k hob).2.1
 have hd:(x.1,([] :Hu (Int×Hs)))=x:=by rw[←d3]
 obtain⟨c1,c2,c3⟩:=o0m hz1 rfl (u2d (IntKind.i64.wrap (u3s x 0+1))) keep tear
 rw[hd] at c1 c3
 refine⟨_,hob,hz1,fun j=> ?_,by rw[(t7b hz1).2.2];exact d2,c1,c2,c3⟩
 rw[t28 hz1]
 by_cases e:j=0
 ·rw[Al e,e]
  unfold u0l
  rw[Al (by show _∧_<(x.1.length:Int);rw[d2];omega)]
  simp[t1o]
 ·rw[Ao e]
  have hne: ¬(0:Int)=j:=fun z=>e z.symm
  unfold u0l
  simp only[t1o,Bs,List.foldl_nil,hne,Bk,d3]
theorem j0k {x z:u0i} (hl:u2g x=true) (hz1:u1y z=true) (hlen:(flush z).1.length=97) (hrd:∀j:Int,u0l (flush z) j=if j=0 then(t00 (IntKind.i64.wrap (u3s x 0+1))++(rdL Ty.str x.1 0).extract 1 64,true) else u0l x j):
 u2g (flush z)=true∧u02 (flush z)=1 - u02 x∧u0c (flush z) 0=u0c x 0∧u0c (flush z) 1=u0c x 1:=by
 obtain⟨d1,d2,d3,d4,d5⟩:=u44 hl
 obtain⟨c1,c2,c3⟩:=t7b hz1
 have r0:u0c (flush z) 0=u0c x 0:=t1k (fun q hq=>by
  have:=(u8q (a:=0) (.inl rfl)).1
  rw[hrd,Ao (by omega)])
 have r1:u0c (flush z) 1=u0c x 1:=t1k (fun q hq=>by
  have:=(u8q (a:=1) (.inr rfl)).1
  rw[hrd,Ao (by omega)])
 have hb:=p7m (u0l x 0).1
 refine⟨q45 c1 hlen c2 (by rw[r0];exact d4) (by rw[r1];exact d5),?_,r0,r1⟩
 unfold u02 u3s
 rw[hrd,Al rfl]
 have w:IntKind.i64.wrap (u3s x 0+1)=u3s x 0+1:=by unfold u3s;exact y4y (by omega) (by omega)
 have e:q8x (t00 (IntKind.i64.wrap (u3s x 0+1))++(rdL Ty.str x.1 0).extract 1 64)=(u3s x 0+1) % 256:=by
  rw[w,q53,u92,Al (by rw[u2d];omega)]
  unfold t00 r1d
  rw[s49,o39]
  simp only[u8s,C8,Eh,List.getD_cons_zero]
  rw[Gg]
  omega
 show Int.tmod (q8x _) 2=_
 rw[e]
 have hf:u3s x 0=q8x (u0l x 0).1:=rfl
 rw[hf]
 generalize q8x (u0l x 0).1=n at*
 obtain⟨m,rfl⟩:∃m:Nat,n=(m:Int):=⟨n.toNat,by omega⟩
 have t1:Int.tmod (m:Int) 2=((m % 2:Nat):Int):=o34 m 2
 have t2:Int.tmod (((m:Int)+1) % 256) 2=((((m+1) % 256) % 2:Nat):Int):=by
  have:((m:Int)+1) % 256=(((m+1) % 256:Nat):Int):=by omega
  rw[this]
  exact o34 ((m+1) % 256) 2
 rw[t1,t2]
 omega
end
section
theorem p56 {d y:u0i} {t:Hs} (h:append_ d t=some y):u2g d=true∧u2g y=true∧u0g y=u0g d++ [t] :=by
 unfold append_ at h
 split at h
 ·rename_i hl
  obtain⟨p1,p2,p3,p4,p5⟩:=o8c hl (t7m d) h
  refine⟨hl,p1,?_⟩
  unfold u0g
  rw[p2,p5]
 ·cases h
theorem p8z {d:u0i} {l:Hu Hs} (hl:u2g d=true) (hn:l.length≤255) (hr:o2c l≤3008) (ht:∀t∈l,t.size≠0∧t.size≤3008):
 ∃x,s85 d l=some x∧u2g x=true∧u02 x=u02 d∧u0g x=u0g d∧(u0c x (u48 d)).1=l:=by
 obtain⟨a1,a2⟩:=t74 d
 obtain⟨f1,f2,f3,f4,f5⟩:=p2i hl
 obtain⟨y,y1,y2,y3,y4,y5⟩:=o05 a1 (l:=l) f1 (by rw[f5];omega) (by rw[f4];simp only;omega) ht
 rw[←a2] at y4
 refine⟨y,by unfold s85;rw[hl,Al rfl];exact y1,y2,y3.trans f2,?_,by rw[y5,f4];simp⟩
 unfold u0g
 rw[y3.trans f2,y4,f3]
theorem q6r {d x:u0i} {l:Hu Hs} (hx:s85 d l=some x) (h1:u2g x=true) (h2:u02 x=u02 d) (h3:u0g x=u0g d) (h4:(u0c x (u48 d)).1=l) (hl:u2g d=true):
 ∃y,s2m d l=some y∧u2g y=true∧u0g y=l∧ ∀(step:Int) (keep:Hu Int) (tear:Int),
  (step=0→u2g (t25 d l step keep tear)=true∧u0g (t25 d l step keep tear)=u0g d)∧(step=1→t25 d l step keep tear=x)∧
  (step≠0→step≠1→step≠2→t25 d l step keep tear=y)∧
  (step=2→(o3j keep 0=false→t25 d l step keep tear=x)∧(o3j keep 0=true→1≤s5a tear→t25 d l step keep tear=y)∧(t25 d l step keep tear=x∨t25 d l step keep tear=y)):=by
 obtain⟨a1,a2⟩:=t74 d
 obtain⟨z,hz,hz1,hrd,hlen,_⟩:=p6d h1 [] 0
 obtain⟨t1,t2,t3,t4⟩:=j0k h1 hz1 hlen hrd
 have hsw:s2m d l=some (flush z):=by unfold s2m;rw[hx];simp only[Dc,hz,orD]
 have htx:u0g (flush z)=l:=by
  have ho:u02 (flush z)=u48 d:=by rw[t2,h2];rfl
  unfold u0g
  rw[ho,←h4]
  rcases a1 with q | q<;>rw[q]
  ·rw[t3]
  ·rw[t4]
 refine⟨flush z,hsw,t1,htx,fun step keep tear=> ?_⟩
 obtain⟨c,hc,c1,c2,c3⟩:=o3c hl (n:=0) a1 keep tear
 obtain⟨z',hz',_,_,_,g1,g2,g3⟩:=p6d h1 keep tear
 rw[hz] at hz'
 cases hz'
 have e0:∀st,t25 d l st keep tear=(if st=0 then s5q c keep tear else if st=1 then x else if st=2 then s5q z keep tear else flush z):=fun st=>by
  unfold t25
  rw[hx]
  simp only[hc,orD,hz]
 have hf0:flush c=s13 d:=by unfold s13;rw[hc];rfl
 obtain⟨f1,f2,f3,f4,f5⟩:=p2i hl
 have htx0:u0g (s13 d)=u0g d:=by unfold u0g;rw[f2,f3]
 refine⟨fun s0=> ?_,fun s1=> ?_,fun n0 n1 n2=> ?_,fun s2=> ?_⟩
 ·rw[e0,Al s0]
  rcases c3 with q | q
  ·rw[q];exact⟨hl,rfl⟩
  ·rw[q,hf0];exact⟨f1,htx0⟩
 ·rw[e0,Ao (by omega),Al s1]
 ·rw[e0,Ao n0,Ao n1,Ao n2]
 ·have e:t25 d l step keep tear=s5q z keep tear:=by rw[e0,Ao (by omega),Ao (by omega),Al s2]
  rw[e]
  exact⟨g1,g2,g3⟩
end
section
structure Like0 (b e:u0j):Prop where
 vs:b.1=u2j e.1 e.2.2.2.1
 past:b.2.1= []
 ready:b.2.2.1=e.2.2.1
 cs:b.2.2.2.1=e.2.2.2.1
theorem o72 (b:u0j):∀(o:Hu u0h),t9w b o≤b.2.2.2.1:=by
 intro o
 have key:∀(o:Hu u0h) (m:Int),o.foldl (fun m t=>if t.2.2.1<m then t.2.2.1 else m) m≤m:=by
  intro o
  induction o with
  | nil=>intro m;exact Bv _
  | cons t o ih=>
   intro m
   rw[Bs]
   refine Int.le_trans (ih _) ?_
   split<;>omega
 exact key o _
theorem o56 (b:u0j):t9w b [] =b.2.2.2.1:=rfl
theorem Like0.tidy {b e:u0j} (h:Like0 b e) (he:BaseR e) (o:Hu u0h):Like0 b (u34 e o):=
 ⟨by rw[h.vs];exact(q5i (o85.mp he.vs).2.1 (o72 e o)).symm,h.past,h.ready,h.cs⟩
theorem s94 {x:u0j} (hp:∀t∈x.2.1,t.2.2.2.1≤x.2.2.2.1):u34 x [] =(u2j x.1 x.2.2.2.1, [],x.2.2):=by
 unfold u34
 rw[o56]
 congr 2
 rw[List.filter_eq_nil_iff]
 intro t ht
 simp[hp t ht]
theorem Like0.self {b e:u0j} (h:Like0 b e) (he:BaseR e):u34 b [] =b:=by
 rw[s94 (by rw[h.past];intro t ht;cases ht)]
 obtain⟨b1,b2,b3⟩:=b
 have h1:=h.vs
 have h2:=h.past
 have h4:=h.cs
 simp only at h1 h2 h4
 rw[h4,h1,h2,q5i (o85.mp he.vs).2.1 (Bv _)]
theorem o50 {d d' x:u0h} (h1:d.1=d'.1) (h2:d.2.1=d'.2.1) (h3:d.2.2.1=d'.2.2.1) (h4:d.2.2.2.1=d'.2.2.2.1) (h5:d.2.2.2.2.2.1=d'.2.2.2.2.2.1):q9z d x=q9z d' x:=by
 have:ahead x d=ahead x d' :=by unfold ahead q77 o1n;rw[h1,h2,h3,h4,h5]
 unfold q9z;rw[this]
theorem Like0.vlen {b e:u0j} (h:Like0 b e):b.1.length≤e.1.length:=by rw[h.vs];exact(u75 _ _).length_le
theorem q8n {b e:u0j} {t u:u0h} (h:Like0 b e) (he:BaseR e) (hb:BaseR b) (hc:e.2.2.2.1<9999) (hv:e.1.length≤100) (hu:TxnR u) (h9:u.1<9999) (hs:u.2.2.1≤e.2.2.2.1)
 (h1:u.1=t.1) (h3:u.2.2.1=t.2.2.1) (h5:u.2.2.2.2.2.1=t.2.2.2.2.2.1):
 u63 (u34 (u1n b u) [])=true∧Like0 (u34 (u1n b u) []) (u1n e t):=by
 have hR:BaseR (u1n b u):=o2g hb hu (by rw[h.cs];exact hs) (by rw[h.cs];exact hc) (by rw[h.past];simp) (by have:=h.vlen;omega) (by rw[h.past];intro x hx;cases hx) h9
 refine⟨p6a.mpr (s1e hR _),?_⟩
 rw[s94 (fun x hx=>(hR.past x hx).2.2)]
 obtain⟨v1,v2,v3⟩:=o85.mp he.vs
 refine⟨?_,rfl,?_,?_⟩
 ·show u2j (t8a b.1 u.2.2.2.2.2.1 (b.2.2.2.1+1)) (b.2.2.2.1+1)=u2j (t8a e.1 t.2.2.2.2.2.1 (e.2.2.2.1+1)) (e.2.2.2.1+1)
  rw[h.cs,h.vs,h5]
  exact j0j v2 (h5 ▸ o2n hu.ws) fun x hx=>by have:=he.vcs x hx;unfold vCs;omega
 ·show(b.2.2.1.filter fun x=> !decide (x.1=u.1)).map (q9z (s3b b u))=(e.2.2.1.filter fun x=> !decide (x.1=t.1)).map (q9z (s3b e t))
  rw[h.ready,h1]
  refine Ff fun x _=>o50 h1 rfl h3 ?_ h5
  show b.2.2.2.1+1=e.2.2.2.1+1
  rw[h.cs]
 ·show b.2.2.2.1+1=e.2.2.2.1+1
  rw[h.cs]
theorem j2i {b:u0j} {n:Hs} :u0p b n<0↔ ∀x∈b.2.2.1,x.2.2.2.2.2.2.2≠n:=by
 unfold u0p
 constructor
 ·intro h x hx e
  obtain⟨i,hi,rfl⟩:=B7 hx
  obtain⟨k,hk,hr⟩:=o6d b hi e
  unfold u0p at hr
  rw[hr] at h;omega
 ·intro h
  split
  ·rename_i q
   have:=u91 q
   exact absurd (y7f.mp this) (h _ (Ag q))
  ·omega
theorem t99 {b:u0j} {n:Hs} (h: ¬u0p b n<0):∃(k:Nat) (hk:k<b.2.2.1.length),u0p b n=(k:Int)∧b.2.2.1[k].2.2.2.2.2.2.2=n:=by
 unfold u0p at h ⊢
 split at h
 ·rename_i q
  rw[Al q]
  exact⟨_,q,rfl,y7f.mp (u91 q)⟩
 ·omega
theorem r73 {b e:u0j} (h:b.2.2.1=e.2.2.1) (n:Hs):u0p b n=u0p e n:=by unfold u0p;rw[h]
theorem p5r {b e:u0j} {t:u0h} (h:Like0 b e) (he:BaseR e) (hb:BaseR b) (hc:e.2.2.2.1<9999) (hv:e.1.length≤100) (ht:TxnR t) (h9:t.1<9999) (hs:t.2.2.1≤e.2.2.2.1):
 ∃x,u65 b (1,s3b e t,emp,false,u2t)=some x∧BaseR x∧Like0 x (u1n e t):=by
 have hD:=o3d (b:=e) ht hs hc
 obtain⟨k1,k2⟩:=q8n (t:=t) (u:=s3b e t) h he hb hc hv hD h9 hs rfl rfl rfl
 refine⟨_,?_,p6a.mp k1,k2⟩
 unfold u65
 rw[Al ⟨p6a.mpr hb,j06.mpr (.thr _ hD rfl)⟩]
 have e1:u18 b (1,s3b e t,emp,false,u2t)=some (u1n b (s3b e t)):=by
  unfold u18
  rw[Al rfl,Al (by show e.2.2.2.1+1=b.2.2.2.1+1;rw[h.cs])]
 rw[e1]
 simp only
 rw[Al k1]
theorem o6a {b e:u0j} {n:Hs} {k:Nat} (h:Like0 b e) (he:BaseR e) (hb:BaseR b) (hc:e.2.2.2.1<9999) (hv:e.1.length≤100) (hn:u66 n=true) (hk:k<e.2.2.1.length) (hr:u0p e n=(k:Int)):
 ∃x,u65 b (3,u4n,n,true,u2t)=some x∧BaseR x∧Like0 x (u1n e e.2.2.1[k]):=by
 obtain⟨q1,q2,q3⟩:=he.ready _ (Ag hk)
 have h9:e.2.2.1[k].1<9999:=by
  have:=s38.mp he.below _ (Az e.2.1 (Ag hk))
  have:=he.next.2;omega
 obtain⟨k1,k2⟩:=q8n (t:=e.2.2.1[k]) (u:=e.2.2.1[k]) h he hb hc hv q1 h9 q3 rfl rfl rfl
 refine⟨_,?_,p6a.mp k1,k2⟩
 unfold u65
 rw[Al ⟨p6a.mpr hb,j06.mpr (.fin _ _ hn)⟩]
 have e1:u18 b (3,u4n,n,true,u2t)=some (u1n b e.2.2.1[k]):=by
  unfold u18
  simp only
  rw[Ao (by decide),Ao (by decide),Al trivial,r73 h.ready,hr,Ao (by omega),Al trivial,zTn]
  congr 2
  rw[h.ready]
  exact y8k (t:=u00) hk
 rw[e1]
 simp only
 rw[Al k1]
theorem o77 {b e:u0j} {n:Hs} {k:Nat} (h:Like0 b e) (he:BaseR e) (hb:BaseR b) (hn:u66 n=true) (hk:k<e.2.2.1.length) (hr:u0p e n=(k:Int)):
 ∃x,u65 b (3,u4n,n,false,u2t)=some x∧BaseR x∧Like0 x (t7n e n):=by
 have hR:=p2l hb n
 refine⟨u34 (t7n b n) [],?_,s1e hR _,?_⟩
 ·unfold u65
  rw[Al ⟨p6a.mpr hb,j06.mpr (.fin _ _ hn)⟩]
  have e1:u18 b (3,u4n,n,false,u2t)=some (t7n b n):=by
   unfold u18
   simp only
   rw[Ao (by decide),Ao (by decide),Al trivial,r73 h.ready,hr,Ao (by omega),Ao (by decide)]
  rw[e1]
  simp only
  rw[Al (p6a.mpr (s1e hR _))]
 ·rw[s94 (fun x hx=>(hR.past x hx).2.2)]
  refine⟨?_,rfl,?_,h.cs⟩
  ·show u2j b.1 b.2.2.2.1=u2j e.1 e.2.2.2.1
   rw[h.cs,h.vs]
   exact q5i (o85.mp he.vs).2.1 (Bv _)
  ·show b.2.2.1.filter _=e.2.2.1.filter _
   rw[h.ready]
theorem o1p {b e:u0j} {t:u0h} {n:Hs} (h:Like0 b e) (he:BaseR e) (hb:BaseR b) (ht:TxnR t) (h3:t.2.1≠3) (hn:u66 n=true) (hs:t.2.2.1≤e.2.2.2.1) (hl:e.2.2.1.length<3)
 (hx:∀x∈e.2.2.1,x.2.2.2.2.2.2.2≠n) (hid:∀x∈e.2.2.1,x.1≠t.1) (h9:t.1<9999):
 ∃x,u65 b (2,u5m e t n,emp,false,u2t)=some x∧BaseR x∧Like0 x (u2r e t n):=by
 have hD:=p9e (b:=e) ht h3 hn
 have hrr:u5m b (u5m e t n) n=u5m e t n:=by
  have:q60 (u5m e t n) b.2.1=false:=by rw[h.past];rfl
  unfold u5m at this ⊢
  rw[this,Fp]
 have hR:BaseR (u2r b (u5m e t n) n):=q2k hb hD (by show(2:Int)≠3;omega) (by rw[h.cs];exact hs) hn (by rw[h.ready];exact hl) (by rw[h.ready];exact hx) (by
  rw[h.past,h.ready];exact hid) h9
 refine⟨u34 (u2r b (u5m e t n) n) [],?_,s1e hR _,?_⟩
 ·unfold u65
  rw[Al ⟨p6a.mpr hb,j06.mpr (.rdy _ hD rfl)⟩]
  have e1:u18 b (2,u5m e t n,emp,false,u2t)=some (u2r b (u5m e t n) n):=by
   unfold u18
   simp only
   have hcond:b.2.2.1.length<3∧u0p b (u5m e t n).2.2.2.2.2.2.2<0:=⟨by rw[h.ready];exact hl,by rw[r73 h.ready];exact j2i.mpr hx⟩
   rw[Ao (by decide),Al trivial,Al hcond]
   rfl
  rw[e1]
  simp only
  rw[Al (p6a.mpr (s1e hR _))]
 ·rw[s94 (fun x hx=>(hR.past x hx).2.2)]
  refine⟨?_,rfl,?_,h.cs⟩
  ·show u2j b.1 b.2.2.2.1=u2j e.1 e.2.2.2.1
   rw[h.cs,h.vs]
   exact q5i (o85.mp he.vs).2.1 (Bv _)
  ·show(b.2.2.1.filter _)++ [u5m b (u5m e t n) n] ++(b.2.2.1.filter _)=(e.2.2.1.filter _)++ [u5m e t n] ++(e.2.2.1.filter _)
   rw[h.ready,hrr]
theorem o1j:BaseR p9t:=by
 refine⟨rfl,fun v h=>(by cases h),⟨Bv _,by decide⟩,⟨by decide,by decide⟩,by decide,fun t h=>(by cases h),List.Pairwise.nil,by decide,fun t h=>(by cases h),List.Pairwise.nil,fun x h=>(by cases h),List.Pairwise.nil⟩
theorem o3t {b:u0j} (hb:BaseR b) (hs:u34 b [] =b):u65 p9t (4,u4n,emp,false,b)=some b:=by
 unfold u65
 rw[Al ⟨p6a.mpr o1j,j06.mpr (.bas b hb)⟩]
 have e1:u18 p9t (4,u4n,emp,false,b)=some b:=by
  unfold u18
  simp only
  rw[Ao (by decide),Ao (by decide),Ao (by decide)]
 rw[e1]
 simp only
 rw[hs,Al (p6a.mpr hb)]
theorem q65 {d y:u0i} {t:Hs} (h:s2m d [t] =some y):u2g d=true∧u2g y=true∧u0g y= [t] :=by
 obtain⟨x,hx⟩:∃x,s85 d [t] =some x:=by
  cases q:s85 d [t] with
  | none=>unfold s2m at h;rw[q] at h;cases h
  | some x=>exact⟨x,rfl⟩
 have hl:u2g d=true:=by
  unfold s85 at hx
  split at hx
  ·assumption
  ·cases hx
 obtain⟨a1,a2⟩:=t74 d
 obtain⟨f1,f2,f3,f4,f5⟩:=p2i hl
 have hp:∃z,q61 (s13 d) (u48 d) t=some z:=by
  unfold s85 at hx
  rw[Al hl] at hx
  cases q:q61 (s13 d) (u48 d) t with
  | none=>simp only[s59,q] at hx;cases hx
  | some z=>exact⟨z,rfl⟩
 obtain⟨z,hz⟩:=hp
 obtain⟨w,hw,_⟩:=o8d (u44 f1).2.1 hz
 obtain⟨E,hE,g1,g2,g3,g4,g5⟩:=p7l hw
 obtain⟨x',x1,x2,x3,x4,x5⟩:=p8z (l:= [t]) hl (by simp) (by simp[o2c];omega) (fun u hu=>by simp at hu;subst hu;exact⟨g3,g4⟩)
 rw[hx] at x1
 cases x1
 obtain⟨y',y1,y2,y3,_⟩:=q6r hx x2 x3 x4 x5 hl
 rw[h] at y1
 cases y1
 exact⟨hl,y2,y3⟩
theorem o6h {d:u0i} {t:Hs} (hl:u2g d=true) (h0:t.size≠0) (h1:(u0q t).size≤3008):∃y,s2m d [t] =some y:=by
 have:=(t3f t).1
 obtain⟨x,x1,x2,x3,x4,x5⟩:=p8z (l:= [t]) hl (by simp) (by simp[o2c];omega) (fun u hu=>by simp at hu;subst hu;exact⟨h0,by omega⟩)
 obtain⟨y,y1,_⟩:=q6r x1 x2 x3 x4 x5 hl
 exact⟨y,y1⟩
def p3w (d:u0i):Ht u0i:=match t1p (u0g d) with
 | none=>none
 | some b=>if(u01 (4,u4n,emp,false,b)).2=true then s2m d [(u01 (4,u4n,emp,false,b)).1] else none
def t7o (d:u0i) (r:s5w):Ht u0i:=
 if(u01 r).2=true then(match append_ d (u01 r).1 with
  | some y=>some y
  | none=>match p3w d with
   | none=>none
   | some z=>append_ z (u01 r).1)
 else none
theorem o4m {d y:u0i} {b:u0j} (hp:t1p (u0g d)=some b) (hb:BaseR b) (hs:u34 b [] =b) (h:p3w d=some y):u2g d=true∧u2g y=true∧t1p (u0g y)=some b:=by
 unfold p3w at h
 rw[hp] at h
 simp only at h
 rw[u9e (.bas b hb),Al rfl] at h
 obtain⟨h1,h2,h3⟩:=q65 h
 refine⟨h1,h2,?_⟩
 rw[h3]
 unfold t1p
 simp only[s1q]
 rw[r70 (.bas b hb)]
 simp only
 rw[o3t hb hs]
theorem p0c {d y:u0i} {b x:u0j} {r:s5w} (hp:t1p (u0g d)=some b) (hb:BaseR b) (hs:u34 b [] =b) (hr:RecR r) (hx:u65 b r=some x) (h:t7o d r=some y):u2g y=true∧t1p (u0g y)=some x:=by
 have step:∀ {d y:u0i},t1p (u0g d)=some b→append_ d (s91 (s8b r))=some y→u2g y=true∧t1p (u0g y)=some x:=by
  intro d y hp h
  obtain⟨h1,h2,h3⟩:=p56 h
  refine⟨h2,?_⟩
  rw[h3]
  unfold t1p at hp ⊢
  rw[o58,hp]
  simp only[zOb,s1q]
  rw[r70 hr]
  simp only
  rw[hx]
 unfold t7o at h
 rw[u9e hr,Al rfl] at h
 simp only at h
 cases q:append_ d (s91 (s8b r)) with
 | some z=>
  rw[q] at h
  cases h
  exact step hp q
 | none=>
  rw[q] at h
  simp only at h
  cases a:p3w d with
  | none=>rw[a] at h;cases h
  | some z=>
   rw[a] at h
   obtain⟨_,_,z3⟩:=o4m hp hb hs a
   exact step z3 h
end
section
def j1z (x:u0h):Bool:=decide (x.2.1=2) || decide (x.2.1=3)
def o6r (t:u0h) (l:Hu u0h):Bool:=l.any fun x=>j1z x&&ahead x t
def p03 (t:u0h) (l:Hu u0h):Bool:=l.any fun x=> !decide (x.1=t.1)&&((decide (x.2.1=2) || (decide (x.2.1=3)&&decide (x.2.2.2.1 >t.2.2.1)))&&p2x x.2.2.2.2.2.1 t.2.2.2.2.2.1)
def p7q (f:u0h→Bool) (t:u0h) (l:Hu u0h):Bool:=
 (o6r t l&&q60 t l) || (l.any (fun x=>j1z x&&(x.2.2.2.2.2.2.1&&ahead t x)) ||
  l.any fun p=>decide (p.2.1=2)&&(ahead p t&&(ahead t p || l.any fun x=>decide (x.2.1=2)&&(f x&&ahead x p))))
def q8a (t:u0h) (l:Hu u0h):Bool:=p7q (fun x=> !decide (x.1=t.1)) t l
def q8j (f:u0h→Bool) (t:u0h) (l:Hu u0h):Bool:=
 p7q f t l || ((o6r t l&&l.any fun x=>decide (x.2.1=2)&&ahead t x) || l.any fun x=>(decide (x.2.1=2)&&ahead t x)&&l.any fun y=>decide (y.2.1=2)&&(!decide (y.1=t.1)&&ahead x y))
def s48 (t:u0h) (l:Hu u0h):Bool:=q8j (fun x=> !decide (x.1=t.1)) t l
structure SameC (x y:u0h):Prop where
 id:x.1=y.1
 st:x.2.1=y.2.1
 snap:x.2.2.1=y.2.2.1
 cs:x.2.2.2.1=y.2.2.2.1
 rs:x.2.2.2.2.1=y.2.2.2.2.1
 ws:x.2.2.2.2.2.1=y.2.2.2.2.2.1
structure Ser (H:Hu u0h) (e:u3a):Prop where
 eng:EngR e
 st:∀x∈H,x.2.1=3
 snap:∀x∈H,x.2.2.1<x.2.2.2.1∧x.2.2.2.1≤e.1.2.2.2.1
 asc:H.Pairwise fun x y=>x.2.2.2.1<y.2.2.2.1
 uqh:uq (H++(e.1.2.2.1++e.2))
 bel:∀x∈H,x.1<e.1.2.2.2.2
 pin:∀x∈e.1.2.1,∃y∈H,SameC x y
 cov:∀y∈H,∀o∈e.2,o.2.2.1<y.2.2.2.1→ ∃x∈e.1.2.1,SameC x y
 outp:∀x∈e.1.2.1,∀y∈H,ahead x y=true→y.2.2.2.1<x.2.2.2.1→x.2.2.2.2.2.2.1=true
 outr:∀p∈e.1.2.2.1,∀y∈H,ahead p y=true→p.2.2.2.2.2.2.1=true
 no3:∀x∈H,∀y∈H,∀z∈H,ahead x y=true→ahead y z=true→z.2.2.2.1<y.2.2.2.1→z.2.2.2.1≤x.2.2.2.1→False
 noA:∀x∈H,∀p∈e.1.2.2.1,∀z∈H,ahead x p=true→ahead p z=true→z.2.2.2.1≤x.2.2.2.1→False
 noB:∀p∈e.1.2.2.1,∀y∈H,∀z∈H,ahead p y=true→ahead y z=true→z.2.2.2.1<y.2.2.2.1→False
 noD:∀p∈e.1.2.2.1,∀q∈e.1.2.2.1,∀z∈H,ahead p q=true→ahead q z=true→False
 noE:∀p∈e.1.2.2.1,∀q∈e.1.2.2.1,∀r∈e.1.2.2.1,ahead p q=true→ahead q r=true→False
 ww:∀x∈H,∀y∈H,x.2.2.2.1<y.2.2.2.1→p2x x.2.2.2.2.2.1 y.2.2.2.2.2.1=true→x.2.2.2.1≤y.2.2.1
 wr:∀p∈e.1.2.2.1,∀y∈H,p2x y.2.2.2.2.2.1 p.2.2.2.2.2.1=true→y.2.2.2.1≤p.2.2.1
 rr:∀p∈e.1.2.2.1,∀q∈e.1.2.2.1,p.1≠q.1→p2x p.2.2.2.2.2.1 q.2.2.2.2.2.1=true→False
def d0z (c:Int) (t:u0h):u0h:=(t.1,(3:Int),t.2.2.1,c,t.2.2.2.2.1,t.2.2.2.2.2.1,t.2.2.2.2.2.2.1,(⟨#[]⟩:Hs))
structure Passed (t:u0h) (P R:Hu u0h):Prop where
 nb:∀x∈P++R,x.1≠t.1→(x.2.1=2∨(x.2.1=3∧x.2.2.2.1 >t.2.2.1))→p2x x.2.2.2.2.2.1 t.2.2.2.2.2.1=true→False
 d1:∀x∈P++R,∀y∈P,ahead x t=true→ahead t y=true→False
 d2:∀x∈P++R,x.2.2.2.2.2.2.1=true→ahead t x=true→False
 d3:∀p∈R,ahead p t=true→ahead t p=true→False
 d4:∀p∈R,∀x∈R,ahead p t=true→ahead x p=true→x.1≠t.1→False
end
section
abbrev u1q:=u3a×u0i
def p9r:s5w:=(0,u4n,emp,false,u2t)
def t5j (o:Hu u0h) (id:Int):Int:=if u0s (fun x:u0h=>decide (x.1=id)) o<o.length then((u0s (fun x:u0h=>decide (x.1=id)) o:Nat):Int) else -1
def u4c (e:u3a) (id:Int):u0h:=rdL u00 e.2 (t5j e.2 id).toNat
def s4l (e:u3a):Hu u0h:=e.1.2.1++e.1.2.2.1
def q2h (e:u3a) (id:Int):Int:=
 if t5j e.2 id<0 then 1 else if p03 (u4c e id) (s4l e)=true then 4 else if q8a (u4c e id) (s4l e)=true then 5 else if q6t e.1=true then 3 else 0
def u6d (e:u3a) (id:Int):u3a×s5w×Int:=
 if q2h e id=1 then(e,p9r,1) else if q2h e id=0 then(p05 e (u4c e id),(1,s3b e.1 (u4c e id),emp,false,u2t),0) else(s9x e id,p9r,q2h e id)
def r8u (e:u3a) (id:Int):Int:=
 if q2h e id≠0 then q2h e id else if s48 (u4c e id) (s4l e)=true then 5 else if 3≤e.1.2.2.1.length then 3 else 0
def s14 (e:u3a) (id:Int) (n:Hs):u3a×s5w×Int:=
 if t5j e.2 id<0 then(e,p9r,1) else if u66 n=false then(e,p9r,2) else if 0≤u0p e.1 n then(e,p9r,6)
 else if r8u e id=0 then(o78 e (u4c e id) n,(2,u5m e.1 (u4c e id) n,emp,false,u2t),0) else(s9x e id,p9r,r8u e id)
def q6s (e:u3a) (n:Hs) (yes:Bool):u3a×s5w×Int:=
 if u0p e.1 n<0 then(e,p9r,1) else if yes=true∧q6t e.1=true then(e,p9r,3)
 else if yes=true then(j7l e (rdL u00 e.1.2.2.1 (u0p e.1 n).toNat),(3,u4n,n,true,u2t),0) else(noE e n,(3,u4n,n,false,u2t),0)
def p2v (e:u3a) (id:Int):u3a×Int:=if t5j e.2 id<0 then(e,1) else(s9x e id,0)
def s8z (e:u3a):u3a×Int×Int:=if e.2.length<4∧e.1.2.2.2.2<9999 then(j01 e,e.1.2.2.2.2,0) else(e,0,3)
def j51 (l:Hu s5p) (r:s5p):Bool:=l.any fun x=>z7o x.1 r.1&&z7o x.2 r.2
def j95 (t:u0h) (r:s5p):u0h:=(t.1,t.2.1,t.2.2.1,t.2.2.2.1,t.2.2.2.2.1++ [r],t.2.2.2.2.2)
def s5t (t:u0h) (r:s5p):u0h×Bool:=if j51 t.2.2.2.2.1 r=true then(t,true) else if t.2.2.2.2.1.length<8 then(j95 t r,true) else(t,false)
def j7h (t:u0h) (l:Hu WrT):u0h:=(t.1,t.2.1,t.2.2.1,t.2.2.2.1,t.2.2.2.2.1,l,t.2.2.2.2.2.2)
def r5i (t:u0h) (w:WrT):u0h×Bool:=if(p3p t.2.2.2.2.2.1 w).length≤8 then(j7h t (p3p t.2.2.2.2.2.1 w),true) else(t,false)
def s5s (e:u3a) (id:Int) (r:s5p) (right:Bool):u3a×Int:=
 if t5j e.2 id<0 then(e,1) else if right=false then(e,2) else if(s5t (u4c e id) r).2=true then(o30 e (t5j e.2 id).toNat (s5t (u4c e id) r).1,0) else(e,3)
def o43 (e:u3a) (id:Int) (w:WrT):u3a×Int:=
 if t5j e.2 id<0 then(e,1) else if u26 w=false then(e,2) else if(r5i (u4c e id) w).2=true then(o30 e (t5j e.2 id).toNat (r5i (u4c e id) w).1,0) else(e,3)
theorem u2o {e:u3a} {id:Int} (h: ¬t5j e.2 id<0):∃(k:Nat) (hk:k<e.2.length),t5j e.2 id=(k:Int)∧u4c e id=e.2[k] ∧e.2[k].1=id:=by
 unfold u4c
 unfold t5j at h ⊢
 split at h
 ·rename_i q
  rw[Al q]
  refine⟨_,q,rfl,?_,?_⟩
  ·rw[zTn];exact y8k (t:=u00) q
  ·simpa using u91 q
 ·omega
theorem q6w {e:u3a} {id:Int} (h:q2h e id=0): ¬t5j e.2 id<0∧p03 (u4c e id) (s4l e)=false∧q8a (u4c e id) (s4l e)=false∧q6t e.1=false:=by
 unfold q2h at h
 split at h
 ·omega
 ·rename_i h1
  split at h
  ·omega
  ·rename_i h2
   split at h
   ·omega
   ·rename_i h3
    split at h
    ·omega
    ·rename_i h4
     exact⟨h1,by simpa using h2,by simpa using h3,by simpa using h4⟩
theorem j4c {t:u0h} {r:s5p} (h:TxnR t) (hr:u25 r=true) (hl:t.2.2.2.2.1.length<8):TxnR (j95 t r):=
 ⟨h.id,h.st,h.snap,by show(t.2.2.2.2.1++ [r]).length≤8;simp only[Ba,Aw];omega,h.ws,fun x hx=>by
   rcases Ay.mp hx with hx | hx
   ·exact h.rs x hx
   ·rw[Ax] at hx;subst hx;exact hr,h.done,h.nocs,h.name,h.noname,h.out⟩
theorem j2h {t:u0h} {r:s5p} (h:TxnR t) (hr:u25 r=true):TxnR (s5t t r).1∧(s5t t r).1.1=t.1∧(s5t t r).1.2.1=t.2.1∧(s5t t r).1.2.2.1=t.2.2.1∧(s5t t r).1.2.2.2.2.2.1=t.2.2.2.2.2.1:=by
 unfold s5t
 split
 ·exact⟨h,rfl,rfl,rfl,rfl⟩
 ·split
  ·rename_i q;exact⟨j4c h hr q,rfl,rfl,rfl,rfl⟩
  ·exact⟨h,rfl,rfl,rfl,rfl⟩
theorem o3u {l:Hu WrT} {w:WrT} (h:u4k l=true) (hw:u26 w=true) (hl:(p3p l w).length≤8):u4k (p3p l w)=true:=by
 obtain⟨h1,h2,h3⟩:=j08.mp h
 refine j08.mpr ⟨fun x hx=> ?_,?_,hl⟩
 ·rcases q48 hx with hx | rfl
  ·exact h1 x hx
  ·exact hw
 ·unfold p3p
  rw[Bi,Cg]
  refine⟨Dz _ h2,?_,?_⟩
  ·rw[Fs,Ch]
   refine⟨fun y hy=> ?_,Dz _ h2⟩
   have:=(A6.mp hy).2
   rw[o1b] at this
   exact this
  ·intro x hx y hy
   have h4:=(A6.mp hx).2
   rcases Ay.mp hy with hy | hy
   ·rw[Ax] at hy;subst hy;exact h4
   ·have h5:=(A6.mp hy).2
    rw[o1b] at h5
    exact q5d h4 h5
theorem j4x {t:u0h} {l:Hu WrT} (h:TxnR t) (hl:u4k l=true):TxnR (j7h t l):=
 ⟨h.id,h.st,h.snap,h.rlen,hl,h.rs,h.done,h.nocs,h.name,h.noname,h.out⟩
theorem j0p {t:u0h} {w:WrT} (h:TxnR t) (hw:u26 w=true):TxnR (r5i t w).1∧(r5i t w).1.1=t.1∧(r5i t w).1.2.1=t.2.1∧(r5i t w).1.2.2.1=t.2.2.1∧(r5i t w).1.2.2.2.2.1=t.2.2.2.2.1:=by
 unfold r5i
 split
 ·rename_i q;exact⟨j4x h (o3u h.ws hw q),rfl,rfl,rfl,rfl⟩
 ·exact⟨h,rfl,rfl,rfl,rfl⟩
theorem j4m {e:u3a} (h:EngR e) {id:Int} {r:s5p} {right:Bool} (hr:right=true→u25 r=true):EngR (s5s e id r right).1:=by
 unfold s5s
 split
 ·exact h
 ·rename_i q
  split
  ·exact h
  ·rename_i hb
   split
   ·obtain⟨k,hk,e1,e2,e3⟩:=u2o q
    obtain⟨o1,o2,o3⟩:=h.open_ _ (Ag hk)
    rw[e1,zTn,e2]
    obtain⟨r1,r2,r3,r4,r5⟩:=j2h o1 (hr (by simpa using hb))
    exact o2a h hk r1 r2 (r3.trans o2) r4
   ·exact h
theorem j7g {e:u3a} (h:EngR e) {id:Int} {w:WrT} :EngR (o43 e id w).1:=by
 unfold o43
 split
 ·exact h
 ·rename_i q
  split
  ·exact h
  ·rename_i hb
   split
   ·obtain⟨k,hk,e1,e2,e3⟩:=u2o q
    obtain⟨o1,o2,o3⟩:=h.open_ _ (Ag hk)
    rw[e1,zTn,e2]
    obtain⟨r1,r2,r3,r4,r5⟩:=j0p (w:=w) o1 (by simpa using hb)
    exact o2a h hk r1 r2 (r3.trans o2) r4
   ·exact h
theorem o4o {e:u3a} (h:EngR e):EngR (s8z e).1:=by
 unfold s8z
 split
 ·rename_i q;exact j1w h q.1 q.2
 ·exact h
structure Sync (s:u1q) (b:u0j):Prop where
 eng:EngR s.1
 log:u2g s.2=true
 play:t1p (u0g s.2)=some b
 right:BaseR b
 like:Like0 b s.1.1
theorem Like0.of {b e e' :u0j} (h:Like0 b e) (h1:e'.1=e.1) (h2:e'.2.2.1=e.2.2.1) (h3:e'.2.2.2.1=e.2.2.2.1):Like0 b e' :=
 ⟨by rw[h1,h3];exact h.vs,h.past,by rw[h2];exact h.ready,by rw[h3];exact h.cs⟩
theorem Sync.opens {s:u1q} {b:u0j} {e:u3a} (h:Sync s b) (he:EngR e) (h1:e.1.1=s.1.1.1) (h2:e.1.2.2.1=s.1.1.2.2.1) (h3:e.1.2.2.2.1=s.1.1.2.2.2.1):Sync (e,s.2) b:=
 ⟨he,h.log,h.play,h.right,h.like.of h1 h2 h3⟩
theorem Sync.leave {s:u1q} {b:u0j} (h:Sync s b) (id:Int):Sync (s9x s.1 id,s.2) b:=
 ⟨j2b h.eng id,h.log,h.play,h.right,h.like.tidy h.eng.base _⟩
theorem Sync.own {s:u1q} {b:u0j} (h:Sync s b):u34 b [] =b:=h.like.self h.eng.base
def t9q (s:u1q) (id:Int):u1q×Int:=
 if(u6d s.1 id).2.2=0 then(match t7o s.2 (u6d s.1 id).2.1 with
  | some d=>(((u6d s.1 id).1,d),0)
  | none=>((s9x s.1 id,s.2),3))
 else(((u6d s.1 id).1,s.2),(u6d s.1 id).2.2)
def r78 (s:u1q) (id:Int) (n:Hs):u1q×Int:=
 if(s14 s.1 id n).2.2=0 then(match t7o s.2 (s14 s.1 id n).2.1 with
  | some d=>(((s14 s.1 id n).1,d),0)
  | none=>((s9x s.1 id,s.2),3))
 else(((s14 s.1 id n).1,s.2),(s14 s.1 id n).2.2)
def p3d (s:u1q) (n:Hs) (yes:Bool):u1q×Int:=
 if(q6s s.1 n yes).2.2=0 then(match t7o s.2 (q6s s.1 n yes).2.1 with
  | some d=>(((q6s s.1 n yes).1,d),0)
  | none=>(s,3))
 else(s,(q6s s.1 n yes).2.2)
def p9s (s:u1q):u1q×Bool:=match p3w s.2 with
 | some d=>((s.1,d),true)
 | none=>(s,false)
theorem Sync.commit {s:u1q} {b:u0j} (h:Sync s b) (id:Int):∃b',Sync (t9q s id).1 b' ∧(b' =b∨((t9q s id).2=0∧q2h s.1 id=0∧u65 b (1,s3b s.1.1 (u4c s.1 id),emp,false,u2t)=some b')):=by
 have hE:=h.eng
 unfold t9q
 by_cases c0:(u6d s.1 id).2.2=0
 ·rw[Al c0]
  have j0:q2h s.1 id=0:=by
   unfold u6d at c0
   split at c0
   ·cases c0
   ·split at c0
    ·assumption
    ·exact c0
  have ec:u6d s.1 id=(p05 s.1 (u4c s.1 id),(1,s3b s.1.1 (u4c s.1 id),emp,false,u2t),0):=by
   unfold u6d;rw[Ao (by omega),Al j0]
  obtain⟨h1,h2,h3,h4⟩:=q6w j0
  obtain⟨k,hk,e1,e2,e3⟩:=u2o h1
  have ht:u4c s.1 id∈s.1.2:=by rw[e2];exact Ag hk
  obtain⟨f1,f2,f3⟩:=p80 h4
  obtain⟨tR,t1,ts⟩:=hE.open_ _ ht
  have h9:(u4c s.1 id).1<9999:=by have:=hE.bel _ (Az _ ht);have:=hE.base.next.2;omega
  obtain⟨x,p1,p2,p3⟩:=p5r (t:=u4c s.1 id) h.like hE.base h.right f3 f2 tR h9 ts
  rw[ec]
  simp only
  cases hk2:t7o s.2 (1,s3b s.1.1 (u4c s.1 id),emp,false,u2t) with
  | none=>exact⟨b,h.leave id, .inl rfl⟩
  | some d=>
   obtain⟨l1,l2⟩:=p0c h.play h.right h.own (.thr _ (o3d tR ts f3) rfl) p1 hk2
   have hR:=o9m hE ht h4
   exact⟨x,⟨hR,l1,l2,p2,p3.tidy (r8y hE (.inl ht) h4) _⟩, .inr ⟨rfl,j0,p1⟩⟩
 ·rw[Ao c0]
  refine⟨b,?_, .inl rfl⟩
  unfold u6d
  split
  ·exact h
  ·split
   ·rename_i q1 q2
    exfalso;apply c0
    unfold u6d;rw[Ao q1,Al q2]
   ·exact h.leave id
theorem j4v {e:u3a} {id:Int} (h:r8u e id=0):q2h e id=0∧s48 (u4c e id) (s4l e)=false∧e.1.2.2.1.length<3:=by
 unfold r8u at h
 split at h
 ·rename_i q;exact absurd h q
 ·rename_i q
  split at h
  ·omega
  ·rename_i q2
   split at h
   ·omega
   ·exact⟨by omega,by simpa using q2,by omega⟩
theorem o79 {e:u3a} {id:Int} {n:Hs} (h:(s14 e id n).2.2=0): ¬t5j e.2 id<0∧u66 n=true∧u0p e.1 n<0∧r8u e id=0∧s14 e id n=(o78 e (u4c e id) n,(2,u5m e.1 (u4c e id) n,emp,false,u2t),0):=by
 unfold s14 at h ⊢
 split at h
 ·cases h
 ·rename_i q1
  split at h
  ·cases h
  ·rename_i q2
   split at h
   ·cases h
   ·rename_i q3
    split at h
    ·rename_i q4
     exact⟨q1,by simpa using q2,by omega,q4,by rw[Ao q1,Ao q2,Ao q3,Al q4]⟩
    ·rename_i q4
     exact absurd h q4
theorem Sync.prep {s:u1q} {b:u0j} (h:Sync s b) (id:Int) (n:Hs):∃b',Sync (r78 s id n).1 b' ∧(b' =b∨((r78 s id n).2=0∧(s14 s.1 id n).2.2=0∧u65 b (2,u5m s.1.1 (u4c s.1 id) n,emp,false,u2t)=some b')):=by
 have hE:=h.eng
 unfold r78
 by_cases c0:(s14 s.1 id n).2.2=0
 ·rw[Al c0]
  obtain⟨h1,hn,hr,hc,ec⟩:=o79 c0
  obtain⟨j0,rd,rl⟩:=j4v hc
  obtain⟨k,hk,e1,e2,e3⟩:=u2o h1
  have ht:u4c s.1 id∈s.1.2:=by rw[e2];exact Ag hk
  obtain⟨tR,t1,ts⟩:=hE.open_ _ ht
  have h9:(u4c s.1 id).1<9999:=by have:=hE.bel _ (Az _ ht);have:=hE.base.next.2;omega
  have hnn:=j2i.mp hr
  obtain⟨x,p1,p2,p3⟩:=o1p (t:=u4c s.1 id) (n:=n) h.like hE.base h.right tR (by omega) hn ts rl hnn (fun x hx=>hE.apart x (Az _ hx) _ ht) h9
  rw[ec]
  simp only
  cases hk2:t7o s.2 (2,u5m s.1.1 (u4c s.1 id) n,emp,false,u2t) with
  | none=>exact⟨b,h.leave id, .inl rfl⟩
  | some d=>
   obtain⟨l1,l2⟩:=p0c h.play h.right h.own (.rdy _ (p9e tR (by omega) hn) rfl) p1 hk2
   have hB:BaseR (u2r s.1.1 (u4c s.1 id) n):=q2k hE.base tR (by omega) ts hn rl hnn (fun x hx=>hE.apart x hx _ ht) h9
   exact⟨x,⟨j4w hE ht hn rl hnn,l1,l2,p2,p3.tidy hB _⟩, .inr ⟨by trivial,by trivial,p1⟩⟩
 ·rw[Ao c0]
  refine⟨b,?_, .inl rfl⟩
  unfold s14
  split
  ·exact h
  ·split
   ·exact h
   ·split
    ·exact h
    ·split
     ·rename_i q1 q2 q3 q4
      exfalso;apply c0
      unfold s14;rw[Ao q1,Ao q2,Ao q3,Al q4]
     ·exact h.leave id
theorem Sync.fin {s:u1q} {b:u0j} (h:Sync s b) (n:Hs) (yes:Bool):∃b',Sync (p3d s n yes).1 b' ∧(b' =b∨((p3d s n yes).2=0∧(q6s s.1 n yes).2.2=0∧u65 b (3,u4n,n,yes,u2t)=some b')):=by
 have hE:=h.eng
 unfold p3d
 by_cases c0:(q6s s.1 n yes).2.2=0
 ·rw[Al c0]
  unfold q6s at c0
  split at c0
  ·cases c0
  ·rename_i q1
   split at c0
   ·cases c0
   ·rename_i q2
    obtain⟨k,hk,r1,r2⟩:=t99 q1
    obtain⟨tR,t2,ts⟩:=hE.base.ready _ (Ag hk)
    have hn:u66 n=true:=by rw[←r2];exact tR.name t2
    cases yes with
    | true=>
     have hf:q6t s.1.1=false:=by simpa using q2
     obtain⟨f1,f2,f3⟩:=p80 hf
     have ec:q6s s.1 n true=(j7l s.1 s.1.1.2.2.1[k],(3,u4n,n,true,u2t),0):=by
      unfold q6s;rw[Ao q1,Ao q2,Al rfl,r1,zTn,y8k (t:=u00) hk]
     obtain⟨x,p1,p2,p3⟩:=o6a h.like hE.base h.right f3 f2 hn hk r1
     rw[ec]
     simp only
     cases hk2:t7o s.2 (3,u4n,n,true,u2t) with
     | none=>exact⟨b,h, .inl rfl⟩
     | some d=>
      obtain⟨l1,l2⟩:=p0c h.play h.right h.own (.fin n true hn) p1 hk2
      exact⟨x,⟨j7m hE (Ag hk) hf,l1,l2,p2,p3.tidy (r8y hE (.inr (Ag hk)) hf) _⟩, .inr ⟨by trivial,by trivial,p1⟩⟩
    | false=>
     have ec:q6s s.1 n false=(noE s.1 n,(3,u4n,n,false,u2t),0):=by
      unfold q6s;rw[Ao q1,Ao q2,Ao (by decide)]
     obtain⟨x,p1,p2,p3⟩:=o77 h.like hE.base h.right hn hk r1
     rw[ec]
     simp only
     cases hk2:t7o s.2 (3,u4n,n,false,u2t) with
     | none=>exact⟨b,h, .inl rfl⟩
     | some d=>
      obtain⟨l1,l2⟩:=p0c h.play h.right h.own (.fin n false hn) p1 hk2
      exact⟨x,⟨d0x hE n,l1,l2,p2,p3.tidy (p2l hE.base n) _⟩, .inr ⟨by trivial,by trivial,p1⟩⟩
 ·rw[Ao c0]
  exact⟨b,h, .inl rfl⟩
theorem Sync.fix {s:u1q} {b:u0j} (h:Sync s b):Sync (p9s s).1 b:=by
 unfold p9s
 cases ha:p3w s.2 with
 | none=>exact h
 | some d=>
  obtain⟨_,l1,l2⟩:=o4m h.play h.right h.own ha
  exact⟨h.eng,l1,l2,h.right,h.like⟩
end
section
structure PassedR (t:u0h) (P R:Hu u0h):Prop extends Passed t P R where
 e1:∀x∈P++R,∀y∈R,ahead x t=true→ahead t y=true→False
 e2:∀x∈R,∀y∈R,ahead t x=true→ahead x y=true→y.1≠t.1→False
end
section
def K5:Hu Hs:= [⟨#[97]⟩,⟨#[98]⟩,⟨#[99]⟩,⟨#[100]⟩,⟨#[97,98]⟩]
structure DomT (t:u0h):Prop where
 ws:∀w∈t.2.2.2.2.2.1,w.1∈K5
 rs:∀r∈t.2.2.2.2.1,r.1∈K5∧r.2∈K5
structure DomB (b:u0j):Prop where
 vs:∀v∈b.1,v.1∈K5
 ready:∀t∈b.2.2.1,DomT t
structure DomE (e:u3a):Prop where
 base:DomB e.1
 open_:∀t∈e.2,DomT t
theorem DomB.tidy {b:u0j} (h:DomB b) (o:Hu u0h):DomB (u34 b o):=⟨fun v hv=>h.vs v ((u75 _ _).subset hv),h.ready⟩
theorem DomB.through {b:u0j} {t:u0h} (h:DomB b) (ht:DomT t):DomB (u1n b t):=by
 refine⟨fun v hv=> ?_,fun x hx=> ?_⟩
 ·rcases(t80 _ _ _).mp hv with hv | ⟨w,hw,rfl⟩
  ·exact h.vs v hv
  ·exact ht.ws w hw
 ·obtain⟨q,hq,rfl⟩:=Bx.mp hx
  have:=h.ready q (A6.mp hq).1
  exact⟨this.ws,this.rs⟩
theorem DomB.made {b:u0j} {t:u0h} {n:Hs} (h:DomB b) (ht:DomT t):DomB (u2r b t n):=by
 refine⟨h.vs,fun x hx=> ?_⟩
 rcases Ay.mp hx with hx | hx
 ·rcases Ay.mp hx with hx | hx
  ·exact h.ready x (A6.mp hx).1
  ·rw[Ax] at hx;subst hx;exact⟨ht.ws,ht.rs⟩
 ·exact h.ready x (A6.mp hx).1
theorem DomB.given {b:u0j} (h:DomB b) (n:Hs):DomB (t7n b n):=⟨h.vs,fun x hx=>h.ready x (A6.mp hx).1⟩
theorem DomE.rest {e:u3a} (h:DomE e) (id:Int):∀t∈r75 e id,DomT t:=fun t ht=>h.open_ t ((r1w e id).subset ht)
theorem DomE.leave {e:u3a} (h:DomE e) (id:Int):DomE (s9x e id):=⟨h.base.tidy _,h.rest id⟩
theorem DomE.begin {e:u3a} (h:DomE e):DomE (s8z e).1:=by
 unfold s8z
 split
 ·refine⟨⟨h.base.vs,h.base.ready⟩,fun t ht=> ?_⟩
  rcases Ay.mp ht with ht | ht
  ·exact h.open_ t ht
  ·rw[Ax] at ht;subst ht
   exact⟨fun w hw=>(by cases hw),fun r hr=>(by cases hr)⟩
 ·exact h
theorem DomE.commit {e:u3a} (h:DomE e) (id:Int):DomE (u6d e id).1:=by
 unfold u6d
 split
 ·exact h
 ·split
  ·rename_i _ q
   obtain⟨k,hk,e1,e2,e3⟩:=u2o (q6w q).1
   rw[e2]
   exact⟨(h.base.through (h.open_ _ (Ag hk))).tidy _,h.rest _⟩
  ·exact h.leave id
theorem DomE.prep {e:u3a} (h:DomE e) (id:Int) (n:Hs):DomE (s14 e id n).1:=by
 unfold s14
 split
 ·exact h
 ·rename_i q
  split
  ·exact h
  ·split
   ·exact h
   ·split
    ·obtain⟨k,hk,e1,e2,e3⟩:=u2o q
     rw[e2]
     exact⟨(h.base.made (h.open_ _ (Ag hk))).tidy _,h.rest _⟩
    ·exact h.leave id
theorem DomE.fin {e:u3a} (h:DomE e) (n:Hs) (y:Bool):DomE (q6s e n y).1:=by
 unfold q6s
 split
 ·exact h
 ·rename_i q
  split
  ·exact h
  ·split
   ·obtain⟨k,hk,r1,r2⟩:=t99 q
    rw[r1,zTn,y8k (t:=u00) hk]
    exact⟨(h.base.through (h.base.ready _ (Ag hk))).tidy _,h.open_⟩
   ·exact⟨(h.base.given n).tidy _,h.open_⟩
theorem DomE.look {e:u3a} (h:DomE e) {id:Int} {r:s5p} {right:Bool} (hr:r.1∈K5∧r.2∈K5):DomE (s5s e id r right).1:=by
 unfold s5s
 split
 ·exact h
 ·rename_i q
  split
  ·exact h
  ·split
   ·obtain⟨k,hk,e1,e2,e3⟩:=u2o q
    rw[e2]
    have ho:=h.open_ _ (Ag hk)
    refine⟨h.base,fun t ht=> ?_⟩
    rcases p9h ht with ht | rfl
    ·exact h.open_ t ht
    ·unfold s5t
     split
     ·exact ho
     ·split
      ·refine⟨ho.ws,fun x hx=> ?_⟩
       rcases Ay.mp hx with hx | hx
       ·exact ho.rs x hx
       ·rw[Ax] at hx;subst hx;exact hr
      ·exact ho
   ·exact h
theorem DomE.put {e:u3a} (h:DomE e) {id:Int} {w:WrT} (hw:w.1∈K5):DomE (o43 e id w).1:=by
 unfold o43
 split
 ·exact h
 ·rename_i q
  split
  ·exact h
  ·split
   ·obtain⟨k,hk,e1,e2,e3⟩:=u2o q
    rw[e2]
    have ho:=h.open_ _ (Ag hk)
    refine⟨h.base,fun t ht=> ?_⟩
    rcases p9h ht with ht | rfl
    ·exact h.open_ t ht
    ·unfold r5i
     split
     ·refine⟨fun x hx=> ?_,ho.rs⟩
      rcases q48 hx with hx | rfl
      ·exact ho.ws x hx
      ·exact hw
     ·exact ho
   ·exact h
def Num (k:Nat) (e:u3a):Prop:=e.1.2.2.2.1≤(k:Int)∧e.1.2.2.2.2≤(k:Int)+1
theorem Num.mono {k m:Nat} {e:u3a} (h:Num k e) (hk:k≤m):Num m e:=⟨by have:=h.1;omega,by have:=h.2;omega⟩
theorem q6z {e:u3a} (h:EngR e) {t:u0h} (ht:t∈e.2∨t∈e.1.2.2.1):u1z e.1.2.2.2.2 t.1=e.1.2.2.2.2:=by
 refine o1k ?_
 rcases ht with ht | ht
 ·exact h.bel t (Az _ ht)
 ·exact h.bel t (Bf _ (Az _ ht))
theorem Num.begin {k:Nat} {e:u3a} (h:Num k e):Num (k+1) (s8z e).1:=by
 unfold s8z
 split
 ·exact⟨by show e.1.2.2.2.1≤_;have:=h.1;omega,by show e.1.2.2.2.2+1≤_;have:=h.2;omega⟩
 ·exact h.mono (by omega)
theorem Num.commit {k:Nat} {e:u3a} (hE:EngR e) (h:Num k e) (id:Int):Num (k+1) (u6d e id).1:=by
 unfold u6d
 split
 ·exact h.mono (by omega)
 ·split
  ·rename_i _ q
   obtain⟨j,hj,e1,e2,e3⟩:=u2o (q6w q).1
   refine⟨by show e.1.2.2.2.1+1≤_;have:=h.1;omega,?_⟩
   show u1z e.1.2.2.2.2 (u4c e id).1≤_
   rw[e2,q6z hE (.inl (Ag hj))]
   have:=h.2;omega
  ·exact h.mono (by omega)
theorem Num.prep {k:Nat} {e:u3a} (hE:EngR e) (h:Num k e) (id:Int) (n:Hs):Num (k+1) (s14 e id n).1:=by
 unfold s14
 split
 ·exact h.mono (by omega)
 ·rename_i q
  split
  ·exact h.mono (by omega)
  ·split
   ·exact h.mono (by omega)
   ·split
    ·obtain⟨j,hj,e1,e2,e3⟩:=u2o q
     refine⟨by show e.1.2.2.2.1≤_;have:=h.1;omega,?_⟩
     show u1z e.1.2.2.2.2 (u4c e id).1≤_
     rw[e2,q6z hE (.inl (Ag hj))]
     have:=h.2;omega
    ·exact h.mono (by omega)
theorem Num.fin {k:Nat} {e:u3a} (hE:EngR e) (h:Num k e) (n:Hs) (y:Bool):Num (k+1) (q6s e n y).1:=by
 unfold q6s
 split
 ·exact h.mono (by omega)
 ·rename_i q
  split
  ·exact h.mono (by omega)
  ·split
   ·obtain⟨j,hj,r1,r2⟩:=t99 q
    rw[r1,zTn,y8k (t:=u00) hj]
    refine⟨by show e.1.2.2.2.1+1≤_;have:=h.1;omega,?_⟩
    show u1z e.1.2.2.2.2 e.1.2.2.1[j].1≤_
    rw[q6z hE (.inr (Ag hj))]
    have:=h.2;omega
   ·exact h.mono (by omega)
theorem Num.look {k:Nat} {e:u3a} (h:Num k e) {id:Int} {r:s5p} {right:Bool} :Num k (s5s e id r right).1:=by
 unfold s5s
 split
 ·exact h
 ·split
  ·exact h
  ·split<;>exact h
theorem Num.put {k:Nat} {e:u3a} (h:Num k e) {id:Int} {w:WrT} :Num k (o43 e id w).1:=by
 unfold o43
 split
 ·exact h
 ·split
  ·exact h
  ·split<;>exact h
structure Stt (k:Nat) (s:u1q):Prop where
 sync:∃b,Sync s b∧b.2.2.2.2≤(k:Int)+1
 dom:DomE s.1
 num:Num k s.1
theorem Stt.eng {k:Nat} {s:u1q} (h:Stt k s):EngR s.1:=by obtain⟨b,h1,_⟩:=h.sync;exact h1.eng
theorem o47 {E:Type} [DecidableEq E] :∀ {u t:Hu E},u.Nodup→(∀x∈u,x∈t)→u.length≤t.length
 | [],t,_,_=>Cn _
 | x::u,t,hn,hs=>by
  have hn' :=List.nodup_cons.mp hn
  have hx:=hs x (by simp)
  have h1:=o47 (u:=u) (t:=t.filter fun y=>decide (y≠x)) hn'.2 (fun y hy=>A6.mpr ⟨hs y (by simp[hy]),by
   rw[Ar];intro e;exact hn'.1 (by rw[←e];exact hy)⟩)
  have h2:(t.filter fun y=>decide (y≠x)).length<t.length:=List.length_filter_lt_length_iff_exists.mpr ⟨x,hx,by simp⟩
  simp only[Bc];omega
theorem j0i {l:Hu u2b} (hA:VAsc l) {s:Int} (hs:∀x∈l,vCs x≤s) (hk:∀v∈l,v.1∈K5):(u2j l s).length≤5:=by
 have hT:=t7s hA s
 have hn:((u2j l s).map fun v=>v.1).Nodup:=by
  rw[D8,Dl]
  have:∀x∈u2j l s,∀y∈u2j l s,vLt x y→x.1≠y.1:=fun x hx y hy hlt e=>by
   obtain⟨x1,_,x3⟩:=(s6r hA hs).mp hx
   obtain⟨y1,_,y3⟩:=(s6r hA hs).mp hy
   have a:=x3 y y1 e.symm
   have b:=y3 x x1 e
   have:=VAsc.uni hA x x1 y y1 e (by omega)
   subst this
   exact p9k x hlt
  exact List.Pairwise.imp_of_mem (fun {a b} ha hb hab=>this a ha b hb hab) hT
 have:=o47 hn (t:=K5) fun x hx=>by
  obtain⟨v,hv,rfl⟩:=Bx.mp hx
  exact hk v ((u75 l s).subset hv)
 rw[Da] at this
 exact this
theorem o59 {s:u1q} {b:u0j} (h:Sync s b) (hd:DomE s.1):(s91 (s8b (4,u4n,emp,false,b))).size≤1100:=by
 have hb:=h.right
 have hl:=r8p hb
 have h5:b.1.length≤5:=by
  rw[h.like.vs]
  exact j0i (o85.mp h.eng.base.vs).2.1 (fun x hx=>h.eng.base.vcs x hx) hd.base.vs
 have hp:b.2.1.length=0:=by rw[h.like.past];rfl
 have hr:=hb.rlen
 rw[r8w]
 have e:s8b (4,u4n,emp,false,b)=y7g [IntKind.u8.wrap 4] ++t9v b:=rfl
 rw[e,Af,u3q]
 simp only[Aw]
 omega
theorem Stt.fixes {k:Nat} {s:u1q} (h:Stt k s):∃d,p3w s.2=some d:=by
 obtain⟨b,hs,_⟩:=h.sync
 have hz:=o59 hs h.dom
 have hz2:=u0y (s:=s91 (s8b (4,u4n,emp,false,b))) (by omega)
 obtain⟨y,hy⟩:=o6h (t:=s91 (s8b (4,u4n,emp,false,b))) hs.log (by rw[r8w];omega) (by omega)
 refine⟨y,?_⟩
 unfold p3w
 rw[hs.play]
 simp only
 rw[u9e (.bas b hs.right),Al rfl]
 exact hy
theorem q2n {b x:u0j} {r:s5w} (h:u65 b r=some x):∃y,u18 b r=some y∧x=u34 y [] :=by
 unfold u65 at h
 split at h
 ·cases q:u18 b r with
  | none=>rw[q] at h;cases h
  | some y=>
   rw[q] at h
   simp only at h
   split at h
   ·exact⟨y,rfl,(Ds h).symm⟩
   ·cases h
 ·cases h
theorem o3q {n i m:Int} (h1:n≤m) (h2:i<m):u1z n i≤m:=by unfold u1z;split<;>omega
theorem Stt.commit {k:Nat} {s:u1q} (h:Stt k s) (id:Int):Stt (k+1) (t9q s id).1:=by
 obtain⟨b,hs,hb⟩:=h.sync
 obtain⟨b',hs',hd⟩:=hs.commit id
 have hE:=hs.eng
 have h1:=h.num.commit hE id
 have hl:=h.dom.leave id
 refine⟨⟨b',hs',?_⟩,?_,?_⟩
 ·rcases hd with rfl | ⟨_,j0,hp⟩
  ·omega
  ·obtain⟨y,hy,rfl⟩:=q2n hp
   unfold u18 at hy
   rw[Al rfl] at hy
   split at hy
   ·cases hy
    show u1z b.2.2.2.2 (u4c s.1 id).1≤_
    obtain⟨j,hj,e1,e2,e3⟩:=u2o (q6w j0).1
    have:=hE.bel _ (Az _ (Ag hj))
    rw[e2]
    have:=h.num.2
    exact o3q (by omega) (by omega)
   ·cases hy
 ·have h2:=h.dom.commit id
  unfold t9q
  split
  ·split
   ·exact h2
   ·exact hl
  ·exact h2
 ·unfold t9q
  split
  ·split
   ·exact h1
   ·exact h.num.mono (by omega)
  ·exact h1
theorem Stt.prep {k:Nat} {s:u1q} (h:Stt k s) (id:Int) (n:Hs):Stt (k+1) (r78 s id n).1:=by
 obtain⟨b,hs,hb⟩:=h.sync
 obtain⟨b',hs',hd⟩:=hs.prep id n
 have hE:=hs.eng
 have h1:=h.num.prep hE id n
 have hl:=h.dom.leave id
 refine⟨⟨b',hs',?_⟩,?_,?_⟩
 ·rcases hd with rfl | ⟨_,j0,hp⟩
  ·omega
  ·obtain⟨y,hy,rfl⟩:=q2n hp
   unfold u18 at hy
   simp only at hy
   rw[Ao (by decide),Al trivial] at hy
   split at hy
   ·cases hy
    show u1z b.2.2.2.2 (u4c s.1 id).1≤_
    obtain⟨j,hj,e1,e2,e3⟩:=u2o (o79 j0).1
    have:=hE.bel _ (Az _ (Ag hj))
    rw[e2]
    have:=h.num.2
    exact o3q (by omega) (by omega)
   ·cases hy
 ·have h2:=h.dom.prep id n
  unfold r78
  split
  ·split
   ·exact h2
   ·exact hl
  ·exact h2
 ·unfold r78
  split
  ·split
   ·exact h1
   ·exact h.num.mono (by omega)
  ·exact h1
theorem Stt.fin {k:Nat} {s:u1q} (h:Stt k s) (n:Hs) (y:Bool):Stt (k+1) (p3d s n y).1:=by
 obtain⟨b,hs,hb⟩:=h.sync
 obtain⟨b',hs',hd⟩:=hs.fin n y
 have hE:=hs.eng
 have h1:=h.num.fin hE n y
 refine⟨⟨b',hs',?_⟩,?_,?_⟩
 ·rcases hd with rfl | ⟨_,j0,hp⟩
  ·omega
  ·obtain⟨z,hz,rfl⟩:=q2n hp
   unfold u18 at hz
   simp only at hz
   rw[Ao (by decide),Ao (by decide),Al trivial] at hz
   split at hz
   ·cases hz
   ·rename_i q
    obtain⟨j,hj,r1,r2⟩:=t99 q
    split at hz
    ·cases hz
     show u1z b.2.2.2.2 (rdL u00 b.2.2.1 (u0p b n).toNat).1≤_
     rw[r1,zTn,y8k (t:=u00) hj]
     have:b.2.2.1[j] ∈s.1.1.2.2.1:=by rw[←hs.like.ready];exact Ag hj
     have:=hE.bel _ (Bf _ (Az _ this))
     have:=h.num.2
     exact o3q (by omega) (by omega)
    ·cases hz
     show b.2.2.2.2≤_
     omega
 ·have h2:=h.dom.fin n y
  unfold p3d
  split
  ·split
   ·exact h2
   ·exact h.dom
  ·exact h.dom
 ·unfold p3d
  split
  ·split
   ·exact h1
   ·exact h.num.mono (by omega)
  ·exact h.num.mono (by omega)
theorem Stt.fix {k:Nat} {s:u1q} (h:Stt k s):Stt (k+1) (p9s s).1:=by
 obtain⟨b,hs,hb⟩:=h.sync
 refine⟨⟨b,hs.fix,by omega⟩,?_,?_⟩
 ·unfold p9s;split<;>exact h.dom
 ·unfold p9s;split<;>exact h.num.mono (by omega)
theorem Stt.leave {k:Nat} {s:u1q} (h:Stt k s) (id:Int):Stt (k+1) ((p2v s.1 id).1,s.2):=by
 obtain⟨b,hs,hb⟩:=h.sync
 unfold p2v
 split
 ·exact⟨⟨b,hs,by omega⟩,h.dom,h.num.mono (by omega)⟩
 ·exact⟨⟨b,hs.leave id,by omega⟩,h.dom.leave id,h.num.mono (by omega)⟩
theorem Stt.begin {k:Nat} {s:u1q} (h:Stt k s):Stt (k+1) ((s8z s.1).1,s.2):=by
 obtain⟨b,hs,hb⟩:=h.sync
 refine⟨⟨b,hs.opens (o4o hs.eng) ?_ ?_ ?_,by omega⟩,h.dom.begin,h.num.begin⟩<;>(unfold s8z;split<;>rfl)
theorem Stt.look {k:Nat} {s:u1q} (h:Stt k s) {id:Int} {r:s5p} {right:Bool} (hr:right=true→u25 r=true) (hk:r.1∈K5∧r.2∈K5):Stt (k+1) ((s5s s.1 id r right).1,s.2):=by
 obtain⟨b,hs,hb⟩:=h.sync
 have e:(s5s s.1 id r right).1.1=s.1.1:=by
  unfold s5s
  split
  ·rfl
  ·split
   ·rfl
   ·split<;>rfl
 exact⟨⟨b,hs.opens (j4m hs.eng hr) (by rw[e]) (by rw[e]) (by rw[e]),by omega⟩,h.dom.look hk,h.num.look.mono (by omega)⟩
theorem Stt.put {k:Nat} {s:u1q} (h:Stt k s) {id:Int} {w:WrT} (hk:w.1∈K5):Stt (k+1) ((o43 s.1 id w).1,s.2):=by
 obtain⟨b,hs,hb⟩:=h.sync
 have e:(o43 s.1 id w).1.1=s.1.1:=by
  unfold o43
  split
  ·rfl
  ·split
   ·rfl
   ·split<;>rfl
 exact⟨⟨b,hs.opens (j7g hs.eng) (by rw[e]) (by rw[e]) (by rw[e]),by omega⟩,h.dom.put hk,h.num.put.mono (by omega)⟩
end
section
structure tinyT (t:u0h):Prop where
 rl:t.2.2.2.2.1.length≤100
 rs:∀r∈t.2.2.2.2.1,r.1.size≤100∧r.2.size≤100
 wl:t.2.2.2.2.2.1.length≤100
 ws:∀w∈t.2.2.2.2.2.1,w.1.size≤100∧w.2.1.size≤100
 nm:t.2.2.2.2.2.2.2.size≤100
structure tinyB (b:u0j):Prop where
 vl:b.1.length≤10000
 vs:∀v∈b.1,v.1.size≤100∧v.2.1.size≤100
 pl:b.2.1.length≤1000
 ps:∀t∈b.2.1,tinyT t
 rl:b.2.2.1.length≤1000
 rs:∀t∈b.2.2.1,tinyT t
theorem s92 {α:Type} {f:α→Nat} {k:Nat} :∀ {l:Hu α},(∀x∈l,f x≤k)→(l.map f).sum≤l.length*k
 | [],_=>by simp
 | x::l,h=>by
  rw[C8,Ge,Bc,C7]
  have h1:=h x (by simp)
  have h2:=s92 (l:=l) (fun y hy=>h y (by simp[hy]))
  omega
theorem tinyT.wt {t:u0h} (h:tinyT t):u00.wt t≤50000:=by
 have e1:(Ty.sl t2h).wt t.2.2.2.2.1=t.2.2.2.2.1.length+(t.2.2.2.2.1.map t2h.wt).sum:=rfl
 have e2:(Ty.sl u2m).wt t.2.2.2.2.2.1=t.2.2.2.2.2.1.length+(t.2.2.2.2.2.1.map u2m.wt).sum:=rfl
 have s1:(t.2.2.2.2.1.map t2h.wt).sum≤t.2.2.2.2.1.length*200:=s92 fun r hr=>by
  have:=h.rs r hr
  have e:t2h.wt r=r.1.size+r.2.size:=rfl
  omega
 have s2:(t.2.2.2.2.2.1.map u2m.wt).sum≤t.2.2.2.2.2.1.length*200:=s92 fun w hw=>by
  have:=h.ws w hw
  have e:u2m.wt w=w.1.size+(w.2.1.size+0):=rfl
  omega
 have:=h.rl;have:=h.wl;have:=h.nm
 rw[o8o,e1,e2]
 omega
theorem tinyT.few {t:u0h} (h:tinyT t):q5u t:=⟨by have:=h.rl;omega,by have:=h.wl;omega⟩
theorem TxnR.tiny {t:u0h} (h:TxnR t):tinyT t:=by
 obtain⟨z1,z2,z3,z4,z5⟩:=h.small
 exact⟨by have:=h.rlen;omega,fun r hr=>by have:=z1 r hr;omega,by omega,fun w hw=>by have:=z2 w hw;omega,by omega⟩
theorem tinyT.like {t u:u0h} (h:tinyT t) (e1:u.2.2.2.2.1=t.2.2.2.2.1) (e2:u.2.2.2.2.2.1=t.2.2.2.2.2.1) (e3:u.2.2.2.2.2.2.2.size≤100):tinyT u:=
 ⟨by rw[e1];exact h.rl,by rw[e1];exact h.rs,by rw[e2];exact h.wl,by rw[e2];exact h.ws,e3⟩
theorem p0f {l:Hu u0h} (hl:l.length≤1000) (h:∀t∈l,tinyT t):(Ty.sl u00).wt l≤60000000:=by
 have e:(Ty.sl u00).wt l=l.length+(l.map u00.wt).sum:=rfl
 have s:(l.map u00.wt).sum≤l.length*50000:=s92 fun t ht=>(h t ht).wt
 rw[e];omega
theorem tinyB.wt {b:u0j} (h:tinyB b):j35.wt b≤200000000:=by
 have e:(Ty.sl u0e).wt b.1=b.1.length+(b.1.map u0e.wt).sum:=rfl
 have s:(b.1.map u0e.wt).sum≤b.1.length*200:=s92 fun v hv=>by
  have:=h.vs v hv
  have e:u0e.wt v=v.1.size+(v.2.1.size+(0+0)):=rfl
  omega
 have h1:=p0f h.pl h.ps
 have h2:=p0f h.rl h.rs
 have:=h.vl
 rw[r64,e];omega
theorem q5g {l:Hu u0h} (hl:l.length≤1000) (h:∀t∈l,tinyT t):q9y l:=⟨by omega,fun t ht=>(h t ht).few⟩
theorem tinyB.few {b:u0j} (h:tinyB b):fewB b:=⟨by have:=h.vl;omega,q5g h.pl h.ps,q5g h.rl h.rs⟩
theorem BaseR.tiny {b:u0j} (h:BaseR b):tinyB b:=by
 obtain⟨w1,w2,w3⟩:=o85.mp h.vs
 exact⟨by omega,fun v hv=>by have:=s5c (w1 v hv);omega,by have:=h.plen;omega,fun t ht=>(h.past t ht).1.tiny,by have:=h.rlen;omega,fun t ht=>(h.ready t ht).1.tiny⟩
theorem s0b {b:u0j} (h:tinyB b) (o:Hu u0h):tinyB (u34 b o):=
 ⟨A9 (o36 _ _) h.vl,fun v hv=>h.vs v ((u75 _ _).subset hv),A9 (t27 _ _) h.pl,fun t ht=>h.ps t (A6.mp ht).1,h.rl,h.rs⟩
theorem s61 {b:u0j} {t:u0h} (h:BaseR b) (ht:tinyT t):tinyB (u1n b t):=by
 obtain⟨w1,w2,w3⟩:=o85.mp h.vs
 have hb:=h.tiny
 refine⟨?_,fun v hv=> ?_,?_,fun x hx=> ?_,?_,fun x hx=> ?_⟩
 ·show(t8a b.1 t.2.2.2.2.2.1 (b.2.2.2.1+1)).length≤10000
  rw[q47];have:=ht.wl
  have e:(t.2.2.2.2.2.1:Hu u2m.den).length=t.2.2.2.2.2.1.length:=rfl
  omega
 ·rcases(t80 _ _ _).mp hv with q | ⟨w,hw,rfl⟩
  ·exact hb.vs v q
  ·exact ht.ws w hw
 ·show(b.2.1++ [s3b b t]).length≤1000
  have:=h.plen
  rw[Ba,Aw];omega
 ·rcases Ay.mp hx with q | q
  ·exact hb.ps x q
  ·rw[Ax.mp q]
   exact ht.like rfl rfl (Cn _)
 ·show((b.2.2.1.filter fun x=> !decide (x.1=t.1)).map (q9z (s3b b t))).length≤1000
  rw[Da]
  exact A9 (t27 _ _) hb.rl
 ·obtain⟨y,hy,rfl⟩:=Bx.mp hx
  have:=hb.rs y (A6.mp hy).1
  exact this.like rfl rfl this.nm
theorem q63 {b:u0j} {t:u0h} {n:Hs} (h:BaseR b) (ht:tinyT t) (hn:n.size≤100):tinyB (u2r b t n):=by
 have hb:=h.tiny
 refine⟨hb.vl,hb.vs,hb.pl,hb.ps,?_,fun x hx=> ?_⟩
 ·show((b.2.2.1.filter fun x=>y3c x.2.2.2.2.2.2.2 n)++ [u5m b t n] ++(b.2.2.1.filter fun x=> !y3c x.2.2.2.2.2.2.2 n)).length≤1000
  have f1:=t27 (fun x:u0h=>y3c x.2.2.2.2.2.2.2 n) b.2.2.1
  have f2:=t27 (fun x:u0h=> !y3c x.2.2.2.2.2.2.2 n) b.2.2.1
  have:=h.rlen
  rw[Ba,Ba,Aw];omega
 ·rcases Ay.mp hx with q | q
  ·rcases Ay.mp q with q | q
   ·exact hb.rs x (A6.mp q).1
   ·rw[Ax.mp q]
    exact ht.like rfl rfl hn
  ·exact hb.rs x (A6.mp q).1
theorem q6u {b:u0j} {n:Hs} (hb:tinyB b):tinyB (t7n b n):=
 ⟨hb.vl,hb.vs,hb.pl,hb.ps,A9 (t27 _ _) hb.rl,fun x hx=>hb.rs x (A6.mp hx).1⟩
structure tinyR (r:s5w):Prop where
 t:tinyT r.2.1
 n:r.2.2.1.size≤100
 b:tinyB r.2.2.2.2
theorem tinyR.wt {r:s5w} (h:tinyR r):j64.wt r≤549755813888:=by
 have:=h.t.wt;have:=h.n;have:=h.b.wt
 rw[r74];omega
theorem s0c:tinyT u4n:=⟨by decide,fun r hr=>(by cases hr),by decide,fun r hr=>(by cases hr),by decide⟩
theorem t1l:tinyB u2t:=⟨by decide,fun r hr=>(by cases hr),by decide,fun r hr=>(by cases hr),by decide,fun r hr=>(by cases hr)⟩
theorem o9y:tinyR noR:=⟨s0c,by decide,t1l⟩
theorem RecR.tiny {r:s5w} (h:RecR r):tinyR r:=by
 cases h with
 | thr t h hs=>exact⟨h.tiny,Cn 100,t1l⟩
 | rdy t h hs=>exact⟨h.tiny,Cn 100,t1l⟩
 | fin n y h=>exact⟨s0c,by have:=u29 h;show n.size≤100;omega,t1l⟩
 | bas b h=>exact⟨s0c,Cn 100,h.tiny⟩
def s3g (b:u0j) (r:s5w):u0j×Bool:=match u65 b r with
 | some x=>(x,true)
 | none=>(b,false)
theorem p2y {n:Int} (h:0≤n∧n≤9999):o84 n:=⟨by omega,by omega⟩
theorem q2l {n:Int} (h:1≤n∧n≤9999):o84 n:=⟨by omega,by omega⟩
theorem r8t {b x:u0j} {r:s5w} (hb:u63 b=true∧u6j r=true) {o:Bool} (hx:u18 b r=if o=true then some x else none):
 (((bif (!o) then some true else some (!u63 (u34 x []))):Ht Bool).bind fun j=>bif j then some (b,false) else some (u34 x [],true))=some (s3g b r):=by
 unfold s3g u65
 rw[Al hb,hx]
 cases o
 ·rfl
 ·simp only[Bl,Ap,Aa,zOb]
  cases u63 (u34 x [])<;>rfl
theorem o22 (b:u0j) (r:s5w) (hb:tinyB b) (hr:tinyR r):r1f (b,r)=some (s3g b r):=by
 have hq:u0k=1099511627776:=rfl
 rw[p7v];unfold q27
 simp only
 rw[u9g b (by have:=hb.wt;omega),q2z r hr.wt,t9z b hb.few]
 simp only[zOb]
 cases h1:u63 b
 ·unfold s3g u65
  rw[Ao (by simp[h1])];rfl
 ·cases h2:u6j r
  ·unfold s3g u65
   rw[Ao (by simp[h2])];rfl
  ·have hB:=p6a.mp h1
   have hR:=j06.mp h2
   have hbr:u63 b=true∧u6j r=true:=⟨h1,h2⟩
   simp only[Ap,Aa,zOb]
   have thr:∀t:u0h,TxnR t→t5m (b,t)=some (u1n b t)∧u6f (u1n b t, [])=some (u34 (u1n b t) [])∧u2y (u34 (u1n b t) [])=some (u63 (u34 (u1n b t) [])):=fun t ht=>by
    have h3:=s61 hB ht.tiny
    refine⟨?_,t90 _ _ h3.few (by simp),u9g _ (by have:=(s0b h3 []).wt;omega)⟩
    rw[o0a b t hb.few ht.tiny.few,p3g (p2y hB.cs) (q2l ht.id)]
   cases hR with
   | thr t h hs=>
    obtain⟨t1,t2,t3⟩:=thr t h
    simp only[Ae,Ad]
    rw[t1]
    simp only[zOb]
    rw[t2]
    simp only[zOb]
    rw[t3]
    simp only[zOb]
    rw[s3p (p2y hB.cs)]
    refine r8t (o:=decide (t.2.2.2.1=b.2.2.2.1+1)) hbr ?_
    unfold u18
    simp only[Bl,Ar]
   | rdy t h hs=>
    have hn:=u29 (h.name hs)
    have h3:=q63 (n:=t.2.2.2.2.2.2.2) hB h.tiny (by omega)
    simp only[show decide ((2:Int)=1)=false from rfl,Ae,Ad,Aa]
    rw[q7i b _ (by have:=hB.rlen;omega)]
    simp only[zOb]
    rw[p3r b t _ hb.few h.tiny.few (q2l h.id)]
    simp only[zOb]
    rw[t90 _ _ h3.few (by simp),]
    simp only[zOb]
    rw[u9g _ (by have:=(s0b h3 []).wt;omega)]
    simp only[zOb]
    have e:(bif decide ((b.2.2.1.length:Int)<3) then some (decide (u0p b t.2.2.2.2.2.2.2<0)) else some false:Ht Bool)=some (decide (b.2.2.1.length<3∧u0p b t.2.2.2.2.2.2.2<0)):=by
     by_cases q:b.2.2.1.length<3
     ·rw[Bb (show(b.2.2.1.length:Int)<3 by omega)];simp[q]
     ·rw[A7 (show ¬(b.2.2.1.length:Int)<3 by omega)];simp[q]
    rw[e]
    simp only[zOb]
    refine r8t (o:=decide (b.2.2.1.length<3∧u0p b t.2.2.2.2.2.2.2<0)) hbr ?_
    unfold u18
    simp only[show((2:Int)=1)=False by simp,Bk,Bl,Ar]
   | fin n y h=>
    simp only[show decide ((3:Int)=1)=false from rfl,show decide ((3:Int)=2)=false from rfl,Ae,Ad,Aa]
    rw[q7i b _ (by have:=hB.rlen;omega)]
    simp only[zOb]
    have h4:=q6u (b:=b) (n:=n) hb
    have giv:s0x (b,n)=some (t7n b n):=p9y b n hb.few
    have raw:∀x,(0≤u0p b n→y=true→x=u1n b (rdL u00 b.2.2.1 (u0p b n).toNat))→(y=false→x=t7n b n)→(0≤u0p b n∨True)→u18 b (3,u4n,n,y,u2t)=if decide (u0p b n≥0)=true then some x else none:=fun x hx hx2 _=>by
     unfold u18
     simp only[show((3:Int)=1)=False by simp,show((3:Int)=2)=False by simp,Bk,Bl]
     by_cases q:u0p b n<0
     ·rw[Al q,A7 (show ¬u0p b n≥0 by omega)];rfl
     ·rw[Ao q,Bb (show u0p b n≥0 by omega)]
      cases hy:y
      ·rw[hx2 hy];rfl
      ·rw[hx (by omega) hy];rfl
    by_cases q:0≤u0p b n
    ·rw[Bb (show u0p b n≥0 from q)]
     cases hy:y
     ·simp only[Ad,zOb,Aa]
      rw[giv]
      simp only[zOb]
      rw[t90 _ _ h4.few (by simp)]
      simp only[zOb]
      rw[u9g _ (by have:=(s0b h4 []).wt;omega)]
      simp only[zOb]
      have:=raw (t7n b n) (fun _ k=>by rw[hy] at k;cases k) (fun _=>rfl) (.inr trivial)
      rw[hy] at this hbr
      rw[Bb (show u0p b n≥0 from q)] at this
      exact r8t (o:=true) hbr this
     ·simp only[Ad,zOb,Aa]
      have hk:(u0p b n).toNat<b.2.2.1.length:=by
       unfold u0p at q ⊢
       split
       ·rename_i z;rw[zTn];exact z
       ·rename_i z;rw[Ao z] at q;omega
      obtain⟨k,hkk⟩:∃k:Nat,u0p b n=k:=⟨(u0p b n).toNat,by omega⟩
      have hg:y4q (u0p b n) b.2.2.1.length=true:=by rw[hkk];exact y7t (by rw[hkk] at hk;simpa using hk)
      rw[hg]
      simp only[Ad]
      have hT:TxnR (rdL u00 b.2.2.1 (u0p b n).toNat):=by
       rw[y8k hk];exact(hB.ready _ (Ag hk)).1
      obtain⟨t1,t2,t3⟩:=thr _ hT
      rw[t1]
      simp only[zOb]
      rw[t2]
      simp only[zOb]
      rw[t3]
      simp only[zOb]
      have:=raw (u1n b (rdL u00 b.2.2.1 (u0p b n).toNat)) (fun _ _=>rfl) (fun k=>by rw[hy] at k;cases k) (.inr trivial)
      rw[hy] at this hbr
      rw[Bb (show u0p b n≥0 from q)] at this
      exact r8t (o:=true) hbr this
    ·rw[A7 (show ¬u0p b n≥0 from q)]
     simp only[Aa,zOb]
     rw[giv]
     simp only[zOb]
     rw[t90 _ _ h4.few (by simp)]
     simp only[zOb]
     have:=raw (t7n b n) (fun k=>absurd k q) (fun _=>rfl) (.inr trivial)
     rw[A7 (show ¬u0p b n≥0 from q)] at this
     exact r8t (o:=false) hbr this
   | bas c h=>
    simp only[show decide ((4:Int)=1)=false from rfl,show decide ((4:Int)=2)=false from rfl,show decide ((4:Int)=3)=false from rfl,Aa]
    rw[t9z c h.tiny.few]
    simp only[zOb]
    rw[t90 _ _ h.tiny.few (by simp)]
    simp only[zOb]
    rw[u9g _ (by have:=(s0b h.tiny []).wt;omega)]
    simp only[zOb]
    exact r8t (o:=true) hbr (by unfold u18;simp)
end
section
theorem o7i {s:Src} (h:s.ok) {n:Nat} (hn:n≤5000):Dr (s09 (s,(n:Int))) (fun t=>t.size=n):=by
 have key:∀(r i:Nat) (s:Src) (a:Hu Int),s.ok→a.length=i→i+r=n→ ∃(s' :Src) (a' :Hu Int),u7c (s,(n:Int),a,(i:Int))=some (.inl (s',a'))∧s'.ok∧a'.length=n:=by
  intro r
  induction r with
  | zero=>
   intro i s a hs ha hi
   have:i=n:=by omega
   subst this
   rw[r5c]
   simp only[t6t,u0b,Am,Ah,Aa]
   exact⟨s,a,rfl,hs,ha⟩
  | succ r ih=>
   intro i s a hs ha hi
   obtain⟨y,s1,e1,k1,r1⟩:=q5x hs
   have hlt:i<n:=by omega
   have hc:Nat.ble (a.length+([IntKind.u8.wrap y] :Hu Int).length) z7w=true:=u0r (by simp;omega)
   rw[r5c]
   simp only[t6t,u0b,hlt,Ae,Ad,e1,zOb]
   rw[hc,y7l (by omega)]
   exact ih (i+1) s1 (a++ [IntKind.u8.wrap y]) k1 (by simp[ha]) (by omega)
 obtain⟨s',a',e1,k1,r1⟩:=key n 0 s [] h rfl (by omega)
 have e1:u7c (s,(n:Int), [],0)=_:=e1
 rw[p46];unfold q0r
 have h5:decide ((n:Int) >5000)=false:=by simp;omega
 simp only[h5,Aa,e1,zOb]
 exact⟨_,_,rfl,k1,by show(y7g a').size=n;rw[u3q];exact r1⟩
theorem j1v:∃t,s75 ()=some t∧t.size=64∧r1d t 0=0:=by
 have hset:∀i,(List.replicate 64 (0:Int)).set i 0=List.replicate 64 0:=fun i=>by
  apply Gw (by simp)
  intro j h1 h2
  rw[List.getElem_set,List.getElem_replicate]
  split
  ·rfl
  ·rfl
 have key:∀(r i:Nat),i+r=64→u51 ((64:Int),0,List.replicate 64 0,(i:Int))=some (.inl (List.replicate 64 0)):=by
  intro r
  induction r with
  | zero=>
   intro i hi
   have:i=64:=by omega
   subst this
   rw[t7i]
   rfl
  | succ r ih=>
   intro i hi
   have hlt:decide ((i:Int)<64)=true:=by simp;omega
   have hg:y4q (i:Int) (List.replicate 64 (0:Int)).length=true:=y7t (by simp;omega)
   rw[t7i]
   simp only[t0d,hlt,Ad,hg,hset]
   rw[y7l (by omega)]
   exact ih (i+1) (by omega)
 have e1:u51 ((64:Int),0,List.replicate 64 0,0)=_:=key 64 0 rfl
 refine⟨y7g (List.replicate 64 0),?_,by rw[u3q];simp,by unfold r1d;rw[s49];rfl⟩
 rw[p48];unfold q0u
 rw[q1b];unfold s7j
 have hc:(decide ((0:Int)≤64)&&decide ((64:Int)≤1099511627776))=true:=rfl
 have hr:List.replicate ((64:Int)).toNat (Ty.int .u8).zero=List.replicate 64 (0:Int):=rfl
 simp only[hc,Ad,hr,e1,zOb]
theorem p0m:∃d,t9e ()=some d∧u2g d=true∧u0g d= [] :=by
 obtain⟨z,hz,hz1,hz2⟩:=j1v
 have key:∀(r i:Nat),i+r=97→t0o ((97:Int),([], []),(List.replicate i z, []),(i:Int))=some (.inl (([], []),(List.replicate 97 z, []))):=by
  intro r
  induction r with
  | zero=>
   intro i hi
   have:i=97:=by omega
   subst this
   rw[r4z]
   rfl
  | succ r ih=>
   intro i hi
   have hlt:decide ((i:Int)<97)=true:=by simp;omega
   have hc:Nat.ble ((List.replicate i z).length+([z] :Hu Hs).length) z7w=true:=u0r (by simp;omega)
   rw[r4z]
   simp only[s1y,hlt,Ad,hz,zOb,hc]
   rw[y7l (by omega)]
   have e:List.replicate i z++ [z] =List.replicate (i+1) z:=by rw[List.replicate_succ']
   rw[e]
   exact ih (i+1) (by omega)
 have e1:t0o ((97:Int),([], []),([], []),0)=_:=key 97 0 rfl
 have hs:u81 ()=some 97:=by rw[s84];rfl
 refine⟨(List.replicate 97 z, []),?_,?_⟩
 ·rw[p8b];unfold q3p
  simp only[hs,zOb]
  rw[p4n];unfold r98
  have hi:r0x 97 1 100=true:=rfl
  simp only[s0v,hi,zOb,Ap,Aa,e1]
 ·have hk:u1y (List.replicate 97 z,([] :Hu (Int×Hs)))=true:=p6e.mpr ⟨by simp,by simp,fun s hs=>by rw[List.eq_of_mem_replicate hs];exact hz1,fun p hp=>by cases hp⟩
  have hl:(List.replicate 97 z,([] :Hu (Int×Hs))).1.length=97:=by simp
  have hf:=r1c hk hl
  have hc:∀a:Int,a=0∨a=1→u0x (List.replicate 97 z, []) a=0:=fun a ha=>by
   obtain⟨f1,_⟩:=u8q ha
   unfold u0x u3s
   rw[o9r.mpr ha,Al rfl]
   have hk2:u0f a=(((u0f a).toNat:Nat):Int):=by rcases ha with rfl | rfl<;>omega
   rw[hk2,o3y rfl (by rw[hl];rcases ha with rfl | rfl<;>omega)]
   have hlt:(u0f a).toNat<(List.replicate 97 z).length:=by simp;rcases ha with rfl | rfl<;>omega
   have e:rdL Ty.str (List.replicate 97 z) (u0f a).toNat=(List.replicate 97 z)[(u0f a).toNat] :=y8k (t:=Ty.str) hlt
   simp only[e,List.getElem_replicate]
   rw[q53,hz2]
   rfl
  refine⟨q45 hk hl rfl ?_ ?_,?_⟩
  ·rw[u97 hf (.inl rfl),hc 0 (.inl rfl)];rfl
  ·rw[u97 hf (.inr rfl),hc 1 (.inr rfl)];rfl
  ·unfold u0g
   rw[u97 hf (t7m _),hc _ (t7m _)];rfl
theorem o7b:∃d,t9e ()=some d∧u2g d=true:=by
 obtain⟨d,h1,h2,_⟩:=p0m
 exact⟨d,h1,h2⟩
end
section
theorem t2i {d:u0i} (h:u2g d=true):d0s.wt d≤10000000:=A9 (u3d (u44 h).1) (by omega)
theorem o0i {d:u0i} (h:u2g d=true) (t:Hs):u2g (orD d (append_ d t)).1=true:=by
 cases ha:append_ d t with
 | none=>exact h
 | some y=>exact(p56 ha).2.1
theorem p9i {t:Hs} (h:t.size≤100):(u0q t).size≤201:=by
 have:=t3f t
 omega
theorem o6i {d:u0i} (h:u2g d=true) {t:Hs} (h0:t.size≠0) (h1:t.size≤100):∃x y,s85 d [t] =some x∧s2m d [t] =some y∧u2g y=true∧u0g y= [t] :=by
 have hs:=p9i h1
 obtain⟨x,x1,x2,x3,x4,x5⟩:=p8z (l:= [t]) h (by simp) (by simp[o2c];omega) (fun u hu=>by simp at hu;subst hu;exact⟨h0,by omega⟩)
 obtain⟨y,y1,y2,y3,_⟩:=q6r x1 x2 x3 x4 x5 h
 exact⟨x,y,x1,y1,y2,y3⟩
theorem j3y {s:Src} (h:s.ok):∃(d:u0i) (s' :Src),s3m s=some (d,s')∧s'.ok∧u2g d=true:=by
 have key:∀(r i:Nat) (s:Src) (d:u0i),s.ok→u2g d=true→6≤i+r→i≤5→ ∃(s' :Src) (d' :u0i),t20 (s,([], []),d,(i:Int))=some (.inl (s',([], []),d'))∧s'.ok∧u2g d' =true:=by
  intro r
  induction r with
  | zero=>intro i s d _ _ h1 h2;omega
  | succ r ih=>
   intro i s d hs hd hr hi
   obtain⟨y,s1,e1,k1,r1⟩:=u2k hs (n:=6) (by omega)
   rw[p3m]
   simp only[s3w,e1,zOb]
   by_cases hy:(i:Int)<y
   ·obtain⟨y2,s2,e2,k2,_⟩:=r00 k1 (n:=5) (by omega)
    simp only[hy,Ae,Ad,e2,zOb]
    have hw:=t2i hd
    cases y2 with
    | true=>
     obtain⟨y3,s3,e3,k3,r3⟩:=u2k k2 (n:=9) (by omega)
     obtain⟨n,hn⟩:∃n:Nat,(n:Int)=1+y3:=⟨(1+y3).toNat,by omega⟩
     have w1:IntKind.i64.wrap ((1:Int)+y3)=(n:Int):=by rw[y4y (by omega) (by omega)];omega
     obtain⟨t,s4,e4,k4,r4⟩:=o7i k3 (n:=n) (by omega)
     obtain⟨x,z,z1,z2,z3,_⟩:=o6i hd (t:=t) (by omega) (by omega)
     have hsw:=r9i (l:= [t]) hw (by simp) (fun u hu=>by simp at hu;subst hu;omega)
     simp only[Ad,e3,w1,e4,zOb,hsw,z2,orD]
     rw[y7l (by omega)]
     exact ih (i+1) s4 z k4 z3 (by omega) (by omega)
    | false=>
     obtain⟨y3,s3,e3,k3,r3⟩:=u2k k2 (n:=90) (by omega)
     obtain⟨n,hn⟩:∃n:Nat,(n:Int)=1+y3:=⟨(1+y3).toNat,by omega⟩
     have w1:IntKind.i64.wrap ((1:Int)+y3)=(n:Int):=by rw[y4y (by omega) (by omega)];omega
     obtain⟨t,s4,e4,k4,r4⟩:=o7i k3 (n:=n) (by omega)
     simp only[Aa,e3,w1,e4,zOb,s7i d t hw (by omega)]
     rw[y7l (by omega)]
     exact ih (i+1) s4 _ k4 (o0i hd t) (by omega) (by omega)
   ·simp only[hy,Ah,Aa]
    exact⟨s1,d,rfl,k1,hd⟩
 obtain⟨d0,hd0,hl0⟩:=o7b
 obtain⟨s',d',e1,k1,r1⟩:=key 6 0 s d0 h hl0 (by omega) (by omega)
 have e1:t20 (s,([], []),d0,0)=_:=e1
 have hX:s3m s=some (d',s'):=by
  rw[p8m];unfold q30
  simp only[hd0,zOb,e1]
 exact⟨d',s',hX,k1,r1⟩
end
section
theorem q2y (d:u0i) (hd:d0s.wt d≤1073741824):t9f d=some (u0g d):=by
 rw[p11];unfold r6l
 simp only[r0y d (show d0s.wt d≤u0k by unfold u0k;omega),r04 d _ hd,zOb];rfl
theorem s1f {d:u0i} (h:d0s.wt d≤1000000) (s at_:Int) (t:Hs):d0s.wt (orD d (u20 d s at_ t)).1≤1000000:=by
 cases hw:u20 d s at_ t with
 | none=>exact h
 | some x=>exact A9 (u3d (u6k hw).2.1) (by omega)
theorem o2m {d:u0i} (h:d0s.wt d≤1000000) (k:Int) (t:Hs):d0s.wt (orD d (u4j d k t)).1≤1000000:=by
 cases hw:u4j d k t with
 | none=>exact h
 | some x=>exact A9 (u3d (t3h hw).1) (by omega)
theorem o09 {d:u0i} (h:d0s.wt d≤1000000):d0s.wt (flush d)≤1000000:=by
 by_cases hd:u1y d=true
 ·exact A9 (u3d (t7b hd).1) (by omega)
 ·unfold flush
  simp[hd]
  exact h
theorem j30 (n:Int):u95 n=some (t00 n):=by
 rw[r1b];unfold q31
 rfl
theorem o5m {s:Src} (h:s.ok):Dr (r1o s) (fun d=>d0s.wt d≤1000000):=by
 rw[p8l];unfold q3z
 obtain⟨k,s1,e1,k1,r1⟩:=u2k h (n:=10) (by omega)
 obtain⟨x,s2,e2,k2,r2⟩:=u2k k1 (n:=60) (by omega)
 obtain⟨d,s3,e3,k3,hl⟩:=j3y k2
 have hw:d0s.wt d≤1000000:=A9 (u3d (u44 hl).1) (by omega)
 have hlen:=(u44 hl).2.1
 simp only[e1,e2,e3,u8g d (by unfold u0k;omega),zOb]
 by_cases q0:k=0
 ·have hg:(decide ((0:Int)≤0)&&decide ((0:Int)≤x)&&decide (x≤(d.1.length:Int)))=true:=by simp;omega
  simp only[q0,Ae,Ad,hg]
  refine⟨_,_,rfl,k3,?_⟩
  rw[p7r] at hw ⊢
  simp only[Ho,Fh,Nat.sub_zero]
  have:((d.1.take x.toNat).map ByteArray.size).sum≤(d.1.map ByteArray.size).sum:=by
   have e:=Dj (fun l=>(l.map ByteArray.size).sum) (En x.toNat d.1)
   simp only[Dh,Fn] at e
   omega
  have:(d.1.take x.toNat).length≤d.1.length:=by simp;omega
  omega
 ·by_cases q1:k=1
  ·simp only[q0,q1,Ae,Ah,Ad,Aa,t5d,j30,t22 d _ _ (t00 x) (by omega) (by rw[u2d];omega),t1f _ (show d0s.wt (orD d (u20 d (u0f (Int.tmod x 2)) 0 (t00 x))).1≤1073741824 from A9 (s1f hw _ _ _) (by omega)),zOb]
   exact⟨_,_,rfl,k3,o09 (s1f hw _ _ _)⟩
  ·by_cases q2:k=2
   ·obtain⟨t,e4,h4⟩:=o2z 64 (IntKind.u8.wrap x) (by omega)
    have e4:u6s ((64:Int),IntKind.u8.wrap x)=_:=e4
    simp only[q0,q1,q2,Ae,Ah,Ad,Aa,e4,r2c d _ t (by omega) (by omega),zOb]
    exact⟨_,_,rfl,k3,o2m hw _ _⟩
   ·by_cases q3:k=3
    ·simp only[q0,q1,q2,q3,Ae,Ah,Ad,Aa,t22 d _ _ (⟨#[255,255]⟩:Hs) (by omega) (by show 2≤1048576;omega),t1f _ (show d0s.wt (orD d (u20 d 2 0 ⟨#[255,255]⟩)).1≤1073741824 from A9 (s1f hw _ _ _) (by omega)),zOb]
     exact⟨_,_,rfl,k3,o09 (s1f hw _ _ _)⟩
    ·simp only[q0,q1,q2,q3,Ah,Aa]
     exact⟨_,_,rfl,k3,hw⟩
theorem q2j (a:Hu Hs) (ha:a.length≤u0k):s2e (a,a)=some true:=by
 rw[q9i];unfold r2v
 have L:=s11 t2c a (fun i=>(a,a,i)) (fun p=> !z7o p p) (.inr false) (.inl ())
  (by rw[s7a];simp only[t1z,u0b,Am,Ah,Aa])
  (fun i hi=>by
   rw[s7a];simp only[t1z,u0b,hi,Ae,Ad,y7t hi,zTn,y8k (t:=Ty.str) hi]
   unfold u0k at ha
   rw[y7l (by omega)])
 have hn:(a.any fun p=> !z7o p p)=false:=by
  rw[Ct];intro x _;simp[z7o]
 rw[hn] at L
 simp only[Ae,Ap,Aa,L,zOb]
theorem q44 (d:u0i) (h:d0s.wt d≤1000000000):s4z (d,d)=some true:=by
 rw[p1w];unfold r6g
 have h1:=t01 (d:=d)
 have h2:=t26 (d:=d)
 have L:=s11 t4h d.2 (fun i=>(d,d,i)) (fun p=> !(decide (p.1=p.1)&&(z7o p.2 p.2&&true))) (.inr false) (.inl ())
  (by rw[r0g];simp only[t3t,u0b,Am,Ah,Aa])
  (fun i hi=>by
   rw[r0g];simp only[t3t,u0b,hi,Ae,Ad,y7t hi,zTn,y8k (t:=o4j) hi]
   rw[y7l (by omega)])
 have hn:(d.2.any fun p=> !(decide (p.1=p.1)&&(z7o p.2 p.2&&true)))=false:=by
  rw[Ct];intro x _;simp[z7o]
 rw[hn] at L
 simp only[q2j d.1 (by unfold u0k;omega),zOb,Ap,Aa,Ae,L]
end
section
theorem o7c (b:u0j) (r:s5w) (hB:BaseR b) (hR:RecR r):s79 (b,r)=some (match u18 b r with
 | some x=>(x,true)
 | none=>(b,false)):=by
 have hb:=hB.tiny
 have thr:∀t:u0h,TxnR t→u6p (b,t)=some (u1n b t):=fun t ht=>by
  rw[q7l b t hb.few ht.tiny.few,p3h (p2y hB.cs) (q2l ht.id)]
 rw[p5g];unfold q02 u18
 cases hR with
 | thr t h hs=>
  simp only[Ae,Ad,Bl]
  rw[s3p (p2y hB.cs),thr t h]
  by_cases q:t.2.2.2.1=b.2.2.2.1+1
  ·rw[Bb q,Al q];rfl
  ·rw[A7 q,Ao q];rfl
 | rdy t h hs=>
  simp only[show decide ((2:Int)=1)=false from rfl,show((2:Int)=1)=False by simp,Ae,Ah,Ad,Aa,Bl,Bk]
  rw[s1g b _ (by have:=hB.rlen;omega)]
  simp only[zOb]
  rw[r9e b t _ hb.few h.tiny.few (q2l h.id)]
  simp only[zOb]
  by_cases q:b.2.2.1.length<3
  ·rw[A7 (show ¬(b.2.2.1.length:Int)≥3 by omega)]
   simp only[Aa,zOb]
   by_cases q2:u0p b t.2.2.2.2.2.2.2<0
   ·rw[A7 (show ¬u0p b t.2.2.2.2.2.2.2≥0 by omega),Al ⟨q,q2⟩];rfl
   ·rw[Bb (show u0p b t.2.2.2.2.2.2.2≥0 by omega),Ao (fun z=>q2 z.2)];rfl
  ·rw[Bb (show(b.2.2.1.length:Int)≥3 by omega),Ao (fun z=>q z.1)];rfl
 | fin n y h=>
  simp only[show decide ((3:Int)=1)=false from rfl,show decide ((3:Int)=2)=false from rfl,show((3:Int)=1)=False by simp,show((3:Int)=2)=False by simp,Ae,Ah,Ad,Aa,Bl,Bk]
  rw[s1g b _ (by have:=hB.rlen;omega)]
  simp only[zOb]
  by_cases q:u0p b n<0
  ·rw[Bb q,Al q];rfl
  ·rw[A7 q,Ao q]
   simp only[Aa]
   rw[q7d b n hb.few]
   simp only[zOb]
   have hk:(u0p b n).toNat<b.2.2.1.length:=by
    unfold u0p at q ⊢
    split
    ·rename_i z;rw[zTn];exact z
    ·rename_i z;rw[Ao z] at q;omega
   obtain⟨k,hkk⟩:∃k:Nat,u0p b n=k:=⟨(u0p b n).toNat,by omega⟩
   have hg:y4q (u0p b n) b.2.2.1.length=true:=by rw[hkk];exact y7t (by rw[hkk] at hk;simpa using hk)
   have hT:TxnR (rdL u00 b.2.2.1 (u0p b n).toNat):=by
    rw[y8k hk];exact(hB.ready _ (Ag hk)).1
   rw[hg,thr _ hT]
   cases y
   ·rfl
   ·rfl
 | bas c h=>
  simp only[show decide ((4:Int)=1)=false from rfl,show decide ((4:Int)=2)=false from rfl,show decide ((4:Int)=3)=false from rfl,show((4:Int)=1)=False by simp,show((4:Int)=2)=False by simp,show((4:Int)=3)=False by simp,Ah,Aa,Bk]
  rw[t7t c h.tiny.few];rfl
theorem o98 {b:u0j} {r:s5w} {x:u0j} (hB:BaseR b) (hR:RecR r) (h:u18 b r=some x):tinyB x:=by
 unfold u18 at h
 cases hR with
 | thr t ht hs=>
  simp only[Bl] at h
  split at h
  ·rw[←Ds h];exact s61 hB ht.tiny
  ·cases h
 | rdy t ht hs=>
  simp only[show((2:Int)=1)=False by simp,Bl,Bk] at h
  split at h
  ·rw[←Ds h];exact q63 hB ht.tiny (by have:=u29 (ht.name hs);omega)
  ·cases h
 | fin n y hn=>
  simp only[show((3:Int)=1)=False by simp,show((3:Int)=2)=False by simp,Bl,Bk] at h
  split at h
  ·cases h
  ·rename_i q
   have hk:(u0p b n).toNat<b.2.2.1.length:=by
    unfold u0p at q ⊢
    split
    ·rename_i z;rw[zTn];exact z
    ·rename_i z;rw[Ao z] at q;omega
   split at h
   ·rw[←Ds h]
    refine s61 hB ?_
    rw[y8k hk];exact(hB.ready _ (Ag hk)).1.tiny
   ·rw[←Ds h];exact q6u hB.tiny
 | bas c hc=>
  simp only[show((4:Int)=1)=False by simp,show((4:Int)=2)=False by simp,show((4:Int)=3)=False by simp,Bk] at h
  rw[←Ds h];exact hc.tiny
theorem o23 (b:u0j) (r:s5w) (hb:tinyB b) (hr:tinyR r):r1m (b,r)=some (s3g b r):=by
 have hq:u0k=1099511627776:=rfl
 rw[p8e];unfold q3s
 simp only
 rw[t9y b (by have:=hb.wt;omega),q20 r hr.wt,t7t b hb.few]
 simp only[zOb]
 cases h1:u63 b
 ·unfold s3g u65
  rw[Ao (by simp[h1])];rfl
 ·cases h2:u6j r
  ·unfold s3g u65
   rw[Ao (by simp[h2])];rfl
  ·have hB:=p6a.mp h1
   have hR:=j06.mp h2
   simp only[Ap,Aa,zOb]
   rw[o7c b r hB hR]
   simp only[zOb]
   unfold s3g u65
   rw[Al ⟨h1,h2⟩]
   cases hx:u18 b r with
   | none=>rfl
   | some x=>
    have h3:=o98 hB hR hx
    simp only[Ap,Aa]
    rw[r06 _ _ h3.few (by simp)]
    simp only[zOb]
    rw[t9y _ (by have:=(s0b h3 []).wt;omega)]
    simp only[zOb]
    cases u63 (u34 x [])<;>rfl
theorem p85 {b x:u0j} {r:s5w} (h:u65 b r=some x):BaseR x∧RecR r:=by
 unfold u65 at h
 split at h
 ·rename_i q
  split at h
  ·cases h
  ·split at h
   ·rename_i z
    rw[←Ds h]
    exact⟨p6a.mp z,j06.mp q.2⟩
   ·cases h
 ·cases h
theorem p6t (t:Hs):tinyR (t5x t).1:=by
 unfold t5x
 cases h:u4m t with
 | none=>exact o9y
 | some r=>exact(q5c h).1.tiny
theorem o4x (b:u0j) (t:Hs) (l:Hu Hs):s1q b (t::l)=bif !(t5x t).2 || !(s3g b (t5x t).1).2 then none else s1q (s3g b (t5x t).1).1 l:=by
 unfold t5x s3g
 simp only[s1q]
 cases u4m t with
 | none=>rfl
 | some r=>
  simp only
  cases u65 b r with
  | none=>rfl
  | some x=>rfl
def logR (l:Hu Hs):u0j×Bool:=match t1p l with
 | some b=>(b,true)
 | none=>(u2t,false)
theorem p93 (d:u0i) (hd:d0s.wt d≤1073741824) (ht:∀t∈u0g d,t.size≤u0k) (hl:(u0g d).length≤1000000):t5l d=some (logR (u0g d)):=by
 have L:=r5k u5y (u0g d).length (fun(b:u0j) i=>(u2t,b,u0g d,((u0g d).length:Int),i)) (fun i b=>match s1q b ((u0g d).drop i) with
  | some x=> .inl (u2t,x)
  | none=> .inr (u2t,false)) (fun _ b=>BaseR b)
  (fun b hb=>by
   rw[r4l];simp only[t54,u0b,Am,Ah,Aa]
   rw[F5];rfl)
  (fun i b hi hb=>by
   have hm:=Ag hi
   have hd:(u0g d).drop i=(u0g d)[i] ::(u0g d).drop (i+1):=Ce hi
   have hw:u5y (u2t,b,u0g d,((u0g d).length:Int),(i:Int))=bif !(t5x (u0g d)[i]).2 || !(s3g b (t5x (u0g d)[i]).1).2 then some (.inr (u2t,false)) else u5y (u2t,(s3g b (t5x (u0g d)[i]).1).1,u0g d,((u0g d).length:Int),((i+1:Nat):Int)):=by
    rw[r4l];simp only[t54,u0b,hi,Ae,Ad,y7t hi,zTn,y8k (t:=Ty.str) hi,y7l (show i<4611686018427387904 by omega)]
    rw[p0o _ (ht _ hm)]
    simp only[zOb]
    rw[o22 b _ hb.tiny (p6t _)]
    simp only[zOb]
    cases (t5x (u0g d)[i]).2<;>cases (s3g b (t5x (u0g d)[i]).1).2<;>rfl
   rw[hw,hd,o4x]
   cases hc:(!(t5x (u0g d)[i]).2 || !(s3g b (t5x (u0g d)[i]).1).2)
   ·refine .inr ⟨(s3g b (t5x (u0g d)[i]).1).1,?_,?_,rfl⟩
    ·unfold s3g at hc ⊢
     cases hp:u65 b (t5x (u0g d)[i]).1 with
     | none=>rw[hp] at hc;simp at hc
     | some x=>exact(p85 hp).1
    ·simp only[Aa]
   ·exact .inl rfl) 0 p9t (Cn _) o1j
 rw[p33];unfold r9o
 rw[p3y];unfold r9j
 rw[p7a d hd]
 simp only[zOb]
 have L' :u5y ((([], [], [],0,0):u0j),(([], [], [],0,1):u0j),u0g d,((u0g d).length:Int),0)=_:=L
 rw[L',Fh]
 unfold logR t1p
 cases s1q p9t (u0g d)<;>rfl
theorem p94 (d:u0i) (hd:d0s.wt d≤1073741824) (ht:∀t∈u0g d,t.size≤u0k) (hl:(u0g d).length≤1000000):t1j d=some (logR (u0g d)):=by
 have L:=r5k u5z (u0g d).length (fun(b:u0j) i=>(u2t,b,u0g d,i)) (fun i b=>match s1q b ((u0g d).drop i) with
  | some x=> .inl (u2t,x)
  | none=> .inr (u2t,false)) (fun _ b=>BaseR b)
  (fun b hb=>by
   rw[r43];simp only[t6l,u0b,Am,Ah,Aa]
   rw[F5];rfl)
  (fun i b hi hb=>by
   have hm:=Ag hi
   have hd:(u0g d).drop i=(u0g d)[i] ::(u0g d).drop (i+1):=Ce hi
   have hw:u5z (u2t,b,u0g d,(i:Int))=bif !(t5x (u0g d)[i]).2 || !(s3g b (t5x (u0g d)[i]).1).2 then some (.inr (u2t,false)) else u5z (u2t,(s3g b (t5x (u0g d)[i]).1).1,u0g d,((i+1:Nat):Int)):=by
    rw[r43];simp only[t6l,u0b,hi,Ae,Ad,y7t hi,zTn,y8k (t:=Ty.str) hi,y7l (show i<4611686018427387904 by omega)]
    rw[p0p _ (ht _ hm)]
    simp only[zOb]
    rw[o23 b _ hb.tiny (p6t _)]
    simp only[zOb]
    cases (t5x (u0g d)[i]).2<;>cases (s3g b (t5x (u0g d)[i]).1).2<;>rfl
   rw[hw,hd,o4x]
   cases hc:(!(t5x (u0g d)[i]).2 || !(s3g b (t5x (u0g d)[i]).1).2)
   ·refine .inr ⟨(s3g b (t5x (u0g d)[i]).1).1,?_,?_,rfl⟩
    ·unfold s3g at hc ⊢
     cases hp:u65 b (t5x (u0g d)[i]).1 with
     | none=>rw[hp] at hc;simp at hc
     | some x=>exact(p85 hp).1
    ·simp only[Aa]
   ·exact .inl rfl) 0 p9t (Cn _) o1j
 rw[p4r];unfold q0c
 rw[q1a];unfold r95
 rw[q2y d hd]
 simp only[zOb]
 have L' :u5z ((([], [], [],0,0):u0j),(([], [], [],0,1):u0j),u0g d,0)=_:=L
 rw[L',Fh]
 unfold logR t1p
 cases s1q p9t (u0g d)<;>rfl
end
section
def txP (t:u0h):Hs×Bool:=if u60 t=true then(t1c t,true) else(emp,false)
def s2l (l m:Hu u0h):Bool:=decide (l.map txP=m.map txP)
theorem o91 (a b:Hs×Bool):(bif a.2==b.2 then z7o a.1 b.1 else false)=decide (a=b):=by
 obtain⟨a1,a2⟩:=a
 obtain⟨b1,b2⟩:=b
 rw[Cd,Ar,Ak]
 cases a2<;>cases b2<;>simp[y7f]
theorem o7z {l m:Hu u0h} (h:l.length=m.length):((List.range l.length).all fun i=>decide (txP (rdL u00 l i)=txP (rdL u00 m i)))=s2l l m:=by
 unfold s2l
 rw[Cd,Bg,Ar]
 constructor
 ·intro k
  apply Gw (by simp[h])
  intro i h1 h2
  rw[F6,F6]
  rw[Da] at h1 h2
  have:=k i (Bq.mpr h1)
  rw[Ar,y8k h1,y8k h2] at this
  exact this
 ·intro k i hi
  have h1:=Bq.mp hi
  have h2:i<m.length:=by omega
  rw[Ar,y8k h1,y8k h2]
  have e:(l.map txP)[i]'(by simpa using h1)=(m.map txP)[i]'(by simpa using h2):=by simp only[k]
  rwa [F6,F6] at e
theorem o3z {l m:Hu u0h} (h:l.length≠m.length):s2l l m=false:=by
 unfold s2l
 rw[Bu]
 intro e
 have:=Dj List.length e
 rw[Da,Da] at this
 exact h this
theorem p54 (l m:Hu u0h) (hl:l.length≤1000) (h1:∀t∈l,tinyT t) (h2:∀t∈m,tinyT t):u1t (l,m,())=some (s2l l m):=by
 rw[t1m];unfold u41
 simp only
 by_cases h:l.length=m.length
 ·have L:=t2s u1k l.length (fun i=>(m,(),l,(l.length:Int),i)) (fun i=>decide (txP (rdL u00 l i)=txP (rdL u00 m i))) (.inl ()) (.inr false)
   (by rw[u4i];simp only[u1j,u0b,Am,Ah,Aa])
   (fun i hi=>by
    have hm1:rdL u00 l i∈l:=by rw[y8k hi];exact Ag hi
    have hi2:i<m.length:=by omega
    have hm2:rdL u00 m i∈m:=by rw[y8k hi2];exact Ag hi2
    have k1:=s1h (rdL u00 l i) (by have:=(h1 _ hm1).wt;omega)
    have k2:=s1h (rdL u00 m i) (by have:=(h2 _ hm2).wt;omega)
    rw[u4i];simp only[u1j,u0b,hi,Ae,Ad,y7t hi,y7t hi2,zTn,y7l (show i<4611686018427387904 by omega)]
    rw[p1u];unfold r6e
    simp only
    rw[k1,k2]
    simp only[zOb]
    rw[←o91]
    unfold txP
    generalize (if u60 (rdL u00 l i)=true then(t1c (rdL u00 l i),true) else(emp,false))=a
    generalize (if u60 (rdL u00 m i)=true then(t1c (rdL u00 m i),true) else(emp,false))=b
    cases a.2==b.2
    ·rfl
    ·simp only[Ad,zOb]
     cases z7o a.1 b.1<;>rfl)
  rw[o7z h] at L
  rw[L,Bb (show(l.length:Int)=(m.length:Int) by omega)]
  cases s2l l m<;>rfl
 ·rw[A7 (show ¬(l.length:Int)=(m.length:Int) by omega),o3z h];rfl
end
section
theorem o9d (n:Nat) (hn:n≤1099511627776):u67 ((),(n:Int))=some [] :=by
 rw[s5r];unfold t40
 have e0:IntKind.i64.wrap ((0:Int) - (0:Int))=0:=by rw[y4y (by omega) (by omega)];rfl
 have e1:IntKind.i64.wrap ((n:Int) - 0)=(n:Int):=by rw[y4y (by omega) (by omega)];omega
 have e2:decide ((n:Int)<0)=false:=A7 (by omega)
 simp only[e0,e1,e2,Aa]
 by_cases h:n=0
 ·subst h;simp
 ·have e3:decide ((n:Int) >0)=true:=by simp;omega
  have e4:(decide ((1:Int)≤(n:Int))&&decide ((n:Int)≤1099511627776))=true:=by simp;omega
  simp only[e3,e4,Ad]
  simp
theorem o5i (ls:Hu (Hu u2b)) (h:ls.flatten.length≤1099511627776) (hn:ls.length≤1099511627776):u6h ls=some ls.flatten:=by
 have fl:∀(i:Nat),i≤ls.length→(ls.take i).flatten.length≤ls.flatten.length:=fun i _=>by
  have:=En i ls
  have h2:ls.flatten=(ls.take i).flatten++(ls.drop i).flatten:=by rw[←Ga,this]
  rw[h2,Ba];omega
 have st:∀(i:Nat) (hi:i<ls.length),(ls.take (i+1)).flatten=(ls.take i).flatten++ls[i] :=fun i hi=>by
  rw[Gm,A4 hi,Ga];simp
 have L1:=r5k u2c ls.length (fun(n:Nat) i=>(ls,(n:Int),ls,(ls.length:Int),i)) (fun _ _=> .inl (ls,(ls.flatten.length:Int))) (fun i n=>n=(ls.take i).flatten.length)
  (fun n hP=>by
   rw[Cq] at hP;subst hP
   rw[u9f];simp only[u27,u0b,Am,Ah,Aa])
  (fun i n hi hP=> .inr ⟨(ls.take (i+1)).flatten.length,rfl,rfl,by
   have h1:=fl (i+1) (by omega)
   have h2:(ls.take (i+1)).flatten.length=n+ls[i].length:=by rw[st i hi,Ba,hP]
   have e1:IntKind.i64.wrap ((n:Int)+((ls[i].length:Nat):Int))=((n+ls[i].length:Nat):Int):=by rw[y4y (by omega) (by omega)];omega
   have e2:decide (((n+ls[i].length:Nat):Int)<0)=false:=by simp;omega
   rw[u9f];simp only[u27,u0b,hi,Ae,Ad,y7t hi,zTn,y8k (t:=Ty.sl u0e) hi,y7l (show i<4611686018427387904 by omega),h2]
   rw[e1,e2];rfl⟩) 0 0 (by omega) rfl
 have L2:=r5k u17 ls.length (fun(a:Hu u2b) i=>(a,ls,(ls.length:Int),i)) (fun _ _=> .inl ls.flatten) (fun i a=>a=(ls.take i).flatten)
  (fun a hP=>by
   rw[Cq] at hP;subst hP
   rw[u82];simp only[u2x,u0b,Am,Ah,Aa])
  (fun i a hi hP=> .inr ⟨(ls.take (i+1)).flatten,rfl,rfl,by
   have h1:=fl (i+1) (by omega)
   have h2:(ls.take (i+1)).flatten.length=a.length+ls[i].length:=by rw[st i hi,Ba,hP]
   rw[u82];simp only[u2x,u0b,hi,Ae,Ad,y7t hi,zTn,y8k (t:=Ty.sl u0e) hi,y7l (show i<4611686018427387904 by omega)]
   rw[u0r (show a.length+ls[i].length≤1099511627776 by omega),st i hi,hP];rfl⟩) 0 [] (by omega) rfl
 rw[s3d];unfold t2g
 have L1' :u2c (ls,(0:Int),ls,(ls.length:Int),0)=some (.inl (ls,(ls.flatten.length:Int))):=L1
 have L2' :u17 ([],ls,(ls.length:Int),0)=some (.inl ls.flatten):=L2
 simp only[L1',zOb,o9d _ h,L2']
def j96:s5p:=((⟨#[97]⟩:Hs),(⟨#[122,122,122]⟩:Hs))
def q8l (a b:Hu u2b) (s:Int):Bool:=decide (o1y a j96 s=o1y b j96 s)
def q5e (a b:Hu u2b) (s:Int):Bool:=q8l a b s&&(a++b).all fun v=>decide (v.2.2.2≤s) || q8l a b v.2.2.2
def likeP (a b:u0j):Bool:=decide (a.2.2.2.1=b.2.2.2.1)&&(s2l a.2.1 b.2.1&&(s2l a.2.2.1 b.2.2.1&&q5e a.1 b.1 a.2.2.2.1))
theorem p28 (a b:Hu u2b) (s:Int) (ha:a.length≤10000) (hb:b.length≤10000):t4p (s,(a,b))=some (q8l a b s):=by
 rw[q6a];unfold s8i
 rw[p4f];unfold r90
 simp only[zOb]
 rw[p0q a _ s (by omega),p0q b _ s (by omega)]
 simp only[zOb]
 rw[o5p _ _ (by have:=o6f a ((⟨#[97]⟩:Hs),(⟨#[122,122,122]⟩:Hs)) s;omega)]
 rfl
theorem p7b (a b:Hu u2b) (s:Int) (ha:a.length≤10000) (hb:b.length≤10000):s4s (a,b,s)=some (q5e a b s):=by
 have hC:=o5i [a,b] (by simp only[List.flatten_cons,List.flatten_nil,Bw,Ba];omega) (by simp)
 rw[show[a,b].flatten=a++b by simp] at hC
 have hl:(a++b).length≤20000:=by rw[Ba];omega
 generalize hg:a++b=g at hC hl
 have L:=t2s t4c g.length (fun i=>(s,(a,b),g,(g.length:Int),i)) (fun i=>(fun v:u2b=>decide (v.2.2.2≤s) || q8l a b v.2.2.2) (rdL u0e g i)) (.inl (s,(a,b))) (.inr false)
  (by rw[r0a];simp only[t3n,u0b,Am,Ah,Aa])
  (fun i hi=>by
   rw[r0a];simp only[t3n,u0b,hi,Ae,Ad,y7t hi,zTn,y7l (show i<4611686018427387904 by omega),q41 (rdL u0e g i).2.2.2 s]
   rw[p28 a b _ ha hb]
   cases decide ((rdL u0e g i).2.2.2≤s)
   ·cases q8l a b (rdL u0e g i).2.2.2<;>rfl
   ·rfl)
 rw[s1i (t:=u0e) g (fun v:u2b=>decide (v.2.2.2≤s) || q8l a b v.2.2.2)] at L
 rw[p1k];unfold r55
 simp only
 rw[hC]
 simp only[zOb]
 rw[L]
 unfold q5e
 rw[hg]
 cases g.all fun v:u2b=>decide (v.2.2.2≤s) || q8l a b v.2.2.2
 ·simp
 ·simp only[Ad,zOb,Cz]
  rw[p28 a b _ ha hb];rfl
theorem p91 (a b:u0j) (ha:tinyB a) (hb:tinyB b):t86 (a,b)=some (likeP a b):=by
 rw[p1f];unfold r50 likeP
 simp only
 rw[p54 _ _ ha.pl ha.ps hb.ps,p54 _ _ ha.rl ha.rs hb.rs,p7b _ _ _ ha.vl hb.vl]
 simp only[zOb]
 cases decide (a.2.2.2.1=b.2.2.2.1)<;>cases s2l a.2.1 b.2.1<;>cases s2l a.2.2.1 b.2.2.1<;>rfl
end
section
theorem o1v (t:Hs) (a:Int):(u0o t a).1.size≤20000:=by
 unfold u0o
 split
 ·rename_i hc
  have:=t78 hc.1
  simp only[Bd];omega
 ·exact Cn _
theorem q74 (t:Hs):∀(m:Nat) (a:Int) (acc:Hu Hs),(∀s∈acc,s.size≤20000)→ ∀s∈(u6n t m a acc).1,s.size≤20000
 | 0,a,acc,h=>h
 | m+1,a,acc,h=>by
  unfold u6n
  split
  ·refine q74 t m _ _ fun s hs=> ?_
   rcases Ay.mp hs with q | q
   ·exact h s q
   ·rw[Ax.mp q];exact o1v _ _
  ·intro s hs;cases hs
theorem p5s (d:u0i) (a:Int):∀s∈(u0c d a).1,s.size≤20000:=by
 unfold u0c
 split
 ·exact q74 _ _ _ _ fun s hs=>by cases hs
 ·intro s hs;cases hs
theorem q1o (d:u0i):∀s∈u0g d,s.size≤20000:=p5s d _
theorem q8f (d:u0i):(u0g d).length<256:=o1t d _
theorem p95 (d:u0i) (hd:d0s.wt d≤1073741824):t5l d=some (logR (u0g d)):=
 p93 d hd (fun t ht=>by have:=q1o d t ht;unfold u0k;omega) (by have:=q8f d;omega)
theorem q51 (d:u0i) (hd:d0s.wt d≤1073741824):t1j d=some (logR (u0g d)):=
 p94 d hd (fun t ht=>by have:=q1o d t ht;unfold u0k;omega) (by have:=q8f d;omega)
theorem o42:∀ {l:Hu Hs} {b x:u0j},BaseR b→s1q b l=some x→BaseR x
 | [],b,x,hb,h=>by rw[←Ds h];exact hb
 | t::l,b,x,hb,h=>by
  simp only[s1q] at h
  split at h
  ·cases h
  ·split at h
   ·cases h
   ·rename_i r _ y hy
    exact o42 (p85 hy).1 h
theorem o1o {l:Hu Hs} {x:u0j} (h:t1p l=some x):BaseR x:=o42 o1j h
theorem p2w (l:Hu Hs):tinyB (logR l).1:=by
 unfold logR
 cases h:t1p l with
 | none=>exact t1l
 | some b=>exact(o1o h).tiny
def storeOk (s:u3a×u0i):Bool:=o04 s.1&&(u2g s.2&&((logR (u0g s.2)).2&&likeP (logR (u0g s.2)).1 (u34 s.1.1 [])))
end
section
theorem o9f {y:Hs} (h:y∈K5):u66 y=true:=by
 simp only[K5,A8,Ep,Em] at h
 rcases h with rfl | rfl | rfl | rfl | rfl<;>decide
theorem p69 {s:Src} (h:s.ok):Dr (u4g s) (fun y=>y∈K5):=by
 rw[q4v];unfold r07
 obtain⟨y,s1,e1,k1,r1⟩:=q17 h (l:=K5) (by decide)
 have e1:u2a (s, [(⟨#[97]⟩:Hs),(⟨#[98]⟩:Hs),(⟨#[99]⟩:Hs),(⟨#[100]⟩:Hs),(⟨#[97,98]⟩:Hs)])=_:=e1
 simp only[e1,zOb]
 exact⟨_,_,rfl,k1,r1⟩
def d0a (r:s5p):Prop:=r.1∈K5∧r.2∈K5∧u25 r=true
theorem o3s {a b:Hs} (ha:a∈K5) (hb:b∈K5) (h:y3c b a=false):d0a (a,b):=by
 refine⟨ha,hb,?_⟩
 unfold u25
 simp only[o9f ha,o9f hb,Bz,Cr]
 rcases q2q a b with q | rfl | q
 ·exact .inl q
 ·exact .inr (by simp[z7o])
 ·rw[q] at h;cases h
theorem o7d {s:Src} (h:s.ok):Dr (u5l s) d0a:=by
 rw[r67];unfold s35
 obtain⟨y1,s1,e1,k1,r1⟩:=p69 h
 obtain⟨y2,s2,e2,k2,r2⟩:=r00 k1 (n:=2) (by omega)
 obtain⟨y3,s3,e3,k3,r3⟩:=p69 k2
 simp only[e1,e2,e3,zOb]
 cases y2 with
 | true=>exact⟨_,_,rfl,k2,o3s r1 r1 (t1r _)⟩
 | false=>
  simp only[Aa]
  cases hc:y3c y3 y1 with
  | true=>exact⟨_,_,rfl,k3,o3s r3 r1 (r1x hc)⟩
  | false=>exact⟨_,_,rfl,k3,o3s r1 r3 hc⟩
def d0y (w:WrT):Prop:=w.1∈K5∧u26 w=true
theorem o0g {s:Src} (h:s.ok):Dr (u4h s) d0y:=by
 rw[r68];unfold s36
 obtain⟨y1,s1,e1,k1,r1⟩:=p69 h
 obtain⟨y2,s2,e2,k2,r2⟩:=q17 k1 (l:= [(⟨#[111,110,101]⟩:Hs),(⟨#[116,119,111]⟩:Hs),(⟨#[]⟩:Hs),(⟨#[120,0]⟩:Hs)]) (by decide)
 obtain⟨y3,s3,e3,k3,r3⟩:=r00 k2 (n:=5) (by omega)
 simp only[e1,e2,e3,zOb]
 have hz:y2.size≤12:=by
  simp only[A8,Ep,Em] at r2
  rcases r2 with rfl | rfl | rfl | rfl<;>decide
 have hk:=o9f r1
 cases y3 with
 | true=>exact⟨_,_,rfl,k3,r1,by simp[u26,hk,emp,ByteArray.size]⟩
 | false=>exact⟨_,_,rfl,k3,r1,by simp[u26,hk,hz]⟩
theorem o5t {s:Src} (h:s.ok):Dr (t1a s) (fun y=>u4k y=true∧ ∀w∈y,w.1∈K5):=by
 have key:∀(d i:Nat) (s:Src) (a:Hu WrT),s.ok→a.length≤i→4≤i+d→i≤3→u4k a=true→(∀w∈a,w.1∈K5)→
  ∃(s' :Src) (a' :Hu WrT),u38 (s,a,(i:Int))=some (.inl (s',a'))∧s'.ok∧u4k a' =true∧ ∀w∈a',w.1∈K5:=by
  intro d
  induction d with
  | zero=>intro i s a _ _ h1 h2;omega
  | succ d ih=>
   intro i s a hs ha hd hi hr hk
   obtain⟨y,s1,e1,k1,r1⟩:=u2k hs (n:=4) (by omega)
   rw[s7h]
   simp only[t17,e1,zOb]
   by_cases hy:(i:Int)<y
   ·obtain⟨y2,s2,e2,k2,r2,r3⟩:=o0g k1
    have hl:=p87 a y2
    simp only[hy,Ae,Ad,e2,zOb,r02 a y2 (by omega)]
    rw[y7l (by omega)]
    exact ih (i+1) s2 (p3p a y2) k2 (by omega) (by omega) (by omega) (o3u hr r3 (by omega)) (fun w hw=>by
     rcases q48 hw with q | q
     ·exact hk w q
     ·rw[q];exact r2)
   ·simp only[hy,Ah,Aa]
    exact⟨_,_,rfl,k1,hr,hk⟩
 obtain⟨s',a',e1,k1,r1,r2⟩:=key 4 0 s [] h (by simp) (by omega) (by omega) (by decide) (fun w hw=>by cases hw)
 rw[r3c];unfold s12
 have e1:u38 (s, [],0)=_:=e1
 simp only[e1,zOb]
 exact⟨_,_,rfl,k1,r1,r2⟩
end
section
theorem u6t (b:u0j) (o:Hu u0h) (hb:fewB b) (ho:q9y o):u0n (b,o)=some (b,o):=by
 have h1:=t7t b hb
 have h2:=q15 o ho
 rw[p5i];unfold q04
 simp only[h1,h2,zOb]
theorem o5j (b:u0j) (o:Hu u0h) (hb:fewB b) (ho:q9y o):t4r (b,o)=some (b,o):=by
 have h1:=t9z b hb
 have h2:=q14 o ho
 rw[q6e];unfold s8m
 simp only[h1,h2,zOb]
end
section
theorem EngR.ot {e:u3a} (h:EngR e) {t:u0h} (ht:t∈e.2):tinyT t:=(h.open_ t ht).1.tiny
theorem EngR.fewO {e:u3a} (h:EngR e):q9y e.2:=q5g (by have:=h.olen;omega) fun t ht=>h.ot ht
theorem EngR.tinyO {e:u3a} (h:EngR e):tinyB e.1:=h.base.tiny
theorem EngR.fewB {e:u3a} (h:EngR e):Ab.fewB e.1:=h.base.tiny.few
theorem EngR.oth {e:u3a} (h:EngR e):∀t∈s4l e,tinyT t:=fun t ht=>by
 rcases Ay.mp ht with q | q
 ·exact(h.base.past t q).1.tiny
 ·exact(h.base.ready t q).1.tiny
theorem EngR.fewOth {e:u3a} (h:EngR e):q9y (s4l e):=q5g (by have:=h.base.plen;have:=h.base.rlen;simp only[s4l,Ba];omega) h.oth
theorem t7j (e:u3a) (id:Int) (h:e.2.length≤4194304):u6i (e,id)=some (t5j e.2 id):=by
 have L:=r5k t2x (u0s (fun x:u0h=>decide (x.1=id)) e.2) (fun(_:Unit) i=>(id,e,i)) (fun _ _=>if u0s (fun x:u0h=>decide (x.1=id)) e.2<e.2.length then .inr ((u0s (fun x:u0h=>decide (x.1=id)) e.2:Nat):Int) else .inl ()) (fun _ _=>True)
  (fun a _=>by
   have hle:=t72 (fun x:u0h=>decide (x.1=id)) e.2
   rw[r8l]
   by_cases hk:u0s (fun x:u0h=>decide (x.1=id)) e.2<e.2.length
   ·have hy:=u91 hk
    simp only[t2p,u0b,hk,Ae,Ad,y7t hk,zTn,y8k (t:=u00) hk,hy,Bl]
   ·simp only[t2p,u0b,hk,Ah,Aa,Bk])
  (fun i a hi _=> .inr ⟨(),trivial,rfl,by
   have hle:=t72 (fun x:u0h=>decide (x.1=id)) e.2
   have hil:i<e.2.length:=by omega
   have hn:=t1g hil hi
   rw[r8l]
   simp only[t2p,u0b,hil,Ae,Ad,y7t hil,zTn,y8k (t:=u00) hil,hn,Aa]
   rw[y7l (by omega)]⟩) 0 () (Cn _) trivial
 have L:t2x (id,e,0)=_:=L
 rw[p8c];unfold q3q t5j
 simp only[L,zOb]
 by_cases hk:u0s (fun x:u0h=>decide (x.1=id)) e.2<e.2.length
 ·simp only[Al hk]
 ·simp only[Ao hk]
theorem o7o {e:u3a} :(decide ((e.2.length:Int)≥4)= !decide (e.2.length<4))∧(decide (e.1.2.2.2.2≥9999)= !decide (e.1.2.2.2.2<9999)):=by
 constructor
 ·by_cases h:e.2.length<4<;>simp[h] <;>omega
 ·by_cases h:e.1.2.2.2.2<9999<;>simp[h] <;>omega
theorem p5w {e:u3a} (h:EngR e):t3e e=some (s8z e):=by
 have ho:=h.olen
 have hn:=h.base.next
 have h1:=u6t e.1 e.2 h.fewB h.fewO
 have h2:=p67 e (by have:=h.tinyO.wt;have:=p0f (l:=e.2) (by omega) (fun t ht=>h.ot ht);have:=o4s e;omega)
 have h1:u0n e=some e:=h1
 have hk:=j4f.mpr h
 rw[o0u];unfold q7u s8z
 simp only[h1,h2,hk,zOb,Ap,Aa,o7o.1,o7o.2,Aw,u0r (show e.2.length+1≤1099511627776 by omega),Ad]
 by_cases c1:e.2.length<4
 ·by_cases c2:e.1.2.2.2.2<9999
  ·simp only[c1,c2,Ae,Ap,Aa,zOb,and_self,Bl,s3p (n:=e.1.2.2.2.2) (q2l hn)]
   rfl
  ·simp only[c1,c2,Ae,Ah,Ap,Bh,Aa,Ad,zOb,and_false,Bk]
 ·simp only[c1,Ah,Bh,Ad,zOb,false_and,Bk]
theorem d0t (l:Hu s5p) (r:s5p):(l.any fun x=>z7o x.1 r.1&&(z7o x.2 r.2&&true))=j51 l r:=by
 unfold j51;simp only[Cz]
theorem r9f {t:u0h} {r:s5p} (ht:TxnR t) (h1:t.2.1=1) (hr:u25 r=true):t7f (t,r)=some (s5t t r):=by
 have hy:=ht.tiny
 have hw:=hy.wt
 have hl:=ht.rlen
 have c0:=t0a t hy.few
 have c1:=t7w t (by unfold u0k;omega)
 have k:=u29 (s:=r.1) (by unfold u25 at hr;simp only[Ai] at hr;exact hr.1)
 have k' :=u29 (s:=r.2) (by unfold u25 at hr;simp only[Ai] at hr;exact hr.2.1)
 have c2:=r5p r (by unfold u0k;omega) (by unfold u0k;omega)
 have ok:=q5j.mpr ht
 have L:=s11 u7w t.2.2.2.2.1 (fun i=>(t,r,(u4n:u0h),t,i)) (fun x=>z7o x.1 r.1&&(z7o x.2 r.2&&true)) (.inr (t,true)) (.inl (t,r,u4n,t))
  (by rw[s7g];simp only[t16,u0b,Am,Ah,Aa])
  (fun i hi=>by
   rw[s7g]
   simp only[t16,u0b,hi,Ae,Ad,y7t hi,zTn,y8k (t:=t2h) hi]
   rw[y7l (by omega)])
 rw[d0t] at L
 have L:u7w (t,r,((0,0,0,0, [], [],false,(⟨#[]⟩:Hs)):u0h),t,0)=_:=L
 rw[q9q];unfold r23 s5t
 simp only[c0,c1,c2,ok,hr,h1,zOb,Ae,Ap,Aa,L]
 cases j51 t.2.2.2.2.1 r
 ·have e8:decide ((t.2.2.2.2.1.length:Int)≥8)= !decide (t.2.2.2.2.1.length<8):=by by_cases c:t.2.2.2.2.1.length<8<;>simp[c] <;>omega
  simp only[Aa,e8,Br,Bk]
  by_cases c:t.2.2.2.2.1.length<8
  ·simp only[c,Ae,Ap,Aa,Aw,u0r (show t.2.2.2.2.1.length+1≤1099511627776 by omega),Ad,Bl]
   rfl
  ·simp only[c,Ah,Bh,Ad,Bk]
 ·rfl
theorem p9p {l:Hu WrT} {w:WrT} (h:u4k l=true) (hw:u26 w=true):u4k (p3p l w)=decide ((p3p l w).length≤8):=by
 by_cases c:(p3p l w).length≤8
 ·rw[o3u h hw c,Bb c]
 ·rw[A7 c]
  cases q:u4k (p3p l w)
  ·rfl
  ·exact absurd (j08.mp q).2.2 c
theorem p9o {w:WrT} (h:u26 w=true):w.1.size≤3∧w.2.1.size≤12:=by
 unfold u26 at h
 simp only[Ai,Ar] at h
 exact⟨(u29 h.1).2,h.2.1⟩
theorem o8w {l:Hu WrT} (hn:l.length≤1000) (h:∀w∈l,u26 w=true):(Ty.sl u2m).wt l≤20000:=by
 have e:(Ty.sl u2m).wt l=l.length+(l.map u2m.wt).sum:=rfl
 have s:=s92 (f:=u2m.wt) (k:=15) (l:=l) fun w hw=>by
  have:=p9o (h w hw)
  have e:u2m.wt w=w.1.size+(w.2.1.size+0):=rfl
  omega
 omega
theorem o8b {l:Hu WrT} {w:WrT} (h:u4k l=true) (hw:u26 w=true):∀x∈p3p l w,u26 x=true:=fun x hx=>by
 rcases q48 hx with q | q
 ·exact(j08.mp h).1 x q
 ·rw[q];exact hw
theorem p7h {t:u0h} {w:WrT} (ht:TxnR t) (h1:t.2.1=1) (hw:u26 w=true):s46 (t,w)=some (r5i t w):=by
 have hy:=ht.tiny
 have ht8:=(j08.mp ht.ws).2.2
 have hl:=p87 t.2.2.2.2.2.1 w
 have c0:=t0a t hy.few
 have c1:=t7w t (by have:=hy.wt;unfold u0k;omega)
 have c2:=r5t w (by have:=p9o hw;unfold u0k;omega)
 have c3:=r02 t.2.2.2.2.2.1 w (by omega)
 have c4:=q23 (p3p t.2.2.2.2.2.1 w) (by have:=o8w (l:=p3p t.2.2.2.2.2.1 w) (by omega) (o8b ht.ws hw);unfold u0k;omega)
 have ok:=q5j.mpr ht
 rw[p2a];unfold r6v r5i
 simp only[c0,c1,c2,c3,c4,ok,hw,h1,zOb,Ae,Ap,Aa,p9p ht.ws hw]
 by_cases c:(p3p t.2.2.2.2.2.1 w).length≤8
 ·simp only[c,Ae,Ap,Aa,Bl]
  unfold j7h
  rw[h1]
 ·simp only[c,Ah,Bh,Ad,Bk]
end
section
def r7v (t:u0h) (l:Hu u2b) (k:Hs):Hs×Bool:=
 if u0s (fun w:WrT=>z7o w.1 k) t.2.2.2.2.2.1<t.2.2.2.2.2.1.length then
  (if(rdL u2m t.2.2.2.2.2.1 (u0s (fun w:WrT=>z7o w.1 k) t.2.2.2.2.2.1)).2.2=true then(emp,false) else((rdL u2m t.2.2.2.2.2.1 (u0s (fun w:WrT=>z7o w.1 k) t.2.2.2.2.2.1)).2.1,true))
 else q1u l k t.2.2.1
def p21 (t:u0h) (l:Hu u2b) (r:s5p):Hu PrT:=
 ((q6x (l.map (fun v=>v.1)++t.2.2.2.2.2.1.map fun w=>w.1)).filter fun k=>(r7v t l k).2&&inR r k).map fun k=>(k,(r7v t l k).1)
theorem p0n (t:u0h) (l:Hu u2b) (k:Hs) (ht:q5u t) (hl:l.length≤4194304):s3k (t,l,k)=some (r7v t l k):=by
 have h8:=ht.2
 have L:=r5k t2y (u0s (fun w:WrT=>z7o w.1 k) t.2.2.2.2.2.1) (fun(_:Unit) i=>(l,k,t,i)) (fun _ _=>if u0s (fun w:WrT=>z7o w.1 k) t.2.2.2.2.2.1<t.2.2.2.2.2.1.length then .inr (if(rdL u2m t.2.2.2.2.2.1 (u0s (fun w:WrT=>z7o w.1 k) t.2.2.2.2.2.1)).2.2=true then(emp,false) else((rdL u2m t.2.2.2.2.2.1 (u0s (fun w:WrT=>z7o w.1 k) t.2.2.2.2.2.1)).2.1,true)) else .inl (l,k,t)) (fun _ _=>True)
  (fun a _=>by
   have hle:=t72 (fun w:WrT=>z7o w.1 k) t.2.2.2.2.2.1
   rw[r8m]
   by_cases hk:u0s (fun w:WrT=>z7o w.1 k) t.2.2.2.2.2.1<t.2.2.2.2.2.1.length
   ·have hy:=u91 hk
    simp only[t2q,u0b,hk,Ae,Ad,y7t hk,zTn,y8k (t:=u2m) hk,hy,Bl]
    cases (t.2.2.2.2.2.1[u0s (fun w:WrT=>z7o w.1 k) t.2.2.2.2.2.1]).2.2<;>rfl
   ·simp only[t2q,u0b,hk,Ah,Aa,Bk])
  (fun i a hi _=> .inr ⟨(),trivial,rfl,by
   have hle:=t72 (fun w:WrT=>z7o w.1 k) t.2.2.2.2.2.1
   have hil:i<t.2.2.2.2.2.1.length:=by omega
   have hn:=t1g hil hi
   rw[r8m]
   simp only[t2q,u0b,hil,Ae,Ad,y7t hil,zTn,y8k (t:=u2m) hil,hn,Aa]
   rw[y7l (by omega)]⟩) 0 () (Cn _) trivial
 have L:t2y (l,k,t,0)=_:=L
 rw[p8d];unfold q3r r7v
 simp only[L,zOb]
 by_cases hk:u0s (fun w:WrT=>z7o w.1 k) t.2.2.2.2.2.1<t.2.2.2.2.2.1.length
 ·simp only[Al hk]
 ·simp only[Ao hk,o26 l k _ (show l.length≤1099511627776 by omega),zOb]
theorem p92 (t:u0h) (l:Hu u2b) (r:s5p) (ht:q5u t) (hl:l.length≤4194304):s70 (t,l,r)=some (p21 t l r):=by
 have h8:=ht.2
 have L:=u9a t0q t.2.2.2.2.2.1 (fun(a:Hu u2b) i=>(l,t,r,a,i)) (fun a (w:WrT)=>a++ [((w.1,emp,false,(0:Int)):u2b)]) (fun a=> .inl (l,t,r,a)) (fun i a=>a.length=l.length+i)
  (fun a _=>by rw[r41];simp only[t6j,u0b,Am,Ah,Aa])
  (fun i hi a ha=>⟨by simp[ha];omega,by
   rw[r41]
   simp only[t6j,u0b,hi,Ae,Ad,y7t hi,zTn,y8k (t:=u2m) hi,Aw,u0r (show a.length+1≤1099511627776 by omega)]
   rw[y7l (by omega)]
   rfl⟩) l rfl
 have fo:∀(ws:Hu WrT) (a:Hu u2b),ws.foldl (fun a (w:WrT)=>a++ [((w.1,emp,false,(0:Int)):u2b)]) a=a++ws.map fun w=>((w.1,emp,false,(0:Int)):u2b):=by
  intro ws
  induction ws with
  | nil=>intro a;simp
  | cons w ws ih=>intro a;rw[Bs,ih,C8,Bi];rfl
 rw[fo] at L
 obtain⟨all,ha⟩:∃all,all=l++t.2.2.2.2.2.1.map fun w:WrT=>((w.1,emp,false,(0:Int)):u2b):=⟨_,rfl⟩
 rw[←ha] at L
 have hal:all.length≤6000000:=by rw[ha];simp;omega
 have hmap:all.map (fun v=>v.1)=l.map (fun v=>v.1)++t.2.2.2.2.2.1.map fun w=>w.1:=by
  rw[ha,Dh,List.map_map];rfl
 obtain⟨ks,hks⟩:∃ks,ks=(q6x (all.map fun v=>v.1)).filter fun k=>inR r k:=⟨_,rfl⟩
 have hkl:ks.length≤all.length:=by
  rw[hks]
  refine A9 (Cs _ _) (A9 (p2p _) (by simp))
 have L2:=s3y t64 ks (fun a i=>(l,t,a,ks,i)) (fun k=>(r7v t l k).2) (fun k=>(k,(r7v t l k).1)) (fun a=> .inl a) (by omega)
  (fun a _=>by rw[r42];simp only[t6k,u0b,Am,Ah,Aa])
  (fun i hi a ha=>by
   rw[r42];simp only[t6k,u0b,hi,Ae,Ad,y7t hi,zTn,y8k (t:=Ty.str) hi,p0n t l _ ht hl,zOb,Aw,u0r (show a.length+1≤1099511627776 by omega)]
   rw[y7l (by omega)])
 have L:t0q (l,t,r,l,0)=_:=L
 rw[p4q];unfold q0b
 simp only[Cc,Co,Cf,u0r (show l.length≤1099511627776 by omega),Ad,L,zOb,o7a all r (show all.length≤500000000000 by omega)]
 rw[←hks]
 simp only[L2,zOb]
 rw[hks,List.filter_filter,hmap]
 rfl
theorem o46 {k:Hs} :u25 (k,k)=u66 k:=by
 unfold u25
 have:z7o k k=true:=by simp[z7o]
 rw[this,Ew,Cz,Dt]
def j7d (e:u3a) (id:Int) (k:Hs):u3a×Hs×Bool×Int:=
 if(s5s e id (k,k) (u66 k)).2=0 then((s5s e id (k,k) (u66 k)).1,(r7v (u4c e id) e.1.1 k).1,(r7v (u4c e id) e.1.1 k).2,0)
 else((s5s e id (k,k) (u66 k)).1,emp,false,(s5s e id (k,k) (u66 k)).2)
def j2j (e:u3a) (id:Int) (r:s5p):u3a×Hu PrT×Int:=
 if(s5s e id r (u25 r)).2=0 then((s5s e id r (u25 r)).1,p21 (u4c e id) e.1.1 r,0) else((s5s e id r (u25 r)).1, [],(s5s e id r (u25 r)).2)
theorem p25 {t:u0h} {r:s5p} :(s5t t r).1.2.2.1=t.2.2.1∧(s5t t r).1.2.2.2.2.2.1=t.2.2.2.2.2.1:=by
 unfold s5t
 split
 ·exact⟨rfl,rfl⟩
 ·split<;>exact⟨rfl,rfl⟩
theorem p20 (t:u0h) (r:s5p) (l:Hu u2b) (k:Hs):r7v (s5t t r).1 l k=r7v t l k:=by
 unfold r7v;rw[p25.1,p25.2]
theorem o1m (t:u0h) (r q:s5p) (l:Hu u2b):p21 (s5t t r).1 l q=p21 t l q:=by
 unfold p21;rw[p25.2];simp only[p20]
theorem o1u {t:u0h} {r:s5p} (h:tinyT t):q5u (s5t t r).1:=by
 unfold s5t
 split
 ·exact h.few
 ·split
  ·refine⟨?_,h.few.2⟩
   show(t.2.2.2.2.1++ [r]).length≤1048576
   have:=h.rl
   simp;omega
  ·exact h.few
theorem o2y {e:u3a} (h:EngR e) (id:Int) {k:Hs} (hk:k.size≤1048576):t4u (e,id,k)=some (j7d e id k):=by
 have ho:=h.olen
 have h1:u0n e=some e:=u6t e.1 e.2 h.fewB h.fewO
 have h2:=t7j e id (by omega)
 have h3:=t7u k (by unfold u0k;omega)
 rw[p8a];unfold q3o j7d s5s
 simp only[h1,h2,h3,zOb]
 by_cases hn:t5j e.2 id<0
 ·simp only[hn,Ae,Ad,Bl]
  rfl
 ·obtain⟨j,hj,e1,e2,e3⟩:=u2o hn
  have hR:=h.open_ _ (Ag hj)
  simp only[hn,Ah,Aa,Bk]
  cases hok:u66 k with
  | false=>rfl
  | true=>
   have c:=r9f (r:=(k,k)) hR.1 hR.2.1 (by rw[o46];exact hok)
   simp only[Ap,Aa,e1,y7t hj,Ad,zTn,y8k (t:=u00) hj,c,zOb,e2,Fm,Bk]
   cases hr:(s5t e.2[j] (k,k)).2 with
   | false=>rfl
   | true=>
    have g:=p0n (s5t e.2[j] (k,k)).1 e.1.1 k (o1u hR.1.tiny) (by have:=h.tinyO.vl;omega)
    simp only[Ap,Aa,g,zOb,Bl,p20]
    rfl
theorem p7c {e:u3a} (h:EngR e) (id:Int) {r:s5p} (hk:r.1.size≤1048576∧r.2.size≤1048576):u80 (e,id,r)=some (j2j e id r):=by
 have ho:=h.olen
 have h1:u0n e=some e:=u6t e.1 e.2 h.fewB h.fewO
 have h2:=t7j e id (by omega)
 have h3:=r5p r (by unfold u0k;omega) (by unfold u0k;omega)
 rw[p17];unfold r6r j2j s5s
 simp only[h1,h2,h3,zOb]
 by_cases hn:t5j e.2 id<0
 ·simp only[hn,Ae,Ad,Bl]
  rfl
 ·obtain⟨j,hj,e1,e2,e3⟩:=u2o hn
  have hR:=h.open_ _ (Ag hj)
  simp only[hn,Ah,Aa,Bk]
  cases hok:u25 r with
  | false=>rfl
  | true=>
   have c:=r9f (r:=r) hR.1 hR.2.1 hok
   simp only[Ap,Aa,e1,y7t hj,Ad,zTn,y8k (t:=u00) hj,c,zOb,e2,Fm,Bk]
   cases hr:(s5t e.2[j] r).2 with
   | false=>rfl
   | true=>
    have g:=p92 (s5t e.2[j] r).1 e.1.1 r (o1u hR.1.tiny) (by have:=h.tinyO.vl;omega)
    simp only[Ap,Aa,g,zOb,Bl,o1m]
    rfl
theorem o24 {e:u3a} (h:EngR e) (id:Int) {w:WrT} (hw:w.1.size≤1048576):t4v (e,id,w)=some (o43 e id w):=by
 have ho:=h.olen
 have h1:u0n e=some e:=u6t e.1 e.2 h.fewB h.fewO
 have h2:=t7j e id (by omega)
 have h3:=r5t w (by unfold u0k;omega)
 rw[p8f];unfold q3t o43
 simp only[h1,h2,h3,zOb]
 by_cases hn:t5j e.2 id<0
 ·simp only[hn,Ae,Ad,Bl]
 ·obtain⟨j,hj,e1,e2,e3⟩:=u2o hn
  have hR:=h.open_ _ (Ag hj)
  simp only[hn,Ah,Aa,Bk]
  cases hok:u26 w with
  | false=>rfl
  | true=>
   have c:=p7h (w:=w) hR.1 hR.2.1 hok
   simp only[Ap,Aa,e1,y7t hj,Ad,zTn,y8k (t:=u00) hj,c,zOb,e2,Fm,Bk]
   cases hr:(r5i e.2[j] w).2 with
   | false=>rfl
   | true=>rfl
theorem r01 (b:u0j) (o:Hu u0h) (id:Int) (hb:fewB b) (ho:o.length≤1000):u1e ((b,o),id)=some ((u34 b (o.filter fun x=> !decide (x.1=id))),o.filter fun x=> !decide (x.1=id)):=by
 have L:=s3y t21 o (fun a i=>((b,o),id,a,i)) (fun x:u0h=> !decide (x.1=id)) (fun x=>x) (fun a=> .inl ((b,o),a)) (by omega)
  (fun a _=>by rw[r8o];simp only[t8p,u0b,Am,Ah,Aa])
  (fun i hi a ha=>by
   rw[r8o];simp only[t8p,u0b,hi,Ae,Ad,y7t hi,zTn,y8k (t:=u00) hi,Aw,u0r (show a.length+1≤1099511627776 by omega)]
   rw[y7l (by omega)])
 rw[Er] at L
 have L:t21 ((b,o),id, [],0)=_:=L
 have hl:=Cs (fun x:u0h=> !decide (x.1=id)) o
 rw[p8x];unfold q4c
 simp only[L,zOb,r06 b (o.filter fun x=> !decide (x.1=id)) hb (by omega)]
theorem o5n {e:u3a} (h:EngR e) (id:Int):t76 (e,id)=some (p2v e id):=by
 have ho:=h.olen
 have h1:u0n e=some e:=u6t e.1 e.2 h.fewB h.fewO
 have h2:=t7j e id (by omega)
 have h3:u1e (e,id)=some (s9x e id):=r01 e.1 e.2 id h.fewB (by omega)
 rw[o0x];unfold q7x p2v
 simp only[h1,h2,h3,zOb]
 by_cases hn:t5j e.2 id<0
 ·simp only[hn,Ae,Ad,Bl]
 ·simp only[hn,Ah,Aa,Bk]
end
section
theorem j4d {E:Type} (l:Hu E) (f g:E→Bool):l.any (fun x=>f x || g x)=(l.any f || l.any g):=by
 induction l with
 | nil=>rfl
 | cons x l ih=>
  simp only[Gd,ih]
  cases f x<;>cases g x<;>cases l.any f<;>cases l.any g<;>rfl
theorem o9l {E:Type} (l:Hu E) (f g:E→Bool) (i:Bool):l.any (fun x=>f x&&(i || g x))=((i&&l.any f) || l.any fun x=>f x&&g x):=by
 cases i
 ·simp
 ·simp only[Dx,Cz,Bz]
  cases h:l.any f with
  | true=>rfl
  | false=>
   rw[Ct] at h
   symm
   rw[Ci,Ct]
   intro x hx
   have:=h x hx
   simp[this]
theorem p9w (t:u0h) (l:Hu u0h) (ht:q5u t) (hl:q9y l):s7z (t,l)=some (p03 t l):=by
 obtain⟨l1,l2⟩:=hl
 have L:=s11 t0n l (fun i=>(l,t,i)) (fun x=> !decide (x.1=t.1)&&((decide (x.2.1=2) || (decide (x.2.1=3)&&decide (x.2.2.2.1 >t.2.2.1)))&&p2x x.2.2.2.2.2.1 t.2.2.2.2.2.1)) (.inr true) (.inl ())
  (by rw[r4y];simp only[t6h,u0b,Am,Ah,Aa])
  (fun i hi=>by
   have h1:=o5o l[i].2.2.2.2.2.1 t.2.2.2.2.2.1 (s3f (l2 _ (Ag hi)).2) (s3f ht.2)
   rw[r4y]
   simp only[t6h,u0b,hi,Ae,Ad,y7t hi,zTn,y8k (t:=u00) hi,h1,zOb]
   rw[y7l (by omega)]
   cases decide (l[i].1=t.1)<;>cases decide (l[i].2.1=2)<;>cases decide (l[i].2.1=3)<;>cases decide (l[i].2.2.2.1 >t.2.2.1)<;>cases p2x l[i].2.2.2.2.2.1 t.2.2.2.2.2.1<;>rfl)
 rw[p4l];unfold r96 p03
 have L:t0n (l,t,0)=_:=L
 simp only[L,zOb]
 cases l.any fun x:u0h=> !decide (x.1=t.1)&&((decide (x.2.1=2) || (decide (x.2.1=3)&&decide (x.2.2.2.1 >t.2.2.1)))&&p2x x.2.2.2.2.2.1 t.2.2.2.2.2.1)<;>rfl
theorem p90 (t:u0h) (l:Hu u0h) (ht:q5u t) (hl:q9y l):r1l (t,l)=some (o6r t l):=by
 obtain⟨l1,l2⟩:=hl
 have L:=s11 t8w l (fun i=>(l,t,i)) (fun x=>j1z x&&ahead x t) (.inr true) (.inl ())
  (by rw[q5p];simp only[s3a,u0b,Am,Ah,Aa])
  (fun i hi=>by
   have h1:=t3i l[i] t (s3f (l2 _ (Ag hi)).1) (s3f ht.2)
   rw[q5p]
   simp only[s3a,u0b,hi,Ae,Ad,y7t hi,zTn,y8k (t:=u00) hi,h1,zOb,j1z]
   rw[y7l (by omega)]
   cases decide (l[i].2.1=2)<;>cases decide (l[i].2.1=3)<;>cases ahead l[i] t<;>rfl)
 rw[o3f];unfold p0y o6r
 have L:t8w (l,t,0)=_:=L
 simp only[L,zOb]
 cases l.any fun x=>j1z x&&ahead x t<;>rfl
def p7p (t:u0h) (l:Hu u0h) (p:u0h):Bool:=
 (j1z p&&(p.2.2.2.2.2.2.1&&ahead t p)) || (decide (p.2.1=2)&&(ahead p t&&(ahead t p || l.any fun x=>decide (x.2.1=2)&&(!decide (x.1=t.1)&&ahead x p))))
theorem o9n (t:u0h) (l:Hu u0h):q8a t l=((o6r t l&&q60 t l) || l.any (p7p t l)):=by
 unfold q8a p7q
 rw[←j4d]
 rfl
theorem p0j (t:u0h) (l:Hu u0h) (ht:q5u t) (hl:q9y l):s3j (t,l)=some (q8a t l):=by
 obtain⟨l1,l2⟩:=hl
 have inner:∀(i:Nat) (hi:i<l.length),u7b (l,t,(i:Int),l[i],0)=some (bif (decide (l[i].2.1=2)&&ahead l[i] t)&&(l.any fun x=>decide (x.2.1=2)&&(!decide (x.1=t.1)&&ahead x l[i])) then .inr true else .inl (l,t,(i:Int))):=fun i hi=>by
  have g1:=t3i l[i] t (s3f (l2 _ (Ag hi)).1) (s3f ht.2)
  cases hg:(decide (l[i].2.1=2)&&ahead l[i] t) with
  | false=>
   have e0:u7b (l,t,(i:Int),l[i],0)=_:=s2n _
   rw[e0]
   simp only[t0b,g1,zOb,Fx,Aa]
   cases decide ((0:Int)<(l.length:Int))
   ·rfl
   ·revert hg
    cases decide (l[i].2.1=2)<;>cases ahead l[i] t<;>simp
  | true=>
   rw[Ai,Ar] at hg
   obtain⟨q1,q2⟩:=hg
   have L:=s11 u7b l (fun k=>(l,t,(i:Int),l[i],k)) (fun x=>decide (x.2.1=2)&&(!decide (x.1=t.1)&&ahead x l[i])) (.inr true) (.inl (l,t,(i:Int)))
    (by rw[s2n];simp only[t0b,u0b,Am,Ah,Aa,zOb])
    (fun k hk=>by
     have g2:=t3i l[k] l[i] (s3f (l2 _ (Ag hk)).1) (s3f (l2 _ (Ag hi)).2)
     rw[s2n]
     simp only[t0b,u0b,hk,Ae,Ad,q1,g1,q2,g2,y7t hk,zTn,y8k (t:=u00) hk,zOb]
     rw[y7l (by omega)]
     cases decide (l[k].2.1=2)<;>cases decide (l[k].1=t.1)<;>cases ahead l[k] l[i] <;>rfl)
   rw[Bz]
   exact L
 have L:=s11 t2w l (fun i=>(l,t,i)) (p7p t l) (.inr true) (.inl ())
  (by rw[r8i];simp only[t8k,u0b,Am,Ah,Aa])
  (fun i hi=>by
   have g1:=t3i l[i] t (s3f (l2 _ (Ag hi)).1) (s3f ht.2)
   have g2:=t3i t l[i] (s3f ht.1) (s3f (l2 _ (Ag hi)).2)
   rw[r8i]
   simp only[t8k,u0b,hi,Ae,Ad,y7t hi,zTn,y8k (t:=u00) hi,g1,g2,inner i hi,zOb,p7p,j1z]
   have ws:=y7l (i:=i) (by omega)
   cases decide (l[i].2.1=2)<;>cases decide (l[i].2.1=3)<;>cases l[i].2.2.2.2.2.2.1<;>cases ahead l[i] t<;>cases ahead t l[i] <;>cases (l.any fun x=>decide (x.2.1=2)&&(!decide (x.1=t.1)&&ahead x l[i]))<;>first | rfl | (simp only[Dt,Fy,Fx,Bz,Fp,Ew,Ci,Ad,Aa,zOb,ws]))
 rw[p77];unfold q3l
 have L:t2w (l,t,0)=_:=L
 simp only[p90 t l ht ⟨l1,l2⟩,q50 t l ht ⟨l1,l2⟩,L,zOb]
 rw[o9n]
 cases o6r t l<;>cases q60 t l<;>cases l.any (p7p t l)<;>rfl
theorem q8s (t:u0h) (l:Hu u0h) (ht:q5u t) (hl:q9y l):t9h (t,l)=some (s48 t l):=by
 obtain⟨l1,l2⟩:=hl
 have inner:∀(i:Nat) (hi:i<l.length) (b:Bool),u5d (l,t,b,(i:Int),l[i],0)=some (bif (l.any fun y=>decide (y.2.1=2)&&(!decide (y.1=t.1)&&ahead l[i] y)) then .inr true else .inl (l,t,b,(i:Int))):=fun i hi b=>
  s11 u5d l (fun k=>(l,t,b,(i:Int),l[i],k)) (fun y=>decide (y.2.1=2)&&(!decide (y.1=t.1)&&ahead l[i] y)) (.inr true) (.inl (l,t,b,(i:Int)))
   (by rw[s1x];simp only[u7q,u0b,Am,Ah,Aa,zOb])
   (fun k hk=>by
    have g2:=t3i l[i] l[k] (s3f (l2 _ (Ag hi)).1) (s3f (l2 _ (Ag hk)).2)
    rw[s1x]
    simp only[u7q,u0b,hk,Ae,Ad,g2,y7t hk,zTn,y8k (t:=u00) hk,zOb]
    rw[y7l (by omega)]
    cases decide (l[k].2.1=2)<;>cases decide (l[k].1=t.1)<;>cases ahead l[i] l[k] <;>rfl)
 have L:=s11 u57 l (fun i=>(l,t,o6r t l,i)) (fun x=>(decide (x.2.1=2)&&ahead t x)&&(o6r t l || l.any fun y=>decide (y.2.1=2)&&(!decide (y.1=t.1)&&ahead x y))) (.inr true) (.inl ())
  (by rw[s28];simp only[u8b,u0b,Am,Ah,Aa])
  (fun i hi=>by
   have g2:=t3i t l[i] (s3f ht.1) (s3f (l2 _ (Ag hi)).2)
   rw[s28]
   simp only[u8b,u0b,hi,Ae,Ad,y7t hi,zTn,y8k (t:=u00) hi,g2,inner i hi (o6r t l),zOb]
   have ws:=y7l (i:=i) (by omega)
   cases decide (l[i].2.1=2)<;>cases ahead t l[i] <;>cases o6r t l<;>cases (l.any fun y=>decide (y.2.1=2)&&(!decide (y.1=t.1)&&ahead l[i] y))<;>first | rfl | (simp only[Dt,Fy,Fx,Bz,Fp,Ew,Ci,Ap,Bh,Ad,Aa,zOb,ws]))
 rw[o9l] at L
 rw[q4t];unfold s54 s48 q8j
 have L:u57 (l,t,o6r t l,0)=_:=L
 simp only[p0j t l ht ⟨l1,l2⟩,p90 t l ht ⟨l1,l2⟩,L,zOb]
 have e:p7q (fun x:u0h=> !decide (x.1=t.1)) t l=q8a t l:=rfl
 rw[e]
 cases q8a t l<;>cases ((o6r t l&&l.any fun x=>decide (x.2.1=2)&&ahead t x) || l.any fun x=>(decide (x.2.1=2)&&ahead t x)&&l.any fun y=>decide (y.2.1=2)&&(!decide (y.1=t.1)&&ahead x y))<;>rfl
theorem o4b (b:u0j) (hb:fewB b):t4y b=some (b.2.1++b.2.2.1):=by
 have h1:=hb.2.1.1
 have h2:=hb.2.2.1
 rw[p8v];unfold q4a
 simp only[Cc,Co,Cf,u0r (show b.2.1.length≤1099511627776 by omega),u0r (show b.2.1.length+b.2.2.1.length≤1099511627776 by omega),Ad]
theorem p51 {e:u3a} (h:EngR e) (id:Int):s6v (e,id)=some (q2h e id):=by
 have ho:=h.olen
 have h2:=t7j e id (by omega)
 have h3:=o4b e.1 h.fewB
 have h3:t4y e.1=some (s4l e):=h3
 have h4:=o1a e.1
 rw[o0v];unfold q7v q2h
 simp only[h2,h3,zOb]
 by_cases hn:t5j e.2 id<0
 ·simp only[hn,Ae,Ad,Bl]
 ·obtain⟨j,hj,e1,e2,e3⟩:=u2o hn
  have hT:=(h.ot (Ag hj)).few
  simp only[hn,Ah,Aa,Bk,e1,y7t hj,Ad,zTn,y8k (t:=u00) hj,p9w _ _ hT h.fewOth,p0j _ _ hT h.fewOth,h4,zOb,e2]
  have hn' : ¬((j:Int)<0):=by omega
  simp only[hn',Ah,Aa,Bk]
  cases p03 e.2[j] (s4l e)<;>cases q8a e.2[j] (s4l e)<;>cases q6t e.1<;>rfl
end
section
theorem o1w {b:u0j} {t:u0h} {n:Hs} (h: ¬(0≤u0p b n)):∃(k:Nat) (hk:k<(u2r b t n).2.2.1.length),u0p (u2r b t n) n=(k:Int)∧(u2r b t n).2.2.1[k] =u5m b t n:=by
 have hb:=j2i.mp (show u0p b n<0 by omega)
 have hm:u5m b t n∈(u2r b t n).2.2.1:=by
  show u5m b t n∈(b.2.2.1.filter fun x=>y3c x.2.2.2.2.2.2.2 n)++ [u5m b t n] ++(b.2.2.1.filter fun x=> !y3c x.2.2.2.2.2.2.2 n)
  simp
 have hn: ¬u0p (u2r b t n) n<0:=fun q=>j2i.mp q _ hm rfl
 obtain⟨k,hk,e1,e2⟩:=t99 hn
 refine⟨k,hk,e1,?_⟩
 have hx:=Ag hk
 have hx:(u2r b t n).2.2.1[k] ∈(b.2.2.1.filter fun x=>y3c x.2.2.2.2.2.2.2 n)++ [u5m b t n] ++(b.2.2.1.filter fun x=> !y3c x.2.2.2.2.2.2.2 n):=hx
 simp only[Ay,A6,Ax] at hx
 rcases hx with (q | q) | q
 ·exact absurd e2 (hb _ q.1)
 ·exact q
 ·exact absurd e2 (hb _ q.1)
theorem EngR.mids {e:u3a} (h:EngR e):o84 e.1.2.2.2.1:=p2y h.base.cs
theorem o4f {e:u3a} (h:EngR e) {t:u0h} (ht:t∈e.2∨t∈e.1.2.2.1):u6p (e.1,t)=some (u1n e.1 t):=by
 have hT:TxnR t:=by
  rcases ht with q | q
  ·exact(h.open_ t q).1
  ·exact(h.base.ready t q).1
 rw[q7l e.1 t h.fewB hT.tiny.few,p3h h.mids (q2l hT.id)]
theorem o4g {e:u3a} (h:EngR e) {t:u0h} (ht:t∈e.2∨t∈e.1.2.2.1):tinyB (u1n e.1 t):=by
 have hT:TxnR t:=by
  rcases ht with q | q
  ·exact(h.open_ t q).1
  ·exact(h.base.ready t q).1
 exact s61 h.base hT.tiny
theorem o76 (b:u0j) (t:u0h) (hb:b.2.1.length≤1000):∃(k:Nat) (hk:k<(u1n b t).2.1.length),IntKind.i64.wrap (((u1n b t).2.1.length:Int) - (1:Int))=(k:Int)∧(u1n b t).2.1[k] =s3b b t:=by
 have e:(u1n b t).2.1=b.2.1++ [s3b b t] :=rfl
 refine⟨b.2.1.length,by rw[e];simp,?_,?_⟩
 ·rw[e,Ba,Aw,y4y (by omega) (by omega)];omega
 ·simp[e]
theorem o7r {b:u0j} {t:u0h} (h:q5u t):q5u (s3b b t):=h
theorem o2u {e:u3a} (h:EngR e) (id:Int):r1j (e,id)=some (u6d e id):=by
 have ho:=h.olen
 have h1:u0n e=some e:=u6t e.1 e.2 h.fewB h.fewO
 have h2:=t7j e id (by omega)
 have hJ:=p51 h id
 have hO:u1e (e,id)=some (s9x e id):=r01 e.1 e.2 id h.fewB (by omega)
 rw[p76];unfold q3k u6d
 simp only[h1,hJ,zOb]
 by_cases c1:q2h e id=1
 ·simp only[c1,Ae,Ad,Bl]
  rfl
 ·simp only[c1,Ah,Aa,Bk]
  by_cases c0:q2h e id=0
  ·obtain⟨hn,_,_,_⟩:=q6w c0
   obtain⟨j,hj,e1,e2,e3⟩:=u2o hn
   have hm:e.2[j] ∈e.2∨e.2[j] ∈e.1.2.2.1:= .inl (Ag hj)
   have hT:=o4f h hm
   obtain⟨k,hk,f1,f2⟩:=o76 e.1 e.2[j] (by have:=h.base.plen;omega)
   have hC:=t0a (s3b e.1 e.2[j]) (o7r (h.ot (Ag hj)).few)
   have hO2:=r01 (u1n e.1 e.2[j]) e.2 id (o4g h hm).few (by omega)
   simp only[c0,Ae,Ap,Aa,Bl,h2,e1,y7t hj,Ad,zTn,y8k (t:=u00) hj,hT,f1,y7t hk,y8k (t:=u00) hk,f2,hC,hO2,zOb,e2]
   show some _=some (p05 e e.2[j],_)
   unfold p05 r75
   rw[e3]
   rfl
  ·simp only[c0,Ah,Bh,Ad,Bk,hO,zOb]
   rfl
theorem p96 {e:u3a} (h:EngR e) (id:Int) {n:Hs} (hn1:n.size≤1048576):s71 (e,id,n)=some (s14 e id n):=by
 have ho:=h.olen
 have h1:u0n e=some e:=u6t e.1 e.2 h.fewB h.fewO
 have h2:=t7j e id (by omega)
 have hK:=t7u n (by unfold u0k;omega)
 have hA:u2i (e.1,n)=some (u0p e.1 n):=s1g e.1 n (by have:=h.base.rlen;omega)
 have hJ:=p51 h id
 have hL:t4y e.1=some (s4l e):=o4b e.1 h.fewB
 have hO:u1e (e,id)=some (s9x e id):=r01 e.1 e.2 id h.fewB (by omega)
 rw[p4s];unfold q0d s14
 simp only[h1,h2,zOb]
 by_cases c1:t5j e.2 id<0
 ·simp only[c1,Ae,Ad,Bl]
  rfl
 simp only[c1,Ah,Aa,Bk,hK,zOb]
 cases c2:u66 n with
 | false=>simp only[Bh,Ad,Bl];rfl
 | true=>
 simp only[Ap,Aa,Fm,Bk,hA,zOb]
 by_cases c3:0≤u0p e.1 n
 ·have c3' :decide (u0p e.1 n≥0)=true:=by simpa using c3
  simp only[c3,c3',Ad,Bl]
  rfl
 have c3' :decide (u0p e.1 n≥0)=false:=by simpa using c3
 simp only[c3,c3',Aa,Bk,hJ,zOb]
 unfold r8u
 by_cases c4:q2h e id=0
 ·obtain⟨j,hj,e1,e2,e3⟩:=u2o c1
  have hT:=(h.ot (Ag hj))
  have hTR:=(h.open_ _ (Ag hj)).1
  have hD:=q8s e.2[j] (s4l e) hT.few h.fewOth
  have hr:=h.base.rlen
  simp only[c4,Ae,e1,y7t hj,Ad,zTn,y8k (t:=u00) hj,hL,hD,zOb,e2,ne_eq,not_true_eq_false,Bk]
  cases c5:s48 e.2[j] (s4l e) with
  | true=>
   have d5:decide ((5:Int)=0)=false:=by decide
   simp only[Ad,d5,Aa,zOb,Bh,hO,Bl]
   rfl
  | false=>
   simp only[Aa,zOb,Br,Bk]
   have e6:decide ((e.1.2.2.1.length:Int)≥3)=decide (3≤e.1.2.2.1.length):=by simp;omega
   simp only[e6]
   by_cases c6:3≤e.1.2.2.1.length
   ·have d3:decide ((3:Int)=0)=false:=by decide
    simp only[c6,Ae,Ad,d3,Bh,hO,zOb,Bl]
    rfl
   ·have hM:=r9e e.1 e.2[j] n h.fewB hT.few (q2l hTR.id)
    obtain⟨k,hk,f1,f2⟩:=o1w (t:=e.2[j]) c3
    have hns:n.size≤100:=by have:=(u29 c2).2;omega
    have hMt:=q63 (t:=e.2[j]) h.base hT hns
    have hA2:u2i (u2r e.1 e.2[j] n,n)=some ((k:Nat):Int):=by rw[s1g _ n (by have:=hMt.rl;omega),f1]
    have hC:=t0a (u5m e.1 e.2[j] n) hT.few
    have hO2:=r01 (u2r e.1 e.2[j] n) e.2 id hMt.few (by omega)
    simp only[c6,Ah,Aa,Ae,Ap,y7t hj,Ad,y8k (t:=u00) hj,hM,hA2,y7t hk,zTn,y8k (t:=u00) hk,f2,hC,hO2,zOb,Bk,Bl]
    show some _=some (o78 e e.2[j] n,_)
    unfold o78 r75
    rw[e3]
    rfl
 ·simp only[c4,Ah,Aa,zOb,Bh,Ad,hO,ne_eq,not_false_eq_true,Bl,Bk]
  rfl
theorem p68 {e:u3a} (h:EngR e) (n:Hs) (yes:Bool):r1k (e,n,yes)=some (q6s e n yes):=by
 have ho:=h.olen
 have h1:u0n e=some e:=u6t e.1 e.2 h.fewB h.fewO
 have hA:u2i (e.1,n)=some (u0p e.1 n):=s1g e.1 n (by have:=h.base.rlen;omega)
 have hF:=o1a e.1
 have hG:=q7d e.1 n h.fewB
 have hG2:=r06 (t7n e.1 n) e.2 (q6u h.tinyO).few (by omega)
 rw[p79];unfold q3n q6s
 simp only[h1,hA,hF,zOb]
 by_cases c1:u0p e.1 n<0
 ·simp only[c1,Ae,Ad,Bl]
  rfl
 obtain⟨k,hk,f1,f2⟩:=t99 c1
 simp only[c1,Ah,Aa,Bk]
 cases yes with
 | false=>simp only[Aa,zOb,hG,hG2,Br,false_and,Bk];rfl
 | true=>
  have hm:e.1.2.2.1[k] ∈e.2∨e.1.2.2.1[k] ∈e.1.2.2.1:= .inr (Ag hk)
  have hT:=o4f h hm
  have hT2:=r06 (u1n e.1 e.1.2.2.1[k]) e.2 (o4g h hm).few (by omega)
  simp only[Ad,true_and]
  cases q6t e.1 with
  | true=>rfl
  | false=>
   simp only[Aa,Br,Bk,Bl,f1,y7t hk,Ad,zTn,y8k (t:=u00) hk,hT,hT2,zOb]
   rfl
end
section
theorem p6g:emp.size≤100:=by decide
theorem s8c (r:s5w):(u01 r).1.size≤20000:=by
 cases h:u6j r with
 | false=>unfold u01;rw[h];exact A9 p6g (by omega)
 | true=>
  have hR:=j06.mp h
  rw[u9e hR]
  have:=s3s hR
  show(s91 (s8b r)).size≤20000
  rw[r8w];omega
def p02 (b:u0j):s5w:=(4,u4n,emp,false,b)
theorem q75 {b:u0j} (h:tinyB b):tinyR (p02 b):=⟨s0c,p6g,h⟩
theorem q5y (d:u0i) (hd:d0s.wt d≤10000000):t9p d=some (orD d (p3w d)):=by
 have h1:=q51 d (by omega)
 have h2:=t2o (p02 (logR (u0g d)).1) (q75 (p2w _)).wt
 have h3:=u8g d (by unfold u0k;omega)
 rw[p2h];unfold r62
 simp only[h1,zOb]
 have h2:u3p (4,(0,0,0,0, [], [],false,(⟨#[]⟩:Hs)),(⟨#[]⟩:Hs),false,(logR (u0g d)).1)=_:=h2
 simp only[h2,h3,zOb]
 unfold p3w
 cases hp:t1p (u0g d) with
 | none=>
  have e:(logR (u0g d)).2=false:=by unfold logR;rw[hp]
  simp only[e,Bh,Ad,zOb]
  rfl
 | some b=>
  have e:logR (u0g d)=(b,true):=by unfold logR;rw[hp]
  simp only[e,Ap,Aa,zOb]
  have e4:p02 b=(4,u4n,emp,false,b):=rfl
  rw[e4]
  cases ht:(u01 (4,u4n,emp,false,b)).2 with
  | false=>simp only[Bh,Ad,Br,Bk];rfl
  | true=>
   have h5:=r9i (d:=d) (l:= [(u01 (4,u4n,emp,false,b)).1]) hd (by simp) (fun t h=>by
    rw[Ax.mp h];have:=s8c (4,u4n,emp,false,b);omega)
   simp only[Ap,Aa,Bl,h5,zOb]
theorem o29 {d z:u0i} (h:p3w d=some z):u2g z=true:=by
 unfold p3w at h
 split at h
 ·cases h
 ·split at h
  ·exact(q65 h).2.1
  ·cases h
theorem p0l (s:u1q) (r:s5w) (hd:d0s.wt s.2≤10000000) (hr:tinyR r):t5u (s,r)=some ((t7o s.2 r).isSome,s.1,(t7o s.2 r).getD s.2):=by
 have h1:=t2o r hr.wt
 have hl:=s8c r
 have h2:=s7i s.2 (u01 r).1 hd (by omega)
 have h3:=q5y s.2 hd
 rw[p5k];unfold q06 t7o
 simp only[h1,zOb]
 cases ht:(u01 r).2 with
 | false=>simp only[Bh,Ad,Br,Bk];rfl
 | true=>
  simp only[Ap,Aa,Bl,h2,zOb]
  cases ha:append_ s.2 (u01 r).1 with
  | some y=>rfl
  | none=>
   simp only[orD,Bh,Ad,h3,zOb]
   cases hz:p3w s.2 with
   | none=>rfl
   | some z=>
    have h4:=s7i z (u01 r).1 (t2i (o29 hz)) (by omega)
    simp only[orD,Ap,Aa,h4,zOb]
    cases hq:append_ z (u01 r).1<;>rfl
theorem t79:tinyR p9r:=⟨s0c,by decide,t1l⟩
theorem o0l {e:u3a} (h:EngR e) (id:Int):tinyR (u6d e id).2.1:=by
 unfold u6d
 split
 ·exact t79
 ·split
  ·rename_i c1 c0
   obtain⟨hn,_,_,_⟩:=q6w c0
   obtain⟨j,hj,e1,e2,e3⟩:=u2o hn
   rw[e2]
   exact⟨(h.ot (Ag hj)).like rfl rfl p6g,p6g,t1l⟩
  ·exact t79
theorem o6b {e:u3a} (h:EngR e) (id:Int) (n:Hs):tinyR (s14 e id n).2.1:=by
 unfold s14
 split
 ·exact t79
 ·rename_i hn
  split
  ·exact t79
  ·rename_i hk
   split
   ·exact t79
   ·split
    ·obtain⟨j,hj,e1,e2,e3⟩:=u2o hn
     rw[e2]
     have hk:u66 n=true:=by simpa using hk
     have:=(u29 hk).2
     exact⟨(h.ot (Ag hj)).like rfl rfl (by show n.size≤100;omega),p6g,t1l⟩
    ·exact t79
theorem o7t {e:u3a} (n:Hs) (hn:n.size≤100) (y:Bool):tinyR (q6s e n y).2.1:=by
 unfold q6s
 split
 ·exact t79
 ·split
  ·exact t79
  ·split
   ·exact⟨s0c,hn,t1l⟩
   ·exact⟨s0c,hn,t1l⟩
theorem p5p {s:u1q} (h:EngR s.1) (hd:u2g s.2=true) (id:Int):u7l (s,id)=some ((t9q s id).2,(t9q s id).1):=by
 have ho:=h.olen
 have h1:=o2u h id
 have h2:=p0l s (u6d s.1 id).2.1 (t2i hd) (o0l h id)
 have h3:u0n s.1=some s.1:=u6t s.1.1 s.1.2 h.fewB h.fewO
 have hO:u1e (s.1,id)=some (s9x s.1 id):=r01 s.1.1 s.1.2 id h.fewB (by omega)
 rw[q9w];unfold r29 t9q
 simp only[h1,zOb]
 by_cases c:(u6d s.1 id).2.2=0
 ·simp only[c,Ae,Ad,Bl,h2,zOb]
  cases t7o s.2 (u6d s.1 id).2.1 with
  | none=>simp only[Option.isSome_none,Bh,Ad,h3,hO,zOb];rfl
  | some d=>rfl
 ·simp only[c,Ah,Aa,Bk]
theorem p2s {s:u1q} (h:EngR s.1) (hd:u2g s.2=true) (id:Int) {n:Hs} (hn:n.size≤1048576):u6y (s,id,n)=some ((r78 s id n).2,(r78 s id n).1):=by
 have ho:=h.olen
 have h1:=p96 h id hn
 have h2:=p0l s (s14 s.1 id n).2.1 (t2i hd) (o6b h id n)
 have h3:u0n s.1=some s.1:=u6t s.1.1 s.1.2 h.fewB h.fewO
 have hO:u1e (s.1,id)=some (s9x s.1 id):=r01 s.1.1 s.1.2 id h.fewB (by omega)
 rw[q6q];unfold s8y r78
 simp only[h1,zOb]
 by_cases c:(s14 s.1 id n).2.2=0
 ·simp only[c,Ae,Ad,Bl,h2,zOb]
  cases t7o s.2 (s14 s.1 id n).2.1 with
  | none=>simp only[Option.isSome_none,Bh,Ad,h3,hO,zOb];rfl
  | some d=>rfl
 ·simp only[c,Ah,Aa,Bk]
theorem j1y {e:u3a} {n:Hs} {y:Bool} (c:(q6s e n y).2.2≠0):(q6s e n y).1=e:=by
 unfold q6s at c ⊢
 split
 ·rfl
 ·split
  ·rfl
  ·rename_i h1 h2
   rw[Ao h1,Ao h2] at c
   split at c<;>exact absurd rfl c
theorem p5q {s:u1q} (h:EngR s.1) (hd:u2g s.2=true) {n:Hs} (hn:n.size≤100) (y:Bool):u7m (s,n,y)=some ((p3d s n y).2,(p3d s n y).1):=by
 have h1:=p68 h n y
 have h2:=p0l s (q6s s.1 n y).2.1 (t2i hd) (o7t n hn y)
 rw[q9x];unfold r3a p3d
 simp only[h1,zOb]
 by_cases c:(q6s s.1 n y).2.2=0
 ·simp only[c,Ae,Ad,Bl,h2,zOb]
  cases t7o s.2 (q6s s.1 n y).2.1 with
  | none=>rfl
  | some d=>rfl
 ·simp only[c,Ah,Aa,Bk,j1y c]
theorem p5z {s:u1q} (h:EngR s.1) (hd:d0s.wt s.2≤10000000):t5t s=some s:=by
 have h1:u0n s.1=some s.1:=u6t s.1.1 s.1.2 h.fewB h.fewO
 have h2:=u8g s.2 (by unfold u0k;omega)
 rw[q1e];unfold s7l
 simp only[h1,h2,zOb]
theorem o9b {s:u1q} (h:EngR s.1) (hd:u2g s.2=true):u5k s=some (p9s s):=by
 have h1:=p5z h (t2i hd)
 have h2:=q5y s.2 (t2i hd)
 rw[r66];unfold s34 p9s
 simp only[h1,h2,zOb]
 cases p3w s.2<;>rfl
end
end
end Go.Proofs.YtkdpclfhapphhaaGreat.Ab
