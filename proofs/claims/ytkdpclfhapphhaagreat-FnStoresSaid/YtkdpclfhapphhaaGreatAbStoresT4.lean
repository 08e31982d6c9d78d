import Derived.Test.YtkdpclfhapphhaaGreatAbStoresT3
import Derived.Test.YtkdpclfhapphhaaGreatAbK2
import Derived.Test.YtkdpclfhapphhaaGreatAbF4
import Derived.Test.YtkdpclfhapphhaaGreatAbS2
namespace Go.Proofs.YtkdpclfhapphhaaGreat.Ab
open Go
set_option linter.unusedVariables false
set_option linter.unusedSimpArgs false
set_option linter.unnecessarySimpa false
section
section
theorem o9t {d:u0l} (hk:u18 d=true) {k:Nat} (hlt:k<d.1.length):(u0k d (k:Int)).2=true∧(u0k d (k:Int)).1.size=64:=by
 obtain⟨k1,k2,k3,k4⟩:=p7m.mp hk
 have hc:(0:Int)≤(k:Int)∧(k:Int)<(d.1.length:Int):=by omega
 unfold u0k
 rw[Al hc]
 refine⟨rfl,?_⟩
 cases hp:t3i d.2 (k:Int) with
 | none=>
  have e:rdL Ty.str d.1 k=d.1[k] :=y8k (t:=Ty.str) hlt
  simp only[Eo,zTn]
  rw[e]
  exact k3 _ (Ag hlt)
 | some s=>
  obtain⟨p,hp1,hp2⟩:=q3t hp
  simp only[Eb]
  rw[←hp2]
  exact(k4 p hp1).2
theorem o3x:∀(f:Nat) {d:u0l} {k at_:Nat} {t:Hs},u18 d=true→at_<64→k*64+at_+t.size≤d.1.length*64→d.2.length+(at_+t.size+63) / 64≤60→ ∃x,p4u f d k at_ t=some x
 | 0,d,k,at_,t,_,_,_,_=>⟨d,rfl⟩
 | f+1,d,k,at_,t,hk,hat,h1,h2=>by
  rw[p4u]
  by_cases hz:t.size=0
  ·exact⟨d,by rw[Al hz]⟩
  ·have hr:=o9t hk (k:=k) (by omega)
   rw[Ao hz,Al hr]
   have hsz:((u0k d (k:Int)).1.extract 0 at_++t.extract 0 (min t.size (64 - at_))++(u0k d (k:Int)).1.extract (at_+min t.size (64 - at_)) 64).size=64:=by
    simp only[Af,Bd,hr.2];omega
   have hin:r2k (k:Int) 0 ((d.1.length:Int) - 1)=true:=by simp[r2k];omega
   have hok:u18 (d.1,d.2++ [((k:Int),(u0k d (k:Int)).1.extract 0 at_++t.extract 0 (min t.size (64 - at_))++(u0k d (k:Int)).1.extract (at_+min t.size (64 - at_)) 64)])=true:=by
    rw[r2v,hk,hin,hsz]
    simp;omega
   have hw:u6j d (k:Int) ((u0k d (k:Int)).1.extract 0 at_++t.extract 0 (min t.size (64 - at_))++(u0k d (k:Int)).1.extract (at_+min t.size (64 - at_)) 64)=some (d.1,d.2++ [((k:Int),(u0k d (k:Int)).1.extract 0 at_++t.extract 0 (min t.size (64 - at_))++(u0k d (k:Int)).1.extract (at_+min t.size (64 - at_)) 64)]):=by
    unfold u6j
    rw[Al hok]
   rw[hw]
   simp only[zOb]
   have hs2:(t.extract (min t.size (64 - at_)) t.size).size=t.size - min t.size (64 - at_):=by rw[Bd];omega
   refine o3x f hok (by omega) ?_ ?_
   ·rw[hs2];show _≤d.1.length*64;omega
   ·rw[hs2];simp only[Ba,Aw];omega
theorem o7e {d:u0l} {a:Int} {t:Hs} (hl:u2t d=true) (ha:a=0∨a=1) (h0:t.size≠0) (h1:t.size≤3008) (h2:u0w d a<255) (h3:(u0c d a).2.1+((u0q t).size:Int)≤3008):∃x,t40 d a t=some x:=by
 obtain⟨d1,d2,d3,d4,d5⟩:=u7k hl
 obtain⟨f1,f2⟩:=u96 ha
 have hat:=r3d d a
 have hok:(u0c d a).2.2=true:=by rcases ha with rfl | rfl<;>assumption
 have hsp:=s3u t
 unfold t40
 rw[Ao (by rw[hok];simp only[Fm,false_or];omega)]
 unfold u6f
 have hc:(r2k (u0c d a).2.1 0 6400&&r2k (u0e a+1) 0 ((d.1.length:Int) - 1)&&u18 d)=true:=by
  rw[d1,d2]
  simp only[r2k,Ai,Ar,and_true]
  rcases ha with rfl | rfl<;>omega
 rw[Al hc]
 refine o3x _ d1 (Ev _ (by omega)) ?_ ?_
 ·rw[d2]
  rcases ha with rfl | rfl<;>omega
 ·rw[d3]
  simp only[Cc]
  omega
theorem j1n {d:u0l} {a:Int} {t:Hs} (hl:u2t d=true) (ha:a=0∨a=1) (h0:t.size≠0) (h1:t.size≤3008) (h2:u0w d a<255) (h3:(u0c d a).2.1+((u0q t).size:Int)≤3008):∃y,q70 d a t=some y:=by
 obtain⟨x,hx⟩:=o7e hl ha h0 h1 h2 h3
 unfold q70
 rw[hx]
 exact⟨_,rfl⟩
def o7y (l:Hu Hs):Nat:=(l.map fun t=>(u0q t).size).sum
theorem o2p {a:Int} (ha:a=0∨a=1):∀ {l:Hu Hs} {x:u0l},u2t x=true→u0w x a+(l.length:Int)≤255→(u0c x a).2.1+(o7y l:Int)≤3008→(∀t∈l,t.size≠0∧t.size≤3008)→
 ∃y,s70 a l x=some y∧u2t y=true∧u01 y=u01 x∧u0c y (1 - a)=u0c x (1 - a)∧(u0c y a).1=(u0c x a).1++l
 | [],x,hl,_,_,_=>⟨x,rfl,hl,rfl,rfl,by simp⟩
 | t::l,x,hl,hc,hr,ht=>by
  have h0:=ht t (C9 ..)
  have hs:o7y (t::l)=(u0q t).size+o7y l:=by simp[o7y]
  simp only[Bc] at hc
  obtain⟨y,hy⟩:=j1n hl ha h0.1 h0.2 (by omega) (by omega)
  obtain⟨p1,p2,p3,p4,p5⟩:=o9r hl ha hy
  obtain⟨z,z1,z2,z3,z4,z5⟩:=o2p ha (l:=l) p1 (by omega) (by rw[p5];simp only;omega) (fun t h=>ht t (Bm _ h))
  refine⟨z,?_,z2,z3.trans p2,z4.trans p3,?_⟩
  ·unfold s70;rw[hy];exact z1
  ·rw[z5,p5];simp
theorem o7f {d:u0l} (hl:u2t d=true) {a n:Int} (ha:a=0∨a=1):∃z r,r4i d a n=some z∧u18 z=true∧z.1=d.1∧z.2= [(u0e a,t6y n++r)] ∧ ∀j:Int,u0k (flush z) j=if j=u0e a then(t6y n++r,true) else u0k d j:=by
 obtain⟨d1,d2,d3,d4,d5⟩:=u7k hl
 obtain⟨f1,f2⟩:=u96 ha
 have hob:=q3w (s:=u0e a) d1 d3 (by omega) (by rw[d2];rcases ha with rfl | rfl<;>omega) (u2r n)
 have hz1:=(u9a hob).2.1
 refine⟨_,_,hob,hz1,rfl,rfl,fun j=> ?_⟩
 rw[t44 hz1]
 by_cases e:j=u0e a
 ·rw[Al e,e]
  unfold u0k
  rw[Al (by show _∧_<(d.1.length:Int);rw[d2];rcases ha with rfl | rfl<;>omega)]
  simp[t3i]
 ·rw[Ao e]
  have hne: ¬u0e a=j:=fun z=>e z.symm
  unfold u0k
  simp only[t3i,Bs,List.foldl_nil,hne,Bk,d3]
theorem p3r {d:u0l} (hl:u2t d=true):u2t (s33 d)=true∧u01 (s33 d)=u01 d∧u0c (s33 d) (u01 d)=u0c d (u01 d)∧u0c (s33 d) (u6e d)=([],0,true)∧u0w (s33 d) (u6e d)=0:=by
 obtain⟨a1,a2⟩:=t9x d
 obtain⟨z,r,hz,hz1,hz2,hz3,hrd⟩:=o7f hl (n:=0) a1
 obtain⟨d1,d2,d3,d4,d5⟩:=u7k hl
 have e:s33 d=flush z:=by unfold s33;rw[hz];rfl
 obtain⟨c1,c2,c3⟩:=s0u hz1
 have hlen:(flush z).1.length=97:=by rw[c3,hz2];exact d2
 obtain⟨f1,f2⟩:=u96 a1
 rw[e]
 have hcnt:u0w (flush z) (u6e d)=0:=by
  unfold u0w u39
  rw[j05.mpr a1,Al rfl,hrd,Al rfl]
  exact p2e 0 r (by omega) (by omega)
 have ho:u0c (flush z) (u6e d)=([],0,true):=by
  rw[t1x (r2y c1 hlen) a1,hcnt]
  rfl
 have hother:u0c (flush z) (1 - u6e d)=u0c d (1 - u6e d):=by
  refine t3b (fun q hq=> ?_)
  have ho:=(u96 (a:=1 - u6e d) (by omega)).1
  rw[hrd,Ao (by omega)]
 rw[←a2] at hother
 have hact:u01 (flush z)=u01 d:=s87 (by rw[hrd,Ao (by omega)])
 have hok:(u0c d (u01 d)).2.2=true:=by rcases t9h d with q | q<;>rw[q] <;>assumption
 refine⟨q6c c1 hlen c2 ?_ ?_,hact,hother,ho,hcnt⟩
 ·rcases a1 with q | q
  ·rw[q] at ho;rw[ho]
  ·have q2:u01 d=0:=by omega
   rw[q2] at hother hok
   rw[hother];exact hok
 ·rcases a1 with q | q
  ·have q2:u01 d=1:=by omega
   rw[q2] at hother hok
   rw[hother];exact hok
  ·rw[q] at ho;rw[ho]
end
section
theorem o1q {z:u0l} {s:Int} {b:Hs} (hk:u18 z=true) (hz:z.2= [(s,b++(rdL Ty.str z.1 s.toNat).extract 1 64)]) (hb:b.size=1) (keep:Hu Int) (tear:Int):
 (o41 keep 0=false→s7h z keep tear=(z.1, []))∧(o41 keep 0=true→1≤s60 tear→s7h z keep tear=flush z)∧(s7h z keep tear=(z.1, [])∨s7h z keep tear=flush z):=by
 obtain⟨k1,k2,k3,k4⟩:=p7m.mp hk
 have hs:=(k4 (s,b++(rdL Ty.str z.1 s.toNat).extract 1 64) (by rw[hz];simp)).1
 have hlt:s.toNat<z.1.length:=by
  have h1:0≤s:=hs.1
  have h2:s<(z.1.length:Int):=hs.2
  omega
 have ht:=(j1y tear).1
 have eo:rdL Ty.str z.1 s.toNat=z.1[s.toNat] :=y8k (t:=Ty.str) hlt
 have hold:(rdL Ty.str z.1 s.toNat).size=64:=by rw[eo];exact k3 _ (Ag hlt)
 have hlen:z.2.length=1:=by rw[hz];rfl
 have h0:rdL o69 z.2 0=(s,b++(rdL Ty.str z.1 s.toNat).extract 1 64):=by rw[hz];rfl
 have hc:s7h z keep tear=(q5s z keep (q6b keep 1) (s60 tear) z.1 0, []):=by
  unfold s7h
  rw[Al hk,hlen]
  rfl
 have hfl:flush z=(s4z z.1 (s,b++(rdL Ty.str z.1 s.toNat).extract 1 64), []):=by
  unfold flush
  rw[Al hk,hz]
  rfl
 have hno:o41 keep 0=false→s7h z keep tear=(z.1, []):=fun h=>by
  rw[hc]
  unfold q5s
  rw[h,Ao (by simp)]
 have hyes:o41 keep 0=true→s7h z keep tear=(s4z z.1 (s,(b++(rdL Ty.str z.1 s.toNat).extract 1 64).extract 0 (s60 tear)++(rdL Ty.str z.1 s.toNat).extract (s60 tear) 64), []):=fun h=>by
  have hlast:q6b keep 1=0:=by
   show(if o41 keep 0 then((0:Nat):Int) else q6b keep 0)=0
   rw[Al h];rfl
  rw[hc]
  unfold q5s
  rw[h,Al rfl,hlast,Al (by rfl),h0]
  simp only[hold]
 have hfull:o41 keep 0=true→1≤s60 tear→s7h z keep tear=flush z:=fun h h1=>by
  rw[hyes h,hfl]
  congr 2
  congr 1
  apply p1f
  ·simp only[Af,Bd,hold,hb];omega
  ·intro i hi
   simp only[Af,Bd,hold,hb] at hi
   rw[t1s,u6o,u6o]
   simp only[Af,Bd,hold,hb]
   by_cases h2:i<s60 tear
   ·rw[Al (by omega),Al (by omega),Co]
   ·rw[Ao (by omega),Al (by omega),t1s,Ao (by omega),u6o,hb,hold,Al (by omega)]
    congr 1
    omega
 refine⟨hno,hfull,?_⟩
 cases h:o41 keep 0 with
 | false=>exact .inl (hno h)
 | true=>
  by_cases h1:1≤s60 tear
  ·exact .inr (hfull h h1)
  ·left
   have ht0:s60 tear=0:=by omega
   rw[hyes h,ht0]
   congr 1
   have e1:(b++(rdL Ty.str z.1 s.toNat).extract 1 64).extract 0 0++(rdL Ty.str z.1 s.toNat).extract 0 64=rdL Ty.str z.1 s.toNat:=by
    apply p1f
    ·simp only[Af,Bd,hold,hb];omega
    ·intro i hi
     simp only[Af,Bd,hold,hb] at hi
     rw[t1s,Ao (by rw[Bd];omega),u6o,hold,Al (by rw[Bd];omega)]
     congr 1
     rw[Bd]
     omega
   rw[e1]
   unfold s4z
   show z.1.set s.toNat (rdL Ty.str z.1 s.toNat)=z.1
   rw[eo]
   exact List.set_getElem_self hlt
theorem o4m {d:u0l} (hl:u2t d=true) {a n:Int} (ha:a=0∨a=1) (keep:Hu Int) (tear:Int):∃z,r4i d a n=some z∧
 (o41 keep 0=false→s7h z keep tear=d)∧(o41 keep 0=true→1≤s60 tear→s7h z keep tear=flush z)∧(s7h z keep tear=d∨s7h z keep tear=flush z):=by
 obtain⟨d1,d2,d3,d4,d5⟩:=u7k hl
 obtain⟨f1,f2⟩:=u96 ha
 have hob:=q3w (s:=u0e a) d1 d3 (by omega) (by rw[d2];rcases ha with rfl | rfl<;>omega) (u2r n)
 have hz1:=(u9a hob).2.1
 have hd:(d.1,([] :Hu (Int×Hs)))=d:=by rw[←d3]
 obtain⟨c1,c2,c3⟩:=o1q hz1 rfl (u2r n) keep tear
 rw[hd] at c1 c3
 exact⟨_,hob,c1,c2,c3⟩
theorem p7l {x:u0l} (hl:u2t x=true) (keep:Hu Int) (tear:Int):∃z,o5n x=some z∧u18 z=true∧(∀j:Int,u0k (flush z) j=if j=0 then(t6y (IntKind.i64.wrap (u39 x 0+1))++(rdL Ty.str x.1 0).extract 1 64,true) else u0k x j)∧(flush z).1.length=97∧
 (o41 keep 0=false→s7h z keep tear=x)∧(o41 keep 0=true→1≤s60 tear→s7h z keep tear=flush z)∧(s7h z keep tear=x∨s7h z keep tear=flush z):=by
 obtain⟨d1,d2,d3,d4,d5⟩:=u7k hl
 have hob:=q3w (s:=0) d1 d3 (by omega) (by rw[d2];omega) (u2r (IntKind.i64.wrap (u39 x 0+1)))
 have hz1:=(u9a hob).2.1
 have hd:(x.1,([] :Hu (Int×Hs)))=x:=by rw[←d3]
 obtain⟨c1,c2,c3⟩:=o1q hz1 rfl (u2r (IntKind.i64.wrap (u39 x 0+1))) keep tear
 rw[hd] at c1 c3
 refine⟨_,hob,hz1,fun j=> ?_,by rw[(s0u hz1).2.2];exact d2,c1,c2,c3⟩
 rw[t44 hz1]
 by_cases e:j=0
 ·rw[Al e,e]
  unfold u0k
  rw[Al (by show _∧_<(x.1.length:Int);rw[d2];omega)]
  simp[t3i]
 ·rw[Ao e]
  have hne: ¬(0:Int)=j:=fun z=>e z.symm
  unfold u0k
  simp only[t3i,Bs,List.foldl_nil,hne,Bk,d3]
theorem j15 {x z:u0l} (hl:u2t x=true) (hz1:u18 z=true) (hlen:(flush z).1.length=97) (hrd:∀j:Int,u0k (flush z) j=if j=0 then(t6y (IntKind.i64.wrap (u39 x 0+1))++(rdL Ty.str x.1 0).extract 1 64,true) else u0k x j):
 u2t (flush z)=true∧u01 (flush z)=1 - u01 x∧u0c (flush z) 0=u0c x 0∧u0c (flush z) 1=u0c x 1:=by
 obtain⟨d1,d2,d3,d4,d5⟩:=u7k hl
 obtain⟨c1,c2,c3⟩:=s0u hz1
 have r0:u0c (flush z) 0=u0c x 0:=t3b (fun q hq=>by
  have:=(u96 (a:=0) (.inl rfl)).1
  rw[hrd,Ao (by omega)])
 have r1:u0c (flush z) 1=u0c x 1:=t3b (fun q hq=>by
  have:=(u96 (a:=1) (.inr rfl)).1
  rw[hrd,Ao (by omega)])
 have hb:=p81 (u0k x 0).1
 refine⟨q6c c1 hlen c2 (by rw[r0];exact d4) (by rw[r1];exact d5),?_,r0,r1⟩
 unfold u01 u39
 rw[hrd,Al rfl]
 have w:IntKind.i64.wrap (u39 x 0+1)=u39 x 0+1:=by unfold u39;exact y4y (by omega) (by omega)
 have e:q90 (t6y (IntKind.i64.wrap (u39 x 0+1))++(rdL Ty.str x.1 0).extract 1 64)=(u39 x 0+1) % 256:=by
  rw[w,q66,t1s,Al (by rw[u2r];omega)]
  unfold t6y r2z
  rw[s6z,o5q]
  simp only[u8s,C8,Eh,List.getD_cons_zero]
  rw[Gg]
  omega
 show Int.tmod (q90 _) 2=_
 rw[e]
 have hf:u39 x 0=q90 (u0k x 0).1:=rfl
 rw[hf]
 generalize q90 (u0k x 0).1=n at*
 obtain⟨m,rfl⟩:∃m:Nat,n=(m:Int):=⟨n.toNat,by omega⟩
 have t1:Int.tmod (m:Int) 2=((m % 2:Nat):Int):=o5k m 2
 have t2:Int.tmod (((m:Int)+1) % 256) 2=((((m+1) % 256) % 2:Nat):Int):=by
  have:((m:Int)+1) % 256=(((m+1) % 256:Nat):Int):=by omega
  rw[this]
  exact o5k ((m+1) % 256) 2
 rw[t1,t2]
 omega
end
section
theorem o7a {d y:u0l} {t:Hs} (h:append_ d t=some y):u2t d=true∧u2t y=true∧u0f y=u0f d++ [t] :=by
 unfold append_ at h
 split at h
 ·rename_i hl
  obtain⟨p1,p2,p3,p4,p5⟩:=o9r hl (t9h d) h
  refine⟨hl,p1,?_⟩
  unfold u0f
  rw[p2,p5]
 ·cases h
theorem j00 {d:u0l} {l:Hu Hs} (hl:u2t d=true) (hn:l.length≤255) (hr:o7y l≤3008) (ht:∀t∈l,t.size≠0∧t.size≤3008):
 ∃x,r2x d l=some x∧u2t x=true∧u01 x=u01 d∧u0f x=u0f d∧(u0c x (u6e d)).1=l:=by
 obtain⟨a1,a2⟩:=t9x d
 obtain⟨f1,f2,f3,f4,f5⟩:=p3r hl
 obtain⟨y,y1,y2,y3,y4,y5⟩:=o2p a1 (l:=l) f1 (by rw[f5];omega) (by rw[f4];simp only;omega) ht
 rw[←a2] at y4
 refine⟨y,by unfold r2x;rw[hl,Al rfl];exact y1,y2,y3.trans f2,?_,by rw[y5,f4];simp⟩
 unfold u0f
 rw[y3.trans f2,y4,f3]
theorem o7h {d x:u0l} {l:Hu Hs} (hx:r2x d l=some x) (h1:u2t x=true) (h2:u01 x=u01 d) (h3:u0f x=u0f d) (h4:(u0c x (u6e d)).1=l) (hl:u2t d=true):
 ∃y,s90 d l=some y∧u2t y=true∧u0f y=l∧ ∀(step:Int) (keep:Hu Int) (tear:Int),
  (step=0→u2t (t41 d l step keep tear)=true∧u0f (t41 d l step keep tear)=u0f d)∧(step=1→t41 d l step keep tear=x)∧
  (step≠0→step≠1→step≠2→t41 d l step keep tear=y)∧
  (step=2→(o41 keep 0=false→t41 d l step keep tear=x)∧(o41 keep 0=true→1≤s60 tear→t41 d l step keep tear=y)∧(t41 d l step keep tear=x∨t41 d l step keep tear=y)):=by
 obtain⟨a1,a2⟩:=t9x d
 obtain⟨z,hz,hz1,hrd,hlen,_⟩:=p7l h1 [] 0
 obtain⟨t1,t2,t3,t4⟩:=j15 h1 hz1 hlen hrd
 have hsw:s90 d l=some (flush z):=by unfold s90;rw[hx];simp only[Dc,hz,orD]
 have htx:u0f (flush z)=l:=by
  have ho:u01 (flush z)=u6e d:=by rw[t2,h2];rfl
  unfold u0f
  rw[ho,←h4]
  rcases a1 with q | q<;>rw[q]
  ·rw[t3]
  ·rw[t4]
 refine⟨flush z,hsw,t1,htx,fun step keep tear=> ?_⟩
 obtain⟨c,hc,c1,c2,c3⟩:=o4m hl (n:=0) a1 keep tear
 obtain⟨z',hz',_,_,_,g1,g2,g3⟩:=p7l h1 keep tear
 rw[hz] at hz'
 cases hz'
 have e0:∀st,t41 d l st keep tear=(if st=0 then s7h c keep tear else if st=1 then x else if st=2 then s7h z keep tear else flush z):=fun st=>by
  unfold t41
  rw[hx]
  simp only[hc,orD,hz]
 have hf0:flush c=s33 d:=by unfold s33;rw[hc];rfl
 obtain⟨f1,f2,f3,f4,f5⟩:=p3r hl
 have htx0:u0f (s33 d)=u0f d:=by unfold u0f;rw[f2,f3]
 refine⟨fun s0=> ?_,fun s1=> ?_,fun n0 n1 n2=> ?_,fun s2=> ?_⟩
 ·rw[e0,Al s0]
  rcases c3 with q | q
  ·rw[q];exact⟨hl,rfl⟩
  ·rw[q,hf0];exact⟨f1,htx0⟩
 ·rw[e0,Ao (by omega),Al s1]
 ·rw[e0,Ao n0,Ao n1,Ao n2]
 ·have e:t41 d l step keep tear=s7h z keep tear:=by rw[e0,Ao (by omega),Ao (by omega),Al s2]
  rw[e]
  exact⟨g1,g2,g3⟩
end
section
structure Like0 (b e:u0i):Prop where
 vs:b.1=u2g e.1 e.2.2.2.1
 past:b.2.1= []
 ready:b.2.2.1=e.2.2.1
 cs:b.2.2.2.1=e.2.2.2.1
theorem o27 (b:u0i):∀(o:Hu u0g),s1r b o≤b.2.2.2.1:=by
 intro o
 have key:∀(o:Hu u0g) (m:Int),o.foldl (fun m t=>if t.2.2.1<m then t.2.2.1 else m) m≤m:=by
  intro o
  induction o with
  | nil=>intro m;exact Bv _
  | cons t o ih=>
   intro m
   rw[Bs]
   refine Int.le_trans (ih _) ?_
   split<;>omega
 exact key o _
theorem o7o (b:u0i):s1r b [] =b.2.2.2.1:=rfl
theorem Like0.tidy {b e:u0i} (h:Like0 b e) (he:BaseR e) (o:Hu u0g):Like0 b (u3q e o):=
 ⟨by rw[h.vs];exact(q6n (j0l.mp he.vs).2.1 (o27 e o)).symm,h.past,h.ready,h.cs⟩
theorem s5m {x:u0i} (hp:∀t∈x.2.1,t.2.2.2.1≤x.2.2.2.1):u3q x [] =(u2g x.1 x.2.2.2.1, [],x.2.2):=by
 unfold u3q
 rw[o7o]
 congr 2
 rw[List.filter_eq_nil_iff]
 intro t ht
 simp[hp t ht]
theorem Like0.self {b e:u0i} (h:Like0 b e) (he:BaseR e):u3q b [] =b:=by
 rw[s5m (by rw[h.past];intro t ht;cases ht)]
 obtain⟨b1,b2,b3⟩:=b
 have h1:=h.vs
 have h2:=h.past
 have h4:=h.cs
 simp only at h1 h2 h4
 rw[h4,h1,h2,q6n (j0l.mp he.vs).2.1 (Bv _)]
theorem o7i {d d' x:u0g} (h1:d.1=d'.1) (h2:d.2.1=d'.2.1) (h3:d.2.2.1=d'.2.2.1) (h4:d.2.2.2.1=d'.2.2.2.1) (h5:d.2.2.2.2.2.1=d'.2.2.2.2.2.1):p03 d x=p03 d' x:=by
 have:ahead x d=ahead x d' :=by unfold ahead q87 o29;rw[h1,h2,h3,h4,h5]
 unfold p03;rw[this]
theorem Like0.vlen {b e:u0i} (h:Like0 b e):b.1.length≤e.1.length:=by rw[h.vs];exact(t1y _ _).length_le
theorem q9n {b e:u0i} {t u:u0g} (h:Like0 b e) (he:BaseR e) (hb:BaseR b) (hc:e.2.2.2.1<9999) (hv:e.1.length≤100) (hu:TxnR u) (h9:u.1<9999) (hs:u.2.2.1≤e.2.2.2.1)
 (h1:u.1=t.1) (h3:u.2.2.1=t.2.2.1) (h5:u.2.2.2.2.2.1=t.2.2.2.2.2.1):
 u79 (u3q (u0y b u) [])=true∧Like0 (u3q (u0y b u) []) (u0y e t):=by
 have hR:BaseR (u0y b u):=o3s hb hu (by rw[h.cs];exact hs) (by rw[h.cs];exact hc) (by rw[h.past];simp) (by have:=h.vlen;omega) (by rw[h.past];intro x hx;cases hx) h9
 refine⟨p7i.mpr (s3f hR _),?_⟩
 rw[s5m (fun x hx=>(hR.past x hx).2.2)]
 obtain⟨v1,v2,v3⟩:=j0l.mp he.vs
 refine⟨?_,rfl,?_,?_⟩
 ·show u2g (t9k b.1 u.2.2.2.2.2.1 (b.2.2.2.1+1)) (b.2.2.2.1+1)=u2g (t9k e.1 t.2.2.2.2.2.1 (e.2.2.2.1+1)) (e.2.2.2.1+1)
  rw[h.cs,h.vs,h5]
  exact j1z v2 (h5 ▸ o3y hu.ws) fun x hx=>by have:=he.vcs x hx;unfold vCs;omega
 ·show(b.2.2.1.filter fun x=> !decide (x.1=u.1)).map (p03 (s32 b u))=(e.2.2.1.filter fun x=> !decide (x.1=t.1)).map (p03 (s32 e t))
  rw[h.ready,h1]
  refine Ff fun x _=>o7i h1 rfl h3 ?_ h5
  show b.2.2.2.1+1=e.2.2.2.1+1
  rw[h.cs]
 ·show b.2.2.2.1+1=e.2.2.2.1+1
  rw[h.cs]
theorem j3x {b:u0i} {n:Hs} :u0n b n<0↔ ∀x∈b.2.2.1,x.2.2.2.2.2.2.2≠n:=by
 unfold u0n
 constructor
 ·intro h x hx e
  obtain⟨i,hi,rfl⟩:=B7 hx
  obtain⟨k,hk,hr⟩:=o7u b hi e
  unfold u0n at hr
  rw[hr] at h;omega
 ·intro h
  split
  ·rename_i q
   have:=u9c q
   exact absurd (y7f.mp this) (h _ (Ag q))
  ·omega
theorem s15 {b:u0i} {n:Hs} (h: ¬u0n b n<0):∃(k:Nat) (hk:k<b.2.2.1.length),u0n b n=(k:Int)∧b.2.2.1[k].2.2.2.2.2.2.2=n:=by
 unfold u0n at h ⊢
 split at h
 ·rename_i q
  rw[Al q]
  exact⟨_,q,rfl,y7f.mp (u9c q)⟩
 ·omega
theorem r89 {b e:u0i} (h:b.2.2.1=e.2.2.1) (n:Hs):u0n b n=u0n e n:=by unfold u0n;rw[h]
theorem p60 {b e:u0i} {t:u0g} (h:Like0 b e) (he:BaseR e) (hb:BaseR b) (hc:e.2.2.2.1<9999) (hv:e.1.length≤100) (ht:TxnR t) (h9:t.1<9999) (hs:t.2.2.1≤e.2.2.2.1):
 ∃x,u8b b (1,s32 e t,emp,false,u2u)=some x∧BaseR x∧Like0 x (u0y e t):=by
 have hD:=o4q (b:=e) ht hs hc
 obtain⟨k1,k2⟩:=q9n (t:=t) (u:=s32 e t) h he hb hc hv hD h9 hs rfl rfl rfl
 refine⟨_,?_,p7i.mp k1,k2⟩
 unfold u8b
 rw[Al ⟨p7i.mpr hb,j2x.mpr (.thr _ hD rfl)⟩]
 have e1:u2f b (1,s32 e t,emp,false,u2u)=some (u0y b (s32 e t)):=by
  unfold u2f
  rw[Al rfl,Al (by show e.2.2.2.1+1=b.2.2.2.1+1;rw[h.cs])]
 rw[e1]
 simp only
 rw[Al k1]
theorem o7r {b e:u0i} {n:Hs} {k:Nat} (h:Like0 b e) (he:BaseR e) (hb:BaseR b) (hc:e.2.2.2.1<9999) (hv:e.1.length≤100) (hn:u8d n=true) (hk:k<e.2.2.1.length) (hr:u0n e n=(k:Int)):
 ∃x,u8b b (3,u6k,n,true,u2u)=some x∧BaseR x∧Like0 x (u0y e e.2.2.1[k]):=by
 obtain⟨q1,q2,q3⟩:=he.ready _ (Ag hk)
 have h9:e.2.2.1[k].1<9999:=by
  have:=s5x.mp he.below _ (Az e.2.1 (Ag hk))
  have:=he.next.2;omega
 obtain⟨k1,k2⟩:=q9n (t:=e.2.2.1[k]) (u:=e.2.2.1[k]) h he hb hc hv q1 h9 q3 rfl rfl rfl
 refine⟨_,?_,p7i.mp k1,k2⟩
 unfold u8b
 rw[Al ⟨p7i.mpr hb,j2x.mpr (.fin _ _ hn)⟩]
 have e1:u2f b (3,u6k,n,true,u2u)=some (u0y b e.2.2.1[k]):=by
  unfold u2f
  simp only
  rw[Ao (by decide),Ao (by decide),Al trivial,r89 h.ready,hr,Ao (by omega),Al trivial,zTn]
  congr 2
  rw[h.ready]
  exact y8k (t:=u0x) hk
 rw[e1]
 simp only
 rw[Al k1]
theorem o9l {b e:u0i} {n:Hs} {k:Nat} (h:Like0 b e) (he:BaseR e) (hb:BaseR b) (hn:u8d n=true) (hk:k<e.2.2.1.length) (hr:u0n e n=(k:Int)):
 ∃x,u8b b (3,u6k,n,false,u2u)=some x∧BaseR x∧Like0 x (t9j e n):=by
 have hR:=p3t hb n
 refine⟨u3q (t9j b n) [],?_,s3f hR _,?_⟩
 ·unfold u8b
  rw[Al ⟨p7i.mpr hb,j2x.mpr (.fin _ _ hn)⟩]
  have e1:u2f b (3,u6k,n,false,u2u)=some (t9j b n):=by
   unfold u2f
   simp only
   rw[Ao (by decide),Ao (by decide),Al trivial,r89 h.ready,hr,Ao (by omega),Ao (by decide)]
  rw[e1]
  simp only
  rw[Al (p7i.mpr (s3f hR _))]
 ·rw[s5m (fun x hx=>(hR.past x hx).2.2)]
  refine⟨?_,rfl,?_,h.cs⟩
  ·show u2g b.1 b.2.2.2.1=u2g e.1 e.2.2.2.1
   rw[h.cs,h.vs]
   exact q6n (j0l.mp he.vs).2.1 (Bv _)
  ·show b.2.2.1.filter _=e.2.2.1.filter _
   rw[h.ready]
theorem o3c {b e:u0i} {t:u0g} {n:Hs} (h:Like0 b e) (he:BaseR e) (hb:BaseR b) (ht:TxnR t) (h3:t.2.1≠3) (hn:u8d n=true) (hs:t.2.2.1≤e.2.2.2.1) (hl:e.2.2.1.length<3)
 (hx:∀x∈e.2.2.1,x.2.2.2.2.2.2.2≠n) (hid:∀x∈e.2.2.1,x.1≠t.1) (h9:t.1<9999):
 ∃x,u8b b (2,u6w e t n,emp,false,u2u)=some x∧BaseR x∧Like0 x (u21 e t n):=by
 have hD:=o0l (b:=e) ht h3 hn
 have hrr:u6w b (u6w e t n) n=u6w e t n:=by
  have:q6d (u6w e t n) b.2.1=false:=by rw[h.past];rfl
  unfold u6w at this ⊢
  rw[this,Fp]
 have hR:BaseR (u21 b (u6w e t n) n):=q3v hb hD (by show(2:Int)≠3;omega) (by rw[h.cs];exact hs) hn (by rw[h.ready];exact hl) (by rw[h.ready];exact hx) (by
  rw[h.past,h.ready];exact hid) h9
 refine⟨u3q (u21 b (u6w e t n) n) [],?_,s3f hR _,?_⟩
 ·unfold u8b
  rw[Al ⟨p7i.mpr hb,j2x.mpr (.rdy _ hD rfl)⟩]
  have e1:u2f b (2,u6w e t n,emp,false,u2u)=some (u21 b (u6w e t n) n):=by
   unfold u2f
   simp only
   have hcond:b.2.2.1.length<3∧u0n b (u6w e t n).2.2.2.2.2.2.2<0:=⟨by rw[h.ready];exact hl,by rw[r89 h.ready];exact j3x.mpr hx⟩
   rw[Ao (by decide),Al trivial,Al hcond]
   rfl
  rw[e1]
  simp only
  rw[Al (p7i.mpr (s3f hR _))]
 ·rw[s5m (fun x hx=>(hR.past x hx).2.2)]
  refine⟨?_,rfl,?_,h.cs⟩
  ·show u2g b.1 b.2.2.2.1=u2g e.1 e.2.2.2.1
   rw[h.cs,h.vs]
   exact q6n (j0l.mp he.vs).2.1 (Bv _)
  ·show(b.2.2.1.filter _)++ [u6w b (u6w e t n) n] ++(b.2.2.1.filter _)=(e.2.2.1.filter _)++ [u6w e t n] ++(e.2.2.1.filter _)
   rw[h.ready,hrr]
theorem o24:BaseR o0x:=by
 refine⟨rfl,fun v h=>(by cases h),⟨Bv _,by decide⟩,⟨by decide,by decide⟩,by decide,fun t h=>(by cases h),List.Pairwise.nil,by decide,fun t h=>(by cases h),List.Pairwise.nil,fun x h=>(by cases h),List.Pairwise.nil⟩
theorem o5b {b:u0i} (hb:BaseR b) (hs:u3q b [] =b):u8b o0x (4,u6k,emp,false,b)=some b:=by
 unfold u8b
 rw[Al ⟨p7i.mpr o24,j2x.mpr (.bas b hb)⟩]
 have e1:u2f o0x (4,u6k,emp,false,b)=some b:=by
  unfold u2f
  simp only
  rw[Ao (by decide),Ao (by decide),Ao (by decide)]
 rw[e1]
 simp only
 rw[hs,Al (p7i.mpr hb)]
theorem p74 {d y:u0l} {t:Hs} (h:s90 d [t] =some y):u2t d=true∧u2t y=true∧u0f y= [t] :=by
 obtain⟨x,hx⟩:∃x,r2x d [t] =some x:=by
  cases q:r2x d [t] with
  | none=>unfold s90 at h;rw[q] at h;cases h
  | some x=>exact⟨x,rfl⟩
 have hl:u2t d=true:=by
  unfold r2x at hx
  split at hx
  ·assumption
  ·cases hx
 obtain⟨a1,a2⟩:=t9x d
 obtain⟨f1,f2,f3,f4,f5⟩:=p3r hl
 have hp:∃z,q70 (s33 d) (u6e d) t=some z:=by
  unfold r2x at hx
  rw[Al hl] at hx
  cases q:q70 (s33 d) (u6e d) t with
  | none=>simp only[s70,q] at hx;cases hx
  | some z=>exact⟨z,rfl⟩
 obtain⟨z,hz⟩:=hp
 obtain⟨w,hw,_⟩:=o9s (u7k f1).2.1 hz
 obtain⟨E,hE,g1,g2,g3,g4,g5⟩:=p80 hw
 obtain⟨x',x1,x2,x3,x4,x5⟩:=j00 (l:= [t]) hl (by simp) (by simp[o7y];omega) (fun u hu=>by simp at hu;subst hu;exact⟨g3,g4⟩)
 rw[hx] at x1
 cases x1
 obtain⟨y',y1,y2,y3,_⟩:=o7h hx x2 x3 x4 x5 hl
 rw[h] at y1
 cases y1
 exact⟨hl,y2,y3⟩
def o4j (d:u0l):Ht u0l:=match t1u (u0f d) with
 | none=>none
 | some b=>if(u0r (4,u6k,emp,false,b)).2=true then s90 d [(u0r (4,u6k,emp,false,b)).1] else none
def u97 (d:u0l) (r:s7e):Ht u0l:=
 if(u0r r).2=true then(match append_ d (u0r r).1 with
  | some y=>some y
  | none=>match o4j d with
   | none=>none
   | some z=>append_ z (u0r r).1)
 else none
theorem o50 {d y:u0l} {b:u0i} (hp:t1u (u0f d)=some b) (hb:BaseR b) (hs:u3q b [] =b) (h:o4j d=some y):u2t d=true∧u2t y=true∧t1u (u0f y)=some b:=by
 unfold o4j at h
 rw[hp] at h
 simp only at h
 rw[t5d (.bas b hb),Al rfl] at h
 obtain⟨h1,h2,h3⟩:=p74 h
 refine⟨h1,h2,?_⟩
 rw[h3]
 unfold t1u
 simp only[s3q]
 rw[r86 (.bas b hb)]
 simp only
 rw[o5b hb hs]
theorem p1g {d y:u0l} {b x:u0i} {r:s7e} (hp:t1u (u0f d)=some b) (hb:BaseR b) (hs:u3q b [] =b) (hr:RecR r) (hx:u8b b r=some x) (h:u97 d r=some y):u2t y=true∧t1u (u0f y)=some x:=by
 have step:∀ {d y:u0l},t1u (u0f d)=some b→append_ d (r9c (r9a r))=some y→u2t y=true∧t1u (u0f y)=some x:=by
  intro d y hp h
  obtain⟨h1,h2,h3⟩:=o7a h
  refine⟨h2,?_⟩
  rw[h3]
  unfold t1u at hp ⊢
  rw[o7q,hp]
  simp only[zOb,s3q]
  rw[r86 hr]
  simp only
  rw[hx]
 unfold u97 at h
 rw[t5d hr,Al rfl] at h
 simp only at h
 cases q:append_ d (r9c (r9a r)) with
 | some z=>
  rw[q] at h
  cases h
  exact step hp q
 | none=>
  rw[q] at h
  simp only at h
  cases a:o4j d with
  | none=>rw[a] at h;cases h
  | some z=>
   rw[a] at h
   obtain⟨_,_,z3⟩:=o50 hp hb hs a
   exact step z3 h
end
section
def o40 (x:u0g):Bool:=decide (x.2.1=2) || decide (x.2.1=3)
def o4y (t:u0g) (l:Hu u0g):Bool:=l.any fun x=>o40 x&&ahead x t
def r8b (t:u0g) (l:Hu u0g):Bool:=l.any fun x=> !decide (x.1=t.1)&&((decide (x.2.1=2) || (decide (x.2.1=3)&&decide (x.2.2.2.1 >t.2.2.1)))&&q0g x.2.2.2.2.2.1 t.2.2.2.2.2.1)
def r2u (f:u0g→Bool) (t:u0g) (l:Hu u0g):Bool:=
 (o4y t l&&q6d t l) || (l.any (fun x=>o40 x&&(x.2.2.2.2.2.2.1&&ahead t x)) ||
  l.any fun p=>decide (p.2.1=2)&&(ahead p t&&(ahead t p || l.any fun x=>decide (x.2.1=2)&&(f x&&ahead x p))))
def q2j (t:u0g) (l:Hu u0g):Bool:=r2u (fun x=> !decide (x.1=t.1)) t l
def q9j (f:u0g→Bool) (t:u0g) (l:Hu u0g):Bool:=
 r2u f t l || ((o4y t l&&l.any fun x=>decide (x.2.1=2)&&ahead t x) || l.any fun x=>(decide (x.2.1=2)&&ahead t x)&&l.any fun y=>decide (y.2.1=2)&&(!decide (y.1=t.1)&&ahead x y))
def s6y (t:u0g) (l:Hu u0g):Bool:=q9j (fun x=> !decide (x.1=t.1)) t l
structure SameC (x y:u0g):Prop where
 id:x.1=y.1
 st:x.2.1=y.2.1
 snap:x.2.2.1=y.2.2.1
 cs:x.2.2.2.1=y.2.2.2.1
 rs:x.2.2.2.2.1=y.2.2.2.2.1
 ws:x.2.2.2.2.2.1=y.2.2.2.2.2.1
structure Ser (H:Hu u0g) (e:u2v):Prop where
 eng:EngR e
 st:∀x∈H,x.2.1=3
 snap:∀x∈H,x.2.2.1<x.2.2.2.1∧x.2.2.2.1≤e.1.2.2.2.1
 asc:H.Pairwise fun x y=>x.2.2.2.1<y.2.2.2.1
 uqh:uq (H++(e.1.2.2.1++e.2))
 bel:∀x∈H,x.1<e.1.2.2.2.2
 pin:∀x∈e.1.2.1,∃y∈H,SameC x y
 cov:∀y∈H,∀o∈e.2,o.2.2.1<y.2.2.2.1→ ∃x∈e.1.2.1,SameC x y
 outp:∀x∈e.1.2.1,∀y∈H,ahead x y=true→y.2.2.2.1<x.2.2.2.1→x.2.2.2.2.2.2.1=true
 outr:∀p∈e.1.2.2.1,∀y∈H,ahead p y=true→p.2.2.2.2.2.2.1=true
 no3:∀x∈H,∀y∈H,∀z∈H,ahead x y=true→ahead y z=true→z.2.2.2.1<y.2.2.2.1→z.2.2.2.1≤x.2.2.2.1→False
 noA:∀x∈H,∀p∈e.1.2.2.1,∀z∈H,ahead x p=true→ahead p z=true→z.2.2.2.1≤x.2.2.2.1→False
 noB:∀p∈e.1.2.2.1,∀y∈H,∀z∈H,ahead p y=true→ahead y z=true→z.2.2.2.1<y.2.2.2.1→False
 noD:∀p∈e.1.2.2.1,∀q∈e.1.2.2.1,∀z∈H,ahead p q=true→ahead q z=true→False
 noE:∀p∈e.1.2.2.1,∀q∈e.1.2.2.1,∀r∈e.1.2.2.1,ahead p q=true→ahead q r=true→False
 ww:∀x∈H,∀y∈H,x.2.2.2.1<y.2.2.2.1→q0g x.2.2.2.2.2.1 y.2.2.2.2.2.1=true→x.2.2.2.1≤y.2.2.1
 wr:∀p∈e.1.2.2.1,∀y∈H,q0g y.2.2.2.2.2.1 p.2.2.2.2.2.1=true→y.2.2.2.1≤p.2.2.1
 rr:∀p∈e.1.2.2.1,∀q∈e.1.2.2.1,p.1≠q.1→q0g p.2.2.2.2.2.1 q.2.2.2.2.2.1=true→False
def d1w (c:Int) (t:u0g):u0g:=(t.1,(3:Int),t.2.2.1,c,t.2.2.2.2.1,t.2.2.2.2.2.1,t.2.2.2.2.2.2.1,(⟨#[]⟩:Hs))
structure Passed (t:u0g) (P R:Hu u0g):Prop where
 nb:∀x∈P++R,x.1≠t.1→(x.2.1=2∨(x.2.1=3∧x.2.2.2.1 >t.2.2.1))→q0g x.2.2.2.2.2.1 t.2.2.2.2.2.1=true→False
 d1:∀x∈P++R,∀y∈P,ahead x t=true→ahead t y=true→False
 d2:∀x∈P++R,x.2.2.2.2.2.2.1=true→ahead t x=true→False
 d3:∀p∈R,ahead p t=true→ahead t p=true→False
 d4:∀p∈R,∀x∈R,ahead p t=true→ahead x p=true→x.1≠t.1→False
end
section
abbrev u1w:=u2v×u0l
def o0w:s7e:=(0,u6k,emp,false,u2u)
def u55 (o:Hu u0g) (id:Int):Int:=if u0p (fun x:u0g=>decide (x.1=id)) o<o.length then((u0p (fun x:u0g=>decide (x.1=id)) o:Nat):Int) else -1
def u3b (e:u2v) (id:Int):u0g:=rdL u0x e.2 (u55 e.2 id).toNat
def t39 (e:u2v):Hu u0g:=e.1.2.1++e.1.2.2.1
def s52 (e:u2v) (id:Int):Int:=
 if u55 e.2 id<0 then 1 else if r8b (u3b e id) (t39 e)=true then 4 else if q2j (u3b e id) (t39 e)=true then 5 else if q0f e.1=true then 3 else 0
def u2n (e:u2v) (id:Int):u2v×s7e×Int:=
 if s52 e id=1 then(e,o0w,1) else if s52 e id=0 then(s5z e (u3b e id),(1,s32 e.1 (u3b e id),emp,false,u2u),0) else(s8g e id,o0w,s52 e id)
def r91 (e:u2v) (id:Int):Int:=
 if s52 e id≠0 then s52 e id else if s6y (u3b e id) (t39 e)=true then 5 else if 3≤e.1.2.2.1.length then 3 else 0
def s34 (e:u2v) (id:Int) (n:Hs):u2v×s7e×Int:=
 if u55 e.2 id<0 then(e,o0w,1) else if u8d n=false then(e,o0w,2) else if 0≤u0n e.1 n then(e,o0w,6)
 else if r91 e id=0 then(o9m e (u3b e id) n,(2,u6w e.1 (u3b e id) n,emp,false,u2u),0) else(s8g e id,o0w,r91 e id)
def q7t (e:u2v) (n:Hs) (yes:Bool):u2v×s7e×Int:=
 if u0n e.1 n<0 then(e,o0w,1) else if yes=true∧q0f e.1=true then(e,o0w,3)
 else if yes=true then(j8p e (rdL u0x e.1.2.2.1 (u0n e.1 n).toNat),(3,u6k,n,true,u2u),0) else(noE e n,(3,u6k,n,false,u2u),0)
def r1h (e:u2v) (id:Int):u2v×Int:=if u55 e.2 id<0 then(e,1) else(s8g e id,0)
def s4q (e:u2v):u2v×Int×Int:=if e.2.length<4∧e.1.2.2.2.2<9999 then(j2s e,e.1.2.2.2.2,0) else(e,0,3)
def j65 (l:Hu s7f) (r:s7f):Bool:=l.any fun x=>z7o x.1 r.1&&z7o x.2 r.2
def d0z (t:u0g) (r:s7f):u0g:=(t.1,t.2.1,t.2.2.1,t.2.2.2.1,t.2.2.2.2.1++ [r],t.2.2.2.2.2)
def s7l (t:u0g) (r:s7f):u0g×Bool:=if j65 t.2.2.2.2.1 r=true then(t,true) else if t.2.2.2.2.1.length<8 then(d0z t r,true) else(t,false)
def j67 (t:u0g) (l:Hu WrT):u0g:=(t.1,t.2.1,t.2.2.1,t.2.2.2.1,t.2.2.2.2.1,l,t.2.2.2.2.2.2)
def s7b (t:u0g) (w:WrT):u0g×Bool:=if(o0y t.2.2.2.2.2.1 w).length≤8 then(j67 t (o0y t.2.2.2.2.2.1 w),true) else(t,false)
def s7k (e:u2v) (id:Int) (r:s7f) (right:Bool):u2v×Int:=
 if u55 e.2 id<0 then(e,1) else if right=false then(e,2) else if(s7l (u3b e id) r).2=true then(p4l e (u55 e.2 id).toNat (s7l (u3b e id) r).1,0) else(e,3)
def o3d (e:u2v) (id:Int) (w:WrT):u2v×Int:=
 if u55 e.2 id<0 then(e,1) else if u29 w=false then(e,2) else if(s7b (u3b e id) w).2=true then(p4l e (u55 e.2 id).toNat (s7b (u3b e id) w).1,0) else(e,3)
theorem j4s {o:Hu u0g} {id:Int} :u55 o id<0↔ ∀x∈o,x.1≠id:=by
 unfold u55
 constructor
 ·intro h x hx e
  obtain⟨i,hi,rfl⟩:=B7 hx
  split at h
  ·omega
  ·rename_i q
   have:=u8l (p:=fun x:u0g=>decide (x.1=id)) hi (by have:=t6m (fun x:u0g=>decide (x.1=id)) o;omega)
   simp[e] at this
 ·intro h
  split
  ·rename_i q
   have:=u9c q
   simp only[Ar] at this
   exact absurd this (h _ (Ag q))
  ·omega
theorem u2c {e:u2v} {id:Int} (h: ¬u55 e.2 id<0):∃(k:Nat) (hk:k<e.2.length),u55 e.2 id=(k:Int)∧u3b e id=e.2[k] ∧e.2[k].1=id:=by
 unfold u3b
 unfold u55 at h ⊢
 split at h
 ·rename_i q
  rw[Al q]
  refine⟨_,q,rfl,?_,?_⟩
  ·rw[zTn];exact y8k (t:=u0x) q
  ·simpa using u9c q
 ·omega
theorem s9d {e:u2v} {id:Int} (h:s52 e id=0): ¬u55 e.2 id<0∧r8b (u3b e id) (t39 e)=false∧q2j (u3b e id) (t39 e)=false∧q0f e.1=false:=by
 unfold s52 at h
 split at h
 ·omega
 ·rename_i h1
  split at h
  ·omega
  ·rename_i h2
   split at h
   ·omega
   ·rename_i h3
    split at h
    ·omega
    ·rename_i h4
     exact⟨h1,by simpa using h2,by simpa using h3,by simpa using h4⟩
theorem j8j {e:u2v} {id:Int} :s52 e id=1↔u55 e.2 id<0:=by
 unfold s52
 constructor
 ·intro h
  split at h
  ·assumption
  ·split at h
   ·omega
   ·split at h
    ·omega
    ·split at h<;>omega
 ·intro h;rw[Al h]
theorem o9v {e:u2v} {id:Int} (h:u55 e.2 id<0):s1l e id=e.2:=by
 unfold s1l
 rw[F9]
 intro x hx
 simp[j4s.mp h x hx]
theorem j5j {t:u0g} {r:s7f} (h:TxnR t) (hr:u3f r=true) (hl:t.2.2.2.2.1.length<8):TxnR (d0z t r):=
 ⟨h.id,h.st,h.snap,by show(t.2.2.2.2.1++ [r]).length≤8;simp only[Ba,Aw];omega,h.ws,fun x hx=>by
   rcases Ay.mp hx with hx | hx
   ·exact h.rs x hx
   ·rw[Ax] at hx;subst hx;exact hr,h.done,h.nocs,h.name,h.noname,h.out⟩
theorem j3w {t:u0g} {r:s7f} (h:TxnR t) (hr:u3f r=true):TxnR (s7l t r).1∧(s7l t r).1.1=t.1∧(s7l t r).1.2.1=t.2.1∧(s7l t r).1.2.2.1=t.2.2.1∧(s7l t r).1.2.2.2.2.2.1=t.2.2.2.2.2.1:=by
 unfold s7l
 split
 ·exact⟨h,rfl,rfl,rfl,rfl⟩
 ·split
  ·rename_i q;exact⟨j5j h hr q,rfl,rfl,rfl,rfl⟩
  ·exact⟨h,rfl,rfl,rfl,rfl⟩
theorem o9q {l:Hu WrT} {w:WrT} (h:u68 l=true) (hw:u29 w=true) (hl:(o0y l w).length≤8):u68 (o0y l w)=true:=by
 obtain⟨h1,h2,h3⟩:=j2z.mp h
 refine j2z.mpr ⟨fun x hx=> ?_,?_,hl⟩
 ·rcases o0e hx with hx | rfl
  ·exact h1 x hx
  ·exact hw
 ·unfold o0y
  rw[Bi,Cg]
  refine⟨Dz _ h2,?_,?_⟩
  ·rw[Fs,Ch]
   refine⟨fun y hy=> ?_,Dz _ h2⟩
   have:=(A6.mp hy).2
   rw[o2u] at this
   exact this
  ·intro x hx y hy
   have h4:=(A6.mp hx).2
   rcases Ay.mp hy with hy | hy
   ·rw[Ax] at hy;subst hy;exact h4
   ·have h5:=(A6.mp hy).2
    rw[o2u] at h5
    exact q6j h4 h5
theorem j57 {t:u0g} {l:Hu WrT} (h:TxnR t) (hl:u68 l=true):TxnR (j67 t l):=
 ⟨h.id,h.st,h.snap,h.rlen,hl,h.rs,h.done,h.nocs,h.name,h.noname,h.out⟩
theorem j2e {t:u0g} {w:WrT} (h:TxnR t) (hw:u29 w=true):TxnR (s7b t w).1∧(s7b t w).1.1=t.1∧(s7b t w).1.2.1=t.2.1∧(s7b t w).1.2.2.1=t.2.2.1∧(s7b t w).1.2.2.2.2.1=t.2.2.2.2.1:=by
 unfold s7b
 split
 ·rename_i q;exact⟨j57 h (o9q h.ws hw q),rfl,rfl,rfl,rfl⟩
 ·exact⟨h,rfl,rfl,rfl,rfl⟩
theorem j5t {e:u2v} (h:EngR e) {id:Int} {r:s7f} {right:Bool} (hr:right=true→u3f r=true):EngR (s7k e id r right).1:=by
 unfold s7k
 split
 ·exact h
 ·rename_i q
  split
  ·exact h
  ·rename_i hb
   split
   ·obtain⟨k,hk,e1,e2,e3⟩:=u2c q
    obtain⟨o1,o2,o3⟩:=h.open_ _ (Ag hk)
    rw[e1,zTn,e2]
    obtain⟨r1,r2,r3,r4,r5⟩:=j3w o1 (hr (by simpa using hb))
    exact o3o h hk r1 r2 (r3.trans o2) r4
   ·exact h
theorem j55 {e:u2v} (h:EngR e) {id:Int} {w:WrT} :EngR (o3d e id w).1:=by
 unfold o3d
 split
 ·exact h
 ·rename_i q
  split
  ·exact h
  ·rename_i hb
   split
   ·obtain⟨k,hk,e1,e2,e3⟩:=u2c q
    obtain⟨o1,o2,o3⟩:=h.open_ _ (Ag hk)
    rw[e1,zTn,e2]
    obtain⟨r1,r2,r3,r4,r5⟩:=j2e (w:=w) o1 (by simpa using hb)
    exact o3o h hk r1 r2 (r3.trans o2) r4
   ·exact h
theorem o52 {e:u2v} (h:EngR e):EngR (s4q e).1:=by
 unfold s4q
 split
 ·rename_i q;exact j3l h q.1 q.2
 ·exact h
theorem o85 {e:u2v} (h:EngR e) (id:Int):EngR (u2n e id).1:=by
 unfold u2n
 split
 ·exact h
 ·split
  ·rename_i _ q
   obtain⟨h1,h2,h3,h4⟩:=s9d q
   obtain⟨k,hk,e1,e2,e3⟩:=u2c h1
   rw[e2]
   exact o56 h (Ag hk) h4
  ·exact o9e h id
structure Sync (s:u1w) (b:u0i):Prop where
 eng:EngR s.1
 log:u2t s.2=true
 play:t1u (u0f s.2)=some b
 right:BaseR b
 like:Like0 b s.1.1
theorem Like0.of {b e e' :u0i} (h:Like0 b e) (h1:e'.1=e.1) (h2:e'.2.2.1=e.2.2.1) (h3:e'.2.2.2.1=e.2.2.2.1):Like0 b e' :=
 ⟨by rw[h1,h3];exact h.vs,h.past,by rw[h2];exact h.ready,by rw[h3];exact h.cs⟩
theorem Sync.opens {s:u1w} {b:u0i} {e:u2v} (h:Sync s b) (he:EngR e) (h1:e.1.1=s.1.1.1) (h2:e.1.2.2.1=s.1.1.2.2.1) (h3:e.1.2.2.2.1=s.1.1.2.2.2.1):Sync (e,s.2) b:=
 ⟨he,h.log,h.play,h.right,h.like.of h1 h2 h3⟩
theorem Sync.leave {s:u1w} {b:u0i} (h:Sync s b) (id:Int):Sync (s8g s.1 id,s.2) b:=
 ⟨o9e h.eng id,h.log,h.play,h.right,h.like.tidy h.eng.base _⟩
theorem Sync.own {s:u1w} {b:u0i} (h:Sync s b):u3q b [] =b:=h.like.self h.eng.base
def u7r (s:u1w) (id:Int):u1w×Int:=
 if(u2n s.1 id).2.2=0 then(match u97 s.2 (u2n s.1 id).2.1 with
  | some d=>(((u2n s.1 id).1,d),0)
  | none=>((s8g s.1 id,s.2),3))
 else(((u2n s.1 id).1,s.2),(u2n s.1 id).2.2)
def r9e (s:u1w) (id:Int) (n:Hs):u1w×Int:=
 if(s34 s.1 id n).2.2=0 then(match u97 s.2 (s34 s.1 id n).2.1 with
  | some d=>(((s34 s.1 id n).1,d),0)
  | none=>((s8g s.1 id,s.2),3))
 else(((s34 s.1 id n).1,s.2),(s34 s.1 id n).2.2)
def p4m (s:u1w) (n:Hs) (yes:Bool):u1w×Int:=
 if(q7t s.1 n yes).2.2=0 then(match u97 s.2 (q7t s.1 n yes).2.1 with
  | some d=>(((q7t s.1 n yes).1,d),0)
  | none=>(s,3))
 else(s,(q7t s.1 n yes).2.2)
def j01 (s:u1w):u1w×Bool:=match o4j s.2 with
 | some d=>((s.1,d),true)
 | none=>(s,false)
def j56 (d:u0l):Ht u1w:=if u2t d=true then(match t1u (u0f d) with
 | some b=>some ((b, []),d)
 | none=>none) else none
theorem Sync.commit {s:u1w} {b:u0i} (h:Sync s b) (id:Int):∃b',Sync (u7r s id).1 b' ∧(b' =b∨((u7r s id).2=0∧s52 s.1 id=0∧u8b b (1,s32 s.1.1 (u3b s.1 id),emp,false,u2u)=some b')):=by
 have hE:=h.eng
 unfold u7r
 by_cases c0:(u2n s.1 id).2.2=0
 ·rw[Al c0]
  have j0:s52 s.1 id=0:=by
   unfold u2n at c0
   split at c0
   ·cases c0
   ·split at c0
    ·assumption
    ·exact c0
  have ec:u2n s.1 id=(s5z s.1 (u3b s.1 id),(1,s32 s.1.1 (u3b s.1 id),emp,false,u2u),0):=by
   unfold u2n;rw[Ao (by omega),Al j0]
  obtain⟨h1,h2,h3,h4⟩:=s9d j0
  obtain⟨k,hk,e1,e2,e3⟩:=u2c h1
  have ht:u3b s.1 id∈s.1.2:=by rw[e2];exact Ag hk
  obtain⟨f1,f2,f3⟩:=p98 h4
  obtain⟨tR,t1,ts⟩:=hE.open_ _ ht
  have h9:(u3b s.1 id).1<9999:=by have:=hE.bel _ (Az _ ht);have:=hE.base.next.2;omega
  obtain⟨x,p1,p2,p3⟩:=p60 (t:=u3b s.1 id) h.like hE.base h.right f3 f2 tR h9 ts
  rw[ec]
  simp only
  cases hk2:u97 s.2 (1,s32 s.1.1 (u3b s.1 id),emp,false,u2u) with
  | none=>exact⟨b,h.leave id, .inl rfl⟩
  | some d=>
   obtain⟨l1,l2⟩:=p1g h.play h.right h.own (.thr _ (o4q tR ts f3) rfl) p1 hk2
   have hR:=o56 hE ht h4
   exact⟨x,⟨hR,l1,l2,p2,p3.tidy (r1m hE (.inl ht) h4) _⟩, .inr ⟨rfl,j0,p1⟩⟩
 ·rw[Ao c0]
  refine⟨b,?_, .inl rfl⟩
  unfold u2n
  split
  ·exact h
  ·split
   ·rename_i q1 q2
    exfalso;apply c0
    unfold u2n;rw[Ao q1,Al q2]
   ·exact h.leave id
theorem j53 {e:u2v} {id:Int} (h:r91 e id=0):s52 e id=0∧s6y (u3b e id) (t39 e)=false∧e.1.2.2.1.length<3:=by
 unfold r91 at h
 split at h
 ·rename_i q;exact absurd h q
 ·rename_i q
  split at h
  ·omega
  ·rename_i q2
   split at h
   ·omega
   ·exact⟨by omega,by simpa using q2,by omega⟩
theorem o9n {e:u2v} {id:Int} {n:Hs} (h:(s34 e id n).2.2=0): ¬u55 e.2 id<0∧u8d n=true∧u0n e.1 n<0∧r91 e id=0∧s34 e id n=(o9m e (u3b e id) n,(2,u6w e.1 (u3b e id) n,emp,false,u2u),0):=by
 unfold s34 at h ⊢
 split at h
 ·cases h
 ·rename_i q1
  split at h
  ·cases h
  ·rename_i q2
   split at h
   ·cases h
   ·rename_i q3
    split at h
    ·rename_i q4
     exact⟨q1,by simpa using q2,by omega,q4,by rw[Ao q1,Ao q2,Ao q3,Al q4]⟩
    ·rename_i q4
     exact absurd h q4
theorem Sync.prep {s:u1w} {b:u0i} (h:Sync s b) (id:Int) (n:Hs):∃b',Sync (r9e s id n).1 b' ∧(b' =b∨((r9e s id n).2=0∧(s34 s.1 id n).2.2=0∧u8b b (2,u6w s.1.1 (u3b s.1 id) n,emp,false,u2u)=some b')):=by
 have hE:=h.eng
 unfold r9e
 by_cases c0:(s34 s.1 id n).2.2=0
 ·rw[Al c0]
  obtain⟨h1,hn,hr,hc,ec⟩:=o9n c0
  obtain⟨j0,rd,rl⟩:=j53 hc
  obtain⟨k,hk,e1,e2,e3⟩:=u2c h1
  have ht:u3b s.1 id∈s.1.2:=by rw[e2];exact Ag hk
  obtain⟨tR,t1,ts⟩:=hE.open_ _ ht
  have h9:(u3b s.1 id).1<9999:=by have:=hE.bel _ (Az _ ht);have:=hE.base.next.2;omega
  have hnn:=j3x.mp hr
  obtain⟨x,p1,p2,p3⟩:=o3c (t:=u3b s.1 id) (n:=n) h.like hE.base h.right tR (by omega) hn ts rl hnn (fun x hx=>hE.apart x (Az _ hx) _ ht) h9
  rw[ec]
  simp only
  cases hk2:u97 s.2 (2,u6w s.1.1 (u3b s.1 id) n,emp,false,u2u) with
  | none=>exact⟨b,h.leave id, .inl rfl⟩
  | some d=>
   obtain⟨l1,l2⟩:=p1g h.play h.right h.own (.rdy _ (o0l tR (by omega) hn) rfl) p1 hk2
   have hB:BaseR (u21 s.1.1 (u3b s.1 id) n):=q3v hE.base tR (by omega) ts hn rl hnn (fun x hx=>hE.apart x hx _ ht) h9
   exact⟨x,⟨j54 hE ht hn rl hnn,l1,l2,p2,p3.tidy hB _⟩, .inr ⟨by trivial,by trivial,p1⟩⟩
 ·rw[Ao c0]
  refine⟨b,?_, .inl rfl⟩
  unfold s34
  split
  ·exact h
  ·split
   ·exact h
   ·split
    ·exact h
    ·split
     ·rename_i q1 q2 q3 q4
      exfalso;apply c0
      unfold s34;rw[Ao q1,Ao q2,Ao q3,Al q4]
     ·exact h.leave id
theorem Sync.fin {s:u1w} {b:u0i} (h:Sync s b) (n:Hs) (yes:Bool):∃b',Sync (p4m s n yes).1 b' ∧(b' =b∨((p4m s n yes).2=0∧(q7t s.1 n yes).2.2=0∧u8b b (3,u6k,n,yes,u2u)=some b')):=by
 have hE:=h.eng
 unfold p4m
 by_cases c0:(q7t s.1 n yes).2.2=0
 ·rw[Al c0]
  unfold q7t at c0
  split at c0
  ·cases c0
  ·rename_i q1
   split at c0
   ·cases c0
   ·rename_i q2
    obtain⟨k,hk,r1,r2⟩:=s15 q1
    obtain⟨tR,t2,ts⟩:=hE.base.ready _ (Ag hk)
    have hn:u8d n=true:=by rw[←r2];exact tR.name t2
    cases yes with
    | true=>
     have hf:q0f s.1.1=false:=by simpa using q2
     obtain⟨f1,f2,f3⟩:=p98 hf
     have ec:q7t s.1 n true=(j8p s.1 s.1.1.2.2.1[k],(3,u6k,n,true,u2u),0):=by
      unfold q7t;rw[Ao q1,Ao q2,Al rfl,r1,zTn,y8k (t:=u0x) hk]
     obtain⟨x,p1,p2,p3⟩:=o7r h.like hE.base h.right f3 f2 hn hk r1
     rw[ec]
     simp only
     cases hk2:u97 s.2 (3,u6k,n,true,u2u) with
     | none=>exact⟨b,h, .inl rfl⟩
     | some d=>
      obtain⟨l1,l2⟩:=p1g h.play h.right h.own (.fin n true hn) p1 hk2
      exact⟨x,⟨j8q hE (Ag hk) hf,l1,l2,p2,p3.tidy (r1m hE (.inr (Ag hk)) hf) _⟩, .inr ⟨by trivial,by trivial,p1⟩⟩
    | false=>
     have ec:q7t s.1 n false=(noE s.1 n,(3,u6k,n,false,u2u),0):=by
      unfold q7t;rw[Ao q1,Ao q2,Ao (by decide)]
     obtain⟨x,p1,p2,p3⟩:=o9l h.like hE.base h.right hn hk r1
     rw[ec]
     simp only
     cases hk2:u97 s.2 (3,u6k,n,false,u2u) with
     | none=>exact⟨b,h, .inl rfl⟩
     | some d=>
      obtain⟨l1,l2⟩:=p1g h.play h.right h.own (.fin n false hn) p1 hk2
      exact⟨x,⟨d1u hE n,l1,l2,p2,p3.tidy (p3t hE.base n) _⟩, .inr ⟨by trivial,by trivial,p1⟩⟩
 ·rw[Ao c0]
  exact⟨b,h, .inl rfl⟩
theorem Sync.fix {s:u1w} {b:u0i} (h:Sync s b):Sync (j01 s).1 b:=by
 unfold j01
 cases ha:o4j s.2 with
 | none=>exact h
 | some d=>
  obtain⟨_,l1,l2⟩:=o50 h.play h.right h.own ha
  exact⟨h.eng,l1,l2,h.right,h.like⟩
theorem o7w {s:u1w} {b:u0i} (h:Sync s b):j56 s.2=some ((b, []),s.2)∧Sync ((b, []),s.2) b:=by
 constructor
 ·unfold j56;rw[Al h.log,h.play]
 ·have hb:=h.right
  have hE:EngR (b, []):=⟨hb,Cn _,fun t ht=>(by cases ht),List.Pairwise.nil,by simpa using hb.below,by simpa using hb.nodup⟩
  refine⟨hE,h.log,h.play,hb,?_,h.like.past,rfl,rfl⟩
  have hs:=h.own
  rw[s5m (fun t ht=>(hb.past t ht).2.2)] at hs
  exact(Dj Prod.fst hs).symm
end
section
structure PassedR (t:u0g) (P R:Hu u0g):Prop extends Passed t P R where
 e1:∀x∈P++R,∀y∈R,ahead x t=true→ahead t y=true→False
 e2:∀x∈R,∀y∈R,ahead t x=true→ahead x y=true→y.1≠t.1→False
end
section
def K5:Hu Hs:= [⟨#[97]⟩,⟨#[98]⟩,⟨#[99]⟩,⟨#[100]⟩,⟨#[97,98]⟩]
structure DomT (t:u0g):Prop where
 ws:∀w∈t.2.2.2.2.2.1,w.1∈K5
 rs:∀r∈t.2.2.2.2.1,r.1∈K5∧r.2∈K5
structure DomB (b:u0i):Prop where
 vs:∀v∈b.1,v.1∈K5
 ready:∀t∈b.2.2.1,DomT t
structure DomE (e:u2v):Prop where
 base:DomB e.1
 open_:∀t∈e.2,DomT t
theorem DomB.tidy {b:u0i} (h:DomB b) (o:Hu u0g):DomB (u3q b o):=⟨fun v hv=>h.vs v ((t1y _ _).subset hv),h.ready⟩
theorem DomB.through {b:u0i} {t:u0g} (h:DomB b) (ht:DomT t):DomB (u0y b t):=by
 refine⟨fun v hv=> ?_,fun x hx=> ?_⟩
 ·rcases(s0v _ _ _).mp hv with hv | ⟨w,hw,rfl⟩
  ·exact h.vs v hv
  ·exact ht.ws w hw
 ·obtain⟨q,hq,rfl⟩:=Bx.mp hx
  have:=h.ready q (A6.mp hq).1
  exact⟨this.ws,this.rs⟩
theorem DomB.made {b:u0i} {t:u0g} {n:Hs} (h:DomB b) (ht:DomT t):DomB (u21 b t n):=by
 refine⟨h.vs,fun x hx=> ?_⟩
 rcases Ay.mp hx with hx | hx
 ·rcases Ay.mp hx with hx | hx
  ·exact h.ready x (A6.mp hx).1
  ·rw[Ax] at hx;subst hx;exact⟨ht.ws,ht.rs⟩
 ·exact h.ready x (A6.mp hx).1
theorem DomB.given {b:u0i} (h:DomB b) (n:Hs):DomB (t9j b n):=⟨h.vs,fun x hx=>h.ready x (A6.mp hx).1⟩
theorem DomE.rest {e:u2v} (h:DomE e) (id:Int):∀t∈s1l e id,DomT t:=fun t ht=>h.open_ t ((r3e e id).subset ht)
theorem DomE.leave {e:u2v} (h:DomE e) (id:Int):DomE (s8g e id):=⟨h.base.tidy _,h.rest id⟩
theorem DomE.begin {e:u2v} (h:DomE e):DomE (s4q e).1:=by
 unfold s4q
 split
 ·refine⟨⟨h.base.vs,h.base.ready⟩,fun t ht=> ?_⟩
  rcases Ay.mp ht with ht | ht
  ·exact h.open_ t ht
  ·rw[Ax] at ht;subst ht
   exact⟨fun w hw=>(by cases hw),fun r hr=>(by cases hr)⟩
 ·exact h
theorem DomE.commit {e:u2v} (h:DomE e) (id:Int):DomE (u2n e id).1:=by
 unfold u2n
 split
 ·exact h
 ·split
  ·rename_i _ q
   obtain⟨k,hk,e1,e2,e3⟩:=u2c (s9d q).1
   rw[e2]
   exact⟨(h.base.through (h.open_ _ (Ag hk))).tidy _,h.rest _⟩
  ·exact h.leave id
theorem DomE.prep {e:u2v} (h:DomE e) (id:Int) (n:Hs):DomE (s34 e id n).1:=by
 unfold s34
 split
 ·exact h
 ·rename_i q
  split
  ·exact h
  ·split
   ·exact h
   ·split
    ·obtain⟨k,hk,e1,e2,e3⟩:=u2c q
     rw[e2]
     exact⟨(h.base.made (h.open_ _ (Ag hk))).tidy _,h.rest _⟩
    ·exact h.leave id
theorem DomE.fin {e:u2v} (h:DomE e) (n:Hs) (y:Bool):DomE (q7t e n y).1:=by
 unfold q7t
 split
 ·exact h
 ·rename_i q
  split
  ·exact h
  ·split
   ·obtain⟨k,hk,r1,r2⟩:=s15 q
    rw[r1,zTn,y8k (t:=u0x) hk]
    exact⟨(h.base.through (h.base.ready _ (Ag hk))).tidy _,h.open_⟩
   ·exact⟨(h.base.given n).tidy _,h.open_⟩
theorem DomE.look {e:u2v} (h:DomE e) {id:Int} {r:s7f} {right:Bool} (hr:r.1∈K5∧r.2∈K5):DomE (s7k e id r right).1:=by
 unfold s7k
 split
 ·exact h
 ·rename_i q
  split
  ·exact h
  ·split
   ·obtain⟨k,hk,e1,e2,e3⟩:=u2c q
    rw[e2]
    have ho:=h.open_ _ (Ag hk)
    refine⟨h.base,fun t ht=> ?_⟩
    rcases o0o ht with ht | rfl
    ·exact h.open_ t ht
    ·unfold s7l
     split
     ·exact ho
     ·split
      ·refine⟨ho.ws,fun x hx=> ?_⟩
       rcases Ay.mp hx with hx | hx
       ·exact ho.rs x hx
       ·rw[Ax] at hx;subst hx;exact hr
      ·exact ho
   ·exact h
theorem DomE.put {e:u2v} (h:DomE e) {id:Int} {w:WrT} (hw:w.1∈K5):DomE (o3d e id w).1:=by
 unfold o3d
 split
 ·exact h
 ·rename_i q
  split
  ·exact h
  ·split
   ·obtain⟨k,hk,e1,e2,e3⟩:=u2c q
    rw[e2]
    have ho:=h.open_ _ (Ag hk)
    refine⟨h.base,fun t ht=> ?_⟩
    rcases o0o ht with ht | rfl
    ·exact h.open_ t ht
    ·unfold s7b
     split
     ·refine⟨fun x hx=> ?_,ho.rs⟩
      rcases o0e hx with hx | rfl
      ·exact ho.ws x hx
      ·exact hw
     ·exact ho
   ·exact h
def Num (k:Nat) (e:u2v):Prop:=e.1.2.2.2.1≤(k:Int)∧e.1.2.2.2.2≤(k:Int)+1
theorem Num.mono {k m:Nat} {e:u2v} (h:Num k e) (hk:k≤m):Num m e:=⟨by have:=h.1;omega,by have:=h.2;omega⟩
theorem q7z {e:u2v} (h:EngR e) {t:u0g} (ht:t∈e.2∨t∈e.1.2.2.1):u15 e.1.2.2.2.2 t.1=e.1.2.2.2.2:=by
 refine o25 ?_
 rcases ht with ht | ht
 ·exact h.bel t (Az _ ht)
 ·exact h.bel t (Bf _ (Az _ ht))
theorem Num.begin {k:Nat} {e:u2v} (h:Num k e):Num (k+1) (s4q e).1:=by
 unfold s4q
 split
 ·exact⟨by show e.1.2.2.2.1≤_;have:=h.1;omega,by show e.1.2.2.2.2+1≤_;have:=h.2;omega⟩
 ·exact h.mono (by omega)
theorem Num.commit {k:Nat} {e:u2v} (hE:EngR e) (h:Num k e) (id:Int):Num (k+1) (u2n e id).1:=by
 unfold u2n
 split
 ·exact h.mono (by omega)
 ·split
  ·rename_i _ q
   obtain⟨j,hj,e1,e2,e3⟩:=u2c (s9d q).1
   refine⟨by show e.1.2.2.2.1+1≤_;have:=h.1;omega,?_⟩
   show u15 e.1.2.2.2.2 (u3b e id).1≤_
   rw[e2,q7z hE (.inl (Ag hj))]
   have:=h.2;omega
  ·exact h.mono (by omega)
theorem Num.prep {k:Nat} {e:u2v} (hE:EngR e) (h:Num k e) (id:Int) (n:Hs):Num (k+1) (s34 e id n).1:=by
 unfold s34
 split
 ·exact h.mono (by omega)
 ·rename_i q
  split
  ·exact h.mono (by omega)
  ·split
   ·exact h.mono (by omega)
   ·split
    ·obtain⟨j,hj,e1,e2,e3⟩:=u2c q
     refine⟨by show e.1.2.2.2.1≤_;have:=h.1;omega,?_⟩
     show u15 e.1.2.2.2.2 (u3b e id).1≤_
     rw[e2,q7z hE (.inl (Ag hj))]
     have:=h.2;omega
    ·exact h.mono (by omega)
theorem Num.fin {k:Nat} {e:u2v} (hE:EngR e) (h:Num k e) (n:Hs) (y:Bool):Num (k+1) (q7t e n y).1:=by
 unfold q7t
 split
 ·exact h.mono (by omega)
 ·rename_i q
  split
  ·exact h.mono (by omega)
  ·split
   ·obtain⟨j,hj,r1,r2⟩:=s15 q
    rw[r1,zTn,y8k (t:=u0x) hj]
    refine⟨by show e.1.2.2.2.1+1≤_;have:=h.1;omega,?_⟩
    show u15 e.1.2.2.2.2 e.1.2.2.1[j].1≤_
    rw[q7z hE (.inr (Ag hj))]
    have:=h.2;omega
   ·exact h.mono (by omega)
theorem Num.look {k:Nat} {e:u2v} (h:Num k e) {id:Int} {r:s7f} {right:Bool} :Num k (s7k e id r right).1:=by
 unfold s7k
 split
 ·exact h
 ·split
  ·exact h
  ·split<;>exact h
theorem Num.put {k:Nat} {e:u2v} (h:Num k e) {id:Int} {w:WrT} :Num k (o3d e id w).1:=by
 unfold o3d
 split
 ·exact h
 ·split
  ·exact h
  ·split<;>exact h
structure Stt (k:Nat) (s:u1w):Prop where
 sync:∃b,Sync s b∧b.2.2.2.2≤(k:Int)+1
 dom:DomE s.1
 num:Num k s.1
theorem Stt.eng {k:Nat} {s:u1w} (h:Stt k s):EngR s.1:=by obtain⟨b,h1,_⟩:=h.sync;exact h1.eng
theorem q3y {b x:u0i} {r:s7e} (h:u8b b r=some x):∃y,u2f b r=some y∧x=u3q y [] :=by
 unfold u8b at h
 split at h
 ·cases q:u2f b r with
  | none=>rw[q] at h;cases h
  | some y=>
   rw[q] at h
   simp only at h
   split at h
   ·exact⟨y,rfl,(Ds h).symm⟩
   ·cases h
 ·cases h
theorem o48 {n i m:Int} (h1:n≤m) (h2:i<m):u15 n i≤m:=by unfold u15;split<;>omega
theorem Stt.commit {k:Nat} {s:u1w} (h:Stt k s) (id:Int):Stt (k+1) (u7r s id).1:=by
 obtain⟨b,hs,hb⟩:=h.sync
 obtain⟨b',hs',hd⟩:=hs.commit id
 have hE:=hs.eng
 have h1:=h.num.commit hE id
 have hl:=h.dom.leave id
 refine⟨⟨b',hs',?_⟩,?_,?_⟩
 ·rcases hd with rfl | ⟨_,j0,hp⟩
  ·omega
  ·obtain⟨y,hy,rfl⟩:=q3y hp
   unfold u2f at hy
   rw[Al rfl] at hy
   split at hy
   ·cases hy
    show u15 b.2.2.2.2 (u3b s.1 id).1≤_
    obtain⟨j,hj,e1,e2,e3⟩:=u2c (s9d j0).1
    have:=hE.bel _ (Az _ (Ag hj))
    rw[e2]
    have:=h.num.2
    exact o48 (by omega) (by omega)
   ·cases hy
 ·have h2:=h.dom.commit id
  unfold u7r
  split
  ·split
   ·exact h2
   ·exact hl
  ·exact h2
 ·unfold u7r
  split
  ·split
   ·exact h1
   ·exact h.num.mono (by omega)
  ·exact h1
theorem Stt.prep {k:Nat} {s:u1w} (h:Stt k s) (id:Int) (n:Hs):Stt (k+1) (r9e s id n).1:=by
 obtain⟨b,hs,hb⟩:=h.sync
 obtain⟨b',hs',hd⟩:=hs.prep id n
 have hE:=hs.eng
 have h1:=h.num.prep hE id n
 have hl:=h.dom.leave id
 refine⟨⟨b',hs',?_⟩,?_,?_⟩
 ·rcases hd with rfl | ⟨_,j0,hp⟩
  ·omega
  ·obtain⟨y,hy,rfl⟩:=q3y hp
   unfold u2f at hy
   simp only at hy
   rw[Ao (by decide),Al trivial] at hy
   split at hy
   ·cases hy
    show u15 b.2.2.2.2 (u3b s.1 id).1≤_
    obtain⟨j,hj,e1,e2,e3⟩:=u2c (o9n j0).1
    have:=hE.bel _ (Az _ (Ag hj))
    rw[e2]
    have:=h.num.2
    exact o48 (by omega) (by omega)
   ·cases hy
 ·have h2:=h.dom.prep id n
  unfold r9e
  split
  ·split
   ·exact h2
   ·exact hl
  ·exact h2
 ·unfold r9e
  split
  ·split
   ·exact h1
   ·exact h.num.mono (by omega)
  ·exact h1
theorem Stt.fin {k:Nat} {s:u1w} (h:Stt k s) (n:Hs) (y:Bool):Stt (k+1) (p4m s n y).1:=by
 obtain⟨b,hs,hb⟩:=h.sync
 obtain⟨b',hs',hd⟩:=hs.fin n y
 have hE:=hs.eng
 have h1:=h.num.fin hE n y
 refine⟨⟨b',hs',?_⟩,?_,?_⟩
 ·rcases hd with rfl | ⟨_,j0,hp⟩
  ·omega
  ·obtain⟨z,hz,rfl⟩:=q3y hp
   unfold u2f at hz
   simp only at hz
   rw[Ao (by decide),Ao (by decide),Al trivial] at hz
   split at hz
   ·cases hz
   ·rename_i q
    obtain⟨j,hj,r1,r2⟩:=s15 q
    split at hz
    ·cases hz
     show u15 b.2.2.2.2 (rdL u0x b.2.2.1 (u0n b n).toNat).1≤_
     rw[r1,zTn,y8k (t:=u0x) hj]
     have:b.2.2.1[j] ∈s.1.1.2.2.1:=by rw[←hs.like.ready];exact Ag hj
     have:=hE.bel _ (Bf _ (Az _ this))
     have:=h.num.2
     exact o48 (by omega) (by omega)
    ·cases hz
     show b.2.2.2.2≤_
     omega
 ·have h2:=h.dom.fin n y
  unfold p4m
  split
  ·split
   ·exact h2
   ·exact h.dom
  ·exact h.dom
 ·unfold p4m
  split
  ·split
   ·exact h1
   ·exact h.num.mono (by omega)
  ·exact h.num.mono (by omega)
theorem Stt.fix {k:Nat} {s:u1w} (h:Stt k s):Stt (k+1) (j01 s).1:=by
 obtain⟨b,hs,hb⟩:=h.sync
 refine⟨⟨b,hs.fix,by omega⟩,?_,?_⟩
 ·unfold j01;split<;>exact h.dom
 ·unfold j01;split<;>exact h.num.mono (by omega)
theorem Stt.leave {k:Nat} {s:u1w} (h:Stt k s) (id:Int):Stt (k+1) ((r1h s.1 id).1,s.2):=by
 obtain⟨b,hs,hb⟩:=h.sync
 unfold r1h
 split
 ·exact⟨⟨b,hs,by omega⟩,h.dom,h.num.mono (by omega)⟩
 ·exact⟨⟨b,hs.leave id,by omega⟩,h.dom.leave id,h.num.mono (by omega)⟩
theorem Stt.begin {k:Nat} {s:u1w} (h:Stt k s):Stt (k+1) ((s4q s.1).1,s.2):=by
 obtain⟨b,hs,hb⟩:=h.sync
 refine⟨⟨b,hs.opens (o52 hs.eng) ?_ ?_ ?_,by omega⟩,h.dom.begin,h.num.begin⟩<;>(unfold s4q;split<;>rfl)
theorem Stt.look {k:Nat} {s:u1w} (h:Stt k s) {id:Int} {r:s7f} {right:Bool} (hr:right=true→u3f r=true) (hk:r.1∈K5∧r.2∈K5):Stt (k+1) ((s7k s.1 id r right).1,s.2):=by
 obtain⟨b,hs,hb⟩:=h.sync
 have e:(s7k s.1 id r right).1.1=s.1.1:=by
  unfold s7k
  split
  ·rfl
  ·split
   ·rfl
   ·split<;>rfl
 exact⟨⟨b,hs.opens (j5t hs.eng hr) (by rw[e]) (by rw[e]) (by rw[e]),by omega⟩,h.dom.look hk,h.num.look.mono (by omega)⟩
theorem Stt.put {k:Nat} {s:u1w} (h:Stt k s) {id:Int} {w:WrT} (hk:w.1∈K5):Stt (k+1) ((o3d s.1 id w).1,s.2):=by
 obtain⟨b,hs,hb⟩:=h.sync
 have e:(o3d s.1 id w).1.1=s.1.1:=by
  unfold o3d
  split
  ·rfl
  ·split
   ·rfl
   ·split<;>rfl
 exact⟨⟨b,hs.opens (j55 hs.eng) (by rw[e]) (by rw[e]) (by rw[e]),by omega⟩,h.dom.put hk,h.num.put.mono (by omega)⟩
end
section
structure tinyT (t:u0g):Prop where
 rl:t.2.2.2.2.1.length≤100
 rs:∀r∈t.2.2.2.2.1,r.1.size≤100∧r.2.size≤100
 wl:t.2.2.2.2.2.1.length≤100
 ws:∀w∈t.2.2.2.2.2.1,w.1.size≤100∧w.2.1.size≤100
 nm:t.2.2.2.2.2.2.2.size≤100
structure tinyB (b:u0i):Prop where
 vl:b.1.length≤10000
 vs:∀v∈b.1,v.1.size≤100∧v.2.1.size≤100
 pl:b.2.1.length≤1000
 ps:∀t∈b.2.1,tinyT t
 rl:b.2.2.1.length≤1000
 rs:∀t∈b.2.2.1,tinyT t
theorem r1l {α:Type} {f:α→Nat} {k:Nat} :∀ {l:Hu α},(∀x∈l,f x≤k)→(l.map f).sum≤l.length*k
 | [],_=>by simp
 | x::l,h=>by
  rw[C8,Ge,Bc,C7]
  have h1:=h x (by simp)
  have h2:=r1l (l:=l) (fun y hy=>h y (by simp[hy]))
  omega
theorem tinyT.wt {t:u0g} (h:tinyT t):u0x.wt t≤50000:=by
 have e1:(Ty.sl t4z).wt t.2.2.2.2.1=t.2.2.2.2.1.length+(t.2.2.2.2.1.map t4z.wt).sum:=rfl
 have e2:(Ty.sl u20).wt t.2.2.2.2.2.1=t.2.2.2.2.2.1.length+(t.2.2.2.2.2.1.map u20.wt).sum:=rfl
 have s1:(t.2.2.2.2.1.map t4z.wt).sum≤t.2.2.2.2.1.length*200:=r1l fun r hr=>by
  have:=h.rs r hr
  have e:t4z.wt r=r.1.size+r.2.size:=rfl
  omega
 have s2:(t.2.2.2.2.2.1.map u20.wt).sum≤t.2.2.2.2.2.1.length*200:=r1l fun w hw=>by
  have:=h.ws w hw
  have e:u20.wt w=w.1.size+(w.2.1.size+0):=rfl
  omega
 have:=h.rl;have:=h.wl;have:=h.nm
 rw[o95,e1,e2]
 omega
theorem tinyT.few {t:u0g} (h:tinyT t):q0e t:=⟨by have:=h.rl;omega,by have:=h.wl;omega⟩
theorem TxnR.tiny {t:u0g} (h:TxnR t):tinyT t:=by
 obtain⟨z1,z2,z3,z4,z5⟩:=h.small
 exact⟨by have:=h.rlen;omega,fun r hr=>by have:=z1 r hr;omega,by omega,fun w hw=>by have:=z2 w hw;omega,by omega⟩
theorem tinyT.like {t u:u0g} (h:tinyT t) (e1:u.2.2.2.2.1=t.2.2.2.2.1) (e2:u.2.2.2.2.2.1=t.2.2.2.2.2.1) (e3:u.2.2.2.2.2.2.2.size≤100):tinyT u:=
 ⟨by rw[e1];exact h.rl,by rw[e1];exact h.rs,by rw[e2];exact h.wl,by rw[e2];exact h.ws,e3⟩
theorem p1j {l:Hu u0g} (hl:l.length≤1000) (h:∀t∈l,tinyT t):(Ty.sl u0x).wt l≤60000000:=by
 have e:(Ty.sl u0x).wt l=l.length+(l.map u0x.wt).sum:=rfl
 have s:(l.map u0x.wt).sum≤l.length*50000:=r1l fun t ht=>(h t ht).wt
 rw[e];omega
theorem tinyB.wt {b:u0i} (h:tinyB b):j5e.wt b≤200000000:=by
 have e:(Ty.sl u0d).wt b.1=b.1.length+(b.1.map u0d.wt).sum:=rfl
 have s:(b.1.map u0d.wt).sum≤b.1.length*200:=r1l fun v hv=>by
  have:=h.vs v hv
  have e:u0d.wt v=v.1.size+(v.2.1.size+(0+0)):=rfl
  omega
 have h1:=p1j h.pl h.ps
 have h2:=p1j h.rl h.rs
 have:=h.vl
 rw[r8a,e];omega
theorem q6m {l:Hu u0g} (hl:l.length≤1000) (h:∀t∈l,tinyT t):p02 l:=⟨by omega,fun t ht=>(h t ht).few⟩
theorem tinyB.few {b:u0i} (h:tinyB b):fewB b:=⟨by have:=h.vl;omega,q6m h.pl h.ps,q6m h.rl h.rs⟩
theorem BaseR.tiny {b:u0i} (h:BaseR b):tinyB b:=by
 obtain⟨w1,w2,w3⟩:=j0l.mp h.vs
 exact⟨by omega,fun v hv=>by have:=s62 (w1 v hv);omega,by have:=h.plen;omega,fun t ht=>(h.past t ht).1.tiny,by have:=h.rlen;omega,fun t ht=>(h.ready t ht).1.tiny⟩
theorem t9m {b:u0i} (h:tinyB b) (o:Hu u0g):tinyB (u3q b o):=
 ⟨A9 (o5m _ _) h.vl,fun v hv=>h.vs v ((t1y _ _).subset hv),A9 (t21 _ _) h.pl,fun t ht=>h.ps t (A6.mp ht).1,h.rl,h.rs⟩
theorem s8r {b:u0i} {t:u0g} (h:BaseR b) (ht:tinyT t):tinyB (u0y b t):=by
 obtain⟨w1,w2,w3⟩:=j0l.mp h.vs
 have hb:=h.tiny
 refine⟨?_,fun v hv=> ?_,?_,fun x hx=> ?_,?_,fun x hx=> ?_⟩
 ·show(t9k b.1 t.2.2.2.2.2.1 (b.2.2.2.1+1)).length≤10000
  rw[p39];have:=ht.wl
  have e:(t.2.2.2.2.2.1:Hu u20.den).length=t.2.2.2.2.2.1.length:=rfl
  omega
 ·rcases(s0v _ _ _).mp hv with q | ⟨w,hw,rfl⟩
  ·exact hb.vs v q
  ·exact ht.ws w hw
 ·show(b.2.1++ [s32 b t]).length≤1000
  have:=h.plen
  rw[Ba,Aw];omega
 ·rcases Ay.mp hx with q | q
  ·exact hb.ps x q
  ·rw[Ax.mp q]
   exact ht.like rfl rfl (Cn _)
 ·show((b.2.2.1.filter fun x=> !decide (x.1=t.1)).map (p03 (s32 b t))).length≤1000
  rw[Da]
  exact A9 (t21 _ _) hb.rl
 ·obtain⟨y,hy,rfl⟩:=Bx.mp hx
  have:=hb.rs y (A6.mp hy).1
  exact this.like rfl rfl this.nm
theorem q72 {b:u0i} {t:u0g} {n:Hs} (h:BaseR b) (ht:tinyT t) (hn:n.size≤100):tinyB (u21 b t n):=by
 have hb:=h.tiny
 refine⟨hb.vl,hb.vs,hb.pl,hb.ps,?_,fun x hx=> ?_⟩
 ·show((b.2.2.1.filter fun x=>y3c x.2.2.2.2.2.2.2 n)++ [u6w b t n] ++(b.2.2.1.filter fun x=> !y3c x.2.2.2.2.2.2.2 n)).length≤1000
  have f1:=t21 (fun x:u0g=>y3c x.2.2.2.2.2.2.2 n) b.2.2.1
  have f2:=t21 (fun x:u0g=> !y3c x.2.2.2.2.2.2.2 n) b.2.2.1
  have:=h.rlen
  rw[Ba,Ba,Aw];omega
 ·rcases Ay.mp hx with q | q
  ·rcases Ay.mp q with q | q
   ·exact hb.rs x (A6.mp q).1
   ·rw[Ax.mp q]
    exact ht.like rfl rfl hn
  ·exact hb.rs x (A6.mp q).1
theorem q7u {b:u0i} {n:Hs} (hb:tinyB b):tinyB (t9j b n):=
 ⟨hb.vl,hb.vs,hb.pl,hb.ps,A9 (t21 _ _) hb.rl,fun x hx=>hb.rs x (A6.mp hx).1⟩
structure tinyR (r:s7e):Prop where
 t:tinyT r.2.1
 n:r.2.2.1.size≤100
 b:tinyB r.2.2.2.2
theorem tinyR.wt {r:s7e} (h:tinyR r):j78.wt r≤549755813888:=by
 have:=h.t.wt;have:=h.n;have:=h.b.wt
 rw[r9b];omega
theorem s17:tinyT u6k:=⟨by decide,fun r hr=>(by cases hr),by decide,fun r hr=>(by cases hr),by decide⟩
theorem t3c:tinyB u2u:=⟨by decide,fun r hr=>(by cases hr),by decide,fun r hr=>(by cases hr),by decide,fun r hr=>(by cases hr)⟩
theorem j1d:tinyR noR:=⟨s17,by decide,t3c⟩
theorem RecR.tiny {r:s7e} (h:RecR r):tinyR r:=by
 cases h with
 | thr t h hs=>exact⟨h.tiny,Cn 100,t3c⟩
 | rdy t h hs=>exact⟨h.tiny,Cn 100,t3c⟩
 | fin n y h=>exact⟨s17,by have:=u3i h;show n.size≤100;omega,t3c⟩
 | bas b h=>exact⟨s17,Cn 100,h.tiny⟩
def s5a (b:u0i) (r:s7e):u0i×Bool:=match u8b b r with
 | some x=>(x,true)
 | none=>(b,false)
theorem p34 {n:Int} (h:0≤n∧n≤9999):j0k n:=⟨by omega,by omega⟩
theorem r8x {n:Int} (h:1≤n∧n≤9999):j0k n:=⟨by omega,by omega⟩
theorem r90 {b x:u0i} {r:s7e} (hb:u79 b=true∧u7q r=true) {o:Bool} (hx:u2f b r=if o=true then some x else none):
 (((bif (!o) then some true else some (!u79 (u3q x []))):Ht Bool).bind fun j=>bif j then some (b,false) else some (u3q x [],true))=some (s5a b r):=by
 unfold s5a u8b
 rw[Al hb,hx]
 cases o
 ·rfl
 ·simp only[Bl,Ap,Aa,zOb]
  cases u79 (u3q x [])<;>rfl
theorem o4d (b:u0i) (r:s7e) (hb:tinyB b) (hr:tinyR r):r23 (b,r)=some (s5a b r):=by
 have hq:u0j=1099511627776:=rfl
 rw[p9c];unfold q4q
 simp only
 rw[t07 b (by have:=hb.wt;omega),q4f r hr.wt,s1v b hb.few]
 simp only[zOb]
 cases h1:u79 b
 ·unfold s5a u8b
  rw[Ao (by simp[h1])];rfl
 ·cases h2:u7q r
  ·unfold s5a u8b
   rw[Ao (by simp[h2])];rfl
  ·have hB:=p7i.mp h1
   have hR:=j2x.mp h2
   have hbr:u79 b=true∧u7q r=true:=⟨h1,h2⟩
   simp only[Ap,Aa,zOb]
   have thr:∀t:u0g,TxnR t→u9e (b,t)=some (u0y b t)∧u47 (u0y b t, [])=some (u3q (u0y b t) [])∧u27 (u3q (u0y b t) [])=some (u79 (u3q (u0y b t) [])):=fun t ht=>by
    have h3:=s8r hB ht.tiny
    refine⟨?_,t4n _ _ h3.few (by simp),t07 _ (by have:=(t9m h3 []).wt;omega)⟩
    rw[q8g b t hb.few ht.tiny.few,q34 (p34 hB.cs) (r8x ht.id)]
   cases hR with
   | thr t h hs=>
    obtain⟨t1,t2,t3⟩:=thr t h
    simp only[Ae,Ad]
    rw[t1]
    simp only[zOb]
    rw[t2]
    simp only[zOb]
    rw[t3]
    simp only[zOb]
    rw[s5i (p34 hB.cs)]
    refine r90 (o:=decide (t.2.2.2.1=b.2.2.2.1+1)) hbr ?_
    unfold u2f
    simp only[Bl,Ar]
   | rdy t h hs=>
    have hn:=u3i (h.name hs)
    have h3:=q72 (n:=t.2.2.2.2.2.2.2) hB h.tiny (by omega)
    simp only[show decide ((2:Int)=1)=false from rfl,Ae,Ad,Aa]
    rw[q8d b _ (by have:=hB.rlen;omega)]
    simp only[zOb]
    rw[p4z b t _ hb.few h.tiny.few (r8x h.id)]
    simp only[zOb]
    rw[t4n _ _ h3.few (by simp),]
    simp only[zOb]
    rw[t07 _ (by have:=(t9m h3 []).wt;omega)]
    simp only[zOb]
    have e:(bif decide ((b.2.2.1.length:Int)<3) then some (decide (u0n b t.2.2.2.2.2.2.2<0)) else some false:Ht Bool)=some (decide (b.2.2.1.length<3∧u0n b t.2.2.2.2.2.2.2<0)):=by
     by_cases q:b.2.2.1.length<3
     ·rw[Bb (show(b.2.2.1.length:Int)<3 by omega)];simp[q]
     ·rw[A7 (show ¬(b.2.2.1.length:Int)<3 by omega)];simp[q]
    rw[e]
    simp only[zOb]
    refine r90 (o:=decide (b.2.2.1.length<3∧u0n b t.2.2.2.2.2.2.2<0)) hbr ?_
    unfold u2f
    simp only[show((2:Int)=1)=False by simp,Bk,Bl,Ar]
   | fin n y h=>
    simp only[show decide ((3:Int)=1)=false from rfl,show decide ((3:Int)=2)=false from rfl,Ae,Ad,Aa]
    rw[q8d b _ (by have:=hB.rlen;omega)]
    simp only[zOb]
    have h4:=q7u (b:=b) (n:=n) hb
    have giv:s2x (b,n)=some (t9j b n):=o04 b n hb.few
    have raw:∀x,(0≤u0n b n→y=true→x=u0y b (rdL u0x b.2.2.1 (u0n b n).toNat))→(y=false→x=t9j b n)→(0≤u0n b n∨True)→u2f b (3,u6k,n,y,u2u)=if decide (u0n b n≥0)=true then some x else none:=fun x hx hx2 _=>by
     unfold u2f
     simp only[show((3:Int)=1)=False by simp,show((3:Int)=2)=False by simp,Bk,Bl]
     by_cases q:u0n b n<0
     ·rw[Al q,A7 (show ¬u0n b n≥0 by omega)];rfl
     ·rw[Ao q,Bb (show u0n b n≥0 by omega)]
      cases hy:y
      ·rw[hx2 hy];rfl
      ·rw[hx (by omega) hy];rfl
    by_cases q:0≤u0n b n
    ·rw[Bb (show u0n b n≥0 from q)]
     cases hy:y
     ·simp only[Ad,zOb,Aa]
      rw[giv]
      simp only[zOb]
      rw[t4n _ _ h4.few (by simp)]
      simp only[zOb]
      rw[t07 _ (by have:=(t9m h4 []).wt;omega)]
      simp only[zOb]
      have:=raw (t9j b n) (fun _ k=>by rw[hy] at k;cases k) (fun _=>rfl) (.inr trivial)
      rw[hy] at this hbr
      rw[Bb (show u0n b n≥0 from q)] at this
      exact r90 (o:=true) hbr this
     ·simp only[Ad,zOb,Aa]
      have hk:(u0n b n).toNat<b.2.2.1.length:=by
       unfold u0n at q ⊢
       split
       ·rename_i z;rw[zTn];exact z
       ·rename_i z;rw[Ao z] at q;omega
      obtain⟨k,hkk⟩:∃k:Nat,u0n b n=k:=⟨(u0n b n).toNat,by omega⟩
      have hg:y4q (u0n b n) b.2.2.1.length=true:=by rw[hkk];exact y7t (by rw[hkk] at hk;simpa using hk)
      rw[hg]
      simp only[Ad]
      have hT:TxnR (rdL u0x b.2.2.1 (u0n b n).toNat):=by
       rw[y8k hk];exact(hB.ready _ (Ag hk)).1
      obtain⟨t1,t2,t3⟩:=thr _ hT
      rw[t1]
      simp only[zOb]
      rw[t2]
      simp only[zOb]
      rw[t3]
      simp only[zOb]
      have:=raw (u0y b (rdL u0x b.2.2.1 (u0n b n).toNat)) (fun _ _=>rfl) (fun k=>by rw[hy] at k;cases k) (.inr trivial)
      rw[hy] at this hbr
      rw[Bb (show u0n b n≥0 from q)] at this
      exact r90 (o:=true) hbr this
    ·rw[A7 (show ¬u0n b n≥0 from q)]
     simp only[Aa,zOb]
     rw[giv]
     simp only[zOb]
     rw[t4n _ _ h4.few (by simp)]
     simp only[zOb]
     have:=raw (t9j b n) (fun k=>absurd k q) (fun _=>rfl) (.inr trivial)
     rw[A7 (show ¬u0n b n≥0 from q)] at this
     exact r90 (o:=false) hbr this
   | bas c h=>
    simp only[show decide ((4:Int)=1)=false from rfl,show decide ((4:Int)=2)=false from rfl,show decide ((4:Int)=3)=false from rfl,Aa]
    rw[s1v c h.tiny.few]
    simp only[zOb]
    rw[t4n _ _ h.tiny.few (by simp)]
    simp only[zOb]
    rw[t07 _ (by have:=(t9m h.tiny []).wt;omega)]
    simp only[zOb]
    exact r90 (o:=true) hbr (by unfold u2f;simp)
end
section
theorem j3k:∃t,s9t ()=some t∧t.size=64∧r2z t 0=0:=by
 have hset:∀i,(List.replicate 64 (0:Int)).set i 0=List.replicate 64 0:=fun i=>by
  apply Gw (by simp)
  intro j h1 h2
  rw[List.getElem_set,List.getElem_replicate]
  split
  ·rfl
  ·rfl
 have key:∀(r i:Nat),i+r=64→t2p ((64:Int),0,List.replicate 64 0,(i:Int))=some (.inl (List.replicate 64 0)):=by
  intro r
  induction r with
  | zero=>
   intro i hi
   have:i=64:=by omega
   subst this
   rw[r6g]
   rfl
  | succ r ih=>
   intro i hi
   have hlt:decide ((i:Int)<64)=true:=by simp;omega
   have hg:y4q (i:Int) (List.replicate 64 (0:Int)).length=true:=y7t (by simp;omega)
   rw[r6g]
   simp only[s3z,hlt,Ad,hg,hset]
   rw[y7l (by omega)]
   exact ih (i+1) (by omega)
 have e1:t2p ((64:Int),0,List.replicate 64 0,0)=_:=key 64 0 rfl
 refine⟨y7g (List.replicate 64 0),?_,by rw[u6a];simp,by unfold r2z;rw[s6z];rfl⟩
 rw[p6g];unfold q12
 rw[p6c];unfold q1x
 have hc:(decide ((0:Int)≤64)&&decide ((64:Int)≤1099511627776))=true:=rfl
 have hr:List.replicate ((64:Int)).toNat (Ty.int .u8).zero=List.replicate 64 (0:Int):=rfl
 simp only[hc,Ad,hr,e1,zOb]
theorem o4a:∃d,r3a ()=some d∧u2t d=true∧u0f d= [] :=by
 obtain⟨z,hz,hz1,hz2⟩:=j3k
 have key:∀(r i:Nat),i+r=97→t2h ((97:Int),([], []),(List.replicate i z, []),(i:Int))=some (.inl (([], []),(List.replicate 97 z, []))):=by
  intro r
  induction r with
  | zero=>
   intro i hi
   have:i=97:=by omega
   subst this
   rw[r53]
   rfl
  | succ r ih=>
   intro i hi
   have hlt:decide ((i:Int)<97)=true:=by simp;omega
   have hc:Nat.ble ((List.replicate i z).length+([z] :Hu Hs).length) z7w=true:=u0z (by simp;omega)
   rw[r53]
   simp only[s3y,hlt,Ad,hz,zOb,hc]
   rw[y7l (by omega)]
   have e:List.replicate i z++ [z] =List.replicate (i+1) z:=by rw[List.replicate_succ']
   rw[e]
   exact ih (i+1) (by omega)
 have e1:t2h ((97:Int),([], []),([], []),0)=_:=key 97 0 rfl
 have hs:t0j ()=some 97:=by rw[r0r];rfl
 refine⟨(List.replicate 97 z, []),?_,?_⟩
 ·rw[p9s];unfold q47
  simp only[hs,zOb]
  rw[p5v];unfold q1g
  have hi:r2k 97 1 100=true:=rfl
  simp only[s2v,hi,zOb,Ap,Aa,e1]
 ·have hk:u18 (List.replicate 97 z,([] :Hu (Int×Hs)))=true:=p7m.mpr ⟨by simp,by simp,fun s hs=>by rw[List.eq_of_mem_replicate hs];exact hz1,fun p hp=>by cases hp⟩
  have hl:(List.replicate 97 z,([] :Hu (Int×Hs))).1.length=97:=by simp
  have hf:=r2y hk hl
  have hc:∀a:Int,a=0∨a=1→u0w (List.replicate 97 z, []) a=0:=fun a ha=>by
   obtain⟨f1,_⟩:=u96 ha
   unfold u0w u39
   rw[j05.mpr ha,Al rfl]
   have hk2:u0e a=(((u0e a).toNat:Nat):Int):=by rcases ha with rfl | rfl<;>omega
   rw[hk2,o5f rfl (by rw[hl];rcases ha with rfl | rfl<;>omega)]
   have hlt:(u0e a).toNat<(List.replicate 97 z).length:=by simp;rcases ha with rfl | rfl<;>omega
   have e:rdL Ty.str (List.replicate 97 z) (u0e a).toNat=(List.replicate 97 z)[(u0e a).toNat] :=y8k (t:=Ty.str) hlt
   simp only[e,List.getElem_replicate]
   rw[q66,hz2]
   rfl
  refine⟨q6c hk hl rfl ?_ ?_,?_⟩
  ·rw[t1x hf (.inl rfl),hc 0 (.inl rfl)];rfl
  ·rw[t1x hf (.inr rfl),hc 1 (.inr rfl)];rfl
  ·unfold u0f
   rw[t1x hf (t9h _),hc _ (t9h _)];rfl
end
section
theorem t82 {d:u0l} (h:u2t d=true):d1n.wt d≤10000000:=A9 (u6n (u7k h).1) (by omega)
end
section
theorem p8l (d:u0l) (hd:d1n.wt d≤1073741824):s6q d=some (u0f d):=by
 rw[p28];unfold r7p
 simp only[r2m d (show d1n.wt d≤u0j by unfold u0j;omega),r2q d _ hd,zOb];rfl
theorem q3u (a:Hu Hs) (ha:a.length≤u0j):s4b (a,a)=some true:=by
 rw[p0o];unfold r34
 have L:=s7g t34 a (fun i=>(a,a,i)) (fun p=> !z7o p p) (.inr false) (.inl ())
  (by rw[s80];simp only[t3s,u0b,Am,Ah,Aa])
  (fun i hi=>by
   rw[s80];simp only[t3s,u0b,hi,Ae,Ad,y7t hi,zTn,y8k (t:=Ty.str) hi]
   unfold u0j at ha
   rw[y7l (by omega)])
 have hn:(a.any fun p=> !z7o p p)=false:=by
  rw[Ct];intro x _;simp[z7o]
 rw[hn] at L
 simp only[Ae,Ap,Aa,L,zOb]
end
section
theorem o8s (b:u0i) (r:s7e) (hB:BaseR b) (hR:RecR r):s9x (b,r)=some (match u2f b r with
 | some x=>(x,true)
 | none=>(b,false)):=by
 have hb:=hB.tiny
 have thr:∀t:u0g,TxnR t→u7w (b,t)=some (u0y b t):=fun t ht=>by
  rw[q8h b t hb.few ht.tiny.few,p4p (p34 hB.cs) (r8x ht.id)]
 rw[p6o];unfold q2a u2f
 cases hR with
 | thr t h hs=>
  simp only[Ae,Ad,Bl]
  rw[s5i (p34 hB.cs),thr t h]
  by_cases q:t.2.2.2.1=b.2.2.2.1+1
  ·rw[Bb q,Al q];rfl
  ·rw[A7 q,Ao q];rfl
 | rdy t h hs=>
  simp only[show decide ((2:Int)=1)=false from rfl,show((2:Int)=1)=False by simp,Ae,Ah,Ad,Aa,Bl,Bk]
  rw[s3g b _ (by have:=hB.rlen;omega)]
  simp only[zOb]
  rw[q0l b t _ hb.few h.tiny.few (r8x h.id)]
  simp only[zOb]
  by_cases q:b.2.2.1.length<3
  ·rw[A7 (show ¬(b.2.2.1.length:Int)≥3 by omega)]
   simp only[Aa,zOb]
   by_cases q2:u0n b t.2.2.2.2.2.2.2<0
   ·rw[A7 (show ¬u0n b t.2.2.2.2.2.2.2≥0 by omega),Al ⟨q,q2⟩];rfl
   ·rw[Bb (show u0n b t.2.2.2.2.2.2.2≥0 by omega),Ao (fun z=>q2 z.2)];rfl
  ·rw[Bb (show(b.2.2.1.length:Int)≥3 by omega),Ao (fun z=>q z.1)];rfl
 | fin n y h=>
  simp only[show decide ((3:Int)=1)=false from rfl,show decide ((3:Int)=2)=false from rfl,show((3:Int)=1)=False by simp,show((3:Int)=2)=False by simp,Ae,Ah,Ad,Aa,Bl,Bk]
  rw[s3g b _ (by have:=hB.rlen;omega)]
  simp only[zOb]
  by_cases q:u0n b n<0
  ·rw[Bb q,Al q];rfl
  ·rw[A7 q,Ao q]
   simp only[Aa]
   rw[q77 b n hb.few]
   simp only[zOb]
   have hk:(u0n b n).toNat<b.2.2.1.length:=by
    unfold u0n at q ⊢
    split
    ·rename_i z;rw[zTn];exact z
    ·rename_i z;rw[Ao z] at q;omega
   obtain⟨k,hkk⟩:∃k:Nat,u0n b n=k:=⟨(u0n b n).toNat,by omega⟩
   have hg:y4q (u0n b n) b.2.2.1.length=true:=by rw[hkk];exact y7t (by rw[hkk] at hk;simpa using hk)
   have hT:TxnR (rdL u0x b.2.2.1 (u0n b n).toNat):=by
    rw[y8k hk];exact(hB.ready _ (Ag hk)).1
   rw[hg,thr _ hT]
   cases y
   ·rfl
   ·rfl
 | bas c h=>
  simp only[show decide ((4:Int)=1)=false from rfl,show decide ((4:Int)=2)=false from rfl,show decide ((4:Int)=3)=false from rfl,show((4:Int)=1)=False by simp,show((4:Int)=2)=False by simp,show((4:Int)=3)=False by simp,Ah,Aa,Bk]
  rw[s1w c h.tiny.few];rfl
theorem j1o {b:u0i} {r:s7e} {x:u0i} (hB:BaseR b) (hR:RecR r) (h:u2f b r=some x):tinyB x:=by
 unfold u2f at h
 cases hR with
 | thr t ht hs=>
  simp only[Bl] at h
  split at h
  ·rw[←Ds h];exact s8r hB ht.tiny
  ·cases h
 | rdy t ht hs=>
  simp only[show((2:Int)=1)=False by simp,Bl,Bk] at h
  split at h
  ·rw[←Ds h];exact q72 hB ht.tiny (by have:=u3i (ht.name hs);omega)
  ·cases h
 | fin n y hn=>
  simp only[show((3:Int)=1)=False by simp,show((3:Int)=2)=False by simp,Bl,Bk] at h
  split at h
  ·cases h
  ·rename_i q
   have hk:(u0n b n).toNat<b.2.2.1.length:=by
    unfold u0n at q ⊢
    split
    ·rename_i z;rw[zTn];exact z
    ·rename_i z;rw[Ao z] at q;omega
   split at h
   ·rw[←Ds h]
    refine s8r hB ?_
    rw[y8k hk];exact(hB.ready _ (Ag hk)).1.tiny
   ·rw[←Ds h];exact q7u hB.tiny
 | bas c hc=>
  simp only[show((4:Int)=1)=False by simp,show((4:Int)=2)=False by simp,show((4:Int)=3)=False by simp,Bk] at h
  rw[←Ds h];exact hc.tiny
theorem o4e (b:u0i) (r:s7e) (hb:tinyB b) (hr:tinyR r):r3b (b,r)=some (s5a b r):=by
 have hq:u0j=1099511627776:=rfl
 rw[p9v];unfold q5a
 simp only
 rw[s1u b (by have:=hb.wt;omega),q4g r hr.wt,s1w b hb.few]
 simp only[zOb]
 cases h1:u79 b
 ·unfold s5a u8b
  rw[Ao (by simp[h1])];rfl
 ·cases h2:u7q r
  ·unfold s5a u8b
   rw[Ao (by simp[h2])];rfl
  ·have hB:=p7i.mp h1
   have hR:=j2x.mp h2
   simp only[Ap,Aa,zOb]
   rw[o8s b r hB hR]
   simp only[zOb]
   unfold s5a u8b
   rw[Al ⟨h1,h2⟩]
   cases hx:u2f b r with
   | none=>rfl
   | some x=>
    have h3:=j1o hB hR hx
    simp only[Ap,Aa]
    rw[s5r _ _ h3.few (by simp)]
    simp only[zOb]
    rw[s1u _ (by have:=(t9m h3 []).wt;omega)]
    simp only[zOb]
    cases u79 (u3q x [])<;>rfl
theorem o0c {b x:u0i} {r:s7e} (h:u8b b r=some x):BaseR x∧RecR r:=by
 unfold u8b at h
 split at h
 ·rename_i q
  split at h
  ·cases h
  ·split at h
   ·rename_i z
    rw[←Ds h]
    exact⟨p7i.mp z,j2x.mp q.2⟩
   ·cases h
 ·cases h
theorem p7z (t:Hs):tinyR (t7t t).1:=by
 unfold t7t
 cases h:u5d t with
 | none=>exact j1d
 | some r=>exact(q6i h).1.tiny
theorem o6b (b:u0i) (t:Hs) (l:Hu Hs):s3q b (t::l)=bif !(t7t t).2 || !(s5a b (t7t t).1).2 then none else s3q (s5a b (t7t t).1).1 l:=by
 unfold t7t s5a
 simp only[s3q]
 cases u5d t with
 | none=>rfl
 | some r=>
  simp only
  cases u8b b r with
  | none=>rfl
  | some x=>rfl
def logR (l:Hu Hs):u0i×Bool:=match t1u l with
 | some b=>(b,true)
 | none=>(u2u,false)
theorem o09 (d:u0l) (hd:d1n.wt d≤1073741824) (ht:∀t∈u0f d,t.size≤u0j) (hl:(u0f d).length≤1000000):u9d d=some (logR (u0f d)):=by
 have L:=r6o u69 (u0f d).length (fun(b:u0i) i=>(u2u,b,u0f d,((u0f d).length:Int),i)) (fun i b=>match s3q b ((u0f d).drop i) with
  | some x=> .inl (u2u,x)
  | none=> .inr (u2u,false)) (fun _ b=>BaseR b)
  (fun b hb=>by
   rw[r5q];simp only[t7y,u0b,Am,Ah,Aa]
   rw[F5];rfl)
  (fun i b hi hb=>by
   have hm:=Ag hi
   have hd:(u0f d).drop i=(u0f d)[i] ::(u0f d).drop (i+1):=Ce hi
   have hw:u69 (u2u,b,u0f d,((u0f d).length:Int),(i:Int))=bif !(t7t (u0f d)[i]).2 || !(s5a b (t7t (u0f d)[i]).1).2 then some (.inr (u2u,false)) else u69 (u2u,(s5a b (t7t (u0f d)[i]).1).1,u0f d,((u0f d).length:Int),((i+1:Nat):Int)):=by
    rw[r5q];simp only[t7y,u0b,hi,Ae,Ad,y7t hi,zTn,y8k (t:=Ty.str) hi,y7l (show i<4611686018427387904 by omega)]
    rw[p1r _ (ht _ hm)]
    simp only[zOb]
    rw[o4d b _ hb.tiny (p7z _)]
    simp only[zOb]
    cases (t7t (u0f d)[i]).2<;>cases (s5a b (t7t (u0f d)[i]).1).2<;>rfl
   rw[hw,hd,o6b]
   cases hc:(!(t7t (u0f d)[i]).2 || !(s5a b (t7t (u0f d)[i]).1).2)
   ·refine .inr ⟨(s5a b (t7t (u0f d)[i]).1).1,?_,?_,rfl⟩
    ·unfold s5a at hc ⊢
     cases hp:u8b b (t7t (u0f d)[i]).1 with
     | none=>rw[hp] at hc;simp at hc
     | some x=>exact(o0c hp).1
    ·simp only[Aa]
   ·exact .inl rfl) 0 o0x (Cn _) o24
 rw[p5c];unfold q0x
 rw[p45];unfold q0q
 rw[p8k d hd]
 simp only[zOb]
 have L' :u69 ((([], [], [],0,0):u0i),(([], [], [],0,1):u0i),u0f d,((u0f d).length:Int),0)=_:=L
 rw[L',Fh]
 unfold logR t1u
 cases s3q o0x (u0f d)<;>rfl
theorem o1a (d:u0l) (hd:d1n.wt d≤1073741824) (ht:∀t∈u0f d,t.size≤u0j) (hl:(u0f d).length≤1000000):s26 d=some (logR (u0f d)):=by
 have L:=r6o u7a (u0f d).length (fun(b:u0i) i=>(u2u,b,u0f d,i)) (fun i b=>match s3q b ((u0f d).drop i) with
  | some x=> .inl (u2u,x)
  | none=> .inr (u2u,false)) (fun _ b=>BaseR b)
  (fun b hb=>by
   rw[r57];simp only[t8e,u0b,Am,Ah,Aa]
   rw[F5];rfl)
  (fun i b hi hb=>by
   have hm:=Ag hi
   have hd:(u0f d).drop i=(u0f d)[i] ::(u0f d).drop (i+1):=Ce hi
   have hw:u7a (u2u,b,u0f d,(i:Int))=bif !(t7t (u0f d)[i]).2 || !(s5a b (t7t (u0f d)[i]).1).2 then some (.inr (u2u,false)) else u7a (u2u,(s5a b (t7t (u0f d)[i]).1).1,u0f d,((i+1:Nat):Int)):=by
    rw[r57];simp only[t8e,u0b,hi,Ae,Ad,y7t hi,zTn,y8k (t:=Ty.str) hi,y7l (show i<4611686018427387904 by omega)]
    rw[p1s _ (ht _ hm)]
    simp only[zOb]
    rw[o4e b _ hb.tiny (p7z _)]
    simp only[zOb]
    cases (t7t (u0f d)[i]).2<;>cases (s5a b (t7t (u0f d)[i]).1).2<;>rfl
   rw[hw,hd,o6b]
   cases hc:(!(t7t (u0f d)[i]).2 || !(s5a b (t7t (u0f d)[i]).1).2)
   ·refine .inr ⟨(s5a b (t7t (u0f d)[i]).1).1,?_,?_,rfl⟩
    ·unfold s5a at hc ⊢
     cases hp:u8b b (t7t (u0f d)[i]).1 with
     | none=>rw[hp] at hc;simp at hc
     | some x=>exact(o0c hp).1
    ·simp only[Aa]
   ·exact .inl rfl) 0 o0x (Cn _) o24
 rw[p5z];unfold q1k
 rw[q2k];unfold q1d
 rw[p8l d hd]
 simp only[zOb]
 have L' :u7a ((([], [], [],0,0):u0i),(([], [], [],0,1):u0i),u0f d,0)=_:=L
 rw[L',Fh]
 unfold logR t1u
 cases s3q o0x (u0f d)<;>rfl
end
section
def txP (t:u0g):Hs×Bool:=if u77 t=true then(t26 t,true) else(emp,false)
def s4h (l m:Hu u0g):Bool:=decide (l.map txP=m.map txP)
theorem j1g (a b:Hs×Bool):(bif a.2==b.2 then z7o a.1 b.1 else false)=decide (a=b):=by
 obtain⟨a1,a2⟩:=a
 obtain⟨b1,b2⟩:=b
 rw[Cd,Ar,Ak]
 cases a2<;>cases b2<;>simp[y7f]
theorem o9f {l m:Hu u0g} (h:l.length=m.length):((List.range l.length).all fun i=>decide (txP (rdL u0x l i)=txP (rdL u0x m i)))=s4h l m:=by
 unfold s4h
 rw[Cd,Bg,Ar]
 constructor
 ·intro k
  apply Gw (by simp[h])
  intro i h1 h2
  rw[F6,F6]
  rw[Da] at h1 h2
  have:=k i (Bq.mpr h1)
  rw[Ar,y8k h1,y8k h2] at this
  exact this
 ·intro k i hi
  have h1:=Bq.mp hi
  have h2:i<m.length:=by omega
  rw[Ar,y8k h1,y8k h2]
  have e:(l.map txP)[i]'(by simpa using h1)=(m.map txP)[i]'(by simpa using h2):=by simp only[k]
  rwa [F6,F6] at e
theorem o5g {l m:Hu u0g} (h:l.length≠m.length):s4h l m=false:=by
 unfold s4h
 rw[Bu]
 intro e
 have:=Dj List.length e
 rw[Da,Da] at this
 exact h this
theorem p7d (l m:Hu u0g) (hl:l.length≤1000) (h1:∀t∈l,tinyT t) (h2:∀t∈m,tinyT t):u10 (l,m,())=some (s4h l m):=by
 rw[t3d];unfold u5x
 simp only
 by_cases h:l.length=m.length
 ·have L:=t4o u1q l.length (fun i=>(m,(),l,(l.length:Int),i)) (fun i=>decide (txP (rdL u0x l i)=txP (rdL u0x m i))) (.inl ()) (.inr false)
   (by rw[u5b];simp only[u1p,u0b,Am,Ah,Aa])
   (fun i hi=>by
    have hm1:rdL u0x l i∈l:=by rw[y8k hi];exact Ag hi
    have hi2:i<m.length:=by omega
    have hm2:rdL u0x m i∈m:=by rw[y8k hi2];exact Ag hi2
    have k1:=s3h (rdL u0x l i) (by have:=(h1 _ hm1).wt;omega)
    have k2:=s3h (rdL u0x m i) (by have:=(h2 _ hm2).wt;omega)
    rw[u5b];simp only[u1p,u0b,hi,Ae,Ad,y7t hi,y7t hi2,zTn,y7l (show i<4611686018427387904 by omega)]
    rw[p22];unfold r7j
    simp only
    rw[k1,k2]
    simp only[zOb]
    rw[←j1g]
    unfold txP
    generalize (if u77 (rdL u0x l i)=true then(t26 (rdL u0x l i),true) else(emp,false))=a
    generalize (if u77 (rdL u0x m i)=true then(t26 (rdL u0x m i),true) else(emp,false))=b
    cases a.2==b.2
    ·rfl
    ·simp only[Ad,zOb]
     cases z7o a.1 b.1<;>rfl)
  rw[o9f h] at L
  rw[L,Bb (show(l.length:Int)=(m.length:Int) by omega)]
  cases s4h l m<;>rfl
 ·rw[A7 (show ¬(l.length:Int)=(m.length:Int) by omega),o5g h];rfl
end
section
theorem j0s (n:Nat) (hn:n≤1099511627776):u8e ((),(n:Int))=some [] :=by
 rw[s7j];unfold t6x
 have e0:IntKind.i64.wrap ((0:Int) - (0:Int))=0:=by rw[y4y (by omega) (by omega)];rfl
 have e1:IntKind.i64.wrap ((n:Int) - 0)=(n:Int):=by rw[y4y (by omega) (by omega)];omega
 have e2:decide ((n:Int)<0)=false:=A7 (by omega)
 simp only[e0,e1,e2,Aa]
 by_cases h:n=0
 ·subst h;simp
 ·have e3:decide ((n:Int) >0)=true:=by simp;omega
  have e4:(decide ((1:Int)≤(n:Int))&&decide ((n:Int)≤1099511627776))=true:=by simp;omega
  simp only[e3,e4,Ad]
  simp
theorem o6w (ls:Hu (Hu u2m)) (h:ls.flatten.length≤1099511627776) (hn:ls.length≤1099511627776):u7n ls=some ls.flatten:=by
 have fl:∀(i:Nat),i≤ls.length→(ls.take i).flatten.length≤ls.flatten.length:=fun i _=>by
  have:=En i ls
  have h2:ls.flatten=(ls.take i).flatten++(ls.drop i).flatten:=by rw[←Ga,this]
  rw[h2,Ba];omega
 have st:∀(i:Nat) (hi:i<ls.length),(ls.take (i+1)).flatten=(ls.take i).flatten++ls[i] :=fun i hi=>by
  rw[Gm,A4 hi,Ga];simp
 have L1:=r6o u2i ls.length (fun(n:Nat) i=>(ls,(n:Int),ls,(ls.length:Int),i)) (fun _ _=> .inl (ls,(ls.flatten.length:Int))) (fun i n=>n=(ls.take i).flatten.length)
  (fun n hP=>by
   rw[Cq] at hP;subst hP
   rw[t06];simp only[u3g,u0b,Am,Ah,Aa])
  (fun i n hi hP=> .inr ⟨(ls.take (i+1)).flatten.length,rfl,rfl,by
   have h1:=fl (i+1) (by omega)
   have h2:(ls.take (i+1)).flatten.length=n+ls[i].length:=by rw[st i hi,Ba,hP]
   have e1:IntKind.i64.wrap ((n:Int)+((ls[i].length:Nat):Int))=((n+ls[i].length:Nat):Int):=by rw[y4y (by omega) (by omega)];omega
   have e2:decide (((n+ls[i].length:Nat):Int)<0)=false:=by simp;omega
   rw[t06];simp only[u3g,u0b,hi,Ae,Ad,y7t hi,zTn,y8k (t:=Ty.sl u0d) hi,y7l (show i<4611686018427387904 by omega),h2]
   rw[e1,e2];rfl⟩) 0 0 (by omega) rfl
 have L2:=r6o u2e ls.length (fun(a:Hu u2m) i=>(a,ls,(ls.length:Int),i)) (fun _ _=> .inl ls.flatten) (fun i a=>a=(ls.take i).flatten)
  (fun a hP=>by
   rw[Cq] at hP;subst hP
   rw[t0m];simp only[u26,u0b,Am,Ah,Aa])
  (fun i a hi hP=> .inr ⟨(ls.take (i+1)).flatten,rfl,rfl,by
   have h1:=fl (i+1) (by omega)
   have h2:(ls.take (i+1)).flatten.length=a.length+ls[i].length:=by rw[st i hi,Ba,hP]
   rw[t0m];simp only[u26,u0b,hi,Ae,Ad,y7t hi,zTn,y8k (t:=Ty.sl u0d) hi,y7l (show i<4611686018427387904 by omega)]
   rw[u0z (show a.length+ls[i].length≤1099511627776 by omega),st i hi,hP];rfl⟩) 0 [] (by omega) rfl
 rw[s48];unfold t38
 have L1' :u2i (ls,(0:Int),ls,(ls.length:Int),0)=some (.inl (ls,(ls.flatten.length:Int))):=L1
 have L2' :u2e ([],ls,(ls.length:Int),0)=some (.inl ls.flatten):=L2
 simp only[L1',zOb,j0s _ h,L2']
def d00:s7f:=((⟨#[97]⟩:Hs),(⟨#[122,122,122]⟩:Hs))
def q9l (a b:Hu u2m) (s:Int):Bool:=decide (o3l a d00 s=o3l b d00 s)
def q6k (a b:Hu u2m) (s:Int):Bool:=q9l a b s&&(a++b).all fun v=>decide (v.2.2.2≤s) || q9l a b v.2.2.2
def likeP (a b:u0i):Bool:=decide (a.2.2.2.1=b.2.2.2.1)&&(s4h a.2.1 b.2.1&&(s4h a.2.2.1 b.2.2.1&&q6k a.1 b.1 a.2.2.2.1))
theorem p4g (a b:Hu u2m) (s:Int) (ha:a.length≤10000) (hb:b.length≤10000):t6p (s,(a,b))=some (q9l a b s):=by
 rw[q7e];unfold s98
 rw[p5o];unfold q09
 simp only[zOb]
 rw[p1t a _ s (by omega),p1t b _ s (by omega)]
 simp only[zOb]
 rw[o64 _ _ (by have:=o7x a ((⟨#[97]⟩:Hs),(⟨#[122,122,122]⟩:Hs)) s;omega)]
 rfl
theorem p8p (a b:Hu u2m) (s:Int) (ha:a.length≤10000) (hb:b.length≤10000):s6i (a,b,s)=some (q6k a b s):=by
 have hC:=o6w [a,b] (by simp only[List.flatten_cons,List.flatten_nil,Bw,Ba];omega) (by simp)
 rw[show[a,b].flatten=a++b by simp] at hC
 have hl:(a++b).length≤20000:=by rw[Ba];omega
 generalize hg:a++b=g at hC hl
 have L:=t4o t6b g.length (fun i=>(s,(a,b),g,(g.length:Int),i)) (fun i=>(fun v:u2m=>decide (v.2.2.2≤s) || q9l a b v.2.2.2) (rdL u0d g i)) (.inl (s,(a,b))) (.inr false)
  (by rw[r1t];simp only[t5m,u0b,Am,Ah,Aa])
  (fun i hi=>by
   rw[r1t];simp only[t5m,u0b,hi,Ae,Ad,y7t hi,zTn,y7l (show i<4611686018427387904 by omega),q59 (rdL u0d g i).2.2.2 s]
   rw[p4g a b _ ha hb]
   cases decide ((rdL u0d g i).2.2.2≤s)
   ·cases q9l a b (rdL u0d g i).2.2.2<;>rfl
   ·rfl)
 rw[s3i (t:=u0d) g (fun v:u2m=>decide (v.2.2.2≤s) || q9l a b v.2.2.2)] at L
 rw[p2s];unfold r7a
 simp only
 rw[hC]
 simp only[zOb]
 rw[L]
 unfold q6k
 rw[hg]
 cases g.all fun v:u2m=>decide (v.2.2.2≤s) || q9l a b v.2.2.2
 ·simp
 ·simp only[Ad,zOb,Cz]
  rw[p4g a b _ ha hb];rfl
theorem o07 (a b:u0i) (ha:tinyB a) (hb:tinyB b):s01 (a,b)=some (likeP a b):=by
 rw[p2m];unfold r64 likeP
 simp only
 rw[p7d _ _ ha.pl ha.ps hb.ps,p7d _ _ ha.rl ha.rs hb.rs,p8p _ _ _ ha.vl hb.vl]
 simp only[zOb]
 cases decide (a.2.2.2.1=b.2.2.2.1)<;>cases s4h a.2.1 b.2.1<;>cases s4h a.2.2.1 b.2.2.1<;>rfl
end
section
theorem o3j (t:Hs) (a:Int):(u0m t a).1.size≤20000:=by
 unfold u0m
 split
 ·rename_i hc
  have:=t92 hc.1
  simp only[Bd];omega
 ·exact Cn _
theorem q84 (t:Hs):∀(m:Nat) (a:Int) (acc:Hu Hs),(∀s∈acc,s.size≤20000)→ ∀s∈(u7u t m a acc).1,s.size≤20000
 | 0,a,acc,h=>h
 | m+1,a,acc,h=>by
  unfold u7u
  split
  ·refine q84 t m _ _ fun s hs=> ?_
   rcases Ay.mp hs with q | q
   ·exact h s q
   ·rw[Ax.mp q];exact o3j _ _
  ·intro s hs;cases hs
theorem p61 (d:u0l) (a:Int):∀s∈(u0c d a).1,s.size≤20000:=by
 unfold u0c
 split
 ·exact q84 _ _ _ _ fun s hs=>by cases hs
 ·intro s hs;cases hs
theorem q2x (d:u0l):∀s∈u0f d,s.size≤20000:=p61 d _
theorem q9e (d:u0l):(u0f d).length<256:=o3h d _
theorem q4e (d:u0l) (hd:d1n.wt d≤1073741824):u9d d=some (logR (u0f d)):=
 o09 d hd (fun t ht=>by have:=q2x d t ht;unfold u0j;omega) (by have:=q9e d;omega)
theorem o66 (d:u0l) (hd:d1n.wt d≤1073741824):s26 d=some (logR (u0f d)):=
 o1a d hd (fun t ht=>by have:=q2x d t ht;unfold u0j;omega) (by have:=q9e d;omega)
theorem o6g:∀ {l:Hu Hs} {b x:u0i},BaseR b→s3q b l=some x→BaseR x
 | [],b,x,hb,h=>by rw[←Ds h];exact hb
 | t::l,b,x,hb,h=>by
  simp only[s3q] at h
  split at h
  ·cases h
  ·split at h
   ·cases h
   ·rename_i r _ y hy
    exact o6g (o0c hy).1 h
theorem o3b {l:Hu Hs} {x:u0i} (h:t1u l=some x):BaseR x:=o6g o24 h
theorem p33 (l:Hu Hs):tinyB (logR l).1:=by
 unfold logR
 cases h:t1u l with
 | none=>exact t3c
 | some b=>exact(o3b h).tiny
def storeOk (s:u2v×u0l):Bool:=o2o s.1&&(u2t s.2&&((logR (u0f s.2)).2&&likeP (logR (u0f s.2)).1 (u3q s.1.1 [])))
end
section
theorem j0u {y:Hs} (h:y∈K5):u8d y=true:=by
 simp only[K5,A8,Ep,Em] at h
 rcases h with rfl | rfl | rfl | rfl | rfl<;>decide
theorem p8j {s:Src} (h:s.ok):Dr (u7p s) (fun y=>y∈K5):=by
 rw[p93];unfold q5i
 obtain⟨y,s1,e1,k1,r1⟩:=p8n h (l:=K5) (by decide)
 have e1:u2q (s, [(⟨#[97]⟩:Hs),(⟨#[98]⟩:Hs),(⟨#[99]⟩:Hs),(⟨#[100]⟩:Hs),(⟨#[97,98]⟩:Hs)])=_:=e1
 simp only[e1,zOb]
 exact⟨_,_,rfl,k1,r1⟩
def d04 (r:s7f):Prop:=r.1∈K5∧r.2∈K5∧u3f r=true
theorem o5a {a b:Hs} (ha:a∈K5) (hb:b∈K5) (h:y3c b a=false):d04 (a,b):=by
 refine⟨ha,hb,?_⟩
 unfold u3f
 simp only[j0u ha,j0u hb,Bz,Cr]
 rcases q33 a b with q | rfl | q
 ·exact .inl q
 ·exact .inr (by simp[z7o])
 ·rw[q] at h;cases h
theorem o8t {s:Src} (h:s.ok):Dr (t0k s) d04:=by
 rw[p3m];unfold r74
 obtain⟨y1,s1,e1,k1,r1⟩:=p8j h
 obtain⟨y2,s2,e2,k2,r2⟩:=p8m k1 (n:=2) (by omega)
 obtain⟨y3,s3,e3,k3,r3⟩:=p8j k2
 simp only[e1,e2,e3,zOb]
 cases y2 with
 | true=>exact⟨_,_,rfl,k2,o5a r1 r1 (t5e _)⟩
 | false=>
  simp only[Aa]
  cases hc:y3c y3 y1 with
  | true=>exact⟨_,_,rfl,k3,o5a r3 r1 (r3f hc)⟩
  | false=>exact⟨_,_,rfl,k3,o5a r1 r3 hc⟩
def d1v (w:WrT):Prop:=w.1∈K5∧u29 w=true
theorem o8x {s:Src} (h:s.ok):Dr (t0l s) d1v:=by
 rw[p3n];unfold r75
 obtain⟨y1,s1,e1,k1,r1⟩:=p8j h
 obtain⟨y2,s2,e2,k2,r2⟩:=p8n k1 (l:= [(⟨#[111,110,101]⟩:Hs),(⟨#[116,119,111]⟩:Hs),(⟨#[]⟩:Hs),(⟨#[120,0]⟩:Hs)]) (by decide)
 obtain⟨y3,s3,e3,k3,r3⟩:=p8m k2 (n:=5) (by omega)
 simp only[e1,e2,e3,zOb]
 have hz:y2.size≤12:=by
  simp only[A8,Ep,Em] at r2
  rcases r2 with rfl | rfl | rfl | rfl<;>decide
 have hk:=j0u r1
 cases y3 with
 | true=>exact⟨_,_,rfl,k3,r1,by simp[u29,hk,emp,ByteArray.size]⟩
 | false=>exact⟨_,_,rfl,k3,r1,by simp[u29,hk,hz]⟩
end
section
theorem u9v (b:u0i) (o:Hu u0g) (hb:fewB b) (ho:p02 o):u0o (b,o)=some (b,o):=by
 have h1:=s1w b hb
 have h2:=q3j o ho
 rw[p6q];unfold q2c
 simp only[h1,h2,zOb]
theorem p66 (b:u0i) (o:Hu u0g) (hb:fewB b) (ho:p02 o):u70 (b,o)=some (b,o):=by
 have h1:=s1v b hb
 have h2:=q3i o ho
 rw[q7i];unfold r0c
 simp only[h1,h2,zOb]
end
section
theorem EngR.ot {e:u2v} (h:EngR e) {t:u0g} (ht:t∈e.2):tinyT t:=(h.open_ t ht).1.tiny
theorem EngR.fewO {e:u2v} (h:EngR e):p02 e.2:=q6m (by have:=h.olen;omega) fun t ht=>h.ot ht
theorem EngR.tinyO {e:u2v} (h:EngR e):tinyB e.1:=h.base.tiny
theorem EngR.fewB {e:u2v} (h:EngR e):Ab.fewB e.1:=h.base.tiny.few
theorem EngR.oth {e:u2v} (h:EngR e):∀t∈t39 e,tinyT t:=fun t ht=>by
 rcases Ay.mp ht with q | q
 ·exact(h.base.past t q).1.tiny
 ·exact(h.base.ready t q).1.tiny
theorem EngR.fewOth {e:u2v} (h:EngR e):p02 (t39 e):=q6m (by have:=h.base.plen;have:=h.base.rlen;simp only[t39,Ba];omega) h.oth
theorem o6k (e:u2v) (id:Int):(s1l e id).length≤e.2.length:=Cs _ _
theorem t9e (e:u2v) (id:Int) (h:e.2.length≤4194304):u7o (e,id)=some (u55 e.2 id):=by
 have L:=r6o t4t (u0p (fun x:u0g=>decide (x.1=id)) e.2) (fun(_:Unit) i=>(id,e,i)) (fun _ _=>if u0p (fun x:u0g=>decide (x.1=id)) e.2<e.2.length then .inr ((u0p (fun x:u0g=>decide (x.1=id)) e.2:Nat):Int) else .inl ()) (fun _ _=>True)
  (fun a _=>by
   have hle:=t6m (fun x:u0g=>decide (x.1=id)) e.2
   rw[r9r]
   by_cases hk:u0p (fun x:u0g=>decide (x.1=id)) e.2<e.2.length
   ·have hy:=u9c hk
    simp only[t4k,u0b,hk,Ae,Ad,y7t hk,zTn,y8k (t:=u0x) hk,hy,Bl]
   ·simp only[t4k,u0b,hk,Ah,Aa,Bk])
  (fun i a hi _=> .inr ⟨(),trivial,rfl,by
   have hle:=t6m (fun x:u0g=>decide (x.1=id)) e.2
   have hil:i<e.2.length:=by omega
   have hn:=u8l hil hi
   rw[r9r]
   simp only[t4k,u0b,hil,Ae,Ad,y7t hil,zTn,y8k (t:=u0x) hil,hn,Aa]
   rw[y7l (by omega)]⟩) 0 () (Cn _) trivial
 have L:t4t (id,e,0)=_:=L
 rw[p9t];unfold q48 u55
 simp only[L,zOb]
 by_cases hk:u0p (fun x:u0g=>decide (x.1=id)) e.2<e.2.length
 ·simp only[Al hk]
 ·simp only[Ao hk]
theorem q3l (e:u2v) (id:Int) (h:e.2.length≤4194304):s02 (e,id)=some (u55 e.2 id):=by
 have hq:∀x∈e.2,s03 (x,id)=some (decide (x.1=id)):=fun x _=>by
  rw[p2p];unfold r67;rfl
 have L:=Q.first (T:=u0x) (c:=Int) (W:=u1t) (q:=s03) (p:=fun x:u0g=>decide (x.1=id)) (fun x=>t12 x) e.2 id (by omega) hq
 rw[p9b];unfold q4p u55
 simp only[t3g,u51,L,zOb]
 by_cases hk:u0p (fun x:u0g=>decide (x.1=id)) e.2<e.2.length
 ·simp only[Al hk,zOb]
 ·simp only[Ao hk,zOb]
theorem o82 {e:u2v} :(decide ((e.2.length:Int)≥4)= !decide (e.2.length<4))∧(decide (e.1.2.2.2.2≥9999)= !decide (e.1.2.2.2.2<9999)):=by
 constructor
 ·by_cases h:e.2.length<4<;>simp[h] <;>omega
 ·by_cases h:e.1.2.2.2.2<9999<;>simp[h] <;>omega
theorem p64 {e:u2v} (h:EngR e):t05 e=some (s4q e):=by
 have ho:=h.olen
 have hn:=h.base.next
 have h1:=u9v e.1 e.2 h.fewB h.fewO
 have h2:=p8h e (by have:=h.tinyO.wt;have:=p1j (l:=e.2) (by omega) (fun t ht=>h.ot ht);have:=o57 e;omega)
 have h1:u0o e=some e:=h1
 have hk:=j5m.mpr h
 rw[o2d];unfold q8u s4q
 simp only[h1,h2,hk,zOb,Ap,Aa,o82.1,o82.2,Aw,u0z (show e.2.length+1≤1099511627776 by omega),Ad]
 by_cases c1:e.2.length<4
 ·by_cases c2:e.1.2.2.2.2<9999
  ·simp only[c1,c2,Ae,Ap,Aa,zOb,and_self,Bl,s5i (n:=e.1.2.2.2.2) (r8x hn)]
   rfl
  ·simp only[c1,c2,Ae,Ah,Ap,Bh,Aa,Ad,zOb,and_false,Bk]
 ·simp only[c1,Ah,Bh,Ad,zOb,false_and,Bk]
theorem d1o (l:Hu s7f) (r:s7f):(l.any fun x=>z7o x.1 r.1&&(z7o x.2 r.2&&true))=j65 l r:=by
 unfold j65;simp only[Cz]
theorem q0n {t:u0g} {r:s7f} (ht:TxnR t) (h1:t.2.1=1) (hr:u3f r=true):t9c (t,r)=some (s7l t r):=by
 have hy:=ht.tiny
 have hw:=hy.wt
 have hl:=ht.rlen
 have c0:=t14 t hy.few
 have c1:=t9r t (by unfold u0j;omega)
 have k:=u3i (s:=r.1) (by unfold u3f at hr;simp only[Ai] at hr;exact hr.1)
 have k' :=u3i (s:=r.2) (by unfold u3f at hr;simp only[Ai] at hr;exact hr.2.1)
 have c2:=r6s r (by unfold u0j;omega) (by unfold u0j;omega)
 have ok:=q6o.mpr ht
 have L:=s7g u84 t.2.2.2.2.1 (fun i=>(t,r,(u6k:u0g),t,i)) (fun x=>z7o x.1 r.1&&(z7o x.2 r.2&&true)) (.inr (t,true)) (.inl (t,r,u6k,t))
  (by rw[s86];simp only[t3y,u0b,Am,Ah,Aa])
  (fun i hi=>by
   rw[s86]
   simp only[t3y,u0b,hi,Ae,Ad,y7t hi,zTn,y8k (t:=t4z) hi]
   rw[y7l (by omega)])
 rw[d1o] at L
 have L:u84 (t,r,((0,0,0,0, [], [],false,(⟨#[]⟩:Hs)):u0g),t,0)=_:=L
 rw[p0w];unfold r4c s7l
 simp only[c0,c1,c2,ok,hr,h1,zOb,Ae,Ap,Aa,L]
 cases j65 t.2.2.2.2.1 r
 ·have e8:decide ((t.2.2.2.2.1.length:Int)≥8)= !decide (t.2.2.2.2.1.length<8):=by by_cases c:t.2.2.2.2.1.length<8<;>simp[c] <;>omega
  simp only[Aa,e8,Br,Bk]
  by_cases c:t.2.2.2.2.1.length<8
  ·simp only[c,Ae,Ap,Aa,Aw,u0z (show t.2.2.2.2.1.length+1≤1099511627776 by omega),Ad,Bl]
   rfl
  ·simp only[c,Ah,Bh,Ad,Bk]
 ·rfl
theorem o0t {l:Hu WrT} {w:WrT} (h:u68 l=true) (hw:u29 w=true):u68 (o0y l w)=decide ((o0y l w).length≤8):=by
 by_cases c:(o0y l w).length≤8
 ·rw[o9q h hw c,Bb c]
 ·rw[A7 c]
  cases q:u68 (o0y l w)
  ·rfl
  ·exact absurd (j2z.mp q).2.2 c
theorem o6s {w:WrT} (h:u29 w=true):w.1.size≤3∧w.2.1.size≤12:=by
 unfold u29 at h
 simp only[Ai,Ar] at h
 exact⟨(u3i h.1).2,h.2.1⟩
theorem j0d {l:Hu WrT} (hn:l.length≤1000) (h:∀w∈l,u29 w=true):(Ty.sl u20).wt l≤20000:=by
 have e:(Ty.sl u20).wt l=l.length+(l.map u20.wt).sum:=rfl
 have s:=r1l (f:=u20.wt) (k:=15) (l:=l) fun w hw=>by
  have:=o6s (h w hw)
  have e:u20.wt w=w.1.size+(w.2.1.size+0):=rfl
  omega
 omega
theorem o9p {l:Hu WrT} {w:WrT} (h:u68 l=true) (hw:u29 w=true):∀x∈o0y l w,u29 x=true:=fun x hx=>by
 rcases o0e hx with q | q
 ·exact(j2z.mp h).1 x q
 ·rw[q];exact hw
theorem p8v {t:u0g} {w:WrT} (ht:TxnR t) (h1:t.2.1=1) (hw:u29 w=true):s6w (t,w)=some (s7b t w):=by
 have hy:=ht.tiny
 have ht8:=(j2z.mp ht.ws).2.2
 have hl:=j1k t.2.2.2.2.2.1 w
 have c0:=t14 t hy.few
 have c1:=t9r t (by have:=hy.wt;unfold u0j;omega)
 have c2:=r6w w (by have:=o6s hw;unfold u0j;omega)
 have c3:=p8o t.2.2.2.2.2.1 w (by omega)
 have c4:=q4i (o0y t.2.2.2.2.2.1 w) (by have:=j0d (l:=o0y t.2.2.2.2.2.1 w) (by omega) (o9p ht.ws hw);unfold u0j;omega)
 have ok:=q6o.mpr ht
 rw[p3h];unfold r7z s7b
 simp only[c0,c1,c2,c3,c4,ok,hw,h1,zOb,Ae,Ap,Aa,o0t ht.ws hw]
 by_cases c:(o0y t.2.2.2.2.2.1 w).length≤8
 ·simp only[c,Ae,Ap,Aa,Bl]
  unfold j67
  rw[h1]
 ·simp only[c,Ah,Bh,Ad,Bk]
end
section
def r8z (t:u0g) (l:Hu u2m) (k:Hs):Hs×Bool:=
 if u0p (fun w:WrT=>z7o w.1 k) t.2.2.2.2.2.1<t.2.2.2.2.2.1.length then
  (if(rdL u20 t.2.2.2.2.2.1 (u0p (fun w:WrT=>z7o w.1 k) t.2.2.2.2.2.1)).2.2=true then(emp,false) else((rdL u20 t.2.2.2.2.2.1 (u0p (fun w:WrT=>z7o w.1 k) t.2.2.2.2.2.1)).2.1,true))
 else u8c l k t.2.2.1
def p37 (t:u0g) (l:Hu u2m) (r:s7f):Hu PrT:=
 ((q7w (l.map (fun v=>v.1)++t.2.2.2.2.2.1.map fun w=>w.1)).filter fun k=>(r8z t l k).2&&inR r k).map fun k=>(k,(r8z t l k).1)
theorem p1p (t:u0g) (l:Hu u2m) (k:Hs) (ht:q0e t) (hl:l.length≤4194304):s5f (t,l,k)=some (r8z t l k):=by
 have h8:=ht.2
 have L:=r6o t4u (u0p (fun w:WrT=>z7o w.1 k) t.2.2.2.2.2.1) (fun(_:Unit) i=>(l,k,t,i)) (fun _ _=>if u0p (fun w:WrT=>z7o w.1 k) t.2.2.2.2.2.1<t.2.2.2.2.2.1.length then .inr (if(rdL u20 t.2.2.2.2.2.1 (u0p (fun w:WrT=>z7o w.1 k) t.2.2.2.2.2.1)).2.2=true then(emp,false) else((rdL u20 t.2.2.2.2.2.1 (u0p (fun w:WrT=>z7o w.1 k) t.2.2.2.2.2.1)).2.1,true)) else .inl (l,k,t)) (fun _ _=>True)
  (fun a _=>by
   have hle:=t6m (fun w:WrT=>z7o w.1 k) t.2.2.2.2.2.1
   rw[r9s]
   by_cases hk:u0p (fun w:WrT=>z7o w.1 k) t.2.2.2.2.2.1<t.2.2.2.2.2.1.length
   ·have hy:=u9c hk
    simp only[t4l,u0b,hk,Ae,Ad,y7t hk,zTn,y8k (t:=u20) hk,hy,Bl]
    cases (t.2.2.2.2.2.1[u0p (fun w:WrT=>z7o w.1 k) t.2.2.2.2.2.1]).2.2<;>rfl
   ·simp only[t4l,u0b,hk,Ah,Aa,Bk])
  (fun i a hi _=> .inr ⟨(),trivial,rfl,by
   have hle:=t6m (fun w:WrT=>z7o w.1 k) t.2.2.2.2.2.1
   have hil:i<t.2.2.2.2.2.1.length:=by omega
   have hn:=u8l hil hi
   rw[r9s]
   simp only[t4l,u0b,hil,Ae,Ad,y7t hil,zTn,y8k (t:=u20) hil,hn,Aa]
   rw[y7l (by omega)]⟩) 0 () (Cn _) trivial
 have L:t4u (l,k,t,0)=_:=L
 rw[p9u];unfold q49 r8z
 simp only[L,zOb]
 by_cases hk:u0p (fun w:WrT=>z7o w.1 k) t.2.2.2.2.2.1<t.2.2.2.2.2.1.length
 ·simp only[Al hk]
 ·simp only[Ao hk,p1w l k _ (show l.length≤1099511627776 by omega),zOb]
theorem o08 (t:u0g) (l:Hu u2m) (r:s7f) (ht:q0e t) (hl:l.length≤4194304):s9o (t,l,r)=some (p37 t l r):=by
 have h8:=ht.2
 have L:=t00 t2j t.2.2.2.2.2.1 (fun(a:Hu u2m) i=>(l,t,r,a,i)) (fun a (w:WrT)=>a++ [((w.1,emp,false,(0:Int)):u2m)]) (fun a=> .inl (l,t,r,a)) (fun i a=>a.length=l.length+i)
  (fun a _=>by rw[r55];simp only[t8c,u0b,Am,Ah,Aa])
  (fun i hi a ha=>⟨by simp[ha];omega,by
   rw[r55]
   simp only[t8c,u0b,hi,Ae,Ad,y7t hi,zTn,y8k (t:=u20) hi,Aw,u0z (show a.length+1≤1099511627776 by omega)]
   rw[y7l (by omega)]
   rfl⟩) l rfl
 have fo:∀(ws:Hu WrT) (a:Hu u2m),ws.foldl (fun a (w:WrT)=>a++ [((w.1,emp,false,(0:Int)):u2m)]) a=a++ws.map fun w=>((w.1,emp,false,(0:Int)):u2m):=by
  intro ws
  induction ws with
  | nil=>intro a;simp
  | cons w ws ih=>intro a;rw[Bs,ih,C8,Bi];rfl
 rw[fo] at L
 obtain⟨all,ha⟩:∃all,all=l++t.2.2.2.2.2.1.map fun w:WrT=>((w.1,emp,false,(0:Int)):u2m):=⟨_,rfl⟩
 rw[←ha] at L
 have hal:all.length≤6000000:=by rw[ha];simp;omega
 have hmap:all.map (fun v=>v.1)=l.map (fun v=>v.1)++t.2.2.2.2.2.1.map fun w=>w.1:=by
  rw[ha,Dh,List.map_map];rfl
 obtain⟨ks,hks⟩:∃ks,ks=(q7w (all.map fun v=>v.1)).filter fun k=>inR r k:=⟨_,rfl⟩
 have hkl:ks.length≤all.length:=by
  rw[hks]
  refine A9 (Cs _ _) (A9 (p3x _) (by simp))
 have L2:=s4k t8v ks (fun a i=>(l,t,a,ks,i)) (fun k=>(r8z t l k).2) (fun k=>(k,(r8z t l k).1)) (fun a=> .inl a) (by omega)
  (fun a _=>by rw[r56];simp only[t8d,u0b,Am,Ah,Aa])
  (fun i hi a ha=>by
   rw[r56];simp only[t8d,u0b,hi,Ae,Ad,y7t hi,zTn,y8k (t:=Ty.str) hi,p1p t l _ ht hl,zOb,Aw,u0z (show a.length+1≤1099511627776 by omega)]
   rw[y7l (by omega)])
 have L:t2j (l,t,r,l,0)=_:=L
 rw[p5y];unfold q1j
 simp only[Cc,Co,Cf,u0z (show l.length≤1099511627776 by omega),Ad,L,zOb,o8r all r (show all.length≤500000000000 by omega)]
 rw[←hks]
 simp only[L2,zOb]
 rw[hks,List.filter_filter,hmap]
 rfl
theorem o6j {k:Hs} :u3f (k,k)=u8d k:=by
 unfold u3f
 have:z7o k k=true:=by simp[z7o]
 rw[this,Ew,Cz,Dt]
def j8i (e:u2v) (id:Int) (k:Hs):u2v×Hs×Bool×Int:=
 if(s7k e id (k,k) (u8d k)).2=0 then((s7k e id (k,k) (u8d k)).1,(r8z (u3b e id) e.1.1 k).1,(r8z (u3b e id) e.1.1 k).2,0)
 else((s7k e id (k,k) (u8d k)).1,emp,false,(s7k e id (k,k) (u8d k)).2)
def j3y (e:u2v) (id:Int) (r:s7f):u2v×Hu PrT×Int:=
 if(s7k e id r (u3f r)).2=0 then((s7k e id r (u3f r)).1,p37 (u3b e id) e.1.1 r,0) else((s7k e id r (u3f r)).1, [],(s7k e id r (u3f r)).2)
theorem p4d {t:u0g} {r:s7f} :(s7l t r).1.2.2.1=t.2.2.1∧(s7l t r).1.2.2.2.2.2.1=t.2.2.2.2.2.1:=by
 unfold s7l
 split
 ·exact⟨rfl,rfl⟩
 ·split<;>exact⟨rfl,rfl⟩
theorem p36 (t:u0g) (r:s7f) (l:Hu u2m) (k:Hs):r8z (s7l t r).1 l k=r8z t l k:=by
 unfold r8z;rw[p4d.1,p4d.2]
theorem o28 (t:u0g) (r q:s7f) (l:Hu u2m):p37 (s7l t r).1 l q=p37 t l q:=by
 unfold p37;rw[p4d.2];simp only[p36]
theorem o3i {t:u0g} {r:s7f} (h:tinyT t):q0e (s7l t r).1:=by
 unfold s7l
 split
 ·exact h.few
 ·split
  ·refine⟨?_,h.few.2⟩
   show(t.2.2.2.2.1++ [r]).length≤1048576
   have:=h.rl
   simp;omega
  ·exact h.few
theorem o39 {e:u2v} (h:EngR e) (id:Int) {k:Hs} (hk:k.size≤1048576):t6s (e,id,k)=some (j8i e id k):=by
 have ho:=h.olen
 have h1:u0o e=some e:=u9v e.1 e.2 h.fewB h.fewO
 have h2:=t9e e id (by omega)
 have h3:=t9p k (by unfold u0j;omega)
 rw[p9r];unfold q46 j8i s7k
 simp only[h1,h2,h3,zOb]
 by_cases hn:u55 e.2 id<0
 ·simp only[hn,Ae,Ad,Bl]
  rfl
 ·obtain⟨j,hj,e1,e2,e3⟩:=u2c hn
  have hR:=h.open_ _ (Ag hj)
  simp only[hn,Ah,Aa,Bk]
  cases hok:u8d k with
  | false=>rfl
  | true=>
   have c:=q0n (r:=(k,k)) hR.1 hR.2.1 (by rw[o6j];exact hok)
   simp only[Ap,Aa,e1,y7t hj,Ad,zTn,y8k (t:=u0x) hj,c,zOb,e2,Fm,Bk]
   cases hr:(s7l e.2[j] (k,k)).2 with
   | false=>rfl
   | true=>
    have g:=p1p (s7l e.2[j] (k,k)).1 e.1.1 k (o3i hR.1.tiny) (by have:=h.tinyO.vl;omega)
    simp only[Ap,Aa,g,zOb,Bl,p36]
    rfl
theorem p8q {e:u2v} (h:EngR e) (id:Int) {r:s7f} (hk:r.1.size≤1048576∧r.2.size≤1048576):t0h (e,id,r)=some (j3y e id r):=by
 have ho:=h.olen
 have h1:u0o e=some e:=u9v e.1 e.2 h.fewB h.fewO
 have h2:=t9e e id (by omega)
 have h3:=r6s r (by unfold u0j;omega) (by unfold u0j;omega)
 rw[p3e];unfold r7v j3y s7k
 simp only[h1,h2,h3,zOb]
 by_cases hn:u55 e.2 id<0
 ·simp only[hn,Ae,Ad,Bl]
  rfl
 ·obtain⟨j,hj,e1,e2,e3⟩:=u2c hn
  have hR:=h.open_ _ (Ag hj)
  simp only[hn,Ah,Aa,Bk]
  cases hok:u3f r with
  | false=>rfl
  | true=>
   have c:=q0n (r:=r) hR.1 hR.2.1 hok
   simp only[Ap,Aa,e1,y7t hj,Ad,zTn,y8k (t:=u0x) hj,c,zOb,e2,Fm,Bk]
   cases hr:(s7l e.2[j] r).2 with
   | false=>rfl
   | true=>
    have g:=o08 (s7l e.2[j] r).1 e.1.1 r (o3i hR.1.tiny) (by have:=h.tinyO.vl;omega)
    simp only[Ap,Aa,g,zOb,Bl,o28]
    rfl
theorem p1q {e:u2v} (h:EngR e) (id:Int) {w:WrT} (hw:w.1.size≤1048576):u88 (e,id,w)=some (o3d e id w):=by
 have ho:=h.olen
 have h1:u0o e=some e:=u9v e.1 e.2 h.fewB h.fewO
 have h2:=t9e e id (by omega)
 have h3:=r6w w (by unfold u0j;omega)
 rw[p9w];unfold q5b o3d
 simp only[h1,h2,h3,zOb]
 by_cases hn:u55 e.2 id<0
 ·simp only[hn,Ae,Ad,Bl]
 ·obtain⟨j,hj,e1,e2,e3⟩:=u2c hn
  have hR:=h.open_ _ (Ag hj)
  simp only[hn,Ah,Aa,Bk]
  cases hok:u29 w with
  | false=>rfl
  | true=>
   have c:=p8v (w:=w) hR.1 hR.2.1 hok
   simp only[Ap,Aa,e1,y7t hj,Ad,zTn,y8k (t:=u0x) hj,c,zOb,e2,Fm,Bk]
   cases hr:(s7b e.2[j] w).2 with
   | false=>rfl
   | true=>rfl
theorem r2o (b:u0i) (o:Hu u0g) (id:Int) (hb:fewB b) (ho:o.length≤1000):u1f ((b,o),id)=some ((u3q b (o.filter fun x=> !decide (x.1=id))),o.filter fun x=> !decide (x.1=id)):=by
 have L:=s4k t4w o (fun a i=>((b,o),id,a,i)) (fun x:u0g=> !decide (x.1=id)) (fun x=>x) (fun a=> .inl ((b,o),a)) (by omega)
  (fun a _=>by rw[r9u];simp only[s0g,u0b,Am,Ah,Aa])
  (fun i hi a ha=>by
   rw[r9u];simp only[s0g,u0b,hi,Ae,Ad,y7t hi,zTn,y8k (t:=u0x) hi,Aw,u0z (show a.length+1≤1099511627776 by omega)]
   rw[y7l (by omega)])
 rw[Er] at L
 have L:t4w ((b,o),id, [],0)=_:=L
 have hl:=Cs (fun x:u0g=> !decide (x.1=id)) o
 rw[p97];unfold q5m
 simp only[L,zOb,s5r b (o.filter fun x=> !decide (x.1=id)) hb (by omega)]
theorem o61 {e:u2v} (h:EngR e) (id:Int):t90 (e,id)=some (r1h e id):=by
 have ho:=h.olen
 have h1:u0o e=some e:=u9v e.1 e.2 h.fewB h.fewO
 have h2:=t9e e id (by omega)
 have h3:u1f (e,id)=some (s8g e id):=r2o e.1 e.2 id h.fewB (by omega)
 rw[o2g];unfold q8x r1h
 simp only[h1,h2,h3,zOb]
 by_cases hn:u55 e.2 id<0
 ·simp only[hn,Ae,Ad,Bl]
 ·simp only[hn,Ah,Aa,Bk]
end
section
theorem j5k {E:Type} (l:Hu E) (f g:E→Bool):l.any (fun x=>f x || g x)=(l.any f || l.any g):=by
 induction l with
 | nil=>rfl
 | cons x l ih=>
  simp only[Gd,ih]
  cases f x<;>cases g x<;>cases l.any f<;>cases l.any g<;>rfl
theorem j0y {E:Type} (l:Hu E) (f g:E→Bool) (i:Bool):l.any (fun x=>f x&&(i || g x))=((i&&l.any f) || l.any fun x=>f x&&g x):=by
 cases i
 ·simp
 ·simp only[Dx,Cz,Bz]
  cases h:l.any f with
  | true=>rfl
  | false=>
   rw[Ct] at h
   symm
   rw[Ci,Ct]
   intro x hx
   have:=h x hx
   simp[this]
theorem o01 (t:u0g) (l:Hu u0g) (ht:q0e t) (hl:p02 l):s9n (t,l)=some (r8b t l):=by
 obtain⟨l1,l2⟩:=hl
 have L:=s7g t2g l (fun i=>(l,t,i)) (fun x=> !decide (x.1=t.1)&&((decide (x.2.1=2) || (decide (x.2.1=3)&&decide (x.2.2.2.1 >t.2.2.1)))&&q0g x.2.2.2.2.2.1 t.2.2.2.2.2.1)) (.inr true) (.inl ())
  (by rw[r52];simp only[t8a,u0b,Am,Ah,Aa])
  (fun i hi=>by
   have h1:=o63 l[i].2.2.2.2.2.1 t.2.2.2.2.2.1 (t4h (l2 _ (Ag hi)).2) (t4h ht.2)
   rw[r52]
   simp only[t8a,u0b,hi,Ae,Ad,y7t hi,zTn,y8k (t:=u0x) hi,h1,zOb]
   rw[y7l (by omega)]
   cases decide (l[i].1=t.1)<;>cases decide (l[i].2.1=2)<;>cases decide (l[i].2.1=3)<;>cases decide (l[i].2.2.2.1 >t.2.2.1)<;>cases q0g l[i].2.2.2.2.2.1 t.2.2.2.2.2.1<;>rfl)
 rw[p5t];unfold q1e r8b
 have L:t2g (l,t,0)=_:=L
 simp only[L,zOb]
 cases l.any fun x:u0g=> !decide (x.1=t.1)&&((decide (x.2.1=2) || (decide (x.2.1=3)&&decide (x.2.2.2.1 >t.2.2.1)))&&q0g x.2.2.2.2.2.1 t.2.2.2.2.2.1)<;>rfl
theorem o06 (t:u0g) (l:Hu u0g) (ht:q0e t) (hl:p02 l):r29 (t,l)=some (o4y t l):=by
 obtain⟨l1,l2⟩:=hl
 have L:=s7g s0n l (fun i=>(l,t,i)) (fun x=>o40 x&&ahead x t) (.inr true) (.inl ())
  (by rw[q6u];simp only[s46,u0b,Am,Ah,Aa])
  (fun i hi=>by
   have h1:=t5g l[i] t (t4h (l2 _ (Ag hi)).1) (t4h ht.2)
   rw[q6u]
   simp only[s46,u0b,hi,Ae,Ad,y7t hi,zTn,y8k (t:=u0x) hi,h1,zOb,o40]
   rw[y7l (by omega)]
   cases decide (l[i].2.1=2)<;>cases decide (l[i].2.1=3)<;>cases ahead l[i] t<;>rfl)
 rw[o4v];unfold p15 o4y
 have L:s0n (l,t,0)=_:=L
 simp only[L,zOb]
 cases l.any fun x=>o40 x&&ahead x t<;>rfl
def p84 (t:u0g) (l:Hu u0g) (p:u0g):Bool:=
 (o40 p&&(p.2.2.2.2.2.2.1&&ahead t p)) || (decide (p.2.1=2)&&(ahead p t&&(ahead t p || l.any fun x=>decide (x.2.1=2)&&(!decide (x.1=t.1)&&ahead x p))))
theorem j0z (t:u0g) (l:Hu u0g):q2j t l=((o4y t l&&q6d t l) || l.any (p84 t l)):=by
 unfold q2j r2u
 rw[←j5k]
 rfl
theorem p1m (t:u0g) (l:Hu u0g) (ht:q0e t) (hl:p02 l):s5e (t,l)=some (q2j t l):=by
 obtain⟨l1,l2⟩:=hl
 have inner:∀(i:Nat) (hi:i<l.length),u8i (l,t,(i:Int),l[i],0)=some (bif (decide (l[i].2.1=2)&&ahead l[i] t)&&(l.any fun x=>decide (x.2.1=2)&&(!decide (x.1=t.1)&&ahead x l[i])) then .inr true else .inl (l,t,(i:Int))):=fun i hi=>by
  have g1:=t5g l[i] t (t4h (l2 _ (Ag hi)).1) (t4h ht.2)
  cases hg:(decide (l[i].2.1=2)&&ahead l[i] t) with
  | false=>
   have e0:u8i (l,t,(i:Int),l[i],0)=_:=s4i _
   rw[e0]
   simp only[t15,g1,zOb,Fx,Aa]
   cases decide ((0:Int)<(l.length:Int))
   ·rfl
   ·revert hg
    cases decide (l[i].2.1=2)<;>cases ahead l[i] t<;>simp
  | true=>
   rw[Ai,Ar] at hg
   obtain⟨q1,q2⟩:=hg
   have L:=s7g u8i l (fun k=>(l,t,(i:Int),l[i],k)) (fun x=>decide (x.2.1=2)&&(!decide (x.1=t.1)&&ahead x l[i])) (.inr true) (.inl (l,t,(i:Int)))
    (by rw[s4i];simp only[t15,u0b,Am,Ah,Aa,zOb])
    (fun k hk=>by
     have g2:=t5g l[k] l[i] (t4h (l2 _ (Ag hk)).1) (t4h (l2 _ (Ag hi)).2)
     rw[s4i]
     simp only[t15,u0b,hk,Ae,Ad,q1,g1,q2,g2,y7t hk,zTn,y8k (t:=u0x) hk,zOb]
     rw[y7l (by omega)]
     cases decide (l[k].2.1=2)<;>cases decide (l[k].1=t.1)<;>cases ahead l[k] l[i] <;>rfl)
   rw[Bz]
   exact L
 have L:=s7g t4s l (fun i=>(l,t,i)) (p84 t l) (.inr true) (.inl ())
  (by rw[r9o];simp only[s0c,u0b,Am,Ah,Aa])
  (fun i hi=>by
   have g1:=t5g l[i] t (t4h (l2 _ (Ag hi)).1) (t4h ht.2)
   have g2:=t5g t l[i] (t4h ht.1) (t4h (l2 _ (Ag hi)).2)
   rw[r9o]
   simp only[s0c,u0b,hi,Ae,Ad,y7t hi,zTn,y8k (t:=u0x) hi,g1,g2,inner i hi,zOb,p84,o40]
   have ws:=y7l (i:=i) (by omega)
   cases decide (l[i].2.1=2)<;>cases decide (l[i].2.1=3)<;>cases l[i].2.2.2.2.2.2.1<;>cases ahead l[i] t<;>cases ahead t l[i] <;>cases (l.any fun x=>decide (x.2.1=2)&&(!decide (x.1=t.1)&&ahead x l[i]))<;>first | rfl | (simp only[Dt,Fy,Fx,Bz,Fp,Ew,Ci,Ad,Aa,zOb,ws]))
 rw[p9o];unfold q43
 have L:t4s (l,t,0)=_:=L
 simp only[o06 t l ht ⟨l1,l2⟩,q62 t l ht ⟨l1,l2⟩,L,zOb]
 rw[j0z]
 cases o4y t l<;>cases q6d t l<;>cases l.any (p84 t l)<;>rfl
theorem q9s (t:u0g) (l:Hu u0g) (ht:q0e t) (hl:p02 l):s1c (t,l)=some (s6y t l):=by
 obtain⟨l1,l2⟩:=hl
 have inner:∀(i:Nat) (hi:i<l.length) (b:Bool),u6l (l,t,b,(i:Int),l[i],0)=some (bif (l.any fun y=>decide (y.2.1=2)&&(!decide (y.1=t.1)&&ahead l[i] y)) then .inr true else .inl (l,t,b,(i:Int))):=fun i hi b=>
  s7g u6l l (fun k=>(l,t,b,(i:Int),l[i],k)) (fun y=>decide (y.2.1=2)&&(!decide (y.1=t.1)&&ahead l[i] y)) (.inr true) (.inl (l,t,b,(i:Int)))
   (by rw[s3x];simp only[u8z,u0b,Am,Ah,Aa,zOb])
   (fun k hk=>by
    have g2:=t5g l[i] l[k] (t4h (l2 _ (Ag hi)).1) (t4h (l2 _ (Ag hk)).2)
    rw[s3x]
    simp only[u8z,u0b,hk,Ae,Ad,g2,y7t hk,zTn,y8k (t:=u0x) hk,zOb]
    rw[y7l (by omega)]
    cases decide (l[k].2.1=2)<;>cases decide (l[k].1=t.1)<;>cases ahead l[i] l[k] <;>rfl)
 have L:=s7g u7f l (fun i=>(l,t,o4y t l,i)) (fun x=>(decide (x.2.1=2)&&ahead t x)&&(o4y t l || l.any fun y=>decide (y.2.1=2)&&(!decide (y.1=t.1)&&ahead x y))) (.inr true) (.inl ())
  (by rw[s44];simp only[u9p,u0b,Am,Ah,Aa])
  (fun i hi=>by
   have g2:=t5g t l[i] (t4h ht.1) (t4h (l2 _ (Ag hi)).2)
   rw[s44]
   simp only[u9p,u0b,hi,Ae,Ad,y7t hi,zTn,y8k (t:=u0x) hi,g2,inner i hi (o4y t l),zOb]
   have ws:=y7l (i:=i) (by omega)
   cases decide (l[i].2.1=2)<;>cases ahead t l[i] <;>cases o4y t l<;>cases (l.any fun y=>decide (y.2.1=2)&&(!decide (y.1=t.1)&&ahead l[i] y))<;>first | rfl | (simp only[Dt,Fy,Fx,Bz,Fp,Ew,Ci,Ap,Bh,Ad,Aa,zOb,ws]))
 rw[j0y] at L
 rw[q52];unfold s7w s6y q9j
 have L:u7f (l,t,o4y t l,0)=_:=L
 simp only[p1m t l ht ⟨l1,l2⟩,o06 t l ht ⟨l1,l2⟩,L,zOb]
 have e:r2u (fun x:u0g=> !decide (x.1=t.1)) t l=q2j t l:=rfl
 rw[e]
 cases q2j t l<;>cases ((o4y t l&&l.any fun x=>decide (x.2.1=2)&&ahead t x) || l.any fun x=>(decide (x.2.1=2)&&ahead t x)&&l.any fun y=>decide (y.2.1=2)&&(!decide (y.1=t.1)&&ahead x y))<;>rfl
theorem o5t (b:u0i) (hb:fewB b):t6u b=some (b.2.1++b.2.2.1):=by
 have h1:=hb.2.1.1
 have h2:=hb.2.2.1
 rw[p96];unfold q5l
 simp only[Cc,Co,Cf,u0z (show b.2.1.length≤1099511627776 by omega),u0z (show b.2.1.length+b.2.2.1.length≤1099511627776 by omega),Ad]
theorem p7a {e:u2v} (h:EngR e) (id:Int):s8l (e,id)=some (s52 e id):=by
 have ho:=h.olen
 have h2:=t9e e id (by omega)
 have h3:=o5t e.1 h.fewB
 have h3:t6u e.1=some (t39 e):=h3
 have h4:=o2t e.1
 rw[o2e];unfold q8v s52
 simp only[h2,h3,zOb]
 by_cases hn:u55 e.2 id<0
 ·simp only[hn,Ae,Ad,Bl]
 ·obtain⟨j,hj,e1,e2,e3⟩:=u2c hn
  have hT:=(h.ot (Ag hj)).few
  simp only[hn,Ah,Aa,Bk,e1,y7t hj,Ad,zTn,y8k (t:=u0x) hj,o01 _ _ hT h.fewOth,p1m _ _ hT h.fewOth,h4,zOb,e2]
  have hn' : ¬((j:Int)<0):=by omega
  simp only[hn',Ah,Aa,Bk]
  cases r8b e.2[j] (t39 e)<;>cases q2j e.2[j] (t39 e)<;>cases q0f e.1<;>rfl
end
section
theorem o3k {b:u0i} {t:u0g} {n:Hs} (h: ¬(0≤u0n b n)):∃(k:Nat) (hk:k<(u21 b t n).2.2.1.length),u0n (u21 b t n) n=(k:Int)∧(u21 b t n).2.2.1[k] =u6w b t n:=by
 have hb:=j3x.mp (show u0n b n<0 by omega)
 have hm:u6w b t n∈(u21 b t n).2.2.1:=by
  show u6w b t n∈(b.2.2.1.filter fun x=>y3c x.2.2.2.2.2.2.2 n)++ [u6w b t n] ++(b.2.2.1.filter fun x=> !y3c x.2.2.2.2.2.2.2 n)
  simp
 have hn: ¬u0n (u21 b t n) n<0:=fun q=>j3x.mp q _ hm rfl
 obtain⟨k,hk,e1,e2⟩:=s15 hn
 refine⟨k,hk,e1,?_⟩
 have hx:=Ag hk
 have hx:(u21 b t n).2.2.1[k] ∈(b.2.2.1.filter fun x=>y3c x.2.2.2.2.2.2.2 n)++ [u6w b t n] ++(b.2.2.1.filter fun x=> !y3c x.2.2.2.2.2.2.2 n):=hx
 simp only[Ay,A6,Ax] at hx
 rcases hx with (q | q) | q
 ·exact absurd e2 (hb _ q.1)
 ·exact q
 ·exact absurd e2 (hb _ q.1)
theorem EngR.mids {e:u2v} (h:EngR e):j0k e.1.2.2.2.1:=p34 h.base.cs
theorem o5w {e:u2v} (h:EngR e) {t:u0g} (ht:t∈e.2∨t∈e.1.2.2.1):u7w (e.1,t)=some (u0y e.1 t):=by
 have hT:TxnR t:=by
  rcases ht with q | q
  ·exact(h.open_ t q).1
  ·exact(h.base.ready t q).1
 rw[q8h e.1 t h.fewB hT.tiny.few,p4p h.mids (r8x hT.id)]
theorem p8s {e:u2v} (h:EngR e) {t:u0g} (ht:t∈e.2∨t∈e.1.2.2.1):tinyB (u0y e.1 t):=by
 have hT:TxnR t:=by
  rcases ht with q | q
  ·exact(h.open_ t q).1
  ·exact(h.base.ready t q).1
 exact s8r h.base hT.tiny
theorem o3a (b:u0i) (t:u0g) (hb:b.2.1.length≤1000):∃(k:Nat) (hk:k<(u0y b t).2.1.length),IntKind.i64.wrap (((u0y b t).2.1.length:Int) - (1:Int))=(k:Int)∧(u0y b t).2.1[k] =s32 b t:=by
 have e:(u0y b t).2.1=b.2.1++ [s32 b t] :=rfl
 refine⟨b.2.1.length,by rw[e];simp,?_,?_⟩
 ·rw[e,Ba,Aw,y4y (by omega) (by omega)];omega
 ·simp[e]
theorem o1s {b:u0i} {t:u0g} (h:q0e t):q0e (s32 b t):=h
theorem o35 {e:u2v} (h:EngR e) (id:Int):r27 (e,id)=some (u2n e id):=by
 have ho:=h.olen
 have h1:u0o e=some e:=u9v e.1 e.2 h.fewB h.fewO
 have h2:=t9e e id (by omega)
 have hJ:=p7a h id
 have hO:u1f (e,id)=some (s8g e id):=r2o e.1 e.2 id h.fewB (by omega)
 rw[p9n];unfold q42 u2n
 simp only[h1,hJ,zOb]
 by_cases c1:s52 e id=1
 ·simp only[c1,Ae,Ad,Bl]
  rfl
 ·simp only[c1,Ah,Aa,Bk]
  by_cases c0:s52 e id=0
  ·obtain⟨hn,_,_,_⟩:=s9d c0
   obtain⟨j,hj,e1,e2,e3⟩:=u2c hn
   have hm:e.2[j] ∈e.2∨e.2[j] ∈e.1.2.2.1:= .inl (Ag hj)
   have hT:=o5w h hm
   obtain⟨k,hk,f1,f2⟩:=o3a e.1 e.2[j] (by have:=h.base.plen;omega)
   have hC:=t14 (s32 e.1 e.2[j]) (o1s (h.ot (Ag hj)).few)
   have hO2:=r2o (u0y e.1 e.2[j]) e.2 id (p8s h hm).few (by omega)
   simp only[c0,Ae,Ap,Aa,Bl,h2,e1,y7t hj,Ad,zTn,y8k (t:=u0x) hj,hT,f1,y7t hk,y8k (t:=u0x) hk,f2,hC,hO2,zOb,e2]
   show some _=some (s5z e e.2[j],_)
   unfold s5z s1l
   rw[e3]
   rfl
  ·simp only[c0,Ah,Bh,Ad,Bk,hO,zOb]
   rfl
theorem o1b {e:u2v} (h:EngR e) (id:Int) {n:Hs} (hn1:n.size≤1048576):s9p (e,id,n)=some (s34 e id n):=by
 have ho:=h.olen
 have h1:u0o e=some e:=u9v e.1 e.2 h.fewB h.fewO
 have h2:=t9e e id (by omega)
 have hK:=t9p n (by unfold u0j;omega)
 have hA:u2p (e.1,n)=some (u0n e.1 n):=s3g e.1 n (by have:=h.base.rlen;omega)
 have hJ:=p7a h id
 have hL:t6u e.1=some (t39 e):=o5t e.1 h.fewB
 have hO:u1f (e,id)=some (s8g e id):=r2o e.1 e.2 id h.fewB (by omega)
 rw[p50];unfold q1l s34
 simp only[h1,h2,zOb]
 by_cases c1:u55 e.2 id<0
 ·simp only[c1,Ae,Ad,Bl]
  rfl
 simp only[c1,Ah,Aa,Bk,hK,zOb]
 cases c2:u8d n with
 | false=>simp only[Bh,Ad,Bl];rfl
 | true=>
 simp only[Ap,Aa,Fm,Bk,hA,zOb]
 by_cases c3:0≤u0n e.1 n
 ·have c3' :decide (u0n e.1 n≥0)=true:=by simpa using c3
  simp only[c3,c3',Ad,Bl]
  rfl
 have c3' :decide (u0n e.1 n≥0)=false:=by simpa using c3
 simp only[c3,c3',Aa,Bk,hJ,zOb]
 unfold r91
 by_cases c4:s52 e id=0
 ·obtain⟨j,hj,e1,e2,e3⟩:=u2c c1
  have hT:=(h.ot (Ag hj))
  have hTR:=(h.open_ _ (Ag hj)).1
  have hD:=q9s e.2[j] (t39 e) hT.few h.fewOth
  have hr:=h.base.rlen
  simp only[c4,Ae,e1,y7t hj,Ad,zTn,y8k (t:=u0x) hj,hL,hD,zOb,e2,ne_eq,not_true_eq_false,Bk]
  cases c5:s6y e.2[j] (t39 e) with
  | true=>
   have d5:decide ((5:Int)=0)=false:=by decide
   simp only[Ad,d5,Aa,zOb,Bh,hO,Bl]
   rfl
  | false=>
   simp only[Aa,zOb,Br,Bk]
   have e6:decide ((e.1.2.2.1.length:Int)≥3)=decide (3≤e.1.2.2.1.length):=by simp;omega
   simp only[e6]
   by_cases c6:3≤e.1.2.2.1.length
   ·have d3:decide ((3:Int)=0)=false:=by decide
    simp only[c6,Ae,Ad,d3,Bh,hO,zOb,Bl]
    rfl
   ·have hM:=q0l e.1 e.2[j] n h.fewB hT.few (r8x hTR.id)
    obtain⟨k,hk,f1,f2⟩:=o3k (t:=e.2[j]) c3
    have hns:n.size≤100:=by have:=(u3i c2).2;omega
    have hMt:=q72 (t:=e.2[j]) h.base hT hns
    have hA2:u2p (u21 e.1 e.2[j] n,n)=some ((k:Nat):Int):=by rw[s3g _ n (by have:=hMt.rl;omega),f1]
    have hC:=t14 (u6w e.1 e.2[j] n) hT.few
    have hO2:=r2o (u21 e.1 e.2[j] n) e.2 id hMt.few (by omega)
    simp only[c6,Ah,Aa,Ae,Ap,y7t hj,Ad,y8k (t:=u0x) hj,hM,hA2,y7t hk,zTn,y8k (t:=u0x) hk,f2,hC,hO2,zOb,Bk,Bl]
    show some _=some (o9m e e.2[j] n,_)
    unfold o9m s1l
    rw[e3]
    rfl
 ·simp only[c4,Ah,Aa,zOb,Bh,Ad,hO,ne_eq,not_false_eq_true,Bl,Bk]
  rfl
theorem p8i {e:u2v} (h:EngR e) (n:Hs) (yes:Bool):r28 (e,n,yes)=some (q7t e n yes):=by
 have ho:=h.olen
 have h1:u0o e=some e:=u9v e.1 e.2 h.fewB h.fewO
 have hA:u2p (e.1,n)=some (u0n e.1 n):=s3g e.1 n (by have:=h.base.rlen;omega)
 have hF:=o2t e.1
 have hG:=q77 e.1 n h.fewB
 have hG2:=s5r (t9j e.1 n) e.2 (q7u h.tinyO).few (by omega)
 rw[p9q];unfold q45 q7t
 simp only[h1,hA,hF,zOb]
 by_cases c1:u0n e.1 n<0
 ·simp only[c1,Ae,Ad,Bl]
  rfl
 obtain⟨k,hk,f1,f2⟩:=s15 c1
 simp only[c1,Ah,Aa,Bk]
 cases yes with
 | false=>simp only[Aa,zOb,hG,hG2,Br,false_and,Bk];rfl
 | true=>
  have hm:e.1.2.2.1[k] ∈e.2∨e.1.2.2.1[k] ∈e.1.2.2.1:= .inr (Ag hk)
  have hT:=o5w h hm
  have hT2:=s5r (u0y e.1 e.1.2.2.1[k]) e.2 (p8s h hm).few (by omega)
  simp only[Ad,true_and]
  cases q0f e.1 with
  | true=>rfl
  | false=>
   simp only[Aa,Br,Bk,Bl,f1,y7t hk,Ad,zTn,y8k (t:=u0x) hk,hT,hT2,zOb]
   rfl
end
section
theorem o2n:emp.size≤100:=by decide
theorem s3e (r:s7e):(u0r r).1.size≤20000:=by
 cases h:u7q r with
 | false=>unfold u0r;rw[h];exact A9 o2n (by omega)
 | true=>
  have hR:=j2x.mp h
  rw[t5d hR]
  have:=s5l hR
  show(r9c (r9a r)).size≤20000
  rw[p70];omega
def p2a (b:u0i):s7e:=(4,u6k,emp,false,b)
theorem q85 {b:u0i} (h:tinyB b):tinyR (p2a b):=⟨s17,o2n,h⟩
theorem p68 (d:u0l) (hd:d1n.wt d≤10000000):s1k d=some (orD d (o4j d)):=by
 have h1:=o66 d (by omega)
 have h2:=t4j (p2a (logR (u0f d)).1) (q85 (p33 _)).wt
 have h3:=t5h d (by unfold u0j;omega)
 rw[p3q];unfold r78
 simp only[h1,zOb]
 have h2:u37 (4,(0,0,0,0, [], [],false,(⟨#[]⟩:Hs)),(⟨#[]⟩:Hs),false,(logR (u0f d)).1)=_:=h2
 simp only[h2,h3,zOb]
 unfold o4j
 cases hp:t1u (u0f d) with
 | none=>
  have e:(logR (u0f d)).2=false:=by unfold logR;rw[hp]
  simp only[e,Bh,Ad,zOb]
  rfl
 | some b=>
  have e:logR (u0f d)=(b,true):=by unfold logR;rw[hp]
  simp only[e,Ap,Aa,zOb]
  have e4:p2a b=(4,u6k,emp,false,b):=rfl
  rw[e4]
  cases ht:(u0r (4,u6k,emp,false,b)).2 with
  | false=>simp only[Bh,Ad,Br,Bk];rfl
  | true=>
   have h5:=p42 (d:=d) (l:= [(u0r (4,u6k,emp,false,b)).1]) hd (by simp) (fun t h=>by
    rw[Ax.mp h];have:=s3e (4,u6k,emp,false,b);omega)
   simp only[Ap,Aa,Bl,h5,zOb]
theorem o8z {d z:u0l} (h:o4j d=some z):u2t z=true:=by
 unfold o4j at h
 split at h
 ·cases h
 ·split at h
  ·exact(p74 h).2.1
  ·cases h
theorem p1o (s:u1w) (r:s7e) (hd:d1n.wt s.2≤10000000) (hr:tinyR r):t7q (s,r)=some ((u97 s.2 r).isSome,s.1,(u97 s.2 r).getD s.2):=by
 have h1:=t4j r hr.wt
 have hl:=s3e r
 have h2:=q0k s.2 (u0r r).1 hd (by omega)
 have h3:=p68 s.2 hd
 rw[p6t];unfold q2f u97
 simp only[h1,zOb]
 cases ht:(u0r r).2 with
 | false=>simp only[Bh,Ad,Br,Bk];rfl
 | true=>
  simp only[Ap,Aa,Bl,h2,zOb]
  cases ha:append_ s.2 (u0r r).1 with
  | some y=>rfl
  | none=>
   simp only[orD,Bh,Ad,h3,zOb]
   cases hz:o4j s.2 with
   | none=>rfl
   | some z=>
    have h4:=q0k z (u0r r).1 (t82 (o8z hz)) (by omega)
    simp only[orD,Ap,Aa,h4,zOb]
    cases hq:append_ z (u0r r).1<;>rfl
theorem t93:tinyR o0w:=⟨s17,by decide,t3c⟩
theorem q89 {e:u2v} (h:EngR e) (id:Int):tinyR (u2n e id).2.1:=by
 unfold u2n
 split
 ·exact t93
 ·split
  ·rename_i c1 c0
   obtain⟨hn,_,_,_⟩:=s9d c0
   obtain⟨j,hj,e1,e2,e3⟩:=u2c hn
   rw[e2]
   exact⟨(h.ot (Ag hj)).like rfl rfl o2n,o2n,t3c⟩
  ·exact t93
theorem o7s {e:u2v} (h:EngR e) (id:Int) (n:Hs):tinyR (s34 e id n).2.1:=by
 unfold s34
 split
 ·exact t93
 ·rename_i hn
  split
  ·exact t93
  ·rename_i hk
   split
   ·exact t93
   ·split
    ·obtain⟨j,hj,e1,e2,e3⟩:=u2c hn
     rw[e2]
     have hk:u8d n=true:=by simpa using hk
     have:=(u3i hk).2
     exact⟨(h.ot (Ag hj)).like rfl rfl (by show n.size≤100;omega),o2n,t3c⟩
    ·exact t93
theorem o87 {e:u2v} (n:Hs) (hn:n.size≤100) (y:Bool):tinyR (q7t e n y).2.1:=by
 unfold q7t
 split
 ·exact t93
 ·split
  ·exact t93
  ·split
   ·exact⟨s17,hn,t3c⟩
   ·exact⟨s17,hn,t3c⟩
theorem p6y {s:u1w} (h:EngR s.1) (hd:u2t s.2=true) (id:Int):u8v (s,id)=some ((u7r s id).2,(u7r s id).1):=by
 have ho:=h.olen
 have h1:=o35 h id
 have h2:=p1o s (u2n s.1 id).2.1 (t82 hd) (q89 h id)
 have h3:u0o s.1=some s.1:=u9v s.1.1 s.1.2 h.fewB h.fewO
 have hO:u1f (s.1,id)=some (s8g s.1 id):=r2o s.1.1 s.1.2 id h.fewB (by omega)
 rw[p00];unfold r4g u7r
 simp only[h1,zOb]
 by_cases c:(u2n s.1 id).2.2=0
 ·simp only[c,Ae,Ad,Bl,h2,zOb]
  cases u97 s.2 (u2n s.1 id).2.1 with
  | none=>simp only[Option.isSome_none,Bh,Ad,h3,hO,zOb];rfl
  | some d=>rfl
 ·simp only[c,Ah,Aa,Bk]
theorem p30 {s:u1w} (h:EngR s.1) (hd:u2t s.2=true) (id:Int) {n:Hs} (hn:n.size≤1048576):u73 (s,id,n)=some ((r9e s id n).2,(r9e s id n).1):=by
 have ho:=h.olen
 have h1:=o1b h id hn
 have h2:=p1o s (s34 s.1 id n).2.1 (t82 hd) (o7s h id n)
 have h3:u0o s.1=some s.1:=u9v s.1.1 s.1.2 h.fewB h.fewO
 have hO:u1f (s.1,id)=some (s8g s.1 id):=r2o s.1.1 s.1.2 id h.fewB (by omega)
 rw[q7s];unfold r0m r9e
 simp only[h1,zOb]
 by_cases c:(s34 s.1 id n).2.2=0
 ·simp only[c,Ae,Ad,Bl,h2,zOb]
  cases u97 s.2 (s34 s.1 id n).2.1 with
  | none=>simp only[Option.isSome_none,Bh,Ad,h3,hO,zOb];rfl
  | some d=>rfl
 ·simp only[c,Ah,Aa,Bk]
theorem j3n {e:u2v} {n:Hs} {y:Bool} (c:(q7t e n y).2.2≠0):(q7t e n y).1=e:=by
 unfold q7t at c ⊢
 split
 ·rfl
 ·split
  ·rfl
  ·rename_i h1 h2
   rw[Ao h1,Ao h2] at c
   split at c<;>exact absurd rfl c
theorem p6z {s:u1w} (h:EngR s.1) (hd:u2t s.2=true) {n:Hs} (hn:n.size≤100) (y:Bool):u8w (s,n,y)=some ((p4m s n y).2,(p4m s n y).1):=by
 have h1:=p8i h n y
 have h2:=p1o s (q7t s.1 n y).2.1 (t82 hd) (o87 n hn y)
 rw[p01];unfold r4h p4m
 simp only[h1,zOb]
 by_cases c:(q7t s.1 n y).2.2=0
 ·simp only[c,Ae,Ad,Bl,h2,zOb]
  cases u97 s.2 (q7t s.1 n y).2.1 with
  | none=>rfl
  | some d=>rfl
 ·simp only[c,Ah,Aa,Bk,j3n c]
theorem o6x {s:u1w} (h:EngR s.1) (hd:d1n.wt s.2≤10000000):s9y s=some s:=by
 have h1:u0o s.1=some s.1:=u9v s.1.1 s.1.2 h.fewB h.fewO
 have h2:=t5h s.2 (by unfold u0j;omega)
 rw[p6s];unfold q2e
 simp only[h1,h2,zOb]
theorem j0q {s:u1w} (h:EngR s.1) (hd:u2t s.2=true):t0f s=some (j01 s):=by
 have h1:=o6x h (t82 hd)
 have h2:=p68 s.2 (t82 hd)
 rw[p27];unfold r7o j01
 simp only[h1,h2,zOb]
 cases o4j s.2<;>rfl
end
section
def PQR:Hu Hs:= [⟨#[112]⟩,⟨#[113]⟩,⟨#[114]⟩]
theorem o5u {y:Hs} (h:y∈PQR):y.size≤100:=by
 simp only[PQR,A8,Ep,Em] at h
 rcases h with rfl | rfl | rfl<;>decide
theorem Stt.mono {k m:Nat} {s:u1w} (h:Stt k s) (hm:k≤m):Stt m s:=by
 obtain⟨b,h1,h2⟩:=h.sync
 exact⟨⟨b,h1,by omega⟩,h.dom,h.num.mono hm⟩
theorem Stt.log {k:Nat} {s:u1w} (h:Stt k s):u2t s.2=true:=by obtain⟨b,h1,_⟩:=h.sync;exact h1.log
def RN (e:u2v):Prop:= ∀x∈e.1.2.2.1,x.2.2.2.2.2.2.2∈PQR
theorem RN.sub {e e' :u2v} (h:RN e) (hs:∀x∈e'.1.2.2.1,∃y∈e.1.2.2.1,x.2.2.2.2.2.2.2=y.2.2.2.2.2.2.2):RN e' :=fun x hx=>by
 obtain⟨y,hy,q⟩:=hs x hx
 rw[q];exact h y hy
theorem RN.same {e e' :u2v} (h:RN e) (hs:e'.1.2.2.1=e.1.2.2.1):RN e' :=h.sub fun x hx=>⟨x,by rw[←hs];exact hx,rfl⟩
theorem RN.through {e:u2v} (h:RN e) (t:u0g) (o:Hu u0g):RN (u3q (u0y e.1 t) o,o):=h.sub fun x hx=>by
 have hx:x∈(e.1.2.2.1.filter fun x=> !decide (x.1=t.1)).map (p03 (s32 e.1 t)):=hx
 obtain⟨y,hy,rfl⟩:=Bx.mp hx
 exact⟨y,(A6.mp hy).1,rfl⟩
theorem RN.commit {e:u2v} (h:RN e) (id:Int):RN (u2n e id).1:=by
 unfold u2n
 split
 ·exact h
 ·split
  ·exact h.through _ _
  ·exact h.same rfl
theorem RN.prep {e:u2v} (h:RN e) (id:Int) {n:Hs} (hn:n∈PQR):RN (s34 e id n).1:=by
 unfold s34
 split
 ·exact h
 ·split
  ·exact h
  ·split
   ·exact h
   ·split
    ·intro x hx
     have hx:x∈(e.1.2.2.1.filter fun x=>y3c x.2.2.2.2.2.2.2 n)++ [u6w e.1 (u3b e id) n] ++(e.1.2.2.1.filter fun x=> !y3c x.2.2.2.2.2.2.2 n):=hx
     simp only[Ay,A6,Ax] at hx
     rcases hx with (q | rfl) | q
     ·exact h x q.1
     ·exact hn
     ·exact h x q.1
    ·exact h.same rfl
theorem RN.fin {e:u2v} (h:RN e) (n:Hs) (y:Bool):RN (q7t e n y).1:=by
 unfold q7t
 split
 ·exact h
 ·split
  ·exact h
  ·split
   ·exact h.through _ _
   ·exact h.sub fun x hx=>⟨x,(A6.mp hx).1,rfl⟩
theorem RN.look {e:u2v} (h:RN e) {id:Int} {r:s7f} {right:Bool} :RN (s7k e id r right).1:=by
 unfold s7k
 split
 ·exact h
 ·split
  ·exact h
  ·split<;>exact h
theorem RN.put {e:u2v} (h:RN e) {id:Int} {w:WrT} :RN (o3d e id w).1:=by
 unfold o3d
 split
 ·exact h
 ·split
  ·exact h
  ·split<;>exact h
theorem RN.begin {e:u2v} (h:RN e):RN (s4q e).1:=by
 unfold s4q
 split<;>exact h
theorem RN.leave {e:u2v} (h:RN e) (id:Int):RN (r1h e id).1:=by
 unfold r1h
 split<;>exact h
structure SttN (k:Nat) (s:u1w):Prop extends Stt k s where
 rn:RN s.1
theorem SttN.mono {k m:Nat} {s:u1w} (h:SttN k s) (hm:k≤m):SttN m s:=⟨h.toStt.mono hm,h.rn⟩
theorem SttN.begin {k:Nat} {s:u1w} (h:SttN k s):SttN (k+1) ((s4q s.1).1,s.2):=⟨h.toStt.begin,h.rn.begin⟩
theorem SttN.look {k:Nat} {s:u1w} (h:SttN k s) {id:Int} {r:s7f} {right:Bool} (hr:right=true→u3f r=true) (hk:r.1∈K5∧r.2∈K5):SttN (k+1) ((s7k s.1 id r right).1,s.2):=⟨h.toStt.look hr hk,h.rn.look⟩
theorem SttN.put {k:Nat} {s:u1w} (h:SttN k s) {id:Int} {w:WrT} (hk:w.1∈K5):SttN (k+1) ((o3d s.1 id w).1,s.2):=⟨h.toStt.put hk,h.rn.put⟩
theorem SttN.leave {k:Nat} {s:u1w} (h:SttN k s) (id:Int):SttN (k+1) ((r1h s.1 id).1,s.2):=⟨h.toStt.leave id,h.rn.leave id⟩
theorem SttN.fix {k:Nat} {s:u1w} (h:SttN k s):SttN (k+1) (j01 s).1:=⟨h.toStt.fix,by
 unfold j01
 split<;>exact h.rn⟩
theorem SttN.commit {k:Nat} {s:u1w} (h:SttN k s) (id:Int):SttN (k+1) (u7r s id).1:=⟨h.toStt.commit id,by
 unfold u7r
 split
 ·split
  ·exact h.rn.commit id
  ·exact h.rn.same rfl
 ·exact h.rn.commit id⟩
theorem SttN.prep {k:Nat} {s:u1w} (h:SttN k s) (id:Int) {n:Hs} (hn:n∈PQR):SttN (k+1) (r9e s id n).1:=⟨h.toStt.prep id n,by
 unfold r9e
 split
 ·split
  ·exact h.rn.prep id hn
  ·exact h.rn.same rfl
 ·exact h.rn.prep id hn⟩
theorem SttN.fin {k:Nat} {s:u1w} (h:SttN k s) (n:Hs) (y:Bool):SttN (k+1) (p4m s n y).1:=⟨h.toStt.fin n y,by
 unfold p4m
 split
 ·split
  ·exact h.rn.fin n y
  ·exact h.rn
 ·exact h.rn⟩
theorem p8r:∃s,s6u ()=some s∧SttN 0 s:=by
 obtain⟨d,h1,h2,h3⟩:=o4a
 have h0:s4d ()=some (o0x, []):=by
  rw[p0s];unfold r38
  rw[q2k];rfl
 refine⟨((o0x, []),d),?_,?_⟩
 ·rw[p3f];unfold r7w
  simp only[h0,h1,zOb]
 ·have hp:t1u (u0f d)=some o0x:=by rw[h3];rfl
  have hE:EngR ((o0x, []):u2v):=j5m.mp (by decide)
  have hL:Like0 o0x o0x:=⟨by decide,rfl,rfl,rfl⟩
  have hN:o0x.2.2.2.2≤((0:Nat):Int)+1:=by decide
  have hM:Num 0 ((o0x, []):u2v):=⟨by decide,by decide⟩
  have hD:DomE ((o0x, []):u2v):=⟨⟨(fun v hv=>by cases hv),(fun t ht=>by cases ht)⟩,(fun t ht=>by cases ht)⟩
  exact⟨⟨⟨o0x,⟨hE,h2,hp,o24,hL⟩,hN⟩,hD,hM⟩,fun x hx=>by cases hx⟩
def DrS (F:Ht (Src×u1w)) (k:Nat):Prop:= ∃s t,F=some (s,t)∧s.ok∧SttN k t
theorem j0t {y:Hs} (h:y∈K5):y.size≤1048576:=by have:=(u3i (j0u h)).2;omega
theorem o3r {k:Nat} {s:u1w} (h:SttN k s) (id:Int) {c:Src} (hc:c.ok):DrS ((u5a (c,(16:Int))).bind fun(y20:(Int×((Hu Int)×(Int×Int))))=>(((bif (decide (id=(0:Int))) then(some true) else(some (decide (y20.1<(3:Int))))):Ht Bool).bind fun j21=>(bif j21 then((t05 s.1).bind fun y22=>(some (y20.2,(y22.1,s.2)))) else(bif (decide (y20.1<(6:Int))) then((u7p y20.2).bind fun y23=>((t6s (s.1,(id,y23.1))).bind fun y24=>(some (y23.2,(y24.1,s.2))))) else(bif (decide (y20.1<(7:Int))) then((t0k y20.2).bind fun y25=>((t0h (s.1,(id,y25.1))).bind fun y26=>(some (y25.2,(y26.1,s.2))))) else(bif (decide (y20.1<(10:Int))) then((t0l y20.2).bind fun y27=>((u88 (s.1,(id,y27.1))).bind fun y28=>(some (y27.2,(y28.1,s.2))))) else(bif (decide (y20.1<(13:Int))) then((u8v (s,id)).bind fun y29=>(some (y20.2,y29.2))) else(bif (decide (y20.1=(13:Int))) then((u2q (y20.2,PQR)).bind fun y30=>((u73 (s,(id,y30.1))).bind fun y31=>(some (y30.2,y31.2)))) else(bif (decide (y20.1=(14:Int))) then((u2q (y20.2,PQR)).bind fun y32=>((u23 (y32.2,(2:Int))).bind fun(y33:(Bool×((Hu Int)×(Int×Int))))=>((u8w (s,(y32.1,y33.1))).bind fun y34=>(some (y33.2,y34.2))))) else((u23 (y20.2,(3:Int))).bind fun(y35:(Bool×((Hu Int)×(Int×Int))))=>(bif y35.1 then((t0f s).bind fun y36=>(some (y35.2,y36.1))) else((t90 (s.1,id)).bind fun y37=>(some (y35.2,(y37.1,s.2))))))))))))))) (k+1):=by
 obtain⟨y,c1,e1,k1,r1⟩:=q4c hc (n:=16) (by omega)
 have hE:=h.eng
 simp only[e1,zOb]
 have key:∀j:Bool,DrS ((some j).bind fun j21=>(bif j21 then((t05 s.1).bind fun y22=>(some (c1,(y22.1,s.2)))) else(bif (decide (y<(6:Int))) then((u7p c1).bind fun y23=>((t6s (s.1,(id,y23.1))).bind fun y24=>(some (y23.2,(y24.1,s.2))))) else(bif (decide (y<(7:Int))) then((t0k c1).bind fun y25=>((t0h (s.1,(id,y25.1))).bind fun y26=>(some (y25.2,(y26.1,s.2))))) else(bif (decide (y<(10:Int))) then((t0l c1).bind fun y27=>((u88 (s.1,(id,y27.1))).bind fun y28=>(some (y27.2,(y28.1,s.2))))) else(bif (decide (y<(13:Int))) then((u8v (s,id)).bind fun y29=>(some (c1,y29.2))) else(bif (decide (y=(13:Int))) then((u2q (c1,PQR)).bind fun y30=>((u73 (s,(id,y30.1))).bind fun y31=>(some (y30.2,y31.2)))) else(bif (decide (y=(14:Int))) then((u2q (c1,PQR)).bind fun y32=>((u23 (y32.2,(2:Int))).bind fun(y33:(Bool×((Hu Int)×(Int×Int))))=>((u8w (s,(y32.1,y33.1))).bind fun y34=>(some (y33.2,y34.2))))) else((u23 (c1,(3:Int))).bind fun(y35:(Bool×((Hu Int)×(Int×Int))))=>(bif y35.1 then((t0f s).bind fun y36=>(some (y35.2,y36.1))) else((t90 (s.1,id)).bind fun y37=>(some (y35.2,(y37.1,s.2)))))))))))))) (k+1):=by
  intro j
  simp only[zOb]
  cases j with
  | true=>
   simp only[Ad,p64 hE,zOb]
   exact⟨_,_,rfl,k1,h.begin⟩
  | false=>
   simp only[Aa]
   cases decide (y<(6:Int)) with
   | true=>
    obtain⟨z,c2,e2,k2,r2⟩:=p8j k1
    simp only[Ad,e2,zOb,o39 hE id (j0t r2)]
    refine⟨_,_,rfl,k2,?_⟩
    have:=h.look (id:=id) (r:=(z,z)) (right:=u8d z) (fun hk=>by rw[o6j];exact hk) ⟨r2,r2⟩
    unfold j8i
    split<;>exact this
   | false=>
   simp only[Aa]
   cases decide (y<(7:Int)) with
   | true=>
    obtain⟨z,c2,e2,k2,r2⟩:=o8t k1
    simp only[Ad,e2,zOb,p8q hE id ⟨j0t r2.1,j0t r2.2.1⟩]
    refine⟨_,_,rfl,k2,?_⟩
    have:=h.look (id:=id) (r:=z) (right:=u3f z) (fun hk=>hk) ⟨r2.1,r2.2.1⟩
    unfold j3y
    split<;>exact this
   | false=>
   simp only[Aa]
   cases decide (y<(10:Int)) with
   | true=>
    obtain⟨z,c2,e2,k2,r2⟩:=o8x k1
    simp only[Ad,e2,zOb,p1q hE id (j0t r2.1)]
    exact⟨_,_,rfl,k2,h.put r2.1⟩
   | false=>
   simp only[Aa]
   cases decide (y<(13:Int)) with
   | true=>
    simp only[Ad,p6y hE h.log,zOb]
    exact⟨_,_,rfl,k1,h.commit id⟩
   | false=>
   simp only[Aa]
   cases decide (y=(13:Int)) with
   | true=>
    obtain⟨z,c2,e2,k2,r2⟩:=p8n k1 (l:=PQR) (by decide)
    have hz:=o5u r2
    simp only[Ad,e2,zOb,p30 hE h.log id (show z.size≤1048576 by omega)]
    exact⟨_,_,rfl,k2,h.prep id r2⟩
   | false=>
   simp only[Aa]
   cases decide (y=(14:Int)) with
   | true=>
    obtain⟨z,c2,e2,k2,r2⟩:=p8n k1 (l:=PQR) (by decide)
    obtain⟨z2,c3,e3,k3,r3⟩:=p8m k2 (n:=2) (by omega)
    simp only[Ad,e2,e3,zOb,p6z hE h.log (o5u r2)]
    exact⟨_,_,rfl,k3,h.fin z z2⟩
   | false=>
    obtain⟨z2,c3,e3,k3,r3⟩:=p8m k1 (n:=3) (by omega)
    simp only[Aa,e3,zOb]
    cases z2 with
    | true=>
     simp only[Ad,j0q hE h.log,zOb]
     exact⟨_,_,rfl,k3,h.fix⟩
    | false=>
     simp only[Aa,o61 hE,zOb]
     exact⟨_,_,rfl,k3,h.leave id⟩
 cases decide (id=0) with
 | true=>simp only[Ad];exact key true
 | false=>simp only[Aa];exact key _
theorem o8v {k:Nat} {s:u1w} (h:SttN k s) {c:Src} (hc:c.ok):DrS (s9z (c,s)) (k+1):=by
 rw[p6u];unfold q2g
 cases hd:decide ((s.1.2.length:Int) >0) with
 | true=>
  have hl:0<s.1.2.length:=by simpa using hd
  obtain⟨y,c1,e1,k1,r1⟩:=q4c hc (n:=(s.1.2.length:Int)) (by omega)
  obtain⟨i,rfl⟩:∃i:Nat,y=(i:Int):=⟨y.toNat,by omega⟩
  have hi:i<s.1.2.length:=by omega
  simp only[hd,Ad,e1,zOb,y7t hi]
  exact o3r h _ k1
 | false=>
  simp only[hd,Aa]
  exact o3r h 0 hc
theorem o8w (m:Nat) (hm:1≤m∧m≤1000) {c:Src} (hc:c.ok):∃(s:u1w) (c' :Src),s3d (c,(m:Int))=some (s,c')∧c'.ok∧SttN (m+1) s:=by
 have key:∀(d i:Nat) (c:Src) (j s:u1w),c.ok→SttN i s→m+2≤i+d→i≤m+1→ ∃(c' :Src) (s' :u1w),t2t (c,(m:Int),j,s,(i:Int))=some (.inl (c',j,s'))∧c'.ok∧SttN (m+1) s' :=by
  intro d
  induction d with
  | zero=>intro i c j s _ _ h1 h2;omega
  | succ d ih=>
   intro i c j s hc hs hd hi
   obtain⟨y,c1,e1,k1,r1⟩:=q4c hc (n:=(m:Int)) (by omega)
   rw[p08]
   simp only[s30,e1,zOb]
   rw[y4y (n:=2+y) (by omega) (by omega)]
   by_cases hy:(i:Int)<2+y
   ·obtain⟨c2,s2,e2,k2,r2⟩:=o8v hs k1
    simp only[hy,Ae,Ad,e2,zOb]
    rw[y7l (by omega)]
    exact ih (i+1) c2 j s2 k2 r2 (by omega) (by omega)
   ·simp only[hy,Ah,Aa]
    exact⟨_,_,rfl,k1,hs.mono hi⟩
 obtain⟨s0,e0,h0⟩:=p8r
 obtain⟨c',s',e1,k1,r1⟩:=key (m+2) 0 c (((([], [], [],0,0):u0i), []),([], [])) s0 hc h0 (by omega) (by omega)
 rw[p6v];unfold q2h
 have e1:t2t (c,(m:Int),(((([], [], [],0,0):u0i), []),([], [])),s0,0)=_:=e1
 simp only[e0,e1,zOb]
 exact⟨_,_,rfl,k1,r1⟩
end
section
theorem o00 (t:u0g) (l:Hu u0g) (ht:q0e t) (hl:p02 l):s9e (t,l)=some (r8b t l):=by
 obtain⟨l1,l2⟩:=hl
 have hq:∀x∈l,t85 (x,t)=some (!decide (x.1=t.1)&&((decide (x.2.1=2) || (decide (x.2.1=3)&&decide (x.2.2.2.1 >t.2.2.1)))&&q0g x.2.2.2.2.2.1 t.2.2.2.2.2.1)):=fun x hx=>by
  have h1:=o62 x.2.2.2.2.2.1 t.2.2.2.2.2.1 (t4h (l2 x hx).2) (t4h ht.2)
  rw[q93];unfold r3m
  simp only[t45,s0t,s0q,zOb,h1]
  cases decide (x.1=t.1)<;>cases decide (x.2.1=2)<;>cases decide (x.2.1=3)<;>cases decide (x.2.2.2.1 >t.2.2.1)<;>cases q0g x.2.2.2.2.2.1 t.2.2.2.2.2.1<;>rfl
 have L:=Q.first (T:=u0x) (c:=u0g) (W:=u1j) (q:=t85) (p:=fun x:u0g=> !decide (x.1=t.1)&&((decide (x.2.1=2) || (decide (x.2.1=3)&&decide (x.2.2.2.1 >t.2.2.1)))&&q0g x.2.2.2.2.2.1 t.2.2.2.2.2.1)) (fun x=>t0v x) l t (by omega) hq
 rw[p46];unfold q0r r8b
 simp only[s7i,t6w,u95,u3z,t2w,u5h,L,zOb]
 rw[←t9i]
 clear L hq
 split<;>rename_i hc<;>split at hc<;>simp_all<;>omega
theorem o8o (t:u0g) (l:Hu u0g) (ht:q0e t) (hl:p02 l):q3z (t,l)=some (o4y t l):=by
 obtain⟨l1,l2⟩:=hl
 have hq:∀x∈l,s5b (x,t)=some (o40 x&&ahead x t):=fun x hx=>by
  have h1:=s1t x t (t4h (l2 x hx).1) (t4h ht.2)
  rw[p9a];unfold q4o
  simp only[t45,s0t,s0q,zOb,h1,o40]
  cases decide (x.2.1=2)<;>cases decide (x.2.1=3)<;>cases ahead x t<;>rfl
 have L:=Q.first (T:=u0x) (c:=u0g) (W:=u1z) (q:=s5b) (p:=fun x:u0g=>o40 x&&ahead x t) (fun x=>t3k x) l t (by omega) hq
 rw[o4r];unfold p10 o4y
 simp only[r2w,s0r,t2u,u5f,t43,u6m,L,zOb]
 rw[←t9i]
 clear L hq
 split<;>rename_i hc<;>split at hc<;>simp_all<;>omega
def o4n (t:u0g) (l:Hu u0g):Bool:=r2u (fun _=>true) t l
theorem o02 (t:u0g) (l:Hu u0g) (ht:q0e t) (hl:p02 l):u9f (l,t)=some (l.any fun x=>o40 x&&(x.2.2.2.2.2.2.1&&ahead t x)):=by
 obtain⟨l1,l2⟩:=hl
 have hq:∀x∈l,s0y (x,t)=some (o40 x&&(x.2.2.2.2.2.2.1&&ahead t x)):=fun x hx=>by
  have h1:=s1t t x (t4h ht.1) (t4h (l2 x hx).2)
  rw[p2j];unfold r61
  simp only[t45,s0t,s0q,zOb,h1,o40]
  cases decide (x.2.1=2)<;>cases decide (x.2.1=3)<;>cases x.2.2.2.2.2.2.1<;>cases ahead t x<;>rfl
 have L:=Q.first (T:=u0x) (c:=u0g) (W:=u1r) (q:=s0y) (p:=fun x:u0g=>o40 x&&(x.2.2.2.2.2.2.1&&ahead t x)) (fun x=>t1z x) l t (by omega) hq
 simp only[s89,t7e,t0r,u4g,t3e,u5y,L,zOb]
 rw[←t9i]
 clear L hq
 split<;>rename_i hc<;>split at hc<;>simp_all<;>omega
theorem p8f (p:u0g) (l:Hu u0g) (ht:q0e p) (hl:p02 l):u75 (l,p)=some (l.any fun x=>decide (x.2.1=2)&&ahead x p):=by
 obtain⟨l1,l2⟩:=hl
 have hq:∀x∈l,t6o (x,p)=some (decide (x.2.1=2)&&ahead x p):=fun x hx=>by
  have h1:=s1t x p (t4h (l2 x hx).1) (t4h ht.2)
  rw[q69];unfold s93
  simp only[t45,zOb,h1]
  cases decide (x.2.1=2)<;>cases ahead x p<;>rfl
 have L:=Q.first (T:=u0x) (c:=u0g) (W:=u1d) (q:=t6o) (p:=fun x:u0g=>decide (x.2.1=2)&&ahead x p) (fun x=>t0q x) l p (by omega) hq
 simp only[s50,t4y,u9k,u3s,t1r,u41,L,zOb]
 rw[←t9i]
 clear L hq
 split<;>rename_i hc<;>split at hc<;>simp_all<;>omega
theorem o03 (t:u0g) (l:Hu u0g) (ht:q0e t) (hl:p02 l):u9g (l,t,l)=some (l.any fun p=>decide (p.2.1=2)&&(ahead p t&&(ahead t p || l.any fun x=>decide (x.2.1=2)&&ahead x p))):=by
 have hl' :=hl
 obtain⟨l1,l2⟩:=hl
 have hq:∀p∈l,s0z (p,t,l)=some (decide (p.2.1=2)&&(ahead p t&&(ahead t p || l.any fun x=>decide (x.2.1=2)&&ahead x p))):=fun p hx=>by
  have h1:=s1t t p (t4h ht.1) (t4h (l2 p hx).2)
  have h2:=s1t p t (t4h (l2 p hx).1) (t4h ht.2)
  have h3:=p8f p l (l2 p hx) hl'
  rw[p2k];unfold r62
  simp only[t45,zOb,h1,h2,h3]
  cases decide (p.2.1=2)<;>cases ahead p t<;>cases ahead t p<;>cases (l.any fun x=>decide (x.2.1=2)&&ahead x p)<;>rfl
 have L:=Q.first (T:=u0x) (c:=u0g×Hu u0g) (W:=u1s) (q:=s0z) (p:=fun p:u0g=>decide (p.2.1=2)&&(ahead p t&&(ahead t p || l.any fun x=>decide (x.2.1=2)&&ahead x p))) (fun x=>t11 x) l (t,l) (by omega) hq
 simp only[s9a,t7f,t0s,u4h,t3f,u5z,L,zOb]
 rw[←t9i]
 clear L hq
 split<;>rename_i hc<;>split at hc<;>simp_all<;>omega
theorem o36 (t:u0g) (l:Hu u0g) (ht:q0e t) (hl:p02 l):r22 (t,l)=some (o4n t l):=by
 rw[p88];unfold q4m o4n r2u
 simp only[o8o t l ht hl,q61 t l ht hl,o02 t l ht hl,o03 t l ht hl,zOb,Bz]
 cases o4y t l<;>cases q6d t l<;>cases (l.any fun x=>o40 x&&(x.2.2.2.2.2.2.1&&ahead t x))<;>cases (l.any fun p=>decide (p.2.1=2)&&(ahead p t&&(ahead t p || l.any fun x=>decide (x.2.1=2)&&ahead x p)))<;>rfl
theorem o1r {f g:u0g→Bool} {t:u0g} {l:Hu u0g} (h:∀x∈l,f x=g x):r2u f t l=r2u g t l:=by
 unfold r2u
 have e:∀p:u0g,(l.any fun x=>decide (x.2.1=2)&&(f x&&ahead x p))=l.any fun x=>decide (x.2.1=2)&&(g x&&ahead x p):=fun p=>by
  rw[Cd,Cm,Cm]
  constructor<;>rintro⟨x,hx,q⟩<;>exact⟨x,hx,by rw[h x hx] at*;exact q⟩
 simp only[e]
end
end
end Go.Proofs.YtkdpclfhapphhaaGreat.Ab
