import Derived.Test.YtdeadnnhblaflaaGreatDoorAbReportsT2
import Derived.Test.YtdeadnnhblaflaaGreatDoorAbK2
import Derived.Test.YtdeadnnhblaflaaGreatDoorAbF4
import Derived.Test.YtdeadnnhblaflaaGreatDoorAbS2
import Derived.Test.YtdeadnnhblaflaaGreatDoorAbS4
namespace Go.Proofs.YtdeadnnhblaflaaGreatDoor.Ab
open Go
set_option linter.unusedVariables false
set_option linter.unusedSimpArgs false
set_option linter.unnecessarySimpa false
set_option linter.unusedSectionVars false
section
section
theorem q5r {z:u0j} {s:Int} {b:Hs} (hk:u09 z=true) (hz:z.2= [(s,b++(rdL Ty.str z.1 s.toNat).extract 1 64)]) (hb:b.size=1) (keep:Hu Int) (tear:Int):
 (r26 keep 0=false→u5z z keep tear=(z.1, []))∧(r26 keep 0=true→1≤u8m tear→u5z z keep tear=flush z)∧(u5z z keep tear=(z.1, [])∨u5z z keep tear=flush z):=by
 obtain⟨k1,k2,k3,k4⟩:=q1s.mp hk
 have hs:=(k4 (s,b++(rdL Ty.str z.1 s.toNat).extract 1 64) (by rw[hz];simp)).1
 have hlt:s.toNat<z.1.length:=by
  have h1:0≤s:=hs.1
  have h2:s<(z.1.length:Int):=hs.2
  omega
 have ht:=(r6p tear).1
 have eo:rdL Ty.str z.1 s.toNat=z.1[s.toNat] :=y8l (t:=Ty.str) hlt
 have hold:(rdL Ty.str z.1 s.toNat).size=64:=by rw[eo];exact k3 _ (Ag hlt)
 have hlen:z.2.length=1:=by rw[hz];rfl
 have h0:rdL q9c z.2 0=(s,b++(rdL Ty.str z.1 s.toNat).extract 1 64):=by rw[hz];rfl
 have hc:u5z z keep tear=(u6u z keep (u00 keep 1) (u8m tear) z.1 0, []):=by
  unfold u5z
  rw[Al hk,hlen]
  rfl
 have hfl:flush z=(t5g z.1 (s,b++(rdL Ty.str z.1 s.toNat).extract 1 64), []):=by
  unfold flush
  rw[Al hk,hz]
  rfl
 have hno:r26 keep 0=false→u5z z keep tear=(z.1, []):=fun h=>by
  rw[hc]
  unfold u6u
  rw[h,Ao (by simp)]
 have hyes:r26 keep 0=true→u5z z keep tear=(t5g z.1 (s,(b++(rdL Ty.str z.1 s.toNat).extract 1 64).extract 0 (u8m tear)++(rdL Ty.str z.1 s.toNat).extract (u8m tear) 64), []):=fun h=>by
  have hlast:u00 keep 1=0:=by
   show(if r26 keep 0 then((0:Nat):Int) else u00 keep 0)=0
   rw[Al h];rfl
  rw[hc]
  unfold u6u
  rw[h,Al rfl,hlast,Al (by rfl),h0]
  simp only[hold]
 have hfull:r26 keep 0=true→1≤u8m tear→u5z z keep tear=flush z:=fun h h1=>by
  rw[hyes h,hfl]
  congr 2
  congr 1
  apply r2c
  ·simp only[Af,Bd,hold,hb];omega
  ·intro i hi
   simp only[Af,Bd,hold,hb] at hi
   rw[u29,u1u,u1u]
   simp only[Af,Bd,hold,hb]
   by_cases h2:i<u8m tear
   ·rw[Al (by omega),Al (by omega),Co]
   ·rw[Ao (by omega),Al (by omega),u29,Ao (by omega),u1u,hb,hold,Al (by omega)]
    congr 1
    omega
 refine⟨hno,hfull,?_⟩
 cases h:r26 keep 0 with
 | false=>exact .inl (hno h)
 | true=>
  by_cases h1:1≤u8m tear
  ·exact .inr (hfull h h1)
  ·left
   have ht0:u8m tear=0:=by omega
   rw[hyes h,ht0]
   congr 1
   have e1:(b++(rdL Ty.str z.1 s.toNat).extract 1 64).extract 0 0++(rdL Ty.str z.1 s.toNat).extract 0 64=rdL Ty.str z.1 s.toNat:=by
    apply r2c
    ·simp only[Af,Bd,hold,hb];omega
    ·intro i hi
     simp only[Af,Bd,hold,hb] at hi
     rw[u29,Ao (by rw[Bd];omega),u1u,hold,Al (by rw[Bd];omega)]
     congr 1
     rw[Bd]
     omega
   rw[e1]
   unfold t5g
   show z.1.set s.toNat (rdL Ty.str z.1 s.toNat)=z.1
   rw[eo]
   exact List.set_getElem_self hlt
theorem r7f {d:u0j} (hl:u1i d=true) {a n:Int} (ha:a=0∨a=1) (keep:Hu Int) (tear:Int):∃z,t9t d a n=some z∧
 (r26 keep 0=false→u5z z keep tear=d)∧(r26 keep 0=true→1≤u8m tear→u5z z keep tear=flush z)∧(u5z z keep tear=d∨u5z z keep tear=flush z):=by
 obtain⟨d1,d2,d3,d4,d5⟩:=u13 hl
 obtain⟨f1,f2⟩:=u4q ha
 have hob:=s97 (s:=u0d a) d1 d3 (by omega) (by rw[d2];rcases ha with rfl | rfl<;>omega) (u1z n)
 have hz1:=(u3n hob).2.1
 have hd:(d.1,([] :Hu (Int×Hs)))=d:=by rw[←d3]
 obtain⟨c1,c2,c3⟩:=q5r hz1 rfl (u1z n) keep tear
 rw[hd] at c1 c3
 exact⟨_,hob,c1,c2,c3⟩
theorem q1r {x:u0j} (hl:u1i x=true) (keep:Hu Int) (tear:Int):∃z,p1u x=some z∧u09 z=true∧(∀j:Int,u0i (flush z) j=if j=0 then(u9p (IntKind.i64.wrap (u2v x 0+1))++(rdL Ty.str x.1 0).extract 1 64,true) else u0i x j)∧(flush z).1.length=97∧
 (r26 keep 0=false→u5z z keep tear=x)∧(r26 keep 0=true→1≤u8m tear→u5z z keep tear=flush z)∧(u5z z keep tear=x∨u5z z keep tear=flush z):=by
 obtain⟨d1,d2,d3,d4,d5⟩:=u13 hl
 have hob:=s97 (s:=0) d1 d3 (by omega) (by rw[d2];omega) (u1z (IntKind.i64.wrap (u2v x 0+1)))
 have hz1:=(u3n hob).2.1
 have hd:(x.1,([] :Hu (Int×Hs)))=x:=by rw[←d3]
 obtain⟨c1,c2,c3⟩:=q5r hz1 rfl (u1z (IntKind.i64.wrap (u2v x 0+1))) keep tear
 rw[hd] at c1 c3
 refine⟨_,hob,hz1,fun j=> ?_,by rw[(t0u hz1).2.2];exact d2,c1,c2,c3⟩
 rw[u8c hz1]
 by_cases e:j=0
 ·rw[Al e,e]
  unfold u0i
  rw[Al (by show _∧_<(x.1.length:Int);rw[d2];omega)]
  simp[u8d]
 ·rw[Ao e]
  have hne: ¬(0:Int)=j:=fun z=>e z.symm
  unfold u0i
  simp only[u8d,Bs,List.foldl_nil,hne,Bk,d3]
theorem p6k {x z:u0j} (hl:u1i x=true) (hz1:u09 z=true) (hlen:(flush z).1.length=97) (hrd:∀j:Int,u0i (flush z) j=if j=0 then(u9p (IntKind.i64.wrap (u2v x 0+1))++(rdL Ty.str x.1 0).extract 1 64,true) else u0i x j):
 u1i (flush z)=true∧u0q (flush z)=1 - u0q x∧u0c (flush z) 0=u0c x 0∧u0c (flush z) 1=u0c x 1:=by
 obtain⟨d1,d2,d3,d4,d5⟩:=u13 hl
 obtain⟨c1,c2,c3⟩:=t0u hz1
 have r0:u0c (flush z) 0=u0c x 0:=u65 (fun q hq=>by
  have:=(u4q (a:=0) (.inl rfl)).1
  rw[hrd,Ao (by omega)])
 have r1:u0c (flush z) 1=u0c x 1:=u65 (fun q hq=>by
  have:=(u4q (a:=1) (.inr rfl)).1
  rw[hrd,Ao (by omega)])
 have hb:=q2y (u0i x 0).1
 refine⟨r2k c1 hlen c2 (by rw[r0];exact d4) (by rw[r1];exact d5),?_,r0,r1⟩
 unfold u0q u2v
 rw[hrd,Al rfl]
 have w:IntKind.i64.wrap (u2v x 0+1)=u2v x 0+1:=by unfold u2v;exact y4u (by omega) (by omega)
 have e:r5i (u9p (IntKind.i64.wrap (u2v x 0+1))++(rdL Ty.str x.1 0).extract 1 64)=(u2v x 0+1) % 256:=by
  rw[w,r3h,u29,Al (by rw[u1z];omega)]
  unfold u9p t48
  rw[t61,p4g]
  simp only[u8s,C8,Eh,List.getD_cons_zero]
  rw[Gg]
  omega
 show Int.tmod (r5i _) 2=_
 rw[e]
 have hf:u2v x 0=r5i (u0i x 0).1:=rfl
 rw[hf]
 generalize r5i (u0i x 0).1=n at*
 obtain⟨m,rfl⟩:∃m:Nat,n=(m:Int):=⟨n.toNat,by omega⟩
 have t1:Int.tmod (m:Int) 2=((m % 2:Nat):Int):=q7e m 2
 have t2:Int.tmod (((m:Int)+1) % 256) 2=((((m+1) % 256) % 2:Nat):Int):=by
  have:((m:Int)+1) % 256=(((m+1) % 256:Nat):Int):=by omega
  rw[this]
  exact q7e ((m+1) % 256) 2
 rw[t1,t2]
 omega
end
section
theorem q1k {d y:u0j} {t:Hs} (h:append_ d t=some y):u1i d=true∧u1i y=true∧u0h y=u0h d++ [t] :=by
 unfold append_ at h
 split at h
 ·rename_i hl
  obtain⟨p1,p2,p3,p4,p5⟩:=p3y hl (u5y d) h
  refine⟨hl,p1,?_⟩
  unfold u0h
  rw[p2,p5]
 ·cases h
theorem r9r {d y:u0j} {t:Hs} (h:append_ d t=some y) (step:Int) (keep:Hu Int) (tear:Int):
 (step=0→SameLog d (u3j d t step keep tear))∧(step≠0→step≠1→u3j d t step keep tear=y)∧
 (step=1→(r26 keep 0=false→SameLog d (u3j d t step keep tear))∧(r26 keep 0=true→1≤u8m tear→u3j d t step keep tear=y)∧(SameLog d (u3j d t step keep tear)∨u3j d t step keep tear=y)):=by
 have ha:=u5y d
 obtain⟨hl,x,z,hb,k1,k2,hz,k3,k4⟩:=s5i h
 have hput:r9f d (u0q d) t=some y:=by unfold append_ at h;rw[hl,Al rfl] at h;exact h
 have hy:y=flush z:=by
  unfold r9f at hput
  rw[hb] at hput
  simp only[Dc,Ac] at hput
  rw[hz] at hput
  simp only[orD] at hput
  exact hput.symm
 have hs:=(r79 hl ha hb).1
 obtain⟨z',hz',c1,c2,c3⟩:=r7f hs.1 (n:=t33 d (u0q d)) ha keep tear
 rw[hz] at hz'
 cases hz'
 have e0:∀st,u3j d t st keep tear=(if st=0 then u5z x keep tear else if st=1 then u5z z keep tear else y):=fun st=>by
  unfold u3j
  rw[h]
  simp only[hb,orD,hz]
 refine⟨fun s0=> ?_,fun n0 n1=> ?_,fun s1=> ?_⟩
 ·rw[e0,Al s0];exact q73 hl ha hb keep tear
 ·rw[e0,Ao n0,Ao n1]
 ·have e:u3j d t step keep tear=u5z z keep tear:=by rw[e0,Ao (by omega),Al s1]
  rw[e,hy]
  exact⟨fun q=>by rw[c1 q];exact hs,fun q r=>c2 q r,c3.imp (fun q=>by rw[q];exact hs) id⟩
theorem r9q {d:u0j} {t:Hs} (h:append_ d t=none) (step:Int) (keep:Hu Int) (tear:Int):u3j d t step keep tear=d:=by
 unfold u3j;rw[h]
theorem q9m {d:u0j} {l:Hu Hs} (hl:u1i d=true) (hn:l.length≤255) (hr:q8o l≤3008) (ht:∀t∈l,t.size≠0∧t.size≤3008):
 ∃x,s5p d l=some x∧u1i x=true∧u0q x=u0q d∧u0h x=u0h d∧(u0c x (u3l d)).1=l:=by
 obtain⟨a1,a2⟩:=t2w d
 obtain⟨f1,f2,f3,f4,f5⟩:=r78 hl
 obtain⟨y,y1,y2,y3,y4,y5⟩:=q56 a1 (l:=l) f1 (by rw[f5];omega) (by rw[f4];simp only;omega) ht
 rw[←a2] at y4
 refine⟨y,by unfold s5p;rw[hl,Al rfl];exact y1,y2,y3.trans f2,?_,by rw[y5,f4];simp⟩
 unfold u0h
 rw[y3.trans f2,y4,f3]
theorem q1v {d x:u0j} {l:Hu Hs} (hx:s5p d l=some x) (h1:u1i x=true) (h2:u0q x=u0q d) (h3:u0h x=u0h d) (h4:(u0c x (u3l d)).1=l) (hl:u1i d=true):
 ∃y,s1v d l=some y∧u1i y=true∧u0h y=l∧ ∀(step:Int) (keep:Hu Int) (tear:Int),
  (step=0→u1i (u8b d l step keep tear)=true∧u0h (u8b d l step keep tear)=u0h d)∧(step=1→u8b d l step keep tear=x)∧
  (step≠0→step≠1→step≠2→u8b d l step keep tear=y)∧
  (step=2→(r26 keep 0=false→u8b d l step keep tear=x)∧(r26 keep 0=true→1≤u8m tear→u8b d l step keep tear=y)∧(u8b d l step keep tear=x∨u8b d l step keep tear=y)):=by
 obtain⟨a1,a2⟩:=t2w d
 obtain⟨z,hz,hz1,hrd,hlen,_⟩:=q1r h1 [] 0
 obtain⟨t1,t2,t3,t4⟩:=p6k h1 hz1 hlen hrd
 have hsw:s1v d l=some (flush z):=by unfold s1v;rw[hx];simp only[Dc,hz,orD]
 have htx:u0h (flush z)=l:=by
  have ho:u0q (flush z)=u3l d:=by rw[t2,h2];rfl
  unfold u0h
  rw[ho,←h4]
  rcases a1 with q | q<;>rw[q]
  ·rw[t3]
  ·rw[t4]
 refine⟨flush z,hsw,t1,htx,fun step keep tear=> ?_⟩
 obtain⟨c,hc,c1,c2,c3⟩:=r7f hl (n:=0) a1 keep tear
 obtain⟨z',hz',_,_,_,g1,g2,g3⟩:=q1r h1 keep tear
 rw[hz] at hz'
 cases hz'
 have e0:∀st,u8b d l st keep tear=(if st=0 then u5z c keep tear else if st=1 then x else if st=2 then u5z z keep tear else flush z):=fun st=>by
  unfold u8b
  rw[hx]
  simp only[hc,orD,hz]
 have hf0:flush c=t9x d:=by unfold t9x;rw[hc];rfl
 obtain⟨f1,f2,f3,f4,f5⟩:=r78 hl
 have htx0:u0h (t9x d)=u0h d:=by unfold u0h;rw[f2,f3]
 refine⟨fun s0=> ?_,fun s1=> ?_,fun n0 n1 n2=> ?_,fun s2=> ?_⟩
 ·rw[e0,Al s0]
  rcases c3 with q | q
  ·rw[q];exact⟨hl,rfl⟩
  ·rw[q,hf0];exact⟨f1,htx0⟩
 ·rw[e0,Ao (by omega),Al s1]
 ·rw[e0,Ao n0,Ao n1,Ao n2]
 ·have e:u8b d l step keep tear=u5z z keep tear:=by rw[e0,Ao (by omega),Ao (by omega),Al s2]
  rw[e]
  exact⟨g1,g2,g3⟩
end
section
structure Like0 (b e:u0k):Prop where
 vs:b.1=u1r e.1 e.2.2.2.1
 past:b.2.1= []
 ready:b.2.2.1=e.2.2.1
 cs:b.2.2.2.1=e.2.2.2.1
theorem q6q (b:u0k):∀(o:Hu u0f),t5e b o≤b.2.2.2.1:=by
 intro o
 have key:∀(o:Hu u0f) (m:Int),o.foldl (fun m t=>if t.2.2.1<m then t.2.2.1 else m) m≤m:=by
  intro o
  induction o with
  | nil=>intro m;exact Bv _
  | cons t o ih=>
   intro m
   rw[Bs]
   refine Int.le_trans (ih _) ?_
   split<;>omega
 exact key o _
theorem p09 (b:u0k):t5e b [] =b.2.2.2.1:=rfl
theorem Like0.tidy {b e:u0k} (h:Like0 b e) (he:BaseR e) (o:Hu u0f):Like0 b (u2c e o):=
 ⟨by rw[h.vs];exact(r2w (p4m.mp he.vs).2.1 (q6q e o)).symm,h.past,h.ready,h.cs⟩
theorem s0m {x:u0k} (hp:∀t∈x.2.1,t.2.2.2.1≤x.2.2.2.1):u2c x [] =(u1r x.1 x.2.2.2.1, [],x.2.2):=by
 unfold u2c
 rw[p09]
 congr 2
 rw[List.filter_eq_nil_iff]
 intro t ht
 simp[hp t ht]
theorem Like0.self {b e:u0k} (h:Like0 b e) (he:BaseR e):u2c b [] =b:=by
 rw[s0m (by rw[h.past];intro t ht;cases ht)]
 obtain⟨b1,b2,b3⟩:=b
 have h1:=h.vs
 have h2:=h.past
 have h4:=h.cs
 simp only at h1 h2 h4
 rw[h4,h1,h2,r2w (p4m.mp he.vs).2.1 (Bv _)]
theorem p02 {d d' x:u0f} (h1:d.1=d'.1) (h2:d.2.1=d'.2.1) (h3:d.2.2.1=d'.2.2.1) (h4:d.2.2.2.1=d'.2.2.2.1) (h5:d.2.2.2.2.2.1=d'.2.2.2.2.2.1):q1w d x=q1w d' x:=by
 have:ahead x d=ahead x d' :=by unfold ahead r7c q15;rw[h1,h2,h3,h4,h5]
 unfold q1w;rw[this]
theorem Like0.vlen {b e:u0k} (h:Like0 b e):b.1.length≤e.1.length:=by rw[h.vs];exact(u35 _ _).length_le
theorem r5b {b e:u0k} {t u:u0f} (h:Like0 b e) (he:BaseR e) (hb:BaseR b) (hc:e.2.2.2.1<9999) (hv:e.1.length≤100) (hu:TxnR u) (h9:u.1<9999) (hs:u.2.2.1≤e.2.2.2.1)
 (h1:u.1=t.1) (h3:u.2.2.1=t.2.2.1) (h5:u.2.2.2.2.2.1=t.2.2.2.2.2.1):
 t2p (u2c (u04 b u) [])=true∧Like0 (u2c (u04 b u) []) (u04 e t):=by
 have hR:BaseR (u04 b u):=q7d hb hu (by rw[h.cs];exact hs) (by rw[h.cs];exact hc) (by rw[h.past];simp) (by have:=h.vlen;omega) (by rw[h.past];intro x hx;cases hx) h9
 refine⟨q1n.mpr (t2m hR _),?_⟩
 rw[s0m (fun x hx=>(hR.past x hx).2.2)]
 obtain⟨v1,v2,v3⟩:=p4m.mp he.vs
 refine⟨?_,rfl,?_,?_⟩
 ·show u1r (t05 b.1 u.2.2.2.2.2.1 (b.2.2.2.1+1)) (b.2.2.2.1+1)=u1r (t05 e.1 t.2.2.2.2.2.1 (e.2.2.2.1+1)) (e.2.2.2.1+1)
  rw[h.cs,h.vs,h5]
  exact p6j v2 (h5 ▸ r89 hu.ws) fun x hx=>by have:=he.vcs x hx;unfold vCs;omega
 ·show(b.2.2.1.filter fun x=> !decide (x.1=u.1)).map (q1w (u41 b u))=(e.2.2.1.filter fun x=> !decide (x.1=t.1)).map (q1w (u41 e t))
  rw[h.ready,h1]
  refine Ff fun x _=>p02 h1 rfl h3 ?_ h5
  show b.2.2.2.1+1=e.2.2.2.1+1
  rw[h.cs]
 ·show b.2.2.2.1+1=e.2.2.2.1+1
  rw[h.cs]
theorem p8m {b:u0k} {n:Hs} :u0n b n<0↔ ∀x∈b.2.2.1,x.2.2.2.2.2.2.2≠n:=by
 unfold u0n
 constructor
 ·intro h x hx e
  obtain⟨i,hi,rfl⟩:=B7 hx
  obtain⟨k,hk,hr⟩:=p1g b hi e
  unfold u0n at hr
  rw[hr] at h;omega
 ·intro h
  split
  ·rename_i q
   have:=t2u q
   exact absurd (y7d.mp this) (h _ (Ag q))
  ·omega
theorem u40 {b:u0k} {n:Hs} (h: ¬u0n b n<0):∃(k:Nat) (hk:k<b.2.2.1.length),u0n b n=(k:Int)∧b.2.2.1[k].2.2.2.2.2.2.2=n:=by
 unfold u0n at h ⊢
 split at h
 ·rename_i q
  rw[Al q]
  exact⟨_,q,rfl,y7d.mp (t2u q)⟩
 ·omega
theorem t8a {b e:u0k} (h:b.2.2.1=e.2.2.1) (n:Hs):u0n b n=u0n e n:=by unfold u0n;rw[h]
theorem q08 {b e:u0k} {t:u0f} (h:Like0 b e) (he:BaseR e) (hb:BaseR b) (hc:e.2.2.2.1<9999) (hv:e.1.length≤100) (ht:TxnR t) (h9:t.1<9999) (hs:t.2.2.1≤e.2.2.2.1):
 ∃x,u5l b (1,u41 e t,emp,false,u2f)=some x∧BaseR x∧Like0 x (u04 e t):=by
 have hD:=q74 (b:=e) ht hs hc
 obtain⟨k1,k2⟩:=r5b (t:=t) (u:=u41 e t) h he hb hc hv hD h9 hs rfl rfl rfl
 refine⟨_,?_,q1n.mp k1,k2⟩
 unfold u5l
 rw[Al ⟨q1n.mpr hb,p7e.mpr (.thr _ hD rfl)⟩]
 have e1:u1k b (1,u41 e t,emp,false,u2f)=some (u04 b (u41 e t)):=by
  unfold u1k
  rw[Al rfl,Al (by show e.2.2.2.1+1=b.2.2.2.1+1;rw[h.cs])]
 rw[e1]
 simp only
 rw[Al k1]
theorem p1d {b e:u0k} {n:Hs} {k:Nat} (h:Like0 b e) (he:BaseR e) (hb:BaseR b) (hc:e.2.2.2.1<9999) (hv:e.1.length≤100) (hn:u38 n=true) (hk:k<e.2.2.1.length) (hr:u0n e n=(k:Int)):
 ∃x,u5l b (3,u30,n,true,u2f)=some x∧BaseR x∧Like0 x (u04 e e.2.2.1[k]):=by
 obtain⟨q1,q2,q3⟩:=he.ready _ (Ag hk)
 have h9:e.2.2.1[k].1<9999:=by
  have:=t6d.mp he.below _ (Az e.2.1 (Ag hk))
  have:=he.next.2;omega
 obtain⟨k1,k2⟩:=r5b (t:=e.2.2.1[k]) (u:=e.2.2.1[k]) h he hb hc hv q1 h9 q3 rfl rfl rfl
 refine⟨_,?_,q1n.mp k1,k2⟩
 unfold u5l
 rw[Al ⟨q1n.mpr hb,p7e.mpr (.fin _ _ hn)⟩]
 have e1:u1k b (3,u30,n,true,u2f)=some (u04 b e.2.2.1[k]):=by
  unfold u1k
  simp only
  rw[Ao (by decide),Ao (by decide),Al trivial,t8a h.ready,hr,Ao (by omega),Al trivial,zTn]
  congr 2
  rw[h.ready]
  exact y8l (t:=u1f) hk
 rw[e1]
 simp only
 rw[Al k1]
theorem p3r {b e:u0k} {n:Hs} {k:Nat} (h:Like0 b e) (he:BaseR e) (hb:BaseR b) (hn:u38 n=true) (hk:k<e.2.2.1.length) (hr:u0n e n=(k:Int)):
 ∃x,u5l b (3,u30,n,false,u2f)=some x∧BaseR x∧Like0 x (u50 e n):=by
 have hR:=s5q hb n
 refine⟨u2c (u50 b n) [],?_,t2m hR _,?_⟩
 ·unfold u5l
  rw[Al ⟨q1n.mpr hb,p7e.mpr (.fin _ _ hn)⟩]
  have e1:u1k b (3,u30,n,false,u2f)=some (u50 b n):=by
   unfold u1k
   simp only
   rw[Ao (by decide),Ao (by decide),Al trivial,t8a h.ready,hr,Ao (by omega),Ao (by decide)]
  rw[e1]
  simp only
  rw[Al (q1n.mpr (t2m hR _))]
 ·rw[s0m (fun x hx=>(hR.past x hx).2.2)]
  refine⟨?_,rfl,?_,h.cs⟩
  ·show u1r b.1 b.2.2.2.1=u1r e.1 e.2.2.2.1
   rw[h.cs,h.vs]
   exact r2w (p4m.mp he.vs).2.1 (Bv _)
  ·show b.2.2.1.filter _=e.2.2.1.filter _
   rw[h.ready]
theorem q6v {b e:u0k} {t:u0f} {n:Hs} (h:Like0 b e) (he:BaseR e) (hb:BaseR b) (ht:TxnR t) (h3:t.2.1≠3) (hn:u38 n=true) (hs:t.2.2.1≤e.2.2.2.1) (hl:e.2.2.1.length<3)
 (hx:∀x∈e.2.2.1,x.2.2.2.2.2.2.2≠n) (hid:∀x∈e.2.2.1,x.1≠t.1) (h9:t.1<9999):
 ∃x,u5l b (2,u2b e t n,emp,false,u2f)=some x∧BaseR x∧Like0 x (u1a e t n):=by
 have hD:=q4k (b:=e) ht h3 hn
 have hrr:u2b b (u2b e t n) n=u2b e t n:=by
  have:s7h (u2b e t n) b.2.1=false:=by rw[h.past];rfl
  unfold u2b at this ⊢
  rw[this,Fp]
 have hR:BaseR (u1a b (u2b e t n) n):=s1e hb hD (by show(2:Int)≠3;omega) (by rw[h.cs];exact hs) hn (by rw[h.ready];exact hl) (by rw[h.ready];exact hx) (by
  rw[h.past,h.ready];exact hid) h9
 refine⟨u2c (u1a b (u2b e t n) n) [],?_,t2m hR _,?_⟩
 ·unfold u5l
  rw[Al ⟨q1n.mpr hb,p7e.mpr (.rdy _ hD rfl)⟩]
  have e1:u1k b (2,u2b e t n,emp,false,u2f)=some (u1a b (u2b e t n) n):=by
   unfold u1k
   simp only
   have hcond:b.2.2.1.length<3∧u0n b (u2b e t n).2.2.2.2.2.2.2<0:=⟨by rw[h.ready];exact hl,by rw[t8a h.ready];exact p8m.mpr hx⟩
   rw[Ao (by decide),Al trivial,Al hcond]
   rfl
  rw[e1]
  simp only
  rw[Al (q1n.mpr (t2m hR _))]
 ·rw[s0m (fun x hx=>(hR.past x hx).2.2)]
  refine⟨?_,rfl,?_,h.cs⟩
  ·show u1r b.1 b.2.2.2.1=u1r e.1 e.2.2.2.1
   rw[h.cs,h.vs]
   exact r2w (p4m.mp he.vs).2.1 (Bv _)
  ·show(b.2.2.1.filter _)++ [u2b b (u2b e t n) n] ++(b.2.2.1.filter _)=(e.2.2.1.filter _)++ [u2b e t n] ++(e.2.2.1.filter _)
   rw[h.ready,hrr]
theorem q6n:BaseR r8l:=by
 refine⟨rfl,fun v h=>(by cases h),⟨Bv _,by decide⟩,⟨by decide,by decide⟩,by decide,fun t h=>(by cases h),List.Pairwise.nil,by decide,fun t h=>(by cases h),List.Pairwise.nil,fun x h=>(by cases h),List.Pairwise.nil⟩
theorem q8i {b:u0k} (hb:BaseR b) (hs:u2c b [] =b):u5l r8l (4,u30,emp,false,b)=some b:=by
 unfold u5l
 rw[Al ⟨q1n.mpr q6n,p7e.mpr (.bas b hb)⟩]
 have e1:u1k r8l (4,u30,emp,false,b)=some b:=by
  unfold u1k
  simp only
  rw[Ao (by decide),Ao (by decide),Ao (by decide)]
 rw[e1]
 simp only
 rw[hs,Al (q1n.mpr hb)]
theorem q2f {d y:u0j} {t:Hs} (h:s1v d [t] =some y):u1i d=true∧u1i y=true∧u0h y= [t] :=by
 obtain⟨x,hx⟩:∃x,s5p d [t] =some x:=by
  cases q:s5p d [t] with
  | none=>unfold s1v at h;rw[q] at h;cases h
  | some x=>exact⟨x,rfl⟩
 have hl:u1i d=true:=by
  unfold s5p at hx
  split at hx
  ·assumption
  ·cases hx
 obtain⟨a1,a2⟩:=t2w d
 obtain⟨f1,f2,f3,f4,f5⟩:=r78 hl
 have hp:∃z,r9f (t9x d) (u3l d) t=some z:=by
  unfold s5p at hx
  rw[Al hl] at hx
  cases q:r9f (t9x d) (u3l d) t with
  | none=>simp only[s87,q] at hx;cases hx
  | some z=>exact⟨z,rfl⟩
 obtain⟨z,hz⟩:=hp
 obtain⟨w,hw,_⟩:=q9w (u13 f1).2.1 hz
 obtain⟨E,hE,g1,g2,g3,g4,g5⟩:=r6h hw
 obtain⟨x',x1,x2,x3,x4,x5⟩:=q9m (l:= [t]) hl (by simp) (by simp[q8o];omega) (fun u hu=>by simp at hu;subst hu;exact⟨g3,g4⟩)
 rw[hx] at x1
 cases x1
 obtain⟨y',y1,y2,y3,_⟩:=q1v hx x2 x3 x4 x5 hl
 rw[h] at y1
 cases y1
 exact⟨hl,y2,y3⟩
def p0o (d:u0j):Ht u0j:=match u51 (u0h d) with
 | none=>none
 | some b=>if(u0z (4,u30,emp,false,b)).2=true then s1v d [(u0z (4,u30,emp,false,b)).1] else none
def u4x (d:u0j) (r:t9h):Ht u0j:=
 if(u0z r).2=true then(match append_ d (u0z r).1 with
  | some y=>some y
  | none=>match p0o d with
   | none=>none
   | some z=>append_ z (u0z r).1)
 else none
theorem q9d {d y:u0j} {b:u0k} (hp:u51 (u0h d)=some b) (hb:BaseR b) (hs:u2c b [] =b) (h:p0o d=some y):u1i d=true∧u1i y=true∧u51 (u0h y)=some b:=by
 unfold p0o at h
 rw[hp] at h
 simp only at h
 rw[u8k (.bas b hb),Al rfl] at h
 obtain⟨h1,h2,h3⟩:=q2f h
 refine⟨h1,h2,?_⟩
 rw[h3]
 unfold u51
 simp only[t6r]
 rw[s6f (.bas b hb)]
 simp only
 rw[q8i hb hs]
theorem r6l {d y:u0j} {b x:u0k} {r:t9h} (hp:u51 (u0h d)=some b) (hb:BaseR b) (hs:u2c b [] =b) (hr:RecR r) (hx:u5l b r=some x) (h:u4x d r=some y):u1i y=true∧u51 (u0h y)=some x:=by
 have step:∀ {d y:u0j},u51 (u0h d)=some b→append_ d (s7i (s6i r))=some y→u1i y=true∧u51 (u0h y)=some x:=by
  intro d y hp h
  obtain⟨h1,h2,h3⟩:=q1k h
  refine⟨h2,?_⟩
  rw[h3]
  unfold u51 at hp ⊢
  rw[p1b,hp]
  simp only[zOb,t6r]
  rw[s6f hr]
  simp only
  rw[hx]
 unfold u4x at h
 rw[u8k hr,Al rfl] at h
 simp only at h
 cases q:append_ d (s7i (s6i r)) with
 | some z=>
  rw[q] at h
  cases h
  exact step hp q
 | none=>
  rw[q] at h
  simp only at h
  cases a:p0o d with
  | none=>rw[a] at h;cases h
  | some z=>
   rw[a] at h
   obtain⟨_,_,z3⟩:=q9d hp hb hs a
   exact step z3 h
end
section
abbrev u0p:=u08×u0j
def q43:t9h:=(0,u30,emp,false,u2f)
def u2g (o:Hu u0f) (id:Int):Int:=if u10 (fun x:u0f=>decide (x.1=id)) o<o.length then((u10 (fun x:u0f=>decide (x.1=id)) o:Nat):Int) else -1
def u03 (e:u08) (id:Int):u0f:=rdL u1f e.2 (u2g e.2 id).toNat
def t6q (e:u08):Hu u0f:=e.1.2.1++e.1.2.2.1
def t35 (e:u08) (id:Int):Int:=
 if u2g e.2 id<0 then 1 else if s9y (u03 e id) (t6q e)=true then 4 else if s84 (u03 e id) (t6q e)=true then 5 else if t80 e.1=true then 3 else 0
def u1s (e:u08) (id:Int):u08×t9h×Int:=
 if t35 e id=1 then(e,q43,1) else if t35 e id=0 then(t6e e (u03 e id),(1,u41 e.1 (u03 e id),emp,false,u2f),0) else(leaveE e id,q43,t35 e id)
def t3i (e:u08) (id:Int):Int:=
 if t35 e id≠0 then t35 e id else if t07 (u03 e id) (t6q e)=true then 5 else if 3≤e.1.2.2.1.length then 3 else 0
def u9a (e:u08) (id:Int) (n:Hs):u08×t9h×Int:=
 if u2g e.2 id<0 then(e,q43,1) else if u38 n=false then(e,q43,2) else if 0≤u0n e.1 n then(e,q43,6)
 else if t3i e id=0 then(p3s e (u03 e id) n,(2,u2b e.1 (u03 e id) n,emp,false,u2f),0) else(leaveE e id,q43,t3i e id)
def s4k (e:u08) (n:Hs) (yes:Bool):u08×t9h×Int:=
 if u0n e.1 n<0 then(e,q43,1) else if yes=true∧t80 e.1=true then(e,q43,3)
 else if yes=true then(p6t e (rdL u1f e.1.2.2.1 (u0n e.1 n).toNat),(3,u30,n,true,u2f),0) else(noE e n,(3,u30,n,false,u2f),0)
def leaveP (e:u08) (id:Int):u08×Int:=if u2g e.2 id<0 then(e,1) else(leaveE e id,0)
def u37 (e:u08):u08×Int×Int:=if e.2.length<4∧e.1.2.2.2.2<9999 then(p66 e,e.1.2.2.2.2,0) else(e,0,3)
def o1x (l:Hu t25) (r:t25):Bool:=l.any fun x=>z7l x.1 r.1&&z7l x.2 r.2
def o5g (t:u0f) (r:t25):u0f:=(t.1,t.2.1,t.2.2.1,t.2.2.2.1,t.2.2.2.2.1++ [r],t.2.2.2.2.2)
def t4f (t:u0f) (r:t25):u0f×Bool:=if o1x t.2.2.2.2.1 r=true then(t,true) else if t.2.2.2.2.1.length<8 then(o5g t r,true) else(t,false)
def o3c (t:u0f) (l:Hu WrT):u0f:=(t.1,t.2.1,t.2.2.1,t.2.2.2.1,t.2.2.2.2.1,l,t.2.2.2.2.2.2)
def t4i (t:u0f) (w:WrT):u0f×Bool:=if(r9e t.2.2.2.2.2.1 w).length≤8 then(o3c t (r9e t.2.2.2.2.2.1 w),true) else(t,false)
def u7x (e:u08) (id:Int) (r:t25) (right:Bool):u08×Int:=
 if u2g e.2 id<0 then(e,1) else if right=false then(e,2) else if(t4f (u03 e id) r).2=true then(r8z e (u2g e.2 id).toNat (t4f (u03 e id) r).1,0) else(e,3)
def r6m (e:u08) (id:Int) (w:WrT):u08×Int:=
 if u2g e.2 id<0 then(e,1) else if u2i w=false then(e,2) else if(t4i (u03 e id) w).2=true then(r8z e (u2g e.2 id).toNat (t4i (u03 e id) w).1,0) else(e,3)
theorem u0w {e:u08} {id:Int} (h: ¬u2g e.2 id<0):∃(k:Nat) (hk:k<e.2.length),u2g e.2 id=(k:Int)∧u03 e id=e.2[k] ∧e.2[k].1=id:=by
 unfold u03
 unfold u2g at h ⊢
 split at h
 ·rename_i q
  rw[Al q]
  refine⟨_,q,rfl,?_,?_⟩
  ·rw[zTn];exact y8l (t:=u1f) q
  ·simpa using t2u q
 ·omega
theorem t4o {e:u08} {id:Int} (h:t35 e id=0): ¬u2g e.2 id<0∧s9y (u03 e id) (t6q e)=false∧s84 (u03 e id) (t6q e)=false∧t80 e.1=false:=by
 unfold t35 at h
 split at h
 ·omega
 ·rename_i h1
  split at h
  ·omega
  ·rename_i h2
   split at h
   ·omega
   ·rename_i h3
    split at h
    ·omega
    ·rename_i h4
     exact⟨h1,by simpa using h2,by simpa using h3,by simpa using h4⟩
theorem p3c (e:u08) (id:Int):t35 e id=0∨t35 e id=1∨t35 e id=3∨t35 e id=4∨t35 e id=5:=by
 unfold t35
 split
 ·exact .inr (.inl rfl)
 ·split
  ·exact .inr (.inr (.inr (.inl rfl)))
  ·split
   ·exact .inr (.inr (.inr (.inr rfl)))
   ·split
    ·exact .inr (.inr (.inl rfl))
    ·exact .inl rfl
theorem p97 {t:u0f} {r:t25} (h:TxnR t) (hr:u12 r=true) (hl:t.2.2.2.2.1.length<8):TxnR (o5g t r):=
 ⟨h.id,h.st,h.snap,by show(t.2.2.2.2.1++ [r]).length≤8;simp only[Ba,Aw];omega,h.ws,fun x hx=>by
   rcases Ay.mp hx with hx | hx
   ·exact h.rs x hx
   ·rw[Ax] at hx;subst hx;exact hr,h.done,h.nocs,h.name,h.noname,h.out⟩
theorem p8l {t:u0f} {r:t25} (h:TxnR t) (hr:u12 r=true):TxnR (t4f t r).1∧(t4f t r).1.1=t.1∧(t4f t r).1.2.1=t.2.1∧(t4f t r).1.2.2.1=t.2.2.1∧(t4f t r).1.2.2.2.2.2.1=t.2.2.2.2.2.1:=by
 unfold t4f
 split
 ·exact⟨h,rfl,rfl,rfl,rfl⟩
 ·split
  ·rename_i q;exact⟨p97 h hr q,rfl,rfl,rfl,rfl⟩
  ·exact⟨h,rfl,rfl,rfl,rfl⟩
theorem q8j {l:Hu WrT} {w:WrT} (h:u26 l=true) (hw:u2i w=true) (hl:(r9e l w).length≤8):u26 (r9e l w)=true:=by
 obtain⟨h1,h2,h3⟩:=p7i.mp h
 refine p7i.mpr ⟨fun x hx=> ?_,?_,hl⟩
 ·rcases s65 hx with hx | rfl
  ·exact h1 x hx
  ·exact hw
 ·unfold r9e
  rw[Bi,Cg]
  refine⟨Dz _ h2,?_,?_⟩
  ·rw[Fs,Ch]
   refine⟨fun y hy=> ?_,Dz _ h2⟩
   have:=(A6.mp hy).2
   rw[r4z] at this
   exact this
  ·intro x hx y hy
   have h4:=(A6.mp hx).2
   rcases Ay.mp hy with hy | hy
   ·rw[Ax] at hy;subst hy;exact h4
   ·have h5:=(A6.mp hy).2
    rw[r4z] at h5
    exact s9i h4 h5
theorem o0v {t:u0f} {l:Hu WrT} (h:TxnR t) (hl:u26 l=true):TxnR (o3c t l):=
 ⟨h.id,h.st,h.snap,h.rlen,hl,h.rs,h.done,h.nocs,h.name,h.noname,h.out⟩
theorem p6r {t:u0f} {w:WrT} (h:TxnR t) (hw:u2i w=true):TxnR (t4i t w).1∧(t4i t w).1.1=t.1∧(t4i t w).1.2.1=t.2.1∧(t4i t w).1.2.2.1=t.2.2.1∧(t4i t w).1.2.2.2.2.1=t.2.2.2.2.1:=by
 unfold t4i
 split
 ·rename_i q;exact⟨o0v h (q8j h.ws hw q),rfl,rfl,rfl,rfl⟩
 ·exact⟨h,rfl,rfl,rfl,rfl⟩
theorem p7a {e:u08} (h:EngR e) {id:Int} {r:t25} {right:Bool} (hr:right=true→u12 r=true):EngR (u7x e id r right).1:=by
 unfold u7x
 split
 ·exact h
 ·rename_i q
  split
  ·exact h
  ·rename_i hb
   split
   ·obtain⟨k,hk,e1,e2,e3⟩:=u0w q
    obtain⟨o1,o2,o3⟩:=h.open_ _ (Ag hk)
    rw[e1,zTn,e2]
    obtain⟨r1,r2,r3,r4,r5⟩:=p8l o1 (hr (by simpa using hb))
    exact q66 h hk r1 r2 (r3.trans o2) r4
   ·exact h
theorem o0s {e:u08} (h:EngR e) {id:Int} {w:WrT} :EngR (r6m e id w).1:=by
 unfold r6m
 split
 ·exact h
 ·rename_i q
  split
  ·exact h
  ·rename_i hb
   split
   ·obtain⟨k,hk,e1,e2,e3⟩:=u0w q
    obtain⟨o1,o2,o3⟩:=h.open_ _ (Ag hk)
    rw[e1,zTn,e2]
    obtain⟨r1,r2,r3,r4,r5⟩:=p6r (w:=w) o1 (by simpa using hb)
    exact q66 h hk r1 r2 (r3.trans o2) r4
   ·exact h
theorem q2x {e:u08} (h:EngR e):EngR (u37 e).1:=by
 unfold u37
 split
 ·rename_i q;exact p75 h q.1 q.2
 ·exact h
structure Sync (s:u0p) (b:u0k):Prop where
 eng:EngR s.1
 log:u1i s.2=true
 play:u51 (u0h s.2)=some b
 right:BaseR b
 like:Like0 b s.1.1
theorem Like0.of {b e e' :u0k} (h:Like0 b e) (h1:e'.1=e.1) (h2:e'.2.2.1=e.2.2.1) (h3:e'.2.2.2.1=e.2.2.2.1):Like0 b e' :=
 ⟨by rw[h1,h3];exact h.vs,h.past,by rw[h2];exact h.ready,by rw[h3];exact h.cs⟩
theorem Sync.opens {s:u0p} {b:u0k} {e:u08} (h:Sync s b) (he:EngR e) (h1:e.1.1=s.1.1.1) (h2:e.1.2.2.1=s.1.1.2.2.1) (h3:e.1.2.2.2.1=s.1.1.2.2.2.1):Sync (e,s.2) b:=
 ⟨he,h.log,h.play,h.right,h.like.of h1 h2 h3⟩
theorem Sync.leave {s:u0p} {b:u0k} (h:Sync s b) (id:Int):Sync (leaveE s.1 id,s.2) b:=
 ⟨p8d h.eng id,h.log,h.play,h.right,h.like.tidy h.eng.base _⟩
theorem Sync.own {s:u0p} {b:u0k} (h:Sync s b):u2c b [] =b:=h.like.self h.eng.base
def u1l (s:u0p) (id:Int):u0p×Int:=
 if(u1s s.1 id).2.2=0 then(match u4x s.2 (u1s s.1 id).2.1 with
  | some d=>(((u1s s.1 id).1,d),0)
  | none=>((leaveE s.1 id,s.2),3))
 else(((u1s s.1 id).1,s.2),(u1s s.1 id).2.2)
def u7w (s:u0p) (id:Int) (n:Hs):u0p×Int:=
 if(u9a s.1 id n).2.2=0 then(match u4x s.2 (u9a s.1 id n).2.1 with
  | some d=>(((u9a s.1 id n).1,d),0)
  | none=>((leaveE s.1 id,s.2),3))
 else(((u9a s.1 id n).1,s.2),(u9a s.1 id n).2.2)
def t1l (s:u0p) (n:Hs) (yes:Bool):u0p×Int:=
 if(s4k s.1 n yes).2.2=0 then(match u4x s.2 (s4k s.1 n yes).2.1 with
  | some d=>(((s4k s.1 n yes).1,d),0)
  | none=>(s,3))
 else(s,(s4k s.1 n yes).2.2)
def q9n (s:u0p):u0p×Bool:=match p0o s.2 with
 | some d=>((s.1,d),true)
 | none=>(s,false)
def o0t (d:u0j):Ht u0p:=if u1i d=true then(match u51 (u0h d) with
 | some b=>some ((b, []),d)
 | none=>none) else none
theorem Sync.commit {s:u0p} {b:u0k} (h:Sync s b) (id:Int):∃b',Sync (u1l s id).1 b' ∧(b' =b∨((u1l s id).2=0∧t35 s.1 id=0∧u5l b (1,u41 s.1.1 (u03 s.1 id),emp,false,u2f)=some b')):=by
 have hE:=h.eng
 unfold u1l
 by_cases c0:(u1s s.1 id).2.2=0
 ·rw[Al c0]
  have j0:t35 s.1 id=0:=by
   unfold u1s at c0
   split at c0
   ·cases c0
   ·split at c0
    ·assumption
    ·exact c0
  have ec:u1s s.1 id=(t6e s.1 (u03 s.1 id),(1,u41 s.1.1 (u03 s.1 id),emp,false,u2f),0):=by
   unfold u1s;rw[Ao (by omega),Al j0]
  obtain⟨h1,h2,h3,h4⟩:=t4o j0
  obtain⟨k,hk,e1,e2,e3⟩:=u0w h1
  have ht:u03 s.1 id∈s.1.2:=by rw[e2];exact Ag hk
  obtain⟨f1,f2,f3⟩:=r2b h4
  obtain⟨tR,t1,ts⟩:=hE.open_ _ ht
  have h9:(u03 s.1 id).1<9999:=by have:=hE.bel _ (Az _ ht);have:=hE.base.next.2;omega
  obtain⟨x,p1,p2,p3⟩:=q08 (t:=u03 s.1 id) h.like hE.base h.right f3 f2 tR h9 ts
  rw[ec]
  simp only
  cases hk2:u4x s.2 (1,u41 s.1.1 (u03 s.1 id),emp,false,u2f) with
  | none=>exact⟨b,h.leave id, .inl rfl⟩
  | some d=>
   obtain⟨l1,l2⟩:=r6l h.play h.right h.own (.thr _ (q74 tR ts f3) rfl) p1 hk2
   have hR:=q9k hE ht h4
   exact⟨x,⟨hR,l1,l2,p2,p3.tidy (t1i hE (.inl ht) h4) _⟩, .inr ⟨rfl,j0,p1⟩⟩
 ·rw[Ao c0]
  refine⟨b,?_, .inl rfl⟩
  unfold u1s
  split
  ·exact h
  ·split
   ·rename_i q1 q2
    exfalso;apply c0
    unfold u1s;rw[Ao q1,Al q2]
   ·exact h.leave id
theorem p3u {e:u08} {id:Int} (h:t3i e id=0):t35 e id=0∧t07 (u03 e id) (t6q e)=false∧e.1.2.2.1.length<3:=by
 unfold t3i at h
 split at h
 ·rename_i q;exact absurd h q
 ·rename_i q
  split at h
  ·omega
  ·rename_i q2
   split at h
   ·omega
   ·exact⟨by omega,by simpa using q2,by omega⟩
theorem p3t {e:u08} {id:Int} {n:Hs} (h:(u9a e id n).2.2=0): ¬u2g e.2 id<0∧u38 n=true∧u0n e.1 n<0∧t3i e id=0∧u9a e id n=(p3s e (u03 e id) n,(2,u2b e.1 (u03 e id) n,emp,false,u2f),0):=by
 unfold u9a at h ⊢
 split at h
 ·cases h
 ·rename_i q1
  split at h
  ·cases h
  ·rename_i q2
   split at h
   ·cases h
   ·rename_i q3
    split at h
    ·rename_i q4
     exact⟨q1,by simpa using q2,by omega,q4,by rw[Ao q1,Ao q2,Ao q3,Al q4]⟩
    ·rename_i q4
     exact absurd h q4
theorem Sync.prep {s:u0p} {b:u0k} (h:Sync s b) (id:Int) (n:Hs):∃b',Sync (u7w s id n).1 b' ∧(b' =b∨((u7w s id n).2=0∧(u9a s.1 id n).2.2=0∧u5l b (2,u2b s.1.1 (u03 s.1 id) n,emp,false,u2f)=some b')):=by
 have hE:=h.eng
 unfold u7w
 by_cases c0:(u9a s.1 id n).2.2=0
 ·rw[Al c0]
  obtain⟨h1,hn,hr,hc,ec⟩:=p3t c0
  obtain⟨j0,rd,rl⟩:=p3u hc
  obtain⟨k,hk,e1,e2,e3⟩:=u0w h1
  have ht:u03 s.1 id∈s.1.2:=by rw[e2];exact Ag hk
  obtain⟨tR,t1,ts⟩:=hE.open_ _ ht
  have h9:(u03 s.1 id).1<9999:=by have:=hE.bel _ (Az _ ht);have:=hE.base.next.2;omega
  have hnn:=p8m.mp hr
  obtain⟨x,p1,p2,p3⟩:=q6v (t:=u03 s.1 id) (n:=n) h.like hE.base h.right tR (by omega) hn ts rl hnn (fun x hx=>hE.apart x (Az _ hx) _ ht) h9
  rw[ec]
  simp only
  cases hk2:u4x s.2 (2,u2b s.1.1 (u03 s.1 id) n,emp,false,u2f) with
  | none=>exact⟨b,h.leave id, .inl rfl⟩
  | some d=>
   obtain⟨l1,l2⟩:=r6l h.play h.right h.own (.rdy _ (q4k tR (by omega) hn) rfl) p1 hk2
   have hB:BaseR (u1a s.1.1 (u03 s.1 id) n):=s1e hE.base tR (by omega) ts hn rl hnn (fun x hx=>hE.apart x hx _ ht) h9
   exact⟨x,⟨o0r hE ht hn rl hnn,l1,l2,p2,p3.tidy hB _⟩, .inr ⟨by trivial,by trivial,p1⟩⟩
 ·rw[Ao c0]
  refine⟨b,?_, .inl rfl⟩
  unfold u9a
  split
  ·exact h
  ·split
   ·exact h
   ·split
    ·exact h
    ·split
     ·rename_i q1 q2 q3 q4
      exfalso;apply c0
      unfold u9a;rw[Ao q1,Ao q2,Ao q3,Al q4]
     ·exact h.leave id
theorem Sync.fin {s:u0p} {b:u0k} (h:Sync s b) (n:Hs) (yes:Bool):∃b',Sync (t1l s n yes).1 b' ∧(b' =b∨((t1l s n yes).2=0∧(s4k s.1 n yes).2.2=0∧u5l b (3,u30,n,yes,u2f)=some b')):=by
 have hE:=h.eng
 unfold t1l
 by_cases c0:(s4k s.1 n yes).2.2=0
 ·rw[Al c0]
  unfold s4k at c0
  split at c0
  ·cases c0
  ·rename_i q1
   split at c0
   ·cases c0
   ·rename_i q2
    obtain⟨k,hk,r1,r2⟩:=u40 q1
    obtain⟨tR,t2,ts⟩:=hE.base.ready _ (Ag hk)
    have hn:u38 n=true:=by rw[←r2];exact tR.name t2
    cases yes with
    | true=>
     have hf:t80 s.1.1=false:=by simpa using q2
     obtain⟨f1,f2,f3⟩:=r2b hf
     have ec:s4k s.1 n true=(p6t s.1 s.1.1.2.2.1[k],(3,u30,n,true,u2f),0):=by
      unfold s4k;rw[Ao q1,Ao q2,Al rfl,r1,zTn,y8l (t:=u1f) hk]
     obtain⟨x,p1,p2,p3⟩:=p1d h.like hE.base h.right f3 f2 hn hk r1
     rw[ec]
     simp only
     cases hk2:u4x s.2 (3,u30,n,true,u2f) with
     | none=>exact⟨b,h, .inl rfl⟩
     | some d=>
      obtain⟨l1,l2⟩:=r6l h.play h.right h.own (.fin n true hn) p1 hk2
      exact⟨x,⟨o3h hE (Ag hk) hf,l1,l2,p2,p3.tidy (t1i hE (.inr (Ag hk)) hf) _⟩, .inr ⟨by trivial,by trivial,p1⟩⟩
    | false=>
     have ec:s4k s.1 n false=(noE s.1 n,(3,u30,n,false,u2f),0):=by
      unfold s4k;rw[Ao q1,Ao q2,Ao (by decide)]
     obtain⟨x,p1,p2,p3⟩:=p3r h.like hE.base h.right hn hk r1
     rw[ec]
     simp only
     cases hk2:u4x s.2 (3,u30,n,false,u2f) with
     | none=>exact⟨b,h, .inl rfl⟩
     | some d=>
      obtain⟨l1,l2⟩:=r6l h.play h.right h.own (.fin n false hn) p1 hk2
      exact⟨x,⟨o6a hE n,l1,l2,p2,p3.tidy (s5q hE.base n) _⟩, .inr ⟨by trivial,by trivial,p1⟩⟩
 ·rw[Ao c0]
  exact⟨b,h, .inl rfl⟩
theorem Sync.fix {s:u0p} {b:u0k} (h:Sync s b):Sync (q9n s).1 b:=by
 unfold q9n
 cases ha:p0o s.2 with
 | none=>exact h
 | some d=>
  obtain⟨_,l1,l2⟩:=q9d h.play h.right h.own ha
  exact⟨h.eng,l1,l2,h.right,h.like⟩
theorem p1i {s:u0p} {b:u0k} (h:Sync s b):o0t s.2=some ((b, []),s.2)∧Sync ((b, []),s.2) b:=by
 constructor
 ·unfold o0t;rw[Al h.log,h.play]
 ·have hb:=h.right
  have hE:EngR (b, []):=⟨hb,Cn _,fun t ht=>(by cases ht),List.Pairwise.nil,by simpa using hb.below,by simpa using hb.nodup⟩
  refine⟨hE,h.log,h.play,hb,?_,h.like.past,rfl,rfl⟩
  have hs:=h.own
  rw[s0m (fun t ht=>(hb.past t ht).2.2)] at hs
  exact(Dj Prod.fst hs).symm
end
section
def K5:Hu Hs:= [⟨#[97]⟩,⟨#[98]⟩,⟨#[99]⟩,⟨#[100]⟩,⟨#[97,98]⟩]
structure DomT (t:u0f):Prop where
 ws:∀w∈t.2.2.2.2.2.1,w.1∈K5
 rs:∀r∈t.2.2.2.2.1,r.1∈K5∧r.2∈K5
structure DomB (b:u0k):Prop where
 vs:∀v∈b.1,v.1∈K5
 ready:∀t∈b.2.2.1,DomT t
structure DomE (e:u08):Prop where
 base:DomB e.1
 open_:∀t∈e.2,DomT t
theorem DomB.tidy {b:u0k} (h:DomB b) (o:Hu u0f):DomB (u2c b o):=⟨fun v hv=>h.vs v ((u35 _ _).subset hv),h.ready⟩
theorem DomB.through {b:u0k} {t:u0f} (h:DomB b) (ht:DomT t):DomB (u04 b t):=by
 refine⟨fun v hv=> ?_,fun x hx=> ?_⟩
 ·rcases(u2w _ _ _).mp hv with hv | ⟨w,hw,rfl⟩
  ·exact h.vs v hv
  ·exact ht.ws w hw
 ·obtain⟨q,hq,rfl⟩:=Bx.mp hx
  have:=h.ready q (A6.mp hq).1
  exact⟨this.ws,this.rs⟩
theorem DomB.made {b:u0k} {t:u0f} {n:Hs} (h:DomB b) (ht:DomT t):DomB (u1a b t n):=by
 refine⟨h.vs,fun x hx=> ?_⟩
 rcases Ay.mp hx with hx | hx
 ·rcases Ay.mp hx with hx | hx
  ·exact h.ready x (A6.mp hx).1
  ·rw[Ax] at hx;subst hx;exact⟨ht.ws,ht.rs⟩
 ·exact h.ready x (A6.mp hx).1
theorem DomB.given {b:u0k} (h:DomB b) (n:Hs):DomB (u50 b n):=⟨h.vs,fun x hx=>h.ready x (A6.mp hx).1⟩
theorem DomE.rest {e:u08} (h:DomE e) (id:Int):∀t∈t2q e id,DomT t:=fun t ht=>h.open_ t ((u3m e id).subset ht)
theorem DomE.leave {e:u08} (h:DomE e) (id:Int):DomE (leaveE e id):=⟨h.base.tidy _,h.rest id⟩
theorem DomE.begin {e:u08} (h:DomE e):DomE (u37 e).1:=by
 unfold u37
 split
 ·refine⟨⟨h.base.vs,h.base.ready⟩,fun t ht=> ?_⟩
  rcases Ay.mp ht with ht | ht
  ·exact h.open_ t ht
  ·rw[Ax] at ht;subst ht
   exact⟨fun w hw=>(by cases hw),fun r hr=>(by cases hr)⟩
 ·exact h
theorem DomE.commit {e:u08} (h:DomE e) (id:Int):DomE (u1s e id).1:=by
 unfold u1s
 split
 ·exact h
 ·split
  ·rename_i _ q
   obtain⟨k,hk,e1,e2,e3⟩:=u0w (t4o q).1
   rw[e2]
   exact⟨(h.base.through (h.open_ _ (Ag hk))).tidy _,h.rest _⟩
  ·exact h.leave id
theorem DomE.prep {e:u08} (h:DomE e) (id:Int) (n:Hs):DomE (u9a e id n).1:=by
 unfold u9a
 split
 ·exact h
 ·rename_i q
  split
  ·exact h
  ·split
   ·exact h
   ·split
    ·obtain⟨k,hk,e1,e2,e3⟩:=u0w q
     rw[e2]
     exact⟨(h.base.made (h.open_ _ (Ag hk))).tidy _,h.rest _⟩
    ·exact h.leave id
theorem DomE.fin {e:u08} (h:DomE e) (n:Hs) (y:Bool):DomE (s4k e n y).1:=by
 unfold s4k
 split
 ·exact h
 ·rename_i q
  split
  ·exact h
  ·split
   ·obtain⟨k,hk,r1,r2⟩:=u40 q
    rw[r1,zTn,y8l (t:=u1f) hk]
    exact⟨(h.base.through (h.base.ready _ (Ag hk))).tidy _,h.open_⟩
   ·exact⟨(h.base.given n).tidy _,h.open_⟩
theorem DomE.look {e:u08} (h:DomE e) {id:Int} {r:t25} {right:Bool} (hr:r.1∈K5∧r.2∈K5):DomE (u7x e id r right).1:=by
 unfold u7x
 split
 ·exact h
 ·rename_i q
  split
  ·exact h
  ·split
   ·obtain⟨k,hk,e1,e2,e3⟩:=u0w q
    rw[e2]
    have ho:=h.open_ _ (Ag hk)
    refine⟨h.base,fun t ht=> ?_⟩
    rcases s69 ht with ht | rfl
    ·exact h.open_ t ht
    ·unfold t4f
     split
     ·exact ho
     ·split
      ·refine⟨ho.ws,fun x hx=> ?_⟩
       rcases Ay.mp hx with hx | hx
       ·exact ho.rs x hx
       ·rw[Ax] at hx;subst hx;exact hr
      ·exact ho
   ·exact h
theorem DomE.put {e:u08} (h:DomE e) {id:Int} {w:WrT} (hw:w.1∈K5):DomE (r6m e id w).1:=by
 unfold r6m
 split
 ·exact h
 ·rename_i q
  split
  ·exact h
  ·split
   ·obtain⟨k,hk,e1,e2,e3⟩:=u0w q
    rw[e2]
    have ho:=h.open_ _ (Ag hk)
    refine⟨h.base,fun t ht=> ?_⟩
    rcases s69 ht with ht | rfl
    ·exact h.open_ t ht
    ·unfold t4i
     split
     ·refine⟨fun x hx=> ?_,ho.rs⟩
      rcases s65 hx with hx | rfl
      ·exact ho.ws x hx
      ·exact hw
     ·exact ho
   ·exact h
def Num (k:Nat) (e:u08):Prop:=e.1.2.2.2.1≤(k:Int)∧e.1.2.2.2.2≤(k:Int)+1
theorem Num.mono {k m:Nat} {e:u08} (h:Num k e) (hk:k≤m):Num m e:=⟨by have:=h.1;omega,by have:=h.2;omega⟩
theorem r3x {e:u08} (h:EngR e) {t:u0f} (ht:t∈e.2∨t∈e.1.2.2.1):u01 e.1.2.2.2.2 t.1=e.1.2.2.2.2:=by
 refine q6o ?_
 rcases ht with ht | ht
 ·exact h.bel t (Az _ ht)
 ·exact h.bel t (Bf _ (Az _ ht))
theorem Num.begin {k:Nat} {e:u08} (h:Num k e):Num (k+1) (u37 e).1:=by
 unfold u37
 split
 ·exact⟨by show e.1.2.2.2.1≤_;have:=h.1;omega,by show e.1.2.2.2.2+1≤_;have:=h.2;omega⟩
 ·exact h.mono (by omega)
theorem Num.commit {k:Nat} {e:u08} (hE:EngR e) (h:Num k e) (id:Int):Num (k+1) (u1s e id).1:=by
 unfold u1s
 split
 ·exact h.mono (by omega)
 ·split
  ·rename_i _ q
   obtain⟨j,hj,e1,e2,e3⟩:=u0w (t4o q).1
   refine⟨by show e.1.2.2.2.1+1≤_;have:=h.1;omega,?_⟩
   show u01 e.1.2.2.2.2 (u03 e id).1≤_
   rw[e2,r3x hE (.inl (Ag hj))]
   have:=h.2;omega
  ·exact h.mono (by omega)
theorem Num.prep {k:Nat} {e:u08} (hE:EngR e) (h:Num k e) (id:Int) (n:Hs):Num (k+1) (u9a e id n).1:=by
 unfold u9a
 split
 ·exact h.mono (by omega)
 ·rename_i q
  split
  ·exact h.mono (by omega)
  ·split
   ·exact h.mono (by omega)
   ·split
    ·obtain⟨j,hj,e1,e2,e3⟩:=u0w q
     refine⟨by show e.1.2.2.2.1≤_;have:=h.1;omega,?_⟩
     show u01 e.1.2.2.2.2 (u03 e id).1≤_
     rw[e2,r3x hE (.inl (Ag hj))]
     have:=h.2;omega
    ·exact h.mono (by omega)
theorem Num.fin {k:Nat} {e:u08} (hE:EngR e) (h:Num k e) (n:Hs) (y:Bool):Num (k+1) (s4k e n y).1:=by
 unfold s4k
 split
 ·exact h.mono (by omega)
 ·rename_i q
  split
  ·exact h.mono (by omega)
  ·split
   ·obtain⟨j,hj,r1,r2⟩:=u40 q
    rw[r1,zTn,y8l (t:=u1f) hj]
    refine⟨by show e.1.2.2.2.1+1≤_;have:=h.1;omega,?_⟩
    show u01 e.1.2.2.2.2 e.1.2.2.1[j].1≤_
    rw[r3x hE (.inr (Ag hj))]
    have:=h.2;omega
   ·exact h.mono (by omega)
theorem Num.look {k:Nat} {e:u08} (h:Num k e) {id:Int} {r:t25} {right:Bool} :Num k (u7x e id r right).1:=by
 unfold u7x
 split
 ·exact h
 ·split
  ·exact h
  ·split<;>exact h
theorem Num.put {k:Nat} {e:u08} (h:Num k e) {id:Int} {w:WrT} :Num k (r6m e id w).1:=by
 unfold r6m
 split
 ·exact h
 ·split
  ·exact h
  ·split<;>exact h
structure Stt (k:Nat) (s:u0p):Prop where
 sync:∃b,Sync s b∧b.2.2.2.2≤(k:Int)+1
 dom:DomE s.1
 num:Num k s.1
theorem Stt.eng {k:Nat} {s:u0p} (h:Stt k s):EngR s.1:=by obtain⟨b,h1,_⟩:=h.sync;exact h1.eng
theorem t2x {b x:u0k} {r:t9h} (h:u5l b r=some x):∃y,u1k b r=some y∧x=u2c y [] :=by
 unfold u5l at h
 split at h
 ·cases q:u1k b r with
  | none=>rw[q] at h;cases h
  | some y=>
   rw[q] at h
   simp only at h
   split at h
   ·exact⟨y,rfl,(Ds h).symm⟩
   ·cases h
 ·cases h
theorem q8e {n i m:Int} (h1:n≤m) (h2:i<m):u01 n i≤m:=by unfold u01;split<;>omega
theorem Stt.commit {k:Nat} {s:u0p} (h:Stt k s) (id:Int):Stt (k+1) (u1l s id).1:=by
 obtain⟨b,hs,hb⟩:=h.sync
 obtain⟨b',hs',hd⟩:=hs.commit id
 have hE:=hs.eng
 have h1:=h.num.commit hE id
 have hl:=h.dom.leave id
 refine⟨⟨b',hs',?_⟩,?_,?_⟩
 ·rcases hd with rfl | ⟨_,j0,hp⟩
  ·omega
  ·obtain⟨y,hy,rfl⟩:=t2x hp
   unfold u1k at hy
   rw[Al rfl] at hy
   split at hy
   ·cases hy
    show u01 b.2.2.2.2 (u03 s.1 id).1≤_
    obtain⟨j,hj,e1,e2,e3⟩:=u0w (t4o j0).1
    have:=hE.bel _ (Az _ (Ag hj))
    rw[e2]
    have:=h.num.2
    exact q8e (by omega) (by omega)
   ·cases hy
 ·have h2:=h.dom.commit id
  unfold u1l
  split
  ·split
   ·exact h2
   ·exact hl
  ·exact h2
 ·unfold u1l
  split
  ·split
   ·exact h1
   ·exact h.num.mono (by omega)
  ·exact h1
theorem Stt.prep {k:Nat} {s:u0p} (h:Stt k s) (id:Int) (n:Hs):Stt (k+1) (u7w s id n).1:=by
 obtain⟨b,hs,hb⟩:=h.sync
 obtain⟨b',hs',hd⟩:=hs.prep id n
 have hE:=hs.eng
 have h1:=h.num.prep hE id n
 have hl:=h.dom.leave id
 refine⟨⟨b',hs',?_⟩,?_,?_⟩
 ·rcases hd with rfl | ⟨_,j0,hp⟩
  ·omega
  ·obtain⟨y,hy,rfl⟩:=t2x hp
   unfold u1k at hy
   simp only at hy
   rw[Ao (by decide),Al trivial] at hy
   split at hy
   ·cases hy
    show u01 b.2.2.2.2 (u03 s.1 id).1≤_
    obtain⟨j,hj,e1,e2,e3⟩:=u0w (p3t j0).1
    have:=hE.bel _ (Az _ (Ag hj))
    rw[e2]
    have:=h.num.2
    exact q8e (by omega) (by omega)
   ·cases hy
 ·have h2:=h.dom.prep id n
  unfold u7w
  split
  ·split
   ·exact h2
   ·exact hl
  ·exact h2
 ·unfold u7w
  split
  ·split
   ·exact h1
   ·exact h.num.mono (by omega)
  ·exact h1
theorem Stt.fin {k:Nat} {s:u0p} (h:Stt k s) (n:Hs) (y:Bool):Stt (k+1) (t1l s n y).1:=by
 obtain⟨b,hs,hb⟩:=h.sync
 obtain⟨b',hs',hd⟩:=hs.fin n y
 have hE:=hs.eng
 have h1:=h.num.fin hE n y
 refine⟨⟨b',hs',?_⟩,?_,?_⟩
 ·rcases hd with rfl | ⟨_,j0,hp⟩
  ·omega
  ·obtain⟨z,hz,rfl⟩:=t2x hp
   unfold u1k at hz
   simp only at hz
   rw[Ao (by decide),Ao (by decide),Al trivial] at hz
   split at hz
   ·cases hz
   ·rename_i q
    obtain⟨j,hj,r1,r2⟩:=u40 q
    split at hz
    ·cases hz
     show u01 b.2.2.2.2 (rdL u1f b.2.2.1 (u0n b n).toNat).1≤_
     rw[r1,zTn,y8l (t:=u1f) hj]
     have:b.2.2.1[j] ∈s.1.1.2.2.1:=by rw[←hs.like.ready];exact Ag hj
     have:=hE.bel _ (Bf _ (Az _ this))
     have:=h.num.2
     exact q8e (by omega) (by omega)
    ·cases hz
     show b.2.2.2.2≤_
     omega
 ·have h2:=h.dom.fin n y
  unfold t1l
  split
  ·split
   ·exact h2
   ·exact h.dom
  ·exact h.dom
 ·unfold t1l
  split
  ·split
   ·exact h1
   ·exact h.num.mono (by omega)
  ·exact h.num.mono (by omega)
theorem Stt.fix {k:Nat} {s:u0p} (h:Stt k s):Stt (k+1) (q9n s).1:=by
 obtain⟨b,hs,hb⟩:=h.sync
 refine⟨⟨b,hs.fix,by omega⟩,?_,?_⟩
 ·unfold q9n;split<;>exact h.dom
 ·unfold q9n;split<;>exact h.num.mono (by omega)
theorem Stt.leave {k:Nat} {s:u0p} (h:Stt k s) (id:Int):Stt (k+1) ((leaveP s.1 id).1,s.2):=by
 obtain⟨b,hs,hb⟩:=h.sync
 unfold leaveP
 split
 ·exact⟨⟨b,hs,by omega⟩,h.dom,h.num.mono (by omega)⟩
 ·exact⟨⟨b,hs.leave id,by omega⟩,h.dom.leave id,h.num.mono (by omega)⟩
theorem Stt.begin {k:Nat} {s:u0p} (h:Stt k s):Stt (k+1) ((u37 s.1).1,s.2):=by
 obtain⟨b,hs,hb⟩:=h.sync
 refine⟨⟨b,hs.opens (q2x hs.eng) ?_ ?_ ?_,by omega⟩,h.dom.begin,h.num.begin⟩<;>(unfold u37;split<;>rfl)
theorem Stt.look {k:Nat} {s:u0p} (h:Stt k s) {id:Int} {r:t25} {right:Bool} (hr:right=true→u12 r=true) (hk:r.1∈K5∧r.2∈K5):Stt (k+1) ((u7x s.1 id r right).1,s.2):=by
 obtain⟨b,hs,hb⟩:=h.sync
 have e:(u7x s.1 id r right).1.1=s.1.1:=by
  unfold u7x
  split
  ·rfl
  ·split
   ·rfl
   ·split<;>rfl
 exact⟨⟨b,hs.opens (p7a hs.eng hr) (by rw[e]) (by rw[e]) (by rw[e]),by omega⟩,h.dom.look hk,h.num.look.mono (by omega)⟩
theorem Stt.put {k:Nat} {s:u0p} (h:Stt k s) {id:Int} {w:WrT} (hk:w.1∈K5):Stt (k+1) ((r6m s.1 id w).1,s.2):=by
 obtain⟨b,hs,hb⟩:=h.sync
 have e:(r6m s.1 id w).1.1=s.1.1:=by
  unfold r6m
  split
  ·rfl
  ·split
   ·rfl
   ·split<;>rfl
 exact⟨⟨b,hs.opens (o0s hs.eng) (by rw[e]) (by rw[e]) (by rw[e]),by omega⟩,h.dom.put hk,h.num.put.mono (by omega)⟩
end
section
def s9j (H:Hu u0f) (e' :u08) (t9s:Int) (t:u0f):Hu u0f:=
 if e'.1.2.2.2.1=IntKind.i64.wrap (t9s+1) then H++ [s4j e'.1.2.2.2.1 t] else H
theorem t22 {H:Hu u0f} {e' :u08} {c:Int} (t:u0f) (hc:p15 c) (h:e'.1.2.2.2.1=c):s9j H e' c t=H:=by
 unfold s9j
 rw[t5x hc,Ao (by omega)]
theorem r6q {H:Hu u0f} {e' :u08} {c:Int} (t:u0f) (hc:p15 c) (h:e'.1.2.2.2.1=c+1):s9j H e' c t=H++ [s4j (c+1) t] :=by
 unfold s9j
 rw[t5x hc,Al h,h]
theorem Ser.rest {H:Hu u0f} {e:u08} (h:Ser H e) (id:Int):Ser H (e.1,t2q e id):=
 h.opens (s59 h.eng h.eng.base (u3m e id) (Bv _) (Bv _) fun x hx y hy=>h.eng.apart x hx y ((u3m e id).subset hy))
  rfl rfl rfl (Bv _) fun o ho=> .inl ⟨o,(u3m e id).subset ho,rfl,rfl⟩
theorem Ser.leaveE {H:Hu u0f} {e:u08} (h:Ser H e) (id:Int):Ser H (Ab.leaveE e id):=(h.rest id).tidy
theorem Ser.leave {H:Hu u0f} {e:u08} (h:Ser H e) (id:Int):Ser H (leaveP e id).1:=by
 unfold leaveP
 split
 ·exact h
 ·exact h.leaveE id
theorem Ser.mid {H:Hu u0f} {e:u08} (h:Ser H e):p15 e.1.2.2.2.1:=by
 have:=h.eng.base.cs
 exact⟨by omega,by omega⟩
theorem Ser.begin {H:Hu u0f} {e:u08} (h:Ser H e) (hR:EngR (u37 e).1):Ser H (u37 e).1:=by
 unfold u37 at hR ⊢
 split
 ·rename_i c
  rw[Al c] at hR
  refine h.opens hR rfl rfl rfl (by show e.1.2.2.2.2≤e.1.2.2.2.2+1;omega) fun o ho=> ?_
  rcases Ay.mp ho with ho | ho
  ·exact .inl ⟨o,ho,rfl,rfl⟩
  ·rw[Ax.mp ho];exact .inr ⟨Bv _,rfl⟩
 ·exact h
theorem Ser.setO {H:Hu u0f} {e:u08} (h:Ser H e) {j:Nat} (hj:j<e.2.length) {t:u0f} (hR:EngR (r8z e j t)) (h1:t.1=e.2[j].1) (h2:t.2.2.1=e.2[j].2.2.1):Ser H (r8z e j t):=
 h.opens hR rfl rfl rfl (Bv _) fun o ho=>by
  rcases s69 ho with ho | rfl
  ·exact .inl ⟨o,ho,rfl,rfl⟩
  ·exact .inl ⟨e.2[j],Ag hj,h1.symm,h2.symm⟩
theorem Ser.commitS {H:Hu u0f} {s:u0p} (h:Ser H s.1) (id:Int) (t0:u0f):
 Ser (s9j H (u1l s id).1.1 s.1.1.2.2.2.1 (if u2g s.1.2 id<0 then t0 else u03 s.1 id)) (u1l s id).1.1:=by
 have hm:=h.mid
 unfold u1l u1s
 by_cases j1:t35 s.1 id=1
 ·rw[Al j1,Ao (show ¬((1:Int)=0) by decide)]
  show Ser (s9j H s.1 s.1.1.2.2.2.1 _) s.1
  rw[t22 _ hm rfl];exact h
 ·rw[Ao j1]
  by_cases j0:t35 s.1 id=0
  ·rw[Al j0,Al rfl]
   obtain⟨n,b1,b2,b3⟩:=t4o j0
   rw[Ao n]
   obtain⟨j,hj,e1,e2,e3⟩:=u0w n
   have ht:u03 s.1 id∈s.1.2:=by rw[e2];exact Ag hj
   split
   ·have hp:=q6s (fun x hx=>(h.eng.base.past x hx).2.1) (fun x hx=>(h.eng.base.ready x hx).2.1) b1 b2
    have hc:=(h.commit ht b3 hp).tidy
    show Ser (s9j H (t6e s.1 (u03 s.1 id)) s.1.1.2.2.2.1 _) (t6e s.1 (u03 s.1 id))
    rw[r6q (e' :=t6e s.1 (u03 s.1 id)) _ hm rfl]
    exact hc
   ·show Ser (s9j H (Ab.leaveE s.1 id) s.1.1.2.2.2.1 _) (Ab.leaveE s.1 id)
    rw[t22 (e' :=Ab.leaveE s.1 id) _ hm rfl];exact h.leaveE id
  ·rw[Ao j0,Ao j0]
   show Ser (s9j H (Ab.leaveE s.1 id) s.1.1.2.2.2.1 _) (Ab.leaveE s.1 id)
   rw[t22 (e' :=Ab.leaveE s.1 id) _ hm rfl];exact h.leaveE id
theorem Ser.prepS {H:Hu u0f} {s:u0p} (h:Ser H s.1) (id:Int) (n:Hs):Ser H (u7w s id n).1.1:=by
 unfold u7w u9a
 by_cases c1:u2g s.1.2 id<0
 ·rw[Al c1,Ao (show ¬((1:Int)=0) by decide)];exact h
 rw[Ao c1]
 cases hk:u38 n with
 | false=>rw[Al rfl,Ao (show ¬((2:Int)=0) by decide)];exact h
 | true=>
  rw[Ao (show ¬(true=false) by decide)]
  by_cases c2:0≤u0n s.1.1 n
  ·rw[Al c2,Ao (show ¬((6:Int)=0) by decide)];exact h
  rw[Ao c2]
  by_cases c3:t3i s.1 id=0
  ·rw[Al c3,Al rfl]
   obtain⟨j0,d0,l0⟩:=p3u c3
   obtain⟨_,b1,b2,b3⟩:=t4o j0
   obtain⟨j,hj,e1,e2,e3⟩:=u0w c1
   have ht:u03 s.1 id∈s.1.2:=by rw[e2];exact Ag hj
   split
   ·have hp:=q14 (fun x hx=>(h.eng.base.past x hx).2.1) (fun x hx=>(h.eng.base.ready x hx).2.1) b1 d0
    exact(h.ready ht hk l0 (p8m.mp (by omega)) hp).tidy
   ·exact h.leaveE id
  ·rw[Ao c3,Ao c3];exact h.leaveE id
theorem Ser.finS {H:Hu u0f} {s:u0p} (h:Ser H s.1) (n:Hs) (y:Bool) (t0:u0f):
 Ser (s9j H (t1l s n y).1.1 s.1.1.2.2.2.1 (if u0n s.1.1 n<0 then t0 else rdL u1f s.1.1.2.2.1 (u0n s.1.1 n).toNat)) (t1l s n y).1.1:=by
 have hm:=h.mid
 have same:∀t,Ser (s9j H s.1 s.1.1.2.2.2.1 t) s.1:=fun t=>by rw[t22 (e' :=s.1) _ hm rfl];exact h
 unfold t1l s4k
 by_cases c1:u0n s.1.1 n<0
 ·rw[Al c1,Ao (show ¬((1:Int)=0) by decide)];exact same _
 rw[Ao c1]
 by_cases c2:y=true∧t80 s.1.1=true
 ·rw[Al c2,Ao (show ¬((3:Int)=0) by decide)];exact same _
 rw[Ao c2]
 obtain⟨j,hj,e1,e2⟩:=u40 c1
 have e3:rdL u1f s.1.1.2.2.1 (u0n s.1.1 n).toNat=s.1.1.2.2.1[j] :=by rw[e1];exact y8l hj
 by_cases c3:y=true
 ·rw[Al c3,Al rfl]
  have hf:t80 s.1.1=false:=by
   cases q:t80 s.1.1 with
   | false=>rfl
   | true=>exact absurd ⟨c3,q⟩ c2
  split
  ·have hy:=(h.yes (t:=rdL u1f s.1.1.2.2.1 (u0n s.1.1 n).toNat) (by rw[e3];exact Ag hj) hf).tidy
   show Ser (s9j H (p6t s.1 (rdL u1f s.1.1.2.2.1 (u0n s.1.1 n).toNat)) s.1.1.2.2.2.1 _) (p6t s.1 (rdL u1f s.1.1.2.2.1 (u0n s.1.1 n).toNat))
   rw[Ao c1,r6q (e' :=p6t s.1 (rdL u1f s.1.1.2.2.1 (u0n s.1.1 n).toNat)) _ hm rfl]
   exact hy
  ·exact same _
 ·rw[Ao c3,Al rfl]
  split
  ·show Ser (s9j H (Ab.noE s.1 n) s.1.1.2.2.2.1 _) (Ab.noE s.1 n)
   rw[t22 (e' :=Ab.noE s.1 n) _ hm rfl];exact(h.no n).tidy
  ·exact same _
theorem q92 {t:u0f} {r:t25} :(t4f t r).1.1=t.1∧(t4f t r).1.2.2.1=t.2.2.1:=by
 unfold t4f
 split
 ·exact⟨rfl,rfl⟩
 ·split<;>exact⟨rfl,rfl⟩
theorem Ser.look {H:Hu u0f} {e:u08} (h:Ser H e) {id:Int} {r:t25} {right:Bool} (hR:EngR (u7x e id r right).1):Ser H (u7x e id r right).1:=by
 unfold u7x at hR ⊢
 by_cases c1:u2g e.2 id<0
 ·rw[Al c1];exact h
 rw[Ao c1] at hR ⊢
 by_cases c2:right=false
 ·rw[Al c2];exact h
 rw[Ao c2] at hR ⊢
 by_cases c3:(t4f (u03 e id) r).2=true
 ·rw[Al c3] at hR ⊢
  obtain⟨j,hj,e1,e2,e3⟩:=u0w c1
  have e4:(u2g e.2 id).toNat=j:=by omega
  simp only[e4] at hR ⊢
  exact h.setO hj hR (by rw[q92.1,e2]) (by rw[q92.2,e2])
 ·rw[Ao c3];exact h
theorem Ser.put {H:Hu u0f} {e:u08} (h:Ser H e) {id:Int} {w:WrT} (hR:EngR (r6m e id w).1):Ser H (r6m e id w).1:=by
 unfold r6m at hR ⊢
 by_cases c1:u2g e.2 id<0
 ·rw[Al c1];exact h
 rw[Ao c1] at hR ⊢
 by_cases c2:u2i w=false
 ·rw[Al c2];exact h
 rw[Ao c2] at hR ⊢
 by_cases c3:(t4i (u03 e id) w).2=true
 ·rw[Al c3] at hR ⊢
  obtain⟨j,hj,e1,e2,e3⟩:=u0w c1
  have e4:(u2g e.2 id).toNat=j:=by omega
  simp only[e4] at hR ⊢
  have hw:(t4i (u03 e id) w).1.1=(u03 e id).1∧(t4i (u03 e id) w).1.2.2.1=(u03 e id).2.2.1:=by
   unfold t4i;split<;>exact⟨rfl,rfl⟩
  exact h.setO hj hR (by rw[hw.1,e2]) (by rw[hw.2,e2])
 ·rw[Ao c3];exact h
end
section
def HB (H:Hu u0f) (s:u0p):Prop:= ∃b,Sync s b∧ ∀x∈H,x.1<b.2.2.2.2
theorem q8d (n i:Int):n≤u01 n i∧i<u01 n i:=by
 unfold u01;split<;>omega
theorem p4a {H:Hu u0f} {e' :u08} {c:Int} {t x:u0f} (h:x∈s9j H e' c t):x∈H∨x.1=t.1:=by
 unfold s9j at h
 split at h
 ·rcases Ay.mp h with h | h
  ·exact .inl h
  ·rw[Ax.mp h];exact .inr rfl
 ·exact .inl h
theorem HB.commit {H:Hu u0f} {s:u0p} (h:HB H s) (hS:Ser H s.1) (id:Int) (t0:u0f):
 HB (s9j H (u1l s id).1.1 s.1.1.2.2.2.1 (if u2g s.1.2 id<0 then t0 else u03 s.1 id)) (u1l s id).1:=by
 obtain⟨b,hs,hb⟩:=h
 obtain⟨b',hs',hd⟩:=hs.commit id
 refine⟨b',hs',?_⟩
 rcases hd with rfl | ⟨c0,j0,hp⟩
 ·rw[t22 _ hS.mid (by rw[←hs'.like.cs,hs.like.cs])];exact hb
 ·obtain⟨y,hy,rfl⟩:=t2x hp
  unfold u1k at hy
  rw[Al rfl] at hy
  split at hy
  ·cases hy
   intro x hx
   rw[Ao (t4o j0).1] at hx
   have hn:=q8d b.2.2.2.2 (u03 s.1 id).1
   show x.1<u01 b.2.2.2.2 (u03 s.1 id).1
   rcases p4a hx with hx | hx
   ·have:=hb x hx;omega
   ·omega
  ·cases hy
theorem HB.prep {H:Hu u0f} {s:u0p} (h:HB H s) (id:Int) (n:Hs):HB H (u7w s id n).1:=by
 obtain⟨b,hs,hb⟩:=h
 obtain⟨b',hs',hd⟩:=hs.prep id n
 refine⟨b',hs',?_⟩
 rcases hd with rfl | ⟨c0,j0,hp⟩
 ·exact hb
 ·obtain⟨y,hy,rfl⟩:=t2x hp
  unfold u1k at hy
  rw[Ao (show ¬((2:Int)=1) by decide),Al rfl] at hy
  split at hy
  ·cases hy
   intro x hx
   have hn:=q8d b.2.2.2.2 (u2b s.1.1 (u03 s.1 id) n).1
   show x.1<u01 b.2.2.2.2 (u2b s.1.1 (u03 s.1 id) n).1
   have:=hb x hx
   omega
  ·cases hy
theorem HB.fin {H:Hu u0f} {s:u0p} (h:HB H s) (hS:Ser H s.1) (n:Hs) (yes:Bool) (t0:u0f):
 HB (s9j H (t1l s n yes).1.1 s.1.1.2.2.2.1 (if u0n s.1.1 n<0 then t0 else rdL u1f s.1.1.2.2.1 (u0n s.1.1 n).toNat)) (t1l s n yes).1:=by
 obtain⟨b,hs,hb⟩:=h
 obtain⟨b',hs',hd⟩:=hs.fin n yes
 refine⟨b',hs',?_⟩
 have e0:u0n b n=u0n s.1.1 n:=t8a hs.like.ready n
 rcases hd with rfl | ⟨c0,j0,hp⟩
 ·rw[t22 _ hS.mid (by rw[←hs'.like.cs,hs.like.cs])];exact hb
 ·have hcs:=hs'.like.cs
  obtain⟨y,hy,rfl⟩:=t2x hp
  unfold u1k at hy
  rw[Ao (show ¬((3:Int)=1) by decide),Ao (show ¬((3:Int)=2) by decide),Al rfl] at hy
  have hy:(if u0n b n<0 then none else if yes=true then some (u04 b (rdL u1f b.2.2.1 (u0n b n).toNat)) else some (u50 b n))=some y:=hy
  split at hy
  ·cases hy
  ·rename_i c1
   split at hy
   ·cases hy
    intro x hx
    rw[e0,hs.like.ready] at*
    rw[Ao c1] at hx
    have hn:=q8d b.2.2.2.2 (rdL u1f s.1.1.2.2.1 (u0n s.1.1 n).toNat).1
    show x.1<u01 b.2.2.2.2 (rdL u1f s.1.1.2.2.1 (u0n s.1.1 n).toNat).1
    rcases p4a hx with hx | hx
    ·have:=hb x hx;omega
    ·omega
   ·cases hy
    have hc:(u50 b n).2.2.2.1=(t1l s n yes).1.1.1.2.2.2.1:=hcs
    rw[t22 _ hS.mid (by rw[←hc];exact hs.like.cs)]
    exact hb
theorem HB.rise {H:Hu u0f} {s:u0p} {b:u0k} (hS:Ser H s.1) (hs:Sync s b) (hb:∀x∈H,x.1<b.2.2.2.2):Ser H (b, []):=
 hS.fall hs.right hs.like.past hs.like.ready hs.like.cs hb
end
section
theorem p76 (v:Nat):(bif decide ((v:Int)<97) then some true else some (decide ((v:Int) >122)))=some (!(decide (97≤v)&&decide (v≤122))):=by
 have e1:decide ((v:Int)<97)= !decide (97≤v):=by by_cases h:97≤v<;>simp[h] <;>omega
 have e2:decide ((v:Int) >122)= !decide (v≤122):=by by_cases h:v≤122<;>simp[h] <;>omega
 rw[e1,e2]
 cases decide (97≤v)<;>cases decide (v≤122)<;>rfl
theorem t9z (a b c:Int):u0r (a,b,c)=some (inB a b c):=t3h a b c
theorem s12 {X R:Type} (W:X→Ht R) (n:Nat) (mk:Int→X) (ok:Nat→Bool) (yes no:R) (hend:W (mk (n:Int))=some yes)
 (hstep:∀(i:Nat),i<n→W (mk (i:Int))=bif ok i then W (mk ((i+1:Nat):Int)) else some no):W (mk 0)=some (bif (List.range n).all ok then yes else no):=by
 have key:∀d i:Nat,i+d=n→W (mk (i:Int))=some (bif (List.range d).all (fun j=>ok (i+j)) then yes else no):=by
  intro d
  induction d with
  | zero=>intro i hi;have:i=n:=by omega
          subst this;simpa using hend
  | succ d ih=>
   intro i hi
   rw[hstep i (by omega),ih (i+1) (by omega),List.range_succ_eq_map,Gc,List.all_map,Df]
   have e:((fun j=>ok (i+j)) ∘Nat.succ)=fun j=>ok (i+1+j):=by funext j;simp only[Function.comp];congr 1;omega
   rw[e]
   cases ok i<;>rfl
 have:=key n 0 (by omega)
 simpa using this
theorem s5h {t:Ty} (l:Hu t.den) (f:t.den→Bool):((List.range l.length).all fun i=>f (rdL t l i))=l.all f:=by
 rw[Cd,Bg,Bg]
 constructor
 ·intro h x hx
  obtain⟨i,hi,rfl⟩:=B7 hx
  have:=h i (Bq.mpr hi)
  rwa [y8l hi] at this
 ·intro h i hi
  rw[y8l (Bq.mp hi)]
  exact h _ (Ag _)
theorem p2u {α:Type} (l:Hu α) (f g:α→Bool):(l.all fun i=>f i&&g i)=(l.all f&&l.all g):=by
 induction l with
 | nil=>rfl
 | cons x l ih=>simp only[Gc,ih];cases f x<;>cases g x<;>simp
theorem r67 {t:Ty} (l:Hu t.den) (f:t.den→Bool) (lt:t.den→t.den→Bool):
 ((List.range l.length).all fun i=>f (rdL t l i)&&(decide (i=0) || lt (rdL t l (i - 1)) (rdL t l i)))=(l.all f&&q7p t lt l):=by
 rw[p2u (List.range l.length) (fun i=>f (rdL t l i)) (fun i=>decide (i=0) || lt (rdL t l (i - 1)) (rdL t l i)),s5h]
 rfl
theorem r2n (i:Nat):decide ((i:Int) >0)= !decide (i=0):=by by_cases h:i=0<;>simp[h] <;>omega
theorem s6y {i:Nat} (h:i<4611686018427387904) (h0:i≠0):IntKind.i64.wrap ((i:Int) - (1:Int))=((i - 1:Nat):Int):=by
 rw[y4u (by omega) (by omega)];omega
theorem p3e (s:Hs) {i:Nat} (h:i<s.size):s.data.toList.getD i 0=s.data.toList[i]'h:=by
 rw[A5,A4 h];rfl
theorem t1a (s:Hs) (hs:s.size≤u0y):u3p s=some (u38 s):=by
 have hb:u0y=1099511627776:=rfl
 have L:=s12 t3c s.size (fun i=>(s,i)) (fun i=>(fun b:UInt8=>decide (97≤b.toNat)&&decide (b.toNat≤122)) (s.data.toList.getD i 0)) (.inl s) (.inr false)
  (by rw[s9k];simp only[t26,u0b,Am,Ah,Aa])
  (fun i hi=>by
   rw[s9k];simp only[t26,u0b,hi,Ae,Ad,y7s hi,zTn,y7j (show i<4611686018427387904 by omega)]
   rw[p76];simp only[zOb]
   cases (decide (97≤(s.data.toList.getD i 0).toNat)&&decide ((s.data.toList.getD i 0).toNat≤122))<;>rfl)
 have hA:((List.range s.size).all fun i=>(fun b:UInt8=>decide (97≤b.toNat)&&decide (b.toNat≤122)) (s.data.toList.getD i 0))=s.data.toList.all (fun b=>decide (97≤b.toNat)&&decide (b.toNat≤122)):=by
  rw[Cd,Bg,Bg]
  constructor
  ·intro h x hx
   obtain⟨i,hi,rfl⟩:=B7 hx
   have:=h i (Bq.mpr hi)
   rwa [p3e s hi] at this
  ·intro h i hi
   rw[p3e s (Bq.mp hi)]
   exact h _ (Ag _)
 rw[hA] at L
 rw[q5x];unfold r4l
 simp only[L,zOb]
 unfold u38
 cases s.data.toList.all (fun b=>decide (97≤b.toNat)&&decide (b.toNat≤122))
 ·rfl
 ·simp only[Ad,t9z,zOb,Bz]
  unfold inB
  congr 1
  have e1:decide ((1:Int)≤(s.size:Int))=decide (1≤s.size):=by simp;omega
  have e2:decide ((s.size:Int)≤3)=decide (s.size≤3):=by simp;omega
  rw[e1,e2]
theorem s4n (r:t25) (h1:r.1.size≤u0y) (h2:r.2.size≤u0y):u9r r=some (u12 r):=by
 rw[r95];unfold s76 u12
 simp only[t1a _ h1,t1a _ h2,zOb]
 cases u38 r.1<;>cases u38 r.2<;>rfl
theorem s1c (s:Hs):z7l s (⟨#[]⟩:Hs)=decide (s.size=0):=by
 rw[Cd,y7d,Ar]
 constructor
 ·intro h;subst h;rfl
 ·intro h;exact Gf (Fi h)
theorem o59 (s:Hs):decide ((s.size:Int)≤12)=decide (s.size≤12):=by simp;omega
theorem s4q (w:WrT) (h1:w.1.size≤u0y):u9s w=some (u2i w):=by
 rw[q0e];unfold s8f u2i
 simp only[t1a _ h1,zOb,s1c,o59]
 cases u38 w.1<;>cases decide (w.2.1.size≤12)<;>cases w.2.2<;>rfl
theorem p1y {l:Hu WrT} {w:WrT} (h:w∈l):w.1.size≤(Ty.sl u2u).wt l∧w.2.1.size≤(Ty.sl u2u).wt l:=by
 have h1:(Ty.sl u2u).wt l=l.length+(l.map u2u.wt).sum:=rfl
 have h2:=q2l (f:=u2u.wt) h
 have h3:u2u.wt w=w.1.size+(w.2.1.size+0):=rfl
 omega
theorem p1e {l:Hu t25} {w:t25} (h:w∈l):w.1.size≤(Ty.sl t44).wt l∧w.2.size≤(Ty.sl t44).wt l:=by
 have h1:(Ty.sl t44).wt l=l.length+(l.map t44.wt).sum:=rfl
 have h2:=q2l (f:=t44.wt) h
 have h3:t44.wt w=w.1.size+w.2.size:=rfl
 omega
theorem r2s {t:Ty} (l:Hu t.den):l.length≤(Ty.sl t).wt l:=by
 have h1:(Ty.sl t).wt l=l.length+(l.map t.wt).sum:=rfl
 omega
theorem le8 (n:Nat):decide ((n:Int)≤8)=decide (n≤8):=by simp;omega
theorem gt8 (n:Nat):decide ((n:Int) >8)= !decide (n≤8):=by by_cases h:n≤8<;>simp[h] <;>omega
theorem r0i (l:Hu WrT) (hl:(Ty.sl u2u).wt l≤u0y):t2d l=some (u26 l):=by
 have hb:u0y=1099511627776:=rfl
 have hn:=r2s (t:=u2u) l
 have L:=s12 u89 l.length (fun i=>(l,i)) (fun i=>u2i (rdL u2u l i)&&(decide (i=0) || (fun a b:WrT=>y2y a.1 b.1) (rdL u2u l (i - 1)) (rdL u2u l i))) (.inl l) (.inr false)
  (by rw[s00];simp only[u82,u0b,Am,Ah,Aa])
  (fun i hi=>by
   have hm:rdL u2u l i∈l:=by rw[y8l hi];exact Ag hi
   rw[s00];simp only[u82,u0b,hi,Ae,Ad,y7s hi,zTn,y7j (show i<4611686018427387904 by omega),s4q _ (A9 (p1y hm).1 hl),zOb,r2n]
   by_cases h0:i=0
   ·subst h0;simp only[Ae,Ap,Aa,Dx,Cz]
    cases u2i (rdL u2u l 0)<;>rfl
   ·simp only[h0,Ah,Bh,Ad,Ci,s6y (show i<4611686018427387904 by omega) h0,y7s (show i - 1<l.length by omega),zTn]
    cases u2i (rdL u2u l i)
    ·rfl
    ·simp only[Ap,Aa,zOb,Bz]
     cases y2y (rdL u2u l (i - 1)).1 (rdL u2u l i).1<;>rfl)
 rw[r67 (t:=u2u) l u2i (fun a b=>y2y a.1 b.1)] at L
 rw[r7w];unfold s47
 simp only[L,zOb]
 unfold u26
 cases l.all u2i
 ·rfl
 ·cases q7p u2u (fun a b=>y2y a.1 b.1) l
  ·rfl
  ·simp only[Bz,Ad]
   rw[le8]
theorem p7h (t:u0f):u1f.wt t=0+(0+(0+(0+((Ty.sl t44).wt t.2.2.2.2.1+((Ty.sl u2u).wt t.2.2.2.2.2.1+(0+t.2.2.2.2.2.2.2.size)))))):=rfl
theorem t1d (t:u0f) (ht:u1f.wt t≤u0y):u3r t=some (t23 t):=by
 have hb:u0y=1099511627776:=rfl
 have hw:=p7h t
 have hn:=r2s (t:=t44) t.2.2.2.2.1
 have L:=s12 t3f t.2.2.2.2.1.length (fun i=>(t,i)) (fun i=>u12 (rdL t44 t.2.2.2.2.1 i)) (.inl t) (.inr false)
  (by rw[s9o];simp only[t3a,u0b,Am,Ah,Aa])
  (fun i hi=>by
   have hm:rdL t44 t.2.2.2.2.1 i∈t.2.2.2.2.1:=by rw[y8l hi];exact Ag hi
   have hz:=p1e hm
   rw[s9o];simp only[t3a,u0b,hi,Ae,Ad,y7s hi,zTn,y7j (show i<4611686018427387904 by omega),s4n (rdL t44 t.2.2.2.2.1 i) (A9 hz.1 (by omega)) (A9 hz.2 (by omega)),zOb]
   cases u12 (rdL t44 t.2.2.2.2.1 i)<;>rfl)
 rw[s5h (t:=t44) t.2.2.2.2.1 u12] at L
 rw[q52];unfold r4q
 have k1:=r0i t.2.2.2.2.2.1 (by omega)
 have k2:=t1a t.2.2.2.2.2.2.2 (by omega)
 simp only[L,t9z,k1,k2,zOb,s1c,gt8]
 unfold t23
 cases t.2.2.2.2.1.all u12
 ·cases inB t.1 1 9999<;>cases inB t.2.1 1 3<;>cases inB t.2.2.1 0 9999<;>cases decide (t.2.2.2.2.1.length≤8)<;>cases u26 t.2.2.2.2.2.1<;>simp
 ·simp only[Ad,Bz,t9z,k2,zOb,s1c]
  cases h3:inB t.2.2.1 0 9999
  ·cases inB t.1 1 9999<;>cases inB t.2.1 1 3<;>simp
  ·have h3' :=r3v.mp h3
   rw[y4u (n:=t.2.2.1+1) (by omega) (by omega)]
   cases inB t.1 1 9999<;>cases inB t.2.1 1 3<;>cases decide (t.2.2.2.2.1.length≤8)<;>cases u26 t.2.2.2.2.2.1<;>try rfl
   generalize decide (t.2.2.2.2.2.2.2.size=0)=b4
   generalize inB t.2.2.2.1 (t.2.2.1+1) 9999=b1
   generalize u38 t.2.2.2.2.2.2.2=b2
   by_cases e3:t.2.1=3
   ·cases t.2.2.2.2.2.2.1<;>cases b1<;>cases b4<;>simp[e3]
   ·by_cases e2:t.2.1=2
    ·cases t.2.2.2.2.2.2.1<;>cases b2<;>by_cases e5:t.2.2.2.1=0<;>simp[e2,e5]
    ·by_cases e1:t.2.1=1<;>cases t.2.2.2.2.2.2.1<;>cases b4<;>by_cases e5:t.2.2.2.1=0<;>simp[e1,e2,e3,e5]
end
section
theorem p6d (l:Hu Int):(y7e l).size=l.length:=by
 simp[y7e,ByteArray.size]
theorem q7t (n:Nat) (b:Int) (hn:n≤1000000):∃t,u3t ((n:Int),b)=some t∧t.size=n:=by
 have key:∀(r i:Nat) (a:Hu Int),a.length=n→i+r=n→ ∃a' :Hu Int,u28 ((n:Int),b,a,(i:Int))=some (.inl a')∧a'.length=n:=by
  intro r
  induction r with
  | zero=>
   intro i a ha hi
   have:i=n:=by omega
   subst this
   rw[t02]
   simp only[u6c,u0b,Am,Ah,Aa]
   exact⟨a,rfl,ha⟩
  | succ r ih=>
   intro i a ha hi
   have hlt:i<n:=by omega
   rw[t02]
   simp only[u6c,u0b,hlt,Ae,Ad,y7s (show i<a.length by omega)]
   rw[y7j (by omega)]
   exact ih (i+1) _ (by simp[ha]) (by omega)
 obtain⟨a',e1,h1⟩:=key n 0 (List.replicate n (Ty.int .u8).zero) (by simp) (by omega)
 have e1:u28 ((n:Int),b,List.replicate n (Ty.int .u8).zero,0)=_:=e1
 have hc:(decide (0≤(n:Int))&&decide ((n:Int)≤1099511627776))=true:=by simp;omega
 rw[s85];unfold t8v
 rw[hc,Ad]
 simp only[zTn,e1,zOb]
 exact⟨_,rfl,by rw[p6d];exact h1⟩
def o1z (w:u2u.den):Prop:=w.1.size≤4∧w.2.1.size≤13
theorem p9o {s:Src} (h:s.ok):Dr (s1n s) o1z:=by
 rw[q3t];unfold r09
 obtain⟨w,s1,e1,k1,r1⟩:=q9b h
 obtain⟨y2,s2,e2,k2,r2⟩:=u1e k1 (n:=8) (by omega)
 simp only[e1,e2,zOb]
 by_cases c0:y2=0
 ·obtain⟨y3,s3,e3,k3,r3⟩:=t52 k2 (l:= [(⟨#[]⟩:Hs),(⟨#[65]⟩:Hs),(⟨#[97,98,99,100]⟩:Hs),(⟨#[97,98,99]⟩:Hs)]) (by decide)
  simp only[c0,Ae,Ad,e3,zOb]
  have hz:y3.size≤4:=by
   simp only[A8,Ep,Em] at r3
   rcases r3 with rfl | rfl | rfl | rfl<;>decide
  exact⟨_,_,rfl,k3,hz,by show w.2.1.size≤13;omega⟩
 ·simp only[c0,Ah,Aa]
  by_cases c1:y2=1
  ·obtain⟨y4,s4,e4,k4,r4⟩:=u1e k2 (n:=2) (by omega)
   have hw:IntKind.i64.wrap (12+y4)=(((12+y4).toNat:Nat):Int):=by rw[y4u (by omega) (by omega)];omega
   obtain⟨t,e5,h5⟩:=q7t (12+y4).toNat 97 (by omega)
   simp only[c1,Ae,Ad,e4,zOb,hw,e5]
   exact⟨_,_,rfl,k4,by show w.1.size≤4;omega,by show t.size≤13;omega⟩
  ·simp only[c1,Ah,Aa]
   by_cases c2:y2=2
   ·simp only[c2,Ae,Ad]
    exact⟨_,_,rfl,k2,by show w.1.size≤4;omega,by show w.2.1.size≤13;omega⟩
   ·simp only[c2,Ah,Aa]
    exact⟨_,_,rfl,k2,by show w.1.size≤4;omega,by show w.2.1.size≤13;omega⟩
def midTx (n:Nat) (t:u1f.den):Prop:=t.2.2.2.2.1.length≤n∧(∀r∈t.2.2.2.2.1,r.1.size≤2∧r.2.size≤2)∧t.2.2.2.2.2.1.length≤n∧(∀r∈t.2.2.2.2.2.1,o1z r)∧t.2.2.2.2.2.2.2.size≤16
theorem p9z {s:Src} (h:s.ok):Dr (s1p s) (midTx 3):=by
 rw[q3x];unfold r1d
 obtain⟨y1,s1,e1,k1,r1⟩:=u1e h (n:=6) (by omega)
 obtain⟨y2,s2,e2,k2,r2⟩:=u1e k1 (n:=3) (by omega)
 obtain⟨y3,s3,e3,k3,r3⟩:=u1e k2 (n:=6) (by omega)
 obtain⟨y4,s4,e4,k4,r4⟩:=p2m k3
 obtain⟨y5,s5,e5,k5,r5⟩:=p2t k4
 have hw:∀r∈y5,o1z r:=fun r hr=>by have:=r5.2.1 r hr;exact⟨by omega,by omega⟩
 simp only[e1,e2,e3,e4,e5,zOb]
 cases decide (IntKind.i64.wrap (1+y2)=2) with
 | true=>
  obtain⟨y6,s6,e6,k6,r6⟩:=q83 k5
  obtain⟨y7,s7,e7,k7,r7⟩:=t8s k6 (n:=2) (by omega)
  simp only[Ad,e6,e7,zOb]
  exact⟨_,_,rfl,k7,r4.1,r4.2,r5.1,hw,by show y6.size≤16;omega⟩
 | false=>
  simp only[Aa]
  cases decide (IntKind.i64.wrap (1+y2)=3) with
  | true=>
   obtain⟨y8,s8,e8,k8,r8⟩:=u1e k5 (n:=4) (by omega)
   obtain⟨y9,s9,e9,k9,r9⟩:=t8s k8 (n:=2) (by omega)
   simp only[Ad,e8,e9,zOb]
   exact⟨_,_,rfl,k9,r4.1,r4.2,r5.1,hw,by show ByteArray.size ⟨#[]⟩≤16;decide⟩
  | false=>
   exact⟨_,_,rfl,k5,r4.1,r4.2,r5.1,hw,by show ByteArray.size ⟨#[]⟩≤16;decide⟩
theorem p7v (t:u1f.den) (h1:t.2.2.2.2.1.length≤1000000) (h2:t.2.2.2.2.2.1.length≤1000000):u0t t=some t:=by
 rw[t8z];unfold t3g
 simp only[Cc,Co,Cf,u07 (show t.2.2.2.2.1.length≤1099511627776 by omega),u07 (show t.2.2.2.2.2.1.length≤1099511627776 by omega),Ad]
theorem p3a {y:Int} (h:0≤y):y4l (Int.tmod y 3) 3=true:=by
 have:=s7a h (n:=3) (by omega)
 exact y7r.mpr ⟨this.1,by simpa using this.2⟩
theorem q2s {s:Src} (h:s.ok):Dr (t2h s) (midTx 4):=by
 rw[q3v];unfold r1b
 obtain⟨y1,s1,e1,k1,r1⟩:=u1e h (n:=12) (by omega)
 obtain⟨y2,s2,e2,k2,r2⟩:=u1e k1 (n:=60) (by omega)
 obtain⟨t,s3,e3,k3,m1,m2,m3,m4,m5⟩:=p9z k2
 have hc:=p7v t (by omega) (by omega)
 have hi:=p3a r2.1
 simp only[e1,e2,e3,hc,zOb,Bc,Cc,Co,Nat.reduceAdd,hi,Ad]
 have base:midTx 4 t:=⟨by omega,m2,by omega,m4,m5⟩
 obtain⟨b1,b2,b3,b4,b5⟩:=base
 cases decide (y1=0) with
 | true=>exact⟨_,_,rfl,k3,b1,b2,b3,b4,b5⟩
 | false=>
  simp only[Aa]
  cases decide (y1=1) with
  | true=>exact⟨_,_,rfl,k3,b1,b2,b3,b4,b5⟩
  | false=>
   simp only[Aa]
   cases decide (y1=2) with
   | true=>exact⟨_,_,rfl,k3,b1,b2,b3,b4,b5⟩
   | false=>
    simp only[Aa]
    cases decide (y1=3) with
    | true=>
     refine⟨_,_,rfl,k3,b1,b2,b3,b4,?_⟩
     show(rdL Ty.str _ _).size≤16
     have hr:=s7a r2.1 (n:=3) (by omega)
     have:(Int.tmod y2 3).toNat=0∨(Int.tmod y2 3).toNat=1∨(Int.tmod y2 3).toNat=2:=by omega
     rcases this with q | q | q<;>rw[q] <;>decide
    | false=>
     simp only[Aa]
     cases decide (y1=4) with
     | true=>
      simp only[Ad,u07 (show t.2.2.2.2.1.length+1≤1099511627776 by omega)]
      refine⟨_,_,rfl,k3,by show(t.2.2.2.2.1++ [_]).length≤4;simp;omega,?_,b3,b4,b5⟩
      intro r hr
      rcases Ay.mp hr with q | q
      ·exact b2 r q
      ·simp only[Ax] at q
       subst q
       exact⟨by decide,by decide⟩
     | false=>
      simp only[Aa]
      cases decide (y1=5) with
      | true=>
       obtain⟨w,s4,e4,k4,r4⟩:=p9o k3
       simp only[Ad,e4,zOb,u07 (show t.2.2.2.2.2.1.length+1≤1099511627776 by omega)]
       refine⟨_,_,rfl,k4,b1,b2,by show(t.2.2.2.2.2.1++ [_]).length≤4;simp;omega,?_,b5⟩
       intro r hr
       rcases Ay.mp hr with q | q
       ·exact b4 r q
       ·simp only[Ax] at q
        subst q
        exact r4
      | false=>
       simp only[Aa]
       cases decide (y1=6) with
       | true=>exact⟨_,_,rfl,k3,b1,b2,b3,b4,b5⟩
       | false=>exact⟨_,_,rfl,k3,b1,b2,b3,b4,b5⟩
end
section
theorem p6p {l:Hu u1m} {w:u1m} (h:w∈l):w.1.size≤(Ty.sl u0g).wt l∧w.2.1.size≤(Ty.sl u0g).wt l:=by
 have h1:(Ty.sl u0g).wt l=l.length+(l.map u0g.wt).sum:=rfl
 have h2:=q2l (f:=u0g.wt) h
 have h3:u0g.wt w=w.1.size+(w.2.1.size+(0+0)):=rfl
 omega
theorem o5i (n:Nat):decide ((n:Int) >12)= !decide (n≤12):=by by_cases h:n≤12<;>simp[h] <;>omega
theorem o27 (n:Nat):decide ((n:Int)≤120)=decide (n≤120):=by simp;omega
theorem q6b (a b:Int):decide (a≥b)= !decide (a<b):=by
 by_cases h:a<b
 ·have: ¬a≥b:=by omega
  simp[h,this]
 ·have:a≥b:=by omega
  simp[h,this]
theorem q9p (a b:Int):decide (a >b)= !decide (a≤b):=by
 by_cases h:a≤b
 ·have: ¬a >b:=by omega
  simp[h,this]
 ·have:a >b:=by omega
  simp[h,this]
theorem r63 (l:Hu u1m) (hl:(Ty.sl u0g).wt l≤u0y):t21 l=some (u4h l):=by
 have hb:u0y=1099511627776:=rfl
 have hn:=r2s (t:=u0g) l
 have L:=s12 u5x l.length (fun i=>(l,i)) (fun i=>s7k (rdL u0g l i)&&(decide (i=0) || r5d (rdL u0g l (i - 1)) (rdL u0g l i))) (.inl l) (.inr false)
  (by rw[t68];simp only[u5t,u0b,Am,Ah,Aa])
  (fun i hi=>by
   have hm:rdL u0g l i∈l:=by rw[y8l hi];exact Ag hi
   rw[t68];simp only[u5t,u0b,hi,Ae,Ad,y7s hi,zTn,y7j (show i<4611686018427387904 by omega),t1a _ (A9 (p6p hm).1 hl),t9z,zOb,r2n,s1c,o5i]
   unfold s7k r5d
   generalize u38 (rdL u0g l i).1=b1
   generalize decide ((rdL u0g l i).2.1.size≤12)=b2
   generalize decide ((rdL u0g l i).2.1.size=0)=b3
   generalize (rdL u0g l i).2.2.1=b4
   generalize inB (rdL u0g l i).2.2.2 1 9999=b5
   by_cases h0:i=0
   ·subst h0;simp only[Ae,Ap,Aa,Dx,Cz]
    cases b1<;>cases b2<;>cases b3<;>cases b4<;>cases b5<;>rfl
   ·simp only[h0,Ah,Bh,Ad,Ci,s6y (show i<4611686018427387904 by omega) h0,y7s (show i - 1<l.length by omega),zTn,zOb]
    rcases r0a (rdL u0g l (i - 1)).1 (rdL u0g l i).1 with h | h | h
    ·have e2:z7l (rdL u0g l (i - 1)).1 (rdL u0g l i).1=false:=q8p.mpr (fun e=>by rw[e,u58] at h;cases h)
     rw[h,e2]
     cases b1<;>cases b2<;>cases b3<;>cases b4<;>cases b5<;>rfl
    ·rw[h,u58,y6j]
     rw[q6b]
     cases decide ((rdL u0g l (i - 1)).2.2.2<(rdL u0g l i).2.2.2)<;>cases b1<;>cases b2<;>cases b3<;>cases b4<;>cases b5<;>rfl
    ·have e1:=s1u h
     have e2:z7l (rdL u0g l (i - 1)).1 (rdL u0g l i).1=false:=q8p.mpr (fun e=>by rw[e,u58] at h;cases h)
     rw[e1,e2]
     cases b1<;>cases b2<;>cases b3<;>cases b4<;>cases b5<;>rfl)
 rw[r67 (t:=u0g) l s7k r5d] at L
 rw[r3o];unfold t9m
 simp only[L,zOb]
 unfold u4h
 cases l.all s7k
 ·rfl
 ·cases q7p u0g r5d l
  ·rfl
  ·simp only[Bz,Ad]
   rw[o27]
end
section
theorem r7b (b:u0k):p92.wt b=(Ty.sl u0g).wt b.1+((Ty.sl u1f).wt b.2.1+((Ty.sl u1f).wt b.2.2.1+(0+0))):=rfl
theorem q4q {l:Hu u0f} {t:u0f} (h:t∈l):u1f.wt t≤(Ty.sl u1f).wt l:=by
 have h1:(Ty.sl u1f).wt l=l.length+(l.map u1f.wt).sum:=rfl
 have h2:=q2l (f:=u1f.wt) h
 omega
theorem gt3 (n:Nat):decide ((n:Int) >3)= !decide (n≤3):=by by_cases h:n≤3<;>simp[h] <;>omega
theorem gt4 (n:Nat):decide ((n:Int) >4)= !decide (n≤4):=by by_cases h:n≤4<;>simp[h] <;>omega
theorem p04 (l:Hu Int) (n:Int):((List.range l.length).all fun i=>((List.range i).all fun j=> !decide (rdL (Ty.int .i64) l j=rdL (Ty.int .i64) l i))&&decide (rdL (Ty.int .i64) l i<n))=q03 l n:=by
 rw[Cd,Bg,r2e]
 constructor
 ·intro h
  constructor
  ·intro x hx
   obtain⟨i,hi,rfl⟩:=B7 hx
   have:=h i (Bq.mpr hi)
   rw[Ai,Ar,y8l (t:=Ty.int .i64) hi] at this
   exact this.2
  ·rw[D8,Cp]
   intro i j hi hj hij e
   have:=h j (Bq.mpr hj)
   rw[Ai,Bg] at this
   have:=this.1 i (Bq.mpr hij)
   rw[y8l (t:=Ty.int .i64) hi,y8l (t:=Ty.int .i64) hj,Bj,Bu] at this
   exact this e
 ·rintro⟨h1,h2⟩ i hi
  have hi:=Bq.mp hi
  rw[Ai,Ar,y8l (t:=Ty.int .i64) hi,Bg]
  refine⟨fun j hj=> ?_,h1 _ (Ag hi)⟩
  have hj:=Bq.mp hj
  rw[D8,Cp] at h2
  rw[y8l (t:=Ty.int .i64) (show j<l.length by omega),Bj,Bu]
  exact h2 j i (by omega) hi hj
theorem q44 (b:u0k) (l:Hu Int) (hl:l.length≤1099511627776):u4a (b,l,0)=some (bif q03 l b.2.2.2.2 then .inl () else .inr false):=by
 have inner:∀i:Nat,i<l.length→u6f (b,l,(i:Int),0)=some (bif (List.range i).all (fun j=> !decide (rdL (Ty.int .i64) l j=rdL (Ty.int .i64) l i)) then .inl (b,l,(i:Int)) else .inr false):=by
  intro i hi
  exact s12 u6f i (fun j=>(b,l,(i:Int),j)) (fun j=> !decide (rdL (Ty.int .i64) l j=rdL (Ty.int .i64) l i)) (.inl (b,l,(i:Int))) (.inr false)
   (by rw[s3v];simp only[u92,u0b,Am,Ah,Aa])
   (fun j hj=>by
    rw[s3v];simp only[u92,u0b,hj,Ae,Ad,y7s hi,y7s (show j<l.length by omega),zTn,y7j (show j<4611686018427387904 by omega)]
    by_cases e:rdL (Ty.int .i64) l j=rdL (Ty.int .i64) l i
    ·rw[Bb e];rfl
    ·rw[A7 e];rfl)
 have L:=s12 u4a l.length (fun i=>(b,l,i)) (fun i=>((List.range i).all fun j=> !decide (rdL (Ty.int .i64) l j=rdL (Ty.int .i64) l i))&&decide (rdL (Ty.int .i64) l i<b.2.2.2.2)) (.inl ()) (.inr false)
  (by rw[s3u];simp only[u91,u0b,Am,Ah,Aa])
  (fun i hi=>by
   rw[s3u];simp only[u91,u0b,hi,Ae,Ad]
   rw[inner i hi]
   cases (List.range i).all fun j=> !decide (rdL (Ty.int .i64) l j=rdL (Ty.int .i64) l i)
   ·rfl
   ·simp only[Ad,zOb,y7s hi,zTn,y7j (show i<4611686018427387904 by omega),Bz]
    rw[q6b]
    cases decide (rdL (Ty.int .i64) l i<b.2.2.2.2)<;>rfl)
 rw[p04] at L
 exact L
theorem q9r (l:Hu u0f) {i:Nat} (h:i<l.length):u3k (l.take i)++ [(rdL u1f l i).1] =u3k (l.take (i+1)):=by
 rw[y8l h];unfold u3k
 rw[Gm,A4 h,Dh];rfl
theorem t2r (b:u0k) (hw:p92.wt b≤549755813888):u4r b=some (t2p b):=by
 have hb:u0y=1099511627776:=rfl
 have hbw:=r7b b
 have n1:=r2s (t:=u0g) b.1
 have n2:=r2s (t:=u1f) b.2.1
 have n3:=r2s (t:=u1f) b.2.2.1
 have L1:=s12 u73 b.1.length (fun i=>(b,i)) (fun i=>(fun v:u1m=>decide (v.2.2.2≤b.2.2.2.1)) (rdL u0g b.1 i)) (.inl b) (.inr false)
  (by rw[s6p];simp only[t1q,u0b,Am,Ah,Aa])
  (fun i hi=>by
   rw[s6p];simp only[t1q,u0b,hi,Ae,Ad,y7s hi,zTn,y7j (show i<4611686018427387904 by omega),q9p (rdL u0g b.1 i).2.2.2 b.2.2.2.1]
   cases decide ((rdL u0g b.1 i).2.2.2≤b.2.2.2.1)<;>rfl)
 rw[s5h (t:=u0g) b.1 (fun v:u1m=>decide (v.2.2.2≤b.2.2.2.1))] at L1
 have il:∀(l:Hu u0f) (i:Nat),i≤l.length→(u3k (l.take i)).length=i:=fun l i h=>by unfold u3k;simp;omega
 have L2:=s12 u39 b.2.1.length (fun i=>(b,u3k (b.2.1.take i.toNat),i)) (fun i=>(fun t:u0f=>t23 t&&(decide (t.2.1=3)&&decide (t.2.2.2.1≤b.2.2.2.1))) (rdL u1f b.2.1 i)&&(decide (i=0) || (fun x y:u0f=>decide (x.2.2.2.1<y.2.2.2.1)) (rdL u1f b.2.1 (i - 1)) (rdL u1f b.2.1 i))) (.inl (b,u3k b.2.1)) (.inr false)
  (by rw[s3s];simp only[u9z,u0b,Am,Ah,Aa,zTn,Cq])
  (fun i hi=>by
   have hm:rdL u1f b.2.1 i∈b.2.1:=by rw[y8l hi];exact Ag hi
   have ht:=q4q hm
   have hk:=t1d (rdL u1f b.2.1 i) (by omega)
   rw[s3s];simp only[u9z,u0b,hi,Ae,Ad,y7s hi,zTn,y7j (show i<4611686018427387904 by omega),q9p (rdL u1f b.2.1 i).2.2.2.1 b.2.2.2.1,r2n,zOb]
   rw[hk]
   have hc:Nat.ble ((u3k (b.2.1.take i)).length+ [(rdL u1f b.2.1 i).1].length) z8x=true:=u07 (by rw[il _ _ (by omega)];simp;omega)
   simp only[zOb]
   rw[hc,q9r _ hi]
   generalize t23 (rdL u1f b.2.1 i)=b1
   generalize decide ((rdL u1f b.2.1 i).2.1=3)=b2
   generalize decide ((rdL u1f b.2.1 i).2.2.2.1≤b.2.2.2.1)=b3
   by_cases h0:i=0
   ·subst h0;simp only[Ae,Ap,Aa,Dx,Cz]
    cases b1<;>cases b2<;>cases b3<;>rfl
   ·simp only[h0,Ah,Bh,Ad,Ci,s6y (show i<4611686018427387904 by omega) h0,y7s (show i - 1<b.2.1.length by omega),zTn,q6b (rdL u1f b.2.1 (i - 1)).2.2.2.1 (rdL u1f b.2.1 i).2.2.2.1]
    generalize decide ((rdL u1f b.2.1 (i - 1)).2.2.2.1<(rdL u1f b.2.1 i).2.2.2.1)=b4
    cases b1<;>cases b2<;>cases b3<;>cases b4<;>rfl)
 rw[r67 (t:=u1f) b.2.1 (fun t:u0f=>t23 t&&(decide (t.2.1=3)&&decide (t.2.2.2.1≤b.2.2.2.1))) (fun x y:u0f=>decide (x.2.2.2.1<y.2.2.2.1))] at L2
 have L3:=s12 u6e b.2.2.1.length (fun i=>(b,u3k b.2.1++u3k (b.2.2.1.take i.toNat),i)) (fun i=>(fun t:u0f=>t23 t&&(decide (t.2.1=2)&&decide (t.2.2.1≤b.2.2.2.1))) (rdL u1f b.2.2.1 i)&&(decide (i=0) || (fun x y:u0f=>y2y x.2.2.2.2.2.2.2 y.2.2.2.2.2.2.2) (rdL u1f b.2.2.1 (i - 1)) (rdL u1f b.2.2.1 i))) (.inl (b,u3k (b.2.1++b.2.2.1))) (.inr false)
  (by rw[s3t];simp only[u90,u0b,Am,Ah,Aa,zTn,Cq];unfold u3k;rw[Dh])
  (fun i hi=>by
   have hm:rdL u1f b.2.2.1 i∈b.2.2.1:=by rw[y8l hi];exact Ag hi
   have ht:=q4q hm
   have hk:=t1d (rdL u1f b.2.2.1 i) (by omega)
   rw[s3t];simp only[u90,u0b,hi,Ae,Ad,y7s hi,zTn,y7j (show i<4611686018427387904 by omega),q9p (rdL u1f b.2.2.1 i).2.2.1 b.2.2.2.1,r2n,zOb]
   rw[hk]
   have hz:(u3k b.2.1).length=b.2.1.length:=by unfold u3k;simp
   have hc:Nat.ble ((u3k b.2.1++u3k (b.2.2.1.take i)).length+ [(rdL u1f b.2.2.1 i).1].length) z8x=true:=u07 (by rw[Ba,il _ _ (by omega),hz];simp;omega)
   simp only[zOb]
   rw[hc,Bi,q9r _ hi]
   generalize t23 (rdL u1f b.2.2.1 i)=b1
   generalize decide ((rdL u1f b.2.2.1 i).2.1=2)=b2
   generalize decide ((rdL u1f b.2.2.1 i).2.2.1≤b.2.2.2.1)=b3
   by_cases h0:i=0
   ·subst h0;simp only[Ae,Ap,Aa,Dx,Cz]
    cases b1<;>cases b2<;>cases b3<;>rfl
   ·simp only[h0,Ah,Bh,Ad,Ci,s6y (show i<4611686018427387904 by omega) h0,y7s (show i - 1<b.2.2.1.length by omega),zTn]
    generalize y2y (rdL u1f b.2.2.1 (i - 1)).2.2.2.2.2.2.2 (rdL u1f b.2.2.1 i).2.2.2.2.2.2.2=b4
    cases b1<;>cases b2<;>cases b3<;>cases b4<;>rfl)
 rw[r67 (t:=u1f) b.2.2.1 (fun t:u0f=>t23 t&&(decide (t.2.1=2)&&decide (t.2.2.1≤b.2.2.2.1))) (fun x y:u0f=>y2y x.2.2.2.2.2.2.2 y.2.2.2.2.2.2.2)] at L3
 have L2' :u39 (b, [],0)=_:=L2
 have e:u3k b.2.1++u3k (b.2.2.1.take (0:Int).toNat)=u3k b.2.1:=by simp[u3k]
 rw[e] at L3
 have hI:=q44 b (u3k (b.2.1++b.2.2.1)) (by unfold u3k;rw[Da,Ba];omega)
 have hV:=r63 b.1 (by omega)
 rw[q28];unfold r0n
 rw[hV]
 simp only[t9z,o5i,gt3,zOb]
 unfold t2p p3p q8n
 generalize u4h b.1=c1
 generalize inB b.2.2.2.1 0 9999=c3
 generalize inB b.2.2.2.2 1 9999=c4
 generalize decide (b.2.1.length≤12)=c5
 generalize decide (b.2.2.1.length≤3)=c6
 generalize ha1:b.1.all (fun v:u1m=>decide (v.2.2.2≤b.2.2.2.1))=a1 at L1
 generalize ha2:b.2.1.all (fun t:u0f=>t23 t&&(decide (t.2.1=3)&&decide (t.2.2.2.1≤b.2.2.2.1)))=a2 at L2'
 generalize ha3:q7p u1f (fun x y:u0f=>decide (x.2.2.2.1<y.2.2.2.1)) b.2.1=a3 at L2'
 generalize ha4:b.2.2.1.all (fun t:u0f=>t23 t&&(decide (t.2.1=2)&&decide (t.2.2.1≤b.2.2.2.1)))=a4 at L3
 generalize ha5:q7p u1f (fun x y:u0f=>y2y x.2.2.2.2.2.2.2 y.2.2.2.2.2.2.2) b.2.2.1=a5 at L3
 generalize q03 (u3k (b.2.1++b.2.2.1)) b.2.2.2.2=a6 at hI
 have hR:((u73 (b,0)).bind fun r5=>match r5 with
  | .inl o6=>(u39 (o6, [],0)).bind fun r9=>match r9 with
   | .inl o10=>(u6e (o10.1,o10.2,0)).bind fun r13=>match r13 with
    | .inl o14=>(u4a (o14.1,o14.2,0)).bind fun r18=>match r18 with
     | .inl o19=>some true
     | .inr z20=>some z20
    | .inr z21=>some z21
   | .inr z22=>some z22
  | .inr z23=>some z23)=some (a1&&((a2&&a3)&&((a4&&a5)&&a6))):=by
  rw[L1]
  cases a1
  ·rfl
  ·simp only[Ad,zOb,Bz]
   rw[L2']
   cases (a2&&a3)
   ·rfl
   ·simp only[Ad,zOb,Bz]
    rw[L3]
    cases (a4&&a5)
    ·rfl
    ·simp only[Ad,zOb,Bz]
     rw[hI]
     cases a6<;>rfl
 cases c1<;>cases c3<;>cases c4<;>cases c5<;>cases c6<;>simp only[Ap,Bh,Ad,Aa,zOb,Fx,Fy,Bz,Cz]
 exact hR
theorem p69 (e:u08):p72.wt e=p92.wt e.1+(Ty.sl u1f).wt e.2:=rfl
theorem p5a {b:u0k} {o:Hu u0f} (hb:q03 (u3k (b.2.1++b.2.2.1)) b.2.2.2.2=true) (ho:q7p u1f (fun x y:u0f=>decide (x.1<y.1)) o=true):
 q03 (u3k (b.2.1++b.2.2.1++o)) b.2.2.2.2=o.all (fun t=>decide (t.1<b.2.2.2.2)&&((b.2.1.all fun x=> !decide (x.1=t.1))&&(b.2.2.1.all fun x=> !decide (x.1=t.1)))):=by
 rw[o23 (f:=fun t=>t.1)] at ho
 obtain⟨h1,h2⟩:=r2e.mp hb
 rw[Cd,r2e,Bg]
 simp only[Ai,Ar,Bg,Bj,Bu]
 unfold u3k at*
 constructor
 ·rintro⟨k1,k2⟩ t ht
  rw[Dh,Gp] at k2
  refine⟨k1 _ (Bx.mpr ⟨t,by simp[ht],rfl⟩),fun x hx=> ?_,fun x hx=> ?_⟩
  ·exact k2.2.2 _ (Bx.mpr ⟨x,by simp[hx],rfl⟩) _ (Bx.mpr ⟨t,ht,rfl⟩)
  ·exact k2.2.2 _ (Bx.mpr ⟨x,by simp[hx],rfl⟩) _ (Bx.mpr ⟨t,ht,rfl⟩)
 ·intro k
  constructor
  ·intro x hx
   obtain⟨t,ht,rfl⟩:=Bx.mp hx
   rcases Ay.mp ht with q | q
   ·exact h1 _ (Bx.mpr ⟨t,q,rfl⟩)
   ·exact(k t q).1
  ·rw[Dh,Gp]
   refine⟨h2,?_,?_⟩
   ·rw[D8,Dl]
    exact ho.imp fun {a b} q e=>by omega
   ·intro a ha c hc e
    obtain⟨x,hx,rfl⟩:=Bx.mp ha
    obtain⟨t,ht,rfl⟩:=Bx.mp hc
    rcases Ay.mp hx with q | q
    ·exact(k t ht).2.1 x q e
    ·exact(k t ht).2.2 x q e
theorem q2o (e:u08) (hw:p72.wt e≤549755813888):t6t e=some (p48 e):=by
 have hb:u0y=1099511627776:=rfl
 have hew:=p69 e
 have hbw:=r7b e.1
 have n1:=r2s (t:=u1f) e.2
 have n2:=r2s (t:=u1f) e.1.2.1
 have n3:=r2s (t:=u1f) e.1.2.2.1
 have I1:∀(j:Int) (t:u0f),u4k (e,j,t,0)=some (bif (e.1.2.1.all fun x=> !decide (x.1=t.1)) then .inl (e,j,t) else .inr false):=fun j t=>by
  have L:=s12 u4k e.1.2.1.length (fun i=>(e,j,t,i)) (fun i=>(fun x:u0f=> !decide (x.1=t.1)) (rdL u1f e.1.2.1 i)) (.inl (e,j,t)) (.inr false)
   (by rw[t8f];simp only[u7a,u0b,Am,Ah,Aa])
   (fun i hi=>by
    rw[t8f];simp only[u7a,u0b,hi,Ae,Ad,y7s hi,zTn,y7j (show i<4611686018427387904 by omega)]
    cases decide ((rdL u1f e.1.2.1 i).1=t.1)<;>rfl)
  rw[s5h (t:=u1f) e.1.2.1 (fun x:u0f=> !decide (x.1=t.1))] at L
  exact L
 have I2:∀(j:Int) (t:u0f),u21 (e,j,t,0)=some (bif (e.1.2.2.1.all fun x=> !decide (x.1=t.1)) then .inl (e,j) else .inr false):=fun j t=>by
  have L:=s12 u21 e.1.2.2.1.length (fun i=>(e,j,t,i)) (fun i=>(fun x:u0f=> !decide (x.1=t.1)) (rdL u1f e.1.2.2.1 i)) (.inl (e,j)) (.inr false)
   (by rw[t8g];simp only[u7b,u0b,Am,Ah,Aa])
   (fun i hi=>by
    rw[t8g];simp only[u7b,u0b,hi,Ae,Ad,y7s hi,zTn,y7j (show i<4611686018427387904 by omega)]
    cases decide ((rdL u1f e.1.2.2.1 i).1=t.1)<;>rfl)
  rw[s5h (t:=u1f) e.1.2.2.1 (fun x:u0f=> !decide (x.1=t.1))] at L
  exact L
 have L:=s12 u3v e.2.length (fun i=>(e,i)) (fun i=>(fun t:u0f=>(t23 t&&(decide (t.2.1=1)&&decide (t.2.2.1≤e.1.2.2.2.1)))&&(decide (t.1<e.1.2.2.2.2)&&((e.1.2.1.all fun x=> !decide (x.1=t.1))&&(e.1.2.2.1.all fun x=> !decide (x.1=t.1))))) (rdL u1f e.2 i)&&(decide (i=0) || (fun x y:u0f=>decide (x.1<y.1)) (rdL u1f e.2 (i - 1)) (rdL u1f e.2 i))) (.inl ()) (.inr false)
  (by rw[s0p];simp only[u8q,u0b,Am,Ah,Aa])
  (fun i hi=>by
   have hm:rdL u1f e.2 i∈e.2:=by rw[y8l hi];exact Ag hi
   have ht:=q4q hm
   have hk:=t1d (rdL u1f e.2 i) (by omega)
   have k1:=I1 (i:Int) (rdL u1f e.2 i)
   have k2:=I2 (i:Int) (rdL u1f e.2 i)
   rw[s0p];simp only[u8q,u0b,hi,Ae,Ad,y7s hi,zTn,y7j (show i<4611686018427387904 by omega),q9p (rdL u1f e.2 i).2.2.1 e.1.2.2.2.1,q6b (rdL u1f e.2 i).1 e.1.2.2.2.2,r2n,zOb]
   rw[hk,k1]
   simp only[zOb]
   generalize t23 (rdL u1f e.2 i)=b1
   generalize decide ((rdL u1f e.2 i).2.1=1)=b2
   generalize decide ((rdL u1f e.2 i).2.2.1≤e.1.2.2.2.1)=b3
   generalize decide ((rdL u1f e.2 i).1<e.1.2.2.2.2)=b5
   generalize (e.1.2.1.all fun x=> !decide (x.1=(rdL u1f e.2 i).1))=b6
   generalize (e.1.2.2.1.all fun x=> !decide (x.1=(rdL u1f e.2 i).1))=b7 at k2 ⊢
   have tail:((bif b6 then Sum.inl (e,(i:Int),rdL u1f e.2 i) else Sum.inr false:(u08×Int×u0f)⊕Bool) |>fun r5=>(match r5 with
    | .inl o6=>(u21 (o6.1,o6.2.1,o6.2.2,0)).bind fun r7=>match r7 with
     | .inl o8=>u3v (o8.1,IntKind.i64.wrap (o8.2+1))
     | .inr z9=>some (.inr z9)
    | .inr z10=>some (.inr z10)))=bif b6&&b7 then u3v (e,((i+1:Nat):Int)) else some (.inr false):=by
    cases b6
    ·rfl
    ·simp only[Ad]
     rw[k2]
     cases b7
     ·rfl
     ·simp only[Ad,zOb,y7j (show i<4611686018427387904 by omega)];rfl
   by_cases h0:i=0
   ·subst h0;simp only[Ae,Ap,Aa,Dx,Cz]
    cases b1<;>cases b2<;>cases b3<;>cases b5<;>try rfl
    exact tail
   ·simp only[h0,Ah,Bh,Ad,Ci,s6y (show i<4611686018427387904 by omega) h0,y7s (show i - 1<e.2.length by omega),zTn,q6b (rdL u1f e.2 (i - 1)).1 (rdL u1f e.2 i).1]
    generalize decide ((rdL u1f e.2 (i - 1)).1<(rdL u1f e.2 i).1)=b4
    cases b1<;>cases b2<;>cases b3<;>cases b5<;>cases b4<;>(first | rfl | (rw[Fy];rfl) | (rw[Cz];exact tail)))
 rw[r67 (t:=u1f) e.2 (fun t:u0f=>(t23 t&&(decide (t.2.1=1)&&decide (t.2.2.1≤e.1.2.2.2.1)))&&(decide (t.1<e.1.2.2.2.2)&&((e.1.2.1.all fun x=> !decide (x.1=t.1))&&(e.1.2.2.1.all fun x=> !decide (x.1=t.1))))) (fun x y:u0f=>decide (x.1<y.1)),p2u] at L
 have hB:=t2r e.1 (by omega)
 rw[r7j];unfold s4t
 rw[hB]
 simp only[zOb,gt4]
 rw[L]
 unfold p48 p3o
 cases h1:t2p e.1
 ·rfl
 ·have hbi:q03 (u3k (e.1.2.1++e.1.2.2.1)) e.1.2.2.2.2=true:=by
   have:=q1n.mp h1
   exact r2e.mpr ⟨this.below,this.nodup⟩
  cases ha:q7p u1f (fun x y:u0f=>decide (x.1<y.1)) e.2
  ·cases decide (e.2.length≤4)<;>simp
  ·rw[p5a hbi ha]
   cases decide (e.2.length≤4)
   ·rfl
   ·simp only[Ap,Aa,zOb,Bz,Cz]
    cases (e.2.all fun t:u0f=>t23 t&&(decide (t.2.1=1)&&decide (t.2.2.1≤e.1.2.2.2.1)))
    ·rfl
    ·simp only[Bz]
     cases (e.2.all fun t:u0f=>decide (t.1<e.1.2.2.2.2)&&((e.1.2.1.all fun x=> !decide (x.1=t.1))&&(e.1.2.2.1.all fun x=> !decide (x.1=t.1))))<;>rfl
end
section
theorem o5k (n:Nat):decide ((n:Int)=0)=decide (n=0):=by simp
theorem p5q (t:u0f):t2i t=some (noT t):=by
 rw[r71];unfold s5d noT
 simp only[o5k,s1c]
 cases decide (t.1=0)<;>cases decide (t.2.1=0)<;>cases decide (t.2.2.1=0)<;>cases decide (t.2.2.2.1=0)<;>cases decide (t.2.2.2.2.1.length=0)<;>cases decide (t.2.2.2.2.2.1.length=0)<;>cases t.2.2.2.2.2.2.1<;>rfl
theorem p5o (b:u0k):t4v b=some (noB b):=by
 rw[r54];unfold s2p noB
 simp only[o5k]
 cases decide (b.1.length=0)<;>cases decide (b.2.1.length=0)<;>cases decide (b.2.2.1.length=0)<;>cases decide (b.2.2.2.1=0)<;>cases decide (b.2.2.2.2=0)<;>rfl
theorem q2a (r:t9h):o21.wt r=0+(u1f.wt r.2.1+(r.2.2.1.size+(0+p92.wt r.2.2.2.2))):=rfl
theorem r0f (r:t9h) (hw:o21.wt r≤549755813888):t2b r=some (u9f r):=by
 have hb:u0y=1099511627776:=rfl
 have hr:=q2a r
 have k1:=t1d r.2.1 (by omega)
 have k2:=t2r r.2.2.2.2 (by omega)
 have k3:=t1a r.2.2.1 (by omega)
 rw[r7q];unfold s40
 simp only[k1,k2,k3,t9z,p5q,p5o,zOb,s1c]
 unfold u9f
 generalize t23 r.2.1=c1
 generalize t2p r.2.2.2.2=c2
 generalize u38 r.2.2.1=c3
 generalize noT r.2.1=c4
 generalize noB r.2.2.2.2=c5
 generalize decide (r.2.2.1.size=0)=c6
 generalize r.2.2.2.1=c9
 by_cases h1:r.1=1
 ·simp only[h1,show inB 1 1 4=true from rfl,Ae,Ad,Bl]
  generalize decide (r.2.1.2.1=3)=c7
  generalize decide (r.2.1.2.1=2)=c8
  cases c1<;>cases c5<;>cases c6<;>cases c7<;>cases c8<;>cases c9<;>rfl
 ·by_cases h2:r.1=2
  ·simp only[h2,show inB 2 1 4=true from rfl,Ae,Ad,Bl]
   generalize decide (r.2.1.2.1=3)=c7
   generalize decide (r.2.1.2.1=2)=c8
   cases c1<;>cases c5<;>cases c6<;>cases c7<;>cases c8<;>cases c9<;>rfl
  ·by_cases h3:r.1=3
   ·simp only[h3,show inB 3 1 4=true from rfl,Ae,Ad,Bl]
    cases c3<;>cases c4<;>cases c5<;>cases c9<;>rfl
   ·by_cases h4:r.1=4
    ·simp only[h4,show inB 4 1 4=true from rfl,Ae,Ad,Bl]
     cases c2<;>cases c4<;>cases c6<;>cases c9<;>rfl
    ·have:inB r.1 1 4=false:=by
      cases h:inB r.1 1 4
      ·rfl
      ·have:=r3v.mp h;omega
     simp only[h1,h2,h3,h4,this,Ah,Aa,Bk,Bh,Ad]
end
section
theorem r1p {α:Type} {P:Prop} [Decidable P] {a b:α} (h:P):(bif decide P then a else b)=a:=by rw[Bb h];rfl
theorem p41 {α:Type} {n:Nat} {a b:α} (h:n≤1099511627776):(bif Nat.ble n z8x then a else b)=a:=by rw[u07 h];rfl
theorem u3d {n:Int} (h0:0≤n) (h1:n≤1000000000):u1b n=some (r20 n):=by
 obtain⟨m,rfl⟩:∃m:Nat,n=m:=⟨n.toNat,by omega⟩
 rw[r8c m (by omega)];rfl
theorem t1c {s:Hs} (h:s.size≤10000):u1x s=some (u02 s):=by
 rw[r70];unfold s5c
 rw[u3d (by omega) (by omega)]
 simp only[zOb]
 have:=u2d (n:=(s.size:Int)) (by omega)
 rw[r1p (by omega)];rfl
theorem r6g (b:Bool):u9d b=some (p0s b):=by
 rw[q3w];unfold r1c
 cases b<;>rfl
theorem q60 {r:t25} (h:r.1.size≤100∧r.2.size≤100):(p1j r).size≤204:=by
 have q1:=u1j (s:=r.1) (by omega)
 have q2:=u1j (s:=r.2) (by omega)
 unfold p1j;rw[Af];omega
theorem r6k {E:Type} (f:E→Hs) (l:Hu E) (s:Hs):l.foldl (fun s x=>s++f x) s=s++r9d f l:=r1q f l s
theorem s4p (t:u0f) (ht:u1f.wt t≤549755813888):t3o t=some (if t23 t=true then(t2n t,true) else(emp,false)):=by
 have hb:u0y=1099511627776:=rfl
 rw[q0d];unfold s8e
 rw[t1d t (by omega)]
 simp only[zOb]
 cases hc:t23 t
 ·rfl
 ·have h:=r2x.mp hc
  obtain⟨z1,z2,z3,z4,z5⟩:=h.small
  have hi:=h.id;have hst:=h.st;have hsn:=h.snap;have hrl:=h.rlen
  have v1:=u2d (n:=t.1) (by omega)
  have v2:=u2d (n:=t.2.1) (by omega)
  have v3:=u2d (n:=t.2.2.1) (by omega)
  have v4:=u2d (n:=t.2.2.2.1) (by omega)
  have v5:=u2d (n:=(t.2.2.2.2.1.length:Int)) (by omega)
  have v6:=u2d (n:=(t.2.2.2.2.2.1.length:Int)) (by omega)
  have v7:=u1j (s:=t.2.2.2.2.2.2.2) (by omega)
  have L1:∀A:Hs,A.size≤1000→u6o (t,A,0)=some (.inl (t,A++r9d p1j t.2.2.2.2.1)):=fun A hA=>by
   have:=t40 u6o t.2.2.2.2.1 (fun(A:Hs) i=>(t,A,i)) (fun A r=>A++p1j r) (fun A=> .inl (t,A)) (fun i A=>A.size≤1000+i*204)
    (fun A _=>by rw[s4a];simp only[t0f,u0b,Am,Ah,Aa])
    (fun i hi A hP=>by
     have hr:=z1 _ (Ag hi)
     have hs:=q60 (r:=t.2.2.2.2.1[i]) (by omega)
     have hs' :=hs
     unfold p1j at hs'
     rw[Af] at hs'
     refine⟨by rw[Af,C7];omega,?_⟩
     rw[s4a];simp only[t0f,u0b,hi,Ae,Ad,y7s hi,zTn,y8l (t:=t44) hi,y7j (show i<4611686018427387904 by omega)]
     rw[t1c (by omega),t1c (by omega)]
     simp only[zOb]
     rw[r1p (by omega),r1p (by rw[Af];omega),t5n];rfl) A (by omega)
   rw[r6k] at this
   exact this
  have L2:∀A:Hs,A.size≤10000→u5d (t,A,0)=some (.inl (t,A++r9d wrT t.2.2.2.2.2.1)):=fun A hA=>by
   have:=t40 u5d t.2.2.2.2.2.1 (fun(A:Hs) i=>(t,A,i)) (fun A r=>A++wrT r) (fun A=> .inl (t,A)) (fun i A=>A.size≤10000+i*304)
    (fun A _=>by rw[s0z];simp only[u81,u0b,Am,Ah,Aa])
    (fun i hi A hP=>by
     have hr:=z2 _ (Ag hi)
     have q1:=u1j (s:=(t.2.2.2.2.2.1[i]).1) (by omega)
     have q2:=u1j (s:=(t.2.2.2.2.2.1[i]).2.1) (by omega)
     have q3:=u3i (t.2.2.2.2.2.1[i]).2.2
     refine⟨by unfold wrT;simp only[Af,C7];omega,?_⟩
     rw[s0z];simp only[u81,u0b,hi,Ae,Ad,y7s hi,zTn,y8l (t:=u2u) hi,y7j (show i<4611686018427387904 by omega)]
     rw[t1c (by omega),t1c (by omega),r6g]
     simp only[zOb]
     rw[r1p (by omega),r1p (by rw[Af];omega),r1p (by simp only[Af];omega),t5n,t5n];rfl) A (by omega)
   rw[r6k] at this
   exact this
  have n1:(r9d p1j t.2.2.2.2.1).size≤t.2.2.2.2.1.length*204:=t7p fun r hr=>q60 (by have:=z1 r hr;omega)
  have n2:(r9d wrT t.2.2.2.2.2.1).size≤t.2.2.2.2.2.1.length*304:=t7p fun w hw=>by
   have:=z2 w hw
   have q1:=u1j (s:=w.1) (by omega)
   have q2:=u1j (s:=w.2.1) (by omega)
   unfold wrT;rw[Af,Af,u3i];omega
  simp only[Ap,Aa,Bl]
  rw[u3d (n:=t.1) (by omega) (by omega),u3d (n:=t.2.1) (by omega) (by omega),u3d (n:=t.2.2.1) (by omega) (by omega),u3d (n:=t.2.2.2.1) (by omega) (by omega),u3d (n:=(t.2.2.2.2.1.length:Int)) (by omega) (by omega)]
  simp only[zOb]
  rw[r1p (by omega),r1p (by simp only[Af];omega),r1p (by simp only[Af];omega),r1p (by simp only[Af];omega),L1 _ (by simp only[Af];omega)]
  simp only[zOb]
  rw[u3d (n:=(t.2.2.2.2.2.1.length:Int)) (by omega) (by omega)]
  simp only[zOb]
  rw[r1p (by simp only[Af];omega),L2 _ (by simp only[Af];omega)]
  simp only[zOb]
  rw[r6g,t1c (by omega)]
  simp only[zOb]
  rw[r1p (by simp only[Af,u3i];omega),r1p (by simp only[Af,u3i];omega)]
  unfold t2n
  simp only[t5n]
theorem p80 {l:Hu u0f} {t:u0f} (h:t∈l) (hl:(Ty.sl u1f).wt l≤549755813888):u1f.wt t≤549755813888:=A9 (q4q h) hl
theorem q5h (l:Hu u0f) (hl:(Ty.sl u1f).wt l≤549755813888) (hn:l.length≤10000) (h:∀t∈l,TxnR t):t3t l=some (r5c l):=by
 have v1:=u2d (n:=(l.length:Int)) (by omega)
 have L:u6r (l,r20 (l.length:Int),0)=some (.inl (r20 (l.length:Int)++r9d t2n l)):=by
  have:=t40 u6r l (fun(A:Hs) i=>(l,A,i)) (fun A r=>A++t2n r) (fun A=> .inl A) (fun i A=>A.size≤2+i*300)
   (fun A _=>by rw[s4f];simp only[t0k,u0b,Am,Ah,Aa])
   (fun i hi A hP=>by
    have hm:=Ag hi
    have hr:=s0n (h _ hm)
    refine⟨by rw[Af,C7];omega,?_⟩
    rw[s4f];simp only[t0k,u0b,hi,Ae,Ad,y7s hi,zTn,y8l (t:=u1f) hi,y7j (show i<4611686018427387904 by omega)]
    rw[s4p _ (p80 hm hl),Al (r2x.mpr (h _ hm))]
    simp only[zOb]
    rw[r1p (by omega)]) (r20 (l.length:Int)) (by omega)
  rw[r6k] at this
  exact this
 rw[q0t];unfold s8v
 rw[u3d (by omega) (by omega)]
 simp only[zOb]
 rw[L];rfl
theorem q2n (b:u0k) (hw:p92.wt b≤549755813888):t6s b=some (if t2p b=true then(t6c b,true) else(emp,false)):=by
 have hbw:=r7b b
 rw[r7i];unfold s4s
 rw[t2r b hw]
 simp only[zOb]
 cases hc:t2p b
 ·rfl
 ·have h:=q1n.mp hc
  obtain⟨w1,w2,w3⟩:=p4m.mp h.vs
  have hcs:=h.cs;have hx:=h.next;have hp:=h.plen;have hr:=h.rlen
  have q1:=u2d (n:=b.2.2.2.1) (by omega)
  have q2:=u2d (n:=b.2.2.2.2) (by omega)
  have q3:=u2d (n:=(b.1.length:Int)) (by omega)
  have q4:=t7p (f:=p1x) (k:=22) (l:=b.1) (fun v hv=>q4t (w1 v hv))
  have q5:=s7b (l:=b.2.1) (by omega) (fun t ht=>(h.past t ht).1)
  have q6:=s7b (l:=b.2.2.1) (by omega) (fun t ht=>(h.ready t ht).1)
  have L:∀A:Hs,A.size≤1000→u48 (b,A,0)=some (.inl (b,A++r9d p1x b.1)):=fun A hA=>by
   have:=t40 u48 b.1 (fun(A:Hs) i=>(b,A,i)) (fun A r=>A++p1x r) (fun A=> .inl (b,A)) (fun i A=>A.size≤1000+i*22)
    (fun A _=>by rw[s0o];simp only[u8p,u0b,Am,Ah,Aa])
    (fun i hi A hP=>by
     have hm:=w1 _ (Ag hi)
     have hr:=q4t hm
     have hv:=s1y hm
     have s1:=u1j (s:=(b.1[i]).1) (by omega)
     have s2:=u1j (s:=(b.1[i]).2.1) (by omega)
     have s3:=u3i (b.1[i]).2.2.1
     have s4:=u2d (n:=(b.1[i]).2.2.2) (by omega)
     refine⟨by rw[Af,C7];omega,?_⟩
     rw[s0o];simp only[u8p,u0b,hi,Ae,Ad,y7s hi,zTn,y8l (t:=u0g) hi,y7j (show i<4611686018427387904 by omega)]
     rw[t1c (by omega),t1c (by omega),r6g,u3d (by omega) (by omega)]
     simp only[zOb]
     rw[r1p (by omega),r1p (by simp only[Af];omega),r1p (by simp only[Af];omega),r1p (by simp only[Af];omega)]
     unfold p1x
     simp only[t5n]) A (by omega)
   rw[r6k] at this
   exact this
  simp only[Ap,Aa,Bl]
  rw[u3d (n:=b.2.2.2.1) (by omega) (by omega),u3d (n:=b.2.2.2.2) (by omega) (by omega),u3d (n:=(b.1.length:Int)) (by omega) (by omega)]
  simp only[zOb]
  rw[r1p (by omega),r1p (by simp only[Af];omega),L _ (by simp only[Af];omega)]
  simp only[zOb]
  rw[q5h b.2.1 (by omega) (by omega) (fun t ht=>(h.past t ht).1),q5h b.2.2.1 (by omega) (by omega) (fun t ht=>(h.ready t ht).1)]
  simp only[zOb]
  rw[r1p (by simp only[Af];omega),r1p (by simp only[Af];omega)]
  unfold t6c
  simp only[t5n]
end
section
theorem p6f {W:Int×Hs×Int×Int→Ht ((Int×Hs×Int)⊕Unit)}
 (hW:∀x,W x=(bif decide (x.2.2.2<(8:Int)) then(bif decide (Int.tmod x.1 (2:Int)=(1:Int)) then W (IntKind.u32.wrap ((BitVec.ofInt IntKind.u32.bits (IntKind.u32.wrap (Int.tdiv x.1 (2:Int)))^^^BitVec.ofInt IntKind.u32.bits (3558460437:Int)).toNat:Int),x.2.1,x.2.2.1,IntKind.i64.wrap (x.2.2.2+(1:Int)))
  else W (IntKind.u32.wrap (Int.tdiv x.1 (2:Int)),x.2.1,x.2.2.1,IntKind.i64.wrap (x.2.2.2+(1:Int)))) else some (.inl (x.1,x.2.1,x.2.2.1)))) (t:Hs) (k:Int):
 ∀(n:Nat) (x:Int) (i:Nat),i+n=8→W (x,t,k,(i:Int))=some (.inl (r81 n x,t,k)):=by
 intro n
 induction n with
 | zero=>
  intro x i hi
  have:i=8:=by omega
  subst this
  rw[hW];rfl
 | succ n ih=>
  intro x i hi
  rw[hW]
  simp only
  rw[r1p (by omega),y7j (by omega),ih _ (i+1) (by omega),ih _ (i+1) (by omega)]
  rw[show r81 (n+1) x=r81 n (p37 x) from rfl]
  unfold p37 o04
  cases decide (Int.tmod x 2=1)<;>rfl
theorem p6g (f:Int→UInt8→Int) (t:Hs) {W:Int×Hs×Int→Ht (Int⊕Unit)} (ht:t.size≤1099511627776)
 (hend:∀x,W (x,t,(t.size:Int))=some (.inl x))
 (hstep:∀(i:Nat),i<t.size→ ∀x,W (x,t,(i:Int))=W (f x (t.data.toList.getD i 0),t,((i+1:Nat):Int))) (x:Int):W (x,t,0)=some (.inl (t.data.toList.foldl f x)):=by
 have e:t.size=t.data.toList.length:=s9x t
 exact t40 W t.data.toList (fun x i=>(x,t,i)) f (fun x=> .inl x) (fun _ _=>True) (fun x _=>by rw[←e];exact hend x)
  (fun i hi x _=>⟨trivial,by
   rw[hstep i (by rw[e];exact hi) x]
   congr 2
   rw[A5,A4 hi];rfl⟩) x trivial
theorem r4g (x:Int) (t:Hs) (ht:t.size≤1099511627776):t88 (x,t)=some (t.data.toList.foldl q8q x):=by
 have L:=p6g q8q t (W:=t0p) ht
  (fun x=>by rw[s36];simp only[t0b,u0b,Am,Ah,Aa])
  (fun i hi x=>by
   rw[s36];simp only[t0b,u0b,hi,Ae,Ad,y7s hi,zTn]
   have:=p6f (W:=t0q) (fun x=>r6d x) t (i:Int) 8 (o04 x (IntKind.u32.wrap ((t.data.toList.getD i 0).toNat:Int))) 0 rfl
   unfold o04 at this
   rw[show((0:Nat):Int)=0 from rfl] at this
   rw[this]
   simp only[zOb,y7j (show i<4611686018427387904 by omega)]
   rfl) x
 rw[r99];unfold s8a
 simp only[L,zOb]
theorem s06 (t:Hs) (ht:t.size≤1099511627776):t2c t=some (q94 t):=by
 rw[q3l];unfold r00 q94
 have e1:decide ((t.size:Int) >20000)= !decide (t.size≤20000):=by by_cases h:t.size≤20000<;>simp[h] <;>omega
 rw[e1,r4x];unfold s43
 rw[r4g _ _ ht]
 simp only[zOb]
 rw[s86];unfold s8k
 simp only[zOb]
 by_cases h:t.size≤20000
 ·rw[Bb h,Al h]
  simp only[Ap,Aa]
  rw[r1p (by rw[u2j];simp;omega)]
  rfl
 ·rw[A7 h,Ao h];rfl
theorem t5o (k:Int):(y7e [k]).size=1:=u2j _
theorem u47 (r:t9h) (hw:o21.wt r≤549755813888):u1p r=some (u0z r):=by
 have hr:=q2a r
 rw[r3m];unfold t9k u0z
 rw[r0f r hw]
 simp only[zOb]
 cases hc:u9f r
 ·rfl
 ·have h:=p7e.mp hc
  have hz:=s0j h
  simp only[Ap,Aa,Bl]
  cases h with
  | thr t h hs=>
   have:=s0n h
   have ht:=s4p t (by have:u1f.wt t≤o21.wt (1,t,emp,false,u2f):=by rw[hr];simp only;omega
                      omega)
   rw[Al (r2x.mpr h)] at ht
   simp only[Int.reduceEq,Ae,Ah,Ad,Aa]
   rw[ht]
   simp only[zOb]
   rw[r1p (by rw[t5o];omega),s06 _ (by rw[Af,t5o];omega)]
   rfl
  | rdy t h hs=>
   have:=s0n h
   have ht:=s4p t (by have:u1f.wt t≤o21.wt (2,t,emp,false,u2f):=by rw[hr];simp only;omega
                      omega)
   rw[Al (r2x.mpr h)] at ht
   simp only[Int.reduceEq,Ae,Ah,Ad,Aa]
   rw[ht]
   simp only[zOb]
   rw[r1p (by rw[t5o];omega),s06 _ (by rw[Af,t5o];omega)]
   rfl
  | fin n y h=>
   have:=u1w h
   have q:=u1j (s:=n) (by omega)
   simp only[Int.reduceEq,Ae,Ah,Ad,Aa]
   rw[t1c (by omega)]
   simp only[zOb]
   rw[r1p (by rw[t5o];omega),r6g]
   simp only[zOb]
   rw[r1p (by simp only[Af,t5o,u3i];omega),s06 _ (by simp only[Af,t5o,u3i];omega),t5n]
   rfl
  | bas b h=>
   have:=q1o h
   have a1:=(p4m.mp h.vs).2.2
   have a2:=h.plen
   have a3:=h.rlen
   have ht:=q2n b (by have:p92.wt b≤o21.wt (4,u30,emp,false,b):=by rw[hr];simp only;omega
                      omega)
   rw[Al (q1n.mpr h)] at ht
   simp only[Int.reduceEq,Ae,Ah,Ad,Aa]
   rw[ht]
   simp only[zOb]
   rw[r1p (by rw[t5o];omega),s06 _ (by rw[Af,t5o];omega)]
   rfl
end
section
def inT (s:Hs) (c:Cur):Prop:=0≤c.1∧c.1≤(s.size:Int)
def bad (c:Cur) (k:Int):Int:=if c.2=true then k else 0
theorem u2s {s:Hs} {c:Cur} (h:inT s c):inT s (u2k s c).2∧0≤(u2k s c).1∧(u2k s c).1≤1000000000∧c.1+1≤(u2k s c).2.1+bad (u2k s c).2 1:=by
 unfold u2k
 split
 ·refine⟨h,by simp,by simp,?_⟩
  simp only[bad,Bl];omega
 ·rename_i q
  simp only[Hr,Ey,Bool.not_eq_false] at q
  have:=t1h q.2
  refine⟨⟨?_,?_⟩,?_,?_,?_⟩
  ·simp only;omega
  ·simp only;omega
  ·simp only;omega
  ·simp only;omega
  ·simp only[bad,Br,Bk];omega
theorem q1b {t:Hs} {a:Int} (h:(u0u t a).2.2=true):a+1+((u0u t a).1.size:Int)≤(u0u t a).2.1∧0≤a:=by
 unfold u0u at h ⊢
 split at h
 ·rename_i hc
  rw[Al hc]
  have:=t1h hc.1
  simp only[Bd]
  omega
 ·cases h
theorem u60 {s:Hs} {c:Cur} (h:inT s c):inT s (u11 s c).2∧c.1+1+((u11 s c).1.size:Int)≤(u11 s c).2.1+bad (u11 s c).2 1:=by
 unfold u11
 split
 ·refine⟨h,?_⟩
  simp only[bad,Bl,emp,ByteArray.size];simp
 ·rename_i q
  simp only[Hr,Ey,Bool.not_eq_false] at q
  have h1:=s6g q.2
  have h2:=q1b q.2
  refine⟨⟨?_,?_⟩,?_⟩
  ·simp only;omega
  ·simp only;omega
  ·simp only[bad,Br,Bk];omega
theorem q9y {s:Hs} {c:Cur} (h:inT s c):inT s (r8o s c).2∧c.1+1≤(r8o s c).2.1+bad (r8o s c).2 1:=by
 unfold r8o
 split
 ·refine⟨h,?_⟩
  simp only[bad,Bl];omega
 ·rename_i q
  simp only[Hr,Decidable.not_not] at q
  unfold inT
  simp only[bad,Br,Bk];omega
theorem u6t (c:Cur) {k:Int} (hk:0≤k):0≤bad c k∧bad c k≤k:=by unfold bad;split<;>omega
theorem r1o {c c' :Cur} (h:c.2=true→c'.2=true) {k:Int} (hk:0≤k):bad c k≤bad c' k:=by
 unfold bad
 by_cases q:c.2=true
 ·rw[Al q,Al (h q)];omega
 ·rw[Ao q];split<;>omega
def p7w {E:Type} (w:E→Nat) (k:Int) (s:Hs) (f:Cur→E×Cur):Prop:= ∀c,inT s c→inT s (f c).2∧c.1+1+(w (f c).1:Int)≤(f c).2.1+bad (f c).2 k
theorem t4d {E:Type} {w:E→Nat} {k:Int} {s:Hs} {f:Cur→E×Cur} (hk:0≤k) (hf:p7w w k s f):∀(n:Nat) (c:Cur) (a:Hu E),inT s c→
 inT s (u2r f n c a).2∧c.1+((u2r f n c a).1.length+((u2r f n c a).1.map w).sum:Nat)≤(u2r f n c a).2.1+(a.length+(a.map w).sum:Nat)+bad (u2r f n c a).2 k
 | 0,c,a,h=>⟨h,by have:=u6t (u2r f 0 c a).2 hk;simp only[u2r] at*;omega⟩
 | n+1,c,a,h=>by
  simp only[u2r]
  split
  ·exact⟨h,by have:=u6t c hk;simp only;omega⟩
  ·obtain⟨h1,h2⟩:=hf c h
   obtain⟨h3,h4⟩:=t4d hk hf n (f c).2 (a++ [(f c).1]) h1
   refine⟨h3,?_⟩
   have e1:(a++ [(f c).1]).length=a.length+1:=by simp
   have e2:((a++ [(f c).1]).map w).sum=(a.map w).sum+w (f c).1:=by simp
   rw[e1,e2] at h4
   have hm:bad (f c).2 k≤bad (u2r f n (f c).2 (a++ [(f c).1])).2 k∧(bad (f c).2 k≠0→u2r f n (f c).2 (a++ [(f c).1])=(a++ [(f c).1],(f c).2)):=by
    by_cases q:(f c).2.2=true
    ·rw[u9w q];exact⟨Bv _,fun _=>rfl⟩
    ·have:bad (f c).2 k=0:=by unfold bad;rw[Ao q]
     rw[this];exact⟨(u6t _ hk).1,fun h=>absurd rfl h⟩
   by_cases z:bad (f c).2 k=0
   ·omega
   ·have e:=hm.2 z
    rw[e]
    simp only[e1,e2]
    omega
theorem r8q (s:Hs):p7w t44.wt 2 s (q9z s):=fun c h=>by
 obtain⟨h1,h2⟩:=u60 h
 obtain⟨h3,h4⟩:=u60 h1
 have b1:=r1o (c:=(u11 s c).2) (c' :=(u11 s (u11 s c).2).2) s0h (k:=1) (by omega)
 have b2:bad (u11 s (u11 s c).2).2 2=2*bad (u11 s (u11 s c).2).2 1:=by unfold bad;split<;>omega
 refine⟨h3,?_⟩
 have e:t44.wt (q9z s c).1=(u11 s c).1.size+(u11 s (u11 s c).2).1.size:=rfl
 have e2:(q9z s c).2=(u11 s (u11 s c).2).2:=rfl
 rw[e,e2];omega
theorem r6n (s:Hs):p7w u2u.wt 3 s (rWr s):=fun c h=>by
 obtain⟨h1,h2⟩:=u60 h
 obtain⟨h3,h4⟩:=u60 h1
 obtain⟨h5,h6⟩:=q9y h3
 have b1:=r1o (c:=(u11 s c).2) (c' :=(u11 s (u11 s c).2).2) s0h (k:=1) (by omega)
 have b2:=r1o (c:=(u11 s (u11 s c).2).2) (c' :=(r8o s (u11 s (u11 s c).2).2).2) r2p (k:=1) (by omega)
 have b3:bad (r8o s (u11 s (u11 s c).2).2).2 3=3*bad (r8o s (u11 s (u11 s c).2).2).2 1:=by unfold bad;split<;>omega
 refine⟨h5,?_⟩
 have e:u2u.wt (rWr s c).1=(u11 s c).1.size+((u11 s (u11 s c).2).1.size+0):=rfl
 have e2:(rWr s c).2=(r8o s (u11 s (u11 s c).2).2).2:=rfl
 rw[e,e2];omega
theorem r8r (s:Hs):p7w u0g.wt 4 s (q91 s):=fun c h=>by
 obtain⟨h1,h2⟩:=r6n s c h
 obtain⟨h3,h4,h5,h6⟩:=u2s h1
 have b1:=r1o (c:=(rWr s c).2) (c' :=(u2k s (rWr s c).2).2) u56 (k:=3) (by omega)
 have b3:bad (u2k s (rWr s c).2).2 4=bad (u2k s (rWr s c).2).2 1+bad (u2k s (rWr s c).2).2 3:=by unfold bad;split<;>omega
 refine⟨h3,?_⟩
 have e:u0g.wt (q91 s c).1=u2u.wt (rWr s c).1:=rfl
 have e2:(q91 s c).2=(u2k s (rWr s c).2).2:=rfl
 rw[e,e2];omega
theorem q6y (m:Nat) (s:Hs):p7w u1f.wt 20 s (q09 m s):=fun c h=>by
 unfold q09
 simp only
 obtain⟨a1,a2,a3,a4⟩:=u2s h
 generalize hA:u2k s c=A at a1 a2 a3 a4 ⊢
 obtain⟨b1,b2,b3,b4⟩:=u2s a1
 have mB:A.2.2=true→(u2k s A.2).2.2=true:=u56
 generalize hB:u2k s A.2=B at b1 b2 b3 b4 mB ⊢
 obtain⟨d1,d2,d3,d4⟩:=u2s b1
 have mD:B.2.2=true→(u2k s B.2).2.2=true:=u56
 generalize hD:u2k s B.2=D at d1 d2 d3 d4 mD ⊢
 obtain⟨e1,e2,e3,e4⟩:=u2s d1
 have mE:D.2.2=true→(u2k s D.2).2.2=true:=u56
 generalize hE:u2k s D.2=E at e1 e2 e3 e4 mE ⊢
 obtain⟨f1,f2,f3,f4⟩:=u2s e1
 have mF:E.2.2=true→(u2k s E.2).2.2=true:=u56
 generalize hF:u2k s E.2=F at f1 f2 f3 f4 mF ⊢
 obtain⟨g1,g2⟩:=t4d (by omega) (r8q s) (min F.1.toNat m) F.2 [] f1
 have mG:F.2.2=true→(u2r (q9z s) (min F.1.toNat m) F.2 []).2.2=true:=fun q=>by rw[u9w q];exact q
 generalize hG:u2r (q9z s) (min F.1.toNat m) F.2 [] =G at g1 g2 mG ⊢
 obtain⟨k1,k2,k3,k4⟩:=u2s g1
 have mK:G.2.2=true→(u2k s G.2).2.2=true:=u56
 generalize hK:u2k s G.2=K at k1 k2 k3 k4 mK ⊢
 obtain⟨l1,l2⟩:=t4d (by omega) (r6n s) (min K.1.toNat m) K.2 [] k1
 have mL:K.2.2=true→(u2r (rWr s) (min K.1.toNat m) K.2 []).2.2=true:=fun q=>by rw[u9w q];exact q
 generalize hL:u2r (rWr s) (min K.1.toNat m) K.2 [] =L at l1 l2 mL ⊢
 obtain⟨o1,o2⟩:=q9y l1
 have mO:L.2.2=true→(r8o s L.2).2.2=true:=r2p
 generalize hO:r8o s L.2=O at o1 o2 mO ⊢
 obtain⟨p1,p2⟩:=u60 o1
 have mP:O.2.2=true→(u11 s O.2).2.2=true:=s0h
 generalize hP:u11 s O.2=P at p1 p2 mP ⊢
 refine⟨p1,?_⟩
 have e:u1f.wt (A.1,B.1,D.1,E.1,G.1,L.1,O.1,P.1)=0+(0+(0+(0+((Ty.sl t44).wt G.1+((Ty.sl u2u).wt L.1+(0+P.1.size)))))):=rfl
 have eG:(Ty.sl t44).wt G.1=G.1.length+(G.1.map t44.wt).sum:=rfl
 have eL:(Ty.sl u2u).wt L.1=L.1.length+(L.1.map u2u.wt).sum:=rfl
 simp only[Cc,Eh,Gq] at g2 l2
 rw[e,eG,eL]
 by_cases q:P.2.2=true
 ·have:bad P.2 20=20:=by unfold bad;rw[Al q]
  rw[this]
  have t1:=(u6t A.2 (k:=1) (by omega)).2
  have t2:=(u6t B.2 (k:=1) (by omega)).2
  have t3:=(u6t D.2 (k:=1) (by omega)).2
  have t4:=(u6t E.2 (k:=1) (by omega)).2
  have t5:=(u6t F.2 (k:=1) (by omega)).2
  have t6:=(u6t G.2 (k:=2) (by omega)).2
  have t7:=(u6t K.2 (k:=1) (by omega)).2
  have t8:=(u6t L.2 (k:=3) (by omega)).2
  have t9:=(u6t O.2 (k:=1) (by omega)).2
  have t10:=(u6t P.2 (k:=1) (by omega)).2
  omega
 ·have zP:P.2.2=false:=by simpa using q
  have z:∀ {x y:Cur},(x.2=true→y.2=true)→y.2=false→x.2=false:=fun {x y} i j=>by
   cases w:x.2
   ·rfl
   ·rw[i w] at j;cases j
  have zO:=z mP zP
  have zL:=z mO zO
  have zK:=z mL zL
  have zG:=z mK zK
  have zF:=z mG zG
  have zE:=z mF zF
  have zD:=z mE zE
  have zB:=z mD zD
  have zA:=z mB zB
  simp only[bad,zP,zO,zL,zK,zG,zF,zE,zD,zB,zA,Br,Bk] at*
  omega
theorem r3y (m:Nat) (s:Hs):p7w u1f.wt 20 s (u6v m s):=fun c h=>by
 obtain⟨h1,h2⟩:=q6y m s c h
 refine⟨h1,?_⟩
 have:bad (q09 m s c).2 20≤bad (u6v m s c).2 20:=r1o (fun q=>by unfold u6v;simp only[q,Dx]) (by omega)
 have e1:(u6v m s c).1=(q09 m s c).1:=rfl
 have e2:(u6v m s c).2.1=(q09 m s c).2.1:=rfl
 rw[e1,e2];omega
end
section
theorem gt1 (n:Nat):decide ((n:Int) >1)=decide (1<n):=by simp;omega
theorem eq1 (n:Nat):decide ((n:Int)=1)=decide (n=1):=by simp;omega
theorem r76 {E X R U:Type} {s:Hs} (W:X→Ht (R⊕U)) (mk:Cur→Hu E→Int→X) (res:Cur→Hu E→R) (f:Cur→E×Cur) (N:Nat)
 (hf:∀c,inT s c→inT s (f c).2)
 (hend:∀c a (i:Nat),(N≤i∨c.2=true)→W (mk c a (i:Int))=some (.inl (res c a)))
 (hstep:∀c a (i:Nat),i<N→c.2=false→inT s c→a.length≤i→W (mk c a (i:Int))=W (mk (f c).2 (a++ [(f c).1]) ((i+1:Nat):Int))):
 ∀(k i:Nat) c a,i+k=N→inT s c→a.length≤i→W (mk c a (i:Int))=some (.inl (res (u2r f k c a).2 (u2r f k c a).1)):=by
 intro k
 induction k with
 | zero=>intro i c a hi hc ha;exact hend c a i (.inl (by omega))
 | succ k ih=>
  intro i c a hi hc ha
  simp only[u2r]
  split
  ·rename_i q;exact hend c a i (.inr q)
  ·rename_i q
   rw[hstep c a i (by omega) (by simpa using q) hc ha,ih (i+1) _ _ (by omega) (hf c hc) (by simp;omega)]
theorem q76 {E:Type} {w:E→Nat} {k:Int} {s:Hs} {f:Cur→E×Cur} (h:p7w w k s f):∀c,inT s c→inT s (f c).2:=fun c hc=>(h c hc).1
end
section
theorem q90 {m k:Nat} {s:Hs} {c:Cur} (h:inT s c):inT s (t1k m k s c).2∧c.1+((Ty.sl u1f).wt (t1k m k s c).1:Nat)≤(t1k m k s c).2.1+20+1:=by
 obtain⟨h1,h2,h3,h4⟩:=u2s h
 obtain⟨g1,g2⟩:=t4d (by omega) (r3y m s) (min (u2k s c).1.toNat k) (u2k s c).2 [] h1
 refine⟨g1,?_⟩
 have e:(Ty.sl u1f).wt (t1k m k s c).1=(t1k m k s c).1.length+((t1k m k s c).1.map u1f.wt).sum:=rfl
 rw[e]
 have t1:=(u6t (u2k s c).2 (k:=1) (by omega)).2
 have t2:=(u6t (u2r (u6v m s) (min (u2k s c).1.toNat k) (u2k s c).2 []).2 (k:=20) (by omega)).2
 unfold t1k
 simp only[Cc,Eh,Gq] at g2
 omega
theorem q9x (m:Lim) {s:Hs} {c:Cur} (h:inT s c):inT s (s4i m s c).2∧(p92.wt (s4i m s c).1:Int)≤(s.size:Int)+100:=by
 unfold s4i
 simp only
 obtain⟨a1,a2,a3,a4⟩:=u2s h
 obtain⟨b1,b2,b3,b4⟩:=u2s a1
 obtain⟨d1,d2,d3,d4⟩:=u2s b1
 obtain⟨g1,g2⟩:=t4d (by omega) (r8r s) (min (u2k s (u2k s (u2k s c).2).2).1.toNat m.v) (u2k s (u2k s (u2k s c).2).2).2 [] d1
 obtain⟨p1,p2⟩:=q90 (m:=m.t) (k:=m.p) g1
 obtain⟨q1,q2⟩:=q90 (m:=m.t) (k:=m.r) p1
 refine⟨q1,?_⟩
 have t1:=(u6t (u2r (q91 s) (min (u2k s (u2k s (u2k s c).2).2).1.toNat m.v) (u2k s (u2k s (u2k s c).2).2).2 []).2 (k:=4) (by omega)).2
 have u1:=(u6t (u2k s c).2 (k:=1) (by omega)).2
 have u2:=(u6t (u2k s (u2k s c).2).2 (k:=1) (by omega)).2
 have u3:=(u6t (u2k s (u2k s (u2k s c).2).2).2 (k:=1) (by omega)).2
 generalize u2r (q91 s) (min (u2k s (u2k s (u2k s c).2).2).1.toNat m.v) (u2k s (u2k s (u2k s c).2).2).2 [] =vs at*
 simp only[Cc,Eh,Gq] at g2
 have e:=r7b (vs.1,(t1k m.t m.p s vs.2).1,(t1k m.t m.r s (t1k m.t m.p s vs.2).2).1,(u2k s c).1,(u2k s (u2k s c).2).1)
 simp only at e
 have eV:(Ty.sl u0g).wt vs.1=vs.1.length+(vs.1.map u0g.wt).sum:=rfl
 unfold inT at q1 h
 rw[e,eV]
 omega
end
section
theorem t17 {s:Hs} (c:Cur) (hs:s.size≤u0y):u1q (s,c)=some ((u2k s c).1,s,(u2k s c).2):=by
 rw[q3y];unfold r1e u2k
 simp only[r4f s c.1 hs,zOb]
 cases h1:c.2
 ·cases h2:(u0x s c.1).2.2<;>simp
 ·simp
theorem t4g {s:Hs} (c:Cur) (hs:s.size≤u0y):u1d (s,c)=some ((u11 s c).1,s,(u11 s c).2):=by
 rw[s90];unfold t59 u11
 simp only[s7p s c.1 hs,zOb]
 cases h1:c.2
 ·cases h2:(u0u s c.1).2.2
  ·simp[emp]
  ·simp
 ·simp[emp]
theorem r2a {s:Hs} {c:Cur} (hc:inT s c) (hs:s.size≤u0y):u3y (s,c)=some ((r8o s c).1,s,(r8o s c).2):=by
 have hb:u0y=1099511627776:=rfl
 unfold inT at hc
 obtain⟨k,hk⟩:∃k:Nat,c.1=k:=⟨c.1.toNat,by omega⟩
 rw[r3r];unfold t9p r8o
 simp only[hk]
 cases h1:c.2
 ·by_cases h2:k<s.size
  ·have e1:decide ((k:Int)≥(s.size:Int))=false:=A7 (by omega)
   have e3:IntKind.i64.wrap ((k:Int)+1)=(k:Int)+1:=y4u (by omega) (by omega)
   have e5:IntKind.i64.wrap ((k:Int)+1 - 1)=k:=by rw[y4u (by omega) (by omega)];omega
   rw[e1,e3,e5]
   simp only[Aa,zOb,y7s h2,Ad,zTn,gt1,eq1]
   rw[show(s.data.toList.getD k 0).toNat=u9o s k from rfl]
   by_cases h3:1<u9o s k
   ·simp[h3]
   ·have h3' :u9o s k≤1:=by omega
    simp[h3,h3',h2]
  ·have e1:decide ((k:Int)≥(s.size:Int))=true:=Bb (by omega)
   rw[e1]
   simp only[Aa,zOb,Ad]
   rw[Al (.inr (.inl (by omega)))]
 ·simp
theorem r7d {n k:Int} {i:Nat} {c:Cur} (h:min n.toNat k.toNat≤i∨c.2=true):((bif decide ((i:Int)<n) then(bif decide ((i:Int)<k) then some (!c.2) else some false) else some false:Ht Bool))=some false:=by
 rcases h with h | h
 ·by_cases q:(i:Int)<n
  ·rw[Bb q,A7 (show ¬(i:Int)<k by omega)];rfl
  ·rw[A7 q];rfl
 ·rw[h];cases decide ((i:Int)<n)<;>cases decide ((i:Int)<k)<;>rfl
theorem r3i {n k:Int} {i:Nat} {c:Cur} (h:i<min n.toNat k.toNat) (hc:c.2=false):((bif decide ((i:Int)<n) then(bif decide ((i:Int)<k) then some (!c.2) else some false) else some false:Ht Bool))=some true:=by
 rw[Bb (show(i:Int)<n by omega),Bb (show(i:Int)<k by omega),hc];rfl
theorem p31 {s:Hs} (hs:s.size≤u0y) (z t:u0f) (n:Int) {c:Cur} (hc:inT s c) (ht:t.2.2.2.2.1= []):
 u6k (z,(s,c),t,n,0)=some (.inl (z,(s,(u2r (q9z s) (min n.toNat 10) c []).2),(t.1,t.2.1,t.2.2.1,t.2.2.2.1,(u2r (q9z s) (min n.toNat 10) c []).1,t.2.2.2.2.2))):=by
 have L:=r76 (s:=s) u6k (fun(c:Cur) (a:Hu t25) i=>(z,(s,c),((t.1,t.2.1,t.2.2.1,t.2.2.2.1,a,t.2.2.2.2.2):u0f),n,i))
  (fun(c:Cur) (a:Hu t25)=>(z,(s,c),((t.1,t.2.1,t.2.2.1,t.2.2.2.1,a,t.2.2.2.2.2):u0f))) (q9z s) (min n.toNat 10) (q76 (r8q s))
  (fun c a i h=>by rw[s33];simp only[u99];rw[r7d (k:=10) h];rfl)
  (fun c a i h hc2 hin ha=>by
   rw[s33];simp only[u99];rw[r3i (k:=10) h hc2]
   simp only[zOb,Ad]
   rw[t4g c hs]
   simp only[zOb]
   rw[t4g _ hs]
   simp only[zOb]
   rw[p41 (by simp;omega),y7j (by omega)]
   rfl) (min n.toNat 10) 0 c [] (by omega) hc (by simp)
 obtain⟨t1,t2,t3,t4,t5,t6⟩:=t
 simp only at ht
 subst ht
 exact L
theorem p6s {s:Hs} (hs:s.size≤u0y) (z t:u0f) (n:Int) {c:Cur} (hc:inT s c) (ht:t.2.2.2.2.2.1= []):
 u5a (z,(s,c),t,n,0)=some (.inl (z,(s,(u2r (rWr s) (min n.toNat 10) c []).2),(t.1,t.2.1,t.2.2.1,t.2.2.2.1,t.2.2.2.2.1,(u2r (rWr s) (min n.toNat 10) c []).1,t.2.2.2.2.2.2))):=by
 have L:=r76 (s:=s) u5a (fun(c:Cur) (a:Hu WrT) i=>(z,(s,c),((t.1,t.2.1,t.2.2.1,t.2.2.2.1,t.2.2.2.2.1,a,t.2.2.2.2.2.2):u0f),n,i))
  (fun(c:Cur) (a:Hu WrT)=>(z,(s,c),((t.1,t.2.1,t.2.2.1,t.2.2.2.1,t.2.2.2.2.1,a,t.2.2.2.2.2.2):u0f))) (rWr s) (min n.toNat 10) (q76 (r6n s))
  (fun c a i h=>by rw[s0u];simp only[u8w];rw[r7d (k:=10) h];rfl)
  (fun c a i h hc2 hin ha=>by
   rw[s0u];simp only[u8w];rw[r3i (k:=10) h hc2]
   simp only[zOb,Ad]
   rw[t4g c hs]
   simp only[zOb]
   rw[t4g _ hs]
   simp only[zOb]
   rw[r2a (u60 (u60 hin).1).1 hs]
   simp only[zOb]
   rw[p41 (by simp;omega),y7j (by omega)]
   rfl) (min n.toNat 10) 0 c [] (by omega) hc (by simp)
 obtain⟨t1,t2,t3,t4,t5,t6,t7⟩:=t
 simp only at ht
 subst ht
 exact L
theorem q98 {s:Hs} (hs:s.size≤1048576) {a:Int} (hc:inT s (a,false)):
 t3m (s,a)=some (if(u6v 10 s (a,false)).2.2=true then(u30,0,false) else((u6v 10 s (a,false)).1,(u6v 10 s (a,false)).2.1,true)):=by
 have hb:u0y=1099511627776:=rfl
 have hs' :s.size≤u0y:=by omega
 have hw:=q6y 10 s (a,false) hc
 have hin:=hc
 unfold inT at hin
 simp only at hin
 have hwt:u1f.wt (q09 10 s (a,false)).1≤u0y:=by
  have h1:=hw.1
  unfold inT at h1
  have:=(u6t (q09 10 s (a,false)).2 (k:=20) (by omega)).2
  have:=hw.2
  simp only at this
  omega
 have hk:=t1d _ hwt
 rw[r96];unfold s77
 unfold u6v
 unfold q09 at hk ⊢
 simp only at hk ⊢
 rw[t17 _ hs']
 simp only[zOb]
 have i1:=(u2s hc).1
 rw[t17 _ hs']
 simp only[zOb]
 have i2:=(u2s i1).1
 rw[t17 _ hs']
 simp only[zOb]
 have i3:=(u2s i2).1
 rw[t17 _ hs']
 simp only[zOb]
 have i4:=(u2s i3).1
 rw[t17 _ hs']
 simp only[zOb]
 have i5:=(u2s i4).1
 rw[p31 hs' _ _ _ i5 rfl]
 simp only[zOb]
 have i6:=(t4d (by omega) (r8q s) (min (u2k s (u2k s (u2k s (u2k s (u2k s (a,false)).2).2).2).2).1.toNat 10) (u2k s (u2k s (u2k s (u2k s (u2k s (a,false)).2).2).2).2).2 [] i5).1
 rw[t17 _ hs']
 simp only[zOb]
 have i7:=(u2s i6).1
 rw[p6s hs' _ _ _ i7 rfl]
 simp only[zOb]
 rw[r2a (t4d (by omega) (r6n s) _ _ [] i7).1 hs']
 simp only[zOb]
 rw[t4g _ hs']
 simp only[zOb]
 rw[hk]
 simp only[zOb]
 generalize u11 s _=z
 generalize t23 _=o
 cases h:z.2.2<;>cases o<;>simp[u30,emp]
theorem q7f {s:Hs} (hs:s.size≤1048576) (m:Nat) (hm:m≤1000) {c:Cur} (hc:inT s c):
 ∃(l:Hu u0f) (c' :Cur),u7u ((s,c),(m:Int))=some (l,s,c')∧inT s c' ∧c'.2=(t1k 10 (m+1) s c).2.2∧c.1+((Ty.sl u1f).wt l:Nat)≤c'.1+22∧(c'.2=false→(l,c')=t1k 10 (m+1) s c):=by
 have hb:u0y=1099511627776:=rfl
 obtain⟨h1,h2,h3,h4⟩:=u2s hc
 rw[r1x];unfold t7k t1k
 simp only
 rw[t17 c (by omega)]
 simp only[zOb]
 generalize u2k s c=y at h1 h2 h3 h4 ⊢
 have key:∀(k i:Nat) (d:Cur) (a:Hu u0f),i+k=min y.1.toNat (m+1)→inT s d→a.length≤i→y.2.1+((a.length+(a.map u1f.wt).sum:Nat):Int)≤d.1+bad d 20→
  ∃(r:((Hs×Cur)×Hu u0f)⊕((Hs×Cur)×Hu u0f)) (l:Hu u0f) (c' :Cur),u3h ((s,d),(m:Int),a,y.1,(i:Int))=some r∧(r= .inl ((s,c'),l)∨r= .inr ((s,c'),l))∧inT s c' ∧c'.2=(u2r (u6v 10 s) k d a).2.2∧
   y.2.1+((l.length+(l.map u1f.wt).sum:Nat):Int)≤c'.1+bad c' 20∧(c'.2=false→(l,c')=u2r (u6v 10 s) k d a):=by
  intro k
  induction k with
  | zero=>
   intro i d a hi hd ha hw
   refine⟨_,a,d,?_, .inl rfl,hd,rfl,hw,fun _=>rfl⟩
   rw[u46];simp only[u2e]
   have:(bif decide ((i:Int)<y.1) then(bif decide ((i:Int)≤(m:Int)) then some (!d.2) else some false) else some false:Ht Bool)=some false:=by
    by_cases q:(i:Int)<y.1
    ·rw[Bb q,A7 (show ¬(i:Int)≤m by omega)];rfl
    ·rw[A7 q];rfl
   rw[this];rfl
  | succ k ih=>
   intro i d a hi hd ha hw
   by_cases q:d.2=true
   ·refine⟨_,a,d,?_, .inl rfl,hd,by rw[u9w q],hw,fun z=>by rw[q] at z;cases z⟩
    rw[u46];simp only[u2e]
    have:(bif decide ((i:Int)<y.1) then(bif decide ((i:Int)≤(m:Int)) then some (!d.2) else some false) else some false:Ht Bool)=some false:=by
     rw[q];cases decide ((i:Int)<y.1)<;>cases decide ((i:Int)≤(m:Int))<;>rfl
    rw[this];rfl
   ·have q' :d.2=false:=by simpa using q
    have ed:d=(d.1,false):=by rw[←q']
    have hx:=q98 hs (a:=d.1) (by rw[←ed];exact hd)
    rw[←ed] at hx
    have he:=r3y 10 s d hd
    have hbd:bad d 20=0:=by unfold bad;rw[Ao q]
    have c1:(bif decide ((i:Int)<y.1) then(bif decide ((i:Int)≤(m:Int)) then some (!d.2) else some false) else some false:Ht Bool)=some true:=by
     rw[Bb (show(i:Int)<y.1 by omega),Bb (show(i:Int)≤m by omega),q'];rfl
    simp only[u2r]
    rw[Ao q]
    cases z:(u6v 10 s d).2.2
    ·rw[Ao (by rw[z];simp)] at hx
     have hbz:bad (u6v 10 s d).2 20=0:=by unfold bad;rw[Ao (by rw[z];simp)]
     obtain⟨r,l,c',e1,e2,e3,e4,e5,e6⟩:=ih (i+1) (u6v 10 s d).2 (a++ [(u6v 10 s d).1]) (by omega) he.1 (by simp;omega) (by
      have:=he.2
      rw[hbd] at hw
      rw[hbz] at this ⊢
      simp only[Ba,Aw,Dh,C8,Eh,Fn,Ge,Gq]
      omega)
     refine⟨r,l,c',?_,e2,e3,e4,e5,e6⟩
     rw[←e1,u46];simp only[u2e]
     rw[c1]
     simp only[zOb,Ad]
     rw[hx]
     simp only[zOb,Ap,Aa]
     rw[p41 (by simp;omega),y7j (by omega),q']
     have:(u6v 10 s d).2=((u6v 10 s d).2.1,false):=by rw[←z]
     rw[this]
    ·rw[Al z] at hx
     refine⟨_,a,(d.1,true),?_, .inr rfl,hd,by rw[u9w z,z],?_,fun w=>by cases w⟩
     ·rw[u46];simp only[u2e]
      rw[c1]
      simp only[zOb,Ad]
      rw[hx]
      rfl
     ·rw[hbd] at hw
      have:bad ((d.1,true):Cur) 20=20:=rfl
      rw[this];simp only;omega
 have hb0:0≤bad y.2 20:=(u6t _ (by omega)).1
 obtain⟨r,l,c',e1,e2,e3,e4,e5,e6⟩:=key (min y.1.toNat (m+1)) 0 y.2 [] (by omega) h1 (by simp) (by simp only[Cc,Eh,Gq];omega)
 have e1' :u3h ((s,y.2),(m:Int), [],y.1,0)=some r:=e1
 refine⟨l,c',?_,e3,e4,?_,e6⟩
 ·rw[e1']
  rcases e2 with e2 | e2<;>rw[e2] <;>rfl
 ·have e:(Ty.sl u1f).wt l=l.length+(l.map u1f.wt).sum:=rfl
  rw[e]
  have t1:=(u6t y.2 (k:=1) (by omega)).2
  have t2:=(u6t c' (k:=20) (by omega)).2
  omega
def p5j:Lim:=⟨10,130,13,4⟩
theorem p8f:p5j.ok:=⟨by decide,by decide,by decide,by decide⟩
theorem p4c {s:Hs} (hs:s.size≤u0y) (z b:u0k) (n:Int) {c:Cur} (hc:inT s c) (ht:b.1= []):
 u49 (z,(s,c),b,n,0)=some (.inl (z,(s,(u2r (q91 s) (min n.toNat 130) c []).2),((u2r (q91 s) (min n.toNat 130) c []).1,b.2))):=by
 have L:=r76 (s:=s) u49 (fun(c:Cur) (a:Hu u1m) i=>(z,(s,c),((a,b.2):u0k),n,i))
  (fun(c:Cur) (a:Hu u1m)=>(z,(s,c),((a,b.2):u0k))) (q91 s) (min n.toNat 130) (q76 (r8r s))
  (fun c a i h=>by rw[s0t];simp only[u8v];rw[r7d (k:=130) h];rfl)
  (fun c a i h hc2 hin ha=>by
   rw[s0t];simp only[u8v];rw[r3i (k:=130) h hc2]
   simp only[zOb,Ad]
   rw[t4g c hs]
   simp only[zOb]
   rw[t4g _ hs]
   simp only[zOb]
   rw[r2a (u60 (u60 hin).1).1 hs]
   simp only[zOb]
   rw[t17 _ hs]
   simp only[zOb]
   rw[p41 (by simp;omega),y7j (by omega)]
   rfl) (min n.toNat 130) 0 c [] (by omega) hc (by simp)
 obtain⟨b1,b2⟩:=b
 simp only at ht
 subst ht
 exact L
theorem p2y {s:Hs} (hs:s.size≤1048576) {a:Int} (hc:inT s (a,false)):
 t6v (s,a)=some (if(t39 p5j s (a,false)).2.2=true then(u2f,0,false) else((t39 p5j s (a,false)).1,(t39 p5j s (a,false)).2.1,true)):=by
 have hb:u0y=1099511627776:=rfl
 have hs' :s.size≤u0y:=by omega
 have hw:=q9x p5j (s:=s) hc
 have hk:=t2r (s4i p5j s (a,false)).1 (by have:=hw.2;omega)
 rw[r7p];unfold s4z
 unfold t39
 unfold s4i at hk ⊢
 simp only at hk ⊢
 rw[t17 _ hs']
 simp only[zOb]
 have i1:=(u2s hc).1
 rw[t17 _ hs']
 simp only[zOb]
 have i2:=(u2s i1).1
 rw[t17 _ hs']
 simp only[zOb]
 have i3:=(u2s i2).1
 rw[p4c hs' _ _ _ i3 rfl]
 simp only[zOb]
 have i4f:=t4d (by omega) (r8r s) (min (u2k s (u2k s (u2k s (a,false)).2).2).1.toNat 130) (u2k s (u2k s (u2k s (a,false)).2).2).2 [] i3
 rw[show p5j.v=130 from rfl,show p5j.t=10 from rfl,show p5j.p=12+1 from rfl,show p5j.r=3+1 from rfl] at hk ⊢
 generalize hvs:u2r (q91 s) (min (u2k s (u2k s (u2k s (a,false)).2).2).1.toNat 130) (u2k s (u2k s (u2k s (a,false)).2).2).2 [] =vs at hk i4f ⊢
 obtain⟨i4,i4w⟩:=i4f
 obtain⟨l1,d1,e1,e2,e3,e4,e5⟩:=q7f hs 12 (by omega) i4
 obtain⟨l2,d2,f1,f2,f3,f4,f5⟩:=q7f hs 3 (by omega) e2
 rw[show((12:Nat):Int)=12 from rfl] at e1
 rw[show((3:Nat):Int)=3 from rfl] at f1
 rw[e1]
 simp only[zOb]
 rw[f1]
 simp only[zOb]
 cases z:d2.2
 ·have z1:d1.2=false:=by
   cases w:d1.2
   ·rfl
   ·have:(t1k 10 (3+1) s d1).2.2=true:=s6e w
    rw[←f3,z] at this;cases this
  have g1:=e5 z1
  have g2:=f5 z
  rw[←g1]
  rw[←g1] at hk
  simp only at hk ⊢
  rw[←g2]
  rw[←g2] at hk
  simp only at hk ⊢
  rw[hk]
  simp only[zOb,z,Aa,Ci]
  generalize t2p _=o
  cases o<;>simp[u2f]
 ·have zz:(t1k 10 (3+1) s (t1k 10 (12+1) s vs.2).2).2.2=true:=by
   cases w:d1.2
   ·have g1:=e5 w
    rw[←g1]
    show(t1k 10 (3+1) s d1).2.2=true
    rw[←f3];exact z
   ·exact s6e (by rw[←e3];exact w)
  rw[zz]
  simp[u2f]
theorem q64 {t:Hs} (h:4≤t.size):s7i (t.extract 0 (t.size - 4))=t↔t.extract (t.size - 4) t.size=o1w (p8w (t.extract 0 (t.size - 4))):=by
 have e:t.extract 0 (t.size - 4)++t.extract (t.size - 4) t.size=t:=by
  rw[ByteArray.extract_append_extract,Nat.zero_min,Nat.max_eq_right (by omega)]
  exact Fu
 unfold s7i
 constructor
 ·intro q
  have:=e.trans q.symm
  exact ByteArray.append_right_inj (t.extract 0 (t.size - 4)) |>.mp this
 ·intro q;rw[←q,e]
theorem p0k (t:Hs) (ht:t.size≤1099511627776):t78 t=some (p8w t):=by
 rw[r4x];unfold s43
 rw[r4g _ _ ht];rfl
theorem p18 (x:Int):t3q x=some (o1w x):=by
 rw[s86];rfl
theorem q2t (t:Hs) (ht:t.size≤u0y):t6x t=some (match t3w t with
 | some s=>(s,true)
 | none=>(emp,false)):=by
 have hb:u0y=1099511627776:=rfl
 rw[r7t];unfold s44 t3w
 rw[y4u (n:=(t.size:Int) - 4) (by omega) (by omega)]
 by_cases h4:t.size<4
 ·rw[Bb (show(t.size:Int) - 4<0 by omega),Ao (by omega)];rfl
 ·rw[A7 (show ¬(t.size:Int) - 4<0 by omega)]
  have c1:(decide ((0:Int)≤0)&&decide ((0:Int)≤(t.size:Int) - 4)&&decide ((t.size:Int) - 4≤(t.size:Int)))=true:=by simp;omega
  have c2:(decide ((0:Int)≤(t.size:Int) - 4)&&decide ((t.size:Int) - 4≤(t.size:Int))&&decide ((t.size:Int)≤(t.size:Int)))=true:=by simp;omega
  have e1:((t.size:Int) - 4).toNat=t.size - 4:=by omega
  rw[c1,c2,e1,show((0:Int)).toNat=0 from rfl,zTn]
  have hz:(t.extract 0 (t.size - 4)).size=t.size - 4:=by simp
  simp only[Aa,Ad]
  by_cases h5:t.size - 4≤20000
  ·rw[A7 (show ¬(t.size:Int) - 4 >20000 by omega),p0k _ (by rw[hz];omega)]
   simp only[zOb,Aa]
   rw[p18]
   simp only[zOb]
   by_cases h6:s7i (t.extract 0 (t.size - 4))=t
   ·rw[Al ⟨by omega,h5,h6⟩,(q64 (by omega)).mp h6,y6j];rfl
   ·rw[Ao (fun q=>h6 q.2.2),q8p.mpr (mt (q64 (t:=t) (by omega)).mpr h6)];rfl
  ·rw[Bb (show(t.size:Int) - 4 >20000 by omega),Ao (fun q=>h5 q.2.1)];rfl
end
section
def noR:t9h:=(0,u30,emp,false,u2f)
def s0i (t:Hs):t9h×Bool:=match u25 t with
 | some r=>(r,true)
 | none=>(noR,false)
theorem p54 {t:Hs} {r:t9h} (h:u0z r=(t,true)):u25 t=some r:=by
 have hr:u9f r=true:=by
  cases q:u9f r with
  | true=>rfl
  | false=>
   unfold u0z at h
   rw[Ao (by simp[q])] at h
   simp at h
 have hR:=p7e.mp hr
 rw[u8k hR] at h
 rw[←(Dv h).1]
 exact s6f hR
theorem p53 {t s:Hs} {r:t9h} (hu:t3w t=some s) (h:u25 t=some r):RecR r∧s=s6i r∧u0z r=(t,true):=by
 obtain⟨h1,h2⟩:=r2r h
 have hs:=s0j h1
 have:=r2y (t:=s6i r) (by omega)
 rw[←h2,hu] at this
 exact⟨h1,Ds this,by rw[u8k h1,←h2]⟩
theorem q36 {t s:Hs} {r' :t9h} {b:Bool} (hu:t3w t=some s) (hr:∀r,RecR r→s=s6i r→r' =r∧b=false):
 (((bif b then some true else(bif (!(u0z r').2) then some true else some (!z7l (u0z r').1 t))):Ht Bool).bind fun j=>bif j then some (noR,false) else some (r',true))=some (s0i t):=by
 unfold s0i
 cases h:u25 t with
 | some r=>
  obtain⟨h1,h2,h3⟩:=p53 hu h
  obtain⟨e1,e2⟩:=hr r h1 h2
  subst e1
  rw[e2,h3]
  simp only[Aa,Ap,y6j,zOb]
 | none=>
  cases b
  ·cases h2:(u0z r').2
   ·rfl
   ·have:z7l (u0z r').1 t=false:=by
     rw[q8p]
     intro e
     have:=p54 (t:=t) (r:=r') (by rw[←e,←h2])
     rw[h] at this;cases this
    rw[this];rfl
  ·rfl
theorem p40 (s:Hs):((s.data.toList.getD 0 0).toNat:Int)=(u9o s 0:Int):=rfl
theorem p20 (s:Hs) (i:Nat):u9o s i<256:=by unfold u9o;exact Fw _
theorem q4r {t s:Hs} (h:t3w t=some s):s.size≤20000:=by
 unfold t3w at h
 split at h
 ·rename_i q
  have:=Ds h
  rw[←this];simp;omega
 ·cases h
theorem o55 (k:Nat):decide ((k:Int)=3)=decide (k=3):=by simp;omega
theorem o56 (k:Nat):decide ((k:Int)=4)=decide (k=4):=by simp;omega
theorem q4y:u1f.wt u30=0:=rfl
theorem q4x:p92.wt u2f=0:=rfl
theorem p5r (m:Nat) {s:Hs} (hs:s.size≤20000) (h1:1≤s.size):u1f.wt (u6v m s (1,false)).1≤30000:=by
 have h:=r3y m s (1,false) ⟨by simp,by simp;omega⟩
 have h2:=h.1
 unfold inT at h2
 have:=(u6t (u6v m s (1,false)).2 (k:=20) (by omega)).2
 have:=h.2
 simp only at this
 omega
theorem p3m (m:Lim) {s:Hs} (hs:s.size≤20000) (h1:1≤s.size):p92.wt (t39 m s (1,false)).1≤30000:=by
 have h:=q9x m (s:=s) (c:=(1,false)) ⟨by simp,by simp;omega⟩
 have e:(t39 m s (1,false)).1=(s4i m s (1,false)).1:=rfl
 rw[e];have:=h.2;omega
theorem r6z (t:Hs) (ht:t.size≤u0y):t2y t=some (s0i t):=by
 have hb:u0y=1099511627776:=rfl
 rw[r3k];unfold t9i
 rw[q2t t ht]
 simp only[zOb]
 cases hu:t3w t with
 | none=>
  unfold s0i u25
  rw[hu];rfl
 | some s=>
  have hs:=q4r hu
  simp only[s1c]
  by_cases h0:s.size=0
  ·unfold s0i u25
   rw[hu]
   simp only
   rw[Al h0,Bb h0];rfl
  ·have hin:inT s (1,false):=⟨by simp,by simp;omega⟩
   rw[A7 h0]
   simp only[Ap,Aa,zOb]
   rw[show y4l (0:Int) s.size=true from y7s (i:=0) (by omega)]
   simp only[Ad,show((0:Int)).toNat=0 from rfl,p40]
   rw[y4u (n:=(u9o s 0:Int)) (by omega) (by have:=p20 s 0;omega),o55,o56]
   by_cases h3:u9o s 0=3
   ·rw[Bb h3,t4g _ (by omega)]
    simp only[Ad,zOb]
    rw[r2a (u60 hin).1 (by omega)]
    simp only[zOb]
    have hf:=(u60 hin).2
    have hg:=(u60 hin).1
    unfold inT at hg
    have:=(u6t (u11 s (1,false)).2 (k:=1) (by omega)).2
    simp only at hf
    have hk:=u47 ((u9o s 0:Int),u30,(u11 s (1,false)).1,(r8o s (u11 s (1,false)).2).1,u2f) (by rw[q2a];simp only[q4y,q4x];omega)
    rw[show((0:Int),(0:Int),(0:Int),(0:Int),([] :Hu t25),([] :Hu WrT),false,(⟨#[]⟩:Hs))=u30 from rfl]
    rw[show(([] :Hu u1m),([] :Hu u0f),([] :Hu u0f),(0:Int),(0:Int))=u2f from rfl]
    rw[hk]
    simp only[zOb]
    refine q36 hu (b:=false) fun r h1 h2=> ?_
    have:=s68 h1
    rw[←h2] at this
    unfold t2k at this
    rw[Al h3] at this
    rw[h3]
    exact⟨(Dv this).1,rfl⟩
   ·rw[A7 h3]
    by_cases h4:u9o s 0=4
    ·rw[Bb h4,p2y (by omega) hin]
     simp only[Ad,Aa,zOb]
     generalize hy:(if(t39 p5j s (1,false)).2.2=true then(u2f,(0:Int),false) else((t39 p5j s (1,false)).1,(t39 p5j s (1,false)).2.1,true))=y
     have hyw:p92.wt y.1≤30000:=by
      rw[←hy]
      split
      ·rw[q4x];omega
      ·exact p3m p5j hs (by omega)
     have hk:=u47 ((u9o s 0:Int),u30,emp,false,y.1) (by rw[q2a];simp only[q4y];simp only[emp,ByteArray.size];simp;omega)
     rw[show((0:Int),(0:Int),(0:Int),(0:Int),([] :Hu t25),([] :Hu WrT),false,(⟨#[]⟩:Hs))=u30 from rfl]
     rw[show(([] :Hu u1m),([] :Hu u0f),([] :Hu u0f),(0:Int),(0:Int))=u2f from rfl]
     rw[show((⟨#[]⟩:Hs))=emp from rfl]
     rw[hk]
     simp only[zOb]
     refine q36 hu (b:=false) fun r h1 h2=> ?_
     have:=s68 h1
     rw[←h2] at this
     unfold t2k at this
     rw[Ao h3,Al h4] at this
     have hl:=p08 p3h p8f (Dv this).2
     rw[hl,Ao (by rw[(Dv this).2];simp)] at hy
     rw[h4,←hy]
     exact⟨(Dv this).1,rfl⟩
    ·rw[A7 h4,q98 (by omega) hin]
     simp only[Ad,Aa,zOb]
     generalize hy:(if(u6v 10 s (1,false)).2.2=true then(u30,(0:Int),false) else((u6v 10 s (1,false)).1,(u6v 10 s (1,false)).2.1,true))=y
     have hyw:u1f.wt y.1≤30000:=by
      rw[←hy]
      split
      ·rw[q4y];omega
      ·exact p5r 10 hs (by omega)
     have hk:=u47 ((u9o s 0:Int),y.1,emp,false,u2f) (by rw[q2a];simp only[q4x];simp only[emp,ByteArray.size];simp;omega)
     rw[show((0:Int),(0:Int),(0:Int),(0:Int),([] :Hu t25),([] :Hu WrT),false,(⟨#[]⟩:Hs))=u30 from rfl]
     rw[show(([] :Hu u1m),([] :Hu u0f),([] :Hu u0f),(0:Int),(0:Int))=u2f from rfl]
     rw[show((⟨#[]⟩:Hs))=emp from rfl]
     rw[hk]
     simp only[zOb]
     refine q36 hu (b:=false) fun r h1 h2=> ?_
     have:=s68 h1
     rw[←h2] at this
     unfold t2k at this
     rw[Ao h3,Ao h4] at this
     have hl:=q6p (m:=9) (m' :=10) (by omega) (by omega) (Dv this).2
     rw[hl,Ao (by rw[(Dv this).2];simp)] at hy
     rw[←hy]
     exact⟨(Dv this).1,rfl⟩
end
section
theorem r4c (b:u0k) (n:Hs) (hb:fewB b):t3j (b,n)=some (u50 b n):=by
 obtain⟨hb1,hb2,hb3⟩:=hb
 have L:=t7f u6i b.2.2.1 (fun(a:Hu u0f) i=>(n,b,u2f,((b.1,b.2.1,a,b.2.2.2):u0k),i)) (fun x:u0f=> !z7l x.2.2.2.2.2.2.2 n) (fun x=>x) (fun a=> .inl (u2f,((b.1,b.2.1,a,b.2.2.2):u0k))) (by have:=hb3.1;omega)
  (fun a _=>by rw[s3z];simp only[u95,u0b,Am,Ah,Aa])
  (fun i hi a ha=>by
   have hm:=Ag hi
   have:=hb3.1
   rw[s3z];simp only[u95,u0b,hi,Ae,Ad,y7s hi,zTn,y8l (t:=u1f) hi,y7j (show i<4611686018427387904 by omega)]
   rw[u59 _ (hb3.2 _ hm)]
   simp only[zOb]
   rw[p41 (by simp;omega)])
 rw[Er] at L
 rw[r90];unfold s71
 simp only
 rw[t09 b ⟨hb1,hb2,hb3⟩]
 simp only[zOb]
 have L' :u6i (n,b,(([], [], [],0,0):u0k),((b.1,b.2.1, [],b.2.2.2):u0k),0)=_:=L
 rw[L']
 rfl
theorem p5t (p q:u0f→Bool) (l:Hu u0f) (d:u0f) (hl:l.length≤4194304):(l.filter p).length+ [d].length≤1099511627776∧(l.filter p++ [d]).length+(l.filter q).length≤1099511627776∧(l.filter p++ [d]).length≤8000000:=by
 have f1:=t6g p l
 have f2:=t6g q l
 rw[Ba,Aw]
 omega
theorem r8u (b z:u0k) (t d:u0f) (n:Hs) (hb:fewB b):u22 (n,b,t,z,((b.1,b.2.1, [],b.2.2.2):u0k),d,0)=
 some (.inl (n,b,t,z,((b.1,b.2.1,b.2.2.1.filter (fun x=>y2y x.2.2.2.2.2.2.2 n),b.2.2.2):u0k),d)):=by
 have hl:=hb.2.2.1
 have L:=t7f u22 b.2.2.1 (fun(a:Hu u0f) i=>(n,b,t,z,((b.1,b.2.1,a,b.2.2.2):u0k),d,i)) (fun x:u0f=>y2y x.2.2.2.2.2.2.2 n) (fun x=>x) (fun a=> .inl (n,b,t,z,((b.1,b.2.1,a,b.2.2.2):u0k),d)) (by omega)
  (fun a _=>by rw[t8i];simp only[u7d,u0b,Am,Ah,Aa])
  (fun i hi a ha=>by
   have hm:=Ag hi
   rw[t8i];simp only[u7d,u0b,hi,Ae,Ad,y7s hi,zTn,y8l (t:=u1f) hi,y7j (show i<4611686018427387904 by omega)]
   rw[u59 _ (hb.2.2.2 _ hm)]
   simp only[zOb]
   rw[p41 (by simp;omega)])
 rw[Er] at L
 exact L
theorem r48 (b z:u0k) (t:u0f) (n:Hs) (hb:fewB b) (pre:Hu u0f) (hp:pre.length≤8000000):u2m (n,b,t,z,((b.1,b.2.1,pre,b.2.2.2):u0k),0)=
 some (.inl (t,z,((b.1,b.2.1,pre++b.2.2.1.filter (fun x=> !y2y x.2.2.2.2.2.2.2 n),b.2.2.2):u0k))):=by
 have hl:=hb.2.2.1
 have L:=t7f u2m b.2.2.1 (fun(a:Hu u0f) i=>(n,b,t,z,((b.1,b.2.1,pre++a,b.2.2.2):u0k),i)) (fun x:u0f=> !y2y x.2.2.2.2.2.2.2 n) (fun x=>x) (fun a=> .inl (t,z,((b.1,b.2.1,pre++a,b.2.2.2):u0k))) (by omega)
  (fun a _=>by rw[t65];simp only[u5q,u0b,Am,Ah,Aa])
  (fun i hi a ha=>by
   have hm:=Ag hi
   rw[t65];simp only[u5q,u0b,hi,Ae,Ad,y7s hi,zTn,y8l (t:=u1f) hi,y7j (show i<4611686018427387904 by omega)]
   rw[u59 _ (hb.2.2.2 _ hm)]
   simp only[zOb]
   rw[p41 (by simp;omega),Bi])
 rw[Er,Bw] at L
 exact L
theorem s7n (b:u0k) (t:u0f) (n:Hs) (hb:fewB b) (ht:r3u t) (hi:p15 t.1):u3b (b,t,n)=some (u1a b t n):=by
 have hl:=hb.2.2.1
 have pl:=fun d=>p5t (fun x:u0f=>y2y x.2.2.2.2.2.2.2 n) (fun x:u0f=> !y2y x.2.2.2.2.2.2.2 n) b.2.2.1 d hl
 rw[r5s];unfold s2d
 simp only
 rw[t09 b hb]
 simp only[zOb]
 rw[u59 t ht]
 simp only[zOb]
 rw[r3d t b.2.1 ht hb.2.1]
 simp only[zOb]
 rw[r8u _ _ _ _ _ hb,r8u _ _ _ _ _ hb]
 simp only[zOb]
 rw[p41 (pl _).1,p41 (pl _).1,r48 _ _ _ _ hb _ (pl _).2.2,r48 _ _ _ _ hb _ (pl _).2.2]
 simp only[zOb,t5x hi]
 have key:∀(o:Bool),(bif decide (t.1≥b.2.2.2.2) then some ((b.1,b.2.1,(b.2.2.1.filter fun x=>y2y x.2.2.2.2.2.2.2 n)++ [((t.1,(2:Int),t.2.2.1,t.2.2.2.1,t.2.2.2.2.1,t.2.2.2.2.2.1,o,n):u0f)] ++(b.2.2.1.filter fun x=> !y2y x.2.2.2.2.2.2.2 n),b.2.2.2.1,t.1+1):u0k)
  else some (b.1,b.2.1,(b.2.2.1.filter fun x=>y2y x.2.2.2.2.2.2.2 n)++ [((t.1,(2:Int),t.2.2.1,t.2.2.2.1,t.2.2.2.2.1,t.2.2.2.2.2.1,o,n):u0f)] ++(b.2.2.1.filter fun x=> !y2y x.2.2.2.2.2.2.2 n),b.2.2.2))=
  some (b.1,b.2.1,(b.2.2.1.filter fun x=>y2y x.2.2.2.2.2.2.2 n)++ [((t.1,(2:Int),t.2.2.1,t.2.2.2.1,t.2.2.2.2.1,t.2.2.2.2.2.1,o,n):u0f)] ++(b.2.2.1.filter fun x=> !y2y x.2.2.2.2.2.2.2 n),b.2.2.2.1,u01 b.2.2.2.2 t.1):=fun o=>by
  unfold u01
  by_cases h:t.1<b.2.2.2.2
  ·rw[A7 (by omega),Al h];rfl
  ·rw[Bb (by omega),Ao h];rfl
 unfold u1a u2b
 cases t.2.2.2.2.2.2.1
 ·exact key _
 ·exact key _
end
section
structure tinyT (t:u0f):Prop where
 rl:t.2.2.2.2.1.length≤100
 rs:∀r∈t.2.2.2.2.1,r.1.size≤100∧r.2.size≤100
 wl:t.2.2.2.2.2.1.length≤100
 ws:∀w∈t.2.2.2.2.2.1,w.1.size≤100∧w.2.1.size≤100
 nm:t.2.2.2.2.2.2.2.size≤100
structure tinyB (b:u0k):Prop where
 vl:b.1.length≤10000
 vs:∀v∈b.1,v.1.size≤100∧v.2.1.size≤100
 pl:b.2.1.length≤1000
 ps:∀t∈b.2.1,tinyT t
 rl:b.2.2.1.length≤1000
 rs:∀t∈b.2.2.1,tinyT t
theorem s0l {α:Type} {f:α→Nat} {k:Nat} :∀ {l:Hu α},(∀x∈l,f x≤k)→(l.map f).sum≤l.length*k
 | [],_=>by simp
 | x::l,h=>by
  rw[C8,Ge,Bc,C7]
  have h1:=h x (by simp)
  have h2:=s0l (l:=l) (fun y hy=>h y (by simp[hy]))
  omega
theorem tinyT.wt {t:u0f} (h:tinyT t):u1f.wt t≤50000:=by
 have e1:(Ty.sl t44).wt t.2.2.2.2.1=t.2.2.2.2.1.length+(t.2.2.2.2.1.map t44.wt).sum:=rfl
 have e2:(Ty.sl u2u).wt t.2.2.2.2.2.1=t.2.2.2.2.2.1.length+(t.2.2.2.2.2.1.map u2u.wt).sum:=rfl
 have s1:(t.2.2.2.2.1.map t44.wt).sum≤t.2.2.2.2.1.length*200:=s0l fun r hr=>by
  have:=h.rs r hr
  have e:t44.wt r=r.1.size+r.2.size:=rfl
  omega
 have s2:(t.2.2.2.2.2.1.map u2u.wt).sum≤t.2.2.2.2.2.1.length*200:=s0l fun w hw=>by
  have:=h.ws w hw
  have e:u2u.wt w=w.1.size+(w.2.1.size+0):=rfl
  omega
 have:=h.rl;have:=h.wl;have:=h.nm
 rw[p7h,e1,e2]
 omega
theorem tinyT.few {t:u0f} (h:tinyT t):r3u t:=⟨by have:=h.rl;omega,by have:=h.wl;omega⟩
theorem TxnR.tiny {t:u0f} (h:TxnR t):tinyT t:=by
 obtain⟨z1,z2,z3,z4,z5⟩:=h.small
 exact⟨by have:=h.rlen;omega,fun r hr=>by have:=z1 r hr;omega,by omega,fun w hw=>by have:=z2 w hw;omega,by omega⟩
theorem tinyT.like {t u:u0f} (h:tinyT t) (e1:u.2.2.2.2.1=t.2.2.2.2.1) (e2:u.2.2.2.2.2.1=t.2.2.2.2.2.1) (e3:u.2.2.2.2.2.2.2.size≤100):tinyT u:=
 ⟨by rw[e1];exact h.rl,by rw[e1];exact h.rs,by rw[e2];exact h.wl,by rw[e2];exact h.ws,e3⟩
theorem q4n {l:Hu u0f} (hl:l.length≤1000) (h:∀t∈l,tinyT t):(Ty.sl u1f).wt l≤60000000:=by
 have e:(Ty.sl u1f).wt l=l.length+(l.map u1f.wt).sum:=rfl
 have s:(l.map u1f.wt).sum≤l.length*50000:=s0l fun t ht=>(h t ht).wt
 rw[e];omega
theorem tinyB.wt {b:u0k} (h:tinyB b):p92.wt b≤200000000:=by
 have e:(Ty.sl u0g).wt b.1=b.1.length+(b.1.map u0g.wt).sum:=rfl
 have s:(b.1.map u0g.wt).sum≤b.1.length*200:=s0l fun v hv=>by
  have:=h.vs v hv
  have e:u0g.wt v=v.1.size+(v.2.1.size+(0+0)):=rfl
  omega
 have h1:=q4n h.pl h.ps
 have h2:=q4n h.rl h.rs
 have:=h.vl
 rw[r7b,e];omega
theorem r2u {l:Hu u0f} (hl:l.length≤1000) (h:∀t∈l,tinyT t):p00 l:=⟨by omega,fun t ht=>(h t ht).few⟩
theorem tinyB.few {b:u0k} (h:tinyB b):fewB b:=⟨by have:=h.vl;omega,r2u h.pl h.ps,r2u h.rl h.rs⟩
theorem BaseR.tiny {b:u0k} (h:BaseR b):tinyB b:=by
 obtain⟨w1,w2,w3⟩:=p4m.mp h.vs
 exact⟨by omega,fun v hv=>by have:=s1y (w1 v hv);omega,by have:=h.plen;omega,fun t ht=>(h.past t ht).1.tiny,by have:=h.rlen;omega,fun t ht=>(h.ready t ht).1.tiny⟩
theorem q8t {b:u0k} (h:tinyB b) (o:Hu u0f):tinyB (u2c b o):=
 ⟨A9 (q8w _ _) h.vl,fun v hv=>h.vs v ((u35 _ _).subset hv),A9 (t6g _ _) h.pl,fun t ht=>h.ps t (A6.mp ht).1,h.rl,h.rs⟩
theorem s6k {b:u0k} {t:u0f} (h:BaseR b) (ht:tinyT t):tinyB (u04 b t):=by
 obtain⟨w1,w2,w3⟩:=p4m.mp h.vs
 have hb:=h.tiny
 refine⟨?_,fun v hv=> ?_,?_,fun x hx=> ?_,?_,fun x hx=> ?_⟩
 ·show(t05 b.1 t.2.2.2.2.2.1 (b.2.2.2.1+1)).length≤10000
  rw[r2o];have:=ht.wl
  have e:(t.2.2.2.2.2.1:Hu u2u.den).length=t.2.2.2.2.2.1.length:=rfl
  omega
 ·rcases(u2w _ _ _).mp hv with q | ⟨w,hw,rfl⟩
  ·exact hb.vs v q
  ·exact ht.ws w hw
 ·show(b.2.1++ [u41 b t]).length≤1000
  have:=h.plen
  rw[Ba,Aw];omega
 ·rcases Ay.mp hx with q | q
  ·exact hb.ps x q
  ·rw[Ax.mp q]
   exact ht.like rfl rfl (Cn _)
 ·show((b.2.2.1.filter fun x=> !decide (x.1=t.1)).map (q1w (u41 b t))).length≤1000
  rw[Da]
  exact A9 (t6g _ _) hb.rl
 ·obtain⟨y,hy,rfl⟩:=Bx.mp hx
  have:=hb.rs y (A6.mp hy).1
  exact this.like rfl rfl this.nm
theorem q19 {b:u0k} {t:u0f} {n:Hs} (h:BaseR b) (ht:tinyT t) (hn:n.size≤100):tinyB (u1a b t n):=by
 have hb:=h.tiny
 refine⟨hb.vl,hb.vs,hb.pl,hb.ps,?_,fun x hx=> ?_⟩
 ·show((b.2.2.1.filter fun x=>y2y x.2.2.2.2.2.2.2 n)++ [u2b b t n] ++(b.2.2.1.filter fun x=> !y2y x.2.2.2.2.2.2.2 n)).length≤1000
  have f1:=t6g (fun x:u0f=>y2y x.2.2.2.2.2.2.2 n) b.2.2.1
  have f2:=t6g (fun x:u0f=> !y2y x.2.2.2.2.2.2.2 n) b.2.2.1
  have:=h.rlen
  rw[Ba,Ba,Aw];omega
 ·rcases Ay.mp hx with q | q
  ·rcases Ay.mp q with q | q
   ·exact hb.rs x (A6.mp q).1
   ·rw[Ax.mp q]
    exact ht.like rfl rfl hn
  ·exact hb.rs x (A6.mp q).1
theorem q1z {b:u0k} {n:Hs} (hb:tinyB b):tinyB (u50 b n):=
 ⟨hb.vl,hb.vs,hb.pl,hb.ps,A9 (t6g _ _) hb.rl,fun x hx=>hb.rs x (A6.mp hx).1⟩
structure tinyR (r:t9h):Prop where
 t:tinyT r.2.1
 n:r.2.2.1.size≤100
 b:tinyB r.2.2.2.2
theorem tinyR.wt {r:t9h} (h:tinyR r):o21.wt r≤549755813888:=by
 have:=h.t.wt;have:=h.n;have:=h.b.wt
 rw[q2a];omega
theorem t24:tinyT u30:=⟨by decide,fun r hr=>(by cases hr),by decide,fun r hr=>(by cases hr),by decide⟩
theorem u66:tinyB u2f:=⟨by decide,fun r hr=>(by cases hr),by decide,fun r hr=>(by cases hr),by decide,fun r hr=>(by cases hr)⟩
theorem p5p:tinyR noR:=⟨t24,by decide,u66⟩
theorem RecR.tiny {r:t9h} (h:RecR r):tinyR r:=by
 cases h with
 | thr t h hs=>exact⟨h.tiny,Cn 100,u66⟩
 | rdy t h hs=>exact⟨h.tiny,Cn 100,u66⟩
 | fin n y h=>exact⟨t24,by have:=u1w h;show n.size≤100;omega,u66⟩
 | bas b h=>exact⟨t24,Cn 100,h.tiny⟩
def r3z (b:u0k) (r:t9h):u0k×Bool:=match u5l b r with
 | some x=>(x,true)
 | none=>(b,false)
theorem q8c {n:Int} (h:0≤n∧n≤9999):p15 n:=⟨by omega,by omega⟩
theorem r8k {n:Int} (h:1≤n∧n≤9999):p15 n:=⟨by omega,by omega⟩
end
end
end Go.Proofs.YtdeadnnhblaflaaGreatDoor.Ab
