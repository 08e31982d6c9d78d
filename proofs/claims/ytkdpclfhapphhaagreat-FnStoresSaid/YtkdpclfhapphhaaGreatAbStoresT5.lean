import Derived.Test.YtkdpclfhapphhaaGreatAbStoresT4
import Derived.Test.YtkdpclfhapphhaaGreatAbK2
import Derived.Test.YtkdpclfhapphhaaGreatAbF4
import Derived.Test.YtkdpclfhapphhaaGreatAbS2
namespace Go.Proofs.YtkdpclfhapphhaaGreat.Ab
open Go
set_option linter.unusedVariables false
set_option linter.unusedSimpArgs false
set_option linter.unnecessarySimpa false
section
section
theorem j3g {e:u2v} (h:EngR e):u70 e=some e:=p66 e.1 e.2 h.fewB h.fewO
theorem q8i {e:u2v} (h:EngR e) (id:Int):s23 (e,id)=some (e.1,s1l e id):=by
 have ho:=h.olen
 have h1:=j3g h
 have h2:=p4y e.2 id (by omega)
 rw[p5s];unfold q1c
 simp only[h1,h2,zOb]
 rfl
theorem p7b {e:u2v} (h:EngR e) (id:Int):s8i (e,id)=some (r1h e id):=by
 have ho:=h.olen
 have h1:=q8i h id
 have h2:=q3l e id (by omega)
 have h3:=t4n e.1 (s1l e id) h.fewB (by have:=o6k e id;omega)
 rw[o1w];unfold q8m r1h
 simp only[h1,h2,zOb]
 by_cases hn:u55 e.2 id<0
 ·simp only[hn,Ae,Ad,Bl,o9v hn]
 ·simp only[hn,Ah,Aa,Bk,h3,zOb]
  rfl
theorem o65 {e:u2v} (h:EngR e):s8k e=some (t39 e):=by
 have h1:=h.base.plen
 have h2:=h.base.rlen
 have e1: [e.1.2.1,e.1.2.2.1].flatten=t39 e:=by simp[t39]
 have L:=q60 [e.1.2.1,e.1.2.2.1] (by rw[e1];simp only[t39,Ba];omega) (by simp)
 rw[e1] at L
 rw[o2b];unfold q8s
 simp only[L,zOb]
theorem EngR.unlike {e:u2v} (h:EngR e) {t:u0g} (ht:t∈e.2):∀x∈t39 e,(!decide (x.1=t.1))=true:=fun x hx=>by
 have:=h.apart x hx t ht
 simpa using this
theorem o4o {e:u2v} (h:EngR e) {t:u0g} (ht:t∈e.2):o4n t (t39 e)=q2j t (t39 e):=
 o1r fun x hx=>(h.unlike ht x hx).symm
theorem o6z {e:u2v} (h:EngR e) (id:Int):r80 (e,id)=some (s52 e id):=by
 have ho:=h.olen
 have h2:=q3l e id (by omega)
 have h3:=o65 h
 have h4:=o9a e.1
 rw[o1u];unfold q8k s52
 simp only[h2,h3,zOb]
 by_cases hn:u55 e.2 id<0
 ·simp only[hn,Ae,Ad,Bl]
 ·obtain⟨j,hj,e1,e2,e3⟩:=u2c hn
  have hm:=Ag hj
  have hT:=(h.ot hm).few
  simp only[hn,Ah,Aa,Bk,e1,y7t hj,Ad,zTn,y8k (t:=u0x) hj,o00 _ _ hT h.fewOth,o36 _ _ hT h.fewOth,o4o h hm,h4,zOb,e2]
  have hn' : ¬((j:Int)<0):=by omega
  simp only[hn',Ah,Aa,Bk]
  cases r8b e.2[j] (t39 e)<;>cases q2j e.2[j] (t39 e)<;>cases q0f e.1<;>rfl
theorem j0w {e:u2v} (h:EngR e) {t:u0g} (ht:t∈e.2∨t∈e.1.2.2.1):u9e (e.1,t)=some (u0y e.1 t):=by
 have hT:TxnR t:=by
  rcases ht with q | q
  ·exact(h.open_ t q).1
  ·exact(h.base.ready t q).1
 rw[q8g e.1 t h.fewB hT.tiny.few,q34 h.mids (r8x hT.id)]
theorem o20 {e:u2v} {id:Int} (h: ¬u55 e.2 id<0):r1h e id=(s8g e id,0):=by unfold r1h;rw[Ao h]
theorem o46 {e:u2v} {id:Int} (h:u55 e.2 id<0):r1h e id=(e,1):=by unfold r1h;rw[Al h]
theorem o34 {e:u2v} (h:EngR e) (id:Int):r21 (e,id)=some (u2n e id):=by
 have ho:=h.olen
 have h2:=q3l e id (by omega)
 have hJ:=o6z h id
 have hO:=p7b h id
 have hW:=q8i h id
 rw[p87];unfold q4l u2n
 simp only[hJ,zOb]
 by_cases c1:s52 e id=1
 ·have d:decide ((1:Int)=0)=false:=by decide
  simp only[c1,d,Bh,Ad,hO,zOb,Bl,o46 (j8j.mp c1)]
  rfl
 ·by_cases c0:s52 e id=0
  ·obtain⟨hn,_,_,_⟩:=s9d c0
   obtain⟨j,hj,e1,e2,e3⟩:=u2c hn
   have hm:e.2[j] ∈e.2∨e.2[j] ∈e.1.2.2.1:= .inl (Ag hj)
   have hT:=j0w h hm
   obtain⟨k,hk,f1,f2⟩:=o3a e.1 e.2[j] (by have:=h.base.plen;omega)
   have hC:=q4d (s32 e.1 e.2[j]) (o1s (h.ot (Ag hj)).few)
   have hO2:=t4n (u0y e.1 e.2[j]) (s1l e id) (p8s h hm).few (by have:=o6k e id;omega)
   have d: ¬((0:Int)=1):=by decide
   simp only[c0,d,Ae,Ap,Aa,Bl,Bk,h2,e1,y7t hj,Ad,zTn,y8k (t:=u0x) hj,hW,hT,f1,y7t hk,y8k (t:=u0x) hk,f2,hC,hO2,zOb,e2]
   show some _=some (s5z e e.2[j],_)
   unfold s5z s1l
   rw[e3]
   rfl
  ·have hn: ¬u55 e.2 id<0:=fun q=>c1 (j8j.mpr q)
   simp only[c1,c0,Ah,Bh,Ad,Bk,hO,zOb,o20 hn]
   rfl
end
section
theorem j2b {l:Hu u2m} (hA:VAsc l) {a s:Int} (h:a≤s) (k v:Hs):
 (∃x∈u2g l a,x.1=k∧vCs x≤s∧x.2.2.1=false∧x.2.1=v∧ ∀y∈u2g l a,y.1=k→vCs y≤s→vCs y≤vCs x)↔
 ∃x∈l,x.1=k∧vCs x≤s∧x.2.2.1=false∧x.2.1=v∧ ∀y∈l,y.1=k→vCs y≤s→vCs y≤vCs x:=by
 constructor
 ·rintro⟨x,hx,h1,h2,h3,h4,h5⟩
  obtain⟨m1,m2⟩:=(u6d hA).mp hx
  refine⟨x,m1,h1,h2,h3,h4,fun y hy q1 q2=> ?_⟩
  obtain⟨z,hz,z1,z2,z3⟩:=o9d (s:=s) (k:=k) l ⟨y,hy,q1,q2⟩
  have hzy:=z3 y hy q1 q2
  have hzx:=z3 x m1 h1 h2
  by_cases hza:vCs z >a
  ·have:=h5 z ((u6d hA).mpr ⟨hz, .inl hza⟩) z1 z2
   omega
  ·rcases m2 with c | ⟨c,_⟩
   ·omega
   ·have:=c.2 z hz (z1.trans h1.symm) (by omega)
    omega
 ·rintro⟨x,hx,h1,h2,h3,h4,h5⟩
  refine⟨x,(u6d hA).mpr ⟨hx,?_⟩,h1,h2,h3,h4,fun y hy q1 q2=>h5 y ((u6d hA).mp hy).1 q1 q2⟩
  by_cases c:vCs x >a
  ·exact .inl c
  ·exact .inr ⟨⟨by omega,fun y hy q1 q2=>h5 y hy (q1.trans h1) (by omega)⟩, .inl h3⟩
theorem p4k {l:Hu u2m} (hA:VAsc l) {a s:Int} (h:a≤s) (k:Hs):u8c (u2g l a) k s=u8c l k s:=by
 have hT:=t9n hA a
 have I1:=fun v=>o0n (u2g l a) k v s hT.uni
 have I2:=fun v=>o0n l k v s hA.uni
 have I:∀v,((u8c (u2g l a) k s).2=true∧(u8c (u2g l a) k s).1=v)↔((u8c l k s).2=true∧(u8c l k s).1=v):=fun v=>by
  rw[I1,I2];exact j2b hA h k v
 have no:∀(l:Hu u2m),(u8c l k s).2=false→(u8c l k s).1=emp:=fun l h=>by
  unfold u8c at h ⊢
  split
  ·rfl
  ·rename_i c;rw[Ao c] at h;cases h
 apply Prod.ext
 ·cases q:(u8c l k s).2 with
  | true=>exact((I _).mpr ⟨q,rfl⟩).2
  | false=>
   rw[no _ q]
   refine no _ ?_
   cases q2:(u8c (u2g l a) k s).2 with
   | false=>rfl
   | true=>have:=((I _).mp ⟨q2,rfl⟩).1;rw[q] at this;cases this
 ·cases q:(u8c l k s).2 with
  | true=>exact((I _).mpr ⟨q,rfl⟩).1
  | false=>
   cases q2:(u8c (u2g l a) k s).2 with
   | false=>rfl
   | true=>have:=((I _).mp ⟨q2,rfl⟩).1;rw[q] at this;cases this
theorem BaseR.asc {b:u0i} (h:BaseR b):VAsc b.1:=(j0l.mp h.vs).2.1
theorem o5j {b:u0i} (h:BaseR b) (o:Hu u0g) (k:Hs):u8c (u3q b o).1 k b.2.2.2.1=u8c b.1 k b.2.2.2.1:=p4k h.asc (o27 b o) k
end
section
def t94 (B:u0i) (o:Hu u0g) (t:u0g):u2v:=(B,o++ [t])
theorem q3x {o:Hu u0g} {t:u0g} (h:∀x∈o,x.1≠t.1):u55 (o++ [t]) t.1=(o.length:Int):=by
 have hn: ¬u55 (o++ [t]) t.1<0:=fun q=>j4s.mp q t (by simp) rfl
 obtain⟨k,hk,e1,e2,e3⟩:=u2c (e:=(u2u,o++ [t])) hn
 have hk:k<(o++ [t]).length:=hk
 have e3:(o++ [t])[k].1=t.1:=e3
 have e1:u55 (o++ [t]) t.1=(k:Int):=e1
 rw[e1]
 by_cases c:k<o.length
 ·rw[Ck c] at e3
  exact absurd e3 (h _ (Ag c))
 ·rw[Ba,Aw] at hk
  have:k=o.length:=by omega
  rw[this]
theorem o90 {B:u0i} {o:Hu u0g} {t:u0g} (h:∀x∈o,x.1≠t.1):u3b (t94 B o t) t.1=t:=by
 unfold u3b
 rw[show(t94 B o t).2=o++ [t] from rfl,q3x h,zTn]
 have hk:o.length<(o++ [t]).length:=by simp
 rw[y8k (t:=u0x) hk]
 simp
theorem j1w {B:u0i} {o:Hu u0g} {t u:u0g} (h:∀x∈o,x.1≠t.1):p4l (t94 B o t) (u55 (t94 B o t).2 t.1).toNat u=t94 B o u:=by
 unfold p4l
 rw[show(t94 B o t).2=o++ [t] from rfl,q3x h,zTn]
 show(B,(o++ [t]).set o.length u)=(B,o++ [u])
 rw[List.set_append_right _ _ (Au _),Dw]
 rfl
theorem j1u {B:u0i} {o:Hu u0g} {t:u0g} (h:∀x∈o,x.1≠t.1): ¬u55 (t94 B o t).2 t.1<0:=by
 rw[show(t94 B o t).2=o++ [t] from rfl,q3x h];omega
theorem j1v {B:u0i} {o:Hu u0g} {t:u0g} {w:WrT} (h:∀x∈o,x.1≠t.1) (hw:u29 w=true) (hr:(s7b t w).2=true):o3d (t94 B o t) t.1 w=(t94 B o (s7b t w).1,0):=by
 unfold o3d
 rw[Ao (j1u h),Ao (by rw[hw];decide),o90 h,Al hr,j1w h]
def tE0 (n c:Int):u0g:=j5y n c
end
section
def j87:u1w:=((u2u, []),([], []))
def riseR (d:u0l):u1w×Bool:=if u2t d=true∧(logR (u0f d)).2=true then((((logR (u0f d)).1, []),d),true) else(j87,false)
theorem o1d (d:u0l) (hd:d1n.wt d≤10000000):t89 d=some (riseR d):=by
 have hb:u0j=1099511627776:=rfl
 rw[p0a];unfold r3s riseR
 rw[q4e d (by omega),r9v d (by omega),u9u d (by omega)]
 simp only[zOb]
 cases u2t d<;>cases (logR (u0f d)).2<;>rfl
end
section
theorem o8f (d:u0l) (hd:d1n.wt d≤10000000):q30 d=some (orD d (o4j d)):=by
 have h1:=q4e d (by omega)
 have h2:=t4i (p2a (logR (u0f d)).1) (q85 (p33 _)).wt
 have h3:=u9u d (by unfold u0j;omega)
 rw[o4s];unfold p12
 simp only[h1,zOb]
 have h2:u35 (4,(0,0,0,0, [], [],false,(⟨#[]⟩:Hs)),(⟨#[]⟩:Hs),false,(logR (u0f d)).1)=_:=h2
 simp only[h2,h3,zOb]
 unfold o4j
 cases hp:t1u (u0f d) with
 | none=>
  have e:(logR (u0f d)).2=false:=by unfold logR;rw[hp]
  simp only[e,Bh,Ad,zOb]
  rfl
 | some b=>
  have e:logR (u0f d)=(b,true):=by unfold logR;rw[hp]
  simp only[e,Ap,Aa,zOb]
  have e4:p2a b=(4,u6k,emp,false,b):=rfl
  rw[e4]
  cases ht:(u0r (4,u6k,emp,false,b)).2 with
  | false=>simp only[Bh,Ad,Br,Bk];rfl
  | true=>
   have h5:=p41 (d:=d) (l:= [(u0r (4,u6k,emp,false,b)).1]) hd (by simp) (fun t h=>by
    rw[Ax.mp h];have:=s3e (4,u6k,emp,false,b);omega)
   simp only[Ap,Aa,Bl,h5,zOb]
theorem p67 {s:u1w} (hb:fewB s.1.1) (ho:p02 s.1.2) (hd:d1n.wt s.2≤10000000):t9a s=some s:=by
 have h1:u70 s.1=some s.1:=p66 s.1.1 s.1.2 hb ho
 have h2:=u9u s.2 (by unfold u0j;omega)
 rw[p0f];unfold r3w
 simp only[h1,h2,zOb]
theorem o60 (s:u1w) (r:s7e) (hb:fewB s.1.1) (ho:p02 s.1.2) (hd:d1n.wt s.2≤10000000) (hr:tinyR r):s1y (s,r)=some ((s.1,(u97 s.2 r).getD s.2),(u97 s.2 r).isSome):=by
 have h0:=p67 hb ho hd
 have h1:=t4i r hr.wt
 have hl:=s3e r
 have h2:=q0j s.2 (u0r r).1 hd (by omega)
 have h3:=o8f s.2 hd
 rw[q7a];unfold s94 u97
 simp only[h0,h1,zOb]
 cases ht:(u0r r).2 with
 | false=>simp only[Bh,Ad,Br,Bk];rfl
 | true=>
  simp only[Ap,Aa,Bl,h2,zOb]
  cases ha:append_ s.2 (u0r r).1 with
  | some y=>rfl
  | none=>
   simp only[orD,Aa,h3,zOb]
   cases hz:o4j s.2 with
   | none=>rfl
   | some z=>
    have h4:=q0j z (u0r r).1 (t82 (o8z hz)) (by omega)
    simp only[orD,Ad,h4,zOb]
    cases hq:append_ z (u0r r).1<;>rfl
theorem o1p {e:u2v} {id:Int} (c:(u2n e id).2.2=0):s52 e id=0:=by
 unfold u2n at c
 split at c
 ·exact absurd c (by show ¬((1:Int)=0);decide)
 ·split at c
  ·assumption
  ·exact c
theorem q9t {s:u1w} (h:EngR s.1) (hd:u2t s.2=true) (id:Int):s05 (s,id)=some (u7r s id):=by
 have ho:=h.olen
 have h1:=o34 h id
 have h0:=p67 h.fewB h.fewO (t82 hd)
 have hR:=o85 h id
 have h2:=o60 ((u2n s.1 id).1,s.2) (u2n s.1 id).2.1 hR.fewB hR.fewO (t82 hd) (q89 h id)
 have hL:=p7b h id
 rw[q5v];unfold s7q
 simp only[h1,zOb]
 rw[o4u];unfold p14 u7r
 simp only[h0,zOb]
 by_cases c:(u2n s.1 id).2.2=0
 ·have hn:=(s9d (o1p c)).1
  rw[o20 hn] at hL
  simp only[c,Ae,Ap,Aa,Bl,h2,zOb]
  cases u97 s.2 (u2n s.1 id).2.1 with
  | none=>simp only[Option.isSome_none,Aa,hL,zOb]
  | some d=>rfl
 ·simp only[c,Ah,Bh,Ad,Bk,zOb]
theorem q78 (s:u1w) (h:s.1.1.2.2.1.length≤4194304):t7k s=some (s.1.1.2.2.1.map fun t=>t.2.2.2.2.2.2.2):=by
 have L:=s4k t2a s.1.1.2.2.1 (fun a i=>(a,s.1.1.2.2.1,(s.1.1.2.2.1.length:Int),i)) (fun _=>true) (fun t:u0g=>t.2.2.2.2.2.2.2) (fun a=> .inl a) (by omega)
  (fun a _=>by rw[r5p];simp only[t7x,u0b,Am,Ah,Aa])
  (fun i hi a ha=>by
   rw[r5p];simp only[t7x,u0b,hi,Ae,Ad,y7t hi,zTn,y8k (t:=u0x) hi,Aw,u0z (show a.length+1≤1099511627776 by omega)]
   rw[y7l (by omega)])
 have hf:s.1.1.2.2.1.filter (fun _=>true)=s.1.1.2.2.1:=by simp
 rw[hf] at L
 have L:t2a ([],s.1.1.2.2.1,(s.1.1.2.2.1.length:Int),0)=_:=L
 rw[p49];unfold q0u
 simp only[L,zOb]
theorem q9m (l:Hu u0g):s4h l l=true:=by
 unfold s4h
 simp
theorem o0m (l:Hu u2m) (s:Int):q6k l l s=true:=by
 unfold q6k q9l
 simp
theorem j07 {a b:u0i} (h1:a.1=b.1) (h2:a.2.1=b.2.1) (h3:a.2.2.1=b.2.2.1) (h4:a.2.2.2.1=b.2.2.2.1):likeP a b=true:=by
 unfold likeP
 rw[h1,h2,h3,h4,q9m,q9m,o0m]
 simp
theorem Sync.likeP {s:u1w} {b:u0i} (h:Sync s b):Ab.likeP b (u3q s.1.1 [])=true:=by
 rw[s5m fun t ht=>(h.eng.base.past t ht).2.2]
 exact j07 h.like.vs h.like.past h.like.ready h.like.cs
theorem Sync.logR {s:u1w} {b:u0i} (h:Sync s b):Ab.logR (u0f s.2)=(b,true):=by unfold Ab.logR;rw[h.play]
theorem Sync.riseR {s:u1w} {b:u0i} (h:Sync s b):Ab.riseR s.2=(((b, []),s.2),true):=by
 unfold Ab.riseR
 rw[h.logR,Al ⟨h.log,rfl⟩]
theorem Sync.storeOk {s:u1w} {b:u0i} (h:Sync s b):Ab.storeOk s=true:=by
 unfold Ab.storeOk
 rw[h.logR,j5m.mpr h.eng,h.log,h.likeP]
 rfl
theorem o1e {s:u1w} (hE:EngR s.1) (hd:u2t s.2=true):s22 s=some (Ab.storeOk s):=by
 have hb:u0j=1099511627776:=rfl
 have hw:=t82 hd
 have ew:j77.wt s.1≤549755813888:=by
  have e2:=o57 s.1
  have h1:=hE.tinyO.wt
  have h2:=p1j (l:=s.1.2) (by have:=hE.olen;omega) fun t ht=>hE.ot ht
  omega
 rw[p5g];unfold q01 Ab.storeOk
 rw[q4e s.2 (by omega),p8g s.1 (by omega),r9v s.2 (by omega)]
 simp only[zOb]
 rw[t4n s.1.1 [] hE.fewB (by simp)]
 simp only[zOb]
 rw[o07 _ _ (p33 _) (t9m hE.base.tiny [])]
 cases o2o s.1<;>cases u2t s.2<;>cases (Ab.logR (u0f s.2)).2<;>rfl
end
section
def kZ:Hs:=⟨#[122,122,122]⟩
def wZ (v:Hs):WrT:=(kZ,v,false)
theorem o7d {e:u2v} (h:EngR e) (ho:e.2.length<4) (hn:e.1.2.2.2.2<9999):∃B:u0i,B.1=e.1.1∧B.2.1=e.1.2.1∧B.2.2.1=e.1.2.2.1∧B.2.2.2.1=e.1.2.2.2.1∧
 s4q e=(t94 B e.2 (tE0 e.1.2.2.2.2 e.1.2.2.2.1),e.1.2.2.2.2,0)∧EngR (t94 B e.2 (tE0 e.1.2.2.2.2 e.1.2.2.2.1))∧ ∀x∈e.2,x.1≠e.1.2.2.2.2:=by
 have hb:s4q e=(t94 (e.1.1,e.1.2.1,e.1.2.2.1,e.1.2.2.2.1,e.1.2.2.2.2+1) e.2 (tE0 e.1.2.2.2.2 e.1.2.2.2.1),e.1.2.2.2.2,0):=by
  unfold s4q
  rw[Al ⟨ho,hn⟩]
  rfl
 refine⟨(e.1.1,e.1.2.1,e.1.2.2.1,e.1.2.2.2.1,e.1.2.2.2.2+1),rfl,rfl,rfl,rfl,hb,?_,fun x hx=> ?_⟩
 ·have:=o52 h;rwa [hb] at this
 ·have:=h.bel x (Az _ hx)
  omega
def tQ (n c:Int) (v:Hs):u0g:=j67 (tE0 n c) [wZ v]
theorem rQ (n c:Int) (v:Hs):s7b (tE0 n c) (wZ v)=(tQ n c v,true):=rfl
end
section
theorem o7z {s:u1w} {id:Int} (h:(u7r s id).2=0):s52 s.1 id=0∧(u7r s id).1.1=s5z s.1 (u3b s.1 id):=by
 by_cases c:(u2n s.1 id).2.2=0
 ·have hj:=o1p c
  refine⟨hj,?_⟩
  have hC:(u2n s.1 id).1=s5z s.1 (u3b s.1 id):=by
   unfold u2n
   rw[Ao (by omega),Al hj]
  unfold u7r at h ⊢
  rw[Al c] at h ⊢
  cases hk:u97 s.2 (u2n s.1 id).2.1 with
  | none=>rw[hk] at h;exact absurd h (by show ¬((3:Int)=0);decide)
  | some d=>exact hC
 ·unfold u7r at h
  rw[Ao c] at h
  exact absurd h c
def t6n:Hs:=⟨#[107,101,112,116]⟩
theorem Sync.rise {s:u1w} {b:u0i} (h:Sync s b):Sync ((b, []),s.2) b:=(o7w h).2
theorem o9y {B:u0i} (hB:BaseR B) {v:Hs} (hm:(kZ,v,false,B.2.2.2.1)∈B.1):u8c B.1 kZ B.2.2.2.1=(v,true):=by
 have:=(o0n B.1 kZ v B.2.2.2.1 hB.asc.uni).mpr ⟨_,hm,rfl,Bv _,rfl,rfl,fun y hy _ _=>hB.vcs y hy⟩
 exact Prod.ext this.2 this.1
theorem o2z (x:Hu Int) (hx:(Ty.sl (.int .u8)).fine x):r82 x=some true:=by
 rw[p23];unfold r7k
 rw[o7g];unfold p7f
 simp only[zOb]
 by_cases hb:(x.length:Int) >1048576
 ·simp only[hb,Ae,Ad]
 simp only[hb,Ah,Aa]
 obtain⟨c0,z1,z2⟩:=j5b (l:=x) (by omega)
 obtain⟨s,c1,z3,z4,hS⟩:=o8w 24 (by omega) z2
 have z3:s3d (c0,24)=some (s,c1):=z3
 have d0:s4c x=some s:=by
  rw[p0r];unfold r37
  simp only[z1,z3,zOb]
 obtain⟨b,hY,hbn⟩:=hS.sync
 have hE:=hY.eng
 have hw:=t82 hY.log
 have hX:=hY.rise
 have r1:=o1d s.2 hw
 rw[hY.riseR] at r1
 have r2:=q4e s.2 (by omega)
 rw[hY.logR] at r2
 have r3:=o1e hE hY.log
 rw[hY.storeOk] at r3
 have r4:=s5r s.1.1 [] hE.fewB (by simp)
 have r5:=o07 b (u3q s.1.1 []) hY.right.tiny (t9m hE.tinyO [])
 rw[hY.likeP] at r5
 have rl:=hE.base.rlen
 have r6:=q78 s (by omega)
 have r7:=q78 ((b, []),s.2) (by show b.2.2.1.length≤4194304;rw[hY.like.ready];omega)
 have r7:t7k ((b, []),s.2)=some (s.1.1.2.2.1.map fun t=>t.2.2.2.2.2.2.2):=by
  rw[r7];show some (b.2.2.1.map _)=_;rw[hY.like.ready]
 have r8:=q3u (s.1.1.2.2.1.map fun t=>t.2.2.2.2.2.2.2) (by rw[Da];unfold u0j;omega)
 obtain⟨B,B1,B2,B3,B4,hbg,hR0,hne⟩:=o7d hX.eng (by show 0<4;decide) (by show b.2.2.2.2<9999;have e:((24+1:Nat):Int)=25:=rfl;omega)
 have l2:=p64 hX.eng
 rw[hbg] at l2
 obtain⟨n,hn0⟩:∃n,n=b.2.2.2.2:=⟨_,rfl⟩
 obtain⟨c,hc0⟩:∃c,c=b.2.2.2.1:=⟨_,rfl⟩
 have B1:B.1=b.1:=B1
 have B3:B.2.2.1=b.2.2.1:=B3
 have B4:B.2.2.2.1=c:=by rw[hc0];exact B4
 have l2:t05 ((b, []):u2v)=some (t94 B [] (tE0 n c),n,0):=by rw[hn0,hc0];exact l2
 have hR0:EngR (t94 B [] (tE0 n c)):=by rw[hn0,hc0];exact hR0
 have hne:∀x∈([] :Hu u0g),x.1≠n:=fun x hx=>by cases hx
 have hput:=j1v (B:=B) (o:= []) (t:=tE0 n c) (w:=wZ t6n) hne (by decide) (by rw[rQ])
 rw[rQ] at hput
 have hput:o3d (t94 B [] (tE0 n c)) n (wZ t6n)=(t94 B [] (tQ n c t6n),0):=hput
 have l3:=p1q hR0 n (w:=wZ t6n) (by decide)
 rw[hput] at l3
 have l3:u88 (t94 B [] (tE0 n c),n,(⟨#[122,122,122]⟩:Hs),(⟨#[107,101,112,116]⟩:Hs),false)=_:=l3
 have hR1:EngR (t94 B [] (tQ n c t6n)):=by
  have:=j55 hR0 (id:=n) (w:=wZ t6n)
  rwa [hput] at this
 have hY1:Sync (t94 B [] (tQ n c t6n),s.2) b:=hX.opens hR1 B1 B3 (by show B.2.2.2.1=b.2.2.2.1;rw[B4,hc0])
 have l4:=q9t (s:=(t94 B [] (tQ n c t6n),s.2)) hR1 hY.log n
 obtain⟨b',hY2,hor⟩:=hY1.commit n
 obtain⟨y,hy⟩:∃y,y=u7r (t94 B [] (tQ n c t6n),s.2) n:=⟨_,rfl⟩
 rw[←hy] at l4 hY2 hor
 have l5:=o1d y.1.2 (t82 hY2.log)
 rw[hY2.riseR] at l5
 have hv:=(j0l.mp hY2.right.vs).2.2
 have l6:=p1w b'.1 kZ b'.2.2.2.1 (by omega)
 have l6:s1f (b'.1,(⟨#[122,122,122]⟩:Hs),b'.2.2.2.1)=_:=l6
 have l7:=o1e hY2.eng hY2.log
 rw[hY2.storeOk] at l7
 have hcs:(b.2.2.2.1=s.1.1.2.2.2.1):=hY.like.cs
 have hlen0:decide (((([] :Hu u0g).length:Nat):Int)=0)=true:=rfl
 simp only[d0,r1,r2,r3,r4,r5,r6,r7,r8,l2,l3,l4,l5,l6,l7,hlen0,zOb,Ap,Aa,Ad,hcs,Ae]
 by_cases c3:y.2=0
 ·have hy0:(u7r (t94 B [] (tQ n c t6n),s.2) n).2=0:=by rw[←hy];exact c3
  obtain⟨hj,hy1⟩:=o7z hy0
  rw[←hy] at hy1
  have hat:u3b (t94 B [] (tQ n c t6n)) n=tQ n c t6n:=o90 (t:=tQ n c t6n) hne
  have hy1:y.1.1=s5z (t94 B [] (tQ n c t6n)) (tQ n c t6n):=by rw[hy1];show s5z _ (u3b (t94 B [] (tQ n c t6n)) n)=_;rw[hat]
  have hfull:=(s9d hj).2.2.2
  have hmem:tQ n c t6n∈(t94 B [] (tQ n c t6n)).2:=by show tQ n c t6n∈ [] ++ [tQ n c t6n];simp
  have hP:=r1m hR1 (.inl hmem) hfull
  have hPB:(t94 B [] (tQ n c t6n)).1=B:=rfl
  rw[hPB] at hP
  have e1:(u0y B (tQ n c t6n)).2.2.2.1=c+1:=by show B.2.2.2.1+1=c+1;rw[B4]
  have hk:(kZ,t6n,false,(u0y B (tQ n c t6n)).2.2.2.1)∈(u0y B (tQ n c t6n)).1:=by
   show _∈t9k B.1 [wZ t6n] (B.2.2.2.1+1)
   rw[s0v]
   refine .inr ⟨wZ t6n,by simp,?_⟩
   rfl
  have s0:=o9y hP hk
  have s1:u8c b'.1 kZ b'.2.2.2.1=(t6n,true):=by
   have v1:=hY2.like.vs
   have v2:=hY2.like.cs
   have u1:y.1.1.1.1=(u3q (u0y B (tQ n c t6n)) (s1l (t94 B [] (tQ n c t6n)) n)).1:=by rw[hy1];rfl
   have u2:y.1.1.1.2.2.2.1=(u0y B (tQ n c t6n)).2.2.2.1:=by rw[hy1];rfl
   rw[v1,v2,p4k hY2.eng.base.asc (Bv _),u1,u2]
   rw[o5j hP]
   exact s0
  have sr:z7o t6n (⟨#[107,101,112,116]⟩:Hs)=true:=by
   have:∀t:Hs,z7o t t=true:=fun t=>by simp[z7o]
   exact this t6n
  rw[s1]
  simp only[c3,Ae,Ap,Aa,Ad,sr,zOb]
 ·have hbb:b' =b:=by
   rcases hor with q | ⟨q,_⟩
   ·exact q
   ·exact absurd q c3
  have hq:decide (b'.2.2.2.1=(t94 B [] (tQ n c t6n)).1.2.2.2.1)=true:=by
   rw[hbb];show decide (b.2.2.2.1=B.2.2.2.1)=true;rw[B4,hc0];simp
  simp only[c3,Ah,Bh,Ad,hq,zOb]
end
end
end Go.Proofs.YtkdpclfhapphhaaGreat.Ab
