import Derived.Test.YtbkicjpdlchbgaaGreatAbCommitsT3
import Derived.Test.YtbkicjpdlchbgaaGreatAbK2
import Derived.Test.YtbkicjpdlchbgaaGreatAbF4
import Derived.Test.YtbkicjpdlchbgaaGreatAbS2
namespace Go.Proofs.YtbkicjpdlchbgaaGreat.Ab
open Go
set_option linter.unusedVariables false
set_option linter.unusedSimpArgs false
set_option linter.unnecessarySimpa false
section
section
def K5:List ByteArray:= [⟨#[97]⟩,⟨#[98]⟩,⟨#[99]⟩,⟨#[100]⟩,⟨#[97,98]⟩]
structure DomT (t:u0e):Prop where
 ws:∀w∈t.2.2.2.2.2.1,w.1∈K5
 rs:∀r∈t.2.2.2.2.1,r.1∈K5∧r.2∈K5
structure DomB (b:u0i):Prop where
 vs:∀v∈b.1,v.1∈K5
 ready:∀t∈b.2.2.1,DomT t
structure DomE (e:u1q):Prop where
 base:DomB e.1
 open_:∀t∈e.2,DomT t
theorem DomB.tidy {b:u0i} (h:DomB b) (o:List u0e):DomB (u4r b o):=⟨fun v hv=>h.vs v ((u8p _ _).subset hv),h.ready⟩
theorem DomB.through {b:u0i} {t:u0e} (h:DomB b) (ht:DomT t):DomB (u1h b t):=by
 refine⟨fun v hv=> ?_,fun x hx=> ?_⟩
 ·rcases(t7z _ _ _).mp hv with hv | ⟨w,hw,rfl⟩
  ·exact h.vs v hv
  ·exact ht.ws w hw
 ·obtain⟨q,hq,rfl⟩:=List.mem_map.mp hx
  have:=h.ready q (List.mem_filter.mp hq).1
  exact⟨this.ws,this.rs⟩
theorem DomB.made {b:u0i} {t:u0e} {n:ByteArray} (h:DomB b) (ht:DomT t):DomB (u1s b t n):=by
 refine⟨h.vs,fun x hx=> ?_⟩
 rcases List.mem_append.mp hx with hx | hx
 ·rcases List.mem_append.mp hx with hx | hx
  ·exact h.ready x (List.mem_filter.mp hx).1
  ·rw[List.mem_singleton] at hx;subst hx;exact⟨ht.ws,ht.rs⟩
 ·exact h.ready x (List.mem_filter.mp hx).1
theorem DomB.given {b:u0i} (h:DomB b) (n:ByteArray):DomB (s1v b n):=⟨h.vs,fun x hx=>h.ready x (List.mem_filter.mp hx).1⟩
theorem DomE.rest {e:u1q} (h:DomE e) (id:Int):∀t∈u60 e id,DomT t:=fun t ht=>h.open_ t ((u8o e id).subset ht)
theorem DomE.leave {e:u1q} (h:DomE e) (id:Int):DomE (t4v e id):=⟨h.base.tidy _,h.rest id⟩
theorem DomE.begin {e:u1q} (h:DomE e):DomE (t25 e).1:=by
 unfold t25
 split
 ·refine⟨⟨h.base.vs,h.base.ready⟩,fun t ht=> ?_⟩
  rcases List.mem_append.mp ht with ht | ht
  ·exact h.open_ t ht
  ·rw[List.mem_singleton] at ht;subst ht
   exact⟨fun w hw=>(by cases hw),fun r hr=>(by cases hr)⟩
 ·exact h
theorem DomE.commit {e:u1q} (h:DomE e) (id:Int):DomE (u21 e id).1:=by
 unfold u21
 split
 ·exact h
 ·split
  ·rename_i _ q
   obtain⟨k,hk,e1,e2,e3⟩:=u1i (s8y q).1
   rw[e2]
   exact⟨(h.base.through (h.open_ _ (List.getElem_mem hk))).tidy _,h.rest _⟩
  ·exact h.leave id
theorem DomE.prep {e:u1q} (h:DomE e) (id:Int) (n:ByteArray):DomE (t8b e id n).1:=by
 unfold t8b
 split
 ·exact h
 ·rename_i q
  split
  ·exact h
  ·split
   ·exact h
   ·split
    ·obtain⟨k,hk,e1,e2,e3⟩:=u1i q
     rw[e2]
     exact⟨(h.base.made (h.open_ _ (List.getElem_mem hk))).tidy _,h.rest _⟩
    ·exact h.leave id
theorem DomE.fin {e:u1q} (h:DomE e) (n:ByteArray) (y:Bool):DomE (r6t e n y).1:=by
 unfold r6t
 split
 ·exact h
 ·rename_i q
  split
  ·exact h
  ·split
   ·obtain⟨k,hk,r1,r2⟩:=t6o q
    rw[r1,zTn,y8k (t:=u0t) hk]
    exact⟨(h.base.through (h.base.ready _ (List.getElem_mem hk))).tidy _,h.open_⟩
   ·exact⟨(h.base.given n).tidy _,h.open_⟩
theorem DomE.look {e:u1q} (h:DomE e) {id:Int} {r:s2e} {right:Bool} (hr:r.1∈K5∧r.2∈K5):DomE (s0m e id r right).1:=by
 unfold s0m
 split
 ·exact h
 ·rename_i q
  split
  ·exact h
  ·split
   ·obtain⟨k,hk,e1,e2,e3⟩:=u1i q
    rw[e2]
    have ho:=h.open_ _ (List.getElem_mem hk)
    refine⟨h.base,fun t ht=> ?_⟩
    rcases q7f ht with ht | rfl
    ·exact h.open_ t ht
    ·unfold s0n
     split
     ·exact ho
     ·split
      ·refine⟨ho.ws,fun x hx=> ?_⟩
       rcases List.mem_append.mp hx with hx | hx
       ·exact ho.rs x hx
       ·rw[List.mem_singleton] at hx;subst hx;exact hr
      ·exact ho
   ·exact h
theorem DomE.put {e:u1q} (h:DomE e) {id:Int} {w:WrT} (hw:w.1∈K5):DomE (q68 e id w).1:=by
 unfold q68
 split
 ·exact h
 ·rename_i q
  split
  ·exact h
  ·split
   ·obtain⟨k,hk,e1,e2,e3⟩:=u1i q
    rw[e2]
    have ho:=h.open_ _ (List.getElem_mem hk)
    refine⟨h.base,fun t ht=> ?_⟩
    rcases q7f ht with ht | rfl
    ·exact h.open_ t ht
    ·unfold t6c
     split
     ·refine⟨fun x hx=> ?_,ho.rs⟩
      rcases q7a hx with hx | rfl
      ·exact ho.ws x hx
      ·exact hw
     ·exact ho
   ·exact h
def Num (k:Nat) (e:u1q):Prop:=e.1.2.2.2.1≤(k:Int)∧e.1.2.2.2.2≤(k:Int)+1
theorem Num.mono {k m:Nat} {e:u1q} (h:Num k e) (hk:k≤m):Num m e:=⟨by have:=h.1;omega,by have:=h.2;omega⟩
theorem s97 {e:u1q} (h:EngR e) {t:u0e} (ht:t∈e.2∨t∈e.1.2.2.1):u1m e.1.2.2.2.2 t.1=e.1.2.2.2.2:=by
 refine q9l ?_
 rcases ht with ht | ht
 ·exact h.bel t (List.mem_append_right _ ht)
 ·exact h.bel t (List.mem_append_left _ (List.mem_append_right _ ht))
theorem Num.begin {k:Nat} {e:u1q} (h:Num k e):Num (k+1) (t25 e).1:=by
 unfold t25
 split
 ·exact⟨by show e.1.2.2.2.1≤_;have:=h.1;omega,by show e.1.2.2.2.2+1≤_;have:=h.2;omega⟩
 ·exact h.mono (by omega)
theorem Num.commit {k:Nat} {e:u1q} (hE:EngR e) (h:Num k e) (id:Int):Num (k+1) (u21 e id).1:=by
 unfold u21
 split
 ·exact h.mono (by omega)
 ·split
  ·rename_i _ q
   obtain⟨j,hj,e1,e2,e3⟩:=u1i (s8y q).1
   refine⟨by show e.1.2.2.2.1+1≤_;have:=h.1;omega,?_⟩
   show u1m e.1.2.2.2.2 (u2e e id).1≤_
   rw[e2,s97 hE (.inl (List.getElem_mem hj))]
   have:=h.2;omega
  ·exact h.mono (by omega)
theorem Num.prep {k:Nat} {e:u1q} (hE:EngR e) (h:Num k e) (id:Int) (n:ByteArray):Num (k+1) (t8b e id n).1:=by
 unfold t8b
 split
 ·exact h.mono (by omega)
 ·rename_i q
  split
  ·exact h.mono (by omega)
  ·split
   ·exact h.mono (by omega)
   ·split
    ·obtain⟨j,hj,e1,e2,e3⟩:=u1i q
     refine⟨by show e.1.2.2.2.1≤_;have:=h.1;omega,?_⟩
     show u1m e.1.2.2.2.2 (u2e e id).1≤_
     rw[e2,s97 hE (.inl (List.getElem_mem hj))]
     have:=h.2;omega
    ·exact h.mono (by omega)
theorem Num.fin {k:Nat} {e:u1q} (hE:EngR e) (h:Num k e) (n:ByteArray) (y:Bool):Num (k+1) (r6t e n y).1:=by
 unfold r6t
 split
 ·exact h.mono (by omega)
 ·rename_i q
  split
  ·exact h.mono (by omega)
  ·split
   ·obtain⟨j,hj,r1,r2⟩:=t6o q
    rw[r1,zTn,y8k (t:=u0t) hj]
    refine⟨by show e.1.2.2.2.1+1≤_;have:=h.1;omega,?_⟩
    show u1m e.1.2.2.2.2 e.1.2.2.1[j].1≤_
    rw[s97 hE (.inr (List.getElem_mem hj))]
    have:=h.2;omega
   ·exact h.mono (by omega)
theorem Num.look {k:Nat} {e:u1q} (h:Num k e) {id:Int} {r:s2e} {right:Bool} :Num k (s0m e id r right).1:=by
 unfold s0m
 split
 ·exact h
 ·split
  ·exact h
  ·split<;>exact h
theorem Num.put {k:Nat} {e:u1q} (h:Num k e) {id:Int} {w:WrT} :Num k (q68 e id w).1:=by
 unfold q68
 split
 ·exact h
 ·split
  ·exact h
  ·split<;>exact h
structure Stt (k:Nat) (s:u1w):Prop where
 sync:∃b,Sync s b∧b.2.2.2.2≤(k:Int)+1
 dom:DomE s.1
 num:Num k s.1
theorem Stt.eng {k:Nat} {s:u1w} (h:Stt k s):EngR s.1:=by obtain⟨b,h1,_⟩:=h.sync;exact h1.eng
theorem r3n {b x:u0i} {r:s4d} (h:u75 b r=some x):∃y,u2h b r=some y∧x=u4r y [] :=by
 unfold u75 at h
 split at h
 ·cases q:u2h b r with
  | none=>rw[q] at h;cases h
  | some y=>
   rw[q] at h
   simp only at h
   split at h
   ·exact⟨y,rfl,(Option.some.inj h).symm⟩
   ·cases h
 ·cases h
theorem p1q {n i m:Int} (h1:n≤m) (h2:i<m):u1m n i≤m:=by unfold u1m;split<;>omega
theorem Stt.commit {k:Nat} {s:u1w} (h:Stt k s) (id:Int):Stt (k+1) (t57 s id).1:=by
 obtain⟨b,hs,hb⟩:=h.sync
 obtain⟨b',hs',hd⟩:=hs.commit id
 have hE:=hs.eng
 have h1:=h.num.commit hE id
 have hl:=h.dom.leave id
 refine⟨⟨b',hs',?_⟩,?_,?_⟩
 ·rcases hd with rfl | ⟨_,j0,hp⟩
  ·omega
  ·obtain⟨y,hy,rfl⟩:=r3n hp
   unfold u2h at hy
   rw[if_pos rfl] at hy
   split at hy
   ·cases hy
    show u1m b.2.2.2.2 (u2e s.1 id).1≤_
    obtain⟨j,hj,e1,e2,e3⟩:=u1i (s8y j0).1
    have:=hE.bel _ (List.mem_append_right _ (List.getElem_mem hj))
    rw[e2]
    have:=h.num.2
    exact p1q (by omega) (by omega)
   ·cases hy
 ·have h2:=h.dom.commit id
  unfold t57
  split
  ·split
   ·exact h2
   ·exact hl
  ·exact h2
 ·unfold t57
  split
  ·split
   ·exact h1
   ·exact h.num.mono (by omega)
  ·exact h1
theorem Stt.prep {k:Nat} {s:u1w} (h:Stt k s) (id:Int) (n:ByteArray):Stt (k+1) (s9q s id n).1:=by
 obtain⟨b,hs,hb⟩:=h.sync
 obtain⟨b',hs',hd⟩:=hs.prep id n
 have hE:=hs.eng
 have h1:=h.num.prep hE id n
 have hl:=h.dom.leave id
 refine⟨⟨b',hs',?_⟩,?_,?_⟩
 ·rcases hd with rfl | ⟨_,j0,hp⟩
  ·omega
  ·obtain⟨y,hy,rfl⟩:=r3n hp
   unfold u2h at hy
   simp only at hy
   rw[if_neg (by decide),if_pos trivial] at hy
   split at hy
   ·cases hy
    show u1m b.2.2.2.2 (u2e s.1 id).1≤_
    obtain⟨j,hj,e1,e2,e3⟩:=u1i (p6a j0).1
    have:=hE.bel _ (List.mem_append_right _ (List.getElem_mem hj))
    rw[e2]
    have:=h.num.2
    exact p1q (by omega) (by omega)
   ·cases hy
 ·have h2:=h.dom.prep id n
  unfold s9q
  split
  ·split
   ·exact h2
   ·exact hl
  ·exact h2
 ·unfold s9q
  split
  ·split
   ·exact h1
   ·exact h.num.mono (by omega)
  ·exact h1
theorem Stt.fin {k:Nat} {s:u1w} (h:Stt k s) (n:ByteArray) (y:Bool):Stt (k+1) (q11 s n y).1:=by
 obtain⟨b,hs,hb⟩:=h.sync
 obtain⟨b',hs',hd⟩:=hs.fin n y
 have hE:=hs.eng
 have h1:=h.num.fin hE n y
 refine⟨⟨b',hs',?_⟩,?_,?_⟩
 ·rcases hd with rfl | ⟨_,j0,hp⟩
  ·omega
  ·obtain⟨z,hz,rfl⟩:=r3n hp
   unfold u2h at hz
   simp only at hz
   rw[if_neg (by decide),if_neg (by decide),if_pos trivial] at hz
   split at hz
   ·cases hz
   ·rename_i q
    obtain⟨j,hj,r1,r2⟩:=t6o q
    split at hz
    ·cases hz
     show u1m b.2.2.2.2 (rdL u0t b.2.2.1 (u1k b n).toNat).1≤_
     rw[r1,zTn,y8k (t:=u0t) hj]
     have:b.2.2.1[j] ∈s.1.1.2.2.1:=by rw[←hs.like.ready];exact List.getElem_mem hj
     have:=hE.bel _ (List.mem_append_left _ (List.mem_append_right _ this))
     have:=h.num.2
     exact p1q (by omega) (by omega)
    ·cases hz
     show b.2.2.2.2≤_
     omega
 ·have h2:=h.dom.fin n y
  unfold q11
  split
  ·split
   ·exact h2
   ·exact h.dom
  ·exact h.dom
 ·unfold q11
  split
  ·split
   ·exact h1
   ·exact h.num.mono (by omega)
  ·exact h.num.mono (by omega)
theorem Stt.fix {k:Nat} {s:u1w} (h:Stt k s):Stt (k+1) (p7j s).1:=by
 obtain⟨b,hs,hb⟩:=h.sync
 refine⟨⟨b,hs.fix,by omega⟩,?_,?_⟩
 ·unfold p7j;split<;>exact h.dom
 ·unfold p7j;split<;>exact h.num.mono (by omega)
theorem Stt.leave {k:Nat} {s:u1w} (h:Stt k s) (id:Int):Stt (k+1) ((s3m s.1 id).1,s.2):=by
 obtain⟨b,hs,hb⟩:=h.sync
 unfold s3m
 split
 ·exact⟨⟨b,hs,by omega⟩,h.dom,h.num.mono (by omega)⟩
 ·exact⟨⟨b,hs.leave id,by omega⟩,h.dom.leave id,h.num.mono (by omega)⟩
theorem Stt.begin {k:Nat} {s:u1w} (h:Stt k s):Stt (k+1) ((t25 s.1).1,s.2):=by
 obtain⟨b,hs,hb⟩:=h.sync
 refine⟨⟨b,hs.opens (q5y hs.eng) ?_ ?_ ?_,by omega⟩,h.dom.begin,h.num.begin⟩<;>(unfold t25;split<;>rfl)
theorem Stt.look {k:Nat} {s:u1w} (h:Stt k s) {id:Int} {r:s2e} {right:Bool} (hr:right=true→u2d r=true) (hk:r.1∈K5∧r.2∈K5):Stt (k+1) ((s0m s.1 id r right).1,s.2):=by
 obtain⟨b,hs,hb⟩:=h.sync
 have e:(s0m s.1 id r right).1.1=s.1.1:=by
  unfold s0m
  split
  ·rfl
  ·split
   ·rfl
   ·split<;>rfl
 exact⟨⟨b,hs.opens (o1e hs.eng hr) (by rw[e]) (by rw[e]) (by rw[e]),by omega⟩,h.dom.look hk,h.num.look.mono (by omega)⟩
theorem Stt.put {k:Nat} {s:u1w} (h:Stt k s) {id:Int} {w:WrT} (hk:w.1∈K5):Stt (k+1) ((q68 s.1 id w).1,s.2):=by
 obtain⟨b,hs,hb⟩:=h.sync
 have e:(q68 s.1 id w).1.1=s.1.1:=by
  unfold q68
  split
  ·rfl
  ·split
   ·rfl
   ·split<;>rfl
 exact⟨⟨b,hs.opens (o1q hs.eng) (by rw[e]) (by rw[e]) (by rw[e]),by omega⟩,h.dom.put hk,h.num.put.mono (by omega)⟩
end
section
structure tinyT (t:u0e):Prop where
 rl:t.2.2.2.2.1.length≤100
 rs:∀r∈t.2.2.2.2.1,r.1.size≤100∧r.2.size≤100
 wl:t.2.2.2.2.2.1.length≤100
 ws:∀w∈t.2.2.2.2.2.1,w.1.size≤100∧w.2.1.size≤100
 nm:t.2.2.2.2.2.2.2.size≤100
structure tinyB (b:u0i):Prop where
 vl:b.1.length≤10000
 vs:∀v∈b.1,v.1.size≤100∧v.2.1.size≤100
 pl:b.2.1.length≤1000
 ps:∀t∈b.2.1,tinyT t
 rl:b.2.2.1.length≤1000
 rs:∀t∈b.2.2.1,tinyT t
theorem s3r {α:Type} {f:α→Nat} {k:Nat} :∀ {l:List α},(∀x∈l,f x≤k)→(l.map f).sum≤l.length*k
 | [],_=>by simp
 | x::l,h=>by
  rw[List.map_cons,List.sum_cons,List.length_cons,Nat.succ_mul]
  have h1:=h x (by simp)
  have h2:=s3r (l:=l) (fun y hy=>h y (by simp[hy]))
  omega
theorem tinyT.wt {t:u0e} (h:tinyT t):u0t.wt t≤50000:=by
 have e1:(Ty.sl t2q).wt t.2.2.2.2.1=t.2.2.2.2.1.length+(t.2.2.2.2.1.map t2q.wt).sum:=rfl
 have e2:(Ty.sl u11).wt t.2.2.2.2.2.1=t.2.2.2.2.2.1.length+(t.2.2.2.2.2.1.map u11.wt).sum:=rfl
 have s1:(t.2.2.2.2.1.map t2q.wt).sum≤t.2.2.2.2.1.length*200:=s3r fun r hr=>by
  have:=h.rs r hr
  have e:t2q.wt r=r.1.size+r.2.size:=rfl
  omega
 have s2:(t.2.2.2.2.2.1.map u11.wt).sum≤t.2.2.2.2.2.1.length*200:=s3r fun w hw=>by
  have:=h.ws w hw
  have e:u11.wt w=w.1.size+(w.2.1.size+0):=rfl
  omega
 have:=h.rl;have:=h.wl;have:=h.nm
 rw[q99,e1,e2]
 omega
theorem tinyT.few {t:u0e} (h:tinyT t):r2f t:=⟨by have:=h.rl;omega,by have:=h.wl;omega⟩
theorem TxnR.tiny {t:u0e} (h:TxnR t):tinyT t:=by
 obtain⟨z1,z2,z3,z4,z5⟩:=h.small
 exact⟨by have:=h.rlen;omega,fun r hr=>by have:=z1 r hr;omega,by omega,fun w hw=>by have:=z2 w hw;omega,by omega⟩
theorem tinyT.like {t u:u0e} (h:tinyT t) (e1:u.2.2.2.2.1=t.2.2.2.2.1) (e2:u.2.2.2.2.2.1=t.2.2.2.2.2.1) (e3:u.2.2.2.2.2.2.2.size≤100):tinyT u:=
 ⟨by rw[e1];exact h.rl,by rw[e1];exact h.rs,by rw[e2];exact h.wl,by rw[e2];exact h.ws,e3⟩
theorem r5s {l:List u0e} (hl:l.length≤1000) (h:∀t∈l,tinyT t):(Ty.sl u0t).wt l≤60000000:=by
 have e:(Ty.sl u0t).wt l=l.length+(l.map u0t.wt).sum:=rfl
 have s:(l.map u0t.wt).sum≤l.length*50000:=s3r fun t ht=>(h t ht).wt
 rw[e];omega
theorem tinyB.wt {b:u0i} (h:tinyB b):o01.wt b≤200000000:=by
 have e:(Ty.sl u0d).wt b.1=b.1.length+(b.1.map u0d.wt).sum:=rfl
 have s:(b.1.map u0d.wt).sum≤b.1.length*200:=s3r fun v hv=>by
  have:=h.vs v hv
  have e:u0d.wt v=v.1.size+(v.2.1.size+(0+0)):=rfl
  omega
 have h1:=r5s h.pl h.ps
 have h2:=r5s h.rl h.rs
 have:=h.vl
 rw[r3e,e];omega
theorem r5r {l:List u0e} (hl:l.length≤1000) (h:∀t∈l,tinyT t):q1a l:=⟨by omega,fun t ht=>(h t ht).few⟩
theorem tinyB.few {b:u0i} (h:tinyB b):fewB b:=⟨by have:=h.vl;omega,r5r h.pl h.ps,r5r h.rl h.rs⟩
theorem BaseR.tiny {b:u0i} (h:BaseR b):tinyB b:=by
 obtain⟨w1,w2,w3⟩:=p66.mp h.vs
 exact⟨by omega,fun v hv=>by have:=s45 (w1 v hv);omega,by have:=h.plen;omega,fun t ht=>(h.past t ht).1.tiny,by have:=h.rlen;omega,fun t ht=>(h.ready t ht).1.tiny⟩
theorem p13 {b:u0i} (h:tinyB b) (o:List u0e):tinyB (u4r b o):=
 ⟨Nat.le_trans (p15 _ _) h.vl,fun v hv=>h.vs v ((u8p _ _).subset hv),Nat.le_trans (t03 _ _) h.pl,fun t ht=>h.ps t (List.mem_filter.mp ht).1,h.rl,h.rs⟩
theorem s9s {b:u0i} {t:u0e} (h:BaseR b) (ht:tinyT t):tinyB (u1h b t):=by
 obtain⟨w1,w2,w3⟩:=p66.mp h.vs
 have hb:=h.tiny
 refine⟨?_,fun v hv=> ?_,?_,fun x hx=> ?_,?_,fun x hx=> ?_⟩
 ·show(t41 b.1 t.2.2.2.2.2.1 (b.2.2.2.1+1)).length≤10000
  rw[q1p];have:=ht.wl
  have e:(t.2.2.2.2.2.1:List u11.den).length=t.2.2.2.2.2.1.length:=rfl
  omega
 ·rcases(t7z _ _ _).mp hv with q | ⟨w,hw,rfl⟩
  ·exact hb.vs v q
  ·exact ht.ws w hw
 ·show(b.2.1++ [u8f b t]).length≤1000
  have:=h.plen
  rw[List.length_append,List.length_singleton];omega
 ·rcases List.mem_append.mp hx with q | q
  ·exact hb.ps x q
  ·rw[List.mem_singleton.mp q]
   exact ht.like rfl rfl (Nat.zero_le _)
 ·show((b.2.2.1.filter fun x=> !decide (x.1=t.1)).map (r5h (u8f b t))).length≤1000
  rw[List.length_map]
  exact Nat.le_trans (t03 _ _) hb.rl
 ·obtain⟨y,hy,rfl⟩:=List.mem_map.mp hx
  have:=hb.rs y (List.mem_filter.mp hy).1
  exact this.like rfl rfl this.nm
theorem q40 {b:u0i} {t:u0e} {n:ByteArray} (h:BaseR b) (ht:tinyT t) (hn:n.size≤100):tinyB (u1s b t n):=by
 have hb:=h.tiny
 refine⟨hb.vl,hb.vs,hb.pl,hb.ps,?_,fun x hx=> ?_⟩
 ·show((b.2.2.1.filter fun x=>y3c x.2.2.2.2.2.2.2 n)++ [u4q b t n] ++(b.2.2.1.filter fun x=> !y3c x.2.2.2.2.2.2.2 n)).length≤1000
  have f1:=t03 (fun x:u0e=>y3c x.2.2.2.2.2.2.2 n) b.2.2.1
  have f2:=t03 (fun x:u0e=> !y3c x.2.2.2.2.2.2.2 n) b.2.2.1
  have:=h.rlen
  rw[List.length_append,List.length_append,List.length_singleton];omega
 ·rcases List.mem_append.mp hx with q | q
  ·rcases List.mem_append.mp q with q | q
   ·exact hb.rs x (List.mem_filter.mp q).1
   ·rw[List.mem_singleton.mp q]
    exact ht.like rfl rfl hn
  ·exact hb.rs x (List.mem_filter.mp q).1
theorem q4t {b:u0i} {n:ByteArray} (hb:tinyB b):tinyB (s1v b n):=
 ⟨hb.vl,hb.vs,hb.pl,hb.ps,Nat.le_trans (t03 _ _) hb.rl,fun x hx=>hb.rs x (List.mem_filter.mp hx).1⟩
structure tinyR (r:s4d):Prop where
 t:tinyT r.2.1
 n:r.2.2.1.size≤100
 b:tinyB r.2.2.2.2
theorem tinyR.wt {r:s4d} (h:tinyR r):o3p.wt r≤549755813888:=by
 have:=h.t.wt;have:=h.n;have:=h.b.wt
 rw[q41];omega
theorem t6q:tinyT u6z:=⟨by decide,fun r hr=>(by cases hr),by decide,fun r hr=>(by cases hr),by decide⟩
theorem u9u:tinyB u3y:=⟨by decide,fun r hr=>(by cases hr),by decide,fun r hr=>(by cases hr),by decide,fun r hr=>(by cases hr)⟩
theorem p7w:tinyR noR:=⟨t6q,by decide,u9u⟩
theorem RecR.tiny {r:s4d} (h:RecR r):tinyR r:=by
 cases h with
 | thr t h hs=>exact⟨h.tiny,Nat.zero_le 100,u9u⟩
 | rdy t h hs=>exact⟨h.tiny,Nat.zero_le 100,u9u⟩
 | fin n y h=>exact⟨t6q,by have:=u30 h;show n.size≤100;omega,u9u⟩
 | bas b h=>exact⟨t6q,Nat.zero_le 100,h.tiny⟩
def r6z (b:u0i) (r:s4d):u0i×Bool:=match u75 b r with
 | some x=>(x,true)
 | none=>(b,false)
theorem p1p {n:Int} (h:0≤n∧n≤9999):p7u n:=⟨by omega,by omega⟩
theorem r3k {n:Int} (h:1≤n∧n≤9999):p7u n:=⟨by omega,by omega⟩
end
section
theorem p9n:∃t,s18 ()=some t∧t.size=64∧s4q t 0=0:=by
 have hset:∀i,(List.replicate 64 (0:Int)).set i 0=List.replicate 64 0:=fun i=>by
  apply List.ext_getElem (by simp)
  intro j h1 h2
  rw[List.getElem_set,List.getElem_replicate]
  split
  ·rfl
  ·rfl
 have key:∀(r i:Nat),i+r=64→u9e ((64:Int),0,List.replicate 64 0,(i:Int))=some (.inl (List.replicate 64 0)):=by
  intro r
  induction r with
  | zero=>
   intro i hi
   have:i=64:=by omega
   subst this
   rw[s7c]
   rfl
  | succ r ih=>
   intro i hi
   have hlt:decide ((i:Int)<64)=true:=by simp;omega
   have hg:y4q (i:Int) (List.replicate 64 (0:Int)).length=true:=y7t (by simp;omega)
   rw[s7c]
   simp only[t78,hlt,cond_true,hg,hset]
   rw[y7l (by omega)]
   exact ih (i+1) (by omega)
 have e1:u9e ((64:Int),0,List.replicate 64 0,0)=_:=key 64 0 rfl
 refine⟨y7g (List.replicate 64 0),?_,by rw[u51];simp,by unfold s4q;rw[t96];rfl⟩
 rw[q3i];unfold r1p
 rw[q3e];unfold r1k
 have hc:(decide ((0:Int)≤64)&&decide ((64:Int)≤1099511627776))=true:=rfl
 have hr:List.replicate ((64:Int)).toNat (Ty.int .u8).zero=List.replicate 64 (0:Int):=rfl
 simp only[hc,cond_true,hr,e1,zOb]
theorem p0v:∃d,s41 ()=some d∧u4d d=true∧u0k d= [] :=by
 obtain⟨z,hz,hz1,hz2⟩:=p9n
 have key:∀(r i:Nat),i+r=97→u86 ((97:Int),([], []),(List.replicate i z, []),(i:Int))=some (.inl (([], []),(List.replicate 97 z, []))):=by
  intro r
  induction r with
  | zero=>
   intro i hi
   have:i=97:=by omega
   subst this
   rw[s6z]
   rfl
  | succ r ih=>
   intro i hi
   have hlt:decide ((i:Int)<97)=true:=by simp;omega
   have hc:Nat.ble ((List.replicate i z).length+([z] :List ByteArray).length) z7w=true:=u07 (by simp;omega)
   rw[s6z]
   simp only[t77,hlt,cond_true,hz,zOb,hc]
   rw[y7l (by omega)]
   have e:List.replicate i z++ [z] =List.replicate (i+1) z:=by rw[List.replicate_succ']
   rw[e]
   exact ih (i+1) (by omega)
 have e1:u86 ((97:Int),([], []),([], []),0)=_:=key 97 0 rfl
 have hs:u7s ()=some 97:=by rw[s2z];rfl
 refine⟨(List.replicate 97 z, []),?_,?_⟩
 ·rw[q6m];unfold r4m
  simp only[hs,zOb]
  rw[q2x];unfold r03
  have hi:r2i 97 1 100=true:=rfl
  simp only[t7c,hi,zOb,Bool.not_true,cond_false,e1]
 ·have hk:u1r (List.replicate 97 z,([] :List (Int×ByteArray)))=true:=q4o.mpr ⟨by simp,by simp,fun s hs=>by rw[List.eq_of_mem_replicate hs];exact hz1,fun p hp=>by cases hp⟩
  have hl:(List.replicate 97 z,([] :List (Int×ByteArray))).1.length=97:=by simp
  have hf:=s4p hk hl
  have hc:∀a:Int,a=0∨a=1→u08 (List.replicate 97 z, []) a=0:=fun a ha=>by
   obtain⟨f1,_⟩:=u7l ha
   unfold u08 u43
   rw[p7n.mpr ha,if_pos rfl]
   have hk2:u0f a=(((u0f a).toNat:Nat):Int):=by rcases ha with rfl | rfl<;>omega
   rw[hk2,p1y rfl (by rw[hl];rcases ha with rfl | rfl<;>omega)]
   have hlt:(u0f a).toNat<(List.replicate 97 z).length:=by simp;rcases ha with rfl | rfl<;>omega
   have e:rdL Ty.str (List.replicate 97 z) (u0f a).toNat=(List.replicate 97 z)[(u0f a).toNat] :=y8k (t:=Ty.str) hlt
   simp only[e,List.getElem_replicate]
   rw[r6c,hz2]
   rfl
  refine⟨r5m hk hl rfl ?_ ?_,?_⟩
  ·rw[u8n hf (.inl rfl),hc 0 (.inl rfl)];rfl
  ·rw[u8n hf (.inr rfl),hc 1 (.inr rfl)];rfl
  ·unfold u0k
   rw[u8n hf (t4l _),hc _ (t4l _)];rfl
end
section
theorem s96 {d:u0j} (h:u4d d=true):o51.wt d≤10000000:=Nat.le_trans (t5l (u5x h).1) (by omega)
end
section
theorem q5k (d:u0j) (hd:o51.wt d≤1073741824):t9w d=some (u0k d):=by
 rw[q0q];unfold s78
 simp only[s4e d (show o51.wt d≤u0l by unfold u0l;omega),s4i d _ hd,zOb];rfl
end
section
theorem p5c (b:u0i) (r:s4d) (hB:BaseR b) (hR:RecR r):s2b (b,r)=some (match u2h b r with
 | some x=>(x,true)
 | none=>(b,false)):=by
 have hb:=hB.tiny
 have thr:∀t:u0e,TxnR t→u5o (b,t)=some (u1h b t):=fun t ht=>by
  rw[r7b b t hb.few ht.tiny.few,q15 (p1p hB.cs) (r3k ht.id)]
 rw[q3q];unfold r1x u2h
 cases hR with
 | thr t h hs=>
  simp only[decide_true,cond_true,if_true]
  rw[t88 (p1p hB.cs),thr t h]
  by_cases q:t.2.2.2.1=b.2.2.2.1+1
  ·rw[decide_eq_true q,if_pos q];rfl
  ·rw[decide_eq_false q,if_neg q];rfl
 | rdy t h hs=>
  simp only[show decide ((2:Int)=1)=false from rfl,show((2:Int)=1)=False by simp,decide_true,decide_false,cond_true,cond_false,if_true,if_false]
  rw[t7u b _ (by have:=hB.rlen;omega)]
  simp only[zOb]
  rw[r0n b t _ hb.few h.tiny.few (r3k h.id)]
  simp only[zOb]
  by_cases q:b.2.2.1.length<3
  ·rw[decide_eq_false (show ¬(b.2.2.1.length:Int)≥3 by omega)]
   simp only[cond_false,zOb]
   by_cases q2:u1k b t.2.2.2.2.2.2.2<0
   ·rw[decide_eq_false (show ¬u1k b t.2.2.2.2.2.2.2≥0 by omega),if_pos ⟨q,q2⟩];rfl
   ·rw[decide_eq_true (show u1k b t.2.2.2.2.2.2.2≥0 by omega),if_neg (fun z=>q2 z.2)];rfl
  ·rw[decide_eq_true (show(b.2.2.1.length:Int)≥3 by omega),if_neg (fun z=>q z.1)];rfl
 | fin n y h=>
  simp only[show decide ((3:Int)=1)=false from rfl,show decide ((3:Int)=2)=false from rfl,show((3:Int)=1)=False by simp,show((3:Int)=2)=False by simp,decide_true,decide_false,cond_true,cond_false,if_true,if_false]
  rw[t7u b _ (by have:=hB.rlen;omega)]
  simp only[zOb]
  by_cases q:u1k b n<0
  ·rw[decide_eq_true q,if_pos q];rfl
  ·rw[decide_eq_false q,if_neg q]
   simp only[cond_false]
   rw[r67 b n hb.few]
   simp only[zOb]
   have hk:(u1k b n).toNat<b.2.2.1.length:=by
    unfold u1k at q ⊢
    split
    ·rename_i z;rw[zTn];exact z
    ·rename_i z;rw[if_neg z] at q;omega
   obtain⟨k,hkk⟩:∃k:Nat,u1k b n=k:=⟨(u1k b n).toNat,by omega⟩
   have hg:y4q (u1k b n) b.2.2.1.length=true:=by rw[hkk];exact y7t (by rw[hkk] at hk;simpa using hk)
   have hT:TxnR (rdL u0t b.2.2.1 (u1k b n).toNat):=by
    rw[y8k hk];exact(hB.ready _ (List.getElem_mem hk)).1
   rw[hg,thr _ hT]
   cases y
   ·rfl
   ·rfl
 | bas c h=>
  simp only[show decide ((4:Int)=1)=false from rfl,show decide ((4:Int)=2)=false from rfl,show decide ((4:Int)=3)=false from rfl,show((4:Int)=1)=False by simp,show((4:Int)=2)=False by simp,show((4:Int)=3)=False by simp,decide_false,cond_false,if_false]
  rw[t6f c h.tiny.few];rfl
theorem p77 {b:u0i} {r:s4d} {x:u0i} (hB:BaseR b) (hR:RecR r) (h:u2h b r=some x):tinyB x:=by
 unfold u2h at h
 cases hR with
 | thr t ht hs=>
  simp only[if_true] at h
  split at h
  ·rw[←Option.some.inj h];exact s9s hB ht.tiny
  ·cases h
 | rdy t ht hs=>
  simp only[show((2:Int)=1)=False by simp,if_true,if_false] at h
  split at h
  ·rw[←Option.some.inj h];exact q40 hB ht.tiny (by have:=u30 (ht.name hs);omega)
  ·cases h
 | fin n y hn=>
  simp only[show((3:Int)=1)=False by simp,show((3:Int)=2)=False by simp,if_true,if_false] at h
  split at h
  ·cases h
  ·rename_i q
   have hk:(u1k b n).toNat<b.2.2.1.length:=by
    unfold u1k at q ⊢
    split
    ·rename_i z;rw[zTn];exact z
    ·rename_i z;rw[if_neg z] at q;omega
   split at h
   ·rw[←Option.some.inj h]
    refine s9s hB ?_
    rw[y8k hk];exact(hB.ready _ (List.getElem_mem hk)).1.tiny
   ·rw[←Option.some.inj h];exact q4t hB.tiny
 | bas c hc=>
  simp only[show((4:Int)=1)=False by simp,show((4:Int)=2)=False by simp,show((4:Int)=3)=False by simp,if_false] at h
  rw[←Option.some.inj h];exact hc.tiny
theorem p0y (b:u0i) (r:s4d) (hb:tinyB b) (hr:tinyR r):s42 (b,r)=some (r6z b r):=by
 have hq:u0l=1099511627776:=rfl
 rw[q6p];unfold r4p
 simp only
 rw[t6e b (by have:=hb.wt;omega),r31 r hr.wt,t6f b hb.few]
 simp only[zOb]
 cases h1:t24 b
 ·unfold r6z u75
  rw[if_neg (by simp[h1])];rfl
 ·cases h2:t2o r
  ·unfold r6z u75
   rw[if_neg (by simp[h2])];rfl
  ·have hB:=q4k.mp h1
   have hR:=p88.mp h2
   simp only[Bool.not_true,cond_false,zOb]
   rw[p5c b r hB hR]
   simp only[zOb]
   unfold r6z u75
   rw[if_pos ⟨h1,h2⟩]
   cases hx:u2h b r with
   | none=>rfl
   | some x=>
    have h3:=p77 hB hR hx
    simp only[Bool.not_true,cond_false]
    rw[s4k _ _ h3.few (by simp)]
    simp only[zOb]
    rw[t6e _ (by have:=(p13 h3 []).wt;omega)]
    simp only[zOb]
    cases t24 (u4r x [])<;>rfl
theorem p2o {b x:u0i} {r:s4d} (h:u75 b r=some x):BaseR x∧RecR r:=by
 unfold u75 at h
 split at h
 ·rename_i q
  split at h
  ·cases h
  ·split at h
   ·rename_i z
    rw[←Option.some.inj h]
    exact⟨q4k.mp z,p88.mp q.2⟩
   ·cases h
 ·cases h
theorem p4c (t:ByteArray):tinyR (s3o t).1:=by
 unfold s3o
 cases h:u5a t with
 | none=>exact p7w
 | some r=>exact(r5p h).1.tiny
theorem p7r (b:u0i) (t:ByteArray) (l:List ByteArray):t9o b (t::l)=bif !(s3o t).2 || !(r6z b (s3o t).1).2 then none else t9o (r6z b (s3o t).1).1 l:=by
 unfold s3o r6z
 simp only[t9o]
 cases u5a t with
 | none=>rfl
 | some r=>
  simp only
  cases u75 b r with
  | none=>rfl
  | some x=>rfl
def p52 (l:List ByteArray):u0i×Bool:=match t2u l with
 | some b=>(b,true)
 | none=>(u3y,false)
theorem q72 (d:u0j) (hd:o51.wt d≤1073741824) (ht:∀t∈u0k d,t.size≤u0l) (hl:(u0k d).length≤1000000):t7k d=some (p52 (u0k d)):=by
 have L:=r3c u5b (u0k d).length (fun(b:u0i) i=>(u3y,b,u0k d,i)) (fun i b=>match t9o b ((u0k d).drop i) with
  | some x=> .inl (u3y,x)
  | none=> .inr (u3y,false)) (fun _ b=>BaseR b)
  (fun b hb=>by
   rw[s63];simp only[t3u,u0b,Nat.lt_irrefl,decide_false,cond_false]
   rw[List.drop_length];rfl)
  (fun i b hi hb=>by
   have hm:=List.getElem_mem hi
   have hd:(u0k d).drop i=(u0k d)[i] ::(u0k d).drop (i+1):=List.drop_eq_getElem_cons hi
   have hw:u5b (u3y,b,u0k d,(i:Int))=bif !(s3o (u0k d)[i]).2 || !(r6z b (s3o (u0k d)[i]).1).2 then some (.inr (u3y,false)) else u5b (u3y,(r6z b (s3o (u0k d)[i]).1).1,u0k d,((i+1:Nat):Int)):=by
    rw[s63];simp only[t3u,u0b,hi,decide_true,cond_true,y7t hi,zTn,y8k (t:=Ty.str) hi,y7l (show i<4611686018427387904 by omega)]
    rw[r9q _ (ht _ hm)]
    simp only[zOb]
    rw[p0y b _ hb.tiny (p4c _)]
    simp only[zOb]
    cases (s3o (u0k d)[i]).2<;>cases (r6z b (s3o (u0k d)[i]).1).2<;>rfl
   rw[hw,hd,p7r]
   cases hc:(!(s3o (u0k d)[i]).2 || !(r6z b (s3o (u0k d)[i]).1).2)
   ·refine .inr ⟨(r6z b (s3o (u0k d)[i]).1).1,?_,?_,rfl⟩
    ·unfold r6z at hc ⊢
     cases hp:u75 b (s3o (u0k d)[i]).1 with
     | none=>rw[hp] at hc;simp at hc
     | some x=>exact(p2o hp).1
    ·simp only[cond_false]
   ·exact .inl rfl) 0 p0i (Nat.zero_le _) p2k
 rw[q21];unfold r07
 rw[r2d];unfold r00
 rw[q5k d hd]
 simp only[zOb]
 have L' :u5b ((([], [], [],0,0):u0i),(([], [], [],0,1):u0i),u0k d,0)=_:=L
 rw[L',List.drop_zero]
 unfold p52 t2u
 cases t9o p0i (u0k d)<;>rfl
end
section
def p64:s2e:=((⟨#[97]⟩:ByteArray),(⟨#[122,122,122]⟩:ByteArray))
end
section
theorem q91 (t:ByteArray) (a:Int):(u0p t a).1.size≤20000:=by
 unfold u0p
 split
 ·rename_i hc
  have:=t4z hc.1
  simp only[ByteArray.size_extract];omega
 ·exact Nat.zero_le _
theorem r7x (t:ByteArray):∀(m:Nat) (a:Int) (acc:List ByteArray),(∀s∈acc,s.size≤20000)→ ∀s∈(u6n t m a acc).1,s.size≤20000
 | 0,a,acc,h=>h
 | m+1,a,acc,h=>by
  unfold u6n
  split
  ·refine r7x t m _ _ fun s hs=> ?_
   rcases List.mem_append.mp hs with q | q
   ·exact h s q
   ·rw[List.mem_singleton.mp q];exact q91 _ _
  ·intro s hs;cases hs
theorem q34 (d:u0j) (a:Int):∀s∈(u0c d a).1,s.size≤20000:=by
 unfold u0c
 split
 ·exact r7x _ _ _ _ fun s hs=>by cases hs
 ·intro s hs;cases hs
theorem q31 (d:u0j):∀s∈u0k d,s.size≤20000:=q34 d _
theorem q9i (d:u0j):(u0k d).length<256:=q9z d _
theorem p3k (d:u0j) (hd:o51.wt d≤1073741824):t7k d=some (p52 (u0k d)):=
 q72 d hd (fun t ht=>by have:=q31 d t ht;unfold u0l;omega) (by have:=q9i d;omega)
theorem p2n:∀ {l:List ByteArray} {b x:u0i},BaseR b→t9o b l=some x→BaseR x
 | [],b,x,hb,h=>by rw[←Option.some.inj h];exact hb
 | t::l,b,x,hb,h=>by
  simp only[t9o] at h
  split at h
  ·cases h
  ·split at h
   ·cases h
   ·rename_i r _ y hy
    exact p2n (p2o hy).1 h
theorem q9r {l:List ByteArray} {x:u0i} (h:t2u l=some x):BaseR x:=p2n p2k h
theorem p53 (l:List ByteArray):tinyB (p52 l).1:=by
 unfold p52
 cases h:t2u l with
 | none=>exact u9u
 | some b=>exact(q9r h).tiny
end
section
theorem p7a {y:ByteArray} (h:y∈K5):u55 y=true:=by
 simp only[K5,List.mem_cons,List.not_mem_nil,or_false] at h
 rcases h with rfl | rfl | rfl | rfl | rfl<;>decide
theorem q5j {s:Src} (h:s.ok):Dr (u5l s) (fun y=>y∈K5):=by
 rw[q6y];unfold r4y
 obtain⟨y,s1,e1,k1,r1⟩:=q5m h (l:=K5) (by decide)
 have e1:u1v (s, [(⟨#[97]⟩:ByteArray),(⟨#[98]⟩:ByteArray),(⟨#[99]⟩:ByteArray),(⟨#[100]⟩:ByteArray),(⟨#[97,98]⟩:ByteArray)])=_:=e1
 simp only[e1,zOb]
 exact⟨_,_,rfl,k1,r1⟩
def o5n (r:s2e):Prop:=r.1∈K5∧r.2∈K5∧u2d r=true
theorem p1s {a b:ByteArray} (ha:a∈K5) (hb:b∈K5) (h:y3c b a=false):o5n (a,b):=by
 refine⟨ha,hb,?_⟩
 unfold u2d
 simp only[p7a ha,p7a hb,Bool.true_and,Bool.or_eq_true]
 rcases r3t a b with q | rfl | q
 ·exact .inl q
 ·exact .inr (by simp[z7o])
 ·rw[q] at h;cases h
theorem p5d {s:Src} (h:s.ok):Dr (u7t s) o5n:=by
 rw[q04];unfold s8n
 obtain⟨y1,s1,e1,k1,r1⟩:=q5j h
 obtain⟨y2,s2,e2,k2,r2⟩:=q5l k1 (n:=2) (by omega)
 obtain⟨y3,s3,e3,k3,r3⟩:=q5j k2
 simp only[e1,e2,e3,zOb]
 cases y2 with
 | true=>exact⟨_,_,rfl,k2,p1s r1 r1 (u6w _)⟩
 | false=>
  simp only[cond_false]
  cases hc:y3c y3 y1 with
  | true=>exact⟨_,_,rfl,k3,p1s r3 r1 (s1f hc)⟩
  | false=>exact⟨_,_,rfl,k3,p1s r1 r3 hc⟩
def o59 (w:WrT):Prop:=w.1∈K5∧u10 w=true
theorem p5h {s:Src} (h:s.ok):Dr (u7u s) o59:=by
 rw[q05];unfold s8o
 obtain⟨y1,s1,e1,k1,r1⟩:=q5j h
 obtain⟨y2,s2,e2,k2,r2⟩:=q5m k1 (l:= [(⟨#[111,110,101]⟩:ByteArray),(⟨#[116,119,111]⟩:ByteArray),(⟨#[]⟩:ByteArray),(⟨#[120,0]⟩:ByteArray)]) (by decide)
 obtain⟨y3,s3,e3,k3,r3⟩:=q5l k2 (n:=5) (by omega)
 simp only[e1,e2,e3,zOb]
 have hz:y2.size≤12:=by
  simp only[List.mem_cons,List.not_mem_nil,or_false] at r2
  rcases r2 with rfl | rfl | rfl | rfl<;>decide
 have hk:=p7a r1
 cases y3 with
 | true=>exact⟨_,_,rfl,k3,r1,by simp[u10,hk,emp,ByteArray.size]⟩
 | false=>exact⟨_,_,rfl,k3,r1,by simp[u10,hk,hz]⟩
end
section
theorem u7b (b:u0i) (o:List u0e) (hb:fewB b) (ho:q1a o):u0m (b,o)=some (b,o):=by
 have h1:=t6f b hb
 have h2:=r3a o ho
 rw[q3s];unfold r1z
 simp only[h1,h2,zOb]
theorem p3c (b:u0i) (o:List u0e) (hb:fewB b) (ho:q1a o):u5s (b,o)=some (b,o):=by
 have h1:=r54 b hb
 have h2:=r29 o ho
 rw[r6j];unfold s2l
 simp only[h1,h2,zOb]
end
section
theorem EngR.ot {e:u1q} (h:EngR e) {t:u0e} (ht:t∈e.2):tinyT t:=(h.open_ t ht).1.tiny
theorem EngR.fewO {e:u1q} (h:EngR e):q1a e.2:=r5r (by have:=h.olen;omega) fun t ht=>h.ot ht
theorem EngR.tinyO {e:u1q} (h:EngR e):tinyB e.1:=h.base.tiny
theorem EngR.fewB {e:u1q} (h:EngR e):Ab.fewB e.1:=h.base.tiny.few
theorem EngR.oth {e:u1q} (h:EngR e):∀t∈u53 e,tinyT t:=fun t ht=>by
 rcases List.mem_append.mp ht with q | q
 ·exact(h.base.past t q).1.tiny
 ·exact(h.base.ready t q).1.tiny
theorem EngR.fewOth {e:u1q} (h:EngR e):q1a (u53 e):=r5r (by have:=h.base.plen;have:=h.base.rlen;simp only[u53,List.length_append];omega) h.oth
theorem q7e (e:u1q) (id:Int):(u60 e id).length≤e.2.length:=List.length_filter_le _ _
theorem t0m (e:u1q) (id:Int) (h:e.2.length≤4194304):u4y (e,id)=some (u16 e.2 id):=by
 have L:=r3c t0v (u0n (fun x:u0e=>decide (x.1=id)) e.2) (fun(_:Unit) i=>(id,e,i)) (fun _ _=>if u0n (fun x:u0e=>decide (x.1=id)) e.2<e.2.length then .inr ((u0n (fun x:u0e=>decide (x.1=id)) e.2:Nat):Int) else .inl ()) (fun _ _=>True)
  (fun a _=>by
   have hle:=t2e (fun x:u0e=>decide (x.1=id)) e.2
   rw[s90]
   by_cases hk:u0n (fun x:u0e=>decide (x.1=id)) e.2<e.2.length
   ·have hy:=u6r hk
    simp only[t0o,u0b,hk,decide_true,cond_true,y7t hk,zTn,y8k (t:=u0t) hk,hy,if_true]
   ·simp only[t0o,u0b,hk,decide_false,cond_false,if_false])
  (fun i a hi _=> .inr ⟨(),trivial,rfl,by
   have hle:=t2e (fun x:u0e=>decide (x.1=id)) e.2
   have hil:i<e.2.length:=by omega
   have hn:=u7k hil hi
   rw[s90]
   simp only[t0o,u0b,hil,decide_true,cond_true,y7t hil,zTn,y8k (t:=u0t) hil,hn,cond_false]
   rw[y7l (by omega)]⟩) 0 () (Nat.zero_le _) trivial
 have L:t0v (id,e,0)=_:=L
 rw[q6n];unfold r4n u16
 simp only[L,zOb]
 by_cases hk:u0n (fun x:u0e=>decide (x.1=id)) e.2<e.2.length
 ·simp only[if_pos hk]
 ·simp only[if_neg hk]
theorem t6g (e:u1q) (id:Int) (h:e.2.length≤4194304):u5j (e,id)=some (u16 e.2 id):=by
 have hq:∀x∈e.2,t5s (x,id)=some (decide (x.1=id)):=fun x _=>by
  rw[q0f];unfold s7y;rfl
 have L:=Q.first (T:=u0t) (c:=Int) (W:=u1b) (q:=t5s) (p:=fun x:u0e=>decide (x.1=id)) (fun x=>u8t x) e.2 id (by omega) hq
 rw[q6a];unfold r39 u16
 simp only[u9x,u4i,L,zOb]
 by_cases hk:u0n (fun x:u0e=>decide (x.1=id)) e.2<e.2.length
 ·simp only[if_pos hk,zOb]
 ·simp only[if_neg hk,zOb]
theorem p5o {e:u1q} :(decide ((e.2.length:Int)≥4)= !decide (e.2.length<4))∧(decide (e.1.2.2.2.2≥9999)= !decide (e.1.2.2.2.2<9999)):=by
 constructor
 ·by_cases h:e.2.length<4<;>simp[h] <;>omega
 ·by_cases h:e.1.2.2.2.2<9999<;>simp[h] <;>omega
theorem q38 {e:u1q} (h:EngR e):t1e e=some (t25 e):=by
 have ho:=h.olen
 have hn:=h.base.next
 have h1:=u7b e.1 e.2 h.fewB h.fewO
 have h2:=q5h e (by have:=h.tinyO.wt;have:=r5s (l:=e.2) (by omega) (fun t ht=>h.ot ht);have:=q85 e;omega)
 have h1:u0m e=some e:=h1
 have hk:=o07.mpr h
 rw[q8u];unfold r7n t25
 simp only[h1,h2,hk,zOb,Bool.not_true,cond_false,p5o.1,p5o.2,List.length_singleton,u07 (show e.2.length+1≤1099511627776 by omega),cond_true]
 by_cases c1:e.2.length<4
 ·by_cases c2:e.1.2.2.2.2<9999
  ·simp only[c1,c2,decide_true,Bool.not_true,cond_false,zOb,and_self,if_true,t88 (n:=e.1.2.2.2.2) (r3k hn)]
   rfl
  ·simp only[c1,c2,decide_true,decide_false,Bool.not_true,Bool.not_false,cond_false,cond_true,zOb,and_false,if_false]
 ·simp only[c1,decide_false,Bool.not_false,cond_true,zOb,false_and,if_false]
theorem o52 (l:List s2e) (r:s2e):(l.any fun x=>z7o x.1 r.1&&(z7o x.2 r.2&&true))=o24 l r:=by
 unfold o24;simp only[Bool.and_true]
theorem r0o {t:u0e} {r:s2e} (ht:TxnR t) (h1:t.2.1=1) (hr:u2d r=true):t4g (t,r)=some (s0n t r):=by
 have hy:=ht.tiny
 have hw:=hy.wt
 have hl:=ht.rlen
 have c0:=u8v t hy.few
 have c1:=t4r t (by unfold u0l;omega)
 have k:=u30 (s:=r.1) (by unfold u2d at hr;simp only[Bool.and_eq_true] at hr;exact hr.1)
 have k' :=u30 (s:=r.2) (by unfold u2d at hr;simp only[Bool.and_eq_true] at hr;exact hr.2.1)
 have c2:=s7n r (by unfold u0l;omega) (by unfold u0l;omega)
 have ok:=r5u.mpr ht
 have L:=s4l u6m t.2.2.2.2.1 (fun i=>(t,r,(u6z:u0e),t,i)) (fun x=>z7o x.1 r.1&&(z7o x.2 r.2&&true)) (.inr (t,true)) (.inl (t,r,u6z,t))
  (by rw[s1p];simp only[u99,u0b,Nat.lt_irrefl,decide_false,cond_false])
  (fun i hi=>by
   rw[s1p]
   simp only[u99,u0b,hi,decide_true,cond_true,y7t hi,zTn,y8k (t:=t2q) hi]
   rw[y7l (by omega)])
 rw[o52] at L
 have L:u6m (t,r,((0,0,0,0, [], [],false,(⟨#[]⟩:ByteArray)):u0e),t,0)=_:=L
 rw[r82];unfold s5i s0n
 simp only[c0,c1,c2,ok,hr,h1,zOb,decide_true,Bool.not_true,cond_false,L]
 cases o24 t.2.2.2.2.1 r
 ·have e8:decide ((t.2.2.2.2.1.length:Int)≥8)= !decide (t.2.2.2.2.1.length<8):=by by_cases c:t.2.2.2.2.1.length<8<;>simp[c] <;>omega
  simp only[cond_false,e8,Bool.false_eq_true,if_false]
  by_cases c:t.2.2.2.2.1.length<8
  ·simp only[c,decide_true,Bool.not_true,cond_false,List.length_singleton,u07 (show t.2.2.2.2.1.length+1≤1099511627776 by omega),cond_true,if_true]
   rfl
  ·simp only[c,decide_false,Bool.not_false,cond_true,if_false]
 ·rfl
theorem r5z {l:List WrT} {w:WrT} (h:u3x l=true) (hw:u10 w=true):u3x (r3o l w)=decide ((r3o l w).length≤8):=by
 by_cases c:(r3o l w).length≤8
 ·rw[p6c h hw c,decide_eq_true c]
 ·rw[decide_eq_false c]
  cases q:u3x (r3o l w)
  ·rfl
  ·exact absurd (p9a.mp q).2.2 c
theorem q7l {w:WrT} (h:u10 w=true):w.1.size≤3∧w.2.1.size≤12:=by
 unfold u10 at h
 simp only[Bool.and_eq_true,decide_eq_true_eq] at h
 exact⟨(u30 h.1).2,h.2.1⟩
theorem p0e {l:List WrT} (hn:l.length≤1000) (h:∀w∈l,u10 w=true):(Ty.sl u11).wt l≤20000:=by
 have e:(Ty.sl u11).wt l=l.length+(l.map u11.wt).sum:=rfl
 have s:=s3r (f:=u11.wt) (k:=15) (l:=l) fun w hw=>by
  have:=q7l (h w hw)
  have e:u11.wt w=w.1.size+(w.2.1.size+0):=rfl
  omega
 omega
theorem q9t {l:List WrT} {w:WrT} (h:u3x l=true) (hw:u10 w=true):∀x∈r3o l w,u10 x=true:=fun x hx=>by
 rcases q7a hx with q | q
 ·exact(p9a.mp h).1 x q
 ·rw[q];exact hw
theorem q5u {t:u0e} {w:WrT} (ht:TxnR t) (h1:t.2.1=1) (hw:u10 w=true):t92 (t,w)=some (t6c t w):=by
 have hy:=ht.tiny
 have ht8:=(p9a.mp ht.ws).2.2
 have hl:=p2q t.2.2.2.2.2.1 w
 have c0:=u8v t hy.few
 have c1:=t4r t (by have:=hy.wt;unfold u0l;omega)
 have c2:=s7r w (by have:=q7l hw;unfold u0l;omega)
 have c3:=q5o t.2.2.2.2.2.1 w (by omega)
 have c4:=r33 (r3o t.2.2.2.2.2.1 w) (by have:=p0e (l:=r3o t.2.2.2.2.2.1 w) (by omega) (q9t ht.ws hw);unfold u0l;omega)
 have ok:=r5u.mpr ht
 rw[q0z];unfold s8i t6c
 simp only[c0,c1,c2,c3,c4,ok,hw,h1,zOb,decide_true,Bool.not_true,cond_false,r5z ht.ws hw]
 by_cases c:(r3o t.2.2.2.2.2.1 w).length≤8
 ·simp only[c,decide_true,Bool.not_true,cond_false,if_true]
  unfold p4w
  rw[h1]
 ·simp only[c,decide_false,Bool.not_false,cond_true,if_false]
end
section
def s9f (t:u0e) (l:List u18) (k:ByteArray):ByteArray×Bool:=
 if u0n (fun w:WrT=>z7o w.1 k) t.2.2.2.2.2.1<t.2.2.2.2.2.1.length then
  (if(rdL u11 t.2.2.2.2.2.1 (u0n (fun w:WrT=>z7o w.1 k) t.2.2.2.2.2.1)).2.2=true then(emp,false) else((rdL u11 t.2.2.2.2.2.1 (u0n (fun w:WrT=>z7o w.1 k) t.2.2.2.2.2.1)).2.1,true))
 else s9o l k t.2.2.1
def q1o (t:u0e) (l:List u18) (r:s2e):List PrT:=
 ((q1h (l.map (fun v=>v.1)++t.2.2.2.2.2.1.map fun w=>w.1)).filter fun k=>(s9f t l k).2&&inR r k).map fun k=>(k,(s9f t l k).1)
theorem r9p (t:u0e) (l:List u18) (k:ByteArray) (ht:r2f t) (hl:l.length≤4194304):t84 (t,l,k)=some (s9f t l k):=by
 have h8:=ht.2
 have L:=r3c t0w (u0n (fun w:WrT=>z7o w.1 k) t.2.2.2.2.2.1) (fun(_:Unit) i=>(l,k,t,i)) (fun _ _=>if u0n (fun w:WrT=>z7o w.1 k) t.2.2.2.2.2.1<t.2.2.2.2.2.1.length then .inr (if(rdL u11 t.2.2.2.2.2.1 (u0n (fun w:WrT=>z7o w.1 k) t.2.2.2.2.2.1)).2.2=true then(emp,false) else((rdL u11 t.2.2.2.2.2.1 (u0n (fun w:WrT=>z7o w.1 k) t.2.2.2.2.2.1)).2.1,true)) else .inl (l,k,t)) (fun _ _=>True)
  (fun a _=>by
   have hle:=t2e (fun w:WrT=>z7o w.1 k) t.2.2.2.2.2.1
   rw[s91]
   by_cases hk:u0n (fun w:WrT=>z7o w.1 k) t.2.2.2.2.2.1<t.2.2.2.2.2.1.length
   ·have hy:=u6r hk
    simp only[t0p,u0b,hk,decide_true,cond_true,y7t hk,zTn,y8k (t:=u11) hk,hy,if_true]
    cases (t.2.2.2.2.2.1[u0n (fun w:WrT=>z7o w.1 k) t.2.2.2.2.2.1]).2.2<;>rfl
   ·simp only[t0p,u0b,hk,decide_false,cond_false,if_false])
  (fun i a hi _=> .inr ⟨(),trivial,rfl,by
   have hle:=t2e (fun w:WrT=>z7o w.1 k) t.2.2.2.2.2.1
   have hil:i<t.2.2.2.2.2.1.length:=by omega
   have hn:=u7k hil hi
   rw[s91]
   simp only[t0p,u0b,hil,decide_true,cond_true,y7t hil,zTn,y8k (t:=u11) hil,hn,cond_false]
   rw[y7l (by omega)]⟩) 0 () (Nat.zero_le _) trivial
 have L:t0w (l,k,t,0)=_:=L
 rw[q6o];unfold r4o s9f
 simp only[L,zOb]
 by_cases hk:u0n (fun w:WrT=>z7o w.1 k) t.2.2.2.2.2.1<t.2.2.2.2.2.1.length
 ·simp only[if_pos hk]
 ·simp only[if_neg hk,r9t l k _ (show l.length≤1099511627776 by omega),zOb]
theorem q71 (t:u0e) (l:List u18) (r:s2e) (ht:r2f t) (hl:l.length≤4194304):s13 (t,l,r)=some (q1o t l r):=by
 have h8:=ht.2
 have L:=t7v u88 t.2.2.2.2.2.1 (fun(a:List u18) i=>(l,t,r,a,i)) (fun a (w:WrT)=>a++ [((w.1,emp,false,(0:Int)):u18)]) (fun a=> .inl (l,t,r,a)) (fun i a=>a.length=l.length+i)
  (fun a _=>by rw[s61];simp only[t3s,u0b,Nat.lt_irrefl,decide_false,cond_false])
  (fun i hi a ha=>⟨by simp[ha];omega,by
   rw[s61]
   simp only[t3s,u0b,hi,decide_true,cond_true,y7t hi,zTn,y8k (t:=u11) hi,List.length_singleton,u07 (show a.length+1≤1099511627776 by omega)]
   rw[y7l (by omega)]
   rfl⟩) l rfl
 have fo:∀(ws:List WrT) (a:List u18),ws.foldl (fun a (w:WrT)=>a++ [((w.1,emp,false,(0:Int)):u18)]) a=a++ws.map fun w=>((w.1,emp,false,(0:Int)):u18):=by
  intro ws
  induction ws with
  | nil=>intro a;simp
  | cons w ws ih=>intro a;rw[List.foldl_cons,ih,List.map_cons,List.append_assoc];rfl
 rw[fo] at L
 obtain⟨all,ha⟩:∃all,all=l++t.2.2.2.2.2.1.map fun w:WrT=>((w.1,emp,false,(0:Int)):u18):=⟨_,rfl⟩
 rw[←ha] at L
 have hal:all.length≤6000000:=by rw[ha];simp;omega
 have hmap:all.map (fun v=>v.1)=l.map (fun v=>v.1)++t.2.2.2.2.2.1.map fun w=>w.1:=by
  rw[ha,List.map_append,List.map_map];rfl
 obtain⟨ks,hks⟩:∃ks,ks=(q1h (all.map fun v=>v.1)).filter fun k=>inR r k:=⟨_,rfl⟩
 have hkl:ks.length≤all.length:=by
  rw[hks]
  refine Nat.le_trans (List.length_filter_le _ _) (Nat.le_trans (q1i _) (by simp))
 have L2:=s0p t37 ks (fun a i=>(l,t,a,ks,i)) (fun k=>(s9f t l k).2) (fun k=>(k,(s9f t l k).1)) (fun a=> .inl a) (by omega)
  (fun a _=>by rw[s62];simp only[t3t,u0b,Nat.lt_irrefl,decide_false,cond_false])
  (fun i hi a ha=>by
   rw[s62];simp only[t3t,u0b,hi,decide_true,cond_true,y7t hi,zTn,y8k (t:=Ty.str) hi,r9p t l _ ht hl,zOb,List.length_singleton,u07 (show a.length+1≤1099511627776 by omega)]
   rw[y7l (by omega)])
 have L:u88 (l,t,r,l,0)=_:=L
 rw[q20];unfold r06
 simp only[List.length_nil,Nat.zero_add,List.nil_append,u07 (show l.length≤1099511627776 by omega),cond_true,L,zOb,q70 all r (show all.length≤500000000000 by omega)]
 rw[←hks]
 simp only[L2,zOb]
 rw[hks,List.filter_filter,hmap]
 rfl
theorem p2w {k:ByteArray} :u2d (k,k)=u55 k:=by
 unfold u2d
 have:z7o k k=true:=by simp[z7o]
 rw[this,Bool.or_true,Bool.and_true,Bool.and_self]
def o3u (e:u1q) (id:Int) (k:ByteArray):u1q×ByteArray×Bool×Int:=
 if(s0m e id (k,k) (u55 k)).2=0 then((s0m e id (k,k) (u55 k)).1,(s9f (u2e e id) e.1.1 k).1,(s9f (u2e e id) e.1.1 k).2,0)
 else((s0m e id (k,k) (u55 k)).1,emp,false,(s0m e id (k,k) (u55 k)).2)
def p92 (e:u1q) (id:Int) (r:s2e):u1q×List PrT×Int:=
 if(s0m e id r (u2d r)).2=0 then((s0m e id r (u2d r)).1,q1o (u2e e id) e.1.1 r,0) else((s0m e id r (u2d r)).1, [],(s0m e id r (u2d r)).2)
theorem q1u {t:u0e} {r:s2e} :(s0n t r).1.2.2.1=t.2.2.1∧(s0n t r).1.2.2.2.2.2.1=t.2.2.2.2.2.1:=by
 unfold s0n
 split
 ·exact⟨rfl,rfl⟩
 ·split<;>exact⟨rfl,rfl⟩
theorem q1n (t:u0e) (r:s2e) (l:List u18) (k:ByteArray):s9f (s0n t r).1 l k=s9f t l k:=by
 unfold s9f;rw[q1u.1,q1u.2]
theorem q9p (t:u0e) (r q:s2e) (l:List u18):q1o (s0n t r).1 l q=q1o t l q:=by
 unfold q1o;rw[q1u.2];simp only[q1n]
theorem q90 {t:u0e} {r:s2e} (h:tinyT t):r2f (s0n t r).1:=by
 unfold s0n
 split
 ·exact h.few
 ·split
  ·refine⟨?_,h.few.2⟩
   show(t.2.2.2.2.1++ [r]).length≤1048576
   have:=h.rl
   simp;omega
  ·exact h.few
theorem p0u {e:u1q} (h:EngR e) (id:Int) {k:ByteArray} (hk:k.size≤1048576):t2i (e,id,k)=some (o3u e id k):=by
 have ho:=h.olen
 have h1:u0m e=some e:=u7b e.1 e.2 h.fewB h.fewO
 have h2:=t0m e id (by omega)
 have h3:=t4p k (by unfold u0l;omega)
 rw[q6l];unfold r4l o3u s0m
 simp only[h1,h2,h3,zOb]
 by_cases hn:u16 e.2 id<0
 ·simp only[hn,decide_true,cond_true,if_true]
  rfl
 ·obtain⟨j,hj,e1,e2,e3⟩:=u1i hn
  have hR:=h.open_ _ (List.getElem_mem hj)
  simp only[hn,decide_false,cond_false,if_false]
  cases hok:u55 k with
  | false=>rfl
  | true=>
   have c:=r0o (r:=(k,k)) hR.1 hR.2.1 (by rw[p2w];exact hok)
   simp only[Bool.not_true,cond_false,e1,y7t hj,cond_true,zTn,y8k (t:=u0t) hj,c,zOb,e2,Bool.true_eq_false,if_false]
   cases hr:(s0n e.2[j] (k,k)).2 with
   | false=>rfl
   | true=>
    have g:=r9p (s0n e.2[j] (k,k)).1 e.1.1 k (q90 hR.1.tiny) (by have:=h.tinyO.vl;omega)
    simp only[Bool.not_true,cond_false,g,zOb,if_true,q1n]
    rfl
theorem q5p {e:u1q} (h:EngR e) (id:Int) {r:s2e} (hk:r.1.size≤1048576∧r.2.size≤1048576):u7q (e,id,r)=some (p92 e id r):=by
 have ho:=h.olen
 have h1:u0m e=some e:=u7b e.1 e.2 h.fewB h.fewO
 have h2:=t0m e id (by omega)
 have h3:=s7n r (by unfold u0l;omega) (by unfold u0l;omega)
 rw[q0w];unfold s8e p92 s0m
 simp only[h1,h2,h3,zOb]
 by_cases hn:u16 e.2 id<0
 ·simp only[hn,decide_true,cond_true,if_true]
  rfl
 ·obtain⟨j,hj,e1,e2,e3⟩:=u1i hn
  have hR:=h.open_ _ (List.getElem_mem hj)
  simp only[hn,decide_false,cond_false,if_false]
  cases hok:u2d r with
  | false=>rfl
  | true=>
   have c:=r0o (r:=r) hR.1 hR.2.1 hok
   simp only[Bool.not_true,cond_false,e1,y7t hj,cond_true,zTn,y8k (t:=u0t) hj,c,zOb,e2,Bool.true_eq_false,if_false]
   cases hr:(s0n e.2[j] r).2 with
   | false=>rfl
   | true=>
    have g:=q71 (s0n e.2[j] r).1 e.1.1 r (q90 hR.1.tiny) (by have:=h.tinyO.vl;omega)
    simp only[Bool.not_true,cond_false,g,zOb,if_true,q9p]
    rfl
theorem p00 {e:u1q} (h:EngR e) (id:Int) {w:WrT} (hw:w.1.size≤1048576):t2j (e,id,w)=some (q68 e id w):=by
 have ho:=h.olen
 have h1:u0m e=some e:=u7b e.1 e.2 h.fewB h.fewO
 have h2:=t0m e id (by omega)
 have h3:=s7r w (by unfold u0l;omega)
 rw[q6q];unfold r4q q68
 simp only[h1,h2,h3,zOb]
 by_cases hn:u16 e.2 id<0
 ·simp only[hn,decide_true,cond_true,if_true]
 ·obtain⟨j,hj,e1,e2,e3⟩:=u1i hn
  have hR:=h.open_ _ (List.getElem_mem hj)
  simp only[hn,decide_false,cond_false,if_false]
  cases hok:u10 w with
  | false=>rfl
  | true=>
   have c:=q5u (w:=w) hR.1 hR.2.1 hok
   simp only[Bool.not_true,cond_false,e1,y7t hj,cond_true,zTn,y8k (t:=u0t) hj,c,zOb,e2,Bool.true_eq_false,if_false]
   cases hr:(t6c e.2[j] w).2 with
   | false=>rfl
   | true=>rfl
theorem s4h (b:u0i) (o:List u0e) (id:Int) (hb:fewB b) (ho:o.length≤1000):u00 ((b,o),id)=some ((u4r b (o.filter fun x=> !decide (x.1=id))),o.filter fun x=> !decide (x.1=id)):=by
 have L:=s0p t0y o (fun a i=>((b,o),id,a,i)) (fun x:u0e=> !decide (x.1=id)) (fun x=>x) (fun a=> .inl ((b,o),a)) (by omega)
  (fun a _=>by rw[s94];simp only[t5b,u0b,Nat.lt_irrefl,decide_false,cond_false])
  (fun i hi a ha=>by
   rw[s94];simp only[t5b,u0b,hi,decide_true,cond_true,y7t hi,zTn,y8k (t:=u0t) hi,List.length_singleton,u07 (show a.length+1≤1099511627776 by omega)]
   rw[y7l (by omega)])
 rw[List.map_id'] at L
 have L:t0y ((b,o),id, [],0)=_:=L
 have hl:=List.length_filter_le (fun x:u0e=> !decide (x.1=id)) o
 rw[q62];unfold r42
 simp only[L,zOb,s4k b (o.filter fun x=> !decide (x.1=id)) hb (by omega)]
theorem p3g {e:u1q} (h:EngR e) (id:Int):t4x (e,id)=some (s3m e id):=by
 have ho:=h.olen
 have h1:u0m e=some e:=u7b e.1 e.2 h.fewB h.fewO
 have h2:=t0m e id (by omega)
 have h3:u00 (e,id)=some (t4v e id):=s4h e.1 e.2 id h.fewB (by omega)
 rw[q8x];unfold r7q s3m
 simp only[h1,h2,h3,zOb]
 by_cases hn:u16 e.2 id<0
 ·simp only[hn,decide_true,cond_true,if_true]
 ·simp only[hn,decide_false,cond_false,if_false]
end
section
theorem o05 {E:Type} (l:List E) (f g:E→Bool):l.any (fun x=>f x || g x)=(l.any f || l.any g):=by
 induction l with
 | nil=>rfl
 | cons x l ih=>
  simp only[List.any_cons,ih]
  cases f x<;>cases g x<;>cases l.any f<;>cases l.any g<;>rfl
theorem p7d {E:Type} (l:List E) (f g:E→Bool) (i:Bool):l.any (fun x=>f x&&(i || g x))=((i&&l.any f) || l.any fun x=>f x&&g x):=by
 cases i
 ·simp
 ·simp only[Bool.true_or,Bool.and_true,Bool.true_and]
  cases h:l.any f with
  | true=>rfl
  | false=>
   rw[List.any_eq_false] at h
   symm
   rw[Bool.false_or,List.any_eq_false]
   intro x hx
   have:=h x hx
   simp[this]
theorem r66 (t:u0e) (l:List u0e) (ht:r2f t) (hl:q1a l):t7h (t,l)=some (t9g t l):=by
 obtain⟨l1,l2⟩:=hl
 have L:=s4l u85 l (fun i=>(l,t,i)) (fun x=> !decide (x.1=t.1)&&((decide (x.2.1=2) || (decide (x.2.1=3)&&decide (x.2.2.2.1 >t.2.2.1)))&&s1w x.2.2.2.2.2.1 t.2.2.2.2.2.1)) (.inr true) (.inl ())
  (by rw[s6y];simp only[t3q,u0b,Nat.lt_irrefl,decide_false,cond_false])
  (fun i hi=>by
   have h1:=p3i l[i].2.2.2.2.2.1 t.2.2.2.2.2.1 (t0l (l2 _ (List.getElem_mem hi)).2) (t0l ht.2)
   rw[s6y]
   simp only[t3q,u0b,hi,decide_true,cond_true,y7t hi,zTn,y8k (t:=u0t) hi,h1,zOb]
   rw[y7l (by omega)]
   cases decide (l[i].1=t.1)<;>cases decide (l[i].2.1=2)<;>cases decide (l[i].2.1=3)<;>cases decide (l[i].2.2.2.1 >t.2.2.1)<;>cases s1w l[i].2.2.2.2.2.1 t.2.2.2.2.2.1<;>rfl)
 rw[q2v];unfold r01 t9g
 have L:u85 (l,t,0)=_:=L
 simp only[L,zOb]
 cases l.any fun x:u0e=> !decide (x.1=t.1)&&((decide (x.2.1=2) || (decide (x.2.1=3)&&decide (x.2.2.2.1 >t.2.2.1)))&&s1w x.2.2.2.2.2.1 t.2.2.2.2.2.1)<;>rfl
theorem q7y (t:u0e) (l:List u0e) (ht:r2f t) (hl:q1a l):s40 (t,l)=some (q9c t l):=by
 obtain⟨l1,l2⟩:=hl
 have L:=s4l t5e l (fun i=>(l,t,i)) (fun x=>p0h x&&ahead x t) (.inr true) (.inl ())
  (by rw[r5y];simp only[t8x,u0b,Nat.lt_irrefl,decide_false,cond_false])
  (fun i hi=>by
   have h1:=t1i l[i] t (t0l (l2 _ (List.getElem_mem hi)).1) (t0l ht.2)
   rw[r5y]
   simp only[t8x,u0b,hi,decide_true,cond_true,y7t hi,zTn,y8k (t:=u0t) hi,h1,zOb,p0h]
   rw[y7l (by omega)]
   cases decide (l[i].2.1=2)<;>cases decide (l[i].2.1=3)<;>cases ahead l[i] t<;>rfl)
 rw[p1d];unfold r91 q9c
 have L:t5e (l,t,0)=_:=L
 simp only[L,zOb]
 cases l.any fun x=>p0h x&&ahead x t<;>rfl
def q54 (t:u0e) (l:List u0e) (p:u0e):Bool:=
 (p0h p&&(p.2.2.2.2.2.2.1&&ahead t p)) || (decide (p.2.1=2)&&(ahead p t&&(ahead t p || l.any fun x=>decide (x.2.1=2)&&(!decide (x.1=t.1)&&ahead x p))))
theorem p7h (t:u0e) (l:List u0e):s2v t l=((q9c t l&&s7k t l) || l.any (q54 t l)):=by
 unfold s2v s1s
 rw[←o05]
 rfl
theorem r3b (t:u0e) (l:List u0e) (ht:r2f t) (hl:q1a l):t5w (t,l)=some (s2v t l):=by
 obtain⟨l1,l2⟩:=hl
 have inner:∀(i:Nat) (hi:i<l.length),u6a (l,t,(i:Int),l[i],0)=some (bif (decide (l[i].2.1=2)&&ahead l[i] t)&&(l.any fun x=>decide (x.2.1=2)&&(!decide (x.1=t.1)&&ahead x l[i])) then .inr true else .inl (l,t,(i:Int))):=fun i hi=>by
  have g1:=t1i l[i] t (t0l (l2 _ (List.getElem_mem hi)).1) (t0l ht.2)
  cases hg:(decide (l[i].2.1=2)&&ahead l[i] t) with
  | false=>
   have e0:u6a (l,t,(i:Int),l[i],0)=_:=t8j _
   rw[e0]
   simp only[u8w,g1,zOb,Bool.false_and,cond_false]
   cases decide ((0:Int)<(l.length:Int))
   ·rfl
   ·revert hg
    cases decide (l[i].2.1=2)<;>cases ahead l[i] t<;>simp
  | true=>
   rw[Bool.and_eq_true,decide_eq_true_eq] at hg
   obtain⟨q1,q2⟩:=hg
   have L:=s4l u6a l (fun k=>(l,t,(i:Int),l[i],k)) (fun x=>decide (x.2.1=2)&&(!decide (x.1=t.1)&&ahead x l[i])) (.inr true) (.inl (l,t,(i:Int)))
    (by rw[t8j];simp only[u8w,u0b,Nat.lt_irrefl,decide_false,cond_false,zOb])
    (fun k hk=>by
     have g2:=t1i l[k] l[i] (t0l (l2 _ (List.getElem_mem hk)).1) (t0l (l2 _ (List.getElem_mem hi)).2)
     rw[t8j]
     simp only[u8w,u0b,hk,decide_true,cond_true,q1,g1,q2,g2,y7t hk,zTn,y8k (t:=u0t) hk,zOb]
     rw[y7l (by omega)]
     cases decide (l[k].2.1=2)<;>cases decide (l[k].1=t.1)<;>cases ahead l[k] l[i] <;>rfl)
   rw[Bool.true_and]
   exact L
 have L:=s4l t0u l (fun i=>(l,t,i)) (q54 t l) (.inr true) (.inl ())
  (by rw[s9x];simp only[t46,u0b,Nat.lt_irrefl,decide_false,cond_false])
  (fun i hi=>by
   have g1:=t1i l[i] t (t0l (l2 _ (List.getElem_mem hi)).1) (t0l ht.2)
   have g2:=t1i t l[i] (t0l ht.1) (t0l (l2 _ (List.getElem_mem hi)).2)
   rw[s9x]
   simp only[t46,u0b,hi,decide_true,cond_true,y7t hi,zTn,y8k (t:=u0t) hi,g1,g2,inner i hi,zOb,q54,p0h]
   have ws:=y7l (i:=i) (by omega)
   cases decide (l[i].2.1=2)<;>cases decide (l[i].2.1=3)<;>cases l[i].2.2.2.2.2.2.1<;>cases ahead l[i] t<;>cases ahead t l[i] <;>cases (l.any fun x=>decide (x.2.1=2)&&(!decide (x.1=t.1)&&ahead x l[i]))<;>first | rfl | (simp only[Bool.and_self,Bool.and_false,Bool.false_and,Bool.true_and,Bool.or_false,Bool.or_true,Bool.false_or,cond_true,cond_false,zOb,ws]))
 rw[q6i];unfold r4i
 have L:t0u (l,t,0)=_:=L
 simp only[q7y t l ht ⟨l1,l2⟩,r56 t l ht ⟨l1,l2⟩,L,zOb]
 rw[p7h]
 cases q9c t l<;>cases s7k t l<;>cases l.any (q54 t l)<;>rfl
theorem r8j (t:u0e) (l:List u0e) (ht:r2f t) (hl:q1a l):t5x (t,l)=some (t94 t l):=by
 obtain⟨l1,l2⟩:=hl
 have inner:∀(i:Nat) (hi:i<l.length) (b:Bool),u41 (l,t,b,(i:Int),l[i],0)=some (bif (l.any fun y=>decide (y.2.1=2)&&(!decide (y.1=t.1)&&ahead l[i] y)) then .inr true else .inl (l,t,b,(i:Int))):=fun i hi b=>
  s4l u41 l (fun k=>(l,t,b,(i:Int),l[i],k)) (fun y=>decide (y.2.1=2)&&(!decide (y.1=t.1)&&ahead l[i] y)) (.inr true) (.inl (l,t,b,(i:Int)))
   (by rw[t76];simp only[u6j,u0b,Nat.lt_irrefl,decide_false,cond_false,zOb])
   (fun k hk=>by
    have g2:=t1i l[i] l[k] (t0l (l2 _ (List.getElem_mem hi)).1) (t0l (l2 _ (List.getElem_mem hk)).2)
    rw[t76]
    simp only[u6j,u0b,hk,decide_true,cond_true,g2,y7t hk,zTn,y8k (t:=u0t) hk,zOb]
    rw[y7l (by omega)]
    cases decide (l[k].2.1=2)<;>cases decide (l[k].1=t.1)<;>cases ahead l[i] l[k] <;>rfl)
 have L:=s4l u5f l (fun i=>(l,t,q9c t l,i)) (fun x=>(decide (x.2.1=2)&&ahead t x)&&(q9c t l || l.any fun y=>decide (y.2.1=2)&&(!decide (y.1=t.1)&&ahead x y))) (.inr true) (.inl ())
  (by rw[t8w];simp only[u66,u0b,Nat.lt_irrefl,decide_false,cond_false])
  (fun i hi=>by
   have g2:=t1i t l[i] (t0l ht.1) (t0l (l2 _ (List.getElem_mem hi)).2)
   rw[t8w]
   simp only[u66,u0b,hi,decide_true,cond_true,y7t hi,zTn,y8k (t:=u0t) hi,g2,inner i hi (q9c t l),zOb]
   have ws:=y7l (i:=i) (by omega)
   cases decide (l[i].2.1=2)<;>cases ahead t l[i] <;>cases q9c t l<;>cases (l.any fun y=>decide (y.2.1=2)&&(!decide (y.1=t.1)&&ahead l[i] y))<;>first | rfl | (simp only[Bool.and_self,Bool.and_false,Bool.false_and,Bool.true_and,Bool.or_false,Bool.or_true,Bool.false_or,Bool.not_true,Bool.not_false,cond_true,cond_false,zOb,ws]))
 rw[p7d] at L
 rw[r5d];unfold s0t t94 r8a
 have L:u5f (l,t,q9c t l,0)=_:=L
 simp only[r3b t l ht ⟨l1,l2⟩,q7y t l ht ⟨l1,l2⟩,L,zOb]
 have e:s1s (fun x:u0e=> !decide (x.1=t.1)) t l=s2v t l:=rfl
 rw[e]
 cases s2v t l<;>cases ((q9c t l&&l.any fun x=>decide (x.2.1=2)&&ahead t x) || l.any fun x=>(decide (x.2.1=2)&&ahead t x)&&l.any fun y=>decide (y.2.1=2)&&(!decide (y.1=t.1)&&ahead x y))<;>rfl
theorem p18 (b:u0i) (hb:fewB b):t2n b=some (b.2.1++b.2.2.1):=by
 have h1:=hb.2.1.1
 have h2:=hb.2.2.1
 rw[q61];unfold r41
 simp only[List.length_nil,Nat.zero_add,List.nil_append,u07 (show b.2.1.length≤1099511627776 by omega),u07 (show b.2.1.length+b.2.2.1.length≤1099511627776 by omega),cond_true]
theorem q4c {e:u1q} (h:EngR e) (id:Int):s1a (e,id)=some (t6h e id):=by
 have ho:=h.olen
 have h2:=t0m e id (by omega)
 have h3:=p18 e.1 h.fewB
 have h3:t2n e.1=some (u53 e):=h3
 have h4:=q9a e.1
 rw[q8v];unfold r7o t6h
 simp only[h2,h3,zOb]
 by_cases hn:u16 e.2 id<0
 ·simp only[hn,decide_true,cond_true,if_true]
 ·obtain⟨j,hj,e1,e2,e3⟩:=u1i hn
  have hT:=(h.ot (List.getElem_mem hj)).few
  simp only[hn,decide_false,cond_false,if_false,e1,y7t hj,cond_true,zTn,y8k (t:=u0t) hj,r66 _ _ hT h.fewOth,r3b _ _ hT h.fewOth,h4,zOb,e2]
  have hn' : ¬((j:Int)<0):=by omega
  simp only[hn',decide_false,cond_false,if_false]
  cases t9g e.2[j] (u53 e)<;>cases s2v e.2[j] (u53 e)<;>cases s8w e.1<;>rfl
end
section
theorem q92 {b:u0i} {t:u0e} {n:ByteArray} (h: ¬(0≤u1k b n)):∃(k:Nat) (hk:k<(u1s b t n).2.2.1.length),u1k (u1s b t n) n=(k:Int)∧(u1s b t n).2.2.1[k] =u4q b t n:=by
 have hb:=p90.mp (show u1k b n<0 by omega)
 have hm:u4q b t n∈(u1s b t n).2.2.1:=by
  show u4q b t n∈(b.2.2.1.filter fun x=>y3c x.2.2.2.2.2.2.2 n)++ [u4q b t n] ++(b.2.2.1.filter fun x=> !y3c x.2.2.2.2.2.2.2 n)
  simp
 have hn: ¬u1k (u1s b t n) n<0:=fun q=>p90.mp q _ hm rfl
 obtain⟨k,hk,e1,e2⟩:=t6o hn
 refine⟨k,hk,e1,?_⟩
 have hx:=List.getElem_mem hk
 have hx:(u1s b t n).2.2.1[k] ∈(b.2.2.1.filter fun x=>y3c x.2.2.2.2.2.2.2 n)++ [u4q b t n] ++(b.2.2.1.filter fun x=> !y3c x.2.2.2.2.2.2.2 n):=hx
 simp only[List.mem_append,List.mem_filter,List.mem_singleton] at hx
 rcases hx with (q | q) | q
 ·exact absurd e2 (hb _ q.1)
 ·exact q
 ·exact absurd e2 (hb _ q.1)
theorem EngR.mids {e:u1q} (h:EngR e):p7u e.1.2.2.2.1:=p1p h.base.cs
theorem p2b {e:u1q} (h:EngR e) {t:u0e} (ht:t∈e.2∨t∈e.1.2.2.1):u5o (e.1,t)=some (u1h e.1 t):=by
 have hT:TxnR t:=by
  rcases ht with q | q
  ·exact(h.open_ t q).1
  ·exact(h.base.ready t q).1
 rw[r7b e.1 t h.fewB hT.tiny.few,q15 h.mids (r3k hT.id)]
theorem q5r {e:u1q} (h:EngR e) {t:u0e} (ht:t∈e.2∨t∈e.1.2.2.1):tinyB (u1h e.1 t):=by
 have hT:TxnR t:=by
  rcases ht with q | q
  ·exact(h.open_ t q).1
  ·exact(h.base.ready t q).1
 exact s9s h.base hT.tiny
theorem q9q (b:u0i) (t:u0e) (hb:b.2.1.length≤1000):∃(k:Nat) (hk:k<(u1h b t).2.1.length),IntKind.i64.wrap (((u1h b t).2.1.length:Int) - (1:Int))=(k:Int)∧(u1h b t).2.1[k] =u8f b t:=by
 have e:(u1h b t).2.1=b.2.1++ [u8f b t] :=rfl
 refine⟨b.2.1.length,by rw[e];simp,?_,?_⟩
 ·rw[e,List.length_append,List.length_singleton,y4y (by omega) (by omega)];omega
 ·simp[e]
theorem q8j {b:u0i} {t:u0e} (h:r2f t):r2f (u8f b t):=h
theorem p0q {e:u1q} (h:EngR e) (id:Int):s4y (e,id)=some (u21 e id):=by
 have ho:=h.olen
 have h1:u0m e=some e:=u7b e.1 e.2 h.fewB h.fewO
 have h2:=t0m e id (by omega)
 have hJ:=q4c h id
 have hO:u00 (e,id)=some (t4v e id):=s4h e.1 e.2 id h.fewB (by omega)
 rw[q6h];unfold r4h u21
 simp only[h1,hJ,zOb]
 by_cases c1:t6h e id=1
 ·simp only[c1,decide_true,cond_true,if_true]
  rfl
 ·simp only[c1,decide_false,cond_false,if_false]
  by_cases c0:t6h e id=0
  ·obtain⟨hn,_,_,_⟩:=s8y c0
   obtain⟨j,hj,e1,e2,e3⟩:=u1i hn
   have hm:e.2[j] ∈e.2∨e.2[j] ∈e.1.2.2.1:= .inl (List.getElem_mem hj)
   have hT:=p2b h hm
   obtain⟨k,hk,f1,f2⟩:=q9q e.1 e.2[j] (by have:=h.base.plen;omega)
   have hC:=u8v (u8f e.1 e.2[j]) (q8j (h.ot (List.getElem_mem hj)).few)
   have hO2:=s4h (u1h e.1 e.2[j]) e.2 id (q5r h hm).few (by omega)
   simp only[c0,decide_true,Bool.not_true,cond_false,if_true,h2,e1,y7t hj,cond_true,zTn,y8k (t:=u0t) hj,hT,f1,y7t hk,y8k (t:=u0t) hk,f2,hC,hO2,zOb,e2]
   show some _=some (u54 e e.2[j],_)
   unfold u54 u60
   rw[e3]
   rfl
  ·simp only[c0,decide_false,Bool.not_false,cond_true,if_false,hO,zOb]
   rfl
theorem q73 {e:u1q} (h:EngR e) (id:Int) {n:ByteArray} (hn1:n.size≤1048576):s14 (e,id,n)=some (t8b e id n):=by
 have ho:=h.olen
 have h1:u0m e=some e:=u7b e.1 e.2 h.fewB h.fewO
 have h2:=t0m e id (by omega)
 have hK:=t4p n (by unfold u0l;omega)
 have hA:u1u (e.1,n)=some (u1k e.1 n):=t7u e.1 n (by have:=h.base.rlen;omega)
 have hJ:=q4c h id
 have hL:t2n e.1=some (u53 e):=p18 e.1 h.fewB
 have hO:u00 (e,id)=some (t4v e id):=s4h e.1 e.2 id h.fewB (by omega)
 rw[q22];unfold r08 t8b
 simp only[h1,h2,zOb]
 by_cases c1:u16 e.2 id<0
 ·simp only[c1,decide_true,cond_true,if_true]
  rfl
 simp only[c1,decide_false,cond_false,if_false,hK,zOb]
 cases c2:u55 n with
 | false=>simp only[Bool.not_false,cond_true,if_true];rfl
 | true=>
 simp only[Bool.not_true,cond_false,Bool.true_eq_false,if_false,hA,zOb]
 by_cases c3:0≤u1k e.1 n
 ·have c3' :decide (u1k e.1 n≥0)=true:=by simpa using c3
  simp only[c3,c3',cond_true,if_true]
  rfl
 have c3' :decide (u1k e.1 n≥0)=false:=by simpa using c3
 simp only[c3,c3',cond_false,if_false,hJ,zOb]
 unfold s98
 by_cases c4:t6h e id=0
 ·obtain⟨j,hj,e1,e2,e3⟩:=u1i c1
  have hT:=(h.ot (List.getElem_mem hj))
  have hTR:=(h.open_ _ (List.getElem_mem hj)).1
  have hD:=r8j e.2[j] (u53 e) hT.few h.fewOth
  have hr:=h.base.rlen
  simp only[c4,decide_true,e1,y7t hj,cond_true,zTn,y8k (t:=u0t) hj,hL,hD,zOb,e2,ne_eq,not_true_eq_false,if_false]
  cases c5:t94 e.2[j] (u53 e) with
  | true=>
   have d5:decide ((5:Int)=0)=false:=by decide
   simp only[cond_true,d5,cond_false,zOb,Bool.not_false,hO,if_true]
   rfl
  | false=>
   simp only[cond_false,zOb,Bool.false_eq_true,if_false]
   have e6:decide ((e.1.2.2.1.length:Int)≥3)=decide (3≤e.1.2.2.1.length):=by simp;omega
   simp only[e6]
   by_cases c6:3≤e.1.2.2.1.length
   ·have d3:decide ((3:Int)=0)=false:=by decide
    simp only[c6,decide_true,cond_true,d3,Bool.not_false,hO,zOb,if_true]
    rfl
   ·have hM:=r0n e.1 e.2[j] n h.fewB hT.few (r3k hTR.id)
    obtain⟨k,hk,f1,f2⟩:=q92 (t:=e.2[j]) c3
    have hns:n.size≤100:=by have:=(u30 c2).2;omega
    have hMt:=q40 (t:=e.2[j]) h.base hT hns
    have hA2:u1u (u1s e.1 e.2[j] n,n)=some ((k:Nat):Int):=by rw[t7u _ n (by have:=hMt.rl;omega),f1]
    have hC:=u8v (u4q e.1 e.2[j] n) hT.few
    have hO2:=s4h (u1s e.1 e.2[j] n) e.2 id hMt.few (by omega)
    simp only[c6,decide_false,cond_false,decide_true,Bool.not_true,y7t hj,cond_true,y8k (t:=u0t) hj,hM,hA2,y7t hk,zTn,y8k (t:=u0t) hk,f2,hC,hO2,zOb,if_false,if_true]
    show some _=some (p59 e e.2[j] n,_)
    unfold p59 u60
    rw[e3]
    rfl
 ·simp only[c4,decide_false,cond_false,zOb,Bool.not_false,cond_true,hO,ne_eq,not_false_eq_true,if_true,if_false]
  rfl
theorem q5i {e:u1q} (h:EngR e) (n:ByteArray) (yes:Bool):s4z (e,n,yes)=some (r6t e n yes):=by
 have ho:=h.olen
 have h1:u0m e=some e:=u7b e.1 e.2 h.fewB h.fewO
 have hA:u1u (e.1,n)=some (u1k e.1 n):=t7u e.1 n (by have:=h.base.rlen;omega)
 have hF:=q9a e.1
 have hG:=r67 e.1 n h.fewB
 have hG2:=s4k (s1v e.1 n) e.2 (q4t h.tinyO).few (by omega)
 rw[q6k];unfold r4k r6t
 simp only[h1,hA,hF,zOb]
 by_cases c1:u1k e.1 n<0
 ·simp only[c1,decide_true,cond_true,if_true]
  rfl
 obtain⟨k,hk,f1,f2⟩:=t6o c1
 simp only[c1,decide_false,cond_false,if_false]
 cases yes with
 | false=>simp only[cond_false,zOb,hG,hG2,Bool.false_eq_true,false_and,if_false];rfl
 | true=>
  have hm:e.1.2.2.1[k] ∈e.2∨e.1.2.2.1[k] ∈e.1.2.2.1:= .inr (List.getElem_mem hk)
  have hT:=p2b h hm
  have hT2:=s4k (u1h e.1 e.1.2.2.1[k]) e.2 (q5r h hm).few (by omega)
  simp only[cond_true,true_and]
  cases s8w e.1 with
  | true=>rfl
  | false=>
   simp only[cond_false,Bool.false_eq_true,if_false,if_true,f1,y7t hk,cond_true,zTn,y8k (t:=u0t) hk,hT,hT2,zOb]
   rfl
end
section
theorem q84:emp.size≤100:=by decide
theorem r2x (r:s4d):(u1e r).1.size≤20000:=by
 cases h:t2o r with
 | false=>unfold u1e;rw[h];exact Nat.le_trans q84 (by omega)
 | true=>
  have hR:=p88.mp h
  rw[t1f hR]
  have:=s3p hR
  show(r0k (s9m r)).size≤20000
  rw[q42];omega
def p05 (b:u0i):s4d:=(4,u6z,emp,false,b)
theorem q8d {b:u0i} (h:tinyB b):tinyR (p05 b):=⟨t6q,q84,h⟩
theorem q4a (d:u0j) (hd:o51.wt d≤10000000):t55 d=some (orD d (p4u d)):=by
 have h1:=p3k d (by omega)
 have h2:=t0n (p05 (p52 (u0k d)).1) (q8d (p53 _)).wt
 have h3:=t1j d (by unfold u0l;omega)
 rw[q08];unfold s8r
 simp only[h1,zOb]
 have h2:u2z (4,(0,0,0,0, [], [],false,(⟨#[]⟩:ByteArray)),(⟨#[]⟩:ByteArray),false,(p52 (u0k d)).1)=_:=h2
 simp only[h2,h3,zOb]
 unfold p4u
 cases hp:t2u (u0k d) with
 | none=>
  have e:(p52 (u0k d)).2=false:=by unfold p52;rw[hp]
  simp only[e,Bool.not_false,cond_true,zOb]
  rfl
 | some b=>
  have e:p52 (u0k d)=(b,true):=by unfold p52;rw[hp]
  simp only[e,Bool.not_true,cond_false,zOb]
  have e4:p05 b=(4,u6z,emp,false,b):=rfl
  rw[e4]
  cases ht:(u1e (4,u6z,emp,false,b)).2 with
  | false=>simp only[Bool.not_false,cond_true,Bool.false_eq_true,if_false];rfl
  | true=>
   have h5:=q2h (d:=d) (l:= [(u1e (4,u6z,emp,false,b)).1]) hd (by simp) (fun t h=>by
    rw[List.mem_singleton.mp h];have:=r2x (4,u6z,emp,false,b);omega)
   simp only[Bool.not_true,cond_false,if_true,h5,zOb]
theorem p9p {d z:u0j} (h:p4u d=some z):u4d z=true:=by
 unfold p4u at h
 split at h
 ·cases h
 ·split at h
  ·exact(q46 h).2.1
  ·cases h
theorem r9o (s:u1w) (r:s4d) (hd:o51.wt s.2≤10000000) (hr:tinyR r):t3d (s,r)=some ((t4n s.2 r).isSome,s.1,(t4n s.2 r).getD s.2):=by
 have h1:=t0n r hr.wt
 have hl:=r2x r
 have h2:=r0m s.2 (u1e r).1 hd (by omega)
 have h3:=q4a s.2 hd
 rw[q3v];unfold r2a t4n
 simp only[h1,zOb]
 cases ht:(u1e r).2 with
 | false=>simp only[Bool.not_false,cond_true,Bool.false_eq_true,if_false];rfl
 | true=>
  simp only[Bool.not_true,cond_false,if_true,h2,zOb]
  cases ha:append_ s.2 (u1e r).1 with
  | some y=>rfl
  | none=>
   simp only[orD,Bool.not_false,cond_true,h3,zOb]
   cases hz:p4u s.2 with
   | none=>rfl
   | some z=>
    have h4:=r0m z (u1e r).1 (s96 (p9p hz)) (by omega)
    simp only[orD,Bool.not_true,cond_false,h4,zOb]
    cases hq:append_ z (u1e r).1<;>rfl
theorem t40:tinyR q2c:=⟨t6q,by decide,u9u⟩
theorem q8f {e:u1q} (h:EngR e) (id:Int):tinyR (u21 e id).2.1:=by
 unfold u21
 split
 ·exact t40
 ·split
  ·rename_i c1 c0
   obtain⟨hn,_,_,_⟩:=s8y c0
   obtain⟨j,hj,e1,e2,e3⟩:=u1i hn
   rw[e2]
   exact⟨(h.ot (List.getElem_mem hj)).like rfl rfl q84,q84,u9u⟩
  ·exact t40
theorem p39 {e:u1q} (h:EngR e) (id:Int) (n:ByteArray):tinyR (t8b e id n).2.1:=by
 unfold t8b
 split
 ·exact t40
 ·rename_i hn
  split
  ·exact t40
  ·rename_i hk
   split
   ·exact t40
   ·split
    ·obtain⟨j,hj,e1,e2,e3⟩:=u1i hn
     rw[e2]
     have hk:u55 n=true:=by simpa using hk
     have:=(u30 hk).2
     exact⟨(h.ot (List.getElem_mem hj)).like rfl rfl (by show n.size≤100;omega),q84,u9u⟩
    ·exact t40
theorem p5u {e:u1q} (n:ByteArray) (hn:n.size≤100) (y:Bool):tinyR (r6t e n y).2.1:=by
 unfold r6t
 split
 ·exact t40
 ·split
  ·exact t40
  ·split
   ·exact⟨t6q,hn,u9u⟩
   ·exact⟨t6q,hn,u9u⟩
theorem q3z {s:u1w} (h:EngR s.1) (hd:u4d s.2=true) (id:Int):u6g (s,id)=some ((t57 s id).2,(t57 s id).1):=by
 have ho:=h.olen
 have h1:=p0q h id
 have h2:=r9o s (u21 s.1 id).2.1 (s96 hd) (q8f h id)
 have h3:u0m s.1=some s.1:=u7b s.1.1 s.1.2 h.fewB h.fewO
 have hO:u00 (s.1,id)=some (t4v s.1 id):=s4h s.1.1 s.1.2 id h.fewB (by omega)
 rw[r87];unfold s5n t57
 simp only[h1,zOb]
 by_cases c:(u21 s.1 id).2.2=0
 ·simp only[c,decide_true,cond_true,if_true,h2,zOb]
  cases t4n s.2 (u21 s.1 id).2.1 with
  | none=>simp only[Option.isSome_none,Bool.not_false,cond_true,h3,hO,zOb];rfl
  | some d=>rfl
 ·simp only[c,decide_false,cond_false,if_false]
theorem q1l {s:u1w} (h:EngR s.1) (hd:u4d s.2=true) (id:Int) {n:ByteArray} (hn:n.size≤1048576):u5v (s,id,n)=some ((s9q s id n).2,(s9q s id n).1):=by
 have ho:=h.olen
 have h1:=q73 h id hn
 have h2:=r9o s (t8b s.1 id n).2.1 (s96 hd) (p39 h id n)
 have h3:u0m s.1=some s.1:=u7b s.1.1 s.1.2 h.fewB h.fewO
 have hO:u00 (s.1,id)=some (t4v s.1 id):=s4h s.1.1 s.1.2 id h.fewB (by omega)
 rw[r6s];unfold s2u s9q
 simp only[h1,zOb]
 by_cases c:(t8b s.1 id n).2.2=0
 ·simp only[c,decide_true,cond_true,if_true,h2,zOb]
  cases t4n s.2 (t8b s.1 id n).2.1 with
  | none=>simp only[Option.isSome_none,Bool.not_false,cond_true,h3,hO,zOb];rfl
  | some d=>rfl
 ·simp only[c,decide_false,cond_false,if_false]
theorem p9t {e:u1q} {n:ByteArray} {y:Bool} (c:(r6t e n y).2.2≠0):(r6t e n y).1=e:=by
 unfold r6t at c ⊢
 split
 ·rfl
 ·split
  ·rfl
  ·rename_i h1 h2
   rw[if_neg h1,if_neg h2] at c
   split at c<;>exact absurd rfl c
theorem q30 {s:u1w} (h:EngR s.1) (hd:u4d s.2=true) {n:ByteArray} (hn:n.size≤100) (y:Bool):u6h (s,n,y)=some ((q11 s n y).2,(q11 s n y).1):=by
 have h1:=q5i h n y
 have h2:=r9o s (r6t s.1 n y).2.1 (s96 hd) (p5u n hn y)
 rw[r88];unfold s5o q11
 simp only[h1,zOb]
 by_cases c:(r6t s.1 n y).2.2=0
 ·simp only[c,decide_true,cond_true,if_true,h2,zOb]
  cases t4n s.2 (r6t s.1 n y).2.1 with
  | none=>rfl
  | some d=>rfl
 ·simp only[c,decide_false,cond_false,if_false,p9t c]
theorem p3d {s:u1w} (h:EngR s.1) (hd:o51.wt s.2≤10000000):s2c s=some s:=by
 have h1:u0m s.1=some s.1:=u7b s.1.1 s.1.2 h.fewB h.fewO
 have h2:=t1j s.2 (by unfold u0l;omega)
 rw[q3u];unfold r19
 simp only[h1,h2,zOb]
theorem p67 {s:u1w} (h:EngR s.1) (hd:u4d s.2=true):u7o s=some (p7j s):=by
 have h1:=p3d h (s96 hd)
 have h2:=q4a s.2 (s96 hd)
 rw[q0p];unfold s77 p7j
 simp only[h1,h2,zOb]
 cases p4u s.2<;>rfl
end
section
def PQR:List ByteArray:= [⟨#[112]⟩,⟨#[113]⟩,⟨#[114]⟩]
theorem p19 {y:ByteArray} (h:y∈PQR):y.size≤100:=by
 simp only[PQR,List.mem_cons,List.not_mem_nil,or_false] at h
 rcases h with rfl | rfl | rfl<;>decide
theorem Stt.mono {k m:Nat} {s:u1w} (h:Stt k s) (hm:k≤m):Stt m s:=by
 obtain⟨b,h1,h2⟩:=h.sync
 exact⟨⟨b,h1,by omega⟩,h.dom,h.num.mono hm⟩
theorem Stt.log {k:Nat} {s:u1w} (h:Stt k s):u4d s.2=true:=by obtain⟨b,h1,_⟩:=h.sync;exact h1.log
def RN (e:u1q):Prop:= ∀x∈e.1.2.2.1,x.2.2.2.2.2.2.2∈PQR
theorem RN.sub {e e' :u1q} (h:RN e) (hs:∀x∈e'.1.2.2.1,∃y∈e.1.2.2.1,x.2.2.2.2.2.2.2=y.2.2.2.2.2.2.2):RN e' :=fun x hx=>by
 obtain⟨y,hy,q⟩:=hs x hx
 rw[q];exact h y hy
theorem RN.same {e e' :u1q} (h:RN e) (hs:e'.1.2.2.1=e.1.2.2.1):RN e' :=h.sub fun x hx=>⟨x,by rw[←hs];exact hx,rfl⟩
theorem RN.through {e:u1q} (h:RN e) (t:u0e) (o:List u0e):RN (u4r (u1h e.1 t) o,o):=h.sub fun x hx=>by
 have hx:x∈(e.1.2.2.1.filter fun x=> !decide (x.1=t.1)).map (r5h (u8f e.1 t)):=hx
 obtain⟨y,hy,rfl⟩:=List.mem_map.mp hx
 exact⟨y,(List.mem_filter.mp hy).1,rfl⟩
theorem RN.commit {e:u1q} (h:RN e) (id:Int):RN (u21 e id).1:=by
 unfold u21
 split
 ·exact h
 ·split
  ·exact h.through _ _
  ·exact h.same rfl
theorem RN.prep {e:u1q} (h:RN e) (id:Int) {n:ByteArray} (hn:n∈PQR):RN (t8b e id n).1:=by
 unfold t8b
 split
 ·exact h
 ·split
  ·exact h
  ·split
   ·exact h
   ·split
    ·intro x hx
     have hx:x∈(e.1.2.2.1.filter fun x=>y3c x.2.2.2.2.2.2.2 n)++ [u4q e.1 (u2e e id) n] ++(e.1.2.2.1.filter fun x=> !y3c x.2.2.2.2.2.2.2 n):=hx
     simp only[List.mem_append,List.mem_filter,List.mem_singleton] at hx
     rcases hx with (q | rfl) | q
     ·exact h x q.1
     ·exact hn
     ·exact h x q.1
    ·exact h.same rfl
theorem RN.fin {e:u1q} (h:RN e) (n:ByteArray) (y:Bool):RN (r6t e n y).1:=by
 unfold r6t
 split
 ·exact h
 ·split
  ·exact h
  ·split
   ·exact h.through _ _
   ·exact h.sub fun x hx=>⟨x,(List.mem_filter.mp hx).1,rfl⟩
theorem RN.look {e:u1q} (h:RN e) {id:Int} {r:s2e} {right:Bool} :RN (s0m e id r right).1:=by
 unfold s0m
 split
 ·exact h
 ·split
  ·exact h
  ·split<;>exact h
theorem RN.put {e:u1q} (h:RN e) {id:Int} {w:WrT} :RN (q68 e id w).1:=by
 unfold q68
 split
 ·exact h
 ·split
  ·exact h
  ·split<;>exact h
theorem RN.begin {e:u1q} (h:RN e):RN (t25 e).1:=by
 unfold t25
 split<;>exact h
theorem RN.leave {e:u1q} (h:RN e) (id:Int):RN (s3m e id).1:=by
 unfold s3m
 split<;>exact h
structure SttN (k:Nat) (s:u1w):Prop extends Stt k s where
 rn:RN s.1
theorem SttN.mono {k m:Nat} {s:u1w} (h:SttN k s) (hm:k≤m):SttN m s:=⟨h.toStt.mono hm,h.rn⟩
theorem SttN.begin {k:Nat} {s:u1w} (h:SttN k s):SttN (k+1) ((t25 s.1).1,s.2):=⟨h.toStt.begin,h.rn.begin⟩
theorem SttN.look {k:Nat} {s:u1w} (h:SttN k s) {id:Int} {r:s2e} {right:Bool} (hr:right=true→u2d r=true) (hk:r.1∈K5∧r.2∈K5):SttN (k+1) ((s0m s.1 id r right).1,s.2):=⟨h.toStt.look hr hk,h.rn.look⟩
theorem SttN.put {k:Nat} {s:u1w} (h:SttN k s) {id:Int} {w:WrT} (hk:w.1∈K5):SttN (k+1) ((q68 s.1 id w).1,s.2):=⟨h.toStt.put hk,h.rn.put⟩
theorem SttN.leave {k:Nat} {s:u1w} (h:SttN k s) (id:Int):SttN (k+1) ((s3m s.1 id).1,s.2):=⟨h.toStt.leave id,h.rn.leave id⟩
theorem SttN.fix {k:Nat} {s:u1w} (h:SttN k s):SttN (k+1) (p7j s).1:=⟨h.toStt.fix,by
 unfold p7j
 split<;>exact h.rn⟩
theorem SttN.commit {k:Nat} {s:u1w} (h:SttN k s) (id:Int):SttN (k+1) (t57 s id).1:=⟨h.toStt.commit id,by
 unfold t57
 split
 ·split
  ·exact h.rn.commit id
  ·exact h.rn.same rfl
 ·exact h.rn.commit id⟩
theorem SttN.prep {k:Nat} {s:u1w} (h:SttN k s) (id:Int) {n:ByteArray} (hn:n∈PQR):SttN (k+1) (s9q s id n).1:=⟨h.toStt.prep id n,by
 unfold s9q
 split
 ·split
  ·exact h.rn.prep id hn
  ·exact h.rn.same rfl
 ·exact h.rn.prep id hn⟩
theorem SttN.fin {k:Nat} {s:u1w} (h:SttN k s) (n:ByteArray) (y:Bool):SttN (k+1) (q11 s n y).1:=⟨h.toStt.fin n y,by
 unfold q11
 split
 ·split
  ·exact h.rn.fin n y
  ·exact h.rn
 ·exact h.rn⟩
theorem q5q:∃s,t90 ()=some s∧SttN 0 s:=by
 obtain⟨d,h1,h2,h3⟩:=p0v
 have h0:t8e ()=some (p0i, []):=by
  rw[r8y];unfold s5e
  rw[r2d];rfl
 refine⟨((p0i, []),d),?_,?_⟩
 ·rw[q0x];unfold s8f
  simp only[h0,h1,zOb]
 ·have hp:t2u (u0k d)=some p0i:=by rw[h3];rfl
  have hE:EngR ((p0i, []):u1q):=o07.mp (by decide)
  have hL:Like0 p0i p0i:=⟨by decide,rfl,rfl,rfl⟩
  have hN:p0i.2.2.2.2≤((0:Nat):Int)+1:=by decide
  have hM:Num 0 ((p0i, []):u1q):=⟨by decide,by decide⟩
  have hD:DomE ((p0i, []):u1q):=⟨⟨(fun v hv=>by cases hv),(fun t ht=>by cases ht)⟩,(fun t ht=>by cases ht)⟩
  exact⟨⟨⟨p0i,⟨hE,h2,hp,p2k,hL⟩,hN⟩,hD,hM⟩,fun x hx=>by cases hx⟩
def DrS (F:Option (Src×u1w)) (k:Nat):Prop:= ∃s t,F=some (s,t)∧s.ok∧SttN k t
theorem p69 {y:ByteArray} (h:y∈K5):y.size≤1048576:=by have:=(u30 (p7a h)).2;omega
theorem q97 {k:Nat} {s:u1w} (h:SttN k s) (id:Int) {c:Src} (hc:c.ok):DrS ((u17 (c,(16:Int))).bind fun(y20:(Int×((List Int)×(Int×Int))))=>(((bif (decide (id=(0:Int))) then(some true) else(some (decide (y20.1<(3:Int))))):Option Bool).bind fun j21=>(bif j21 then((t1e s.1).bind fun y22=>(some (y20.2,(y22.1,s.2)))) else(bif (decide (y20.1<(6:Int))) then((u5l y20.2).bind fun y23=>((t2i (s.1,(id,y23.1))).bind fun y24=>(some (y23.2,(y24.1,s.2))))) else(bif (decide (y20.1<(7:Int))) then((u7t y20.2).bind fun y25=>((u7q (s.1,(id,y25.1))).bind fun y26=>(some (y25.2,(y26.1,s.2))))) else(bif (decide (y20.1<(10:Int))) then((u7u y20.2).bind fun y27=>((t2j (s.1,(id,y27.1))).bind fun y28=>(some (y27.2,(y28.1,s.2))))) else(bif (decide (y20.1<(13:Int))) then((u6g (s,id)).bind fun y29=>(some (y20.2,y29.2))) else(bif (decide (y20.1=(13:Int))) then((u1v (y20.2,PQR)).bind fun y30=>((u5v (s,(id,y30.1))).bind fun y31=>(some (y30.2,y31.2)))) else(bif (decide (y20.1=(14:Int))) then((u1v (y20.2,PQR)).bind fun y32=>((u19 (y32.2,(2:Int))).bind fun(y33:(Bool×((List Int)×(Int×Int))))=>((u6h (s,(y32.1,y33.1))).bind fun y34=>(some (y33.2,y34.2))))) else((u19 (y20.2,(3:Int))).bind fun(y35:(Bool×((List Int)×(Int×Int))))=>(bif y35.1 then((u7o s).bind fun y36=>(some (y35.2,y36.1))) else((t4x (s.1,id)).bind fun y37=>(some (y35.2,(y37.1,s.2))))))))))))))) (k+1):=by
 obtain⟨y,c1,e1,k1,r1⟩:=s4f hc (n:=16) (by omega)
 have hE:=h.eng
 simp only[e1,zOb]
 have key:∀j:Bool,DrS ((some j).bind fun j21=>(bif j21 then((t1e s.1).bind fun y22=>(some (c1,(y22.1,s.2)))) else(bif (decide (y<(6:Int))) then((u5l c1).bind fun y23=>((t2i (s.1,(id,y23.1))).bind fun y24=>(some (y23.2,(y24.1,s.2))))) else(bif (decide (y<(7:Int))) then((u7t c1).bind fun y25=>((u7q (s.1,(id,y25.1))).bind fun y26=>(some (y25.2,(y26.1,s.2))))) else(bif (decide (y<(10:Int))) then((u7u c1).bind fun y27=>((t2j (s.1,(id,y27.1))).bind fun y28=>(some (y27.2,(y28.1,s.2))))) else(bif (decide (y<(13:Int))) then((u6g (s,id)).bind fun y29=>(some (c1,y29.2))) else(bif (decide (y=(13:Int))) then((u1v (c1,PQR)).bind fun y30=>((u5v (s,(id,y30.1))).bind fun y31=>(some (y30.2,y31.2)))) else(bif (decide (y=(14:Int))) then((u1v (c1,PQR)).bind fun y32=>((u19 (y32.2,(2:Int))).bind fun(y33:(Bool×((List Int)×(Int×Int))))=>((u6h (s,(y32.1,y33.1))).bind fun y34=>(some (y33.2,y34.2))))) else((u19 (c1,(3:Int))).bind fun(y35:(Bool×((List Int)×(Int×Int))))=>(bif y35.1 then((u7o s).bind fun y36=>(some (y35.2,y36.1))) else((t4x (s.1,id)).bind fun y37=>(some (y35.2,(y37.1,s.2)))))))))))))) (k+1):=by
  intro j
  simp only[zOb]
  cases j with
  | true=>
   simp only[cond_true,q38 hE,zOb]
   exact⟨_,_,rfl,k1,h.begin⟩
  | false=>
   simp only[cond_false]
   cases decide (y<(6:Int)) with
   | true=>
    obtain⟨z,c2,e2,k2,r2⟩:=q5j k1
    simp only[cond_true,e2,zOb,p0u hE id (p69 r2)]
    refine⟨_,_,rfl,k2,?_⟩
    have:=h.look (id:=id) (r:=(z,z)) (right:=u55 z) (fun hk=>by rw[p2w];exact hk) ⟨r2,r2⟩
    unfold o3u
    split<;>exact this
   | false=>
   simp only[cond_false]
   cases decide (y<(7:Int)) with
   | true=>
    obtain⟨z,c2,e2,k2,r2⟩:=p5d k1
    simp only[cond_true,e2,zOb,q5p hE id ⟨p69 r2.1,p69 r2.2.1⟩]
    refine⟨_,_,rfl,k2,?_⟩
    have:=h.look (id:=id) (r:=z) (right:=u2d z) (fun hk=>hk) ⟨r2.1,r2.2.1⟩
    unfold p92
    split<;>exact this
   | false=>
   simp only[cond_false]
   cases decide (y<(10:Int)) with
   | true=>
    obtain⟨z,c2,e2,k2,r2⟩:=p5h k1
    simp only[cond_true,e2,zOb,p00 hE id (p69 r2.1)]
    exact⟨_,_,rfl,k2,h.put r2.1⟩
   | false=>
   simp only[cond_false]
   cases decide (y<(13:Int)) with
   | true=>
    simp only[cond_true,q3z hE h.log,zOb]
    exact⟨_,_,rfl,k1,h.commit id⟩
   | false=>
   simp only[cond_false]
   cases decide (y=(13:Int)) with
   | true=>
    obtain⟨z,c2,e2,k2,r2⟩:=q5m k1 (l:=PQR) (by decide)
    have hz:=p19 r2
    simp only[cond_true,e2,zOb,q1l hE h.log id (show z.size≤1048576 by omega)]
    exact⟨_,_,rfl,k2,h.prep id r2⟩
   | false=>
   simp only[cond_false]
   cases decide (y=(14:Int)) with
   | true=>
    obtain⟨z,c2,e2,k2,r2⟩:=q5m k1 (l:=PQR) (by decide)
    obtain⟨z2,c3,e3,k3,r3⟩:=q5l k2 (n:=2) (by omega)
    simp only[cond_true,e2,e3,zOb,q30 hE h.log (p19 r2)]
    exact⟨_,_,rfl,k3,h.fin z z2⟩
   | false=>
    obtain⟨z2,c3,e3,k3,r3⟩:=q5l k1 (n:=3) (by omega)
    simp only[cond_false,e3,zOb]
    cases z2 with
    | true=>
     simp only[cond_true,p67 hE h.log,zOb]
     exact⟨_,_,rfl,k3,h.fix⟩
    | false=>
     simp only[cond_false,p3g hE,zOb]
     exact⟨_,_,rfl,k3,h.leave id⟩
 cases decide (id=0) with
 | true=>simp only[cond_true];exact key true
 | false=>simp only[cond_false];exact key _
theorem p5e {k:Nat} {s:u1w} (h:SttN k s) {c:Src} (hc:c.ok):DrS (s2d (c,s)) (k+1):=by
 rw[q3w];unfold r2b
 cases hd:decide ((s.1.2.length:Int) >0) with
 | true=>
  have hl:0<s.1.2.length:=by simpa using hd
  obtain⟨y,c1,e1,k1,r1⟩:=s4f hc (n:=(s.1.2.length:Int)) (by omega)
  obtain⟨i,rfl⟩:∃i:Nat,y=(i:Int):=⟨y.toNat,by omega⟩
  have hi:i<s.1.2.length:=by omega
  simp only[hd,cond_true,e1,zOb,y7t hi]
  exact q97 h _ k1
 | false=>
  simp only[hd,cond_false]
  exact q97 h 0 hc
theorem p5f (m:Nat) (hm:1≤m∧m≤1000) {c:Src} (hc:c.ok):∃(s:u1w) (c' :Src),t7s (c,(m:Int))=some (s,c')∧c'.ok∧SttN (m+1) s:=by
 have key:∀(d i:Nat) (c:Src) (j s:u1w),c.ok→SttN i s→m+2≤i+d→i≤m+1→ ∃(c' :Src) (s' :u1w),u9i (c,(m:Int),j,s,(i:Int))=some (.inl (c',j,s'))∧c'.ok∧SttN (m+1) s' :=by
  intro d
  induction d with
  | zero=>intro i c j s _ _ h1 h2;omega
  | succ d ih=>
   intro i c j s hc hs hd hi
   obtain⟨y,c1,e1,k1,r1⟩:=s4f hc (n:=(m:Int)) (by omega)
   rw[r9b]
   simp only[t79,e1,zOb]
   rw[y4y (n:=2+y) (by omega) (by omega)]
   by_cases hy:(i:Int)<2+y
   ·obtain⟨c2,s2,e2,k2,r2⟩:=p5e hs k1
    simp only[hy,decide_true,cond_true,e2,zOb]
    rw[y7l (by omega)]
    exact ih (i+1) c2 j s2 k2 r2 (by omega) (by omega)
   ·simp only[hy,decide_false,cond_false]
    exact⟨_,_,rfl,k1,hs.mono hi⟩
 obtain⟨s0,e0,h0⟩:=q5q
 obtain⟨c',s',e1,k1,r1⟩:=key (m+2) 0 c (((([], [], [],0,0):u0i), []),([], [])) s0 hc h0 (by omega) (by omega)
 rw[q3x];unfold r2c
 have e1:u9i (c,(m:Int),(((([], [], [],0,0):u0i), []),([], [])),s0,0)=_:=e1
 simp only[e0,e1,zOb]
 exact⟨_,_,rfl,k1,r1⟩
end
section
theorem p5m {l:List WrT} (w:WrT) (h:l.Pairwise fun a b=>y3c a.1 b.1=true):
 l.filter (fun x=>y3c x.1 w.1)=l.takeWhile (fun x=>y3c x.1 w.1)∧l.filter (fun x=> !(y3c x.1 w.1 || z7o x.1 w.1))=(l.dropWhile fun x=>y3c x.1 w.1).filter fun x=> !z7o x.1 w.1:=by
 induction l with
 | nil=>exact⟨rfl,rfl⟩
 | cons a l ih=>
  rw[List.pairwise_cons] at h
  obtain⟨h1,h2⟩:=ih h.2
  cases hc:y3c a.1 w.1 with
  | true=>
   simp only[List.filter_cons,List.takeWhile_cons,List.dropWhile_cons,hc,if_true,Bool.true_or,Bool.not_true,Bool.false_eq_true,if_false]
   exact⟨by rw[h1],h2⟩
  | false=>
   have no:∀x∈l,y3c x.1 w.1=false:=fun x hx=>by
    cases q:y3c x.1 w.1 with
    | false=>rfl
    | true=>rw[s9n (h.1 x hx) q] at hc;cases hc
   simp only[List.filter_cons,List.takeWhile_cons,List.dropWhile_cons,hc,Bool.false_eq_true,if_false,Bool.false_or]
   refine⟨List.filter_eq_nil_iff.mpr fun x hx=>by rw[no x hx];simp,?_⟩
   have e:l.filter (fun x=> !(y3c x.1 w.1 || z7o x.1 w.1))=l.filter fun x=> !z7o x.1 w.1:=List.filter_congr fun x hx=>by rw[no x hx,Bool.false_or]
   rw[e]
theorem q5n {l:List WrT} (w:WrT) (h:l.Pairwise fun a b=>y3c a.1 b.1=true) (hl:l.length≤1048576):t9r (l,w)=some (r3o l w):=by
 obtain⟨s1,s2⟩:=p5m w h
 obtain⟨f1,f2,f3,f4,f5⟩:=s44 (fun x:WrT=>y3c x.1 w.1) l
 have L:=p5g u7c l (fun i=>(w,l,i)) (fun x:WrT=>y3c x.1 w.1) (fun i=> .inl (w,l,i)) (.inl (w,l,(l.length:Int)))
  (by rw[s3w];simp only[t1m,u0b,Nat.lt_irrefl,decide_false,cond_false,zOb])
  (fun i hi=>by
   rw[s3w]
   simp only[t1m,u0b,hi,decide_true,cond_true,y7t hi,zTn,y8k (t:=u11) hi,zOb]
   rw[y7l (by omega)])
 obtain⟨k,hk⟩:∃k,k=(l.takeWhile fun x:WrT=>y3c x.1 w.1).length:=⟨_,rfl⟩
 rw[←hk] at L f1 f2 f3 f4
 have L:u7c (w,l,0)=some (.inl (w,l,(k:Int))):=by
  rw[L]
  by_cases c:k<l.length
  ·rw[if_pos c]
  ·rw[if_neg c];congr 4;omega
 have hd:l.dropWhile (fun x:WrT=>y3c x.1 w.1)=l.drop k:=by
  have e:=List.takeWhile_append_dropWhile (p:=fun x:WrT=>y3c x.1 w.1) (l:=l)
  have e2:=List.take_append_drop k l
  rw[←f4] at e2
  exact(List.append_cancel_left (e.trans e2.symm))
 have hp:r3o l w=l.take k++ [w] ++(l.drop k).filter fun x=> !z7o x.1 w.1:=by
  unfold r3o;rw[s1,s2,hd,f4]
 rw[q0g];unfold s7z
 simp only[u07 (show l.length≤1099511627776 by omega),cond_true,L,zOb,u0b]
 have ins:u56 (l,(k:Int), [w])=some (l.take k++ [w] ++l.drop k):=by
  rw[s0l]
  unfold y2q
  have h1:decide ((0:Int)≤(k:Int))=true:=by simp
  have h2:decide ((k:Int)≤(l.length:Int))=true:=by simpa using f1
  simp only[h1,h2,u07 (show l.length+1≤1099511627776 by omega),Bool.true_and,List.length_singleton,zTn]
  rfl
 by_cases c:k<l.length
 ·have hgt:∀x∈l.drop (k+1),y3c l[k].1 x.1=true:=fun x hx=>by
   rw[List.mem_iff_getElem] at hx
   obtain⟨i,hi,rfl⟩:=hx
   rw[List.getElem_drop]
   rw[List.length_drop] at hi
   exact List.pairwise_iff_getElem.mp h k (k+1+i) c (by omega) (by omega)
  have hne:∀x∈l.drop (k+1),z7o x.1 w.1=false:=fun x hx=>by
   have q:=hgt x hx
   rw[q12]
   intro e
   rw[e] at q
   have:=f3 c
   rw[q] at this;cases this
  have hdr:l.drop k=l[k] ::l.drop (k+1):=List.drop_eq_getElem_cons c
  have hft:(l.drop (k+1)).filter (fun x=> !z7o x.1 w.1)=l.drop (k+1):=List.filter_eq_self.mpr fun x hx=>by rw[hne x hx];rfl
  simp only[c,decide_true,cond_true,y7t c,zTn,y8k (t:=u11) c,zOb]
  cases he:z7o l[k].1 w.1 with
  | true=>
   simp only[cond_true]
   rw[hp,hdr,List.filter_cons,he,hft]
   simp only[Bool.not_true,Bool.false_eq_true,if_false]
   rw[List.set_eq_take_append_cons_drop,if_pos c,List.append_assoc]
   rfl
  | false=>
   simp only[cond_false,ins,zOb]
   rw[hp]
   congr 2
   rw[hdr,List.filter_cons,he,hft]
   rfl
 ·have hk2:l.drop k= [] :=List.drop_of_length_le (by omega)
  simp only[c,decide_false,cond_false,zOb,ins]
  rw[hp,hk2]
  rfl
theorem p6r {t:u0e} (ht:TxnR t) (l:List WrT):u6x (p4w t l)=u3x l:=by
 cases h:u3x l with
 | true=>exact r5u.mpr (p89 ht h)
 | false=>
  cases q:u6x (p4w t l) with
  | false=>rfl
  | true=>have:=(r5u.mp q).ws;have:u3x l=true:=this;rw[this] at h;cases h
theorem q5t {t:u0e} {w:WrT} (ht:TxnR t) (h1:t.2.1=1) (hw:u10 w=true):t9s (t,w)=some (t6c t w):=by
 have hy:=ht.tiny
 have hyw:=hy.wt
 obtain⟨wa,wb,ht8⟩:=p9a.mp ht.ws
 have hl:=p2q t.2.2.2.2.2.1 w
 have c0:=r3z t hy.few
 have c1:=s2h t (by unfold u0l;omega)
 have c2:=s7q w (by have:=q7l hw;unfold u0l;omega)
 have c3:=q5n (l:=t.2.2.2.2.2.1) w wb (by omega)
 have c4:=s2h (p4w t (r3o t.2.2.2.2.2.1 w)) (by
  have:=p0e (l:=r3o t.2.2.2.2.2.1 w) (by omega) (q9t ht.ws hw)
  have e1:=q99 t
  have e2:=q99 (p4w t (r3o t.2.2.2.2.2.1 w))
  have e3:(p4w t (r3o t.2.2.2.2.2.1 w)).2.2.2.2.1=t.2.2.2.2.1:=rfl
  have e4:(p4w t (r3o t.2.2.2.2.2.1 w)).2.2.2.2.2.1=r3o t.2.2.2.2.2.1 w:=rfl
  have e5:(p4w t (r3o t.2.2.2.2.2.1 w)).2.2.2.2.2.2.2=t.2.2.2.2.2.2.2:=rfl
  rw[e3,e4,e5] at e2
  unfold u0l;omega)
 have ok:=r5u.mpr ht
 have e:p4w t (r3o t.2.2.2.2.2.1 w)=(t.1,t.2.1,t.2.2.1,t.2.2.2.1,t.2.2.2.2.1,r3o t.2.2.2.2.2.1 w,t.2.2.2.2.2.2):=rfl
 rw[p6r ht,r5z ht.ws hw] at c4
 rw[e,h1] at c4
 rw[q0i];unfold s70 t6c
 simp only[c0,c1,c2,c3,c4,ok,hw,h1,zOb,decide_true,Bool.not_true,cond_false]
 by_cases c:(r3o t.2.2.2.2.2.1 w).length≤8
 ·simp only[c,decide_true,Bool.not_true,cond_false,if_true]
  rw[e,h1]
 ·simp only[c,decide_false,Bool.not_false,cond_true,if_false]
end
section
theorem q7u (t:u0e) (l:List u0e) (ht:r2f t) (hl:q1a l):s1x (t,l)=some (t9g t l):=by
 obtain⟨l1,l2⟩:=hl
 have hq:∀x∈l,t4e (x,t)=some (!decide (x.1=t.1)&&((decide (x.2.1=2) || (decide (x.2.1=3)&&decide (x.2.2.2.1 >t.2.2.1)))&&s1w x.2.2.2.2.2.1 t.2.2.2.2.2.1)):=fun x hx=>by
  have h1:=p3h x.2.2.2.2.2.1 t.2.2.2.2.2.1 (t0l (l2 x hx).2) (t0l ht.2)
  rw[r8p];unfold s47
  simp only[t4u,t5m,t5i,zOb,h1]
  cases decide (x.1=t.1)<;>cases decide (x.2.1=2)<;>cases decide (x.2.1=3)<;>cases decide (x.2.2.2.1 >t.2.2.1)<;>cases s1w x.2.2.2.2.2.1 t.2.2.2.2.2.1<;>rfl
 have L:=Q.first (T:=u0t) (c:=u0e) (W:=u04) (q:=t4e) (p:=fun x:u0e=> !decide (x.1=t.1)&&((decide (x.2.1=2) || (decide (x.2.1=3)&&decide (x.2.2.2.1 >t.2.2.1)))&&s1w x.2.2.2.2.2.1 t.2.2.2.2.2.1)) (fun x=>u72 x) l t (by omega) hq
 rw[q2k];unfold r0q t9g
 simp only[s0k,t2p,u7j,u2u,u9m,u35,L,zOb]
 rw[←t4m]
 clear L hq
 split<;>rename_i hc<;>split at hc<;>simp_all<;>omega
theorem p5a (t:u0e) (l:List u0e) (ht:r2f t) (hl:q1a l):r3p (t,l)=some (q9c t l):=by
 obtain⟨l1,l2⟩:=hl
 have hq:∀x∈l,t82 (x,t)=some (p0h x&&ahead x t):=fun x hx=>by
  have h1:=t6d x t (t0l (l2 x hx).1) (t0l ht.2)
  rw[q59];unfold r38
  simp only[t4u,t5m,t5i,zOb,h1,p0h]
  cases decide (x.2.1=2)<;>cases decide (x.2.1=3)<;>cases ahead x t<;>rfl
 have L:=Q.first (T:=u0t) (c:=u0e) (W:=u1g) (q:=t82) (p:=fun x:u0e=>p0h x&&ahead x t) (fun x=>u90 x) l t (by omega) hq
 rw[p1b];unfold r9y q9c
 simp only[s4o,t5j,u9k,u33,t02,u42,L,zOb]
 rw[←t4m]
 clear L hq
 split<;>rename_i hc<;>split at hc<;>simp_all<;>omega
def p07 (t:u0e) (l:List u0e):Bool:=s1s (fun _=>true) t l
theorem q7v (t:u0e) (l:List u0e) (ht:r2f t) (hl:q1a l):u6t (l,t)=some (l.any fun x=>p0h x&&(x.2.2.2.2.2.2.1&&ahead t x)):=by
 obtain⟨l1,l2⟩:=hl
 have hq:∀x∈l,t5q (x,t)=some (p0h x&&(x.2.2.2.2.2.2.1&&ahead t x)):=fun x hx=>by
  have h1:=t6d t x (t0l ht.1) (t0l (l2 x hx).2)
  rw[q0b];unfold s7u
  simp only[t4u,t5m,t5i,zOb,h1,p0h]
  cases decide (x.2.1=2)<;>cases decide (x.2.1=3)<;>cases x.2.2.2.2.2.2.1<;>cases ahead t x<;>rfl
 have L:=Q.first (T:=u0t) (c:=u0e) (W:=u09) (q:=t5q) (p:=fun x:u0e=>p0h x&&(x.2.2.2.2.2.2.1&&ahead t x)) (fun x=>u8q x) l t (by omega) hq
 simp only[s1t,t22,u7y,u26,u9v,u4g,L,zOb]
 rw[←t4m]
 clear L hq
 split<;>rename_i hc<;>split at hc<;>simp_all<;>omega
theorem q5e (p:u0e) (l:List u0e) (ht:r2f p) (hl:q1a l):u5y (l,p)=some (l.any fun x=>decide (x.2.1=2)&&ahead x p):=by
 obtain⟨l1,l2⟩:=hl
 have hq:∀x∈l,t2f (x,p)=some (decide (x.2.1=2)&&ahead x p):=fun x hx=>by
  have h1:=t6d x p (t0l (l2 x hx).1) (t0l ht.2)
  rw[r6h];unfold s2j
  simp only[t4u,zOb,h1]
  cases decide (x.2.1=2)<;>cases ahead x p<;>rfl
 have L:=Q.first (T:=u0t) (c:=u0e) (W:=u0z) (q:=t2f) (p:=fun x:u0e=>decide (x.2.1=2)&&ahead x p) (fun x=>u7x x) l p (by omega) hq
 simp only[t9h,t00,u61,u2n,u8j,u3o,L,zOb]
 rw[←t4m]
 clear L hq
 split<;>rename_i hc<;>split at hc<;>simp_all<;>omega
theorem q7w (t:u0e) (l:List u0e) (ht:r2f t) (hl:q1a l):u6u (l,t,l)=some (l.any fun p=>decide (p.2.1=2)&&(ahead p t&&(ahead t p || l.any fun x=>decide (x.2.1=2)&&ahead x p))):=by
 have hl' :=hl
 obtain⟨l1,l2⟩:=hl
 have hq:∀p∈l,t5r (p,t,l)=some (decide (p.2.1=2)&&(ahead p t&&(ahead t p || l.any fun x=>decide (x.2.1=2)&&ahead x p))):=fun p hx=>by
  have h1:=t6d t p (t0l ht.1) (t0l (l2 p hx).2)
  have h2:=t6d p t (t0l (l2 p hx).1) (t0l ht.2)
  have h3:=q5e p l (l2 p hx) hl'
  rw[q0c];unfold s7v
  simp only[t4u,zOb,h1,h2,h3]
  cases decide (p.2.1=2)<;>cases ahead p t<;>cases ahead t p<;>cases (l.any fun x=>decide (x.2.1=2)&&ahead x p)<;>rfl
 have L:=Q.first (T:=u0t) (c:=u0e×List u0e) (W:=u1a) (q:=t5r) (p:=fun p:u0e=>decide (p.2.1=2)&&(ahead p t&&(ahead t p || l.any fun x=>decide (x.2.1=2)&&ahead x p))) (fun x=>u8r x) l (t,l) (by omega) hq
 simp only[s1u,t23,u7z,u27,u9w,u4h,L,zOb]
 rw[←t4m]
 clear L hq
 split<;>rename_i hc<;>split at hc<;>simp_all<;>omega
theorem p0s (t:u0e) (l:List u0e) (ht:r2f t) (hl:q1a l):s4v (t,l)=some (p07 t l):=by
 rw[q58];unfold r37 p07 s1s
 simp only[p5a t l ht hl,q4e t l ht hl,q7v t l ht hl,q7w t l ht hl,zOb,Bool.true_and]
 cases q9c t l<;>cases s7k t l<;>cases (l.any fun x=>p0h x&&(x.2.2.2.2.2.2.1&&ahead t x))<;>cases (l.any fun p=>decide (p.2.1=2)&&(ahead p t&&(ahead t p || l.any fun x=>decide (x.2.1=2)&&ahead x p)))<;>rfl
theorem q8i {f g:u0e→Bool} {t:u0e} {l:List u0e} (h:∀x∈l,f x=g x):s1s f t l=s1s g t l:=by
 unfold s1s
 have e:∀p:u0e,(l.any fun x=>decide (x.2.1=2)&&(f x&&ahead x p))=l.any fun x=>decide (x.2.1=2)&&(g x&&ahead x p):=fun p=>by
  rw[Bool.eq_iff_iff,List.any_eq_true,List.any_eq_true]
  constructor<;>rintro⟨x,hx,q⟩<;>exact⟨x,hx,by rw[h x hx] at*;exact q⟩
 simp only[e]
end
section
theorem p0r {e:u1q} (h:EngR e):u5s e=some e:=p3c e.1 e.2 h.fewB h.fewO
theorem p3b {e:u1q} (h:EngR e):s9g e=some (t25 e):=by
 have ho:=h.olen
 have hn:=h.base.next
 have h1:=p0r h
 have h2:=r30 e (by have:=h.tinyO.wt;have:=r5s (l:=e.2) (by omega) (fun t ht=>h.ot ht);have:=q85 e;unfold u0l;omega)
 have hk:=o07.mpr h
 have b1:decide ((e.2.length:Int)=4)= !decide (e.2.length<4):=by by_cases c:e.2.length<4<;>simp[c] <;>omega
 have b2:decide (e.1.2.2.2.2=9999)= !decide (e.1.2.2.2.2<9999):=by by_cases c:e.1.2.2.2.2<9999<;>simp[c] <;>omega
 rw[q8l];unfold r7e t25
 simp only[h1,h2,hk,zOb,Bool.not_true,cond_false,b1,b2,List.length_singleton,u07 (show e.2.length+1≤1099511627776 by omega),cond_true]
 by_cases c1:e.2.length<4
 ·by_cases c2:e.1.2.2.2.2<9999
  ·simp only[c1,c2,decide_true,Bool.not_true,cond_false,zOb,and_self,if_true,t88 (n:=e.1.2.2.2.2) (r3k hn)]
   rfl
  ·simp only[c1,c2,decide_true,decide_false,Bool.not_true,Bool.not_false,cond_false,cond_true,zOb,and_false,if_false]
 ·simp only[c1,decide_false,Bool.not_false,cond_true,zOb,false_and,if_false]
theorem p0z {e:u1q} (h:EngR e) (id:Int) {w:WrT} (hw:w.1.size≤1048576):t5t (e,id,w)=some (q68 e id w):=by
 have ho:=h.olen
 have h1:=p0r h
 have h2:=t6g e id (by omega)
 have h3:=s7q w (by unfold u0l;omega)
 rw[q6b];unfold r4a q68
 simp only[h1,h2,h3,zOb]
 by_cases hn:u16 e.2 id<0
 ·simp only[hn,decide_true,cond_true,if_true]
 ·obtain⟨j,hj,e1,e2,e3⟩:=u1i hn
  have hR:=h.open_ _ (List.getElem_mem hj)
  simp only[hn,decide_false,cond_false,if_false]
  cases hok:u10 w with
  | false=>rfl
  | true=>
   have c:=q5t (w:=w) hR.1 hR.2.1 hok
   simp only[Bool.not_true,cond_false,e1,y7t hj,cond_true,zTn,y8k (t:=u0t) hj,c,zOb,e2,Bool.true_eq_false,if_false]
   cases hr:(t6c e.2[j] w).2 with
   | false=>rfl
   | true=>rfl
theorem r7c {e:u1q} (h:EngR e) (id:Int):t7g (e,id)=some (e.1,u60 e id):=by
 have ho:=h.olen
 have h1:=p0r h
 have h2:=q2f e.2 id (by omega)
 rw[q2u];unfold r0z
 simp only[h1,h2,zOb]
 rfl
theorem p3f {e:u1q} (h:EngR e) (id:Int):s9h (e,id)=some (s3m e id):=by
 have ho:=h.olen
 have h1:=r7c h id
 have h2:=t6g e id (by omega)
 have h3:=r9u e.1 (u60 e id) h.fewB (by have:=q7e e id;omega)
 rw[q8o];unfold r7h s3m
 simp only[h1,h2,zOb]
 by_cases hn:u16 e.2 id<0
 ·simp only[hn,decide_true,cond_true,if_true,p6h hn]
 ·simp only[hn,decide_false,cond_false,if_false,h3,zOb]
  rfl
theorem p3j {e:u1q} (h:EngR e):s09 e=some (u53 e):=by
 have h1:=h.base.plen
 have h2:=h.base.rlen
 have e1: [e.1.2.1,e.1.2.2.1].flatten=u53 e:=by simp[u53]
 have L:=r53 [e.1.2.1,e.1.2.2.1] (by rw[e1];simp only[u53,List.length_append];omega) (by simp)
 rw[e1] at L
 rw[q8s];unfold r7l
 simp only[L,zOb]
theorem EngR.unlike {e:u1q} (h:EngR e) {t:u0e} (ht:t∈e.2):∀x∈u53 e,(!decide (x.1=t.1))=true:=fun x hx=>by
 have:=h.apart x hx t ht
 simpa using this
theorem p08 {e:u1q} (h:EngR e) {t:u0e} (ht:t∈e.2):p07 t (u53 e)=s2v t (u53 e):=
 q8i fun x hx=>(h.unlike ht x hx).symm
theorem r55 {e:u1q} (h:EngR e) (id:Int):t71 (e,id)=some (t6h e id):=by
 have ho:=h.olen
 have h2:=t6g e id (by omega)
 have h3:=p3j h
 have h4:=p5x e.1
 rw[q8m];unfold r7f t6h
 simp only[h2,h3,zOb]
 by_cases hn:u16 e.2 id<0
 ·simp only[hn,decide_true,cond_true,if_true]
 ·obtain⟨j,hj,e1,e2,e3⟩:=u1i hn
  have hm:=List.getElem_mem hj
  have hT:=(h.ot hm).few
  simp only[hn,decide_false,cond_false,if_false,e1,y7t hj,cond_true,zTn,y8k (t:=u0t) hj,q7u _ _ hT h.fewOth,p0s _ _ hT h.fewOth,p08 h hm,h4,zOb,e2]
  have hn' : ¬((j:Int)<0):=by omega
  simp only[hn',decide_false,cond_false,if_false]
  cases t9g e.2[j] (u53 e)<;>cases s2v e.2[j] (u53 e)<;>cases s8w e.1<;>rfl
theorem p7c {e:u1q} (h:EngR e) {t:u0e} (ht:t∈e.2∨t∈e.1.2.2.1):t7f (e.1,t)=some (u1h e.1 t):=by
 have hT:TxnR t:=by
  rcases ht with q | q
  ·exact(h.open_ t q).1
  ·exact(h.base.ready t q).1
 rw[q76 e.1 t h.fewB hT.tiny.few,q14 h.mids (r3k hT.id)]
theorem p50 {e:u1q} {id:Int} (h: ¬u16 e.2 id<0):s3m e id=(t4v e id,0):=by unfold s3m;rw[if_neg h]
theorem p1o {e:u1q} {id:Int} (h:u16 e.2 id<0):s3m e id=(e,1):=by unfold s3m;rw[if_pos h]
theorem p0p {e:u1q} (h:EngR e) (id:Int):s4u (e,id)=some (u21 e id):=by
 have ho:=h.olen
 have h2:=t6g e id (by omega)
 have hJ:=r55 h id
 have hO:=p3f h id
 have hW:=r7c h id
 rw[q57];unfold r36 u21
 simp only[hJ,zOb]
 by_cases c1:t6h e id=1
 ·have d:decide ((1:Int)=0)=false:=by decide
  simp only[c1,d,Bool.not_false,cond_true,hO,zOb,if_true,p1o (o3v.mp c1)]
  rfl
 ·by_cases c0:t6h e id=0
  ·obtain⟨hn,_,_,_⟩:=s8y c0
   obtain⟨j,hj,e1,e2,e3⟩:=u1i hn
   have hm:e.2[j] ∈e.2∨e.2[j] ∈e.1.2.2.1:= .inl (List.getElem_mem hj)
   have hT:=p7c h hm
   obtain⟨k,hk,f1,f2⟩:=q9q e.1 e.2[j] (by have:=h.base.plen;omega)
   have hC:=r3z (u8f e.1 e.2[j]) (q8j (h.ot (List.getElem_mem hj)).few)
   have hO2:=r9u (u1h e.1 e.2[j]) (u60 e id) (q5r h hm).few (by have:=q7e e id;omega)
   have d: ¬((0:Int)=1):=by decide
   simp only[c0,d,decide_true,Bool.not_true,cond_false,if_true,if_false,h2,e1,y7t hj,cond_true,zTn,y8k (t:=u0t) hj,hW,hT,f1,y7t hk,y8k (t:=u0t) hk,f2,hC,hO2,zOb,e2]
   show some _=some (u54 e e.2[j],_)
   unfold u54 u60
   rw[e3]
   rfl
  ·have hn: ¬u16 e.2 id<0:=fun q=>c1 (o3v.mpr q)
   simp only[c1,c0,decide_false,Bool.not_false,cond_true,if_false,hO,zOb,p50 hn]
   rfl
end
section
theorem p8r {l:List u18} (hA:VAsc l) {a s:Int} (h:a≤s) (k v:ByteArray):
 (∃x∈u1z l a,x.1=k∧vCs x≤s∧x.2.2.1=false∧x.2.1=v∧ ∀y∈u1z l a,y.1=k→vCs y≤s→vCs y≤vCs x)↔
 ∃x∈l,x.1=k∧vCs x≤s∧x.2.2.1=false∧x.2.1=v∧ ∀y∈l,y.1=k→vCs y≤s→vCs y≤vCs x:=by
 constructor
 ·rintro⟨x,hx,h1,h2,h3,h4,h5⟩
  obtain⟨m1,m2⟩:=(u4v hA).mp hx
  refine⟨x,m1,h1,h2,h3,h4,fun y hy q1 q2=> ?_⟩
  obtain⟨z,hz,z1,z2,z3⟩:=p5z (s:=s) (k:=k) l ⟨y,hy,q1,q2⟩
  have hzy:=z3 y hy q1 q2
  have hzx:=z3 x m1 h1 h2
  by_cases hza:vCs z >a
  ·have:=h5 z ((u4v hA).mpr ⟨hz, .inl hza⟩) z1 z2
   omega
  ·rcases m2 with c | ⟨c,_⟩
   ·omega
   ·have:=c.2 z hz (z1.trans h1.symm) (by omega)
    omega
 ·rintro⟨x,hx,h1,h2,h3,h4,h5⟩
  refine⟨x,(u4v hA).mpr ⟨hx,?_⟩,h1,h2,h3,h4,fun y hy q1 q2=>h5 y ((u4v hA).mp hy).1 q1 q2⟩
  by_cases c:vCs x >a
  ·exact .inl c
  ·exact .inr ⟨⟨by omega,fun y hy q1 q2=>h5 y hy (q1.trans h1) (by omega)⟩, .inl h3⟩
theorem p70 {r s:List PrT} (h1:PAsc r) (h2:PAsc s) (h:∀k v,(k,v)∈r↔(k,v)∈s):r=s:=by
 refine p6f (r:=fun a b:PrT=>y3c a.1 b.1=true) (fun x=>by rw[u6w];simp) (fun x y q=>by rw[s1f q];simp) h1 h2 fun x=>h x.1 x.2
theorem p10 {l:List u18} (hA:VAsc l) {a s:Int} (h:a≤s) (r:s2e):t8s (u1z l a) r s=t8s l r s:=by
 refine p70 (p2y _ _ _) (p2y _ _ _) fun k v=> ?_
 rw[p2j _ _ _ _ _ (t4o hA a).uni,p2j _ _ _ _ _ hA.uni,p8r hA h k v]
theorem BaseR.asc {b:u0i} (h:BaseR b):VAsc b.1:=(p66.mp h.vs).2.1
theorem p12 {b:u0i} (h:BaseR b) (o:List u0e) (r:s2e):t8s (u4r b o).1 r b.2.2.2.1=t8s b.1 r b.2.2.2.1:=p10 h.asc (q9n b o) r
theorem q5g {l:List Int} (hl:l.length≤1048576):∃e id,t2h l=some (e,id)∧EngR e∧ ¬u16 e.2 id<0∧DomE e∧Num 24 e∧RN e:=by
 obtain⟨s,e1,k1⟩:=o0x hl
 obtain⟨st,c1,e2,k2,r2⟩:=p5f 22 (by omega) k1
 have e2:t7s (s,22)=some (st,c1):=e2
 have e3:t8i s=some (st.1,c1):=by
  rw[r86];unfold s5m
  simp only[e2,zOb]
 have has:∀(e:u1q) (i:Nat) (hi:i<e.2.length),¬u16 e.2 e.2[i].1<0:=fun e i hi q=>o0r.mp q _ (List.getElem_mem hi) rfl
 rw[r6k];unfold s2m
 simp only[e1,e3,zOb]
 cases hd:decide ((st.1.2.length:Int)=0) with
 | true=>
  have h0:st.1.2.length=0:=by simpa using hd
  have hn:st.1.1.2.2.2.2<9999:=by
   have:=r2.num.2
   have e:((22+1:Nat):Int)=23:=rfl
   omega
  have hb:t25 st.1=(r95 st.1,st.1.1.2.2.2.2,0):=by unfold t25;rw[if_pos ⟨by omega,hn⟩]
  have hl1:(r95 st.1).2.length=1:=by unfold r95;rw[List.length_append,h0];rfl
  have hN:=(r2.num.begin:Num (23+1) (t25 st.1).1)
  rw[hb] at hN
  have hR:=q5y r2.eng
  rw[hb] at hR
  have hD:=r2.dom.begin
  rw[hb] at hD
  have hM:=r2.rn.begin
  rw[hb] at hM
  simp only[cond_true,q38 r2.eng,hb,zOb]
  obtain⟨y,c2,e4,k4,r4⟩:=s4f k2 (n:=((r95 st.1).2.length:Int)) (by omega)
  obtain⟨i,rfl⟩:∃i:Nat,y=(i:Int):=⟨y.toNat,by omega⟩
  have hi:i<(r95 st.1).2.length:=by omega
  simp only[e4,zOb,y7t hi,cond_true,zTn,y8k (t:=u0t) hi]
  exact⟨_,_,rfl,hR,has _ i hi,hD,hN,hM⟩
 | false=>
  have h0:st.1.2.length≠0:=by simpa using hd
  obtain⟨y,c2,e4,k4,r4⟩:=s4f k2 (n:=(st.1.2.length:Int)) (by omega)
  obtain⟨i,rfl⟩:∃i:Nat,y=(i:Int):=⟨y.toNat,by omega⟩
  have hi:i<st.1.2.length:=by omega
  simp only[cond_false,e4,zOb,y7t hi,cond_true,zTn,y8k (t:=u0t) hi]
  exact⟨_,_,rfl,r2.eng,has _ i hi,r2.dom,r2.num.mono (by omega),r2.rn⟩
theorem q5f {l:List Int} (hl:l.length≤1048576):∃e id,t2h l=some (e,id)∧EngR e∧ ¬u16 e.2 id<0∧DomE e∧Num 24 e:=by
 obtain⟨e,id,h1,h2,h3,h4,h5,_⟩:=q5g hl
 exact⟨e,id,h1,h2,h3,h4,h5⟩
end
section
theorem q93 (a b:List PrT) (ha:a.length≤1099511627776):t8d (a,b)=some (decide (a=b)):=by
 rw[r8v];unfold s5b
 by_cases h:a.length=b.length
 ·have hz:(a.zip b).length=a.length:=by simp[h]
  have L:=s4l t0b (a.zip b) (fun i=>(a,b,i)) (fun p=> !(z7o p.1.1 p.2.1&&(z7o p.1.2 p.2.2&&true))) (.inr false) (.inl ())
   (by rw[s1j,hz];simp only[u93,u0b,Nat.lt_irrefl,decide_false,cond_false])
   (fun i hi=>by
    have hi1:i<a.length:=by omega
    have hi2:i<b.length:=by omega
    rw[s1j];simp only[u93,u0b,hi1,decide_true,cond_true,y7t hi1,y7t hi2,zTn,y8k (t:=o02) hi1,y8k (t:=o02) hi2,List.getElem_zip]
    rw[y7l (by omega)])
  have e1:decide ((a.length:Int)=(b.length:Int))=true:=by simp[h]
  simp only[e1,Bool.not_true,cond_false,L,zOb]
  rw[←p57 h]
  cases (a.zip b).any fun p=> !(z7o p.1.1 p.2.1&&(z7o p.1.2 p.2.2&&true))<;>rfl
 ·have e1:decide ((a.length:Int)=(b.length:Int))=false:=by simp;omega
  have e2:decide (a=b)=false:=by
   rw[decide_eq_false_iff_not];intro e;exact h (by rw[e])
  rw[e1,e2];rfl
def s3q (B:u0i) (o:List u0e) (t:u0e):u1q:=(B,o++ [t])
theorem q9o {o:List u0e} {id:Int} (h:u16 o id<0):u16 o id= -1:=by
 unfold u16 at h ⊢
 split at h
 ·omega
 ·rename_i c;rw[if_neg c]
theorem r3m {o:List u0e} {t:u0e} (h:∀x∈o,x.1≠t.1):u16 (o++ [t]) t.1=(o.length:Int):=by
 have hn: ¬u16 (o++ [t]) t.1<0:=fun q=>o0r.mp q t (by simp) rfl
 obtain⟨k,hk,e1,e2,e3⟩:=u1i (e:=(u3y,o++ [t])) hn
 have hk:k<(o++ [t]).length:=hk
 have e3:(o++ [t])[k].1=t.1:=e3
 have e1:u16 (o++ [t]) t.1=(k:Int):=e1
 rw[e1]
 by_cases c:k<o.length
 ·rw[List.getElem_append_left c] at e3
  exact absurd e3 (h _ (List.getElem_mem c))
 ·rw[List.length_append,List.length_singleton] at hk
  have:k=o.length:=by omega
  rw[this]
theorem p6m {B:u0i} {o:List u0e} {t:u0e} (h:∀x∈o,x.1≠t.1):u2e (s3q B o t) t.1=t:=by
 unfold u2e
 rw[show(s3q B o t).2=o++ [t] from rfl,r3m h,zTn]
 have hk:o.length<(o++ [t]).length:=by simp
 rw[y8k (t:=u0t) hk]
 simp
theorem p8g {B:u0i} {o:List u0e} {t u:u0e} (h:∀x∈o,x.1≠t.1):q10 (s3q B o t) (u16 (s3q B o t).2 t.1).toNat u=s3q B o u:=by
 unfold q10
 rw[show(s3q B o t).2=o++ [t] from rfl,r3m h,zTn]
 show(B,(o++ [t]).set o.length u)=(B,o++ [u])
 rw[List.set_append_right _ _ (Nat.le_refl _),Nat.sub_self]
 rfl
theorem p21 {B:u0i} {o:List u0e} {t:u0e} (h:∀x∈o,x.1≠t.1): ¬u16 (s3q B o t).2 t.1<0:=by
 rw[show(s3q B o t).2=o++ [t] from rfl,r3m h];omega
theorem p8f {B:u0i} {o:List u0e} {t:u0e} {w:WrT} (h:∀x∈o,x.1≠t.1) (hw:u10 w=true) (hr:(t6c t w).2=true):q68 (s3q B o t) t.1 w=(s3q B o (t6c t w).1,0):=by
 unfold q68
 rw[if_neg (p21 h),if_neg (by rw[hw];decide),p6m h,if_pos hr,p8g h]
theorem p9l {e:u1q} (h:EngR e):u7m e=some true:=by
 have ho:=h.olen
 rw[r30 e (by have:=h.tinyO.wt;have:=r5s (l:=e.2) (by omega) (fun t ht=>h.ot ht);have:=q85 e;unfold u0l;omega),o07.mpr h]
theorem p91 {e:u1q} {id:Int} (h: ¬u16 e.2 id<0):(u60 e id).length<e.2.length:=by
 obtain⟨k,hk,e1,e2,e3⟩:=u1i h
 unfold u60
 rw[List.length_filter_lt_length_iff_exists]
 exact⟨e.2[k],List.getElem_mem hk,by simp[e3]⟩
theorem p2x (e:u1q) (id:Int):u16 (u60 e id) id<0:=o0r.mpr fun x hx=>q1x hx
theorem Num.leave {k:Nat} {e:u1q} (h:Num k e) (id:Int):Num k (t4v e id):=h
def tE0 (n c:Int):u0e:=o1j n c
end
section
def kZ:ByteArray:=⟨#[122,122,122]⟩
def wZ (v:ByteArray):WrT:=(kZ,v,false)
theorem p81 {y:ByteArray} (h:y∈K5):z7o y kZ=false∧y3c kZ y=false∧z7o kZ y=false:=by
 simp only[K5,List.mem_cons,List.not_mem_nil,or_false] at h
 rcases h with rfl | rfl | rfl | rfl | rfl<;>decide+kernel
theorem p5r {x:u0e} (h:DomT x) (v:ByteArray):s1w x.2.2.2.2.2.1 [wZ v] =false:=by
 unfold s1w
 rw[List.any_eq_false]
 intro w hw
 simp only[List.any_cons,List.any_nil,Bool.or_false]
 have:=(p81 (h.ws w hw)).1
 show ¬z7o w.1 kZ=true
 rw[this];simp
theorem p09 {x:u0e} (h:DomT x) (v:ByteArray):t98 x.2.2.2.2.1 [wZ v] =false:=by
 unfold t98
 rw[List.any_eq_false]
 intro r hr
 simp only[List.any_cons,List.any_nil,Bool.or_false]
 have q:=h.rs r hr
 have:=p81 q.2
 show ¬inR r kZ=true
 unfold inR
 rw[this.2.1,this.2.2];simp
theorem p5i {x t:u0e} (h:t98 x.2.2.2.2.1 t.2.2.2.2.2.1=false):ahead x t=false:=by unfold ahead;rw[h,Bool.and_false]
theorem p9o {x t:u0e} (h3:x.2.1=3) (h:x.2.2.2.1≤t.2.2.1):ahead x t=false:=by
 unfold ahead s8t r77
 simp[h3,h]
theorem o3y {B:u0i} (hB:BaseR B) (hD:∀x∈B.2.2.1,DomT x) {t:u0e} (v:ByteArray) (hr:t.2.2.2.2.1= []) (hw:t.2.2.2.2.2.1= [wZ v]) (hs:t.2.2.1=B.2.2.2.1):
 t9g t (B.2.1++B.2.2.1)=false∧s2v t (B.2.1++B.2.2.1)=false:=by
 have into:∀x∈B.2.1++B.2.2.1,ahead x t=false:=fun x hx=>by
  rcases List.mem_append.mp hx with q | q
  ·obtain⟨_,h3,hc⟩:=hB.past x q
   exact p9o h3 (by omega)
  ·exact p5i (by rw[hw];exact p09 (hD x q) v)
 have out:∀x,ahead t x=false:=fun x=>p5i (by rw[hr];rfl)
 constructor
 ·unfold t9g
  rw[List.any_eq_false]
  intro x hx
  rcases List.mem_append.mp hx with q | q
  ·obtain⟨_,h3,hc⟩:=hB.past x q
   have: ¬(x.2.2.2.1 >t.2.2.1):=by omega
   simp[h3,this]
  ·rw[hw,p5r (hD x q) v];simp
 ·unfold s2v s1s
  have h1:q9c t (B.2.1++B.2.2.1)=false:=by
   unfold q9c
   rw[List.any_eq_false]
   intro x hx;rw[into x hx];simp
  have h2:((B.2.1++B.2.2.1).any fun x=>p0h x&&(x.2.2.2.2.2.2.1&&ahead t x))=false:=by
   rw[List.any_eq_false]
   intro x hx;rw[out x];simp
  have h3:((B.2.1++B.2.2.1).any fun p=>decide (p.2.1=2)&&(ahead p t&&(ahead t p || (B.2.1++B.2.2.1).any fun x=>decide (x.2.1=2)&&((!decide (x.1=t.1))&&ahead x p))))=false:=by
   rw[List.any_eq_false]
   intro x hx;rw[into x hx];simp
  rw[h1,h2,h3];rfl
theorem p1j {e:u1q} {id:Int} (hn: ¬u16 e.2 id<0) (h1:t9g (u2e e id) (u53 e)=false) (h2:s2v (u2e e id) (u53 e)=false):t6h e id=0∨t6h e id=3:=by
 unfold t6h
 rw[if_neg hn,h1,h2,if_neg (by decide),if_neg (by decide)]
 split
 ·exact .inr rfl
 ·exact .inl rfl
theorem p3q {e:u1q} (h:EngR e) (ho:e.2.length<4) (hn:e.1.2.2.2.2<9999):∃B:u0i,B.1=e.1.1∧B.2.1=e.1.2.1∧B.2.2.1=e.1.2.2.1∧B.2.2.2.1=e.1.2.2.2.1∧
 t25 e=(s3q B e.2 (tE0 e.1.2.2.2.2 e.1.2.2.2.1),e.1.2.2.2.2,0)∧EngR (s3q B e.2 (tE0 e.1.2.2.2.2 e.1.2.2.2.1))∧ ∀x∈e.2,x.1≠e.1.2.2.2.2:=by
 have hb:t25 e=(s3q (e.1.1,e.1.2.1,e.1.2.2.1,e.1.2.2.2.1,e.1.2.2.2.2+1) e.2 (tE0 e.1.2.2.2.2 e.1.2.2.2.1),e.1.2.2.2.2,0):=by
  unfold t25
  rw[if_pos ⟨ho,hn⟩]
  rfl
 refine⟨(e.1.1,e.1.2.1,e.1.2.2.1,e.1.2.2.2.1,e.1.2.2.2.2+1),rfl,rfl,rfl,rfl,hb,?_,fun x hx=> ?_⟩
 ·have:=q5y h;rwa [hb] at this
 ·have:=h.bel x (List.mem_append_right _ hx)
  omega
def tQ (n c:Int) (v:ByteArray):u0e:=p4w (tE0 n c) [wZ v]
theorem rQ (n c:Int) (v:ByteArray):t6c (tE0 n c) (wZ v)=(tQ n c v,true):=rfl
def r6a:ByteArray:=⟨#[97,108,111,110,101]⟩
theorem p6j {e:u1q} (h:EngR e) (o:List u0e):t2k ((u4r e.1 o).1,p64,e.1.2.2.2.1)=some (t8s e.1.1 p64 e.1.2.2.2.1):=by
 have hv:=(p66.mp (t4i h.base o).vs).2.2
 rw[r9r _ p64 _ (by omega),p12 h.base]
theorem q66 (x:List Int) (hx:(Ty.sl (.int .u8)).fine x):s6n x=some true:=by
 rw[r8u];unfold s5a
 rw[p3v];unfold q4g
 simp only[zOb]
 by_cases hb:(x.length:Int) >1048576
 ·simp only[hb,decide_true,cond_true]
 simp only[hb,decide_false,cond_false]
 obtain⟨e,id,e0,hE,hid,hD,hN⟩:=q5f (l:=x) (by omega)
 obtain⟨j,hj,e1,e2,e3⟩:=u1i hid
 have hm:=List.getElem_mem hj
 have ho:=hE.olen
 have hp:=hE.base.plen
 have hr:=hE.base.rlen
 have hv:=(p66.mp hE.base.vs).2.2
 have b1:=r55 hE id
 have b2:=p0p hE id
 have b3:=t0m e id (by omega)
 rw[e1] at b3
 have hall:s99 ()=some p64:=by rw[p3u];rfl
 have c1:Nat.ble (([] :List u0e).length+e.1.2.1.length) z7w=true:=u07 (by simp;omega)
 have c2:Nat.ble ((([] :List u0e)++e.1.2.1).length+e.1.2.2.1.length) z7w=true:=u07 (by simp;omega)
 have hnil:([] :List u0e)++e.1.2.1++e.1.2.2.1=u53 e:=by simp[u53]
 have hsl:(t8s e.1.1 p64 e.1.2.2.2.1).length≤1099511627776:=Nat.le_trans (p4e _ _ _) (by omega)
 have pr:=q93 (t8s e.1.1 p64 e.1.2.2.2.1) (t8s e.1.1 p64 e.1.2.2.2.1) hsl
 have hc1:t6h e id≠1:=fun q=>hid (o3v.mp q)
 simp only[e0,b1,b2,b3,y7t hj,cond_true,zTn,y8k (t:=u0t) hj,zOb]
 rw[c1,c2]
 simp only[cond_true]
 by_cases c0:t6h e id=0
 ·obtain⟨_,g1,g2,g3⟩:=s8y c0
  rw[e2] at g1 g2
  have hC:u21 e id=(u54 e e.2[j],(1,u8f e.1 e.2[j],emp,false,u3y),0):=by
   unfold u21;rw[if_neg hc1,if_pos c0,e2]
  have hR:=q52 hE hm g3
  have hD2:=hD.commit id
  rw[hC] at hD2
  have d1:=r66 e.2[j] (u53 e) (hE.ot hm).few hE.fewOth
  have d2:=r3b e.2[j] (u53 e) (hE.ot hm).few hE.fewOth
  rw[g1] at d1;rw[g2] at d2
  have ol:(u54 e e.2[j]).2=u60 e id:=by unfold u54;rw[e3]
  have hlt:=p91 hid
  have n1:(u54 e e.2[j]).1.2.2.2.2=e.1.2.2.2.2:=s97 hE (.inl hm)
  have n2:(u54 e e.2[j]).1.2.2.2.1=e.1.2.2.2.1+1:=rfl
  have hcs:=hE.base.cs
  have hcs2:e.1.2.2.2.1<9999:=(r9f g3).2.2
  have o1:u5j (u54 e e.2[j],id)=some (-1):=by
   rw[t6g _ id (by rw[ol];omega),ol]
   exact congrArg some (q9o (p2x e id))
  obtain⟨B,B1,B2,B3,B4,hbg,hR0,hne⟩:=p3q hR (by rw[ol];omega) (by rw[n1];have:=hN.2;have e24:((24:Nat):Int)=24:=rfl;omega)
  have l2:=p3b hR
  rw[hbg] at l2
  obtain⟨n,hn0⟩:∃n,n=(u54 e e.2[j]).1.2.2.2.2:=⟨_,rfl⟩
  obtain⟨c,hc0⟩:∃c,c=(u54 e e.2[j]).1.2.2.2.1:=⟨_,rfl⟩
  rw[←hn0,←hc0] at l2 hR0
  rw[←hn0] at hne
  have hput:=p8f (B:=B) (t:=tE0 n c) (w:=wZ r6a) hne (by decide) (by rw[rQ])
  rw[rQ] at hput
  have l3:t5t (s3q B (u54 e e.2[j]).2 (tE0 n c),n,wZ r6a)=some (s3q B (u54 e e.2[j]).2 (tQ n c r6a),0):=by
   rw[p0z hR0 n (by decide)];exact congrArg some hput
  have hR1:EngR (s3q B (u54 e e.2[j]).2 (tQ n c r6a)):=by
   have:=o1q hR0 (id:=n) (w:=wZ r6a)
   have hput:q68 (s3q B (u54 e e.2[j]).2 (tE0 n c)) n (wZ r6a)=_:=hput
   rwa [hput] at this
  have l4:=r55 hR1 n
  have qt:=o3y (B:=B) hR1.base (fun y hy=>hD2.base.ready y (by rw[B3] at hy;exact hy)) (t:=tQ n c r6a) r6a rfl rfl (by rw[B4,←hc0];rfl)
  have hat:u2e (s3q B (u54 e e.2[j]).2 (tQ n c r6a)) n=tQ n c r6a:=p6m (t:=tQ n c r6a) hne
  have jq:=p1j (e:=s3q B (u54 e e.2[j]).2 (tQ n c r6a)) (id:=n) (p21 (t:=tQ n c r6a) hne) (by rw[hat];exact qt.1) (by rw[hat];exact qt.2)
  have l3:t5t (s3q B (u54 e e.2[j]).2 (tE0 n c),n,(⟨#[122,122,122]⟩:ByteArray),(⟨#[97,108,111,110,101]⟩:ByteArray),false)=_:=l3
  have w1:IntKind.i64.wrap (e.1.2.2.2.1+(1:Int))=e.1.2.2.2.1+1:=t88 hE.mids
  have k1:(u8f e.1 e.2[j]).1=id:=e3
  have k2:(u8f e.1 e.2[j]).2.2.2.1=e.1.2.2.2.1+1:=rfl
  simp only[hC,c0,decide_true,Bool.not_true,cond_false,cond_true,o1,zOb,l2,l3,l4,w1,n2,k1,k2,hnil,d1,d2,Bool.not_false,p9l hR]
  rcases jq with q | q
  ·simp only[q,decide_true,cond_true,zOb]
  ·have d30:decide ((3:Int)=0)=false:=by decide
   simp only[q,d30,decide_true,cond_true,cond_false,zOb]
 ·have hC:u21 e id=(t4v e id,q2c,t6h e id):=by
   unfold u21;rw[if_neg hc1,if_neg c0]
  have o1:u5j (t4v e id,id)=some (-1):=by
   rw[t6g _ id (by show(u60 e id).length≤4194304;have:=q7e e id;omega)]
   exact congrArg some (q9o (p2x e id))
  have s1:t2k ((t4v e id).1.1,p64,(t4v e id).1.2.2.2.1)=some (t8s e.1.1 p64 e.1.2.2.2.1):=p6j hE (u60 e id)
  have s2:=r9r e.1.1 p64 e.1.2.2.2.1 (by omega)
  have k1:(t4v e id).1.2.2.2.1=e.1.2.2.2.1:=rfl
  have k2:q2c.1=0:=rfl
  rw[k1] at s1
  simp only[hC,c0,decide_true,decide_false,Bool.not_true,Bool.not_false,cond_false,cond_true,o1,zOb,k1,k2,hall,s1,s2,pr]
end
end
end Go.Proofs.YtbkicjpdlchbgaaGreat.Ab
