import Derived.Test.YtbkicjpdlchbgaaGreatAbPlayedT3
import Derived.Test.YtbkicjpdlchbgaaGreatAbK2
import Derived.Test.YtbkicjpdlchbgaaGreatAbF4
import Derived.Test.YtbkicjpdlchbgaaGreatAbS2
namespace Go.Proofs.YtbkicjpdlchbgaaGreat.Ab
open Go
set_option linter.unusedVariables false
set_option linter.unusedSimpArgs false
set_option linter.unnecessarySimpa false
section
section
def K5:List ByteArray:= [⟨#[97]⟩,⟨#[98]⟩,⟨#[99]⟩,⟨#[100]⟩,⟨#[97,98]⟩]
structure DomT (t:u0g):Prop where
 ws:∀w∈t.2.2.2.2.2.1,w.1∈K5
 rs:∀r∈t.2.2.2.2.1,r.1∈K5∧r.2∈K5
structure DomB (b:u0i):Prop where
 vs:∀v∈b.1,v.1∈K5
 ready:∀t∈b.2.2.1,DomT t
structure DomE (e:u2b):Prop where
 base:DomB e.1
 open_:∀t∈e.2,DomT t
theorem DomB.tidy {b:u0i} (h:DomB b) (o:List u0g):DomB (u1t b o):=⟨fun v hv=>h.vs v ((u53 _ _).subset hv),h.ready⟩
theorem DomB.through {b:u0i} {t:u0g} (h:DomB b) (ht:DomT t):DomB (u0m b t):=by
 refine⟨fun v hv=> ?_,fun x hx=> ?_⟩
 ·rcases(t30 _ _ _).mp hv with hv | ⟨w,hw,rfl⟩
  ·exact h.vs v hv
  ·exact ht.ws w hw
 ·obtain⟨q,hq,rfl⟩:=List.mem_map.mp hx
  have:=h.ready q (List.mem_filter.mp hq).1
  exact⟨this.ws,this.rs⟩
theorem DomB.made {b:u0i} {t:u0g} {n:ByteArray} (h:DomB b) (ht:DomT t):DomB (u1o b t n):=by
 refine⟨h.vs,fun x hx=> ?_⟩
 rcases List.mem_append.mp hx with hx | hx
 ·rcases List.mem_append.mp hx with hx | hx
  ·exact h.ready x (List.mem_filter.mp hx).1
  ·rw[List.mem_singleton] at hx;subst hx;exact⟨ht.ws,ht.rs⟩
 ·exact h.ready x (List.mem_filter.mp hx).1
theorem DomB.given {b:u0i} (h:DomB b) (n:ByteArray):DomB (t2y b n):=⟨h.vs,fun x hx=>h.ready x (List.mem_filter.mp hx).1⟩
theorem DomE.rest {e:u2b} (h:DomE e) (id:Int):∀t∈t8p e id,DomT t:=fun t ht=>h.open_ t ((u7l e id).subset ht)
theorem DomE.leave {e:u2b} (h:DomE e) (id:Int):DomE (t9u e id):=⟨h.base.tidy _,h.rest id⟩
theorem DomE.begin {e:u2b} (h:DomE e):DomE (s1h e).1:=by
 unfold s1h
 split
 ·refine⟨⟨h.base.vs,h.base.ready⟩,fun t ht=> ?_⟩
  rcases List.mem_append.mp ht with ht | ht
  ·exact h.open_ t ht
  ·rw[List.mem_singleton] at ht;subst ht
   exact⟨fun w hw=>(by cases hw),fun r hr=>(by cases hr)⟩
 ·exact h
theorem DomE.commit {e:u2b} (h:DomE e) (id:Int):DomE (u4o e id).1:=by
 unfold u4o
 split
 ·exact h
 ·split
  ·rename_i _ q
   obtain⟨k,hk,e1,e2,e3⟩:=u1z (r5c q).1
   rw[e2]
   exact⟨(h.base.through (h.open_ _ (List.getElem_mem hk))).tidy _,h.rest _⟩
  ·exact h.leave id
theorem DomE.prep {e:u2b} (h:DomE e) (id:Int) (n:ByteArray):DomE (t6m e id n).1:=by
 unfold t6m
 split
 ·exact h
 ·rename_i q
  split
  ·exact h
  ·split
   ·exact h
   ·split
    ·obtain⟨k,hk,e1,e2,e3⟩:=u1z q
     rw[e2]
     exact⟨(h.base.made (h.open_ _ (List.getElem_mem hk))).tidy _,h.rest _⟩
    ·exact h.leave id
theorem DomE.fin {e:u2b} (h:DomE e) (n:ByteArray) (y:Bool):DomE (r49 e n y).1:=by
 unfold r49
 split
 ·exact h
 ·rename_i q
  split
  ·exact h
  ·split
   ·obtain⟨k,hk,r1,r2⟩:=t44 q
    rw[r1,zTn,y8k (t:=u1f) hk]
    exact⟨(h.base.through (h.base.ready _ (List.getElem_mem hk))).tidy _,h.open_⟩
   ·exact⟨(h.base.given n).tidy _,h.open_⟩
theorem DomE.look {e:u2b} (h:DomE e) {id:Int} {r:s22} {right:Bool} (hr:r.1∈K5∧r.2∈K5):DomE (t86 e id r right).1:=by
 unfold t86
 split
 ·exact h
 ·rename_i q
  split
  ·exact h
  ·split
   ·obtain⟨k,hk,e1,e2,e3⟩:=u1z q
    rw[e2]
    have ho:=h.open_ _ (List.getElem_mem hk)
    refine⟨h.base,fun t ht=> ?_⟩
    rcases q5q ht with ht | rfl
    ·exact h.open_ t ht
    ·unfold t87
     split
     ·exact ho
     ·split
      ·refine⟨ho.ws,fun x hx=> ?_⟩
       rcases List.mem_append.mp hx with hx | hx
       ·exact ho.rs x hx
       ·rw[List.mem_singleton] at hx;subst hx;exact hr
      ·exact ho
   ·exact h
theorem DomE.put {e:u2b} (h:DomE e) {id:Int} {w:WrT} (hw:w.1∈K5):DomE (p0b e id w).1:=by
 unfold p0b
 split
 ·exact h
 ·rename_i q
  split
  ·exact h
  ·split
   ·obtain⟨k,hk,e1,e2,e3⟩:=u1z q
    rw[e2]
    have ho:=h.open_ _ (List.getElem_mem hk)
    refine⟨h.base,fun t ht=> ?_⟩
    rcases q5q ht with ht | rfl
    ·exact h.open_ t ht
    ·unfold s55
     split
     ·refine⟨fun x hx=> ?_,ho.rs⟩
      rcases r34 hx with hx | rfl
      ·exact ho.ws x hx
      ·exact hw
     ·exact ho
   ·exact h
def Num (k:Nat) (e:u2b):Prop:=e.1.2.2.2.1≤(k:Int)∧e.1.2.2.2.2≤(k:Int)+1
theorem Num.mono {k m:Nat} {e:u2b} (h:Num k e) (hk:k≤m):Num m e:=⟨by have:=h.1;omega,by have:=h.2;omega⟩
theorem r5f {e:u2b} (h:EngR e) {t:u0g} (ht:t∈e.2∨t∈e.1.2.2.1):u1a e.1.2.2.2.2 t.1=e.1.2.2.2.2:=by
 refine q7p ?_
 rcases ht with ht | ht
 ·exact h.bel t (List.mem_append_right _ ht)
 ·exact h.bel t (List.mem_append_left _ (List.mem_append_right _ ht))
theorem Num.begin {k:Nat} {e:u2b} (h:Num k e):Num (k+1) (s1h e).1:=by
 unfold s1h
 split
 ·exact⟨by show e.1.2.2.2.1≤_;have:=h.1;omega,by show e.1.2.2.2.2+1≤_;have:=h.2;omega⟩
 ·exact h.mono (by omega)
theorem Num.commit {k:Nat} {e:u2b} (hE:EngR e) (h:Num k e) (id:Int):Num (k+1) (u4o e id).1:=by
 unfold u4o
 split
 ·exact h.mono (by omega)
 ·split
  ·rename_i _ q
   obtain⟨j,hj,e1,e2,e3⟩:=u1z (r5c q).1
   refine⟨by show e.1.2.2.2.1+1≤_;have:=h.1;omega,?_⟩
   show u1a e.1.2.2.2.2 (u3a e id).1≤_
   rw[e2,r5f hE (.inl (List.getElem_mem hj))]
   have:=h.2;omega
  ·exact h.mono (by omega)
theorem Num.prep {k:Nat} {e:u2b} (hE:EngR e) (h:Num k e) (id:Int) (n:ByteArray):Num (k+1) (t6m e id n).1:=by
 unfold t6m
 split
 ·exact h.mono (by omega)
 ·rename_i q
  split
  ·exact h.mono (by omega)
  ·split
   ·exact h.mono (by omega)
   ·split
    ·obtain⟨j,hj,e1,e2,e3⟩:=u1z q
     refine⟨by show e.1.2.2.2.1≤_;have:=h.1;omega,?_⟩
     show u1a e.1.2.2.2.2 (u3a e id).1≤_
     rw[e2,r5f hE (.inl (List.getElem_mem hj))]
     have:=h.2;omega
    ·exact h.mono (by omega)
theorem Num.fin {k:Nat} {e:u2b} (hE:EngR e) (h:Num k e) (n:ByteArray) (y:Bool):Num (k+1) (r49 e n y).1:=by
 unfold r49
 split
 ·exact h.mono (by omega)
 ·rename_i q
  split
  ·exact h.mono (by omega)
  ·split
   ·obtain⟨j,hj,r1,r2⟩:=t44 q
    rw[r1,zTn,y8k (t:=u1f) hj]
    refine⟨by show e.1.2.2.2.1+1≤_;have:=h.1;omega,?_⟩
    show u1a e.1.2.2.2.2 e.1.2.2.1[j].1≤_
    rw[r5f hE (.inr (List.getElem_mem hj))]
    have:=h.2;omega
   ·exact h.mono (by omega)
theorem Num.look {k:Nat} {e:u2b} (h:Num k e) {id:Int} {r:s22} {right:Bool} :Num k (t86 e id r right).1:=by
 unfold t86
 split
 ·exact h
 ·split
  ·exact h
  ·split<;>exact h
theorem Num.put {k:Nat} {e:u2b} (h:Num k e) {id:Int} {w:WrT} :Num k (p0b e id w).1:=by
 unfold p0b
 split
 ·exact h
 ·split
  ·exact h
  ·split<;>exact h
structure Stt (k:Nat) (s:u1v):Prop where
 sync:∃b,Sync s b∧b.2.2.2.2≤(k:Int)+1
 dom:DomE s.1
 num:Num k s.1
theorem Stt.eng {k:Nat} {s:u1v} (h:Stt k s):EngR s.1:=by obtain⟨b,h1,_⟩:=h.sync;exact h1.eng
theorem p0l {E:Type} [DecidableEq E] :∀ {u t:List E},u.Nodup→(∀x∈u,x∈t)→u.length≤t.length
 | [],t,_,_=>Nat.zero_le _
 | x::u,t,hn,hs=>by
  have hn' :=List.nodup_cons.mp hn
  have hx:=hs x (by simp)
  have h1:=p0l (u:=u) (t:=t.filter fun y=>decide (y≠x)) hn'.2 (fun y hy=>List.mem_filter.mpr ⟨hs y (by simp[hy]),by
   rw[decide_eq_true_eq];intro e;exact hn'.1 (by rw[←e];exact hy)⟩)
  have h2:(t.filter fun y=>decide (y≠x)).length<t.length:=List.length_filter_lt_length_iff_exists.mpr ⟨x,hx,by simp⟩
  simp only[List.length_cons];omega
theorem p5v {l:List u14} (hA:VAsc l) {s:Int} (hs:∀x∈l,vCs x≤s) (hk:∀v∈l,v.1∈K5):(u1k l s).length≤5:=by
 have hT:=t21 hA s
 have hn:((u1k l s).map fun v=>v.1).Nodup:=by
  rw[List.nodup_iff_pairwise_ne,List.pairwise_map]
  have:∀x∈u1k l s,∀y∈u1k l s,vLt x y→x.1≠y.1:=fun x hx y hy hlt e=>by
   obtain⟨x1,_,x3⟩:=(t9v hA hs).mp hx
   obtain⟨y1,_,y3⟩:=(t9v hA hs).mp hy
   have a:=x3 y y1 e.symm
   have b:=y3 x x1 e
   have:=VAsc.uni hA x x1 y y1 e (by omega)
   subst this
   exact q5t x hlt
  exact List.Pairwise.imp_of_mem (fun {a b} ha hb hab=>this a ha b hb hab) hT
 have:=p0l hn (t:=K5) fun x hx=>by
  obtain⟨v,hv,rfl⟩:=List.mem_map.mp hx
  exact hk v ((u53 l s).subset hv)
 rw[List.length_map] at this
 exact this
theorem r1v {b x:u0i} {r:t89} (h:u4s b r=some x):∃y,u1h b r=some y∧x=u1t y [] :=by
 unfold u4s at h
 split at h
 ·cases q:u1h b r with
  | none=>rw[q] at h;cases h
  | some y=>
   rw[q] at h
   simp only at h
   split at h
   ·exact⟨y,rfl,(Option.some.inj h).symm⟩
   ·cases h
 ·cases h
theorem q9a {n i m:Int} (h1:n≤m) (h2:i<m):u1a n i≤m:=by unfold u1a;split<;>omega
theorem Stt.commit {k:Nat} {s:u1v} (h:Stt k s) (id:Int):Stt (k+1) (t4o s id).1:=by
 obtain⟨b,hs,hb⟩:=h.sync
 obtain⟨b',hs',hd⟩:=hs.commit id
 have hE:=hs.eng
 have h1:=h.num.commit hE id
 have hl:=h.dom.leave id
 refine⟨⟨b',hs',?_⟩,?_,?_⟩
 ·rcases hd with rfl | ⟨_,j0,hp⟩
  ·omega
  ·obtain⟨y,hy,rfl⟩:=r1v hp
   unfold u1h at hy
   rw[if_pos rfl] at hy
   split at hy
   ·cases hy
    show u1a b.2.2.2.2 (u3a s.1 id).1≤_
    obtain⟨j,hj,e1,e2,e3⟩:=u1z (r5c j0).1
    have:=hE.bel _ (List.mem_append_right _ (List.getElem_mem hj))
    rw[e2]
    have:=h.num.2
    exact q9a (by omega) (by omega)
   ·cases hy
 ·have h2:=h.dom.commit id
  unfold t4o
  split
  ·split
   ·exact h2
   ·exact hl
  ·exact h2
 ·unfold t4o
  split
  ·split
   ·exact h1
   ·exact h.num.mono (by omega)
  ·exact h1
theorem Stt.prep {k:Nat} {s:u1v} (h:Stt k s) (id:Int) (n:ByteArray):Stt (k+1) (s77 s id n).1:=by
 obtain⟨b,hs,hb⟩:=h.sync
 obtain⟨b',hs',hd⟩:=hs.prep id n
 have hE:=hs.eng
 have h1:=h.num.prep hE id n
 have hl:=h.dom.leave id
 refine⟨⟨b',hs',?_⟩,?_,?_⟩
 ·rcases hd with rfl | ⟨_,j0,hp⟩
  ·omega
  ·obtain⟨y,hy,rfl⟩:=r1v hp
   unfold u1h at hy
   simp only at hy
   rw[if_neg (by decide),if_pos trivial] at hy
   split at hy
   ·cases hy
    show u1a b.2.2.2.2 (u3a s.1 id).1≤_
    obtain⟨j,hj,e1,e2,e3⟩:=u1z (p3o j0).1
    have:=hE.bel _ (List.mem_append_right _ (List.getElem_mem hj))
    rw[e2]
    have:=h.num.2
    exact q9a (by omega) (by omega)
   ·cases hy
 ·have h2:=h.dom.prep id n
  unfold s77
  split
  ·split
   ·exact h2
   ·exact hl
  ·exact h2
 ·unfold s77
  split
  ·split
   ·exact h1
   ·exact h.num.mono (by omega)
  ·exact h1
theorem Stt.fin {k:Nat} {s:u1v} (h:Stt k s) (n:ByteArray) (y:Bool):Stt (k+1) (q0e s n y).1:=by
 obtain⟨b,hs,hb⟩:=h.sync
 obtain⟨b',hs',hd⟩:=hs.fin n y
 have hE:=hs.eng
 have h1:=h.num.fin hE n y
 refine⟨⟨b',hs',?_⟩,?_,?_⟩
 ·rcases hd with rfl | ⟨_,j0,hp⟩
  ·omega
  ·obtain⟨z,hz,rfl⟩:=r1v hp
   unfold u1h at hz
   simp only at hz
   rw[if_neg (by decide),if_neg (by decide),if_pos trivial] at hz
   split at hz
   ·cases hz
   ·rename_i q
    obtain⟨j,hj,r1,r2⟩:=t44 q
    split at hz
    ·cases hz
     show u1a b.2.2.2.2 (rdL u1f b.2.2.1 (u0n b n).toNat).1≤_
     rw[r1,zTn,y8k (t:=u1f) hj]
     have:b.2.2.1[j] ∈s.1.1.2.2.1:=by rw[←hs.like.ready];exact List.getElem_mem hj
     have:=hE.bel _ (List.mem_append_left _ (List.mem_append_right _ this))
     have:=h.num.2
     exact q9a (by omega) (by omega)
    ·cases hz
     show b.2.2.2.2≤_
     omega
 ·have h2:=h.dom.fin n y
  unfold q0e
  split
  ·split
   ·exact h2
   ·exact h.dom
  ·exact h.dom
 ·unfold q0e
  split
  ·split
   ·exact h1
   ·exact h.num.mono (by omega)
  ·exact h.num.mono (by omega)
theorem Stt.fix {k:Nat} {s:u1v} (h:Stt k s):Stt (k+1) (p4v s).1:=by
 obtain⟨b,hs,hb⟩:=h.sync
 refine⟨⟨b,hs.fix,by omega⟩,?_,?_⟩
 ·unfold p4v;split<;>exact h.dom
 ·unfold p4v;split<;>exact h.num.mono (by omega)
theorem Stt.leave {k:Nat} {s:u1v} (h:Stt k s) (id:Int):Stt (k+1) ((r9z s.1 id).1,s.2):=by
 obtain⟨b,hs,hb⟩:=h.sync
 unfold r9z
 split
 ·exact⟨⟨b,hs,by omega⟩,h.dom,h.num.mono (by omega)⟩
 ·exact⟨⟨b,hs.leave id,by omega⟩,h.dom.leave id,h.num.mono (by omega)⟩
theorem Stt.begin {k:Nat} {s:u1v} (h:Stt k s):Stt (k+1) ((s1h s.1).1,s.2):=by
 obtain⟨b,hs,hb⟩:=h.sync
 refine⟨⟨b,hs.opens (p4p hs.eng) ?_ ?_ ?_,by omega⟩,h.dom.begin,h.num.begin⟩<;>(unfold s1h;split<;>rfl)
theorem Stt.look {k:Nat} {s:u1v} (h:Stt k s) {id:Int} {r:s22} {right:Bool} (hr:right=true→u18 r=true) (hk:r.1∈K5∧r.2∈K5):Stt (k+1) ((t86 s.1 id r right).1,s.2):=by
 obtain⟨b,hs,hb⟩:=h.sync
 have e:(t86 s.1 id r right).1.1=s.1.1:=by
  unfold t86
  split
  ·rfl
  ·split
   ·rfl
   ·split<;>rfl
 exact⟨⟨b,hs.opens (p8v hs.eng hr) (by rw[e]) (by rw[e]) (by rw[e]),by omega⟩,h.dom.look hk,h.num.look.mono (by omega)⟩
theorem Stt.put {k:Nat} {s:u1v} (h:Stt k s) {id:Int} {w:WrT} (hk:w.1∈K5):Stt (k+1) ((p0b s.1 id w).1,s.2):=by
 obtain⟨b,hs,hb⟩:=h.sync
 have e:(p0b s.1 id w).1.1=s.1.1:=by
  unfold p0b
  split
  ·rfl
  ·split
   ·rfl
   ·split<;>rfl
 exact⟨⟨b,hs.opens (o1a hs.eng) (by rw[e]) (by rw[e]) (by rw[e]),by omega⟩,h.dom.put hk,h.num.put.mono (by omega)⟩
end
section
structure tinyT (t:u0g):Prop where
 rl:t.2.2.2.2.1.length≤100
 rs:∀r∈t.2.2.2.2.1,r.1.size≤100∧r.2.size≤100
 wl:t.2.2.2.2.2.1.length≤100
 ws:∀w∈t.2.2.2.2.2.1,w.1.size≤100∧w.2.1.size≤100
 nm:t.2.2.2.2.2.2.2.size≤100
structure tinyB (b:u0i):Prop where
 vl:b.1.length≤10000
 vs:∀v∈b.1,v.1.size≤100∧v.2.1.size≤100
 pl:b.2.1.length≤1000
 ps:∀t∈b.2.1,tinyT t
 rl:b.2.2.1.length≤1000
 rs:∀t∈b.2.2.1,tinyT t
theorem s2a {α:Type} {f:α→Nat} {k:Nat} :∀ {l:List α},(∀x∈l,f x≤k)→(l.map f).sum≤l.length*k
 | [],_=>by simp
 | x::l,h=>by
  rw[List.map_cons,List.sum_cons,List.length_cons,Nat.succ_mul]
  have h1:=h x (by simp)
  have h2:=s2a (l:=l) (fun y hy=>h y (by simp[hy]))
  omega
theorem tinyT.wt {t:u0g} (h:tinyT t):u1f.wt t≤50000:=by
 have e1:(Ty.sl u9o).wt t.2.2.2.2.1=t.2.2.2.2.1.length+(t.2.2.2.2.1.map u9o.wt).sum:=rfl
 have e2:(Ty.sl u12).wt t.2.2.2.2.2.1=t.2.2.2.2.2.1.length+(t.2.2.2.2.2.1.map u12.wt).sum:=rfl
 have s1:(t.2.2.2.2.1.map u9o.wt).sum≤t.2.2.2.2.1.length*200:=s2a fun r hr=>by
  have:=h.rs r hr
  have e:u9o.wt r=r.1.size+r.2.size:=rfl
  omega
 have s2:(t.2.2.2.2.2.1.map u12.wt).sum≤t.2.2.2.2.2.1.length*200:=s2a fun w hw=>by
  have:=h.ws w hw
  have e:u12.wt w=w.1.size+(w.2.1.size+0):=rfl
  omega
 have:=h.rl;have:=h.wl;have:=h.nm
 rw[p31,e1,e2]
 omega
theorem tinyT.few {t:u0g} (h:tinyT t):r4l t:=⟨by have:=h.rl;omega,by have:=h.wl;omega⟩
theorem TxnR.tiny {t:u0g} (h:TxnR t):tinyT t:=by
 obtain⟨z1,z2,z3,z4,z5⟩:=h.small
 exact⟨by have:=h.rlen;omega,fun r hr=>by have:=z1 r hr;omega,by omega,fun w hw=>by have:=z2 w hw;omega,by omega⟩
theorem tinyT.like {t u:u0g} (h:tinyT t) (e1:u.2.2.2.2.1=t.2.2.2.2.1) (e2:u.2.2.2.2.2.1=t.2.2.2.2.2.1) (e3:u.2.2.2.2.2.2.2.size≤100):tinyT u:=
 ⟨by rw[e1];exact h.rl,by rw[e1];exact h.rs,by rw[e2];exact h.wl,by rw[e2];exact h.ws,e3⟩
theorem q5r {l:List u0g} (hl:l.length≤1000) (h:∀t∈l,tinyT t):(Ty.sl u1f).wt l≤60000000:=by
 have e:(Ty.sl u1f).wt l=l.length+(l.map u1f.wt).sum:=rfl
 have s:(l.map u1f.wt).sum≤l.length*50000:=s2a fun t ht=>(h t ht).wt
 rw[e];omega
theorem tinyB.wt {b:u0i} (h:tinyB b):p8j.wt b≤200000000:=by
 have e:(Ty.sl u0c).wt b.1=b.1.length+(b.1.map u0c.wt).sum:=rfl
 have s:(b.1.map u0c.wt).sum≤b.1.length*200:=s2a fun v hv=>by
  have:=h.vs v hv
  have e:u0c.wt v=v.1.size+(v.2.1.size+(0+0)):=rfl
  omega
 have h1:=q5r h.pl h.ps
 have h2:=q5r h.rl h.rs
 have:=h.vl
 rw[r4r,e];omega
theorem r4a {l:List u0g} (hl:l.length≤1000) (h:∀t∈l,tinyT t):q7a l:=⟨by omega,fun t ht=>(h t ht).few⟩
theorem tinyB.few {b:u0i} (h:tinyB b):fewB b:=⟨by have:=h.vl;omega,r4a h.pl h.ps,r4a h.rl h.rs⟩
theorem BaseR.tiny {b:u0i} (h:BaseR b):tinyB b:=by
 obtain⟨w1,w2,w3⟩:=p4f.mp h.vs
 exact⟨by omega,fun v hv=>by have:=s3p (w1 v hv);omega,by have:=h.plen;omega,fun t ht=>(h.past t ht).1.tiny,by have:=h.rlen;omega,fun t ht=>(h.ready t ht).1.tiny⟩
theorem t8u {b:u0i} (h:tinyB b) (o:List u0g):tinyB (u1t b o):=
 ⟨Nat.le_trans (q9q _ _) h.vl,fun v hv=>h.vs v ((u53 _ _).subset hv),Nat.le_trans (u9q _ _) h.pl,fun t ht=>h.ps t (List.mem_filter.mp ht).1,h.rl,h.rs⟩
theorem t93 {b:u0i} {t:u0g} (h:BaseR b) (ht:tinyT t):tinyB (u0m b t):=by
 obtain⟨w1,w2,w3⟩:=p4f.mp h.vs
 have hb:=h.tiny
 refine⟨?_,fun v hv=> ?_,?_,fun x hx=> ?_,?_,fun x hx=> ?_⟩
 ·show(t1d b.1 t.2.2.2.2.2.1 (b.2.2.2.1+1)).length≤10000
  rw[r33];have:=ht.wl
  have e:(t.2.2.2.2.2.1:List u12.den).length=t.2.2.2.2.2.1.length:=rfl
  omega
 ·rcases(t30 _ _ _).mp hv with q | ⟨w,hw,rfl⟩
  ·exact hb.vs v q
  ·exact ht.ws w hw
 ·show(b.2.1++ [u7c b t]).length≤1000
  have:=h.plen
  rw[List.length_append,List.length_singleton];omega
 ·rcases List.mem_append.mp hx with q | q
  ·exact hb.ps x q
  ·rw[List.mem_singleton.mp q]
   exact ht.like rfl rfl (Nat.zero_le _)
 ·show((b.2.2.1.filter fun x=> !decide (x.1=t.1)).map (r1p (u7c b t))).length≤1000
  rw[List.length_map]
  exact Nat.le_trans (u9q _ _) hb.rl
 ·obtain⟨y,hy,rfl⟩:=List.mem_map.mp hx
  have:=hb.rs y (List.mem_filter.mp hy).1
  exact this.like rfl rfl this.nm
theorem r5i {b:u0i} {t:u0g} {n:ByteArray} (h:BaseR b) (ht:tinyT t) (hn:n.size≤100):tinyB (u1o b t n):=by
 have hb:=h.tiny
 refine⟨hb.vl,hb.vs,hb.pl,hb.ps,?_,fun x hx=> ?_⟩
 ·show((b.2.2.1.filter fun x=>y3c x.2.2.2.2.2.2.2 n)++ [u3r b t n] ++(b.2.2.1.filter fun x=> !y3c x.2.2.2.2.2.2.2 n)).length≤1000
  have f1:=u9q (fun x:u0g=>y3c x.2.2.2.2.2.2.2 n) b.2.2.1
  have f2:=u9q (fun x:u0g=> !y3c x.2.2.2.2.2.2.2 n) b.2.2.1
  have:=h.rlen
  rw[List.length_append,List.length_append,List.length_singleton];omega
 ·rcases List.mem_append.mp hx with q | q
  ·rcases List.mem_append.mp q with q | q
   ·exact hb.rs x (List.mem_filter.mp q).1
   ·rw[List.mem_singleton.mp q]
    exact ht.like rfl rfl hn
  ·exact hb.rs x (List.mem_filter.mp q).1
theorem r5a {b:u0i} {n:ByteArray} (hb:tinyB b):tinyB (t2y b n):=
 ⟨hb.vl,hb.vs,hb.pl,hb.ps,Nat.le_trans (u9q _ _) hb.rl,fun x hx=>hb.rs x (List.mem_filter.mp hx).1⟩
structure tinyR (r:t89):Prop where
 t:tinyT r.2.1
 n:r.2.2.1.size≤100
 b:tinyB r.2.2.2.2
theorem tinyR.wt {r:t89} (h:tinyR r):o00.wt r≤549755813888:=by
 have:=h.t.wt;have:=h.n;have:=h.b.wt
 rw[q0a];omega
theorem t01:tinyT u5y:=⟨by decide,fun r hr=>(by cases hr),by decide,fun r hr=>(by cases hr),by decide⟩
theorem u42:tinyB u2s:=⟨by decide,fun r hr=>(by cases hr),by decide,fun r hr=>(by cases hr),by decide,fun r hr=>(by cases hr)⟩
theorem p48:tinyR noR:=⟨t01,by decide,u42⟩
theorem RecR.tiny {r:t89} (h:RecR r):tinyR r:=by
 cases h with
 | thr t h hs=>exact⟨h.tiny,Nat.zero_le 100,u42⟩
 | rdy t h hs=>exact⟨h.tiny,Nat.zero_le 100,u42⟩
 | fin n y h=>exact⟨t01,by have:=u2o h;show n.size≤100;omega,u42⟩
 | bas b h=>exact⟨t01,Nat.zero_le 100,h.tiny⟩
def t6l (b:u0i) (r:t89):u0i×Bool:=match u4s b r with
 | some x=>(x,true)
 | none=>(b,false)
theorem r5e {n:Int} (h:0≤n∧n≤9999):p4e n:=⟨by omega,by omega⟩
theorem r1t {n:Int} (h:1≤n∧n≤9999):p4e n:=⟨by omega,by omega⟩
theorem s8o {b x:u0i} {r:t89} (hb:u6l b=true∧u46 r=true) {o:Bool} (hx:u1h b r=if o=true then some x else none):
 (((bif (!o) then some true else some (!u6l (u1t x []))):Option Bool).bind fun j=>bif j then some (b,false) else some (u1t x [],true))=some (t6l b r):=by
 unfold t6l u4s
 rw[if_pos hb,hx]
 cases o
 ·rfl
 ·simp only[if_true,Bool.not_true,cond_false,zOb]
  cases u6l (u1t x [])<;>rfl
theorem r76 (b:u0i) (r:t89) (hb:tinyB b) (hr:tinyR r):t34 (b,r)=some (t6l b r):=by
 have hq:u0p=1099511627776:=rfl
 rw[q4h];unfold r2f
 simp only
 rw[t2u b (by have:=hb.wt;omega),q30 r hr.wt,t7n b hb.few]
 simp only[zOb]
 cases h1:u6l b
 ·unfold t6l u4s
  rw[if_neg (by simp[h1])];rfl
 ·cases h2:u46 r
  ·unfold t6l u4s
   rw[if_neg (by simp[h2])];rfl
  ·have hB:=q21.mp h1
   have hR:=p6k.mp h2
   have hbr:u6l b=true∧u46 r=true:=⟨h1,h2⟩
   simp only[Bool.not_true,cond_false,zOb]
   have thr:∀t:u0g,TxnR t→t1e (b,t)=some (u0m b t)∧u5u (u0m b t, [])=some (u1t (u0m b t) [])∧u2g (u1t (u0m b t) [])=some (u6l (u1t (u0m b t) [])):=fun t ht=>by
    have h3:=t93 hB ht.tiny
    refine⟨?_,t7r _ _ h3.few (by simp),t2u _ (by have:=(t8u h3 []).wt;omega)⟩
    rw[q6h b t hb.few ht.tiny.few,q0g (r5e hB.cs) (r1t ht.id)]
   cases hR with
   | thr t h hs=>
    obtain⟨t1,t2,t3⟩:=thr t h
    simp only[decide_true,cond_true]
    rw[t1]
    simp only[zOb]
    rw[t2]
    simp only[zOb]
    rw[t3]
    simp only[zOb]
    rw[t54 (r5e hB.cs)]
    refine s8o (o:=decide (t.2.2.2.1=b.2.2.2.1+1)) hbr ?_
    unfold u1h
    simp only[if_true,decide_eq_true_eq]
   | rdy t h hs=>
    have hn:=u2o (h.name hs)
    have h3:=r5i (n:=t.2.2.2.2.2.2.2) hB h.tiny (by omega)
    simp only[show decide ((2:Int)=1)=false from rfl,decide_true,cond_true,cond_false]
    rw[r5t b _ (by have:=hB.rlen;omega)]
    simp only[zOb]
    rw[q0u b t _ hb.few h.tiny.few (r1t h.id)]
    simp only[zOb]
    rw[t7r _ _ h3.few (by simp),]
    simp only[zOb]
    rw[t2u _ (by have:=(t8u h3 []).wt;omega)]
    simp only[zOb]
    have e:(bif decide ((b.2.2.1.length:Int)<3) then some (decide (u0n b t.2.2.2.2.2.2.2<0)) else some false:Option Bool)=some (decide (b.2.2.1.length<3∧u0n b t.2.2.2.2.2.2.2<0)):=by
     by_cases q:b.2.2.1.length<3
     ·rw[decide_eq_true (show(b.2.2.1.length:Int)<3 by omega)];simp[q]
     ·rw[decide_eq_false (show ¬(b.2.2.1.length:Int)<3 by omega)];simp[q]
    rw[e]
    simp only[zOb]
    refine s8o (o:=decide (b.2.2.1.length<3∧u0n b t.2.2.2.2.2.2.2<0)) hbr ?_
    unfold u1h
    simp only[show((2:Int)=1)=False by simp,if_false,if_true,decide_eq_true_eq]
   | fin n y h=>
    simp only[show decide ((3:Int)=1)=false from rfl,show decide ((3:Int)=2)=false from rfl,decide_true,cond_true,cond_false]
    rw[r5t b _ (by have:=hB.rlen;omega)]
    simp only[zOb]
    have h4:=r5a (b:=b) (n:=n) hb
    have giv:t5o (b,n)=some (t2y b n):=q58 b n hb.few
    have raw:∀x,(0≤u0n b n→y=true→x=u0m b (rdL u1f b.2.2.1 (u0n b n).toNat))→(y=false→x=t2y b n)→(0≤u0n b n∨True)→u1h b (3,u5y,n,y,u2s)=if decide (u0n b n≥0)=true then some x else none:=fun x hx hx2 _=>by
     unfold u1h
     simp only[show((3:Int)=1)=False by simp,show((3:Int)=2)=False by simp,if_false,if_true]
     by_cases q:u0n b n<0
     ·rw[if_pos q,decide_eq_false (show ¬u0n b n≥0 by omega)];rfl
     ·rw[if_neg q,decide_eq_true (show u0n b n≥0 by omega)]
      cases hy:y
      ·rw[hx2 hy];rfl
      ·rw[hx (by omega) hy];rfl
    by_cases q:0≤u0n b n
    ·rw[decide_eq_true (show u0n b n≥0 from q)]
     cases hy:y
     ·simp only[cond_true,zOb,cond_false]
      rw[giv]
      simp only[zOb]
      rw[t7r _ _ h4.few (by simp)]
      simp only[zOb]
      rw[t2u _ (by have:=(t8u h4 []).wt;omega)]
      simp only[zOb]
      have:=raw (t2y b n) (fun _ k=>by rw[hy] at k;cases k) (fun _=>rfl) (.inr trivial)
      rw[hy] at this hbr
      rw[decide_eq_true (show u0n b n≥0 from q)] at this
      exact s8o (o:=true) hbr this
     ·simp only[cond_true,zOb,cond_false]
      have hk:(u0n b n).toNat<b.2.2.1.length:=by
       unfold u0n at q ⊢
       split
       ·rename_i z;rw[zTn];exact z
       ·rename_i z;rw[if_neg z] at q;omega
      obtain⟨k,hkk⟩:∃k:Nat,u0n b n=k:=⟨(u0n b n).toNat,by omega⟩
      have hg:y4q (u0n b n) b.2.2.1.length=true:=by rw[hkk];exact y7t (by rw[hkk] at hk;simpa using hk)
      rw[hg]
      simp only[cond_true]
      have hT:TxnR (rdL u1f b.2.2.1 (u0n b n).toNat):=by
       rw[y8k hk];exact(hB.ready _ (List.getElem_mem hk)).1
      obtain⟨t1,t2,t3⟩:=thr _ hT
      rw[t1]
      simp only[zOb]
      rw[t2]
      simp only[zOb]
      rw[t3]
      simp only[zOb]
      have:=raw (u0m b (rdL u1f b.2.2.1 (u0n b n).toNat)) (fun _ _=>rfl) (fun k=>by rw[hy] at k;cases k) (.inr trivial)
      rw[hy] at this hbr
      rw[decide_eq_true (show u0n b n≥0 from q)] at this
      exact s8o (o:=true) hbr this
    ·rw[decide_eq_false (show ¬u0n b n≥0 from q)]
     simp only[cond_false,zOb]
     rw[giv]
     simp only[zOb]
     rw[t7r _ _ h4.few (by simp)]
     simp only[zOb]
     have:=raw (t2y b n) (fun k=>absurd k q) (fun _=>rfl) (.inr trivial)
     rw[decide_eq_false (show ¬u0n b n≥0 from q)] at this
     exact s8o (o:=false) hbr this
   | bas c h=>
    simp only[show decide ((4:Int)=1)=false from rfl,show decide ((4:Int)=2)=false from rfl,show decide ((4:Int)=3)=false from rfl,cond_false]
    rw[t7n c h.tiny.few]
    simp only[zOb]
    rw[t7r _ _ h.tiny.few (by simp)]
    simp only[zOb]
    rw[t2u _ (by have:=(t8u h.tiny []).wt;omega)]
    simp only[zOb]
    exact s8o (o:=true) hbr (by unfold u1h;simp)
end
section
theorem p60:∃t,s0v ()=some t∧t.size=64∧s3a t 0=0:=by
 have hset:∀i,(List.replicate 64 (0:Int)).set i 0=List.replicate 64 0:=fun i=>by
  apply List.ext_getElem (by simp)
  intro j h1 h2
  rw[List.getElem_set,List.getElem_replicate]
  split
  ·rfl
  ·rfl
 have key:∀(r i:Nat),i+r=64→u4g ((64:Int),0,List.replicate 64 0,(i:Int))=some (.inl (List.replicate 64 0)):=by
  intro r
  induction r with
  | zero=>
   intro i hi
   have:i=64:=by omega
   subst this
   rw[t2t]
   rfl
  | succ r ih=>
   intro i hi
   have hlt:decide ((i:Int)<64)=true:=by simp;omega
   have hg:y4q (i:Int) (List.replicate 64 (0:Int)).length=true:=y7t (by simp;omega)
   rw[t2t]
   simp only[u7q,hlt,cond_true,hg,hset]
   rw[y7l (by omega)]
   exact ih (i+1) (by omega)
 have e1:u4g ((64:Int),0,List.replicate 64 0,0)=_:=key 64 0 rfl
 refine⟨y7g (List.replicate 64 0),?_,by rw[u45];simp,by unfold s3a;rw[t8s];rfl⟩
 rw[q1w];unfold s98
 rw[r0q];unfold s0f
 have hc:(decide ((0:Int)≤64)&&decide ((64:Int)≤1099511627776))=true:=rfl
 have hr:List.replicate ((64:Int)).toNat (Ty.int .u8).zero=List.replicate 64 (0:Int):=rfl
 simp only[hc,cond_true,hr,e1,zOb]
theorem q8r:∃d,s3i ()=some d∧u3s d=true∧u0l d= [] :=by
 obtain⟨z,hz,hz1,hz2⟩:=p60
 have key:∀(r i:Nat),i+r=97→u70 ((97:Int),([], []),(List.replicate i z, []),(i:Int))=some (.inl (([], []),(List.replicate 97 z, []))):=by
  intro r
  induction r with
  | zero=>
   intro i hi
   have:i=97:=by omega
   subst this
   rw[s5n]
   rfl
  | succ r ih=>
   intro i hi
   have hlt:decide ((i:Int)<97)=true:=by simp;omega
   have hc:Nat.ble ((List.replicate i z).length+([z] :List ByteArray).length) z7w=true:=u04 (by simp;omega)
   rw[s5n]
   simp only[t6h,hlt,cond_true,hz,zOb,hc]
   rw[y7l (by omega)]
   have e:List.replicate i z++ [z] =List.replicate (i+1) z:=by rw[List.replicate_succ']
   rw[e]
   exact ih (i+1) (by omega)
 have e1:u70 ((97:Int),([], []),([], []),0)=_:=key 97 0 rfl
 have hs:u6s ()=some 97:=by rw[s1l];rfl
 refine⟨(List.replicate 97 z, []),?_,?_⟩
 ·rw[q4s];unfold r2s
  simp only[hs,zOb]
  rw[q1c];unfold s9n
  have hi:r0v 97 1 100=true:=rfl
  simp only[t5n,hi,zOb,Bool.not_true,cond_false,e1]
 ·have hk:u1r (List.replicate 97 z,([] :List (Int×ByteArray)))=true:=q25.mpr ⟨by simp,by simp,fun s hs=>by rw[List.eq_of_mem_replicate hs];exact hz1,fun p hp=>by cases hp⟩
  have hl:(List.replicate 97 z,([] :List (Int×ByteArray))).1.length=97:=by simp
  have hf:=s29 hk hl
  have hc:∀a:Int,a=0∨a=1→u09 (List.replicate 97 z, []) a=0:=fun a ha=>by
   obtain⟨f1,_⟩:=u6m ha
   unfold u09 u36
   rw[p4z.mpr ha,if_pos rfl]
   have hk2:u0f a=(((u0f a).toNat:Nat):Int):=by rcases ha with rfl | rfl<;>omega
   rw[hk2,q9j rfl (by rw[hl];rcases ha with rfl | rfl<;>omega)]
   have hlt:(u0f a).toNat<(List.replicate 97 z).length:=by simp;rcases ha with rfl | rfl<;>omega
   have e:rdL Ty.str (List.replicate 97 z) (u0f a).toNat=(List.replicate 97 z)[(u0f a).toNat] :=y8k (t:=Ty.str) hlt
   simp only[e,List.getElem_replicate]
   rw[r4s,hz2]
   rfl
  refine⟨r30 hk hl rfl ?_ ?_,?_⟩
  ·rw[u7k hf (.inl rfl),hc 0 (.inl rfl)];rfl
  ·rw[u7k hf (.inr rfl),hc 1 (.inr rfl)];rfl
  ·unfold u0l
   rw[u7k hf (t2x _),hc _ (t2x _)];rfl
end
section
theorem s8n {d:u0k} (h:u3s d=true):o3n.wt d≤10000000:=Nat.le_trans (t3z (u43 h).1) (by omega)
end
section
theorem q3z (d:u0k) (hd:o3n.wt d≤1073741824):t8h d=some (u0l d):=by
 rw[r84];unfold s6v
 simp only[s2w d (show o3n.wt d≤u0p by unfold u0p;omega),s21 d _ hd,zOb];rfl
end
section
theorem p2n (b:u0i) (r:t89) (hB:BaseR b) (hR:RecR r):s0z (b,r)=some (match u1h b r with
 | some x=>(x,true)
 | none=>(b,false)):=by
 have hb:=hB.tiny
 have thr:∀t:u0g,TxnR t→u4u (b,t)=some (u0m b t):=fun t ht=>by
  rw[r5v b t hb.few ht.tiny.few,q0h (r5e hB.cs) (r1t ht.id)]
 rw[q14];unfold r0g u1h
 cases hR with
 | thr t h hs=>
  simp only[decide_true,cond_true,if_true]
  rw[t54 (r5e hB.cs),thr t h]
  by_cases q:t.2.2.2.1=b.2.2.2.1+1
  ·rw[decide_eq_true q,if_pos q];rfl
  ·rw[decide_eq_false q,if_neg q];rfl
 | rdy t h hs=>
  simp only[show decide ((2:Int)=1)=false from rfl,show((2:Int)=1)=False by simp,decide_true,decide_false,cond_true,cond_false,if_true,if_false]
  rw[t55 b _ (by have:=hB.rlen;omega)]
  simp only[zOb]
  rw[s86 b t _ hb.few h.tiny.few (r1t h.id)]
  simp only[zOb]
  by_cases q:b.2.2.1.length<3
  ·rw[decide_eq_false (show ¬(b.2.2.1.length:Int)≥3 by omega)]
   simp only[cond_false,zOb]
   by_cases q2:u0n b t.2.2.2.2.2.2.2<0
   ·rw[decide_eq_false (show ¬u0n b t.2.2.2.2.2.2.2≥0 by omega),if_pos ⟨q,q2⟩];rfl
   ·rw[decide_eq_true (show u0n b t.2.2.2.2.2.2.2≥0 by omega),if_neg (fun z=>q2 z.2)];rfl
  ·rw[decide_eq_true (show(b.2.2.1.length:Int)≥3 by omega),if_neg (fun z=>q z.1)];rfl
 | fin n y h=>
  simp only[show decide ((3:Int)=1)=false from rfl,show decide ((3:Int)=2)=false from rfl,show((3:Int)=1)=False by simp,show((3:Int)=2)=False by simp,decide_true,decide_false,cond_true,cond_false,if_true,if_false]
  rw[t55 b _ (by have:=hB.rlen;omega)]
  simp only[zOb]
  by_cases q:u0n b n<0
  ·rw[decide_eq_true q,if_pos q];rfl
  ·rw[decide_eq_false q,if_neg q]
   simp only[cond_false]
   rw[r5q b n hb.few]
   simp only[zOb]
   have hk:(u0n b n).toNat<b.2.2.1.length:=by
    unfold u0n at q ⊢
    split
    ·rename_i z;rw[zTn];exact z
    ·rename_i z;rw[if_neg z] at q;omega
   obtain⟨k,hkk⟩:∃k:Nat,u0n b n=k:=⟨(u0n b n).toNat,by omega⟩
   have hg:y4q (u0n b n) b.2.2.1.length=true:=by rw[hkk];exact y7t (by rw[hkk] at hk;simpa using hk)
   have hT:TxnR (rdL u1f b.2.2.1 (u0n b n).toNat):=by
    rw[y8k hk];exact(hB.ready _ (List.getElem_mem hk)).1
   rw[hg,thr _ hT]
   cases y
   ·rfl
   ·rfl
 | bas c h=>
  simp only[show decide ((4:Int)=1)=false from rfl,show decide ((4:Int)=2)=false from rfl,show decide ((4:Int)=3)=false from rfl,show((4:Int)=1)=False by simp,show((4:Int)=2)=False by simp,show((4:Int)=3)=False by simp,decide_false,cond_false,if_false]
  rw[t22 c h.tiny.few];rfl
theorem p5i {b:u0i} {r:t89} {x:u0i} (hB:BaseR b) (hR:RecR r) (h:u1h b r=some x):tinyB x:=by
 unfold u1h at h
 cases hR with
 | thr t ht hs=>
  simp only[if_true] at h
  split at h
  ·rw[←Option.some.inj h];exact t93 hB ht.tiny
  ·cases h
 | rdy t ht hs=>
  simp only[show((2:Int)=1)=False by simp,if_true,if_false] at h
  split at h
  ·rw[←Option.some.inj h];exact r5i hB ht.tiny (by have:=u2o (ht.name hs);omega)
  ·cases h
 | fin n y hn=>
  simp only[show((3:Int)=1)=False by simp,show((3:Int)=2)=False by simp,if_true,if_false] at h
  split at h
  ·cases h
  ·rename_i q
   have hk:(u0n b n).toNat<b.2.2.1.length:=by
    unfold u0n at q ⊢
    split
    ·rename_i z;rw[zTn];exact z
    ·rename_i z;rw[if_neg z] at q;omega
   split at h
   ·rw[←Option.some.inj h]
    refine t93 hB ?_
    rw[y8k hk];exact(hB.ready _ (List.getElem_mem hk)).1.tiny
   ·rw[←Option.some.inj h];exact r5a hB.tiny
 | bas c hc=>
  simp only[show((4:Int)=1)=False by simp,show((4:Int)=2)=False by simp,show((4:Int)=3)=False by simp,if_false] at h
  rw[←Option.some.inj h];exact hc.tiny
theorem r77 (b:u0i) (r:t89) (hb:tinyB b) (hr:tinyR r):t7j (b,r)=some (t6l b r):=by
 have hq:u0p=1099511627776:=rfl
 rw[q4v];unfold r2v
 simp only
 rw[t4u b (by have:=hb.wt;omega),r2a r hr.wt,t22 b hb.few]
 simp only[zOb]
 cases h1:u6l b
 ·unfold t6l u4s
  rw[if_neg (by simp[h1])];rfl
 ·cases h2:u46 r
  ·unfold t6l u4s
   rw[if_neg (by simp[h2])];rfl
  ·have hB:=q21.mp h1
   have hR:=p6k.mp h2
   simp only[Bool.not_true,cond_false,zOb]
   rw[p2n b r hB hR]
   simp only[zOb]
   unfold t6l u4s
   rw[if_pos ⟨h1,h2⟩]
   cases hx:u1h b r with
   | none=>rfl
   | some x=>
    have h3:=p5i hB hR hx
    simp only[Bool.not_true,cond_false]
    rw[s24 _ _ h3.few (by simp)]
    simp only[zOb]
    rw[t4u _ (by have:=(t8u h3 []).wt;omega)]
    simp only[zOb]
    cases u6l (u1t x [])<;>rfl
theorem q5j {b x:u0i} {r:t89} (h:u4s b r=some x):BaseR x∧RecR r:=by
 unfold u4s at h
 split at h
 ·rename_i q
  split at h
  ·cases h
  ·split at h
   ·rename_i z
    rw[←Option.some.inj h]
    exact⟨q21.mp z,p6k.mp q.2⟩
   ·cases h
 ·cases h
theorem p1p (t:ByteArray):tinyR (s18 t).1:=by
 unfold s18
 cases h:u4e t with
 | none=>exact p48
 | some r=>exact(r36 h).1.tiny
theorem p43 (b:u0i) (t:ByteArray) (l:List ByteArray):t78 b (t::l)=bif !(s18 t).2 || !(t6l b (s18 t).1).2 then none else t78 (t6l b (s18 t).1).1 l:=by
 unfold s18 t6l
 simp only[t78]
 cases u4e t with
 | none=>rfl
 | some r=>
  simp only
  cases u4s b r with
  | none=>rfl
  | some x=>rfl
def p3d (l:List ByteArray):u0i×Bool:=match t05 l with
 | some b=>(b,true)
 | none=>(u2s,false)
theorem q6d (d:u0k) (hd:o3n.wt d≤1073741824) (ht:∀t∈u0l d,t.size≤u0p) (hl:(u0l d).length≤1000000):t5u d=some (p3d (u0l d)):=by
 have L:=r1k u4f (u0l d).length (fun(b:u0i) i=>(u2s,b,u0l d,i)) (fun i b=>match t78 b ((u0l d).drop i) with
  | some x=> .inl (u2s,x)
  | none=> .inr (u2s,false)) (fun _ b=>BaseR b)
  (fun b hb=>by
   rw[s5r];simp only[t13,u0b,Nat.lt_irrefl,decide_false,cond_false]
   rw[List.drop_length];rfl)
  (fun i b hi hb=>by
   have hm:=List.getElem_mem hi
   have hd:(u0l d).drop i=(u0l d)[i] ::(u0l d).drop (i+1):=List.drop_eq_getElem_cons hi
   have hw:u4f (u2s,b,u0l d,(i:Int))=bif !(s18 (u0l d)[i]).2 || !(t6l b (s18 (u0l d)[i]).1).2 then some (.inr (u2s,false)) else u4f (u2s,(t6l b (s18 (u0l d)[i]).1).1,u0l d,((i+1:Nat):Int)):=by
    rw[s5r];simp only[t13,u0b,hi,decide_true,cond_true,y7t hi,zTn,y8k (t:=Ty.str) hi,y7l (show i<4611686018427387904 by omega)]
    rw[r78 _ (ht _ hm)]
    simp only[zOb]
    rw[r77 b _ hb.tiny (p1p _)]
    simp only[zOb]
    cases (s18 (u0l d)[i]).2<;>cases (t6l b (s18 (u0l d)[i]).1).2<;>rfl
   rw[hw,hd,p43]
   cases hc:(!(s18 (u0l d)[i]).2 || !(t6l b (s18 (u0l d)[i]).1).2)
   ·refine .inr ⟨(t6l b (s18 (u0l d)[i]).1).1,?_,?_,rfl⟩
    ·unfold t6l at hc ⊢
     cases hp:u4s b (s18 (u0l d)[i]).1 with
     | none=>rw[hp] at hc;simp at hc
     | some x=>exact(q5j hp).1
    ·simp only[cond_false]
   ·exact .inl rfl) 0 q8f (Nat.zero_le _) q97
 rw[q1g];unfold s9r
 rw[r0p];unfold s9k
 rw[q3z d hd]
 simp only[zOb]
 have L' :u4f ((([], [], [],0,0):u0i),(([], [], [],0,1):u0i),u0l d,0)=_:=L
 rw[L',List.drop_zero]
 unfold p3d t05
 cases t78 q8f (u0l d)<;>rfl
end
section
theorem q71 (t:ByteArray) (a:Int):(u0s t a).1.size≤20000:=by
 unfold u0s
 split
 ·rename_i hc
  have:=t3g hc.1
  simp only[ByteArray.size_extract];omega
 ·exact Nat.zero_le _
theorem r6b (t:ByteArray):∀(m:Nat) (a:Int) (acc:List ByteArray),(∀s∈acc,s.size≤20000)→ ∀s∈(u5t t m a acc).1,s.size≤20000
 | 0,a,acc,h=>h
 | m+1,a,acc,h=>by
  unfold u5t
  split
  ·refine r6b t m _ _ fun s hs=> ?_
   rcases List.mem_append.mp hs with q | q
   ·exact h s q
   ·rw[List.mem_singleton.mp q];exact q71 _ _
  ·intro s hs;cases hs
theorem q2j (d:u0k) (a:Int):∀s∈(u0d d a).1,s.size≤20000:=by
 unfold u0d
 split
 ·exact r6b _ _ _ _ fun s hs=>by cases hs
 ·intro s hs;cases hs
theorem q2g (d:u0k):∀s∈u0l d,s.size≤20000:=q2j d _
theorem q7m (d:u0k):(u0l d).length<256:=q7z d _
theorem p0z (d:u0k) (hd:o3n.wt d≤1073741824):t5u d=some (p3d (u0l d)):=
 q6d d hd (fun t ht=>by have:=q2g d t ht;unfold u0p;omega) (by have:=q7m d;omega)
theorem p0a:∀ {l:List ByteArray} {b x:u0i},BaseR b→t78 b l=some x→BaseR x
 | [],b,x,hb,h=>by rw[←Option.some.inj h];exact hb
 | t::l,b,x,hb,h=>by
  simp only[t78] at h
  split at h
  ·cases h
  ·split at h
   ·cases h
   ·rename_i r _ y hy
    exact p0a (q5j hy).1 h
theorem q7s {l:List ByteArray} {x:u0i} (h:t05 l=some x):BaseR x:=p0a q97 h
theorem p3e (l:List ByteArray):tinyB (p3d l).1:=by
 unfold p3d
 cases h:t05 l with
 | none=>exact u42
 | some b=>exact(q7s h).tiny
end
section
theorem p4k {y:ByteArray} (h:y∈K5):u48 y=true:=by
 simp only[K5,List.mem_cons,List.not_mem_nil,or_false] at h
 rcases h with rfl | rfl | rfl | rfl | rfl<;>decide
theorem q3y {s:Src} (h:s.ok):Dr (u3e s) (fun y=>y∈K5):=by
 rw[r3r];unfold s25
 obtain⟨y,s1,e1,k1,r1⟩:=s6a h (l:=K5) (by decide)
 have e1:u1m (s, [(⟨#[97]⟩:ByteArray),(⟨#[98]⟩:ByteArray),(⟨#[99]⟩:ByteArray),(⟨#[100]⟩:ByteArray),(⟨#[97,98]⟩:ByteArray)])=_:=e1
 simp only[e1,zOb]
 exact⟨_,_,rfl,k1,r1⟩
def o28 (r:s22):Prop:=r.1∈K5∧r.2∈K5∧u18 r=true
theorem q9c {a b:ByteArray} (ha:a∈K5) (hb:b∈K5) (h:y3c b a=false):o28 (a,b):=by
 refine⟨ha,hb,?_⟩
 unfold u18
 simp only[p4k ha,p4k hb,Bool.true_and,Bool.or_eq_true]
 rcases r1y a b with q | rfl | q
 ·exact .inl q
 ·exact .inr (by simp[z7o])
 ·rw[q] at h;cases h
theorem p2o {s:Src} (h:s.ok):Dr (u39 s) o28:=by
 rw[s7g];unfold t7u
 obtain⟨y1,s1,e1,k1,r1⟩:=q3y h
 obtain⟨y2,s2,e2,k2,r2⟩:=s2y k1 (n:=2) (by omega)
 obtain⟨y3,s3,e3,k3,r3⟩:=q3y k2
 simp only[e1,e2,e3,zOb]
 cases y2 with
 | true=>exact⟨_,_,rfl,k2,q9c r1 r1 (u52 _)⟩
 | false=>
  simp only[cond_false]
  cases hc:y3c y3 y1 with
  | true=>exact⟨_,_,rfl,k3,q9c r3 r1 (s3o hc)⟩
  | false=>exact⟨_,_,rfl,k3,q9c r1 r3 hc⟩
def o3v (w:WrT):Prop:=w.1∈K5∧u19 w=true
theorem q6n {s:Src} (h:s.ok):Dr (u3f s) o3v:=by
 rw[s7h];unfold t7v
 obtain⟨y1,s1,e1,k1,r1⟩:=q3y h
 obtain⟨y2,s2,e2,k2,r2⟩:=s6a k1 (l:= [(⟨#[111,110,101]⟩:ByteArray),(⟨#[116,119,111]⟩:ByteArray),(⟨#[]⟩:ByteArray),(⟨#[120,0]⟩:ByteArray)]) (by decide)
 obtain⟨y3,s3,e3,k3,r3⟩:=s2y k2 (n:=5) (by omega)
 simp only[e1,e2,e3,zOb]
 have hz:y2.size≤12:=by
  simp only[List.mem_cons,List.not_mem_nil,or_false] at r2
  rcases r2 with rfl | rfl | rfl | rfl<;>decide
 have hk:=p4k r1
 cases y3 with
 | true=>exact⟨_,_,rfl,k3,r1,by simp[u19,hk,emp,ByteArray.size]⟩
 | false=>exact⟨_,_,rfl,k3,r1,by simp[u19,hk,hz]⟩
theorem q2u {s:Src} (h:s.ok):Dr (u5i s) (fun y=>u2i y=true∧ ∀w∈y,w.1∈K5):=by
 have key:∀(d i:Nat) (s:Src) (a:List WrT),s.ok→a.length≤i→4≤i+d→i≤3→u2i a=true→(∀w∈a,w.1∈K5)→
  ∃(s' :Src) (a' :List WrT),u26 (s,a,(i:Int))=some (.inl (s',a'))∧s'.ok∧u2i a' =true∧ ∀w∈a',w.1∈K5:=by
  intro d
  induction d with
  | zero=>intro i s a _ _ h1 h2;omega
  | succ d ih=>
   intro i s a hs ha hd hi hr hk
   obtain⟨y,s1,e1,k1,r1⟩:=u2f hs (n:=4) (by omega)
   rw[s0e]
   simp only[u81,e1,zOb]
   by_cases hy:(i:Int)<y
   ·obtain⟨y2,s2,e2,k2,r2,r3⟩:=q6n k1
    have hl:=q5l a y2
    simp only[hy,decide_true,cond_true,e2,zOb,s20 a y2 (by omega)]
    rw[y7l (by omega)]
    exact ih (i+1) s2 (q0r a y2) k2 (by omega) (by omega) (by omega) (q9f hr r3 (by omega)) (fun w hw=>by
     rcases r34 hw with q | q
     ·exact hk w q
     ·rw[q];exact r2)
   ·simp only[hy,decide_false,cond_false]
    exact⟨_,_,rfl,k1,hr,hk⟩
 obtain⟨s',a',e1,k1,r1,r2⟩:=key 4 0 s [] h (by simp) (by omega) (by omega) (by decide) (fun w hw=>by cases hw)
 rw[s4c];unfold t6k
 have e1:u26 (s, [],0)=_:=e1
 simp only[e1,zOb]
 exact⟨_,_,rfl,k1,r1,r2⟩
end
section
theorem u6e (b:u0i) (o:List u0g) (hb:fewB b) (ho:q7a o):u0o (b,o)=some (b,o):=by
 have h1:=t22 b hb
 have h2:=r1j o ho
 rw[q16];unfold r0i
 simp only[h1,h2,zOb]
end
section
theorem EngR.ot {e:u2b} (h:EngR e) {t:u0g} (ht:t∈e.2):tinyT t:=(h.open_ t ht).1.tiny
theorem EngR.fewO {e:u2b} (h:EngR e):q7a e.2:=r4a (by have:=h.olen;omega) fun t ht=>h.ot ht
theorem EngR.tinyO {e:u2b} (h:EngR e):tinyB e.1:=h.base.tiny
theorem EngR.fewB {e:u2b} (h:EngR e):Ab.fewB e.1:=h.base.tiny.few
theorem EngR.oth {e:u2b} (h:EngR e):∀t∈t77 e,tinyT t:=fun t ht=>by
 rcases List.mem_append.mp ht with q | q
 ·exact(h.base.past t q).1.tiny
 ·exact(h.base.ready t q).1.tiny
theorem EngR.fewOth {e:u2b} (h:EngR e):q7a (t77 e):=r4a (by have:=h.base.plen;have:=h.base.rlen;simp only[t77,List.length_append];omega) h.oth
theorem t2v (e:u2b) (id:Int) (h:e.2.length≤4194304):u4r (e,id)=some (t1c e.2 id):=by
 have L:=r1k u9j (u0q (fun x:u0g=>decide (x.1=id)) e.2) (fun(_:Unit) i=>(id,e,i)) (fun _ _=>if u0q (fun x:u0g=>decide (x.1=id)) e.2<e.2.length then .inr ((u0q (fun x:u0g=>decide (x.1=id)) e.2:Nat):Int) else .inl ()) (fun _ _=>True)
  (fun a _=>by
   have hle:=t29 (fun x:u0g=>decide (x.1=id)) e.2
   rw[s8h]
   by_cases hk:u0q (fun x:u0g=>decide (x.1=id)) e.2<e.2.length
   ·have hy:=u7g hk
    simp only[u9c,u0b,hk,decide_true,cond_true,y7t hk,zTn,y8k (t:=u1f) hk,hy,if_true]
   ·simp only[u9c,u0b,hk,decide_false,cond_false,if_false])
  (fun i a hi _=> .inr ⟨(),trivial,rfl,by
   have hle:=t29 (fun x:u0g=>decide (x.1=id)) e.2
   have hil:i<e.2.length:=by omega
   have hn:=u8l hil hi
   rw[s8h]
   simp only[u9c,u0b,hil,decide_true,cond_true,y7t hil,zTn,y8k (t:=u1f) hil,hn,cond_false]
   rw[y7l (by omega)]⟩) 0 () (Nat.zero_le _) trivial
 have L:u9j (id,e,0)=_:=L
 rw[q4t];unfold r2t t1c
 simp only[L,zOb]
 by_cases hk:u0q (fun x:u0g=>decide (x.1=id)) e.2<e.2.length
 ·simp only[if_pos hk]
 ·simp only[if_neg hk]
theorem p2z {e:u2b} :(decide ((e.2.length:Int)≥4)= !decide (e.2.length<4))∧(decide (e.1.2.2.2.2≥9999)= !decide (e.1.2.2.2.2<9999)):=by
 constructor
 ·by_cases h:e.2.length<4<;>simp[h] <;>omega
 ·by_cases h:e.1.2.2.2.2<9999<;>simp[h] <;>omega
theorem p0t {e:u2b} (h:EngR e):t3d e=some (s1h e):=by
 have ho:=h.olen
 have hn:=h.base.next
 have h1:=u6e e.1 e.2 h.fewB h.fewO
 have h2:=q3w e (by have:=h.tinyO.wt;have:=q5r (l:=e.2) (by omega) (fun t ht=>h.ot ht);have:=p6f e;omega)
 have h1:u0o e=some e:=h1
 have hk:=p8o.mpr h
 rw[q60];unfold r51 s1h
 simp only[h1,h2,hk,zOb,Bool.not_true,cond_false,p2z.1,p2z.2,List.length_singleton,u04 (show e.2.length+1≤1099511627776 by omega),cond_true]
 by_cases c1:e.2.length<4
 ·by_cases c2:e.1.2.2.2.2<9999
  ·simp only[c1,c2,decide_true,Bool.not_true,cond_false,zOb,and_self,if_true,t54 (n:=e.1.2.2.2.2) (r1t hn)]
   rfl
  ·simp only[c1,c2,decide_true,decide_false,Bool.not_true,Bool.not_false,cond_false,cond_true,zOb,and_false,if_false]
 ·simp only[c1,decide_false,Bool.not_false,cond_true,zOb,false_and,if_false]
theorem o3o (l:List s22) (r:s22):(l.any fun x=>z7o x.1 r.1&&(z7o x.2 r.2&&true))=o0c l r:=by
 unfold o0c;simp only[Bool.and_true]
theorem s87 {t:u0g} {r:s22} (ht:TxnR t) (h1:t.2.1=1) (hr:u18 r=true):t2r (t,r)=some (t87 t r):=by
 have hy:=ht.tiny
 have hw:=hy.wt
 have hl:=ht.rlen
 have c0:=u7n t hy.few
 have c1:=t25 t (by unfold u0p;omega)
 have k:=u2o (s:=r.1) (by unfold u18 at hr;simp only[Bool.and_eq_true] at hr;exact hr.1)
 have k' :=u2o (s:=r.2) (by unfold u18 at hr;simp only[Bool.and_eq_true] at hr;exact hr.2.1)
 have c2:=s6b r (by unfold u0p;omega) (by unfold u0p;omega)
 have ok:=r4d.mpr ht
 have L:=s02 u5r t.2.2.2.2.1 (fun i=>(t,r,(u5y:u0g),t,i)) (fun x=>z7o x.1 r.1&&(z7o x.2 r.2&&true)) (.inr (t,true)) (.inl (t,r,u5y,t))
  (by rw[s0d];simp only[u80,u0b,Nat.lt_irrefl,decide_false,cond_false])
  (fun i hi=>by
   rw[s0d]
   simp only[u80,u0b,hi,decide_true,cond_true,y7t hi,zTn,y8k (t:=u9o) hi]
   rw[y7l (by omega)])
 rw[o3o] at L
 have L:u5r (t,r,((0,0,0,0, [], [],false,(⟨#[]⟩:ByteArray)):u0g),t,0)=_:=L
 rw[r7e];unfold s33 t87
 simp only[c0,c1,c2,ok,hr,h1,zOb,decide_true,Bool.not_true,cond_false,L]
 cases o0c t.2.2.2.2.1 r
 ·have e8:decide ((t.2.2.2.2.1.length:Int)≥8)= !decide (t.2.2.2.2.1.length<8):=by by_cases c:t.2.2.2.2.1.length<8<;>simp[c] <;>omega
  simp only[cond_false,e8,Bool.false_eq_true,if_false]
  by_cases c:t.2.2.2.2.1.length<8
  ·simp only[c,decide_true,Bool.not_true,cond_false,List.length_singleton,u04 (show t.2.2.2.2.1.length+1≤1099511627776 by omega),cond_true,if_true]
   rfl
  ·simp only[c,decide_false,Bool.not_false,cond_true,if_false]
 ·rfl
theorem q5z {l:List WrT} {w:WrT} (h:u2i l=true) (hw:u19 w=true):u2i (q0r l w)=decide ((q0r l w).length≤8):=by
 by_cases c:(q0r l w).length≤8
 ·rw[q9f h hw c,decide_eq_true c]
 ·rw[decide_eq_false c]
  cases q:u2i (q0r l w)
  ·rfl
  ·exact absurd (p6l.mp q).2.2 c
theorem q5y {w:WrT} (h:u19 w=true):w.1.size≤3∧w.2.1.size≤12:=by
 unfold u19 at h
 simp only[Bool.and_eq_true,decide_eq_true_eq] at h
 exact⟨(u2o h.1).2,h.2.1⟩
theorem p39 {l:List WrT} (hn:l.length≤1000) (h:∀w∈l,u19 w=true):(Ty.sl u12).wt l≤20000:=by
 have e:(Ty.sl u12).wt l=l.length+(l.map u12.wt).sum:=rfl
 have s:=s2a (f:=u12.wt) (k:=15) (l:=l) fun w hw=>by
  have:=q5y (h w hw)
  have e:u12.wt w=w.1.size+(w.2.1.size+0):=rfl
  omega
 omega
theorem p3q {l:List WrT} {w:WrT} (h:u2i l=true) (hw:u19 w=true):∀x∈q0r l w,u19 x=true:=fun x hx=>by
 rcases r34 hx with q | q
 ·exact(p6l.mp h).1 x q
 ·rw[q];exact hw
theorem q35 {t:u0g} {w:WrT} (ht:TxnR t) (h1:t.2.1=1) (hw:u19 w=true):t8m (t,w)=some (s55 t w):=by
 have hy:=ht.tiny
 have ht8:=(p6l.mp ht.ws).2.2
 have hl:=q5l t.2.2.2.2.2.1 w
 have c0:=u7n t hy.few
 have c1:=t25 t (by have:=hy.wt;unfold u0p;omega)
 have c2:=s6e w (by have:=q5y hw;unfold u0p;omega)
 have c3:=s20 t.2.2.2.2.2.1 w (by omega)
 have c4:=r2c (q0r t.2.2.2.2.2.1 w) (by have:=p39 (l:=q0r t.2.2.2.2.2.1 w) (by omega) (p3q ht.ws hw);unfold u0p;omega)
 have ok:=r4d.mpr ht
 rw[r9d];unfold s65 s55
 simp only[c0,c1,c2,c3,c4,ok,hw,h1,zOb,decide_true,Bool.not_true,cond_false,q5z ht.ws hw]
 by_cases c:(q0r t.2.2.2.2.2.1 w).length≤8
 ·simp only[c,decide_true,Bool.not_true,cond_false,if_true]
  unfold o1b
  rw[h1]
 ·simp only[c,decide_false,Bool.not_false,cond_true,if_false]
end
section
def s7z (t:u0g) (l:List u14) (k:ByteArray):ByteArray×Bool:=
 if u0q (fun w:WrT=>z7o w.1 k) t.2.2.2.2.2.1<t.2.2.2.2.2.1.length then
  (if(rdL u12 t.2.2.2.2.2.1 (u0q (fun w:WrT=>z7o w.1 k) t.2.2.2.2.2.1)).2.2=true then(emp,false) else((rdL u12 t.2.2.2.2.2.1 (u0q (fun w:WrT=>z7o w.1 k) t.2.2.2.2.2.1)).2.1,true))
 else p0k l k t.2.2.1
def r91 (t:u0g) (l:List u14) (r:s22):List PrT:=
 ((q5h (l.map (fun v=>v.1)++t.2.2.2.2.2.1.map fun w=>w.1)).filter fun k=>(s7z t l k).2&&inR r k).map fun k=>(k,(s7z t l k).1)
theorem r75 (t:u0g) (l:List u14) (k:ByteArray) (ht:r4l t) (hl:l.length≤4194304):t7i (t,l,k)=some (s7z t l k):=by
 have h8:=ht.2
 have L:=r1k u9k (u0q (fun w:WrT=>z7o w.1 k) t.2.2.2.2.2.1) (fun(_:Unit) i=>(l,k,t,i)) (fun _ _=>if u0q (fun w:WrT=>z7o w.1 k) t.2.2.2.2.2.1<t.2.2.2.2.2.1.length then .inr (if(rdL u12 t.2.2.2.2.2.1 (u0q (fun w:WrT=>z7o w.1 k) t.2.2.2.2.2.1)).2.2=true then(emp,false) else((rdL u12 t.2.2.2.2.2.1 (u0q (fun w:WrT=>z7o w.1 k) t.2.2.2.2.2.1)).2.1,true)) else .inl (l,k,t)) (fun _ _=>True)
  (fun a _=>by
   have hle:=t29 (fun w:WrT=>z7o w.1 k) t.2.2.2.2.2.1
   rw[s8i]
   by_cases hk:u0q (fun w:WrT=>z7o w.1 k) t.2.2.2.2.2.1<t.2.2.2.2.2.1.length
   ·have hy:=u7g hk
    simp only[u9d,u0b,hk,decide_true,cond_true,y7t hk,zTn,y8k (t:=u12) hk,hy,if_true]
    cases (t.2.2.2.2.2.1[u0q (fun w:WrT=>z7o w.1 k) t.2.2.2.2.2.1]).2.2<;>rfl
   ·simp only[u9d,u0b,hk,decide_false,cond_false,if_false])
  (fun i a hi _=> .inr ⟨(),trivial,rfl,by
   have hle:=t29 (fun w:WrT=>z7o w.1 k) t.2.2.2.2.2.1
   have hil:i<t.2.2.2.2.2.1.length:=by omega
   have hn:=u8l hil hi
   rw[s8i]
   simp only[u9d,u0b,hil,decide_true,cond_true,y7t hil,zTn,y8k (t:=u12) hil,hn,cond_false]
   rw[y7l (by omega)]⟩) 0 () (Nat.zero_le _) trivial
 have L:u9k (l,k,t,0)=_:=L
 rw[q4u];unfold r2u s7z
 simp only[L,zOb]
 by_cases hk:u0q (fun w:WrT=>z7o w.1 k) t.2.2.2.2.2.1<t.2.2.2.2.2.1.length
 ·simp only[if_pos hk]
 ·simp only[if_neg hk,q8v l k _ (show l.length≤1099511627776 by omega),zOb]
theorem q6c (t:u0g) (l:List u14) (r:s22) (ht:r4l t) (hl:l.length≤4194304):s0q (t,l,r)=some (r91 t l r):=by
 have h8:=ht.2
 have L:=t4r u72 t.2.2.2.2.2.1 (fun(a:List u14) i=>(l,t,r,a,i)) (fun a (w:WrT)=>a++ [((w.1,emp,false,(0:Int)):u14)]) (fun a=> .inl (l,t,r,a)) (fun i a=>a.length=l.length+i)
  (fun a _=>by rw[s5p];simp only[t11,u0b,Nat.lt_irrefl,decide_false,cond_false])
  (fun i hi a ha=>⟨by simp[ha];omega,by
   rw[s5p]
   simp only[t11,u0b,hi,decide_true,cond_true,y7t hi,zTn,y8k (t:=u12) hi,List.length_singleton,u04 (show a.length+1≤1099511627776 by omega)]
   rw[y7l (by omega)]
   rfl⟩) l rfl
 have fo:∀(ws:List WrT) (a:List u14),ws.foldl (fun a (w:WrT)=>a++ [((w.1,emp,false,(0:Int)):u14)]) a=a++ws.map fun w=>((w.1,emp,false,(0:Int)):u14):=by
  intro ws
  induction ws with
  | nil=>intro a;simp
  | cons w ws ih=>intro a;rw[List.foldl_cons,ih,List.map_cons,List.append_assoc];rfl
 rw[fo] at L
 obtain⟨all,ha⟩:∃all,all=l++t.2.2.2.2.2.1.map fun w:WrT=>((w.1,emp,false,(0:Int)):u14):=⟨_,rfl⟩
 rw[←ha] at L
 have hal:all.length≤6000000:=by rw[ha];simp;omega
 have hmap:all.map (fun v=>v.1)=l.map (fun v=>v.1)++t.2.2.2.2.2.1.map fun w=>w.1:=by
  rw[ha,List.map_append,List.map_map];rfl
 obtain⟨ks,hks⟩:∃ks,ks=(q5h (all.map fun v=>v.1)).filter fun k=>inR r k:=⟨_,rfl⟩
 have hkl:ks.length≤all.length:=by
  rw[hks]
  refine Nat.le_trans (List.length_filter_le _ _) (Nat.le_trans (p3b _) (by simp))
 have L2:=s03 t2g ks (fun a i=>(l,t,a,ks,i)) (fun k=>(s7z t l k).2) (fun k=>(k,(s7z t l k).1)) (fun a=> .inl a) (by omega)
  (fun a _=>by rw[s5q];simp only[t12,u0b,Nat.lt_irrefl,decide_false,cond_false])
  (fun i hi a ha=>by
   rw[s5q];simp only[t12,u0b,hi,decide_true,cond_true,y7t hi,zTn,y8k (t:=Ty.str) hi,r75 t l _ ht hl,zOb,List.length_singleton,u04 (show a.length+1≤1099511627776 by omega)]
   rw[y7l (by omega)])
 have L:u72 (l,t,r,l,0)=_:=L
 rw[q1f];unfold s9q
 simp only[List.length_nil,Nat.zero_add,List.nil_append,u04 (show l.length≤1099511627776 by omega),cond_true,L,zOb,p2l all r (show all.length≤500000000000 by omega)]
 rw[←hks]
 simp only[L2,zOb]
 rw[hks,List.filter_filter,hmap]
 rfl
theorem p0i {k:ByteArray} :u18 (k,k)=u48 k:=by
 unfold u18
 have:z7o k k=true:=by simp[z7o]
 rw[this,Bool.or_true,Bool.and_true,Bool.and_self]
def o07 (e:u2b) (id:Int) (k:ByteArray):u2b×ByteArray×Bool×Int:=
 if(t86 e id (k,k) (u48 k)).2=0 then((t86 e id (k,k) (u48 k)).1,(s7z (u3a e id) e.1.1 k).1,(s7z (u3a e id) e.1.1 k).2,0)
 else((t86 e id (k,k) (u48 k)).1,emp,false,(t86 e id (k,k) (u48 k)).2)
def p7f (e:u2b) (id:Int) (r:s22):u2b×List PrT×Int:=
 if(t86 e id r (u18 r)).2=0 then((t86 e id r (u18 r)).1,r91 (u3a e id) e.1.1 r,0) else((t86 e id r (u18 r)).1, [],(t86 e id r (u18 r)).2)
theorem r97 {t:u0g} {r:s22} :(t87 t r).1.2.2.1=t.2.2.1∧(t87 t r).1.2.2.2.2.2.1=t.2.2.2.2.2.1:=by
 unfold t87
 split
 ·exact⟨rfl,rfl⟩
 ·split<;>exact⟨rfl,rfl⟩
theorem r90 (t:u0g) (r:s22) (l:List u14) (k:ByteArray):s7z (t87 t r).1 l k=s7z t l k:=by
 unfold s7z;rw[r97.1,r97.2]
theorem q7r (t:u0g) (r q:s22) (l:List u14):r91 (t87 t r).1 l q=r91 t l q:=by
 unfold r91;rw[r97.2];simp only[r90]
theorem q70 {t:u0g} {r:s22} (h:tinyT t):r4l (t87 t r).1:=by
 unfold t87
 split
 ·exact h.few
 ·split
  ·refine⟨?_,h.few.2⟩
   show(t.2.2.2.2.1++ [r]).length≤1048576
   have:=h.rl
   simp;omega
  ·exact h.few
theorem q8q {e:u2b} (h:EngR e) (id:Int) {k:ByteArray} (hk:k.size≤1048576):t0v (e,id,k)=some (o07 e id k):=by
 have ho:=h.olen
 have h1:u0o e=some e:=u6e e.1 e.2 h.fewB h.fewO
 have h2:=t2v e id (by omega)
 have h3:=t23 k (by unfold u0p;omega)
 rw[q4r];unfold r2r o07 t86
 simp only[h1,h2,h3,zOb]
 by_cases hn:t1c e.2 id<0
 ·simp only[hn,decide_true,cond_true,if_true]
  rfl
 ·obtain⟨j,hj,e1,e2,e3⟩:=u1z hn
  have hR:=h.open_ _ (List.getElem_mem hj)
  simp only[hn,decide_false,cond_false,if_false]
  cases hok:u48 k with
  | false=>rfl
  | true=>
   have c:=s87 (r:=(k,k)) hR.1 hR.2.1 (by rw[p0i];exact hok)
   simp only[Bool.not_true,cond_false,e1,y7t hj,cond_true,zTn,y8k (t:=u1f) hj,c,zOb,e2,Bool.true_eq_false,if_false]
   cases hr:(t87 e.2[j] (k,k)).2 with
   | false=>rfl
   | true=>
    have g:=r75 (t87 e.2[j] (k,k)).1 e.1.1 k (q70 hR.1.tiny) (by have:=h.tinyO.vl;omega)
    simp only[Bool.not_true,cond_false,g,zOb,if_true,r90]
    rfl
theorem q31 {e:u2b} (h:EngR e) (id:Int) {r:s22} (hk:r.1.size≤1048576∧r.2.size≤1048576):u6q (e,id,r)=some (p7f e id r):=by
 have ho:=h.olen
 have h1:u0o e=some e:=u6e e.1 e.2 h.fewB h.fewO
 have h2:=t2v e id (by omega)
 have h3:=s6b r (by unfold u0p;omega) (by unfold u0p;omega)
 rw[r9a];unfold s61 p7f t86
 simp only[h1,h2,h3,zOb]
 by_cases hn:t1c e.2 id<0
 ·simp only[hn,decide_true,cond_true,if_true]
  rfl
 ·obtain⟨j,hj,e1,e2,e3⟩:=u1z hn
  have hR:=h.open_ _ (List.getElem_mem hj)
  simp only[hn,decide_false,cond_false,if_false]
  cases hok:u18 r with
  | false=>rfl
  | true=>
   have c:=s87 (r:=r) hR.1 hR.2.1 hok
   simp only[Bool.not_true,cond_false,e1,y7t hj,cond_true,zTn,y8k (t:=u1f) hj,c,zOb,e2,Bool.true_eq_false,if_false]
   cases hr:(t87 e.2[j] r).2 with
   | false=>rfl
   | true=>
    have g:=q6c (t87 e.2[j] r).1 e.1.1 r (q70 hR.1.tiny) (by have:=h.tinyO.vl;omega)
    simp only[Bool.not_true,cond_false,g,zOb,if_true,q7r]
    rfl
theorem q8u {e:u2b} (h:EngR e) (id:Int) {w:WrT} (hw:w.1.size≤1048576):t0w (e,id,w)=some (p0b e id w):=by
 have ho:=h.olen
 have h1:u0o e=some e:=u6e e.1 e.2 h.fewB h.fewO
 have h2:=t2v e id (by omega)
 have h3:=s6e w (by unfold u0p;omega)
 rw[q4w];unfold r2w p0b
 simp only[h1,h2,h3,zOb]
 by_cases hn:t1c e.2 id<0
 ·simp only[hn,decide_true,cond_true,if_true]
 ·obtain⟨j,hj,e1,e2,e3⟩:=u1z hn
  have hR:=h.open_ _ (List.getElem_mem hj)
  simp only[hn,decide_false,cond_false,if_false]
  cases hok:u19 w with
  | false=>rfl
  | true=>
   have c:=q35 (w:=w) hR.1 hR.2.1 hok
   simp only[Bool.not_true,cond_false,e1,y7t hj,cond_true,zTn,y8k (t:=u1f) hj,c,zOb,e2,Bool.true_eq_false,if_false]
   cases hr:(s55 e.2[j] w).2 with
   | false=>rfl
   | true=>rfl
theorem s2z (b:u0i) (o:List u0g) (id:Int) (hb:fewB b) (ho:o.length≤1000):u02 ((b,o),id)=some ((u1t b (o.filter fun x=> !decide (x.1=id))),o.filter fun x=> !decide (x.1=id)):=by
 have L:=s03 u9m o (fun a i=>((b,o),id,a,i)) (fun x:u0g=> !decide (x.1=id)) (fun x=>x) (fun a=> .inl ((b,o),a)) (by omega)
  (fun a _=>by rw[s8k];simp only[t3s,u0b,Nat.lt_irrefl,decide_false,cond_false])
  (fun i hi a ha=>by
   rw[s8k];simp only[t3s,u0b,hi,decide_true,cond_true,y7t hi,zTn,y8k (t:=u1f) hi,List.length_singleton,u04 (show a.length+1≤1099511627776 by omega)]
   rw[y7l (by omega)])
 rw[List.map_id'] at L
 have L:u9m ((b,o),id, [],0)=_:=L
 have hl:=List.length_filter_le (fun x:u0g=> !decide (x.1=id)) o
 rw[q5c];unfold r3c
 simp only[L,zOb,s24 b (o.filter fun x=> !decide (x.1=id)) hb (by omega)]
theorem p0x {e:u2b} (h:EngR e) (id:Int):t3e (e,id)=some (r9z e id):=by
 have ho:=h.olen
 have h1:u0o e=some e:=u6e e.1 e.2 h.fewB h.fewO
 have h2:=t2v e id (by omega)
 have h3:u02 (e,id)=some (t9u e id):=s2z e.1 e.2 id h.fewB (by omega)
 rw[q63];unfold r54 r9z
 simp only[h1,h2,h3,zOb]
 by_cases hn:t1c e.2 id<0
 ·simp only[hn,decide_true,cond_true,if_true]
 ·simp only[hn,decide_false,cond_false,if_false]
end
section
theorem p8m {E:Type} (l:List E) (f g:E→Bool):l.any (fun x=>f x || g x)=(l.any f || l.any g):=by
 induction l with
 | nil=>rfl
 | cons x l ih=>
  simp only[List.any_cons,ih]
  cases f x<;>cases g x<;>cases l.any f<;>cases l.any g<;>rfl
theorem p4o {E:Type} (l:List E) (f g:E→Bool) (i:Bool):l.any (fun x=>f x&&(i || g x))=((i&&l.any f) || l.any fun x=>f x&&g x):=by
 cases i
 ·simp
 ·simp only[Bool.true_or,Bool.and_true,Bool.true_and]
  cases h:l.any f with
  | true=>rfl
  | false=>
   rw[List.any_eq_false] at h
   symm
   rw[Bool.false_or,List.any_eq_false]
   intro x hx
   have:=h x hx
   simp[this]
theorem q57 (t:u0g) (l:List u0g) (ht:r4l t) (hl:q7a l):s0p (t,l)=some (r8i t l):=by
 obtain⟨l1,l2⟩:=hl
 have L:=s02 u7z l (fun i=>(l,t,i)) (fun x=> !decide (x.1=t.1)&&((decide (x.2.1=2) || (decide (x.2.1=3)&&decide (x.2.2.2.1 >t.2.2.1)))&&r31 x.2.2.2.2.2.1 t.2.2.2.2.2.1)) (.inr true) (.inl ())
  (by rw[s5m];simp only[t1y,u0b,Nat.lt_irrefl,decide_false,cond_false])
  (fun i hi=>by
   have h1:=p0y l[i].2.2.2.2.2.1 t.2.2.2.2.2.1 (t7e (l2 _ (List.getElem_mem hi)).2) (t7e ht.2)
   rw[s5m]
   simp only[t1y,u0b,hi,decide_true,cond_true,y7t hi,zTn,y8k (t:=u1f) hi,h1,zOb]
   rw[y7l (by omega)]
   cases decide (l[i].1=t.1)<;>cases decide (l[i].2.1=2)<;>cases decide (l[i].2.1=3)<;>cases decide (l[i].2.2.2.1 >t.2.2.1)<;>cases r31 l[i].2.2.2.2.2.1 t.2.2.2.2.2.1<;>rfl)
 rw[q1a];unfold s9l r8i
 have L:u7z (l,t,0)=_:=L
 simp only[L,zOb]
 cases l.any fun x:u0g=> !decide (x.1=t.1)&&((decide (x.2.1=2) || (decide (x.2.1=3)&&decide (x.2.2.2.1 >t.2.2.1)))&&r31 x.2.2.2.2.2.1 t.2.2.2.2.2.1)<;>rfl
theorem q6a (t:u0g) (l:List u0g) (ht:r4l t) (hl:q7a l):s3h (t,l)=some (p16 t l):=by
 obtain⟨l1,l2⟩:=hl
 have L:=s02 t3v l (fun i=>(l,t,i)) (fun x=>p66 x&&ahead x t) (.inr true) (.inl ())
  (by rw[r4h];simp only[t7a,u0b,Nat.lt_irrefl,decide_false,cond_false])
  (fun i hi=>by
   have h1:=u9z l[i] t (t7e (l2 _ (List.getElem_mem hi)).1) (t7e ht.2)
   rw[r4h]
   simp only[t7a,u0b,hi,decide_true,cond_true,y7t hi,zTn,y8k (t:=u1f) hi,h1,zOb,p66]
   rw[y7l (by omega)]
   cases decide (l[i].2.1=2)<;>cases decide (l[i].2.1=3)<;>cases ahead l[i] t<;>rfl)
 rw[q82];unfold r8e p16
 have L:t3v (l,t,0)=_:=L
 simp only[L,zOb]
 cases l.any fun x=>p66 x&&ahead x t<;>rfl
def q4d (t:u0g) (l:List u0g) (p:u0g):Bool:=
 (p66 p&&(p.2.2.2.2.2.2.1&&ahead t p)) || (decide (p.2.1=2)&&(ahead p t&&(ahead t p || l.any fun x=>decide (x.2.1=2)&&(!decide (x.1=t.1)&&ahead x p))))
theorem p4s (t:u0g) (l:List u0g):r6f t l=((p16 t l&&s7y t l) || l.any (q4d t l)):=by
 unfold r6f q4e
 rw[←p8m]
 rfl
theorem r72 (t:u0g) (l:List u0g) (ht:r4l t) (hl:q7a l):t7h (t,l)=some (r6f t l):=by
 obtain⟨l1,l2⟩:=hl
 have inner:∀(i:Nat) (hi:i<l.length),u5c (l,t,(i:Int),l[i],0)=some (bif (decide (l[i].2.1=2)&&ahead l[i] t)&&(l.any fun x=>decide (x.2.1=2)&&(!decide (x.1=t.1)&&ahead x l[i])) then .inr true else .inl (l,t,(i:Int))):=fun i hi=>by
  have g1:=u9z l[i] t (t7e (l2 _ (List.getElem_mem hi)).1) (t7e ht.2)
  cases hg:(decide (l[i].2.1=2)&&ahead l[i] t) with
  | false=>
   have e0:u5c (l,t,(i:Int),l[i],0)=_:=t6w _
   rw[e0]
   simp only[u7o,g1,zOb,Bool.false_and,cond_false]
   cases decide ((0:Int)<(l.length:Int))
   ·rfl
   ·revert hg
    cases decide (l[i].2.1=2)<;>cases ahead l[i] t<;>simp
  | true=>
   rw[Bool.and_eq_true,decide_eq_true_eq] at hg
   obtain⟨q1,q2⟩:=hg
   have L:=s02 u5c l (fun k=>(l,t,(i:Int),l[i],k)) (fun x=>decide (x.2.1=2)&&(!decide (x.1=t.1)&&ahead x l[i])) (.inr true) (.inl (l,t,(i:Int)))
    (by rw[t6w];simp only[u7o,u0b,Nat.lt_irrefl,decide_false,cond_false,zOb])
    (fun k hk=>by
     have g2:=u9z l[k] l[i] (t7e (l2 _ (List.getElem_mem hk)).1) (t7e (l2 _ (List.getElem_mem hi)).2)
     rw[t6w]
     simp only[u7o,u0b,hk,decide_true,cond_true,q1,g1,q2,g2,y7t hk,zTn,y8k (t:=u1f) hk,zOb]
     rw[y7l (by omega)]
     cases decide (l[k].2.1=2)<;>cases decide (l[k].1=t.1)<;>cases ahead l[k] l[i] <;>rfl)
   rw[Bool.true_and]
   exact L
 have L:=s02 u9i l (fun i=>(l,t,i)) (q4d t l) (.inr true) (.inl ())
  (by rw[s8e];simp only[t3n,u0b,Nat.lt_irrefl,decide_false,cond_false])
  (fun i hi=>by
   have g1:=u9z l[i] t (t7e (l2 _ (List.getElem_mem hi)).1) (t7e ht.2)
   have g2:=u9z t l[i] (t7e ht.1) (t7e (l2 _ (List.getElem_mem hi)).2)
   rw[s8e]
   simp only[t3n,u0b,hi,decide_true,cond_true,y7t hi,zTn,y8k (t:=u1f) hi,g1,g2,inner i hi,zOb,q4d,p66]
   have ws:=y7l (i:=i) (by omega)
   cases decide (l[i].2.1=2)<;>cases decide (l[i].2.1=3)<;>cases l[i].2.2.2.2.2.2.1<;>cases ahead l[i] t<;>cases ahead t l[i] <;>cases (l.any fun x=>decide (x.2.1=2)&&(!decide (x.1=t.1)&&ahead x l[i]))<;>first | rfl | (simp only[Bool.and_self,Bool.and_false,Bool.false_and,Bool.true_and,Bool.or_false,Bool.or_true,Bool.false_or,cond_true,cond_false,zOb,ws]))
 rw[q4o];unfold r2o
 have L:u9i (l,t,0)=_:=L
 simp only[q6a t l ht ⟨l1,l2⟩,r4m t l ht ⟨l1,l2⟩,L,zOb]
 rw[p4s]
 cases p16 t l<;>cases s7y t l<;>cases l.any (q4d t l)<;>rfl
theorem r6v (t:u0g) (l:List u0g) (ht:r4l t) (hl:q7a l):t4b (t,l)=some (t8o t l):=by
 obtain⟨l1,l2⟩:=hl
 have inner:∀(i:Nat) (hi:i<l.length) (b:Bool),u35 (l,t,b,(i:Int),l[i],0)=some (bif (l.any fun y=>decide (y.2.1=2)&&(!decide (y.1=t.1)&&ahead l[i] y)) then .inr true else .inl (l,t,b,(i:Int))):=fun i hi b=>
  s02 u35 l (fun k=>(l,t,b,(i:Int),l[i],k)) (fun y=>decide (y.2.1=2)&&(!decide (y.1=t.1)&&ahead l[i] y)) (.inr true) (.inl (l,t,b,(i:Int)))
   (by rw[t6g];simp only[u5n,u0b,Nat.lt_irrefl,decide_false,cond_false,zOb])
   (fun k hk=>by
    have g2:=u9z l[i] l[k] (t7e (l2 _ (List.getElem_mem hi)).1) (t7e (l2 _ (List.getElem_mem hk)).2)
    rw[t6g]
    simp only[u5n,u0b,hk,decide_true,cond_true,g2,y7t hk,zTn,y8k (t:=u1f) hk,zOb]
    rw[y7l (by omega)]
    cases decide (l[k].2.1=2)<;>cases decide (l[k].1=t.1)<;>cases ahead l[i] l[k] <;>rfl)
 have L:=s02 u4k l (fun i=>(l,t,p16 t l,i)) (fun x=>(decide (x.2.1=2)&&ahead t x)&&(p16 t l || l.any fun y=>decide (y.2.1=2)&&(!decide (y.1=t.1)&&ahead x y))) (.inr true) (.inl ())
  (by rw[t69];simp only[u59,u0b,Nat.lt_irrefl,decide_false,cond_false])
  (fun i hi=>by
   have g2:=u9z t l[i] (t7e ht.1) (t7e (l2 _ (List.getElem_mem hi)).2)
   rw[t69]
   simp only[u59,u0b,hi,decide_true,cond_true,y7t hi,zTn,y8k (t:=u1f) hi,g2,inner i hi (p16 t l),zOb]
   have ws:=y7l (i:=i) (by omega)
   cases decide (l[i].2.1=2)<;>cases ahead t l[i] <;>cases p16 t l<;>cases (l.any fun y=>decide (y.2.1=2)&&(!decide (y.1=t.1)&&ahead l[i] y))<;>first | rfl | (simp only[Bool.and_self,Bool.and_false,Bool.false_and,Bool.true_and,Bool.or_false,Bool.or_true,Bool.false_or,Bool.not_true,Bool.not_false,cond_true,cond_false,zOb,ws]))
 rw[p4o] at L
 rw[r3o];unfold t9d t8o r6m
 have L:u4k (l,t,p16 t l,0)=_:=L
 simp only[r72 t l ht ⟨l1,l2⟩,q6a t l ht ⟨l1,l2⟩,L,zOb]
 have e:q4e (fun x:u0g=> !decide (x.1=t.1)) t l=r6f t l:=rfl
 rw[e]
 cases r6f t l<;>cases ((p16 t l&&l.any fun x=>decide (x.2.1=2)&&ahead t x) || l.any fun x=>(decide (x.2.1=2)&&ahead t x)&&l.any fun y=>decide (y.2.1=2)&&(!decide (y.1=t.1)&&ahead x y))<;>rfl
theorem q9r (b:u0i) (hb:fewB b):t0z b=some (b.2.1++b.2.2.1):=by
 have h1:=hb.2.1.1
 have h2:=hb.2.2.1
 rw[q5b];unfold r3b
 simp only[List.length_nil,Nat.zero_add,List.nil_append,u04 (show b.2.1.length≤1099511627776 by omega),u04 (show b.2.1.length+b.2.2.1.length≤1099511627776 by omega),cond_true]
theorem q2q {e:u2b} (h:EngR e) (id:Int):t9y (e,id)=some (r1r e id):=by
 have ho:=h.olen
 have h2:=t2v e id (by omega)
 have h3:=q9r e.1 h.fewB
 have h3:t0z e.1=some (t77 e):=h3
 have h4:=q7f e.1
 rw[q61];unfold r52 r1r
 simp only[h2,h3,zOb]
 by_cases hn:t1c e.2 id<0
 ·simp only[hn,decide_true,cond_true,if_true]
 ·obtain⟨j,hj,e1,e2,e3⟩:=u1z hn
  have hT:=(h.ot (List.getElem_mem hj)).few
  simp only[hn,decide_false,cond_false,if_false,e1,y7t hj,cond_true,zTn,y8k (t:=u1f) hj,q57 _ _ hT h.fewOth,r72 _ _ hT h.fewOth,h4,zOb,e2]
  have hn' : ¬((j:Int)<0):=by omega
  simp only[hn',decide_false,cond_false,if_false]
  cases r8i e.2[j] (t77 e)<;>cases r6f e.2[j] (t77 e)<;>cases r3v e.1<;>rfl
end
section
theorem q72 {b:u0i} {t:u0g} {n:ByteArray} (h: ¬(0≤u0n b n)):∃(k:Nat) (hk:k<(u1o b t n).2.2.1.length),u0n (u1o b t n) n=(k:Int)∧(u1o b t n).2.2.1[k] =u3r b t n:=by
 have hb:=p7e.mp (show u0n b n<0 by omega)
 have hm:u3r b t n∈(u1o b t n).2.2.1:=by
  show u3r b t n∈(b.2.2.1.filter fun x=>y3c x.2.2.2.2.2.2.2 n)++ [u3r b t n] ++(b.2.2.1.filter fun x=> !y3c x.2.2.2.2.2.2.2 n)
  simp
 have hn: ¬u0n (u1o b t n) n<0:=fun q=>p7e.mp q _ hm rfl
 obtain⟨k,hk,e1,e2⟩:=t44 hn
 refine⟨k,hk,e1,?_⟩
 have hx:=List.getElem_mem hk
 have hx:(u1o b t n).2.2.1[k] ∈(b.2.2.1.filter fun x=>y3c x.2.2.2.2.2.2.2 n)++ [u3r b t n] ++(b.2.2.1.filter fun x=> !y3c x.2.2.2.2.2.2.2 n):=hx
 simp only[List.mem_append,List.mem_filter,List.mem_singleton] at hx
 rcases hx with (q | q) | q
 ·exact absurd e2 (hb _ q.1)
 ·exact q
 ·exact absurd e2 (hb _ q.1)
theorem EngR.mids {e:u2b} (h:EngR e):p4e e.1.2.2.2.1:=r5e h.base.cs
theorem q9w {e:u2b} (h:EngR e) {t:u0g} (ht:t∈e.2∨t∈e.1.2.2.1):u4u (e.1,t)=some (u0m e.1 t):=by
 have hT:TxnR t:=by
  rcases ht with q | q
  ·exact(h.open_ t q).1
  ·exact(h.base.ready t q).1
 rw[r5v e.1 t h.fewB hT.tiny.few,q0h h.mids (r1t hT.id)]
theorem q9x {e:u2b} (h:EngR e) {t:u0g} (ht:t∈e.2∨t∈e.1.2.2.1):tinyB (u0m e.1 t):=by
 have hT:TxnR t:=by
  rcases ht with q | q
  ·exact(h.open_ t q).1
  ·exact(h.base.ready t q).1
 exact t93 h.base hT.tiny
theorem p3l (b:u0i) (t:u0g) (hb:b.2.1.length≤1000):∃(k:Nat) (hk:k<(u0m b t).2.1.length),IntKind.i64.wrap (((u0m b t).2.1.length:Int) - (1:Int))=(k:Int)∧(u0m b t).2.1[k] =u7c b t:=by
 have e:(u0m b t).2.1=b.2.1++ [u7c b t] :=rfl
 refine⟨b.2.1.length,by rw[e];simp,?_,?_⟩
 ·rw[e,List.length_append,List.length_singleton,y4y (by omega) (by omega)];omega
 ·simp[e]
theorem p22 {b:u0i} {t:u0g} (h:r4l t):r4l (u7c b t):=h
theorem q8n {e:u2b} (h:EngR e) (id:Int):s3f (e,id)=some (u4o e id):=by
 have ho:=h.olen
 have h1:u0o e=some e:=u6e e.1 e.2 h.fewB h.fewO
 have h2:=t2v e id (by omega)
 have hJ:=q2q h id
 have hO:u02 (e,id)=some (t9u e id):=s2z e.1 e.2 id h.fewB (by omega)
 rw[q4n];unfold r2n u4o
 simp only[h1,hJ,zOb]
 by_cases c1:r1r e id=1
 ·simp only[c1,decide_true,cond_true,if_true]
  rfl
 ·simp only[c1,decide_false,cond_false,if_false]
  by_cases c0:r1r e id=0
  ·obtain⟨hn,_,_,_⟩:=r5c c0
   obtain⟨j,hj,e1,e2,e3⟩:=u1z hn
   have hm:e.2[j] ∈e.2∨e.2[j] ∈e.1.2.2.1:= .inl (List.getElem_mem hj)
   have hT:=q9w h hm
   obtain⟨k,hk,f1,f2⟩:=p3l e.1 e.2[j] (by have:=h.base.plen;omega)
   have hC:=u7n (u7c e.1 e.2[j]) (p22 (h.ot (List.getElem_mem hj)).few)
   have hO2:=s2z (u0m e.1 e.2[j]) e.2 id (q9x h hm).few (by omega)
   simp only[c0,decide_true,Bool.not_true,cond_false,if_true,h2,e1,y7t hj,cond_true,zTn,y8k (t:=u1f) hj,hT,f1,y7t hk,y8k (t:=u1f) hk,f2,hC,hO2,zOb,e2]
   show some _=some (r8k e e.2[j],_)
   unfold r8k t8p
   rw[e3]
   rfl
  ·simp only[c0,decide_false,Bool.not_false,cond_true,if_false,hO,zOb]
   rfl
theorem q6e {e:u2b} (h:EngR e) (id:Int) {n:ByteArray} (hn1:n.size≤1048576):s0r (e,id,n)=some (t6m e id n):=by
 have ho:=h.olen
 have h1:u0o e=some e:=u6e e.1 e.2 h.fewB h.fewO
 have h2:=t2v e id (by omega)
 have hK:=t23 n (by unfold u0p;omega)
 have hA:u1u (e.1,n)=some (u0n e.1 n):=t55 e.1 n (by have:=h.base.rlen;omega)
 have hJ:=q2q h id
 have hL:t0z e.1=some (t77 e):=q9r e.1 h.fewB
 have hO:u02 (e,id)=some (t9u e id):=s2z e.1 e.2 id h.fewB (by omega)
 rw[q1h];unfold s9s t6m
 simp only[h1,h2,zOb]
 by_cases c1:t1c e.2 id<0
 ·simp only[c1,decide_true,cond_true,if_true]
  rfl
 simp only[c1,decide_false,cond_false,if_false,hK,zOb]
 cases c2:u48 n with
 | false=>simp only[Bool.not_false,cond_true,if_true];rfl
 | true=>
 simp only[Bool.not_true,cond_false,Bool.true_eq_false,if_false,hA,zOb]
 by_cases c3:0≤u0n e.1 n
 ·have c3' :decide (u0n e.1 n≥0)=true:=by simpa using c3
  simp only[c3,c3',cond_true,if_true]
  rfl
 have c3' :decide (u0n e.1 n≥0)=false:=by simpa using c3
 simp only[c3,c3',cond_false,if_false,hJ,zOb]
 unfold s8p
 by_cases c4:r1r e id=0
 ·obtain⟨j,hj,e1,e2,e3⟩:=u1z c1
  have hT:=(h.ot (List.getElem_mem hj))
  have hTR:=(h.open_ _ (List.getElem_mem hj)).1
  have hD:=r6v e.2[j] (t77 e) hT.few h.fewOth
  have hr:=h.base.rlen
  simp only[c4,decide_true,e1,y7t hj,cond_true,zTn,y8k (t:=u1f) hj,hL,hD,zOb,e2,ne_eq,not_true_eq_false,if_false]
  cases c5:t8o e.2[j] (t77 e) with
  | true=>
   have d5:decide ((5:Int)=0)=false:=by decide
   simp only[cond_true,d5,cond_false,zOb,Bool.not_false,hO,if_true]
   rfl
  | false=>
   simp only[cond_false,zOb,Bool.false_eq_true,if_false]
   have e6:decide ((e.1.2.2.1.length:Int)≥3)=decide (3≤e.1.2.2.1.length):=by simp;omega
   simp only[e6]
   by_cases c6:3≤e.1.2.2.1.length
   ·have d3:decide ((3:Int)=0)=false:=by decide
    simp only[c6,decide_true,cond_true,d3,Bool.not_false,hO,zOb,if_true]
    rfl
   ·have hM:=s86 e.1 e.2[j] n h.fewB hT.few (r1t hTR.id)
    obtain⟨k,hk,f1,f2⟩:=q72 (t:=e.2[j]) c3
    have hns:n.size≤100:=by have:=(u2o c2).2;omega
    have hMt:=r5i (t:=e.2[j]) h.base hT hns
    have hA2:u1u (u1o e.1 e.2[j] n,n)=some ((k:Nat):Int):=by rw[t55 _ n (by have:=hMt.rl;omega),f1]
    have hC:=u7n (u3r e.1 e.2[j] n) hT.few
    have hO2:=s2z (u1o e.1 e.2[j] n) e.2 id hMt.few (by omega)
    simp only[c6,decide_false,cond_false,decide_true,Bool.not_true,y7t hj,cond_true,y8k (t:=u1f) hj,hM,hA2,y7t hk,zTn,y8k (t:=u1f) hk,f2,hC,hO2,zOb,if_false,if_true]
    show some _=some (p3n e e.2[j] n,_)
    unfold p3n t8p
    rw[e3]
    rfl
 ·simp only[c4,decide_false,cond_false,zOb,Bool.not_false,cond_true,hO,ne_eq,not_false_eq_true,if_true,if_false]
  rfl
theorem q3x {e:u2b} (h:EngR e) (n:ByteArray) (yes:Bool):s3g (e,n,yes)=some (r49 e n yes):=by
 have ho:=h.olen
 have h1:u0o e=some e:=u6e e.1 e.2 h.fewB h.fewO
 have hA:u1u (e.1,n)=some (u0n e.1 n):=t55 e.1 n (by have:=h.base.rlen;omega)
 have hF:=q7f e.1
 have hG:=r5q e.1 n h.fewB
 have hG2:=s24 (t2y e.1 n) e.2 (r5a h.tinyO).few (by omega)
 rw[q4q];unfold r2q r49
 simp only[h1,hA,hF,zOb]
 by_cases c1:u0n e.1 n<0
 ·simp only[c1,decide_true,cond_true,if_true]
  rfl
 obtain⟨k,hk,f1,f2⟩:=t44 c1
 simp only[c1,decide_false,cond_false,if_false]
 cases yes with
 | false=>simp only[cond_false,zOb,hG,hG2,Bool.false_eq_true,false_and,if_false];rfl
 | true=>
  have hm:e.1.2.2.1[k] ∈e.2∨e.1.2.2.1[k] ∈e.1.2.2.1:= .inr (List.getElem_mem hk)
  have hT:=q9w h hm
  have hT2:=s24 (u0m e.1 e.1.2.2.1[k]) e.2 (q9x h hm).few (by omega)
  simp only[cond_true,true_and]
  cases r3v e.1 with
  | true=>rfl
  | false=>
   simp only[cond_false,Bool.false_eq_true,if_false,if_true,f1,y7t hk,cond_true,zTn,y8k (t:=u1f) hk,hT,hT2,zOb]
   rfl
end
section
theorem r0t:emp.size≤100:=by decide
theorem r07 (r:t89):(u1d r).1.size≤20000:=by
 cases h:u46 r with
 | false=>unfold u1d;rw[h];exact Nat.le_trans r0t (by omega)
 | true=>
  have hR:=p6k.mp h
  rw[u9w hR]
  have:=s19 hR
  show(s81 (s75 r)).size≤20000
  rw[q3i];omega
def q8y (b:u0i):t89:=(4,u5y,emp,false,b)
theorem q6q {b:u0i} (h:tinyB b):tinyR (q8y b):=⟨t01,r0t,h⟩
theorem q2o (d:u0k) (hd:o3n.wt d≤10000000):t4m d=some (orD d (p15 d)):=by
 have h1:=p0z d (by omega)
 have h2:=u9b (q8y (p3d (u0l d)).1) (q6q (p3e _)).wt
 have h3:=u90 d (by unfold u0p;omega)
 rw[r9k];unfold s7c
 simp only[h1,zOb]
 have h2:u2r (4,(0,0,0,0, [], [],false,(⟨#[]⟩:ByteArray)),(⟨#[]⟩:ByteArray),false,(p3d (u0l d)).1)=_:=h2
 simp only[h2,h3,zOb]
 unfold p15
 cases hp:t05 (u0l d) with
 | none=>
  have e:(p3d (u0l d)).2=false:=by unfold p3d;rw[hp]
  simp only[e,Bool.not_false,cond_true,zOb]
  rfl
 | some b=>
  have e:p3d (u0l d)=(b,true):=by unfold p3d;rw[hp]
  simp only[e,Bool.not_true,cond_false,zOb]
  have e4:q8y b=(4,u5y,emp,false,b):=rfl
  rw[e4]
  cases ht:(u1d (4,u5y,emp,false,b)).2 with
  | false=>simp only[Bool.not_false,cond_true,Bool.false_eq_true,if_false];rfl
  | true=>
   have h5:=q0w (d:=d) (l:= [(u1d (4,u5y,emp,false,b)).1]) hd (by simp) (fun t h=>by
    rw[List.mem_singleton.mp h];have:=r07 (4,u5y,emp,false,b);omega)
   simp only[Bool.not_true,cond_false,if_true,h5,zOb]
theorem p61 {d z:u0k} (h:p15 d=some z):u3s z=true:=by
 unfold p15 at h
 split at h
 ·cases h
 ·split at h
  ·exact(q3m h).2.1
  ·cases h
theorem r74 (s:u1v) (r:t89) (hd:o3n.wt s.2≤10000000) (hr:tinyR r):t1l (s,r)=some ((t2z s.2 r).isSome,s.1,(t2z s.2 r).getD s.2):=by
 have h1:=u9b r hr.wt
 have hl:=r07 r
 have h2:=s85 s.2 (u1d r).1 hd (by omega)
 have h3:=q2o s.2 hd
 rw[q19];unfold r0l t2z
 simp only[h1,zOb]
 cases ht:(u1d r).2 with
 | false=>simp only[Bool.not_false,cond_true,Bool.false_eq_true,if_false];rfl
 | true=>
  simp only[Bool.not_true,cond_false,if_true,h2,zOb]
  cases ha:append_ s.2 (u1d r).1 with
  | some y=>rfl
  | none=>
   simp only[orD,Bool.not_false,cond_true,h3,zOb]
   cases hz:p15 s.2 with
   | none=>rfl
   | some z=>
    have h4:=s85 z (u1d r).1 (s8n (p61 hz)) (by omega)
    simp only[orD,Bool.not_true,cond_false,h4,zOb]
    cases hq:append_ z (u1d r).1<;>rfl
theorem t3i:tinyR q53:=⟨t01,by decide,u42⟩
theorem q6s {e:u2b} (h:EngR e) (id:Int):tinyR (u4o e id).2.1:=by
 unfold u4o
 split
 ·exact t3i
 ·split
  ·rename_i c1 c0
   obtain⟨hn,_,_,_⟩:=r5c c0
   obtain⟨j,hj,e1,e2,e3⟩:=u1z hn
   rw[e2]
   exact⟨(h.ot (List.getElem_mem hj)).like rfl rfl r0t,r0t,u42⟩
  ·exact t3i
theorem p1m {e:u2b} (h:EngR e) (id:Int) (n:ByteArray):tinyR (t6m e id n).2.1:=by
 unfold t6m
 split
 ·exact t3i
 ·rename_i hn
  split
  ·exact t3i
  ·rename_i hk
   split
   ·exact t3i
   ·split
    ·obtain⟨j,hj,e1,e2,e3⟩:=u1z hn
     rw[e2]
     have hk:u48 n=true:=by simpa using hk
     have:=(u2o hk).2
     exact⟨(h.ot (List.getElem_mem hj)).like rfl rfl (by show n.size≤100;omega),r0t,u42⟩
    ·exact t3i
theorem p25 {e:u2b} (n:ByteArray) (hn:n.size≤100) (y:Bool):tinyR (r49 e n y).2.1:=by
 unfold r49
 split
 ·exact t3i
 ·split
  ·exact t3i
  ·split
   ·exact⟨t01,hn,u42⟩
   ·exact⟨t01,hn,u42⟩
theorem q2e {s:u1v} (h:EngR s.1) (hd:u3s s.2=true) (id:Int):u5j (s,id)=some ((t4o s id).2,(t4o s id).1):=by
 have ho:=h.olen
 have h1:=q8n h id
 have h2:=r74 s (u4o s.1 id).2.1 (s8n hd) (q6s h id)
 have h3:u0o s.1=some s.1:=u6e s.1.1 s.1.2 h.fewB h.fewO
 have hO:u02 (s.1,id)=some (t9u s.1 id):=s2z s.1.1 s.1.2 id h.fewB (by omega)
 rw[r7k];unfold s39 t4o
 simp only[h1,zOb]
 by_cases c:(u4o s.1 id).2.2=0
 ·simp only[c,decide_true,cond_true,if_true,h2,zOb]
  cases t2z s.2 (u4o s.1 id).2.1 with
  | none=>simp only[Option.isSome_none,Bool.not_false,cond_true,h3,hO,zOb];rfl
  | some d=>rfl
 ·simp only[c,decide_false,cond_false,if_false]
theorem r9x {s:u1v} (h:EngR s.1) (hd:u3s s.2=true) (id:Int) {n:ByteArray} (hn:n.size≤1048576):u40 (s,id,n)=some ((s77 s id n).2,(s77 s id n).1):=by
 have ho:=h.olen
 have h1:=q6e h id hn
 have h2:=r74 s (t6m s.1 id n).2.1 (s8n hd) (p1m h id n)
 have h3:u0o s.1=some s.1:=u6e s.1.1 s.1.2 h.fewB h.fewO
 have hO:u02 (s.1,id)=some (t9u s.1 id):=s2z s.1.1 s.1.2 id h.fewB (by omega)
 rw[r48];unfold s1g s77
 simp only[h1,zOb]
 by_cases c:(t6m s.1 id n).2.2=0
 ·simp only[c,decide_true,cond_true,if_true,h2,zOb]
  cases t2z s.2 (t6m s.1 id n).2.1 with
  | none=>simp only[Option.isSome_none,Bool.not_false,cond_true,h3,hO,zOb];rfl
  | some d=>rfl
 ·simp only[c,decide_false,cond_false,if_false]
theorem p65 {e:u2b} {n:ByteArray} {y:Bool} (c:(r49 e n y).2.2≠0):(r49 e n y).1=e:=by
 unfold r49 at c ⊢
 split
 ·rfl
 ·split
  ·rfl
  ·rename_i h1 h2
   rw[if_neg h1,if_neg h2] at c
   split at c<;>exact absurd rfl c
theorem q2f {s:u1v} (h:EngR s.1) (hd:u3s s.2=true) {n:ByteArray} (hn:n.size≤100) (y:Bool):u5k (s,n,y)=some ((q0e s n y).2,(q0e s n y).1):=by
 have h1:=q3x h n y
 have h2:=r74 s (r49 s.1 n y).2.1 (s8n hd) (p25 n hn y)
 rw[r7l];unfold s4a q0e
 simp only[h1,zOb]
 by_cases c:(r49 s.1 n y).2.2=0
 ·simp only[c,decide_true,cond_true,if_true,h2,zOb]
  cases t2z s.2 (r49 s.1 n y).2.1 with
  | none=>rfl
  | some d=>rfl
 ·simp only[c,decide_false,cond_false,if_false,p65 c]
theorem p0v {s:u1v} (h:EngR s.1) (hd:o3n.wt s.2≤10000000):s00 s=some s:=by
 have h1:u0o s.1=some s.1:=u6e s.1.1 s.1.2 h.fewB h.fewO
 have h2:=u90 s.2 (by unfold u0p;omega)
 rw[q18];unfold r0k
 simp only[h1,h2,zOb]
theorem p4h {s:u1v} (h:EngR s.1) (hd:u3s s.2=true):u6o s=some (p4v s):=by
 have h1:=p0v h (s8n hd)
 have h2:=q2o s.2 (s8n hd)
 rw[r83];unfold s6u p4v
 simp only[h1,h2,zOb]
 cases p15 s.2<;>rfl
end
section
def PQR:List ByteArray:= [⟨#[112]⟩,⟨#[113]⟩,⟨#[114]⟩]
theorem q9u {y:ByteArray} (h:y∈PQR):y.size≤100:=by
 simp only[PQR,List.mem_cons,List.not_mem_nil,or_false] at h
 rcases h with rfl | rfl | rfl<;>decide
theorem Stt.mono {k m:Nat} {s:u1v} (h:Stt k s) (hm:k≤m):Stt m s:=by
 obtain⟨b,h1,h2⟩:=h.sync
 exact⟨⟨b,h1,by omega⟩,h.dom,h.num.mono hm⟩
theorem Stt.log {k:Nat} {s:u1v} (h:Stt k s):u3s s.2=true:=by obtain⟨b,h1,_⟩:=h.sync;exact h1.log
def RN (e:u2b):Prop:= ∀x∈e.1.2.2.1,x.2.2.2.2.2.2.2∈PQR
theorem RN.sub {e e' :u2b} (h:RN e) (hs:∀x∈e'.1.2.2.1,∃y∈e.1.2.2.1,x.2.2.2.2.2.2.2=y.2.2.2.2.2.2.2):RN e' :=fun x hx=>by
 obtain⟨y,hy,q⟩:=hs x hx
 rw[q];exact h y hy
theorem RN.same {e e' :u2b} (h:RN e) (hs:e'.1.2.2.1=e.1.2.2.1):RN e' :=h.sub fun x hx=>⟨x,by rw[←hs];exact hx,rfl⟩
theorem RN.through {e:u2b} (h:RN e) (t:u0g) (o:List u0g):RN (u1t (u0m e.1 t) o,o):=h.sub fun x hx=>by
 have hx:x∈(e.1.2.2.1.filter fun x=> !decide (x.1=t.1)).map (r1p (u7c e.1 t)):=hx
 obtain⟨y,hy,rfl⟩:=List.mem_map.mp hx
 exact⟨y,(List.mem_filter.mp hy).1,rfl⟩
theorem RN.commit {e:u2b} (h:RN e) (id:Int):RN (u4o e id).1:=by
 unfold u4o
 split
 ·exact h
 ·split
  ·exact h.through _ _
  ·exact h.same rfl
theorem RN.prep {e:u2b} (h:RN e) (id:Int) {n:ByteArray} (hn:n∈PQR):RN (t6m e id n).1:=by
 unfold t6m
 split
 ·exact h
 ·split
  ·exact h
  ·split
   ·exact h
   ·split
    ·intro x hx
     have hx:x∈(e.1.2.2.1.filter fun x=>y3c x.2.2.2.2.2.2.2 n)++ [u3r e.1 (u3a e id) n] ++(e.1.2.2.1.filter fun x=> !y3c x.2.2.2.2.2.2.2 n):=hx
     simp only[List.mem_append,List.mem_filter,List.mem_singleton] at hx
     rcases hx with (q | rfl) | q
     ·exact h x q.1
     ·exact hn
     ·exact h x q.1
    ·exact h.same rfl
theorem RN.fin {e:u2b} (h:RN e) (n:ByteArray) (y:Bool):RN (r49 e n y).1:=by
 unfold r49
 split
 ·exact h
 ·split
  ·exact h
  ·split
   ·exact h.through _ _
   ·exact h.sub fun x hx=>⟨x,(List.mem_filter.mp hx).1,rfl⟩
theorem RN.look {e:u2b} (h:RN e) {id:Int} {r:s22} {right:Bool} :RN (t86 e id r right).1:=by
 unfold t86
 split
 ·exact h
 ·split
  ·exact h
  ·split<;>exact h
theorem RN.put {e:u2b} (h:RN e) {id:Int} {w:WrT} :RN (p0b e id w).1:=by
 unfold p0b
 split
 ·exact h
 ·split
  ·exact h
  ·split<;>exact h
theorem RN.begin {e:u2b} (h:RN e):RN (s1h e).1:=by
 unfold s1h
 split<;>exact h
theorem RN.leave {e:u2b} (h:RN e) (id:Int):RN (r9z e id).1:=by
 unfold r9z
 split<;>exact h
structure SttN (k:Nat) (s:u1v):Prop extends Stt k s where
 rn:RN s.1
theorem SttN.mono {k m:Nat} {s:u1v} (h:SttN k s) (hm:k≤m):SttN m s:=⟨h.toStt.mono hm,h.rn⟩
theorem SttN.begin {k:Nat} {s:u1v} (h:SttN k s):SttN (k+1) ((s1h s.1).1,s.2):=⟨h.toStt.begin,h.rn.begin⟩
theorem SttN.look {k:Nat} {s:u1v} (h:SttN k s) {id:Int} {r:s22} {right:Bool} (hr:right=true→u18 r=true) (hk:r.1∈K5∧r.2∈K5):SttN (k+1) ((t86 s.1 id r right).1,s.2):=⟨h.toStt.look hr hk,h.rn.look⟩
theorem SttN.put {k:Nat} {s:u1v} (h:SttN k s) {id:Int} {w:WrT} (hk:w.1∈K5):SttN (k+1) ((p0b s.1 id w).1,s.2):=⟨h.toStt.put hk,h.rn.put⟩
theorem SttN.leave {k:Nat} {s:u1v} (h:SttN k s) (id:Int):SttN (k+1) ((r9z s.1 id).1,s.2):=⟨h.toStt.leave id,h.rn.leave id⟩
theorem SttN.fix {k:Nat} {s:u1v} (h:SttN k s):SttN (k+1) (p4v s).1:=⟨h.toStt.fix,by
 unfold p4v
 split<;>exact h.rn⟩
theorem SttN.commit {k:Nat} {s:u1v} (h:SttN k s) (id:Int):SttN (k+1) (t4o s id).1:=⟨h.toStt.commit id,by
 unfold t4o
 split
 ·split
  ·exact h.rn.commit id
  ·exact h.rn.same rfl
 ·exact h.rn.commit id⟩
theorem SttN.prep {k:Nat} {s:u1v} (h:SttN k s) (id:Int) {n:ByteArray} (hn:n∈PQR):SttN (k+1) (s77 s id n).1:=⟨h.toStt.prep id n,by
 unfold s77
 split
 ·split
  ·exact h.rn.prep id hn
  ·exact h.rn.same rfl
 ·exact h.rn.prep id hn⟩
theorem SttN.fin {k:Nat} {s:u1v} (h:SttN k s) (n:ByteArray) (y:Bool):SttN (k+1) (q0e s n y).1:=⟨h.toStt.fin n y,by
 unfold q0e
 split
 ·split
  ·exact h.rn.fin n y
  ·exact h.rn
 ·exact h.rn⟩
theorem q32:∃s,t8k ()=some s∧SttN 0 s:=by
 obtain⟨d,h1,h2,h3⟩:=q8r
 have h0:t6q ()=some (q8f, []):=by
  rw[r7a];unfold s3z
  rw[r0p];rfl
 refine⟨((q8f, []),d),?_,?_⟩
 ·rw[r9b];unfold s62
  simp only[h0,h1,zOb]
 ·have hp:t05 (u0l d)=some q8f:=by rw[h3];rfl
  have hE:EngR ((q8f, []):u2b):=p8o.mp (by decide)
  have hL:Like0 q8f q8f:=⟨by decide,rfl,rfl,rfl⟩
  have hN:q8f.2.2.2.2≤((0:Nat):Int)+1:=by decide
  have hM:Num 0 ((q8f, []):u2b):=⟨by decide,by decide⟩
  have hD:DomE ((q8f, []):u2b):=⟨⟨(fun v hv=>by cases hv),(fun t ht=>by cases ht)⟩,(fun t ht=>by cases ht)⟩
  exact⟨⟨⟨q8f,⟨hE,h2,hp,q97,hL⟩,hN⟩,hD,hM⟩,fun x hx=>by cases hx⟩
def DrS (F:Option (Src×u1v)) (k:Nat):Prop:= ∃s t,F=some (s,t)∧s.ok∧SttN k t
theorem p4j {y:ByteArray} (h:y∈K5):y.size≤1048576:=by have:=(u2o (p4k h)).2;omega
theorem q78 {k:Nat} {s:u1v} (h:SttN k s) (id:Int) {c:Src} (hc:c.ok):DrS ((u0j (c,(16:Int))).bind fun(y20:(Int×((List Int)×(Int×Int))))=>(((bif (decide (id=(0:Int))) then(some true) else(some (decide (y20.1<(3:Int))))):Option Bool).bind fun j21=>(bif j21 then((t3d s.1).bind fun y22=>(some (y20.2,(y22.1,s.2)))) else(bif (decide (y20.1<(6:Int))) then((u3e y20.2).bind fun y23=>((t0v (s.1,(id,y23.1))).bind fun y24=>(some (y23.2,(y24.1,s.2))))) else(bif (decide (y20.1<(7:Int))) then((u39 y20.2).bind fun y25=>((u6q (s.1,(id,y25.1))).bind fun y26=>(some (y25.2,(y26.1,s.2))))) else(bif (decide (y20.1<(10:Int))) then((u3f y20.2).bind fun y27=>((t0w (s.1,(id,y27.1))).bind fun y28=>(some (y27.2,(y28.1,s.2))))) else(bif (decide (y20.1<(13:Int))) then((u5j (s,id)).bind fun y29=>(some (y20.2,y29.2))) else(bif (decide (y20.1=(13:Int))) then((u1m (y20.2,PQR)).bind fun y30=>((u40 (s,(id,y30.1))).bind fun y31=>(some (y30.2,y31.2)))) else(bif (decide (y20.1=(14:Int))) then((u1m (y20.2,PQR)).bind fun y32=>((u1l (y32.2,(2:Int))).bind fun(y33:(Bool×((List Int)×(Int×Int))))=>((u5k (s,(y32.1,y33.1))).bind fun y34=>(some (y33.2,y34.2))))) else((u1l (y20.2,(3:Int))).bind fun(y35:(Bool×((List Int)×(Int×Int))))=>(bif y35.1 then((u6o s).bind fun y36=>(some (y35.2,y36.1))) else((t3e (s.1,id)).bind fun y37=>(some (y35.2,(y37.1,s.2))))))))))))))) (k+1):=by
 obtain⟨y,c1,e1,k1,r1⟩:=u2f hc (n:=16) (by omega)
 have hE:=h.eng
 simp only[e1,zOb]
 have key:∀j:Bool,DrS ((some j).bind fun j21=>(bif j21 then((t3d s.1).bind fun y22=>(some (c1,(y22.1,s.2)))) else(bif (decide (y<(6:Int))) then((u3e c1).bind fun y23=>((t0v (s.1,(id,y23.1))).bind fun y24=>(some (y23.2,(y24.1,s.2))))) else(bif (decide (y<(7:Int))) then((u39 c1).bind fun y25=>((u6q (s.1,(id,y25.1))).bind fun y26=>(some (y25.2,(y26.1,s.2))))) else(bif (decide (y<(10:Int))) then((u3f c1).bind fun y27=>((t0w (s.1,(id,y27.1))).bind fun y28=>(some (y27.2,(y28.1,s.2))))) else(bif (decide (y<(13:Int))) then((u5j (s,id)).bind fun y29=>(some (c1,y29.2))) else(bif (decide (y=(13:Int))) then((u1m (c1,PQR)).bind fun y30=>((u40 (s,(id,y30.1))).bind fun y31=>(some (y30.2,y31.2)))) else(bif (decide (y=(14:Int))) then((u1m (c1,PQR)).bind fun y32=>((u1l (y32.2,(2:Int))).bind fun(y33:(Bool×((List Int)×(Int×Int))))=>((u5k (s,(y32.1,y33.1))).bind fun y34=>(some (y33.2,y34.2))))) else((u1l (c1,(3:Int))).bind fun(y35:(Bool×((List Int)×(Int×Int))))=>(bif y35.1 then((u6o s).bind fun y36=>(some (y35.2,y36.1))) else((t3e (s.1,id)).bind fun y37=>(some (y35.2,(y37.1,s.2)))))))))))))) (k+1):=by
  intro j
  simp only[zOb]
  cases j with
  | true=>
   simp only[cond_true,p0t hE,zOb]
   exact⟨_,_,rfl,k1,h.begin⟩
  | false=>
   simp only[cond_false]
   cases decide (y<(6:Int)) with
   | true=>
    obtain⟨z,c2,e2,k2,r2⟩:=q3y k1
    simp only[cond_true,e2,zOb,q8q hE id (p4j r2)]
    refine⟨_,_,rfl,k2,?_⟩
    have:=h.look (id:=id) (r:=(z,z)) (right:=u48 z) (fun hk=>by rw[p0i];exact hk) ⟨r2,r2⟩
    unfold o07
    split<;>exact this
   | false=>
   simp only[cond_false]
   cases decide (y<(7:Int)) with
   | true=>
    obtain⟨z,c2,e2,k2,r2⟩:=p2o k1
    simp only[cond_true,e2,zOb,q31 hE id ⟨p4j r2.1,p4j r2.2.1⟩]
    refine⟨_,_,rfl,k2,?_⟩
    have:=h.look (id:=id) (r:=z) (right:=u18 z) (fun hk=>hk) ⟨r2.1,r2.2.1⟩
    unfold p7f
    split<;>exact this
   | false=>
   simp only[cond_false]
   cases decide (y<(10:Int)) with
   | true=>
    obtain⟨z,c2,e2,k2,r2⟩:=q6n k1
    simp only[cond_true,e2,zOb,q8u hE id (p4j r2.1)]
    exact⟨_,_,rfl,k2,h.put r2.1⟩
   | false=>
   simp only[cond_false]
   cases decide (y<(13:Int)) with
   | true=>
    simp only[cond_true,q2e hE h.log,zOb]
    exact⟨_,_,rfl,k1,h.commit id⟩
   | false=>
   simp only[cond_false]
   cases decide (y=(13:Int)) with
   | true=>
    obtain⟨z,c2,e2,k2,r2⟩:=s6a k1 (l:=PQR) (by decide)
    have hz:=q9u r2
    simp only[cond_true,e2,zOb,r9x hE h.log id (show z.size≤1048576 by omega)]
    exact⟨_,_,rfl,k2,h.prep id r2⟩
   | false=>
   simp only[cond_false]
   cases decide (y=(14:Int)) with
   | true=>
    obtain⟨z,c2,e2,k2,r2⟩:=s6a k1 (l:=PQR) (by decide)
    obtain⟨z2,c3,e3,k3,r3⟩:=s2y k2 (n:=2) (by omega)
    simp only[cond_true,e2,e3,zOb,q2f hE h.log (q9u r2)]
    exact⟨_,_,rfl,k3,h.fin z z2⟩
   | false=>
    obtain⟨z2,c3,e3,k3,r3⟩:=s2y k1 (n:=3) (by omega)
    simp only[cond_false,e3,zOb]
    cases z2 with
    | true=>
     simp only[cond_true,p4h hE h.log,zOb]
     exact⟨_,_,rfl,k3,h.fix⟩
    | false=>
     simp only[cond_false,p0x hE,zOb]
     exact⟨_,_,rfl,k3,h.leave id⟩
 cases decide (id=0) with
 | true=>simp only[cond_true];exact key true
 | false=>simp only[cond_false];exact key _
theorem p2r {k:Nat} {s:u1v} (h:SttN k s) {c:Src} (hc:c.ok):DrS (s01 (c,s)) (k+1):=by
 rw[q2a];unfold r0m
 cases hd:decide ((s.1.2.length:Int) >0) with
 | true=>
  have hl:0<s.1.2.length:=by simpa using hd
  obtain⟨y,c1,e1,k1,r1⟩:=u2f hc (n:=(s.1.2.length:Int)) (by omega)
  obtain⟨i,rfl⟩:∃i:Nat,y=(i:Int):=⟨y.toNat,by omega⟩
  have hi:i<s.1.2.length:=by omega
  simp only[hd,cond_true,e1,zOb,y7t hi]
  exact q78 h _ k1
 | false=>
  simp only[hd,cond_false]
  exact q78 h 0 hc
theorem p2t (m:Nat) (hm:1≤m∧m≤1000) {c:Src} (hc:c.ok):∃(s:u1v) (c' :Src),t52 (c,(m:Int))=some (s,c')∧c'.ok∧SttN (m+1) s:=by
 have key:∀(d i:Nat) (c:Src) (j s:u1v),c.ok→SttN i s→m+2≤i+d→i≤m+1→ ∃(c' :Src) (s' :u1v),u8b (c,(m:Int),j,s,(i:Int))=some (.inl (c',j,s'))∧c'.ok∧SttN (m+1) s' :=by
  intro d
  induction d with
  | zero=>intro i c j s _ _ h1 h2;omega
  | succ d ih=>
   intro i c j s hc hs hd hi
   obtain⟨y,c1,e1,k1,r1⟩:=u2f hc (n:=(m:Int)) (by omega)
   rw[r7p]
   simp only[t6i,e1,zOb]
   rw[y4y (n:=2+y) (by omega) (by omega)]
   by_cases hy:(i:Int)<2+y
   ·obtain⟨c2,s2,e2,k2,r2⟩:=p2r hs k1
    simp only[hy,decide_true,cond_true,e2,zOb]
    rw[y7l (by omega)]
    exact ih (i+1) c2 j s2 k2 r2 (by omega) (by omega)
   ·simp only[hy,decide_false,cond_false]
    exact⟨_,_,rfl,k1,hs.mono hi⟩
 obtain⟨s0,e0,h0⟩:=q32
 obtain⟨c',s',e1,k1,r1⟩:=key (m+2) 0 c (((([], [], [],0,0):u0i), []),([], [])) s0 hc h0 (by omega) (by omega)
 rw[q2b];unfold r0n
 have e1:u8b (c,(m:Int),(((([], [], [],0,0):u0i), []),([], [])),s0,0)=_:=e1
 simp only[e0,e1,zOb]
 exact⟨_,_,rfl,k1,r1⟩
end
section
theorem BaseR.asc {b:u0i} (h:BaseR b):VAsc b.1:=(p4f.mp h.vs).2.1
end
section
theorem Num.leave {k:Nat} {e:u2b} (h:Num k e) (id:Int):Num k (t9u e id):=h
end
section
theorem r9o {y:Int} (h:0≤y) {n:Nat} (hn:0<n):y4q (Int.tmod y (n:Int)) n=true:=by
 have:=s8s h (n:=(n:Int)) (by omega)
 exact y7s.mpr ⟨this.1,this.2⟩
theorem midTx.tiny {n:Nat} (hn:n≤100) {t:u0g} (h:midTx n t):tinyT t:=by
 obtain⟨h1,h2,h3,h4,h5⟩:=h
 refine⟨by omega,fun r hr=> ?_,by omega,fun w hw=> ?_,by omega⟩
 ·have:=h2 r hr;omega
 ·have:=h4 w hw;unfold p80 at this;omega
def q9o (l:List u14):Prop:= ∀v∈l,v.1.size≤100∧v.2.1.size≤100
theorem p6y {s:Src} (h:s.ok):Dr (t4i s) (fun y=>y.length≤100∧q9o y):=by
 have key:∀(d i:Nat) (s:Src) (a:List u14),s.ok→a.length≤8*i→8≤i+d→i≤7→q9o a→
  ∃(s' :Src) (a' :List u14),u4l (s,a,(i:Int))=some (.inl (s',a'))∧s'.ok∧a'.length≤100∧q9o a' :=by
  intro d
  induction d with
  | zero=>intro i s a _ _ h1 h2;omega
  | succ d ih=>
   intro i s a hs ha hd hi ht
   obtain⟨y,s1,e1,k1,r1⟩:=u2f hs (n:=8) (by omega)
   rw[s83]
   simp only[t04,e1,zOb]
   by_cases hy:(i:Int)<y
   ·obtain⟨ws,s2,e2,k2,r2,r3⟩:=q2u k1
    obtain⟨w1,_,w3⟩:=p6l.mp r2
    have hp:=r33 ws a ((i+1:Nat):Int)
    simp only[hy,decide_true,cond_true,e2,zOb]
    rw[y7l (by omega)]
    simp only[s3q a ws _ (show a.length+ws.length≤1000000000000 by omega),zOb]
    refine ih (i+1) s2 _ k2 (by omega) (by omega) (by omega) fun v hv=> ?_
    rcases(t30 _ _ _).mp hv with q | ⟨w,hw,rfl⟩
    ·exact ht v q
    ·have:=q5y (w1 w hw)
     show w.1.size≤100∧w.2.1.size≤100
     omega
   ·simp only[hy,decide_false,cond_false]
    exact⟨_,_,rfl,k1,by omega,ht⟩
 obtain⟨s',a',e1,k1,r1,r2⟩:=key 8 0 s [] h (by simp) (by omega) (by omega) (fun v hv=>by cases hv)
 rw[r3s];unfold t9f
 have e1:u4l (s, [],0)=_:=e1
 simp only[e1,zOb]
 exact⟨_,_,rfl,k1,r1,r2⟩
theorem r4b {l:List u14} (h:q9o l) {i:Nat} {v:u14} (hv:v.1.size≤100∧v.2.1.size≤100):q9o (l.set i v):=fun x hx=>by
 rcases List.mem_or_eq_of_mem_set hx with q | rfl
 ·exact h x q
 ·exact hv
theorem p5u {l:List u14} (h:q9o l) (i:Nat):(rdL u0c l i).1.size≤100∧(rdL u0c l i).2.1.size≤100:=by
 by_cases c:i<l.length
 ·rw[y8k (t:=u0c) c];exact h _ (List.getElem_mem c)
 ·have:rdL u0c l i=u0c.zero:=by unfold rdL;rw[List.getD_eq_getElem?_getD,List.getElem?_eq_none (by omega)];rfl
  rw[this]
  decide
theorem q3n (a b c:ByteArray) (i:Nat) (ha:a.size≤100) (hb:b.size≤100) (hc:c.size≤100):(rdL Ty.str [a,b,c] i).size≤100:=by
 match i with
 | 0=>exact ha
 | 1=>exact hb
 | 2=>exact hc
 | n+3=>exact r0t
theorem p01 {s:Src} (h:s.ok):Dr (s3l s) (fun y=>y.length≤100∧q9o y):=by
 obtain⟨y1,s1,e1,k1,r1⟩:=u2f h (n:=10) (by omega)
 obtain⟨y2,s2,e2,k2,r2⟩:=u2f k1 (n:=60) (by omega)
 obtain⟨l,s3,e3,k3,m1,m2⟩:=p6y k2
 rw[q44];unfold r24
 simp only[e1,e2,e3,zOb,List.length_nil,Nat.zero_add,List.nil_append,u04 (show l.length≤1099511627776 by omega),cond_true]
 by_cases hl:l.length=0
 ·have c0:decide ((l.length:Int) >0)=false:=decide_eq_false (by omega)
  simp only[c0,cond_false]
  exact⟨_,_,rfl,k3,m1,m2⟩
 ·have c0:decide ((l.length:Int) >0)=true:=decide_eq_true (by omega)
  have c1:decide ((l.length:Int)=0)=false:=decide_eq_false (by omega)
  have g4:=r9o r2.1 (n:=4) (by omega)
  have g3:=r9o r2.1 (n:=3) (by omega)
  have gl:=r9o r2.1 (n:=l.length) (by omega)
  have g4:y4q (Int.tmod y2 4) ([(0:Int),9999,10000,3] :List Int).length=true:=g4
  have g3:y4q (Int.tmod y2 3) ([(⟨#[]⟩:ByteArray),(⟨#[65]⟩:ByteArray),(⟨#[122]⟩:ByteArray)] :List ByteArray).length=true:=g3
  obtain⟨lt,q4,q5⟩:=p2m 13 97 (by omega)
  have q4:u8m (13,97)=some lt:=q4
  have hrd:=fun i=>p5u m2 i
  simp only[c0,c1,cond_true,Bool.not_false]
  cases decide (y1=0) with
  | true=>
   simp only[cond_true]
   rw[g4,gl]
   simp only[cond_true]
   exact⟨_,_,rfl,k3,by rw[List.length_set];exact m1,r4b m2 (hrd _)⟩
  | false=>
  simp only[cond_false]
  cases decide (y1=1) with
  | true=>
   simp only[cond_true]
   rw[g3,gl]
   simp only[cond_true]
   exact⟨_,_,rfl,k3,by rw[List.length_set];exact m1,r4b m2 ⟨q3n _ _ _ _ (by decide) (by decide) (by decide),(hrd _).2⟩⟩
  | false=>
  simp only[cond_false]
  cases decide (y1=2) with
  | true=>
   simp only[cond_true]
   rw[gl]
   simp only[cond_true]
   exact⟨_,_,rfl,k3,by rw[List.length_set];exact m1,r4b m2 (hrd _)⟩
  | false=>
  simp only[cond_false]
  cases decide (y1=3) with
  | true=>
   simp only[cond_true,q4,zOb]
   rw[gl]
   simp only[cond_true]
   exact⟨_,_,rfl,k3,by rw[List.length_set];exact m1,r4b m2 ⟨(hrd _).1,by show lt.size≤100;omega⟩⟩
  | false=>
   simp only[cond_false]
   exact⟨_,_,rfl,k3,m1,m2⟩
theorem q9s {s:Src} (h:s.ok):∃(b:u0i) (s' :Src),u8n s=some (b,s')∧s'.ok∧BaseR b∧b.2.2.2.1≤25∧b.2.2.2.2≤26∧DomB b:=by
 obtain⟨st,c1,e2,k2,r2⟩:=p2t 24 (by omega) h
 have e2:t52 (s,24)=some (st,c1):=e2
 have hn:=r2.num
 have e:((24+1:Nat):Int)=25:=rfl
 refine⟨st.1.1,c1,?_,k2,r2.eng.base,by have:=hn.1;omega,by have:=hn.2;omega,r2.dom.base⟩
 rw[q11];unfold r0d
 simp only[e2,zOb]
theorem p2b {s:Src} (h:s.ok):∃(b:u0i) (s' :Src),u8n s=some (b,s')∧s'.ok∧BaseR b∧b.2.2.2.1≤25∧b.2.2.2.2≤26:=by
 obtain⟨b,s',h1,h2,h3,h4,h5,_⟩:=q9s h
 exact⟨b,s',h1,h2,h3,h4,h5⟩
theorem q77 {l:List u0g} {t:u0g} {n:Nat} (h:∀x∈l,tinyT x) (ht:tinyT t):∀x∈l++ [t],tinyT x:=fun x hx=>by
 rcases List.mem_append.mp hx with q | q
 ·exact h x q
 ·rw[List.mem_singleton.mp q];exact ht
theorem p0s {s:Src} (h:s.ok):Dr (s3m s) (fun b=>tinyB b∧ -1000000≤b.2.2.2.1∧b.2.2.2.1≤100000):=by
 obtain⟨y1,s1,e1,k1,r1⟩:=u2f h (n:=14) (by omega)
 obtain⟨y2,s2,e2,k2,r2⟩:=u2f k1 (n:=60) (by omega)
 obtain⟨b,s3,e3,k3,hB,hc,hn⟩:=p2b k2
 have hT:=hB.tiny
 have hc0:=hB.cs
 have hp:=hB.plen
 have hr:=hB.rlen
 have e4:=t22 b hT.few
 have g4:=r9o r2.1 (n:=4) (by omega)
 have g4:y4q (Int.tmod y2 4) ([(0:Int),1,9999,10000] :List Int).length=true:=g4
 rw[q49];unfold r29
 simp only[e1,e2,e3,e4,zOb]
 have hbd: -1000000≤b.2.2.2.1∧b.2.2.2.1≤100000:=by omega
 cases decide (y1=0) with
 | true=>
  simp only[cond_true]
  rw[g4]
  refine⟨_,_,rfl,k3,⟨hT.vl,hT.vs,hT.pl,hT.ps,hT.rl,hT.rs⟩,?_⟩
  have hq:=s8s r2.1 (n:=4) (by omega)
  have:(Int.tmod y2 4).toNat=0∨(Int.tmod y2 4).toNat=1∨(Int.tmod y2 4).toNat=2∨(Int.tmod y2 4).toNat=3:=by omega
  show -1000000≤rdL (Ty.int .i64) _ _∧rdL (Ty.int .i64) _ _≤100000
  rcases this with q | q | q | q<;>rw[q] <;>decide
 | false=>
 simp only[cond_false]
 cases decide (y1=1) with
 | true=>exact⟨_,_,rfl,k3,⟨hT.vl,hT.vs,hT.pl,hT.ps,hT.rl,hT.rs⟩,hbd⟩
 | false=>
 simp only[cond_false]
 cases decide (y1=2) with
 | true=>
  obtain⟨t,s5,e5,k5,m5⟩:=q33 k3
  simp only[cond_true,e5,zOb,List.length_singleton,u04 (show b.2.1.length+1≤1099511627776 by omega)]
  exact⟨_,_,rfl,k5,⟨hT.vl,hT.vs,by show(b.2.1++ [t]).length≤1000;simp;omega,q77 (n:=0) hT.ps (m5.tiny (by omega)),hT.rl,hT.rs⟩,hbd⟩
 | false=>
 simp only[cond_false]
 cases decide (y1=3) with
 | true=>
  obtain⟨t,s5,e5,k5,m5⟩:=q33 k3
  simp only[cond_true,e5,zOb,List.length_singleton,u04 (show b.2.2.1.length+1≤1099511627776 by omega)]
  exact⟨_,_,rfl,k5,⟨hT.vl,hT.vs,hT.pl,hT.ps,by show(b.2.2.1++ [t]).length≤1000;simp;omega,q77 (n:=0) hT.rs (m5.tiny (by omega))⟩,hbd⟩
 | false=>
 simp only[cond_false]
 cases decide (y1=4) with
 | true=>
  obtain⟨l,s5,e5,k5,m5,m6⟩:=p01 k3
  simp only[cond_true,e5,zOb]
  exact⟨_,_,rfl,k5,⟨by show l.length≤10000;omega,m6,hT.pl,hT.ps,hT.rl,hT.rs⟩,hbd⟩
 | false=>exact⟨_,_,rfl,k3,hT,hbd⟩
theorem p8f {s:Src} (h:s.ok):Dr (t6v s) tinyR:=by
 obtain⟨y1,s1,e1,k1,r1⟩:=u2f h (n:=4) (by omega)
 rw[r7j];unfold s38
 simp only[e1,zOb]
 cases decide (IntKind.i64.wrap (1+y1)=1) with
 | true=>
  obtain⟨t,s2,e2,k2,m⟩:=p2s k1
  have hT:=m.tiny (by omega)
  simp only[cond_true,e2,zOb]
  exact⟨_,_,rfl,k2,⟨hT.like rfl rfl r0t,r0t,u42⟩⟩
 | false=>
 simp only[cond_false]
 cases decide (IntKind.i64.wrap (1+y1)=2) with
 | true=>
  obtain⟨t,s2,e2,k2,m⟩:=p2s k1
  have hT:=m.tiny (by omega)
  simp only[cond_true,e2,zOb]
  have hq:(⟨#[112]⟩:ByteArray).size≤100:=by decide
  exact⟨_,_,rfl,k2,⟨hT.like rfl rfl hq,r0t,u42⟩⟩
 | false=>
 simp only[cond_false]
 cases decide (IntKind.i64.wrap (1+y1)=3) with
 | true=>
  obtain⟨t,s2,e2,k2,m⟩:=s6a k1 (l:= [(⟨#[112]⟩:ByteArray),(⟨#[113]⟩:ByteArray)]) (by decide)
  obtain⟨y3,s3,e3,k3,_⟩:=s2y k2 (n:=2) (by omega)
  have hq:t.size≤100:=by
   simp only[List.mem_cons,List.not_mem_nil,or_false] at m
   rcases m with rfl | rfl<;>decide
  simp only[cond_true,e2,e3,zOb]
  exact⟨_,_,rfl,k3,⟨t01,hq,u42⟩⟩
 | false=>
  obtain⟨b,s2,e2,k2,hB,_⟩:=p2b k1
  simp only[cond_false,e2,zOb]
  exact⟨_,_,rfl,k2,⟨t01,r0t,hB.tiny⟩⟩
theorem p2q {s:Src} (h:s.ok):Dr (s3n s) tinyR:=by
 obtain⟨y1,s1,e1,k1,r1⟩:=u2f h (n:=10) (by omega)
 obtain⟨y2,s2,e2,k2,r2⟩:=u2f k1 (n:=60) (by omega)
 obtain⟨r,s3,e3,k3,hR⟩:=p8f k2
 have g3:=r9o r2.1 (n:=3) (by omega)
 have g3:y4q (Int.tmod y2 3) ([(⟨#[]⟩:ByteArray),(⟨#[65]⟩:ByteArray),(⟨#[112]⟩:ByteArray)] :List ByteArray).length=true:=g3
 rw[q5a];unfold r3a
 simp only[e1,e2,e3,zOb]
 cases decide (y1=0) with
 | true=>exact⟨_,_,rfl,k3,⟨hR.t,hR.n,hR.b⟩⟩
 | false=>
 simp only[cond_false]
 cases decide (y1=1) with
 | true=>
  simp only[cond_true]
  rw[g3]
  exact⟨_,_,rfl,k3,⟨hR.t,q3n _ _ _ _ (by decide) (by decide) (by decide),hR.b⟩⟩
 | false=>
 simp only[cond_false]
 cases decide (y1=2) with
 | true=>
  obtain⟨t,s5,e5,k5,m5⟩:=q33 k3
  simp only[cond_true,e5,zOb]
  exact⟨_,_,rfl,k5,⟨m5.tiny (by omega),hR.n,hR.b⟩⟩
 | false=>
 simp only[cond_false]
 cases decide (y1=3) with
 | true=>exact⟨_,_,rfl,k3,⟨hR.t,hR.n,hR.b⟩⟩
 | false=>exact⟨_,_,rfl,k3,hR⟩
end
section
theorem sr (t:ByteArray):z7o t t=true:=by simp[z7o]
theorem q0b (a:List WrT) (ha:a.length≤1048576):t4y (a,a)=some true:=by
 rw[r4y];unfold s06
 have L:=s02 u68 a (fun i=>(a,a,i)) (fun _=>false) (.inr false) (.inl ())
  (by rw[t8x];simp only[u62,u0b,Nat.lt_irrefl,decide_false,cond_false])
  (fun i hi=>by
   rw[t8x];simp only[u62,u0b,hi,decide_true,cond_true,y7t hi,zTn,y8k (t:=u12) hi,sr,beq_self_eq_true,Bool.and_true,Bool.not_true,cond_false]
   rw[y7l (by omega)])
 have hn:(a.any fun _=>false)=false:=by simp
 rw[hn] at L
 simp only[decide_true,Bool.not_true,cond_false,L,zOb]
theorem r5j (a:List u14) (ha:a.length≤1048576):t20 (a,a)=some true:=by
 rw[r1n];unfold t7t
 have L:=s02 u5p a (fun i=>(a,a,i)) (fun _=>false) (.inr false) (.inl ())
  (by rw[t6f];simp only[u5m,u0b,Nat.lt_irrefl,decide_false,cond_false])
  (fun i hi=>by
   rw[t6f];simp only[u5m,u0b,hi,decide_true,cond_true,y7t hi,zTn,y8k (t:=u0c) hi,sr,beq_self_eq_true,Bool.and_true,Bool.not_true,cond_false]
   rw[y7l (by omega)])
 have hn:(a.any fun _=>false)=false:=by simp
 rw[hn] at L
 simp only[decide_true,Bool.not_true,cond_false,L,zOb]
theorem q73 (t:u0g) (h:r4l t):s0n (t,t)=some true:=by
 have h1:=h.1
 have L:=s02 u7w t.2.2.2.2.1 (fun i=>(t,t,i)) (fun _=>false) (.inr false) (.inl ())
  (by rw[s5h];simp only[t1t,u0b,Nat.lt_irrefl,decide_false,cond_false])
  (fun i hi=>by
   rw[s5h];simp only[t1t,u0b,hi,decide_true,cond_true,y7t hi,zTn,y8k (t:=u9o) hi,sr,Bool.and_true,Bool.not_true,cond_false]
   rw[y7l (by omega)])
 have hn:(t.2.2.2.2.1.any fun _=>false)=false:=by simp
 rw[hn] at L
 have L:u7w (t,t,0)=_:=L
 rw[q09];unfold s9j
 simp only[decide_true,Bool.not_true,cond_false,beq_self_eq_true,sr,q0b _ h.2,L,zOb]
theorem r38 (a:List u0g) (h:q7a a):t39 (a,a)=some true:=by
 have h1:=h.1
 rw[r8y];unfold s6p
 have L:=s02 t0n a (fun i=>(a,a,i)) (fun _=>false) (.inr false) (.inl ())
  (by rw[s2h];simp only[u95,u0b,Nat.lt_irrefl,decide_false,cond_false])
  (fun i hi=>by
   rw[s2h];simp only[u95,u0b,hi,decide_true,cond_true,y7t hi,zTn,y8k (t:=u1f) hi,q73 _ (h.2 _ (List.getElem_mem hi)),zOb,Bool.not_true,cond_false]
   rw[y7l (by omega)])
 have hn:(a.any fun _=>false)=false:=by simp
 rw[hn] at L
 simp only[decide_true,Bool.not_true,cond_false,L,zOb]
theorem r37 (b:u0i) (h:tinyB b):t38 (b,b)=some true:=by
 have hf:=h.few
 rw[r8x];unfold s6o
 simp only[r5j b.1 (by have:=h.vl;omega),r38 _ hf.2.1,r38 _ hf.2.2,zOb,cond_true,decide_true]
end
section
theorem q3v {l:List Int} (hl:l.length≤1048576):∃(b:u0i) (r:t89),t4z l=some (b,r)∧tinyB b∧tinyR r:=by
 obtain⟨c0,z1,z2⟩:=p6a hl
 obtain⟨y,c1,e1,k1,r1⟩:=u2f z2 (n:=4) (by omega)
 obtain⟨r,c2,e2,k2,hR⟩:=p2q k1
 obtain⟨b,c3,e3,k3,hB,_⟩:=p0s k2
 have hT:=fun(u:u0g) h1 h2 h3=>hR.t.like (u:=u) h1 h2 h3
 have hn:=hR.t.nm
 rw[r4z];unfold s07
 simp only[z1,e1,e2,e3,zOb]
 cases decide (y >0)
 ·simp only[cond_false,zOb]
  exact⟨_,_,rfl,hB,hR⟩
 ·cases decide (r.1=1)<;>cases decide (r.1=2)<;>simp only[cond_true,cond_false,zOb]
  ·exact⟨_,_,rfl,hB,hR⟩
  ·exact⟨_,_,rfl,hB,⟨hT _ rfl rfl hn,hR.n,hR.b⟩⟩
  ·exact⟨_,_,rfl,hB,⟨hT _ rfl rfl hn,hR.n,hR.b⟩⟩
  ·exact⟨_,_,rfl,hB,⟨hT _ rfl rfl hn,hR.n,hR.b⟩⟩
def r7m (b:u0i) (ws:List WrT):u0g:=(b.2.2.2.2,(3:Int),b.2.2.2.1,b.2.2.2.1+1, [],ws,false,emp)
theorem p6h {b:u0i} (hb:BaseR b) (hc:b.2.2.2.1<9999) {ws:List WrT} (hw:u2i ws=true):TxnR (r7m b ws) where
 id:=hb.next
 st:=by show(1:Int)≤3∧(3:Int)≤3;decide
 snap:=hb.cs
 rlen:=by show(0:Nat)≤8;decide
 ws:=hw
 rs:=fun r hr=>by cases hr
 done:=fun _=>⟨Int.le_refl _,by show b.2.2.2.1+1≤9999;omega⟩
 nocs:=fun h=>absurd rfl h
 name:=fun h=>absurd h (by show ¬((3:Int)=2);decide)
 noname:=fun _=>by show emp.size=0;decide
 out:=fun h=>absurd h (by show ¬((3:Int)=1);decide)
theorem q79 {b:u0i} (hb:BaseR b) (hD:DomB b) (hc:b.2.2.2.1<9999) (hn:b.2.2.2.2<9999) {ws:List WrT} (hw:u2i ws=true):BaseR (u1t (u0m b (r7m b ws)) []):=by
 have h1:=t00 hb []
 have et:=t3h (x:=b) fun t ht=>(hb.past t ht).2.2
 have hf:=p5v hb.asc hb.vcs hD.vs
 have hR:=p6h hb hc hw
 have hT:BaseR (u0m (u1t b []) (r7m b ws)):=by
  refine q0i h1 hR ?_ ?_ ?_ ?_ ?_ hn
  ·rw[et];exact Int.le_refl _
  ·rw[et];exact hc
  ·rw[et];show(0:Nat)<12;decide
  ·rw[et];show(u1k b.1 b.2.2.2.1).length≤112;omega
  ·intro x hx;rw[et] at hx;cases hx
 have hT2:=t00 hT []
 have e1:=t3h (x:=u0m (u1t b []) (r7m b ws)) fun t ht=>(hT.past t ht).2.2
 have e2:=t3h (x:=u0m b (r7m b ws)) fun t ht=>by
  have ht:t∈b.2.1++ [u7c b (r7m b ws)] :=ht
  show t.2.2.2.1≤b.2.2.2.1+1
  rcases List.mem_append.mp ht with q | q
  ·have:=(hb.past t q).2.2;omega
  ·rw[List.mem_singleton.mp q];exact Int.le_refl _
 have hv:u1k (u0m (u1t b []) (r7m b ws)).1 (u0m (u1t b []) (r7m b ws)).2.2.2.1=u1k (u0m b (r7m b ws)).1 (u0m b (r7m b ws)).2.2.2.1:=by
  rw[et]
  show u1k (t1d (u1k b.1 b.2.2.2.1) ws (b.2.2.2.1+1)) (b.2.2.2.1+1)=u1k (t1d b.1 ws (b.2.2.2.1+1)) (b.2.2.2.1+1)
  exact p0n hb.asc (q0n hw) fun x hx=>by have:=hb.vcs x hx;show x.2.2.2<b.2.2.2.1+1;omega
 have hr:(u0m (u1t b []) (r7m b ws)).2.2=(u0m b (r7m b ws)).2.2:=by
  rw[et]
  show((b.2.2.1.filter fun x=> !decide (x.1=b.2.2.2.2)).map (r1p (u7c (u1k b.1 b.2.2.2.1, [],b.2.2) (r7m b ws))),b.2.2.2.1+1,u1a b.2.2.2.2 b.2.2.2.2)=((b.2.2.1.filter fun x=> !decide (x.1=b.2.2.2.2)).map (r1p (u7c b (r7m b ws))),b.2.2.2.1+1,u1a b.2.2.2.2 b.2.2.2.2)
  congr 1
 rw[e1,hv,hr] at hT2
 rw[e2]
 exact hT2
theorem q7l (x:List Int) (hx:(Ty.sl (.int .u8)).fine x):s70 x=some true:=by
 rw[r8w];unfold s6n
 rw[p08];unfold q2v
 simp only[zOb]
 by_cases hb:(x.length:Int) >1048576
 ·simp only[hb,decide_true,cond_true]
 simp only[hb,decide_false,cond_false]
 obtain⟨b,r,d1,hB,hR⟩:=q3v (l:=x) (by omega)
 have p1:=r76 b r hB hR
 have p2:=r77 b r hB hR
 obtain⟨c0,z1,z2⟩:=p6a (l:=x) (by omega)
 obtain⟨B,c1,e1,k1,hBR,hcs,hnx,hDom⟩:=q9s z2
 have d2:t8f x=some B:=by
  rw[r81];unfold s6s
  simp only[z1,e1,zOb]
 obtain⟨ws,c2,e2,k2,hw,hk⟩:=q2u z2
 have d3:t40 x=some ws:=by
  rw[r40];unfold s08
  simp only[z1,e2,zOb]
 have w1:IntKind.i64.wrap (B.2.2.2.1+(1:Int))=B.2.2.2.1+1:=t54 (r5e hBR.cs)
 have hone:=p6h hBR (by omega) hw
 have hrec:RecR (1,r7m B ws,emp,false,u2s):= .thr _ hone rfl
 have p3:=r76 B (1,r7m B ws,emp,false,u2s) hBR.tiny hrec.tiny
 have hz:=q79 hBR hDom (by omega) (by omega) hw
 have hP:t6l B (1,r7m B ws,emp,false,u2s)=(u1t (u0m B (r7m B ws)) [],true):=by
  unfold t6l u4s
  rw[if_pos ⟨q21.mpr hBR,p6k.mpr hrec⟩]
  have:u1h B (1,r7m B ws,emp,false,u2s)=some (u0m B (r7m B ws)):=by
   unfold u1h
   rw[if_pos rfl]
   exact if_pos (show B.2.2.2.1+1=B.2.2.2.1+1 from rfl)
  rw[this]
  simp only
  rw[if_pos (q21.mpr hz)]
 rw[hP] at p3
 have p3:t34 (B,1,(B.2.2.2.2,3,B.2.2.2.1,B.2.2.2.1+1, [],ws,false,(⟨#[]⟩:ByteArray)),(⟨#[]⟩:ByteArray),false, [], [], [],0,0)=_:=p3
 have hzt:=hz.tiny
 have p4:=t2u (u1t (u0m B (r7m B ws)) []) (by have:=hzt.wt;unfold u0p;omega)
 rw[q21.mpr hz] at p4
 have hpast:decide (((u1t (u0m B (r7m B ws)) []).2.1.length:Int)=0)=true:=by
  have e2:=t3h (x:=u0m B (r7m B ws)) fun t ht=>by
   have ht:t∈B.2.1++ [u7c B (r7m B ws)] :=ht
   show t.2.2.2.1≤B.2.2.2.1+1
   rcases List.mem_append.mp ht with q | q
   ·have:=(hBR.past t q).2.2;omega
   ·rw[List.mem_singleton.mp q];exact Int.le_refl _
  rw[e2];rfl
 have hcc:(u1t (u0m B (r7m B ws)) []).2.2.2.1=B.2.2.2.1+1:=rfl
 have hpl:tinyB (t6l b r).1:=by
  unfold t6l
  cases hq:u4s b r with
  | none=>exact hB
  | some y=>
   exact(q5j hq).1.tiny
 have s1:=r37 _ hpl
 simp only[d1,p1,p2,d2,d3,w1,p3,p4,hpast,hcc,s1,beq_self_eq_true,decide_true,Bool.not_true,cond_false,cond_true,zOb]
 cases hq:(t6l b r).2 with
 | true=>simp only[cond_true,zOb]
 | false=>
  have e:(t6l b r).1=b:=by
   unfold t6l at hq ⊢
   cases hp:u4s b r with
   | none=>rfl
   | some y=>rw[hp] at hq;cases hq
  have s2:=r37 b hB
  simp only[cond_false,e,s2,zOb,cond_true]
end
end
end Go.Proofs.YtbkicjpdlchbgaaGreat.Ab
