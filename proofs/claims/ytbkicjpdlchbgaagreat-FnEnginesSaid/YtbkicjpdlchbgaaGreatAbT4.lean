import Derived.Test.YtbkicjpdlchbgaaGreatAbT3
import Derived.Test.YtbkicjpdlchbgaaGreatAbK2
import Derived.Test.YtbkicjpdlchbgaaGreatAbF4
import Derived.Test.YtbkicjpdlchbgaaGreatAbS2
namespace Go.Proofs.YtbkicjpdlchbgaaGreat.Ab
open Go
set_option linter.unusedVariables false
set_option linter.unusedSimpArgs false
set_option linter.unnecessarySimpa false
section
section
def K5:List ByteArray:= [⟨#[97]⟩,⟨#[98]⟩,⟨#[99]⟩,⟨#[100]⟩,⟨#[97,98]⟩]
structure DomT (t:u0f):Prop where
  ws:∀w∈t.2.2.2.2.2.1,w.1∈K5
  rs:∀r∈t.2.2.2.2.1,r.1∈K5∧r.2∈K5
structure DomB (b:u0i):Prop where
  vs:∀v∈b.1,v.1∈K5
  ready:∀t∈b.2.2.1,DomT t
structure DomE (e:u1p):Prop where
  base:DomB e.1
  open_:∀t∈e.2,DomT t
theorem DomB.tidy {b:u0i} (h:DomB b) (o:List u0f):DomB (u25 b o):=⟨fun v hv=>h.vs v ((u6u _ _).subset hv),h.ready⟩
theorem DomB.through {b:u0i} {t:u0f} (h:DomB b) (ht:DomT t):DomB (u1b b t):=by
  refine ⟨fun v hv=> ?_,fun x hx=> ?_⟩
  · rcases (t5f _ _ _).mp hv with hv | ⟨w,hw,rfl⟩
    · exact h.vs v hv
    · exact ht.ws w hw
  · obtain ⟨q,hq,rfl⟩:=List.mem_map.mp hx
    have:=h.ready q (List.mem_filter.mp hq).1
    exact ⟨this.ws,this.rs⟩
theorem DomB.made {b:u0i} {t:u0f} {n:ByteArray} (h:DomB b) (ht:DomT t):DomB (u1i b t n):=by
  refine ⟨h.vs,fun x hx=> ?_⟩
  rcases List.mem_append.mp hx with hx | hx
  · rcases List.mem_append.mp hx with hx | hx
    · exact h.ready x (List.mem_filter.mp hx).1
    · rw [List.mem_singleton] at hx; subst hx; exact ⟨ht.ws,ht.rs⟩
  · exact h.ready x (List.mem_filter.mp hx).1
theorem DomB.given {b:u0i} (h:DomB b) (n:ByteArray):DomB (t81 b n):=⟨h.vs,fun x hx=>h.ready x (List.mem_filter.mp hx).1⟩
theorem DomE.rest {e:u1p} (h:DomE e) (id:Int):∀t∈u6f e id,DomT t:=fun t ht=>h.open_ t ((u5i e id).subset ht)
theorem DomE.leave {e:u1p} (h:DomE e) (id:Int):DomE (t2i e id):=⟨h.base.tidy _,h.rest id⟩
theorem DomE.begin {e:u1p} (h:DomE e):DomE (t2g e).1:=by
  unfold t2g
  split
  · refine ⟨⟨h.base.vs,h.base.ready⟩,fun t ht=> ?_⟩
    rcases List.mem_append.mp ht with ht | ht
    · exact h.open_ t ht
    · rw [List.mem_singleton] at ht; subst ht
      exact ⟨fun w hw=>(by cases hw),fun r hr=>(by cases hr)⟩
  · exact h
theorem DomE.commit {e:u1p} (h:DomE e) (id:Int):DomE (u30 e id).1:=by
  unfold u30
  split
  · exact h
  · split
    · rename_i _ q
      obtain ⟨k,hk,e1,e2,e3⟩:=u07 (r3a q).1
      rw [e2]
      exact ⟨(h.base.through (h.open_ _ (List.getElem_mem hk))).tidy _,h.rest _⟩
    · exact h.leave id
theorem DomE.prep {e:u1p} (h:DomE e) (id:Int) (n:ByteArray):DomE (t5q e id n).1:=by
  unfold t5q
  split
  · exact h
  · rename_i q
    split
    · exact h
    · split
      · exact h
      · split
        · obtain ⟨k,hk,e1,e2,e3⟩:=u07 q
          rw [e2]
          exact ⟨(h.base.made (h.open_ _ (List.getElem_mem hk))).tidy _,h.rest _⟩
        · exact h.leave id
theorem DomE.fin {e:u1p} (h:DomE e) (n:ByteArray) (y:Bool):DomE (r28 e n y).1:=by
  unfold r28
  split
  · exact h
  · rename_i q
    split
    · exact h
    · split
      · obtain ⟨k,hk,r1,r2⟩:=t39 q
        rw [r1,zTn,y8k (t:=u0z) hk]
        exact ⟨(h.base.through (h.base.ready _ (List.getElem_mem hk))).tidy _,h.open_⟩
      · exact ⟨(h.base.given n).tidy _,h.open_⟩
theorem DomE.look {e:u1p} (h:DomE e) {id:Int} {r:t3u} {right:Bool} (hr:r.1∈K5∧r.2∈K5):DomE (u99 e id r right).1:=by
  unfold u99
  split
  · exact h
  · rename_i q
    split
    · exact h
    · split
      · obtain ⟨k,hk,e1,e2,e3⟩:=u07 q
        rw [e2]
        have ho:=h.open_ _ (List.getElem_mem hk)
        refine ⟨h.base,fun t ht=> ?_⟩
        rcases q3v ht with ht | rfl
        · exact h.open_ t ht
        · unfold t05
          split
          · exact ho
          · split
            · refine ⟨ho.ws,fun x hx=> ?_⟩
              rcases List.mem_append.mp hx with hx | hx
              · exact ho.rs x hx
              · rw [List.mem_singleton] at hx; subst hx; exact hr
            · exact ho
      · exact h
theorem DomE.put {e:u1p} (h:DomE e) {id:Int} {w:WrT} (hw:w.1∈K5):DomE (q3q e id w).1:=by
  unfold q3q
  split
  · exact h
  · rename_i q
    split
    · exact h
    · split
      · obtain ⟨k,hk,e1,e2,e3⟩:=u07 q
        rw [e2]
        have ho:=h.open_ _ (List.getElem_mem hk)
        refine ⟨h.base,fun t ht=> ?_⟩
        rcases q3v ht with ht | rfl
        · exact h.open_ t ht
        · unfold t3y
          split
          · refine ⟨fun x hx=> ?_,ho.rs⟩
            rcases q3r hx with hx | rfl
            · exact ho.ws x hx
            · exact hw
          · exact ho
      · exact h
def Num (k:Nat) (e:u1p):Prop:=e.1.2.2.2.1≤(k:Int)∧e.1.2.2.2.2≤(k:Int)+1
theorem Num.mono {k m:Nat} {e:u1p} (h:Num k e) (hk:k≤m):Num m e:=⟨by have:=h.1; omega,by have:=h.2; omega⟩
theorem r3e {e:u1p} (h:EngR e) {t:u0f} (ht:t∈e.2∨t∈e.1.2.2.1):u09 e.1.2.2.2.2 t.1=e.1.2.2.2.2:=by
  refine q5v ?_
  rcases ht with ht | ht
  · exact h.bel t (List.mem_append_right _ ht)
  · exact h.bel t (List.mem_append_left _ (List.mem_append_right _ ht))
theorem Num.begin {k:Nat} {e:u1p} (h:Num k e):Num (k+1) (t2g e).1:=by
  unfold t2g
  split
  · exact ⟨by show e.1.2.2.2.1≤_; have:=h.1; omega,by show e.1.2.2.2.2+1≤_; have:=h.2; omega⟩
  · exact h.mono (by omega)
theorem Num.commit {k:Nat} {e:u1p} (hE:EngR e) (h:Num k e) (id:Int):Num (k+1) (u30 e id).1:=by
  unfold u30
  split
  · exact h.mono (by omega)
  · split
    · rename_i _ q
      obtain ⟨j,hj,e1,e2,e3⟩:=u07 (r3a q).1
      refine ⟨by show e.1.2.2.2.1+1≤_; have:=h.1; omega,?_⟩
      show u09 e.1.2.2.2.2 (u10 e id).1≤_
      rw [e2,r3e hE (.inl (List.getElem_mem hj))]
      have:=h.2; omega
    · exact h.mono (by omega)
theorem Num.prep {k:Nat} {e:u1p} (hE:EngR e) (h:Num k e) (id:Int) (n:ByteArray):Num (k+1) (t5q e id n).1:=by
  unfold t5q
  split
  · exact h.mono (by omega)
  · rename_i q
    split
    · exact h.mono (by omega)
    · split
      · exact h.mono (by omega)
      · split
        · obtain ⟨j,hj,e1,e2,e3⟩:=u07 q
          refine ⟨by show e.1.2.2.2.1≤_; have:=h.1; omega,?_⟩
          show u09 e.1.2.2.2.2 (u10 e id).1≤_
          rw [e2,r3e hE (.inl (List.getElem_mem hj))]
          have:=h.2; omega
        · exact h.mono (by omega)
theorem Num.fin {k:Nat} {e:u1p} (hE:EngR e) (h:Num k e) (n:ByteArray) (y:Bool):Num (k+1) (r28 e n y).1:=by
  unfold r28
  split
  · exact h.mono (by omega)
  · rename_i q
    split
    · exact h.mono (by omega)
    · split
      · obtain ⟨j,hj,r1,r2⟩:=t39 q
        rw [r1,zTn,y8k (t:=u0z) hj]
        refine ⟨by show e.1.2.2.2.1+1≤_; have:=h.1; omega,?_⟩
        show u09 e.1.2.2.2.2 e.1.2.2.1[j].1≤_
        rw [r3e hE (.inr (List.getElem_mem hj))]
        have:=h.2; omega
      · exact h.mono (by omega)
theorem Num.look {k:Nat} {e:u1p} (h:Num k e) {id:Int} {r:t3u} {right:Bool} :Num k (u99 e id r right).1:=by
  unfold u99
  split
  · exact h
  · split
    · exact h
    · split<;>exact h
theorem Num.put {k:Nat} {e:u1p} (h:Num k e) {id:Int} {w:WrT} :Num k (q3q e id w).1:=by
  unfold q3q
  split
  · exact h
  · split
    · exact h
    · split<;>exact h
structure Stt (k:Nat) (s:u1m):Prop where
  sync:∃b,Sync s b∧b.2.2.2.2≤(k:Int)+1
  dom:DomE s.1
  num:Num k s.1
theorem Stt.eng {k:Nat} {s:u1m} (h:Stt k s):EngR s.1:=by obtain ⟨b,h1,_⟩:=h.sync; exact h1.eng
theorem s90 {b x:u0i} {r:s1e} (h:u6c b r=some x):∃y,u15 b r=some y∧x=u25 y [] :=by
  unfold u6c at h
  split at h
  · cases q:u15 b r with
    | none=>rw [q] at h; cases h
    | some y=>
      rw [q] at h
      simp only at h
      split at h
      · exact ⟨y,rfl,(Option.some.inj h).symm⟩
      · cases h
  · cases h
theorem q7r {n i m:Int} (h1:n≤m) (h2:i<m):u09 n i≤m:=by unfold u09; split<;>omega
theorem Stt.commit {k:Nat} {s:u1m} (h:Stt k s) (id:Int):Stt (k+1) (t3q s id).1:=by
  obtain ⟨b,hs,hb⟩:=h.sync
  obtain ⟨b',hs',hd⟩:=hs.commit id
  have hE:=hs.eng
  have h1:=h.num.commit hE id
  have hl:=h.dom.leave id
  refine ⟨⟨b',hs',?_⟩,?_,?_⟩
  · rcases hd with rfl | ⟨_,j0,hp⟩
    · omega
    · obtain ⟨y,hy,rfl⟩:=s90 hp
      unfold u15 at hy
      rw [if_pos rfl] at hy
      split at hy
      · cases hy
        show u09 b.2.2.2.2 (u10 s.1 id).1≤_
        obtain ⟨j,hj,e1,e2,e3⟩:=u07 (r3a j0).1
        have:=hE.bel _ (List.mem_append_right _ (List.getElem_mem hj))
        rw [e2]
        have:=h.num.2
        exact q7r (by omega) (by omega)
      · cases hy
  · have h2:=h.dom.commit id
    unfold t3q
    split
    · split
      · exact h2
      · exact hl
    · exact h2
  · unfold t3q
    split
    · split
      · exact h1
      · exact h.num.mono (by omega)
    · exact h1
theorem Stt.prep {k:Nat} {s:u1m} (h:Stt k s) (id:Int) (n:ByteArray):Stt (k+1) (s6k s id n).1:=by
  obtain ⟨b,hs,hb⟩:=h.sync
  obtain ⟨b',hs',hd⟩:=hs.prep id n
  have hE:=hs.eng
  have h1:=h.num.prep hE id n
  have hl:=h.dom.leave id
  refine ⟨⟨b',hs',?_⟩,?_,?_⟩
  · rcases hd with rfl | ⟨_,j0,hp⟩
    · omega
    · obtain ⟨y,hy,rfl⟩:=s90 hp
      unfold u15 at hy
      simp only at hy
      rw [if_neg (by decide),if_pos trivial] at hy
      split at hy
      · cases hy
        show u09 b.2.2.2.2 (u10 s.1 id).1≤_
        obtain ⟨j,hj,e1,e2,e3⟩:=u07 (p2g j0).1
        have:=hE.bel _ (List.mem_append_right _ (List.getElem_mem hj))
        rw [e2]
        have:=h.num.2
        exact q7r (by omega) (by omega)
      · cases hy
  · have h2:=h.dom.prep id n
    unfold s6k
    split
    · split
      · exact h2
      · exact hl
    · exact h2
  · unfold s6k
    split
    · split
      · exact h1
      · exact h.num.mono (by omega)
    · exact h1
theorem Stt.fin {k:Nat} {s:u1m} (h:Stt k s) (n:ByteArray) (y:Bool):Stt (k+1) (r8c s n y).1:=by
  obtain ⟨b,hs,hb⟩:=h.sync
  obtain ⟨b',hs',hd⟩:=hs.fin n y
  have hE:=hs.eng
  have h1:=h.num.fin hE n y
  refine ⟨⟨b',hs',?_⟩,?_,?_⟩
  · rcases hd with rfl | ⟨_,j0,hp⟩
    · omega
    · obtain ⟨z,hz,rfl⟩:=s90 hp
      unfold u15 at hz
      simp only at hz
      rw [if_neg (by decide),if_neg (by decide),if_pos trivial] at hz
      split at hz
      · cases hz
      · rename_i q
        obtain ⟨j,hj,r1,r2⟩:=t39 q
        split at hz
        · cases hz
          show u09 b.2.2.2.2 (rdL u0z b.2.2.1 (u08 b n).toNat).1≤_
          rw [r1,zTn,y8k (t:=u0z) hj]
          have:b.2.2.1[j] ∈s.1.1.2.2.1:=by rw [←hs.like.ready]; exact List.getElem_mem hj
          have:=hE.bel _ (List.mem_append_left _ (List.mem_append_right _ this))
          have:=h.num.2
          exact q7r (by omega) (by omega)
        · cases hz
          show b.2.2.2.2≤_
          omega
  · have h2:=h.dom.fin n y
    unfold r8c
    split
    · split
      · exact h2
      · exact h.dom
    · exact h.dom
  · unfold r8c
    split
    · split
      · exact h1
      · exact h.num.mono (by omega)
    · exact h.num.mono (by omega)
theorem Stt.fix {k:Nat} {s:u1m} (h:Stt k s):Stt (k+1) (p3l s).1:=by
  obtain ⟨b,hs,hb⟩:=h.sync
  refine ⟨⟨b,hs.fix,by omega⟩,?_,?_⟩
  · unfold p3l; split<;>exact h.dom
  · unfold p3l; split<;>exact h.num.mono (by omega)
theorem Stt.leave {k:Nat} {s:u1m} (h:Stt k s) (id:Int):Stt (k+1) ((s59 s.1 id).1,s.2):=by
  obtain ⟨b,hs,hb⟩:=h.sync
  unfold s59
  split
  · exact ⟨⟨b,hs,by omega⟩,h.dom,h.num.mono (by omega)⟩
  · exact ⟨⟨b,hs.leave id,by omega⟩,h.dom.leave id,h.num.mono (by omega)⟩
theorem Stt.begin {k:Nat} {s:u1m} (h:Stt k s):Stt (k+1) ((t2g s.1).1,s.2):=by
  obtain ⟨b,hs,hb⟩:=h.sync
  refine ⟨⟨b,hs.opens (q2e hs.eng) ?_ ?_ ?_,by omega⟩,h.dom.begin,h.num.begin⟩<;>(unfold t2g; split<;>rfl)
theorem Stt.look {k:Nat} {s:u1m} (h:Stt k s) {id:Int} {r:t3u} {right:Bool} (hr:right=true→u1f r=true) (hk:r.1∈K5∧r.2∈K5):Stt (k+1) ((u99 s.1 id r right).1,s.2):=by
  obtain ⟨b,hs,hb⟩:=h.sync
  have e:(u99 s.1 id r right).1.1=s.1.1:=by
    unfold u99
    split
    · rfl
    · split
      · rfl
      · split<;>rfl
  exact ⟨⟨b,hs.opens (p17 hs.eng hr) (by rw [e]) (by rw [e]) (by rw [e]),by omega⟩,h.dom.look hk,h.num.look.mono (by omega)⟩
theorem Stt.put {k:Nat} {s:u1m} (h:Stt k s) {id:Int} {w:WrT} (hk:w.1∈K5):Stt (k+1) ((q3q s.1 id w).1,s.2):=by
  obtain ⟨b,hs,hb⟩:=h.sync
  have e:(q3q s.1 id w).1.1=s.1.1:=by
    unfold q3q
    split
    · rfl
    · split
      · rfl
      · split<;>rfl
  exact ⟨⟨b,hs.opens (p7o hs.eng) (by rw [e]) (by rw [e]) (by rw [e]),by omega⟩,h.dom.put hk,h.num.put.mono (by omega)⟩
end
section
structure tinyT (t:u0f):Prop where
  rl:t.2.2.2.2.1.length≤100
  rs:∀r∈t.2.2.2.2.1,r.1.size≤100∧r.2.size≤100
  wl:t.2.2.2.2.2.1.length≤100
  ws:∀w∈t.2.2.2.2.2.1,w.1.size≤100∧w.2.1.size≤100
  nm:t.2.2.2.2.2.2.2.size≤100
structure tinyB (b:u0i):Prop where
  vl:b.1.length≤10000
  vs:∀v∈b.1,v.1.size≤100∧v.2.1.size≤100
  pl:b.2.1.length≤1000
  ps:∀t∈b.2.1,tinyT t
  rl:b.2.2.1.length≤1000
  rs:∀t∈b.2.2.1,tinyT t
theorem s0r {α:Type} {f:α→Nat} {k:Nat} :∀ {l:List α},(∀x∈l,f x≤k)→(l.map f).sum≤l.length*k
  | [],_=>by simp
  | x::l,h=>by
    rw [List.map_cons,List.sum_cons,List.length_cons,Nat.succ_mul]
    have h1:=h x (by simp)
    have h2:=s0r (l:=l) (fun y hy=>h y (by simp [hy]))
    omega
theorem tinyT.wt {t:u0f} (h:tinyT t):u0z.wt t≤50000:=by
  have e1:(Ty.sl u8d).wt t.2.2.2.2.1=t.2.2.2.2.1.length+(t.2.2.2.2.1.map u8d.wt).sum:=rfl
  have e2:(Ty.sl u1n).wt t.2.2.2.2.2.1=t.2.2.2.2.2.1.length+(t.2.2.2.2.2.1.map u1n.wt).sum:=rfl
  have s1:(t.2.2.2.2.1.map u8d.wt).sum≤t.2.2.2.2.1.length*200:=s0r fun r hr=>by
    have:=h.rs r hr
    have e:u8d.wt r=r.1.size+r.2.size:=rfl
    omega
  have s2:(t.2.2.2.2.2.1.map u1n.wt).sum≤t.2.2.2.2.2.1.length*200:=s0r fun w hw=>by
    have:=h.ws w hw
    have e:u1n.wt w=w.1.size+(w.2.1.size+0):=rfl
    omega
  have:=h.rl; have:=h.wl; have:=h.nm
  rw [q6i,e1,e2]
  omega
theorem tinyT.few {t:u0f} (h:tinyT t):r7j t:=⟨by have:=h.rl; omega,by have:=h.wl; omega⟩
theorem TxnR.tiny {t:u0f} (h:TxnR t):tinyT t:=by
  obtain ⟨z1,z2,z3,z4,z5⟩:=h.small
  exact ⟨by have:=h.rlen; omega,fun r hr=>by have:=z1 r hr; omega,by omega,fun w hw=>by have:=z2 w hw; omega,by omega⟩
theorem tinyT.like {t u:u0f} (h:tinyT t) (e1:u.2.2.2.2.1=t.2.2.2.2.1) (e2:u.2.2.2.2.2.1=t.2.2.2.2.2.1) (e3:u.2.2.2.2.2.2.2.size≤100):tinyT u:=
  ⟨by rw [e1]; exact h.rl,by rw [e1]; exact h.rs,by rw [e2]; exact h.wl,by rw [e2]; exact h.ws,e3⟩
theorem r2b {l:List u0f} (hl:l.length≤1000) (h:∀t∈l,tinyT t):(Ty.sl u0z).wt l≤60000000:=by
  have e:(Ty.sl u0z).wt l=l.length+(l.map u0z.wt).sum:=rfl
  have s:(l.map u0z.wt).sum≤l.length*50000:=s0r fun t ht=>(h t ht).wt
  rw [e]; omega
theorem tinyB.wt {b:u0i} (h:tinyB b):p6z.wt b≤200000000:=by
  have e:(Ty.sl u0d).wt b.1=b.1.length+(b.1.map u0d.wt).sum:=rfl
  have s:(b.1.map u0d.wt).sum≤b.1.length*200:=s0r fun v hv=>by
    have:=h.vs v hv
    have e:u0d.wt v=v.1.size+(v.2.1.size+(0+0)):=rfl
    omega
  have h1:=r2b h.pl h.ps
  have h2:=r2b h.rl h.rs
  have:=h.vl
  rw [s9s,e]; omega
theorem r2a {l:List u0f} (hl:l.length≤1000) (h:∀t∈l,tinyT t):q8l l:=⟨by omega,fun t ht=>(h t ht).few⟩
theorem tinyB.few {b:u0i} (h:tinyB b):fewB b:=⟨by have:=h.vl; omega,r2a h.pl h.ps,r2a h.rl h.rs⟩
theorem BaseR.tiny {b:u0i} (h:BaseR b):tinyB b:=by
  obtain ⟨w1,w2,w3⟩:=p28.mp h.vs
  exact ⟨by omega,fun v hv=>by have:=s16 (w1 v hv); omega,by have:=h.plen; omega,fun t ht=>(h.past t ht).1.tiny,by have:=h.rlen; omega,fun t ht=>(h.ready t ht).1.tiny⟩
theorem q77 {b:u0i} (h:tinyB b) (o:List u0f):tinyB (u25 b o):=
  ⟨Nat.le_trans (q79 _ _) h.vl,fun v hv=>h.vs v ((u6u _ _).subset hv),Nat.le_trans (t28 _ _) h.pl,fun t ht=>h.ps t (List.mem_filter.mp ht).1,h.rl,h.rs⟩
theorem s6m {b:u0i} {t:u0f} (h:BaseR b) (ht:tinyT t):tinyB (u1b b t):=by
  obtain ⟨w1,w2,w3⟩:=p28.mp h.vs
  have hb:=h.tiny
  refine ⟨?_,fun v hv=> ?_,?_,fun x hx=> ?_,?_,fun x hx=> ?_⟩
  · show (t33 b.1 t.2.2.2.2.2.1 (b.2.2.2.1+1)).length≤10000
    rw [r7x]; have:=ht.wl
    have e:(t.2.2.2.2.2.1:List u1n.den).length=t.2.2.2.2.2.1.length:=rfl
    omega
  · rcases (t5f _ _ _).mp hv with q | ⟨w,hw,rfl⟩
    · exact hb.vs v q
    · exact ht.ws w hw
  · show (b.2.1++ [u8w b t]).length≤1000
    have:=h.plen
    rw [List.length_append,List.length_singleton]; omega
  · rcases List.mem_append.mp hx with q | q
    · exact hb.ps x q
    · rw [List.mem_singleton.mp q]
      exact ht.like rfl rfl (Nat.zero_le _)
  · show ((b.2.2.1.filter fun x=> !decide (x.1=t.1)).map (q5j (u8w b t))).length≤1000
    rw [List.length_map]
    exact Nat.le_trans (t28 _ _) hb.rl
  · obtain ⟨y,hy,rfl⟩:=List.mem_map.mp hx
    have:=hb.rs y (List.mem_filter.mp hy).1
    exact this.like rfl rfl this.nm
theorem q1f {b:u0i} {t:u0f} {n:ByteArray} (h:BaseR b) (ht:tinyT t) (hn:n.size≤100):tinyB (u1i b t n):=by
  have hb:=h.tiny
  refine ⟨hb.vl,hb.vs,hb.pl,hb.ps,?_,fun x hx=> ?_⟩
  · show ((b.2.2.1.filter fun x=>y3c x.2.2.2.2.2.2.2 n)++ [u3d b t n] ++(b.2.2.1.filter fun x=> !y3c x.2.2.2.2.2.2.2 n)).length≤1000
    have f1:=t28 (fun x:u0f=>y3c x.2.2.2.2.2.2.2 n) b.2.2.1
    have f2:=t28 (fun x:u0f=> !y3c x.2.2.2.2.2.2.2 n) b.2.2.1
    have:=h.rlen
    rw [List.length_append,List.length_append,List.length_singleton]; omega
  · rcases List.mem_append.mp hx with q | q
    · rcases List.mem_append.mp q with q | q
      · exact hb.rs x (List.mem_filter.mp q).1
      · rw [List.mem_singleton.mp q]
        exact ht.like rfl rfl hn
    · exact hb.rs x (List.mem_filter.mp q).1
theorem q07 {b:u0i} {n:ByteArray} (hb:tinyB b):tinyB (t81 b n):=
  ⟨hb.vl,hb.vs,hb.pl,hb.ps,Nat.le_trans (t28 _ _) hb.rl,fun x hx=>hb.rs x (List.mem_filter.mp hx).1⟩
structure tinyR (r:s1e):Prop where
  t:tinyT r.2.1
  n:r.2.2.1.size≤100
  b:tinyB r.2.2.2.2
theorem tinyR.wt {r:s1e} (h:tinyR r):p86.wt r≤549755813888:=by
  have:=h.t.wt; have:=h.n; have:=h.b.wt
  rw [q1g]; omega
theorem t4b:tinyT u5c:=⟨by decide,fun r hr=>(by cases hr),by decide,fun r hr=>(by cases hr),by decide⟩
theorem u7u:tinyB u2z:=⟨by decide,fun r hr=>(by cases hr),by decide,fun r hr=>(by cases hr),by decide,fun r hr=>(by cases hr)⟩
theorem p3y:tinyR noR:=⟨t4b,by decide,u7u⟩
theorem RecR.tiny {r:s1e} (h:RecR r):tinyR r:=by
  cases h with
  | thr t h hs=>exact ⟨h.tiny,Nat.zero_le 100,u7u⟩
  | rdy t h hs=>exact ⟨h.tiny,Nat.zero_le 100,u7u⟩
  | fin n y h=>exact ⟨t4b,by have:=u12 h; show n.size≤100; omega,u7u⟩
  | bas b h=>exact ⟨t4b,Nat.zero_le 100,h.tiny⟩
def r3g (b:u0i) (r:s1e):u0i × Bool:=match u6c b r with
  | some x=>(x,true)
  | none=>(b,false)
theorem q7q {n:Int} (h:0≤n∧n≤9999):p3w n:=⟨by omega,by omega⟩
theorem r3d {n:Int} (h:1≤n∧n≤9999):p3w n:=⟨by omega,by omega⟩
end
section
theorem p5i:∃t,t9e ()=some t∧t.size=64∧s1p t 0=0:=by
  have hset:∀i,(List.replicate 64 (0:Int)).set i 0=List.replicate 64 0:=fun i=>by
    apply List.ext_getElem (by simp)
    intro j h1 h2
    rw [List.getElem_set,List.getElem_replicate]
    split
    · rfl
    · rfl
  have key:∀(r i:Nat),i+r=64→u7g ((64:Int),0,List.replicate 64 0,(i:Int))=some (.inl (List.replicate 64 0)):=by
    intro r
    induction r with
    | zero=>
      intro i hi
      have:i=64:=by omega
      subst this
      rw [s39]
      rfl
    | succ r ih=>
      intro i hi
      have hlt:decide ((i:Int)<64)=true:=by simp; omega
      have hg:y4p (i:Int) (List.replicate 64 (0:Int)).length=true:=y7t (by simp; omega)
      rw [s39]
      simp only [t5n,hlt,cond_true,hg,hset]
      rw [y7l (by omega)]
      exact ih (i+1) (by omega)
  have e1:u7g ((64:Int),0,List.replicate 64 0,0)=_:=key 64 0 rfl
  refine ⟨y7g (List.replicate 64 0),?_,by rw [u4m]; simp,by unfold s1p; rw [t7l]; rfl⟩
  rw [r9w]; unfold s8g
  rw [r9s]; unfold s8b
  have hc:(decide ((0:Int)≤64) && decide ((64:Int)≤1099511627776))=true:=rfl
  have hr:List.replicate ((64:Int)).toNat (Ty.int .u8).zero=List.replicate 64 (0:Int):=rfl
  simp only [hc,cond_true,hr,e1,zOb]
theorem q63:∃d,s12 ()=some d∧u26 d=true∧u0k d= [] :=by
  obtain ⟨z,hz,hz1,hz2⟩:=p5i
  have key:∀(r i:Nat),i+r=97→u68 ((97:Int),([], []),(List.replicate i z, []),(i:Int))=some (.inl (([], []),(List.replicate 97 z, []))):=by
    intro r
    induction r with
    | zero=>
      intro i hi
      have:i=97:=by omega
      subst this
      rw [s3w]
      rfl
    | succ r ih=>
      intro i hi
      have hlt:decide ((i:Int)<97)=true:=by simp; omega
      have hc:Nat.ble ((List.replicate i z).length+([z] :List ByteArray).length) z7w=true:=u0r (by simp; omega)
      rw [s3w]
      simp only [t5m,hlt,cond_true,hz,zOb,hc]
      rw [y7l (by omega)]
      have e:List.replicate i z++ [z] =List.replicate (i+1) z:=by rw [List.replicate_succ']
      rw [e]
      exact ih (i+1) (by omega)
  have e1:u68 ((97:Int),([], []),([], []),0)=_:=key 97 0 rfl
  have hs:u53 ()=some 97:=by rw [t9y]; rfl
  refine ⟨(List.replicate 97 z, []),?_,?_⟩
  · rw [q23]; unfold r0v
    simp only [hs,zOb]
    rw [r9b]; unfold s7u
    have hi:s80 97 1 100=true:=rfl
    simp only [t4u,hi,zOb,Bool.not_true,cond_false,e1]
  · have hk:u1h (List.replicate 97 z,([] :List (Int × ByteArray)))=true:=q03.mpr ⟨by simp,by simp,fun s hs=>by rw [List.eq_of_mem_replicate hs]; exact hz1,fun p hp=>by cases hp⟩
    have hl:(List.replicate 97 z,([] :List (Int × ByteArray))).1.length=97:=by simp
    have hf:=s1o hk hl
    have hc:∀a:Int,a=0∨a=1→u03 (List.replicate 97 z, []) a=0:=fun a ha=>by
      obtain ⟨f1,_⟩:=u5v ha
      unfold u03 u3m
      rw [p3p.mpr ha,if_pos rfl]
      have hk2:u0e a=(((u0e a).toNat:Nat):Int):=by rcases ha with rfl | rfl<;>omega
      rw [hk2,q7z rfl (by rw [hl]; rcases ha with rfl | rfl<;>omega)]
      have hlt:(u0e a).toNat<(List.replicate 97 z).length:=by simp; rcases ha with rfl | rfl<;>omega
      have e:rdL Ty.str (List.replicate 97 z) (u0e a).toNat=(List.replicate 97 z)[(u0e a).toNat] :=y8k (t:=Ty.str) hlt
      simp only [e,List.getElem_replicate]
      rw [r2t,hz2]
      rfl
    refine ⟨r1v hk hl rfl ?_ ?_,?_⟩
    · rw [u6t hf (.inl rfl),hc 0 (.inl rfl)]; rfl
    · rw [u6t hf (.inr rfl),hc 1 (.inr rfl)]; rfl
    · unfold u0k
      rw [u6t hf (t2a _),hc _ (t2a _)]; rfl
end
section
theorem s61 {d:u0j} (h:u26 d=true):o1b.wt d≤10000000:=Nat.le_trans (t27 (u4j h).1) (by omega)
end
section
theorem q1y (d:u0j) (hd:o1b.wt d≤1073741824):t7b d=some (u0k d):=by
  rw [r6z]; unfold s43
  simp only [s1f d (show o1b.wt d≤u0l by unfold u0l; omega),s1j d _ hd,zOb]; rfl
end
section
theorem p1f (b:u0i) (r:s1e) (hB:BaseR b) (hR:RecR r):t9h (b,r)=some (match u15 b r with
    | some x=>(x,true)
    | none=>(b,false)):=by
  have hb:=hB.tiny
  have thr:∀t:u0f,TxnR t→u39 (b,t)=some (u1b b t):=fun t ht=>by
    rw [r3s b t hb.few ht.tiny.few,r8f (q7q hB.cs) (r3d ht.id)]
  rw [r94]; unfold s8o u15
  cases hR with
  | thr t h hs=>
    simp only [decide_true,cond_true,if_true]
    rw [t8x (q7q hB.cs),thr t h]
    by_cases q:t.2.2.2.1=b.2.2.2.1+1
    · rw [decide_eq_true q,if_pos q]; rfl
    · rw [decide_eq_false q,if_neg q]; rfl
  | rdy t h hs=>
    simp only [show decide ((2:Int)=1)=false from rfl,show ((2:Int)=1)=False by simp,decide_true,decide_false,cond_true,cond_false,if_true,if_false]
    rw [t5a b _ (by have:=hB.rlen; omega)]
    simp only [zOb]
    rw [s7h b t _ hb.few h.tiny.few (r3d h.id)]
    simp only [zOb]
    by_cases q:b.2.2.1.length<3
    · rw [decide_eq_false (show ¬(b.2.2.1.length:Int)≥3 by omega)]
      simp only [cond_false,zOb]
      by_cases q2:u08 b t.2.2.2.2.2.2.2<0
      · rw [decide_eq_false (show ¬u08 b t.2.2.2.2.2.2.2≥0 by omega),if_pos ⟨q,q2⟩]; rfl
      · rw [decide_eq_true (show u08 b t.2.2.2.2.2.2.2≥0 by omega),if_neg (fun z=>q2 z.2)]; rfl
    · rw [decide_eq_true (show (b.2.2.1.length:Int)≥3 by omega),if_neg (fun z=>q z.1)]; rfl
  | fin n y h=>
    simp only [show decide ((3:Int)=1)=false from rfl,show decide ((3:Int)=2)=false from rfl,show ((3:Int)=1)=False by simp,show ((3:Int)=2)=False by simp,decide_true,decide_false,cond_true,cond_false,if_true,if_false]
    rw [t5a b _ (by have:=hB.rlen; omega)]
    simp only [zOb]
    by_cases q:u08 b n<0
    · rw [decide_eq_true q,if_pos q]; rfl
    · rw [decide_eq_false q,if_neg q]
      simp only [cond_false]
      rw [r3o b n hb.few]
      simp only [zOb]
      have hk:(u08 b n).toNat<b.2.2.1.length:=by
        unfold u08 at q ⊢
        split
        · rename_i z; rw [zTn]; exact z
        · rename_i z; rw [if_neg z] at q; omega
      obtain ⟨k,hkk⟩:∃k:Nat,u08 b n=k:=⟨(u08 b n).toNat,by omega⟩
      have hg:y4p (u08 b n) b.2.2.1.length=true:=by rw [hkk]; exact y7t (by rw [hkk] at hk; simpa using hk)
      have hT:TxnR (rdL u0z b.2.2.1 (u08 b n).toNat):=by
        rw [y8k hk]; exact (hB.ready _ (List.getElem_mem hk)).1
      rw [hg,thr _ hT]
      cases y
      · rfl
      · rfl
  | bas c h=>
    simp only [show decide ((4:Int)=1)=false from rfl,show decide ((4:Int)=2)=false from rfl,show decide ((4:Int)=3)=false from rfl,show ((4:Int)=1)=False by simp,show ((4:Int)=2)=False by simp,show ((4:Int)=3)=False by simp,decide_false,cond_false,if_false]
    rw [t30 c h.tiny.few]; rfl
theorem p39 {b:u0i} {r:s1e} {x:u0i} (hB:BaseR b) (hR:RecR r) (h:u15 b r=some x):tinyB x:=by
  unfold u15 at h
  cases hR with
  | thr t ht hs=>
    simp only [if_true] at h
    split at h
    · rw [←Option.some.inj h]; exact s6m hB ht.tiny
    · cases h
  | rdy t ht hs=>
    simp only [show ((2:Int)=1)=False by simp,if_true,if_false] at h
    split at h
    · rw [←Option.some.inj h]; exact q1f hB ht.tiny (by have:=u12 (ht.name hs); omega)
    · cases h
  | fin n y hn=>
    simp only [show ((3:Int)=1)=False by simp,show ((3:Int)=2)=False by simp,if_true,if_false] at h
    split at h
    · cases h
    · rename_i q
      have hk:(u08 b n).toNat<b.2.2.1.length:=by
        unfold u08 at q ⊢
        split
        · rename_i z; rw [zTn]; exact z
        · rename_i z; rw [if_neg z] at q; omega
      split at h
      · rw [←Option.some.inj h]
        refine s6m hB ?_
        rw [y8k hk]; exact (hB.ready _ (List.getElem_mem hk)).1.tiny
      · rw [←Option.some.inj h]; exact q07 hB.tiny
  | bas c hc=>
    simp only [show ((4:Int)=1)=False by simp,show ((4:Int)=2)=False by simp,show ((4:Int)=3)=False by simp,if_false] at h
    rw [←Option.some.inj h]; exact hc.tiny
theorem q66 (b:u0i) (r:s1e) (hb:tinyB b) (hr:tinyR r):s13 (b,r)=some (r3g b r):=by
  have hq:u0l=1099511627776:=rfl
  rw [q26]; unfold r0y
  simp only
  rw [t3z b (by have:=hb.wt; omega),r0a r hr.wt,t30 b hb.few]
  simp only [zOb]
  cases h1:t0t b
  · unfold r3g u6c
    rw [if_neg (by simp [h1])]; rfl
  · cases h2:t0i r
    · unfold r3g u6c
      rw [if_neg (by simp [h2])]; rfl
    · have hB:=q0y.mp h1
      have hR:=p45.mp h2
      simp only [Bool.not_true,cond_false,zOb]
      rw [p1f b r hB hR]
      simp only [zOb]
      unfold r3g u6c
      rw [if_pos ⟨h1,h2⟩]
      cases hx:u15 b r with
      | none=>rfl
      | some x=>
        have h3:=p39 hB hR hx
        simp only [Bool.not_true,cond_false]
        rw [s1l _ _ h3.few (by simp)]
        simp only [zOb]
        rw [t3z _ (by have:=(q77 h3 []).wt; omega)]
        simp only [zOb]
        cases t0t (u25 x [])<;>rfl
theorem q8t {b x:u0i} {r:s1e} (h:u6c b r=some x):BaseR x∧RecR r:=by
  unfold u6c at h
  split at h
  · rename_i q
    split at h
    · cases h
    · split at h
      · rename_i z
        rw [←Option.some.inj h]
        exact ⟨q0y.mp z,p45.mp q.2⟩
      · cases h
  · cases h
theorem p0d (t:ByteArray):tinyR (s0p t).1:=by
  unfold s0p
  cases h:u3s t with
  | none=>exact p3y
  | some r=>exact (r12 h).1.tiny
theorem p3t (b:u0i) (t:ByteArray) (l:List ByteArray):t64 b (t::l)=bif !(s0p t).2 || !(r3g b (s0p t).1).2 then none else t64 (r3g b (s0p t).1).1 l:=by
  unfold s0p r3g
  simp only [t64]
  cases u3s t with
  | none=>rfl
  | some r=>
    simp only
    cases u6c b r with
    | none=>rfl
    | some x=>rfl
def p15 (l:List ByteArray):u0i × Bool:=match t0m l with
  | some b=>(b,true)
  | none=>(u2z,false)
theorem q4i (d:u0j) (hd:o1b.wt d≤1073741824) (ht:∀t∈u0k d,t.size≤u0l) (hl:(u0k d).length≤1000000):t4z d=some (p15 (u0k d)):=by
  have L:=s7b u3t (u0k d).length (fun (b:u0i) i=>(u2z,b,u0k d,i)) (fun i b=>match t64 b ((u0k d).drop i) with
      | some x=> .inl (u2z,x)
      | none=> .inr (u2z,false)) (fun _ b=>BaseR b)
    (fun b hb=>by
      rw [s30]; simp only [t1j,u0b,Nat.lt_irrefl,decide_false,cond_false]
      rw [List.drop_length]; rfl)
    (fun i b hi hb=>by
      have hm:=List.getElem_mem hi
      have hd:(u0k d).drop i=(u0k d)[i] ::(u0k d).drop (i+1):=List.drop_eq_getElem_cons hi
      have hw:u3t (u2z,b,u0k d,(i:Int))=bif !(s0p (u0k d)[i]).2 || !(r3g b (s0p (u0k d)[i]).1).2 then some (.inr (u2z,false)) else u3t (u2z,(r3g b (s0p (u0k d)[i]).1).1,u0k d,((i+1:Nat):Int)):=by
        rw [s30]; simp only [t1j,u0b,hi,decide_true,cond_true,y7t hi,zTn,y8k (t:=Ty.str) hi,y7l (show i<4611686018427387904 by omega)]
        rw [r54 _ (ht _ hm)]
        simp only [zOb]
        rw [q66 b _ hb.tiny (p0d _)]
        simp only [zOb]
        cases (s0p (u0k d)[i]).2<;>cases (r3g b (s0p (u0k d)[i]).1).2<;>rfl
      rw [hw,hd,p3t]
      cases hc:(!(s0p (u0k d)[i]).2 || !(r3g b (s0p (u0k d)[i]).1).2)
      · refine .inr ⟨(r3g b (s0p (u0k d)[i]).1).1,?_,?_,rfl⟩
        · unfold r3g at hc ⊢
          cases hp:u6c b (s0p (u0k d)[i]).1 with
          | none=>rw [hp] at hc; simp at hc
          | some x=>exact (q8t hp).1
        · simp only [cond_false]
      · exact .inl rfl) 0 q6s (Nat.zero_le _) q8p
  rw [r9f]; unfold s7y
  rw [s8w]; unfold s7r
  rw [q1y d hd]
  simp only [zOb]
  have L' :u3t ((([], [], [],0,0):u0i),(([], [], [],0,1):u0i),u0k d,0)=_:=L
  rw [L',List.drop_zero]
  unfold p15 t0m
  cases t64 q6s (u0k d)<;>rfl
end
section
def r4a:t3u:=((⟨#[97]⟩:ByteArray),(⟨#[122,122,122]⟩:ByteArray))
end
section
theorem q59 (t:ByteArray) (a:Int):(u0p t a).1.size≤20000:=by
  unfold u0p
  split
  · rename_i hc
    have:=t2m hc.1
    simp only [ByteArray.size_extract]; omega
  · exact Nat.zero_le _
theorem r4b (t:ByteArray):∀(m:Nat) (a:Int) (acc:List ByteArray),(∀s∈acc,s.size≤20000)→ ∀s∈(u42 t m a acc).1,s.size≤20000
  | 0,a,acc,h=>h
  | m+1,a,acc,h=>by
    unfold u42
    split
    · refine r4b t m _ _ fun s hs=> ?_
      rcases List.mem_append.mp hs with q | q
      · exact h s q
      · rw [List.mem_singleton.mp q]; exact q59 _ _
    · intro s hs; cases hs
theorem q0i (d:u0j) (a:Int):∀s∈(u0c d a).1,s.size≤20000:=by
  unfold u0c
  split
  · exact r4b _ _ _ _ fun s hs=>by cases hs
  · intro s hs; cases hs
theorem q0f (d:u0j):∀s∈u0k d,s.size≤20000:=q0i d _
theorem q5s (d:u0j):(u0k d).length<256:=q57 d _
theorem q9l (d:u0j) (hd:o1b.wt d≤1073741824):t4z d=some (p15 (u0k d)):=
  q4i d hd (fun t ht=>by have:=q0f d t ht; unfold u0l; omega) (by have:=q5s d; omega)
theorem q8s:∀ {l:List ByteArray} {b x:u0i},BaseR b→t64 b l=some x→BaseR x
  | [],b,x,hb,h=>by rw [←Option.some.inj h]; exact hb
  | t::l,b,x,hb,h=>by
    simp only [t64] at h
    split at h
    · cases h
    · split at h
      · cases h
      · rename_i r _ y hy
        exact q8s (q8t hy).1 h
theorem q5z {l:List ByteArray} {x:u0i} (h:t0m l=some x):BaseR x:=q8s q8p h
theorem p16 (l:List ByteArray):tinyB (p15 l).1:=by
  unfold p15
  cases h:t0m l with
  | none=>exact u7u
  | some b=>exact (q5z h).tiny
end
section
theorem p3d {y:ByteArray} (h:y∈K5):u4d y=true:=by
  simp only [K5,List.mem_cons,List.not_mem_nil,or_false] at h
  rcases h with rfl | rfl | rfl | rfl | rfl<;>decide
theorem q1x {s:Src} (h:s.ok):Dr (u37 s) (fun y=>y∈K5):=by
  rw [q3f]; unfold r07
  obtain ⟨y,s1,e1,k1,r1⟩:=q10 h (l:=K5) (by decide)
  have e1:u1l (s, [(⟨#[97]⟩:ByteArray),(⟨#[98]⟩:ByteArray),(⟨#[99]⟩:ByteArray),(⟨#[100]⟩:ByteArray),(⟨#[97,98]⟩:ByteArray)])=_:=e1
  simp only [e1,zOb]
  exact ⟨_,_,rfl,k1,r1⟩
def o0y (r:t3u):Prop:=r.1∈K5∧r.2∈K5∧u1f r=true
theorem q7t {a b:ByteArray} (ha:a∈K5) (hb:b∈K5) (h:y3c b a=false):o0y (a,b):=by
  refine ⟨ha,hb,?_⟩
  unfold u1f
  simp only [p3d ha,p3d hb,Bool.true_and,Bool.or_eq_true]
  rcases s94 a b with q | rfl | q
  · exact .inl q
  · exact .inr (by simp [z7o])
  · rw [q] at h; cases h
theorem p1g {s:Src} (h:s.ok):Dr (u54 s) o0y:=by
  rw [r7d]; unfold s5i
  obtain ⟨y1,s1,e1,k1,r1⟩:=q1x h
  obtain ⟨y2,s2,e2,k2,r2⟩:=q1z k1 (n:=2) (by omega)
  obtain ⟨y3,s3,e3,k3,r3⟩:=q1x k2
  simp only [e1,e2,e3,zOb]
  cases y2 with
  | true=>exact ⟨_,_,rfl,k2,q7t r1 r1 (u5a _)⟩
  | false=>
    simp only [cond_false]
    cases hc:y3c y3 y1 with
    | true=>exact ⟨_,_,rfl,k3,q7t r3 r1 (t8m hc)⟩
    | false=>exact ⟨_,_,rfl,k3,q7t r1 r3 hc⟩
def o1j (w:WrT):Prop:=w.1∈K5∧u1q w=true
theorem p1j {s:Src} (h:s.ok):Dr (u55 s) o1j:=by
  rw [r7e]; unfold s5j
  obtain ⟨y1,s1,e1,k1,r1⟩:=q1x h
  obtain ⟨y2,s2,e2,k2,r2⟩:=q10 k1 (l:= [(⟨#[111,110,101]⟩:ByteArray),(⟨#[116,119,111]⟩:ByteArray),(⟨#[]⟩:ByteArray),(⟨#[120,0]⟩:ByteArray)]) (by decide)
  obtain ⟨y3,s3,e3,k3,r3⟩:=q1z k2 (n:=5) (by omega)
  simp only [e1,e2,e3,zOb]
  have hz:y2.size≤12:=by
    simp only [List.mem_cons,List.not_mem_nil,or_false] at r2
    rcases r2 with rfl | rfl | rfl | rfl<;>decide
  have hk:=p3d r1
  cases y3 with
  | true=>exact ⟨_,_,rfl,k3,r1,by simp [u1q,hk,emp,ByteArray.size]⟩
  | false=>exact ⟨_,_,rfl,k3,r1,by simp [u1q,hk,hz]⟩
end
section
theorem u5l (b:u0i) (o:List u0f) (hb:fewB b) (ho:q8l o):u0n (b,o)=some (b,o):=by
  have h1:=t30 b hb
  have h2:=s9o o ho
  rw [r96]; unfold s8q
  simp only [h1,h2,zOb]
theorem q9g (b:u0i) (o:List u0f) (hb:fewB b) (ho:q8l o):u3i (b,o)=some (b,o):=by
  have h1:=q0p b hb
  have h2:=s9n o ho
  rw [r2y]; unfold t9m
  simp only [h1,h2,zOb]
end
section
theorem EngR.ot {e:u1p} (h:EngR e) {t:u0f} (ht:t∈e.2):tinyT t:=(h.open_ t ht).1.tiny
theorem EngR.fewO {e:u1p} (h:EngR e):q8l e.2:=r2a (by have:=h.olen; omega) fun t ht=>h.ot ht
theorem EngR.tinyO {e:u1p} (h:EngR e):tinyB e.1:=h.base.tiny
theorem EngR.fewB {e:u1p} (h:EngR e):Ab.fewB e.1:=h.base.tiny.few
theorem EngR.oth {e:u1p} (h:EngR e):∀t∈t63 e,tinyT t:=fun t ht=>by
  rcases List.mem_append.mp ht with q | q
  · exact (h.base.past t q).1.tiny
  · exact (h.base.ready t q).1.tiny
theorem EngR.fewOth {e:u1p} (h:EngR e):q8l (t63 e):=r2a (by have:=h.base.plen; have:=h.base.rlen; simp only [t63,List.length_append]; omega) h.oth
theorem p4d (e:u1p) (id:Int):(u6f e id).length≤e.2.length:=List.length_filter_le _ _
theorem t17 (e:u1p) (id:Int) (h:e.2.length≤4194304):u36 (e,id)=some (u1z e.2 id):=by
  have L:=s7b u8q (u0m (fun x:u0f=>decide (x.1=id)) e.2) (fun (_:Unit) i=>(id,e,i)) (fun _ _=>if u0m (fun x:u0f=>decide (x.1=id)) e.2<e.2.length then .inr ((u0m (fun x:u0f=>decide (x.1=id)) e.2:Nat):Int) else .inl ()) (fun _ _=>True)
    (fun a _=>by
      have hle:=u5t (fun x:u0f=>decide (x.1=id)) e.2
      rw [s6v]
      by_cases hk:u0m (fun x:u0f=>decide (x.1=id)) e.2<e.2.length
      · have hy:=u4i hk
        simp only [u8j,u0b,hk,decide_true,cond_true,y7t hk,zTn,y8k (t:=u0z) hk,hy,if_true]
      · simp only [u8j,u0b,hk,decide_false,cond_false,if_false])
    (fun i a hi _=> .inr ⟨(),trivial,rfl,by
      have hle:=u5t (fun x:u0f=>decide (x.1=id)) e.2
      have hil:i<e.2.length:=by omega
      have hn:=u5u hil hi
      rw [s6v]
      simp only [u8j,u0b,hil,decide_true,cond_true,y7t hil,zTn,y8k (t:=u0z) hil,hn,cond_false]
      rw [y7l (by omega)]⟩) 0 () (Nat.zero_le _) trivial
  have L:u8q (id,e,0)=_:=L
  rw [q24]; unfold r0w u1z
  simp only [L,zOb]
  by_cases hk:u0m (fun x:u0f=>decide (x.1=id)) e.2<e.2.length
  · simp only [if_pos hk]
  · simp only [if_neg hk]
theorem t6q (e:u1p) (id:Int) (h:e.2.length≤4194304):u33 (e,id)=some (u1z e.2 id):=by
  have hq:∀x∈e.2,t3c (x,id)=some (decide (x.1=id)):=fun x _=>by
    rw [r6n]; unfold s4s; rfl
  have L:=Q.first (T:=u0z) (c:=Int) (W:=u04) (q:=t3c) (p:=fun x:u0f=>decide (x.1=id)) (fun x=>u6v x) e.2 id (by omega) hq
  rw [q2n]; unfold r0f u1z
  simp only [u7v,u28,L,zOb]
  by_cases hk:u0m (fun x:u0f=>decide (x.1=id)) e.2<e.2.length
  · simp only [if_pos hk,zOb]
  · simp only [if_neg hk,zOb]
theorem p1q {e:u1p} :(decide ((e.2.length:Int)≥4)= !decide (e.2.length<4))∧(decide (e.1.2.2.2.2≥9999)= !decide (e.1.2.2.2.2<9999)):=by
  constructor
  · by_cases h:e.2.length<4<;>simp [h] <;>omega
  · by_cases h:e.1.2.2.2.2<9999<;>simp [h] <;>omega
theorem q0n {e:u1p} (h:EngR e):u86 e=some (t2g e):=by
  have ho:=h.olen
  have hn:=h.base.next
  have h1:=u5l e.1 e.2 h.fewB h.fewO
  have h2:=q1v e (by have:=h.tinyO.wt; have:=r2b (l:=e.2) (by omega) (fun t ht=>h.ot ht); have:=q5f e; omega)
  have h1:u0n e=some e:=h1
  have hk:=p66.mpr h
  rw [q44]; unfold r30 t2g
  simp only [h1,h2,hk,zOb,Bool.not_true,cond_false,p1q.1,p1q.2,List.length_singleton,u0r (show e.2.length+1≤1099511627776 by omega),cond_true]
  by_cases c1:e.2.length<4
  · by_cases c2:e.1.2.2.2.2<9999
    · simp only [c1,c2,decide_true,Bool.not_true,cond_false,zOb,and_self,if_true,t8x (n:=e.1.2.2.2.2) (r3d hn)]
      rfl
    · simp only [c1,c2,decide_true,decide_false,Bool.not_true,Bool.not_false,cond_false,cond_true,zOb,and_false,if_false]
  · simp only [c1,decide_false,Bool.not_false,cond_true,zOb,false_and,if_false]
theorem o1c (l:List t3u) (r:t3u):(l.any fun x=>z7o x.1 r.1 && (z7o x.2 r.2 && true))=p1z l r:=by
  unfold p1z; simp only [Bool.and_true]
theorem s7i {t:u0f} {r:t3u} (ht:TxnR t) (h1:t.2.1=1) (hr:u1f r=true):t15 (t,r)=some (t05 t r):=by
  have hy:=ht.tiny
  have hw:=hy.wt
  have hl:=ht.rlen
  have c0:=u6x t hy.few
  have c1:=t2e t (by unfold u0l; omega)
  have k:=u12 (s:=r.1) (by unfold u1f at hr; simp only [Bool.and_eq_true] at hr; exact hr.1)
  have k' :=u12 (s:=r.2) (by unfold u1f at hr; simp only [Bool.and_eq_true] at hr; exact hr.2.1)
  have c2:=s4k r (by unfold u0l; omega) (by unfold u0l; omega)
  have ok:=r2e.mpr ht
  have L:=s9q u41 t.2.2.2.2.1 (fun i=>(t,r,(u5c:u0f),t,i)) (fun x=>z7o x.1 r.1 && (z7o x.2 r.2 && true)) (.inr (t,true)) (.inl (t,r,u5c,t))
    (by rw [t8w]; simp only [u76,u0b,Nat.lt_irrefl,decide_false,cond_false])
    (fun i hi=>by
      rw [t8w]
      simp only [u76,u0b,hi,decide_true,cond_true,y7t hi,zTn,y8k (t:=u8d) hi]
      rw [y7l (by omega)])
  rw [o1c] at L
  have L:u41 (t,r,((0,0,0,0, [], [],false,(⟨#[]⟩:ByteArray)):u0f),t,0)=_:=L
  rw [r5e]; unfold s2j t05
  simp only [c0,c1,c2,ok,hr,h1,zOb,decide_true,Bool.not_true,cond_false,L]
  cases p1z t.2.2.2.2.1 r
  · have e8:decide ((t.2.2.2.2.1.length:Int)≥8)= !decide (t.2.2.2.2.1.length<8):=by by_cases c:t.2.2.2.2.1.length<8<;>simp [c] <;>omega
    simp only [cond_false,e8,Bool.false_eq_true,if_false]
    by_cases c:t.2.2.2.2.1.length<8
    · simp only [c,decide_true,Bool.not_true,cond_false,List.length_singleton,u0r (show t.2.2.2.2.1.length+1≤1099511627776 by omega),cond_true,if_true]
      rfl
    · simp only [c,decide_false,Bool.not_false,cond_true,if_false]
  · rfl
theorem r2j {l:List WrT} {w:WrT} (h:u2x l=true) (hw:u1q w=true):u2x (s91 l w)=decide ((s91 l w).length≤8):=by
  by_cases c:(s91 l w).length≤8
  · rw [p2j h hw c,decide_eq_true c]
  · rw [decide_eq_false c]
    cases q:u2x (s91 l w)
    · rfl
    · exact absurd (p47.mp q).2.2 c
theorem q31 {w:WrT} (h:u1q w=true):w.1.size≤3∧w.2.1.size≤12:=by
  unfold u1q at h
  simp only [Bool.and_eq_true,decide_eq_true_eq] at h
  exact ⟨(u12 h.1).2,h.2.1⟩
theorem q6o {l:List WrT} (hn:l.length≤1000) (h:∀w∈l,u1q w=true):(Ty.sl u1n).wt l≤20000:=by
  have e:(Ty.sl u1n).wt l=l.length+(l.map u1n.wt).sum:=rfl
  have s:=s0r (f:=u1n.wt) (k:=15) (l:=l) fun w hw=>by
    have:=q31 (h w hw)
    have e:u1n.wt w=w.1.size+(w.2.1.size+0):=rfl
    omega
  omega
theorem q51 {l:List WrT} {w:WrT} (h:u2x l=true) (hw:u1q w=true):∀x∈s91 l w,u1q x=true:=fun x hx=>by
  rcases q3r hx with q | q
  · exact (p47.mp h).1 x q
  · rw [q]; exact hw
theorem q19 {t:u0f} {w:WrT} (ht:TxnR t) (h1:t.2.1=1) (hw:u1q w=true):t7h (t,w)=some (t3y t w):=by
  have hy:=ht.tiny
  have ht8:=(p47.mp ht.ws).2.2
  have hl:=q8v t.2.2.2.2.2.1 w
  have c0:=u6x t hy.few
  have c1:=t2e t (by have:=hy.wt; unfold u0l; omega)
  have c2:=s4o w (by have:=q31 hw; unfold u0l; omega)
  have c3:=q12 t.2.2.2.2.2.1 w (by omega)
  have c4:=r0c (s91 t.2.2.2.2.2.1 w) (by have:=q6o (l:=s91 t.2.2.2.2.2.1 w) (by omega) (q51 ht.ws hw); unfold u0l; omega)
  have ok:=r2e.mpr ht
  rw [r68]; unfold s5d t3y
  simp only [c0,c1,c2,c3,c4,ok,hw,h1,zOb,decide_true,Bool.not_true,cond_false,r2j ht.ws hw]
  by_cases c:(s91 t.2.2.2.2.2.1 w).length≤8
  · simp only [c,decide_true,Bool.not_true,cond_false,if_true]
    unfold p01
    rw [h1]
  · simp only [c,decide_false,Bool.not_false,cond_true,if_false]
end
section
def t2j (t:u0f) (l:List u1v) (k:ByteArray):ByteArray × Bool:=
  if u0m (fun w:WrT=>z7o w.1 k) t.2.2.2.2.2.1<t.2.2.2.2.2.1.length then
    (if (rdL u1n t.2.2.2.2.2.1 (u0m (fun w:WrT=>z7o w.1 k) t.2.2.2.2.2.1)).2.2=true then (emp,false) else ((rdL u1n t.2.2.2.2.2.1 (u0m (fun w:WrT=>z7o w.1 k) t.2.2.2.2.2.1)).2.1,true))
  else u3p l k t.2.2.1
def s6b (t:u0f) (l:List u1v) (r:t3u):List PrT:=
  ((s1q (l.map (fun v=>v.1)++t.2.2.2.2.2.1.map fun w=>w.1)).filter fun k=>(t2j t l k).2 && inR r k).map fun k=>(k,(t2j t l k).1)
theorem r53 (t:u0f) (l:List u1v) (k:ByteArray) (ht:r7j t) (hl:l.length≤4194304):t6k (t,l,k)=some (t2j t l k):=by
  have h8:=ht.2
  have L:=s7b u8r (u0m (fun w:WrT=>z7o w.1 k) t.2.2.2.2.2.1) (fun (_:Unit) i=>(l,k,t,i)) (fun _ _=>if u0m (fun w:WrT=>z7o w.1 k) t.2.2.2.2.2.1<t.2.2.2.2.2.1.length then .inr (if (rdL u1n t.2.2.2.2.2.1 (u0m (fun w:WrT=>z7o w.1 k) t.2.2.2.2.2.1)).2.2=true then (emp,false) else ((rdL u1n t.2.2.2.2.2.1 (u0m (fun w:WrT=>z7o w.1 k) t.2.2.2.2.2.1)).2.1,true)) else .inl (l,k,t)) (fun _ _=>True)
    (fun a _=>by
      have hle:=u5t (fun w:WrT=>z7o w.1 k) t.2.2.2.2.2.1
      rw [s6w]
      by_cases hk:u0m (fun w:WrT=>z7o w.1 k) t.2.2.2.2.2.1<t.2.2.2.2.2.1.length
      · have hy:=u4i hk
        simp only [u8k,u0b,hk,decide_true,cond_true,y7t hk,zTn,y8k (t:=u1n) hk,hy,if_true]
        cases (t.2.2.2.2.2.1[u0m (fun w:WrT=>z7o w.1 k) t.2.2.2.2.2.1]).2.2<;>rfl
      · simp only [u8k,u0b,hk,decide_false,cond_false,if_false])
    (fun i a hi _=> .inr ⟨(),trivial,rfl,by
      have hle:=u5t (fun w:WrT=>z7o w.1 k) t.2.2.2.2.2.1
      have hil:i<t.2.2.2.2.2.1.length:=by omega
      have hn:=u5u hil hi
      rw [s6w]
      simp only [u8k,u0b,hil,decide_true,cond_true,y7t hil,zTn,y8k (t:=u1n) hil,hn,cond_false]
      rw [y7l (by omega)]⟩) 0 () (Nat.zero_le _) trivial
  have L:u8r (l,k,t,0)=_:=L
  rw [q25]; unfold r0x t2j
  simp only [L,zOb]
  by_cases hk:u0m (fun w:WrT=>z7o w.1 k) t.2.2.2.2.2.1<t.2.2.2.2.2.1.length
  · simp only [if_pos hk]
  · simp only [if_neg hk,s9p l k _ (show l.length≤1099511627776 by omega),zOb]
theorem q4h (t:u0f) (l:List u1v) (r:t3u) (ht:r7j t) (hl:l.length≤4194304):t89 (t,l,r)=some (s6b t l r):=by
  have h8:=ht.2
  have L:=t5b u7a t.2.2.2.2.2.1 (fun (a:List u1v) i=>(l,t,r,a,i)) (fun a (w:WrT)=>a++ [((w.1,emp,false,(0:Int)):u1v)]) (fun a=> .inl (l,t,r,a)) (fun i a=>a.length=l.length+i)
    (fun a _=>by rw [s3y]; simp only [t1h,u0b,Nat.lt_irrefl,decide_false,cond_false])
    (fun i hi a ha=>⟨by simp [ha]; omega,by
      rw [s3y]
      simp only [t1h,u0b,hi,decide_true,cond_true,y7t hi,zTn,y8k (t:=u1n) hi,List.length_singleton,u0r (show a.length+1≤1099511627776 by omega)]
      rw [y7l (by omega)]
      rfl⟩) l rfl
  have fo:∀(ws:List WrT) (a:List u1v),ws.foldl (fun a (w:WrT)=>a++ [((w.1,emp,false,(0:Int)):u1v)]) a=a++ws.map fun w=>((w.1,emp,false,(0:Int)):u1v):=by
    intro ws
    induction ws with
    | nil=>intro a; simp
    | cons w ws ih=>intro a; rw [List.foldl_cons,ih,List.map_cons,List.append_assoc]; rfl
  rw [fo] at L
  obtain ⟨all,ha⟩:∃all,all=l++t.2.2.2.2.2.1.map fun w:WrT=>((w.1,emp,false,(0:Int)):u1v):=⟨_,rfl⟩
  rw [←ha] at L
  have hal:all.length≤6000000:=by rw [ha]; simp; omega
  have hmap:all.map (fun v=>v.1)=l.map (fun v=>v.1)++t.2.2.2.2.2.1.map fun w=>w.1:=by
    rw [ha,List.map_append,List.map_map]; rfl
  obtain ⟨ks,hks⟩:∃ks,ks=(s1q (all.map fun v=>v.1)).filter fun k=>inR r k:=⟨_,rfl⟩
  have hkl:ks.length≤all.length:=by
    rw [hks]
    refine Nat.le_trans (List.length_filter_le _ _) (Nat.le_trans (s5s _) (by simp))
  have L2:=t52 t1v ks (fun a i=>(l,t,a,ks,i)) (fun k=>(t2j t l k).2) (fun k=>(k,(t2j t l k).1)) (fun a=> .inl a) (by omega)
    (fun a _=>by rw [s3z]; simp only [t1i,u0b,Nat.lt_irrefl,decide_false,cond_false])
    (fun i hi a ha=>by
      rw [s3z]; simp only [t1i,u0b,hi,decide_true,cond_true,y7t hi,zTn,y8k (t:=Ty.str) hi,r53 t l _ ht hl,zOb,List.length_singleton,u0r (show a.length+1≤1099511627776 by omega)]
      rw [y7l (by omega)])
  have L:u7a (l,t,r,l,0)=_:=L
  rw [r9e]; unfold s7x
  simp only [List.length_nil,Nat.zero_add,List.nil_append,u0r (show l.length≤1099511627776 by omega),cond_true,L,zOb,q4f all r (show all.length≤500000000000 by omega)]
  rw [←hks]
  simp only [L2,zOb]
  rw [hks,List.filter_filter,hmap]
  rfl
theorem r5t {k:ByteArray} :u1f (k,k)=u4d k:=by
  unfold u1f
  have:z7o k k=true:=by simp [z7o]
  rw [this,Bool.or_true,Bool.and_true,Bool.and_self]
def p5o (e:u1p) (id:Int) (k:ByteArray):u1p × ByteArray × Bool × Int:=
  if (u99 e id (k,k) (u4d k)).2=0 then ((u99 e id (k,k) (u4d k)).1,(t2j (u10 e id) e.1.1 k).1,(t2j (u10 e id) e.1.1 k).2,0)
  else ((u99 e id (k,k) (u4d k)).1,emp,false,(u99 e id (k,k) (u4d k)).2)
def p0g (e:u1p) (id:Int) (r:t3u):u1p × List PrT × Int:=
  if (u99 e id r (u1f r)).2=0 then ((u99 e id r (u1f r)).1,s6b (u10 e id) e.1.1 r,0) else ((u99 e id r (u1f r)).1, [],(u99 e id r (u1f r)).2)
theorem r72 {t:u0f} {r:t3u} :(t05 t r).1.2.2.1=t.2.2.1∧(t05 t r).1.2.2.2.2.2.1=t.2.2.2.2.2.1:=by
  unfold t05
  split
  · exact ⟨rfl,rfl⟩
  · split<;>exact ⟨rfl,rfl⟩
theorem r7w (t:u0f) (r:t3u) (l:List u1v) (k:ByteArray):t2j (t05 t r).1 l k=t2j t l k:=by
  unfold t2j; rw [r72.1,r72.2]
theorem q5y (t:u0f) (r q:t3u) (l:List u1v):s6b (t05 t r).1 l q=s6b t l q:=by
  unfold s6b; rw [r72.2]; simp only [r7w]
theorem q58 {t:u0f} {r:t3u} (h:tinyT t):r7j (t05 t r).1:=by
  unfold t05
  split
  · exact h.few
  · split
    · refine ⟨?_,h.few.2⟩
      show (t.2.2.2.2.1++ [r]).length≤1048576
      have:=h.rl
      simp; omega
    · exact h.few
theorem q62 {e:u1p} (h:EngR e) (id:Int) {k:ByteArray} (hk:k.size≤1048576):t0c (e,id,k)=some (p5o e id k):=by
  have ho:=h.olen
  have h1:u0n e=some e:=u5l e.1 e.2 h.fewB h.fewO
  have h2:=t17 e id (by omega)
  have h3:=t2c k (by unfold u0l; omega)
  rw [q22]; unfold r0u p5o u99
  simp only [h1,h2,h3,zOb]
  by_cases hn:u1z e.2 id<0
  · simp only [hn,decide_true,cond_true,if_true]
    rfl
  · obtain ⟨j,hj,e1,e2,e3⟩:=u07 hn
    have hR:=h.open_ _ (List.getElem_mem hj)
    simp only [hn,decide_false,cond_false,if_false]
    cases hok:u4d k with
    | false=>rfl
    | true=>
      have c:=s7i (r:=(k,k)) hR.1 hR.2.1 (by rw [r5t]; exact hok)
      simp only [Bool.not_true,cond_false,e1,y7t hj,cond_true,zTn,y8k (t:=u0z) hj,c,zOb,e2,Bool.true_eq_false,if_false]
      cases hr:(t05 e.2[j] (k,k)).2 with
      | false=>rfl
      | true=>
        have g:=r53 (t05 e.2[j] (k,k)).1 e.1.1 k (q58 hR.1.tiny) (by have:=h.tinyO.vl; omega)
        simp only [Bool.not_true,cond_false,g,zOb,if_true,r7w]
        rfl
theorem q14 {e:u1p} (h:EngR e) (id:Int) {r:t3u} (hk:r.1.size≤1048576∧r.2.size≤1048576):u51 (e,id,r)=some (p0g e id r):=by
  have ho:=h.olen
  have h1:u0n e=some e:=u5l e.1 e.2 h.fewB h.fewO
  have h2:=t17 e id (by omega)
  have h3:=s4k r (by unfold u0l; omega) (by unfold u0l; omega)
  rw [r65]; unfold s49 p0g u99
  simp only [h1,h2,h3,zOb]
  by_cases hn:u1z e.2 id<0
  · simp only [hn,decide_true,cond_true,if_true]
    rfl
  · obtain ⟨j,hj,e1,e2,e3⟩:=u07 hn
    have hR:=h.open_ _ (List.getElem_mem hj)
    simp only [hn,decide_false,cond_false,if_false]
    cases hok:u1f r with
    | false=>rfl
    | true=>
      have c:=s7i (r:=r) hR.1 hR.2.1 hok
      simp only [Bool.not_true,cond_false,e1,y7t hj,cond_true,zTn,y8k (t:=u0z) hj,c,zOb,e2,Bool.true_eq_false,if_false]
      cases hr:(t05 e.2[j] r).2 with
      | false=>rfl
      | true=>
        have g:=q4h (t05 e.2[j] r).1 e.1.1 r (q58 hR.1.tiny) (by have:=h.tinyO.vl; omega)
        simp only [Bool.not_true,cond_false,g,zOb,if_true,q5y]
        rfl
theorem q68 {e:u1p} (h:EngR e) (id:Int) {w:WrT} (hw:w.1.size≤1048576):t0d (e,id,w)=some (q3q e id w):=by
  have ho:=h.olen
  have h1:u0n e=some e:=u5l e.1 e.2 h.fewB h.fewO
  have h2:=t17 e id (by omega)
  have h3:=s4o w (by unfold u0l; omega)
  rw [q27]; unfold r0z q3q
  simp only [h1,h2,h3,zOb]
  by_cases hn:u1z e.2 id<0
  · simp only [hn,decide_true,cond_true,if_true]
  · obtain ⟨j,hj,e1,e2,e3⟩:=u07 hn
    have hR:=h.open_ _ (List.getElem_mem hj)
    simp only [hn,decide_false,cond_false,if_false]
    cases hok:u1q w with
    | false=>rfl
    | true=>
      have c:=q19 (w:=w) hR.1 hR.2.1 hok
      simp only [Bool.not_true,cond_false,e1,y7t hj,cond_true,zTn,y8k (t:=u0z) hj,c,zOb,e2,Bool.true_eq_false,if_false]
      cases hr:(t3y e.2[j] w).2 with
      | false=>rfl
      | true=>rfl
theorem s1i (b:u0i) (o:List u0f) (id:Int) (hb:fewB b) (ho:o.length≤1000):u0w ((b,o),id)=some ((u25 b (o.filter fun x=> !decide (x.1=id))),o.filter fun x=> !decide (x.1=id)):=by
  have L:=t52 u8u o (fun a i=>((b,o),id,a,i)) (fun x:u0f=> !decide (x.1=id)) (fun x=>x) (fun a=> .inl ((b,o),a)) (by omega)
    (fun a _=>by rw [s6z]; simp only [t2y,u0b,Nat.lt_irrefl,decide_false,cond_false])
    (fun i hi a ha=>by
      rw [s6z]; simp only [t2y,u0b,hi,decide_true,cond_true,y7t hi,zTn,y8k (t:=u0z) hi,List.length_singleton,u0r (show a.length+1≤1099511627776 by omega)]
      rw [y7l (by omega)])
  rw [List.map_id'] at L
  have L:u8u ((b,o),id, [],0)=_:=L
  have hl:=List.length_filter_le (fun x:u0f=> !decide (x.1=id)) o
  rw [q3j]; unfold r1b
  simp only [L,zOb,s1l b (o.filter fun x=> !decide (x.1=id)) hb (by omega)]
theorem q9j {e:u1p} (h:EngR e) (id:Int):t2k (e,id)=some (s59 e id):=by
  have ho:=h.olen
  have h1:u0n e=some e:=u5l e.1 e.2 h.fewB h.fewO
  have h2:=t17 e id (by omega)
  have h3:u0w (e,id)=some (t2i e id):=s1i e.1 e.2 id h.fewB (by omega)
  rw [q47]; unfold r33 s59
  simp only [h1,h2,h3,zOb]
  by_cases hn:u1z e.2 id<0
  · simp only [hn,decide_true,cond_true,if_true]
  · simp only [hn,decide_false,cond_false,if_false]
end
section
theorem p64 {E:Type} (l:List E) (f g:E→Bool):l.any (fun x=>f x || g x)=(l.any f || l.any g):=by
  induction l with
  | nil=>rfl
  | cons x l ih=>
    simp only [List.any_cons,ih]
    cases f x<;>cases g x<;>cases l.any f<;>cases l.any g<;>rfl
theorem p3f {E:Type} (l:List E) (f g:E→Bool) (i:Bool):l.any (fun x=>f x && (i || g x))=((i && l.any f) || l.any fun x=>f x && g x):=by
  cases i
  · simp
  · simp only [Bool.true_or,Bool.and_true,Bool.true_and]
    cases h:l.any f with
    | true=>rfl
    | false=>
      rw [List.any_eq_false] at h
      symm
      rw [Bool.false_or,List.any_eq_false]
      intro x hx
      have:=h x hx
      simp [this]
theorem q4b (t:u0f) (l:List u0f) (ht:r7j t) (hl:q8l l):t88 (t,l)=some (r6f t l):=by
  obtain ⟨l1,l2⟩:=hl
  have L:=s9q u67 l (fun i=>(l,t,i)) (fun x=> !decide (x.1=t.1) && ((decide (x.2.1=2) || (decide (x.2.1=3) && decide (x.2.2.2.1 >t.2.2.1))) && r1w x.2.2.2.2.2.1 t.2.2.2.2.2.1)) (.inr true) (.inl ())
    (by rw [s3v]; simp only [t1f,u0b,Nat.lt_irrefl,decide_false,cond_false])
    (fun i hi=>by
      have h1:=q9k l[i].2.2.2.2.2.1 t.2.2.2.2.2.1 (t9z (l2 _ (List.getElem_mem hi)).2) (t9z ht.2)
      rw [s3v]
      simp only [t1f,u0b,hi,decide_true,cond_true,y7t hi,zTn,y8k (t:=u0z) hi,h1,zOb]
      rw [y7l (by omega)]
      cases decide (l[i].1=t.1)<;>cases decide (l[i].2.1=2)<;>cases decide (l[i].2.1=3)<;>cases decide (l[i].2.2.2.1 >t.2.2.1)<;>cases r1w l[i].2.2.2.2.2.1 t.2.2.2.2.2.1<;>rfl)
  rw [r89]; unfold s7s r6f
  have L:u67 (l,t,0)=_:=L
  simp only [L,zOb]
  cases l.any fun x:u0f=> !decide (x.1=t.1) && ((decide (x.2.1=2) || (decide (x.2.1=3) && decide (x.2.2.2.1 >t.2.2.1))) && r1w x.2.2.2.2.2.1 t.2.2.2.2.2.1)<;>rfl
theorem q4d (t:u0f) (l:List u0f) (ht:r7j t) (hl:q8l l):s11 (t,l)=some (p0z t l):=by
  obtain ⟨l1,l2⟩:=hl
  have L:=s9q t22 l (fun i=>(l,t,i)) (fun x=>p5p x && ahead x t) (.inr true) (.inl ())
    (by rw [r2i]; simp only [t6c,u0b,Nat.lt_irrefl,decide_false,cond_false])
    (fun i hi=>by
      have h1:=u9c l[i] t (t9z (l2 _ (List.getElem_mem hi)).1) (t9z ht.2)
      rw [r2i]
      simp only [t6c,u0b,hi,decide_true,cond_true,y7t hi,zTn,y8k (t:=u0z) hi,h1,zOb,p5p]
      rw [y7l (by omega)]
      cases decide (l[i].2.1=2)<;>cases decide (l[i].2.1=3)<;>cases ahead l[i] t<;>rfl)
  rw [q7g]; unfold r6a p0z
  have L:t22 (l,t,0)=_:=L
  simp only [L,zOb]
  cases l.any fun x=>p5p x && ahead x t<;>rfl
def q2j (t:u0f) (l:List u0f) (p:u0f):Bool:=
  (p5p p && (p.2.2.2.2.2.2.1 && ahead t p)) || (decide (p.2.1=2) && (ahead p t && (ahead t p || l.any fun x=>decide (x.2.1=2) && (!decide (x.1=t.1) && ahead x p))))
theorem p3j (t:u0f) (l:List u0f):r4f t l=((p0z t l && r1x t l) || l.any (q2j t l)):=by
  unfold r4f q2k
  rw [←p64]
  rfl
theorem r5y (t:u0f) (l:List u0f) (ht:r7j t) (hl:q8l l):t6j (t,l)=some (r4f t l):=by
  obtain ⟨l1,l2⟩:=hl
  have inner:∀(i:Nat) (hi:i<l.length),u4q (l,t,(i:Int),l[i],0)=some (bif (decide (l[i].2.1=2) && ahead l[i] t) && (l.any fun x=>decide (x.2.1=2) && (!decide (x.1=t.1) && ahead x l[i])) then .inr true else .inl (l,t,(i:Int))):=fun i hi=>by
    have g1:=u9c l[i] t (t9z (l2 _ (List.getElem_mem hi)).1) (t9z ht.2)
    cases hg:(decide (l[i].2.1=2) && ahead l[i] t) with
    | false=>
      have e0:u4q (l,t,(i:Int),l[i],0)=_:=t5y _
      rw [e0]
      simp only [u6y,g1,zOb,Bool.false_and,cond_false]
      cases decide ((0:Int)<(l.length:Int))
      · rfl
      · revert hg
        cases decide (l[i].2.1=2)<;>cases ahead l[i] t<;>simp
    | true=>
      rw [Bool.and_eq_true,decide_eq_true_eq] at hg
      obtain ⟨q1,q2⟩:=hg
      have L:=s9q u4q l (fun k=>(l,t,(i:Int),l[i],k)) (fun x=>decide (x.2.1=2) && (!decide (x.1=t.1) && ahead x l[i])) (.inr true) (.inl (l,t,(i:Int)))
        (by rw [t5y]; simp only [u6y,u0b,Nat.lt_irrefl,decide_false,cond_false,zOb])
        (fun k hk=>by
          have g2:=u9c l[k] l[i] (t9z (l2 _ (List.getElem_mem hk)).1) (t9z (l2 _ (List.getElem_mem hi)).2)
          rw [t5y]
          simp only [u6y,u0b,hk,decide_true,cond_true,q1,g1,q2,g2,y7t hk,zTn,y8k (t:=u0z) hk,zOb]
          rw [y7l (by omega)]
          cases decide (l[k].2.1=2)<;>cases decide (l[k].1=t.1)<;>cases ahead l[k] l[i] <;>rfl)
      rw [Bool.true_and]
      exact L
  have L:=s9q u8p l (fun i=>(l,t,i)) (q2j t l) (.inr true) (.inl ())
    (by rw [s6s]; simp only [t2t,u0b,Nat.lt_irrefl,decide_false,cond_false])
    (fun i hi=>by
      have g1:=u9c l[i] t (t9z (l2 _ (List.getElem_mem hi)).1) (t9z ht.2)
      have g2:=u9c t l[i] (t9z ht.1) (t9z (l2 _ (List.getElem_mem hi)).2)
      rw [s6s]
      simp only [t2t,u0b,hi,decide_true,cond_true,y7t hi,zTn,y8k (t:=u0z) hi,g1,g2,inner i hi,zOb,q2j,p5p]
      have ws:=y7l (i:=i) (by omega)
      cases decide (l[i].2.1=2)<;>cases decide (l[i].2.1=3)<;>cases l[i].2.2.2.2.2.2.1<;>cases ahead l[i] t<;>cases ahead t l[i] <;>cases (l.any fun x=>decide (x.2.1=2) && (!decide (x.1=t.1) && ahead x l[i]))<;>first | rfl | (simp only [Bool.and_self,Bool.and_false,Bool.false_and,Bool.true_and,Bool.or_false,Bool.or_true,Bool.false_or,cond_true,cond_false,zOb,ws]))
  rw [q2z]; unfold r0r
  have L:u8p (l,t,0)=_:=L
  simp only [q4d t l ht ⟨l1,l2⟩,r2o t l ht ⟨l1,l2⟩,L,zOb]
  rw [p3j]
  cases p0z t l<;>cases r1x t l<;>cases l.any (q2j t l)<;>rfl
theorem r4x (t:u0f) (l:List u0f) (ht:r7j t) (hl:q8l l):t3h (t,l)=some (t7j t l):=by
  obtain ⟨l1,l2⟩:=hl
  have inner:∀(i:Nat) (hi:i<l.length) (b:Bool),u3l (l,t,b,(i:Int),l[i],0)=some (bif (l.any fun y=>decide (y.2.1=2) && (!decide (y.1=t.1) && ahead l[i] y)) then .inr true else .inl (l,t,b,(i:Int))):=fun i hi b=>
    s9q u3l l (fun k=>(l,t,b,(i:Int),l[i],k)) (fun y=>decide (y.2.1=2) && (!decide (y.1=t.1) && ahead l[i] y)) (.inr true) (.inl (l,t,b,(i:Int)))
      (by rw [t5l]; simp only [u4y,u0b,Nat.lt_irrefl,decide_false,cond_false,zOb])
      (fun k hk=>by
        have g2:=u9c l[i] l[k] (t9z (l2 _ (List.getElem_mem hi)).1) (t9z (l2 _ (List.getElem_mem hk)).2)
        rw [t5l]
        simp only [u4y,u0b,hk,decide_true,cond_true,g2,y7t hk,zTn,y8k (t:=u0z) hk,zOb]
        rw [y7l (by omega)]
        cases decide (l[k].2.1=2)<;>cases decide (l[k].1=t.1)<;>cases ahead l[i] l[k] <;>rfl)
  have L:=s9q u3x l (fun i=>(l,t,p0z t l,i)) (fun x=>(decide (x.2.1=2) && ahead t x) && (p0z t l || l.any fun y=>decide (y.2.1=2) && (!decide (y.1=t.1) && ahead x y))) (.inr true) (.inl ())
    (by rw [t6b]; simp only [u5g,u0b,Nat.lt_irrefl,decide_false,cond_false])
    (fun i hi=>by
      have g2:=u9c t l[i] (t9z ht.1) (t9z (l2 _ (List.getElem_mem hi)).2)
      rw [t6b]
      simp only [u5g,u0b,hi,decide_true,cond_true,y7t hi,zTn,y8k (t:=u0z) hi,g2,inner i hi (p0z t l),zOb]
      have ws:=y7l (i:=i) (by omega)
      cases decide (l[i].2.1=2)<;>cases ahead t l[i] <;>cases p0z t l<;>cases (l.any fun y=>decide (y.2.1=2) && (!decide (y.1=t.1) && ahead l[i] y))<;>first | rfl | (simp only [Bool.and_self,Bool.and_false,Bool.false_and,Bool.true_and,Bool.or_false,Bool.or_true,Bool.false_or,Bool.not_true,Bool.not_false,cond_true,cond_false,zOb,ws]))
  rw [p3f] at L
  rw [r1m]; unfold t71 t7j r4p
  have L:u3x (l,t,p0z t l,0)=_:=L
  simp only [r5y t l ht ⟨l1,l2⟩,q4d t l ht ⟨l1,l2⟩,L,zOb]
  have e:q2k (fun x:u0f=> !decide (x.1=t.1)) t l=r4f t l:=rfl
  rw [e]
  cases r4f t l<;>cases ((p0z t l && l.any fun x=>decide (x.2.1=2) && ahead t x) || l.any fun x=>(decide (x.2.1=2) && ahead t x) && l.any fun y=>decide (y.2.1=2) && (!decide (y.1=t.1) && ahead x y))<;>rfl
theorem q8b (b:u0i) (hb:fewB b):t0h b=some (b.2.1++b.2.2.1):=by
  have h1:=hb.2.1.1
  have h2:=hb.2.2.1
  rw [q3i]; unfold r1a
  simp only [List.length_nil,Nat.zero_add,List.nil_append,u0r (show b.2.1.length≤1099511627776 by omega),u0r (show b.2.1.length+b.2.2.1.length≤1099511627776 by omega),cond_true]
theorem q0r {e:u1p} (h:EngR e) (id:Int):t8h (e,id)=some (s9x e id):=by
  have ho:=h.olen
  have h2:=t17 e id (by omega)
  have h3:=q8b e.1 h.fewB
  have h3:t0h e.1=some (t63 e):=h3
  have h4:=q5l e.1
  rw [q45]; unfold r31 s9x
  simp only [h2,h3,zOb]
  by_cases hn:u1z e.2 id<0
  · simp only [hn,decide_true,cond_true,if_true]
  · obtain ⟨j,hj,e1,e2,e3⟩:=u07 hn
    have hT:=(h.ot (List.getElem_mem hj)).few
    simp only [hn,decide_false,cond_false,if_false,e1,y7t hj,cond_true,zTn,y8k (t:=u0z) hj,q4b _ _ hT h.fewOth,r5y _ _ hT h.fewOth,h4,zOb,e2]
    have hn' : ¬((j:Int)<0):=by omega
    simp only [hn',decide_false,cond_false,if_false]
    cases r6f e.2[j] (t63 e)<;>cases r4f e.2[j] (t63 e)<;>cases r1r e.1<;>rfl
end
section
theorem q6a {b:u0i} {t:u0f} {n:ByteArray} (h: ¬(0≤u08 b n)):∃(k:Nat) (hk:k<(u1i b t n).2.2.1.length),u08 (u1i b t n) n=(k:Int)∧(u1i b t n).2.2.1[k] =u3d b t n:=by
  have hb:=p5x.mp (show u08 b n<0 by omega)
  have hm:u3d b t n∈(u1i b t n).2.2.1:=by
    show u3d b t n∈(b.2.2.1.filter fun x=>y3c x.2.2.2.2.2.2.2 n)++ [u3d b t n] ++(b.2.2.1.filter fun x=> !y3c x.2.2.2.2.2.2.2 n)
    simp
  have hn: ¬u08 (u1i b t n) n<0:=fun q=>p5x.mp q _ hm rfl
  obtain ⟨k,hk,e1,e2⟩:=t39 hn
  refine ⟨k,hk,e1,?_⟩
  have hx:=List.getElem_mem hk
  have hx:(u1i b t n).2.2.1[k] ∈(b.2.2.1.filter fun x=>y3c x.2.2.2.2.2.2.2 n)++ [u3d b t n] ++(b.2.2.1.filter fun x=> !y3c x.2.2.2.2.2.2.2 n):=hx
  simp only [List.mem_append,List.mem_filter,List.mem_singleton] at hx
  rcases hx with (q | q) | q
  · exact absurd e2 (hb _ q.1)
  · exact q
  · exact absurd e2 (hb _ q.1)
theorem EngR.mids {e:u1p} (h:EngR e):p3w e.1.2.2.2.1:=q7q h.base.cs
theorem q8d {e:u1p} (h:EngR e) {t:u0f} (ht:t∈e.2∨t∈e.1.2.2.1):u39 (e.1,t)=some (u1b e.1 t):=by
  have hT:TxnR t:=by
    rcases ht with q | q
    · exact (h.open_ t q).1
    · exact (h.base.ready t q).1
  rw [r3s e.1 t h.fewB hT.tiny.few,r8f h.mids (r3d hT.id)]
theorem q8e {e:u1p} (h:EngR e) {t:u0f} (ht:t∈e.2∨t∈e.1.2.2.1):tinyB (u1b e.1 t):=by
  have hT:TxnR t:=by
    rcases ht with q | q
    · exact (h.open_ t q).1
    · exact (h.base.ready t q).1
  exact s6m h.base hT.tiny
theorem p2d (b:u0i) (t:u0f) (hb:b.2.1.length≤1000):∃(k:Nat) (hk:k<(u1b b t).2.1.length),IntKind.i64.wrap (((u1b b t).2.1.length:Int) - (1:Int))=(k:Int)∧(u1b b t).2.1[k] =u8w b t:=by
  have e:(u1b b t).2.1=b.2.1++ [u8w b t] :=rfl
  refine ⟨b.2.1.length,by rw [e]; simp,?_,?_⟩
  · rw [e,List.length_append,List.length_singleton,y4y (by omega) (by omega)]; omega
  · simp [e]
theorem p1t {b:u0i} {t:u0f} (h:r7j t):r7j (u8w b t):=h
theorem q60 {e:u1p} (h:EngR e) (id:Int):s1z (e,id)=some (u30 e id):=by
  have ho:=h.olen
  have h1:u0n e=some e:=u5l e.1 e.2 h.fewB h.fewO
  have h2:=t17 e id (by omega)
  have hJ:=q0r h id
  have hO:u0w (e,id)=some (t2i e id):=s1i e.1 e.2 id h.fewB (by omega)
  rw [q2y]; unfold r0q u30
  simp only [h1,hJ,zOb]
  by_cases c1:s9x e id=1
  · simp only [c1,decide_true,cond_true,if_true]
    rfl
  · simp only [c1,decide_false,cond_false,if_false]
    by_cases c0:s9x e id=0
    · obtain ⟨hn,_,_,_⟩:=r3a c0
      obtain ⟨j,hj,e1,e2,e3⟩:=u07 hn
      have hm:e.2[j] ∈e.2∨e.2[j] ∈e.1.2.2.1:= .inl (List.getElem_mem hj)
      have hT:=q8d h hm
      obtain ⟨k,hk,f1,f2⟩:=p2d e.1 e.2[j] (by have:=h.base.plen; omega)
      have hC:=u6x (u8w e.1 e.2[j]) (p1t (h.ot (List.getElem_mem hj)).few)
      have hO2:=s1i (u1b e.1 e.2[j]) e.2 id (q8e h hm).few (by omega)
      simp only [c0,decide_true,Bool.not_true,cond_false,if_true,h2,e1,y7t hj,cond_true,zTn,y8k (t:=u0z) hj,hT,f1,y7t hk,y8k (t:=u0z) hk,f2,hC,hO2,zOb,e2]
      show some _=some (r6h e e.2[j],_)
      unfold r6h u6f
      rw [e3]
      rfl
    · simp only [c0,decide_false,Bool.not_false,cond_true,if_false,hO,zOb]
      rfl
theorem q4j {e:u1p} (h:EngR e) (id:Int) {n:ByteArray} (hn1:n.size≤1048576):t9a (e,id,n)=some (t5q e id n):=by
  have ho:=h.olen
  have h1:u0n e=some e:=u5l e.1 e.2 h.fewB h.fewO
  have h2:=t17 e id (by omega)
  have hK:=t2c n (by unfold u0l; omega)
  have hA:u1k (e.1,n)=some (u08 e.1 n):=t5a e.1 n (by have:=h.base.rlen; omega)
  have hJ:=q0r h id
  have hL:t0h e.1=some (t63 e):=q8b e.1 h.fewB
  have hO:u0w (e,id)=some (t2i e id):=s1i e.1 e.2 id h.fewB (by omega)
  rw [r9g]; unfold s7z t5q
  simp only [h1,h2,zOb]
  by_cases c1:u1z e.2 id<0
  · simp only [c1,decide_true,cond_true,if_true]
    rfl
  simp only [c1,decide_false,cond_false,if_false,hK,zOb]
  cases c2:u4d n with
  | false=>simp only [Bool.not_false,cond_true,if_true]; rfl
  | true=>
  simp only [Bool.not_true,cond_false,Bool.true_eq_false,if_false,hA,zOb]
  by_cases c3:0≤u08 e.1 n
  · have c3' :decide (u08 e.1 n≥0)=true:=by simpa using c3
    simp only [c3,c3',cond_true,if_true]
    rfl
  have c3' :decide (u08 e.1 n≥0)=false:=by simpa using c3
  simp only [c3,c3',cond_false,if_false,hJ,zOb]
  unfold s62
  by_cases c4:s9x e id=0
  · obtain ⟨j,hj,e1,e2,e3⟩:=u07 c1
    have hT:=(h.ot (List.getElem_mem hj))
    have hTR:=(h.open_ _ (List.getElem_mem hj)).1
    have hD:=r4x e.2[j] (t63 e) hT.few h.fewOth
    have hr:=h.base.rlen
    simp only [c4,decide_true,e1,y7t hj,cond_true,zTn,y8k (t:=u0z) hj,hL,hD,zOb,e2,ne_eq,not_true_eq_false,if_false]
    cases c5:t7j e.2[j] (t63 e) with
    | true=>
      have d5:decide ((5:Int)=0)=false:=by decide
      simp only [cond_true,d5,cond_false,zOb,Bool.not_false,hO,if_true]
      rfl
    | false=>
      simp only [cond_false,zOb,Bool.false_eq_true,if_false]
      have e6:decide ((e.1.2.2.1.length:Int)≥3)=decide (3≤e.1.2.2.1.length):=by simp; omega
      simp only [e6]
      by_cases c6:3≤e.1.2.2.1.length
      · have d3:decide ((3:Int)=0)=false:=by decide
        simp only [c6,decide_true,cond_true,d3,Bool.not_false,hO,zOb,if_true]
        rfl
      · have hM:=s7h e.1 e.2[j] n h.fewB hT.few (r3d hTR.id)
        obtain ⟨k,hk,f1,f2⟩:=q6a (t:=e.2[j]) c3
        have hns:n.size≤100:=by have:=(u12 c2).2; omega
        have hMt:=q1f (t:=e.2[j]) h.base hT hns
        have hA2:u1k (u1i e.1 e.2[j] n,n)=some ((k:Nat):Int):=by rw [t5a _ n (by have:=hMt.rl; omega),f1]
        have hC:=u6x (u3d e.1 e.2[j] n) hT.few
        have hO2:=s1i (u1i e.1 e.2[j] n) e.2 id hMt.few (by omega)
        simp only [c6,decide_false,cond_false,decide_true,Bool.not_true,y7t hj,cond_true,y8k (t:=u0z) hj,hM,hA2,y7t hk,zTn,y8k (t:=u0z) hk,f2,hC,hO2,zOb,if_false,if_true]
        show some _=some (p2f e e.2[j] n,_)
        unfold p2f u6f
        rw [e3]
        rfl
  · simp only [c4,decide_false,cond_false,zOb,Bool.not_false,cond_true,hO,ne_eq,not_false_eq_true,if_true,if_false]
    rfl
theorem q1w {e:u1p} (h:EngR e) (n:ByteArray) (yes:Bool):s10 (e,n,yes)=some (r28 e n yes):=by
  have ho:=h.olen
  have h1:u0n e=some e:=u5l e.1 e.2 h.fewB h.fewO
  have hA:u1k (e.1,n)=some (u08 e.1 n):=t5a e.1 n (by have:=h.base.rlen; omega)
  have hF:=q5l e.1
  have hG:=r3o e.1 n h.fewB
  have hG2:=s1l (t81 e.1 n) e.2 (q07 h.tinyO).few (by omega)
  rw [q21]; unfold r0t r28
  simp only [h1,hA,hF,zOb]
  by_cases c1:u08 e.1 n<0
  · simp only [c1,decide_true,cond_true,if_true]
    rfl
  obtain ⟨k,hk,f1,f2⟩:=t39 c1
  simp only [c1,decide_false,cond_false,if_false]
  cases yes with
  | false=>simp only [cond_false,zOb,hG,hG2,Bool.false_eq_true,false_and,if_false]; rfl
  | true=>
    have hm:e.1.2.2.1[k] ∈e.2∨e.1.2.2.1[k] ∈e.1.2.2.1:= .inr (List.getElem_mem hk)
    have hT:=q8d h hm
    have hT2:=s1l (u1b e.1 e.1.2.2.1[k]) e.2 (q8e h hm).few (by omega)
    simp only [cond_true,true_and]
    cases r1r e.1 with
    | true=>rfl
    | false=>
      simp only [cond_false,Bool.false_eq_true,if_false,if_true,f1,y7t hk,cond_true,zTn,y8k (t:=u0z) hk,hT,hT2,zOb]
      rfl
end
section
theorem q5e:emp.size≤100:=by decide
theorem s9d (r:s1e):(u06 r).1.size≤20000:=by
  cases h:t0i r with
  | false=>unfold u06; rw [h]; exact Nat.le_trans q5e (by omega)
  | true=>
    have hR:=p45.mp h
    rw [u87 hR]
    have:=s0q hR
    show (s7e (s6h r)).size≤20000
    rw [q1h]; omega
def q7d (b:u0i):s1e:=(4,u5c,emp,false,b)
theorem q4r {b:u0i} (h:tinyB b):tinyR (q7d b):=⟨t4b,q5e,h⟩
theorem q0q (d:u0j) (hd:o1b.wt d≤10000000):t3o d=some (orD d (p0y d)):=by
  have h1:=q9l d (by omega)
  have h2:=u8i (q7d (p15 (u0k d)).1) (q4r (p16 _)).wt
  have h3:=u9d d (by unfold u0l; omega)
  rw [r7h]; unfold s5m
  simp only [h1,zOb]
  have h2:u2g (4,(0,0,0,0, [], [],false,(⟨#[]⟩:ByteArray)),(⟨#[]⟩:ByteArray),false,(p15 (u0k d)).1)=_:=h2
  simp only [h2,h3,zOb]
  unfold p0y
  cases hp:t0m (u0k d) with
  | none=>
    have e:(p15 (u0k d)).2=false:=by unfold p15; rw [hp]
    simp only [e,Bool.not_false,cond_true,zOb]
    rfl
  | some b=>
    have e:p15 (u0k d)=(b,true):=by unfold p15; rw [hp]
    simp only [e,Bool.not_true,cond_false,zOb]
    have e4:q7d b=(4,u5c,emp,false,b):=rfl
    rw [e4]
    cases ht:(u06 (4,u5c,emp,false,b)).2 with
    | false=>simp only [Bool.not_false,cond_true,Bool.false_eq_true,if_false]; rfl
    | true=>
      have h5:=r8v (d:=d) (l:= [(u06 (4,u5c,emp,false,b)).1]) hd (by simp) (fun t h=>by
        rw [List.mem_singleton.mp h]; have:=s9d (4,u5c,emp,false,b); omega)
      simp only [Bool.not_true,cond_false,if_true,h5,zOb]
theorem p5j {d z:u0j} (h:p0y d=some z):u26 z=true:=by
  unfold p0y at h
  split at h
  · cases h
  · split at h
    · exact (q1k h).2.1
    · cases h
theorem r51 (s:u1m) (r:s1e) (hd:o1b.wt s.2≤10000000) (hr:tinyR r):t03 (s,r)=some ((t2b s.2 r).isSome,s.1,(t2b s.2 r).getD s.2):=by
  have h1:=u8i r hr.wt
  have hl:=s9d r
  have h2:=s7g s.2 (u06 r).1 hd (by omega)
  have h3:=q0q s.2 hd
  rw [r99]; unfold s8t t2b
  simp only [h1,zOb]
  cases ht:(u06 r).2 with
  | false=>simp only [Bool.not_false,cond_true,Bool.false_eq_true,if_false]; rfl
  | true=>
    simp only [Bool.not_true,cond_false,if_true,h2,zOb]
    cases ha:append_ s.2 (u06 r).1 with
    | some y=>rfl
    | none=>
      simp only [orD,Bool.not_false,cond_true,h3,zOb]
      cases hz:p0y s.2 with
      | none=>rfl
      | some z=>
        have h4:=s7g z (u06 r).1 (s61 (p5j hz)) (by omega)
        simp only [orD,Bool.not_true,cond_false,h4,zOb]
        cases hq:append_ z (u06 r).1<;>rfl
theorem t2n:tinyR q37:=⟨t4b,by decide,u7u⟩
theorem q4t {e:u1p} (h:EngR e) (id:Int):tinyR (u30 e id).2.1:=by
  unfold u30
  split
  · exact t2n
  · split
    · rename_i c1 c0
      obtain ⟨hn,_,_,_⟩:=r3a c0
      obtain ⟨j,hj,e1,e2,e3⟩:=u07 hn
      rw [e2]
      exact ⟨(h.ot (List.getElem_mem hj)).like rfl rfl q5e,q5e,u7u⟩
    · exact t2n
theorem p0a {e:u1p} (h:EngR e) (id:Int) (n:ByteArray):tinyR (t5q e id n).2.1:=by
  unfold t5q
  split
  · exact t2n
  · rename_i hn
    split
    · exact t2n
    · rename_i hk
      split
      · exact t2n
      · split
        · obtain ⟨j,hj,e1,e2,e3⟩:=u07 hn
          rw [e2]
          have hk:u4d n=true:=by simpa using hk
          have:=(u12 hk).2
          exact ⟨(h.ot (List.getElem_mem hj)).like rfl rfl (by show n.size≤100; omega),q5e,u7u⟩
        · exact t2n
theorem p1w {e:u1p} (n:ByteArray) (hn:n.size≤100) (y:Bool):tinyR (r28 e n y).2.1:=by
  unfold r28
  split
  · exact t2n
  · split
    · exact t2n
    · split
      · exact ⟨t4b,hn,u7u⟩
      · exact ⟨t4b,hn,u7u⟩
theorem q0d {s:u1m} (h:EngR s.1) (hd:u26 s.2=true) (id:Int):u4v (s,id)=some ((t3q s id).2,(t3q s id).1):=by
  have ho:=h.olen
  have h1:=q60 h id
  have h2:=r51 s (u30 s.1 id).2.1 (s61 hd) (q4t h id)
  have h3:u0n s.1=some s.1:=u5l s.1.1 s.1.2 h.fewB h.fewO
  have hO:u0w (s.1,id)=some (t2i s.1 id):=s1i s.1.1 s.1.2 id h.fewB (by omega)
  rw [r5j]; unfold s2o t3q
  simp only [h1,zOb]
  by_cases c:(u30 s.1 id).2.2=0
  · simp only [c,decide_true,cond_true,if_true,h2,zOb]
    cases t2b s.2 (u30 s.1 id).2.1 with
    | none=>simp only [Option.isSome_none,Bool.not_false,cond_true,h3,hO,zOb]; rfl
    | some d=>rfl
  · simp only [c,decide_false,cond_false,if_false]
theorem r7r {s:u1m} (h:EngR s.1) (hd:u26 s.2=true) (id:Int) {n:ByteArray} (hn:n.size≤1048576):u4g (s,id,n)=some ((s6k s id n).2,(s6k s id n).1):=by
  have ho:=h.olen
  have h1:=q4j h id hn
  have h2:=r51 s (t5q s.1 id n).2.1 (s61 hd) (p0a h id n)
  have h3:u0n s.1=some s.1:=u5l s.1.1 s.1.2 h.fewB h.fewO
  have hO:u0w (s.1,id)=some (t2i s.1 id):=s1i s.1.1 s.1.2 id h.fewB (by omega)
  rw [r27]; unfold t9v s6k
  simp only [h1,zOb]
  by_cases c:(t5q s.1 id n).2.2=0
  · simp only [c,decide_true,cond_true,if_true,h2,zOb]
    cases t2b s.2 (t5q s.1 id n).2.1 with
    | none=>simp only [Option.isSome_none,Bool.not_false,cond_true,h3,hO,zOb]; rfl
    | some d=>rfl
  · simp only [c,decide_false,cond_false,if_false]
theorem p5n {e:u1p} {n:ByteArray} {y:Bool} (c:(r28 e n y).2.2≠0):(r28 e n y).1=e:=by
  unfold r28 at c ⊢
  split
  · rfl
  · split
    · rfl
    · rename_i h1 h2
      rw [if_neg h1,if_neg h2] at c
      split at c<;>exact absurd rfl c
theorem q0e {s:u1m} (h:EngR s.1) (hd:u26 s.2=true) {n:ByteArray} (hn:n.size≤100) (y:Bool):u4w (s,n,y)=some ((r8c s n y).2,(r8c s n y).1):=by
  have h1:=q1w h n y
  have h2:=r51 s (r28 s.1 n y).2.1 (s61 hd) (p1w n hn y)
  rw [r5k]; unfold s2p r8c
  simp only [h1,zOb]
  by_cases c:(r28 s.1 n y).2.2=0
  · simp only [c,decide_true,cond_true,if_true,h2,zOb]
    cases t2b s.2 (r28 s.1 n y).2.1 with
    | none=>rfl
    | some d=>rfl
  · simp only [c,decide_false,cond_false,if_false,p5n c]
theorem q9h {s:u1m} (h:EngR s.1) (hd:o1b.wt s.2≤10000000):t9i s=some s:=by
  have h1:u0n s.1=some s.1:=u5l s.1.1 s.1.2 h.fewB h.fewO
  have h2:=u9d s.2 (by unfold u0l; omega)
  rw [r98]; unfold s8s
  simp only [h1,h2,zOb]
theorem p3a {s:u1m} (h:EngR s.1) (hd:u26 s.2=true):u5y s=some (p3l s):=by
  have h1:=q9h h (s61 hd)
  have h2:=q0q s.2 (s61 hd)
  rw [r6y]; unfold s42 p3l
  simp only [h1,h2,zOb]
  cases p0y s.2<;>rfl
end
section
def PQR:List ByteArray:= [⟨#[112]⟩,⟨#[113]⟩,⟨#[114]⟩]
theorem q8c {y:ByteArray} (h:y∈PQR):y.size≤100:=by
  simp only [PQR,List.mem_cons,List.not_mem_nil,or_false] at h
  rcases h with rfl | rfl | rfl<;>decide
theorem Stt.mono {k m:Nat} {s:u1m} (h:Stt k s) (hm:k≤m):Stt m s:=by
  obtain ⟨b,h1,h2⟩:=h.sync
  exact ⟨⟨b,h1,by omega⟩,h.dom,h.num.mono hm⟩
theorem Stt.log {k:Nat} {s:u1m} (h:Stt k s):u26 s.2=true:=by obtain ⟨b,h1,_⟩:=h.sync; exact h1.log
def RN (e:u1p):Prop:= ∀x∈e.1.2.2.1,x.2.2.2.2.2.2.2∈PQR
theorem RN.sub {e e' :u1p} (h:RN e) (hs:∀x∈e'.1.2.2.1,∃y∈e.1.2.2.1,x.2.2.2.2.2.2.2=y.2.2.2.2.2.2.2):RN e' :=fun x hx=>by
  obtain ⟨y,hy,q⟩:=hs x hx
  rw [q]; exact h y hy
theorem RN.same {e e' :u1p} (h:RN e) (hs:e'.1.2.2.1=e.1.2.2.1):RN e' :=h.sub fun x hx=>⟨x,by rw [←hs]; exact hx,rfl⟩
theorem RN.through {e:u1p} (h:RN e) (t:u0f) (o:List u0f):RN (u25 (u1b e.1 t) o,o):=h.sub fun x hx=>by
  have hx:x∈(e.1.2.2.1.filter fun x=> !decide (x.1=t.1)).map (q5j (u8w e.1 t)):=hx
  obtain ⟨y,hy,rfl⟩:=List.mem_map.mp hx
  exact ⟨y,(List.mem_filter.mp hy).1,rfl⟩
theorem RN.commit {e:u1p} (h:RN e) (id:Int):RN (u30 e id).1:=by
  unfold u30
  split
  · exact h
  · split
    · exact h.through _ _
    · exact h.same rfl
theorem RN.prep {e:u1p} (h:RN e) (id:Int) {n:ByteArray} (hn:n∈PQR):RN (t5q e id n).1:=by
  unfold t5q
  split
  · exact h
  · split
    · exact h
    · split
      · exact h
      · split
        · intro x hx
          have hx:x∈(e.1.2.2.1.filter fun x=>y3c x.2.2.2.2.2.2.2 n)++ [u3d e.1 (u10 e id) n] ++(e.1.2.2.1.filter fun x=> !y3c x.2.2.2.2.2.2.2 n):=hx
          simp only [List.mem_append,List.mem_filter,List.mem_singleton] at hx
          rcases hx with (q | rfl) | q
          · exact h x q.1
          · exact hn
          · exact h x q.1
        · exact h.same rfl
theorem RN.fin {e:u1p} (h:RN e) (n:ByteArray) (y:Bool):RN (r28 e n y).1:=by
  unfold r28
  split
  · exact h
  · split
    · exact h
    · split
      · exact h.through _ _
      · exact h.sub fun x hx=>⟨x,(List.mem_filter.mp hx).1,rfl⟩
theorem RN.look {e:u1p} (h:RN e) {id:Int} {r:t3u} {right:Bool} :RN (u99 e id r right).1:=by
  unfold u99
  split
  · exact h
  · split
    · exact h
    · split<;>exact h
theorem RN.put {e:u1p} (h:RN e) {id:Int} {w:WrT} :RN (q3q e id w).1:=by
  unfold q3q
  split
  · exact h
  · split
    · exact h
    · split<;>exact h
theorem RN.begin {e:u1p} (h:RN e):RN (t2g e).1:=by
  unfold t2g
  split<;>exact h
theorem RN.leave {e:u1p} (h:RN e) (id:Int):RN (s59 e id).1:=by
  unfold s59
  split<;>exact h
structure SttN (k:Nat) (s:u1m):Prop extends Stt k s where
  rn:RN s.1
theorem SttN.mono {k m:Nat} {s:u1m} (h:SttN k s) (hm:k≤m):SttN m s:=⟨h.toStt.mono hm,h.rn⟩
theorem SttN.begin {k:Nat} {s:u1m} (h:SttN k s):SttN (k+1) ((t2g s.1).1,s.2):=⟨h.toStt.begin,h.rn.begin⟩
theorem SttN.look {k:Nat} {s:u1m} (h:SttN k s) {id:Int} {r:t3u} {right:Bool} (hr:right=true→u1f r=true) (hk:r.1∈K5∧r.2∈K5):SttN (k+1) ((u99 s.1 id r right).1,s.2):=⟨h.toStt.look hr hk,h.rn.look⟩
theorem SttN.put {k:Nat} {s:u1m} (h:SttN k s) {id:Int} {w:WrT} (hk:w.1∈K5):SttN (k+1) ((q3q s.1 id w).1,s.2):=⟨h.toStt.put hk,h.rn.put⟩
theorem SttN.leave {k:Nat} {s:u1m} (h:SttN k s) (id:Int):SttN (k+1) ((s59 s.1 id).1,s.2):=⟨h.toStt.leave id,h.rn.leave id⟩
theorem SttN.fix {k:Nat} {s:u1m} (h:SttN k s):SttN (k+1) (p3l s).1:=⟨h.toStt.fix,by
  unfold p3l
  split<;>exact h.rn⟩
theorem SttN.commit {k:Nat} {s:u1m} (h:SttN k s) (id:Int):SttN (k+1) (t3q s id).1:=⟨h.toStt.commit id,by
  unfold t3q
  split
  · split
    · exact h.rn.commit id
    · exact h.rn.same rfl
  · exact h.rn.commit id⟩
theorem SttN.prep {k:Nat} {s:u1m} (h:SttN k s) (id:Int) {n:ByteArray} (hn:n∈PQR):SttN (k+1) (s6k s id n).1:=⟨h.toStt.prep id n,by
  unfold s6k
  split
  · split
    · exact h.rn.prep id hn
    · exact h.rn.same rfl
  · exact h.rn.prep id hn⟩
theorem SttN.fin {k:Nat} {s:u1m} (h:SttN k s) (n:ByteArray) (y:Bool):SttN (k+1) (r8c s n y).1:=⟨h.toStt.fin n y,by
  unfold r8c
  split
  · split
    · exact h.rn.fin n y
    · exact h.rn
  · exact h.rn⟩
theorem q15:∃s,t7f ()=some s∧SttN 0 s:=by
  obtain ⟨d,h1,h2,h3⟩:=q63
  have h0:t5t ()=some (q6s, []):=by
    rw [r5a]; unfold s2f
    rw [s8w]; rfl
  refine ⟨((q6s, []),d),?_,?_⟩
  · rw [r66]; unfold s5a
    simp only [h0,h1,zOb]
  · have hp:t0m (u0k d)=some q6s:=by rw [h3]; rfl
    have hE:EngR ((q6s, []):u1p):=p66.mp (by decide)
    have hL:Like0 q6s q6s:=⟨by decide,rfl,rfl,rfl⟩
    have hN:q6s.2.2.2.2≤((0:Nat):Int)+1:=by decide
    have hM:Num 0 ((q6s, []):u1p):=⟨by decide,by decide⟩
    have hD:DomE ((q6s, []):u1p):=⟨⟨(fun v hv=>by cases hv),(fun t ht=>by cases ht)⟩,(fun t ht=>by cases ht)⟩
    exact ⟨⟨⟨q6s,⟨hE,h2,hp,q8p,hL⟩,hN⟩,hD,hM⟩,fun x hx=>by cases hx⟩
def DrS (F:Option (Src × u1m)) (k:Nat):Prop:= ∃s t,F=some (s,t)∧s.ok∧SttN k t
theorem p3c {y:ByteArray} (h:y∈K5):y.size≤1048576:=by have:=(u12 (p3d h)).2; omega
theorem q6g {k:Nat} {s:u1m} (h:SttN k s) (id:Int) {c:Src} (hc:c.ok):DrS ((u1u (c,(16:Int))).bind fun (y20:(Int × ((List Int) × (Int × Int))))=>(((bif (decide (id=(0:Int))) then (some true) else (some (decide (y20.1<(3:Int))))):Option Bool).bind fun j21=>(bif j21 then ((u86 s.1).bind fun y22=>(some (y20.2,(y22.1,s.2)))) else (bif (decide (y20.1<(6:Int))) then ((u37 y20.2).bind fun y23=>((t0c (s.1,(id,y23.1))).bind fun y24=>(some (y23.2,(y24.1,s.2))))) else (bif (decide (y20.1<(7:Int))) then ((u54 y20.2).bind fun y25=>((u51 (s.1,(id,y25.1))).bind fun y26=>(some (y25.2,(y26.1,s.2))))) else (bif (decide (y20.1<(10:Int))) then ((u55 y20.2).bind fun y27=>((t0d (s.1,(id,y27.1))).bind fun y28=>(some (y27.2,(y28.1,s.2))))) else (bif (decide (y20.1<(13:Int))) then ((u4v (s,id)).bind fun y29=>(some (y20.2,y29.2))) else (bif (decide (y20.1=(13:Int))) then ((u1l (y20.2,PQR)).bind fun y30=>((u4g (s,(id,y30.1))).bind fun y31=>(some (y30.2,y31.2)))) else (bif (decide (y20.1=(14:Int))) then ((u1l (y20.2,PQR)).bind fun y32=>((u1w (y32.2,(2:Int))).bind fun (y33:(Bool × ((List Int) × (Int × Int))))=>((u4w (s,(y32.1,y33.1))).bind fun y34=>(some (y33.2,y34.2))))) else ((u1w (y20.2,(3:Int))).bind fun (y35:(Bool × ((List Int) × (Int × Int))))=>(bif y35.1 then ((u5y s).bind fun y36=>(some (y35.2,y36.1))) else ((t2k (s.1,id)).bind fun y37=>(some (y35.2,(y37.1,s.2))))))))))))))) (k+1):=by
  obtain ⟨y,c1,e1,k1,r1⟩:=s1g hc (n:=16) (by omega)
  have hE:=h.eng
  simp only [e1,zOb]
  have key:∀j:Bool,DrS ((some j).bind fun j21=>(bif j21 then ((u86 s.1).bind fun y22=>(some (c1,(y22.1,s.2)))) else (bif (decide (y<(6:Int))) then ((u37 c1).bind fun y23=>((t0c (s.1,(id,y23.1))).bind fun y24=>(some (y23.2,(y24.1,s.2))))) else (bif (decide (y<(7:Int))) then ((u54 c1).bind fun y25=>((u51 (s.1,(id,y25.1))).bind fun y26=>(some (y25.2,(y26.1,s.2))))) else (bif (decide (y<(10:Int))) then ((u55 c1).bind fun y27=>((t0d (s.1,(id,y27.1))).bind fun y28=>(some (y27.2,(y28.1,s.2))))) else (bif (decide (y<(13:Int))) then ((u4v (s,id)).bind fun y29=>(some (c1,y29.2))) else (bif (decide (y=(13:Int))) then ((u1l (c1,PQR)).bind fun y30=>((u4g (s,(id,y30.1))).bind fun y31=>(some (y30.2,y31.2)))) else (bif (decide (y=(14:Int))) then ((u1l (c1,PQR)).bind fun y32=>((u1w (y32.2,(2:Int))).bind fun (y33:(Bool × ((List Int) × (Int × Int))))=>((u4w (s,(y32.1,y33.1))).bind fun y34=>(some (y33.2,y34.2))))) else ((u1w (c1,(3:Int))).bind fun (y35:(Bool × ((List Int) × (Int × Int))))=>(bif y35.1 then ((u5y s).bind fun y36=>(some (y35.2,y36.1))) else ((t2k (s.1,id)).bind fun y37=>(some (y35.2,(y37.1,s.2)))))))))))))) (k+1):=by
    intro j
    simp only [zOb]
    cases j with
    | true=>
      simp only [cond_true,q0n hE,zOb]
      exact ⟨_,_,rfl,k1,h.begin⟩
    | false=>
      simp only [cond_false]
      cases decide (y<(6:Int)) with
      | true=>
        obtain ⟨z,c2,e2,k2,r2⟩:=q1x k1
        simp only [cond_true,e2,zOb,q62 hE id (p3c r2)]
        refine ⟨_,_,rfl,k2,?_⟩
        have:=h.look (id:=id) (r:=(z,z)) (right:=u4d z) (fun hk=>by rw [r5t]; exact hk) ⟨r2,r2⟩
        unfold p5o
        split<;>exact this
      | false=>
      simp only [cond_false]
      cases decide (y<(7:Int)) with
      | true=>
        obtain ⟨z,c2,e2,k2,r2⟩:=p1g k1
        simp only [cond_true,e2,zOb,q14 hE id ⟨p3c r2.1,p3c r2.2.1⟩]
        refine ⟨_,_,rfl,k2,?_⟩
        have:=h.look (id:=id) (r:=z) (right:=u1f z) (fun hk=>hk) ⟨r2.1,r2.2.1⟩
        unfold p0g
        split<;>exact this
      | false=>
      simp only [cond_false]
      cases decide (y<(10:Int)) with
      | true=>
        obtain ⟨z,c2,e2,k2,r2⟩:=p1j k1
        simp only [cond_true,e2,zOb,q68 hE id (p3c r2.1)]
        exact ⟨_,_,rfl,k2,h.put r2.1⟩
      | false=>
      simp only [cond_false]
      cases decide (y<(13:Int)) with
      | true=>
        simp only [cond_true,q0d hE h.log,zOb]
        exact ⟨_,_,rfl,k1,h.commit id⟩
      | false=>
      simp only [cond_false]
      cases decide (y=(13:Int)) with
      | true=>
        obtain ⟨z,c2,e2,k2,r2⟩:=q10 k1 (l:=PQR) (by decide)
        have hz:=q8c r2
        simp only [cond_true,e2,zOb,r7r hE h.log id (show z.size≤1048576 by omega)]
        exact ⟨_,_,rfl,k2,h.prep id r2⟩
      | false=>
      simp only [cond_false]
      cases decide (y=(14:Int)) with
      | true=>
        obtain ⟨z,c2,e2,k2,r2⟩:=q10 k1 (l:=PQR) (by decide)
        obtain ⟨z2,c3,e3,k3,r3⟩:=q1z k2 (n:=2) (by omega)
        simp only [cond_true,e2,e3,zOb,q0e hE h.log (q8c r2)]
        exact ⟨_,_,rfl,k3,h.fin z z2⟩
      | false=>
        obtain ⟨z2,c3,e3,k3,r3⟩:=q1z k1 (n:=3) (by omega)
        simp only [cond_false,e3,zOb]
        cases z2 with
        | true=>
          simp only [cond_true,p3a hE h.log,zOb]
          exact ⟨_,_,rfl,k3,h.fix⟩
        | false=>
          simp only [cond_false,q9j hE,zOb]
          exact ⟨_,_,rfl,k3,h.leave id⟩
  cases decide (id=0) with
  | true=>simp only [cond_true]; exact key true
  | false=>simp only [cond_false]; exact key _
theorem p1h {k:Nat} {s:u1m} (h:SttN k s) {c:Src} (hc:c.ok):DrS (t9j (c,s)) (k+1):=by
  rw [q0a]; unfold s8u
  cases hd:decide ((s.1.2.length:Int) >0) with
  | true=>
    have hl:0<s.1.2.length:=by simpa using hd
    obtain ⟨y,c1,e1,k1,r1⟩:=s1g hc (n:=(s.1.2.length:Int)) (by omega)
    obtain ⟨i,rfl⟩:∃i:Nat,y=(i:Int):=⟨y.toNat,by omega⟩
    have hi:i<s.1.2.length:=by omega
    simp only [hd,cond_true,e1,zOb,y7t hi]
    exact q6g h _ k1
  | false=>
    simp only [hd,cond_false]
    exact q6g h 0 hc
theorem p1i (m:Nat) (hm:1≤m∧m≤1000) {c:Src} (hc:c.ok):∃(s:u1m) (c' :Src),t48 (c,(m:Int))=some (s,c')∧c'.ok∧SttN (m+1) s:=by
  have key:∀(d i:Nat) (c:Src) (j s:u1m),c.ok→SttN i s→m+2≤i+d→i≤m+1→ ∃(c' :Src) (s' :u1m),u7k (c,(m:Int),j,s,(i:Int))=some (.inl (c',j,s'))∧c'.ok∧SttN (m+1) s' :=by
    intro d
    induction d with
    | zero=>intro i c j s _ _ h1 h2; omega
    | succ d ih=>
      intro i c j s hc hs hd hi
      obtain ⟨y,c1,e1,k1,r1⟩:=s1g hc (n:=(m:Int)) (by omega)
      rw [r5n]
      simp only [t5o,e1,zOb]
      rw [y4y (n:=2+y) (by omega) (by omega)]
      by_cases hy:(i:Int)<2+y
      · obtain ⟨c2,s2,e2,k2,r2⟩:=p1h hs k1
        simp only [hy,decide_true,cond_true,e2,zOb]
        rw [y7l (by omega)]
        exact ih (i+1) c2 j s2 k2 r2 (by omega) (by omega)
      · simp only [hy,decide_false,cond_false]
        exact ⟨_,_,rfl,k1,hs.mono hi⟩
  obtain ⟨s0,e0,h0⟩:=q15
  obtain ⟨c',s',e1,k1,r1⟩:=key (m+2) 0 c (((([], [], [],0,0):u0i), []),([], [])) s0 hc h0 (by omega) (by omega)
  rw [q0b]; unfold s8v
  have e1:u7k (c,(m:Int),(((([], [], [],0,0):u0i), []),([], [])),s0,0)=_:=e1
  simp only [e0,e1,zOb]
  exact ⟨_,_,rfl,k1,r1⟩
end
section
theorem r52 (t:u0f) (l:List u1v) (k:ByteArray) (ht:r7j t) (hl:l.length≤4194304):t6h (t,l,k)=some (t2j t l k):=by
  have h8:=ht.2
  have hq:∀x∈t.2.2.2.2.2.1,t4w (x,k)=some (z7o x.1 k):=fun x _=>by rw [r87]; rfl
  have L:=Q.first (T:=u1n) (c:=ByteArray) (W:=u02) (q:=t4w) (p:=fun w:WrT=>z7o w.1 k) (fun x=>u6a x) t.2.2.2.2.2.1 k (by omega) hq
  rw [q2o]; unfold r0g t2j
  simp only [q41,r3x,u7o,u22,L,zOb]
  by_cases hk:u0m (fun w:WrT=>z7o w.1 k) t.2.2.2.2.2.1<t.2.2.2.2.2.1.length
  · have c0:decide (((u0m (fun w:WrT=>z7o w.1 k) t.2.2.2.2.2.1:Nat):Int)≥0)=true:=by simp
    simp only [if_pos hk,zOb,c0,cond_true,y7t hk,zTn,y8k (t:=u1n) hk]
    cases (t.2.2.2.2.2.1[u0m (fun w:WrT=>z7o w.1 k) t.2.2.2.2.2.1]).2.2<;>rfl
  · have c0:decide ((-1:Int)≥0)=false:=rfl
    simp only [if_neg hk,zOb,c0,cond_false,q69 l k _ (show l.length≤1099511627776 by omega)]
theorem q93 (a b:List ByteArray):s1q (s1q a++b)=s1q (a++b):=
  Asc.ext (t2h _).1 (t2h _).1 fun x=>by
    rw [(t2h _).2,(t2h _).2,List.mem_append,List.mem_append,(t2h _).2]
theorem q4g (t:u0f) (l:List u1v) (r:t3u) (ht:r7j t) (hl:l.length≤4194304):t83 (t,l,r)=some (s6b t l r):=by
  have h8:=ht.2
  obtain ⟨a0,ha0⟩:∃a0,a0=s1q (l.map fun v=>v.1):=⟨_,rfl⟩
  have hk0:a0.length≤4194304:=by
    have:=s5s (l.map fun v=>v.1)
    rw [List.length_map,←ha0] at this; omega
  have L:=t5b u63 t.2.2.2.2.2.1 (fun (a:List ByteArray) i=>(l,t,r,a,t.2.2.2.2.2.1,(t.2.2.2.2.2.1.length:Int),i)) (fun a (w:WrT)=>a++ [w.1]) (fun a=> .inl (l,t,r,a)) (fun i a=>a.length=a0.length+i)
    (fun a _=>by rw [s3p]; simp only [t09,u0b,Nat.lt_irrefl,decide_false,cond_false])
    (fun i hi a ha=>⟨by simp [ha]; omega,by
      rw [s3p]
      simp only [t09,u0b,hi,decide_true,cond_true,y7t hi,zTn,y8k (t:=u1n) hi,List.length_singleton,u0r (show a.length+1≤1099511627776 by omega)]
      rw [y7l (by omega)]⟩) a0 rfl
  have fo:∀(ws:List WrT) (a:List ByteArray),ws.foldl (fun a (w:WrT)=>a++ [w.1]) a=a++ws.map fun w=>w.1:=by
    intro ws
    induction ws with
    | nil=>intro a; simp
    | cons w ws ih=>intro a; rw [List.foldl_cons,ih,List.map_cons,List.append_assoc]; rfl
  rw [fo] at L
  have hall:(a0++t.2.2.2.2.2.1.map fun w=>w.1).length≤6000000:=by simp; omega
  have h1:y7a (a0++t.2.2.2.2.2.1.map fun w=>w.1)=some (y4h (a0++t.2.2.2.2.2.1.map fun w=>w.1)):=by
    unfold y7a; rw [u0r (by omega)]; rfl
  have h2:y0m (y4h (a0++t.2.2.2.2.2.1.map fun w=>w.1))=some (s1q (a0++t.2.2.2.2.2.1.map fun w=>w.1)):=by
    unfold y0m; rw [r8b,u0r (by omega)]; rfl
  obtain ⟨ks,hks⟩:∃ks,ks=s1q (a0++t.2.2.2.2.2.1.map fun w=>w.1):=⟨_,rfl⟩
  have hkl:ks.length≤6000000:=by
    rw [hks]; have:=s5s (a0++t.2.2.2.2.2.1.map fun w=>w.1); omega
  have L2:=t52 u90 ks (fun a i=>(l,t,r,a,ks,(ks.length:Int),i)) (fun k=>(t2j t l k).2 && inR r k) (fun k=>(k,(t2j t l k).1)) (fun a=> .inl a) (by omega)
    (fun a _=>by rw [s0w]; simp only [u9g,u0b,Nat.lt_irrefl,decide_false,cond_false])
    (fun i hi a ha=>by
      rw [s0w]; simp only [u9g,u0b,hi,decide_true,cond_true,y7t hi,zTn,y8k (t:=Ty.str) hi,r52 t l _ ht hl,q4e,zOb,List.length_singleton,u0r (show a.length+1≤1099511627776 by omega)]
      rw [y7l (by omega)]
      cases (t2j t l ks[i]).2<;>rfl)
  have L:u63 (l,t,r,a0,t.2.2.2.2.2.1,(t.2.2.2.2.2.1.length:Int),0)=_:=L
  rw [r81]; unfold s7l
  simp only [p1e l (show l.length≤1099511627775 by omega),zOb]
  rw [←ha0]
  simp only [L,zOb,u8x,u6b,h1,h2]
  rw [←hks]
  simp only [L2,zOb]
  rw [hks,ha0,q93]
  rfl
theorem r8r (l:List t3u) (r:t3u) (hl:l.length≤1048576):u35 (l,r)=some (p1z l r):=by
  have L:=s7b u1t (u0m (fun x:t3u=>z7o x.1 r.1 && z7o x.2 r.2) l) (fun (_:Unit) i=>(l,r,(l.length:Int),i)) (fun _ _=>if u0m (fun x:t3u=>z7o x.1 r.1 && z7o x.2 r.2) l<l.length then .inr ((u0m (fun x:t3u=>z7o x.1 r.1 && z7o x.2 r.2) l:Nat):Int) else .inl ()) (fun _ _=>True)
    (fun a _=>by
      have hle:=u5t (fun x:t3u=>z7o x.1 r.1 && z7o x.2 r.2) l
      rw [u9b]
      by_cases hk:u0m (fun x:t3u=>z7o x.1 r.1 && z7o x.2 r.2) l<l.length
      · have hy:=u4i hk
        simp only [u1r,u0b,hk,decide_true,cond_true,y7t hk,zTn,y8k (t:=u8d) hk,t6o r.1,t6o r.2,Bool.and_true,hy,if_true]
      · simp only [u1r,u0b,hk,decide_false,cond_false,if_false])
    (fun i a hi _=> .inr ⟨(),trivial,rfl,by
      have hle:=u5t (fun x:t3u=>z7o x.1 r.1 && z7o x.2 r.2) l
      have hil:i<l.length:=by omega
      have hn:=u5u hil hi
      rw [u9b]
      simp only [u1r,u0b,hil,decide_true,cond_true,y7t hil,zTn,y8k (t:=u8d) hil,t6o r.1,t6o r.2,Bool.and_true,hn,cond_false]
      rw [y7l (by omega)]⟩) 0 () (Nat.zero_le _) trivial
  have L:u1t (l,r,(l.length:Int),0)=_:=L
  rw [t6f]; unfold u8c p1z
  rw [t80]; unfold t0s
  simp only [L,zOb]
  rw [←r7l]
  by_cases hk:u0m (fun x:t3u=>z7o x.1 r.1 && z7o x.2 r.2) l<l.length
  · simp [hk]
  · simp [hk]
theorem r8u {t:u0f} {r:t3u} (ht:TxnR t) (h1:t.2.1=1) (hr:u1f r=true):t5r (t,r)=some (t05 t r):=by
  have hy:=ht.tiny
  have hw:=hy.wt
  have hl:=ht.rlen
  have c0:=r5x t hy.few
  have c1:=t6n t (by unfold u0l; omega)
  have k:=u12 (s:=r.1) (by unfold u1f at hr; simp only [Bool.and_eq_true] at hr; exact hr.1)
  have k' :=u12 (s:=r.2) (by unfold u1f at hr; simp only [Bool.and_eq_true] at hr; exact hr.2.1)
  have c2:=s4j r (by unfold u0l; omega) (by unfold u0l; omega)
  have ok:=r2e.mpr ht
  have L:=r8r t.2.2.2.2.1 r (by omega)
  rw [r42]; unfold s18 t05
  simp only [c0,c1,c2,ok,hr,h1,zOb,decide_true,Bool.not_true,cond_false,L]
  cases p1z t.2.2.2.2.1 r
  · have e8:decide ((t.2.2.2.2.1.length:Int)=8)= !decide (t.2.2.2.2.1.length<8):=by by_cases c:t.2.2.2.2.1.length<8<;>simp [c] <;>omega
    simp only [cond_false,e8,Bool.false_eq_true,if_false]
    by_cases c:t.2.2.2.2.1.length<8
    · simp only [c,decide_true,Bool.not_true,cond_false,List.length_singleton,u0r (show t.2.2.2.2.1.length+1≤1099511627776 by omega),cond_true,if_true]
      unfold p62
      rw [h1]
    · simp only [c,decide_false,Bool.not_false,cond_true,if_false]
  · rfl
theorem p1o {l:List WrT} (w:WrT) (h:l.Pairwise fun a b=>y3c a.1 b.1=true):
    l.filter (fun x=>y3c x.1 w.1)=l.takeWhile (fun x=>y3c x.1 w.1)∧l.filter (fun x=> !(y3c x.1 w.1 || z7o x.1 w.1))=(l.dropWhile fun x=>y3c x.1 w.1).filter fun x=> !z7o x.1 w.1:=by
  induction l with
  | nil=>exact ⟨rfl,rfl⟩
  | cons a l ih=>
    rw [List.pairwise_cons] at h
    obtain ⟨h1,h2⟩:=ih h.2
    cases hc:y3c a.1 w.1 with
    | true=>
      simp only [List.filter_cons,List.takeWhile_cons,List.dropWhile_cons,hc,if_true,Bool.true_or,Bool.not_true,Bool.false_eq_true,if_false]
      exact ⟨by rw [h1],h2⟩
    | false=>
      have no:∀x∈l,y3c x.1 w.1=false:=fun x hx=>by
        cases q:y3c x.1 w.1 with
        | false=>rfl
        | true=>rw [s6i (h.1 x hx) q] at hc; cases hc
      simp only [List.filter_cons,List.takeWhile_cons,List.dropWhile_cons,hc,Bool.false_eq_true,if_false,Bool.false_or]
      refine ⟨List.filter_eq_nil_iff.mpr fun x hx=>by rw [no x hx]; simp,?_⟩
      have e:l.filter (fun x=> !(y3c x.1 w.1 || z7o x.1 w.1))=l.filter fun x=> !z7o x.1 w.1:=List.filter_congr fun x hx=>by rw [no x hx,Bool.false_or]
      rw [e]
theorem q11 {l:List WrT} (w:WrT) (h:l.Pairwise fun a b=>y3c a.1 b.1=true) (hl:l.length≤1048576):t66 (l,w)=some (s91 l w):=by
  obtain ⟨s1,s2⟩:=p1o w h
  obtain ⟨f1,f2,f3,f4,f5⟩:=r2d (fun x:WrT=>y3c x.1 w.1) l
  have L:=p5h u5m l (fun i=>(w,l,i)) (fun x:WrT=>y3c x.1 w.1) (fun i=> .inl (w,l,i)) (.inl (w,l,(l.length:Int)))
    (by rw [s0x]; simp only [u9h,u0b,Nat.lt_irrefl,decide_false,cond_false,zOb])
    (fun i hi=>by
      rw [s0x]
      simp only [u9h,u0b,hi,decide_true,cond_true,y7t hi,zTn,y8k (t:=u1n) hi,zOb]
      rw [y7l (by omega)])
  obtain ⟨k,hk⟩:∃k,k=(l.takeWhile fun x:WrT=>y3c x.1 w.1).length:=⟨_,rfl⟩
  rw [←hk] at L f1 f2 f3 f4
  have L:u5m (w,l,0)=some (.inl (w,l,(k:Int))):=by
    rw [L]
    by_cases c:k<l.length
    · rw [if_pos c]
    · rw [if_neg c]; congr 4; omega
  have hd:l.dropWhile (fun x:WrT=>y3c x.1 w.1)=l.drop k:=by
    have e:=List.takeWhile_append_dropWhile (p:=fun x:WrT=>y3c x.1 w.1) (l:=l)
    have e2:=List.take_append_drop k l
    rw [←f4] at e2
    exact (List.append_cancel_left (e.trans e2.symm))
  have hp:s91 l w=l.take k++ [w] ++(l.drop k).filter fun x=> !z7o x.1 w.1:=by
    unfold s91; rw [s1,s2,hd,f4]
  rw [r6o]; unfold s4t
  simp only [u0r (show l.length≤1099511627776 by omega),cond_true,L,zOb,u0b]
  have ins:u4n (l,(k:Int), [w])=some (l.take k++ [w] ++l.drop k):=by
    rw [t7x]
    unfold y2q
    have h1:decide ((0:Int)≤(k:Int))=true:=by simp
    have h2:decide ((k:Int)≤(l.length:Int))=true:=by simpa using f1
    simp only [h1,h2,u0r (show l.length+1≤1099511627776 by omega),Bool.true_and,List.length_singleton,zTn]
    rfl
  by_cases c:k<l.length
  · have hgt:∀x∈l.drop (k+1),y3c l[k].1 x.1=true:=fun x hx=>by
      rw [List.mem_iff_getElem] at hx
      obtain ⟨i,hi,rfl⟩:=hx
      rw [List.getElem_drop]
      rw [List.length_drop] at hi
      exact List.pairwise_iff_getElem.mp h k (k+1+i) c (by omega) (by omega)
    have hne:∀x∈l.drop (k+1),z7o x.1 w.1=false:=fun x hx=>by
      have q:=hgt x hx
      rw [r8d]
      intro e
      rw [e] at q
      have:=f3 c
      rw [q] at this; cases this
    have hdr:l.drop k=l[k] ::l.drop (k+1):=List.drop_eq_getElem_cons c
    have hft:(l.drop (k+1)).filter (fun x=> !z7o x.1 w.1)=l.drop (k+1):=List.filter_eq_self.mpr fun x hx=>by rw [hne x hx]; rfl
    simp only [c,decide_true,cond_true,y7t c,zTn,y8k (t:=u1n) c,zOb]
    cases he:z7o l[k].1 w.1 with
    | true=>
      simp only [cond_true]
      rw [hp,hdr,List.filter_cons,he,hft]
      simp only [Bool.not_true,Bool.false_eq_true,if_false]
      rw [List.set_eq_take_append_cons_drop,if_pos c,List.append_assoc]
      rfl
    | false=>
      simp only [cond_false,ins,zOb]
      rw [hp]
      congr 2
      rw [hdr,List.filter_cons,he,hft]
      rfl
  · have hk2:l.drop k= [] :=List.drop_of_length_le (by omega)
    simp only [c,decide_false,cond_false,zOb,ins]
    rw [hp,hk2]
    rfl
theorem p2u {t:u0f} (ht:TxnR t) (l:List WrT):u5b (p01 t l)=u2x l:=by
  cases h:u2x l with
  | true=>exact r2e.mpr (p46 ht h)
  | false=>
    cases q:u5b (p01 t l) with
    | false=>rfl
    | true=>have:=(r2e.mp q).ws; have:u2x l=true:=this; rw [this] at h; cases h
theorem q18 {t:u0f} {w:WrT} (ht:TxnR t) (h1:t.2.1=1) (hw:u1q w=true):t67 (t,w)=some (t3y t w):=by
  have hy:=ht.tiny
  have hyw:=hy.wt
  obtain ⟨wa,wb,ht8⟩:=p47.mp ht.ws
  have hl:=q8v t.2.2.2.2.2.1 w
  have c0:=r5x t hy.few
  have c1:=t6n t (by unfold u0l; omega)
  have c2:=s4n w (by have:=q31 hw; unfold u0l; omega)
  have c3:=q11 (l:=t.2.2.2.2.2.1) w wb (by omega)
  have c4:=t6n (p01 t (s91 t.2.2.2.2.2.1 w)) (by
    have:=q6o (l:=s91 t.2.2.2.2.2.1 w) (by omega) (q51 ht.ws hw)
    have e1:=q6i t
    have e2:=q6i (p01 t (s91 t.2.2.2.2.2.1 w))
    have e3:(p01 t (s91 t.2.2.2.2.2.1 w)).2.2.2.2.1=t.2.2.2.2.1:=rfl
    have e4:(p01 t (s91 t.2.2.2.2.2.1 w)).2.2.2.2.2.1=s91 t.2.2.2.2.2.1 w:=rfl
    have e5:(p01 t (s91 t.2.2.2.2.2.1 w)).2.2.2.2.2.2.2=t.2.2.2.2.2.2.2:=rfl
    rw [e3,e4,e5] at e2
    unfold u0l; omega)
  have ok:=r2e.mpr ht
  have e:p01 t (s91 t.2.2.2.2.2.1 w)=(t.1,t.2.1,t.2.2.1,t.2.2.2.1,t.2.2.2.2.1,s91 t.2.2.2.2.2.1 w,t.2.2.2.2.2.2):=rfl
  rw [p2u ht,r2j ht.ws hw] at c4
  rw [e,h1] at c4
  rw [r6r]; unfold s4v t3y
  simp only [c0,c1,c2,c3,c4,ok,hw,h1,zOb,decide_true,Bool.not_true,cond_false]
  by_cases c:(s91 t.2.2.2.2.2.1 w).length≤8
  · simp only [c,decide_true,Bool.not_true,cond_false,if_true]
    rw [e,h1]
  · simp only [c,decide_false,Bool.not_false,cond_true,if_false]
end
section
theorem q1s {e:u1p} (h:EngR e):u3i e=some e:=q9g e.1 e.2 h.fewB h.fewO
theorem q9e {e:u1p} (h:EngR e):s6c e=some (t2g e):=by
  have ho:=h.olen
  have hn:=h.base.next
  have h1:=q1s h
  have h2:=s99 e (by have:=h.tinyO.wt; have:=r2b (l:=e.2) (by omega) (fun t ht=>h.ot ht); have:=q5f e; unfold u0l; omega)
  have hk:=p66.mpr h
  have b1:decide ((e.2.length:Int)=4)= !decide (e.2.length<4):=by by_cases c:e.2.length<4<;>simp [c] <;>omega
  have b2:decide (e.1.2.2.2.2=9999)= !decide (e.1.2.2.2.2<9999):=by by_cases c:e.1.2.2.2.2<9999<;>simp [c] <;>omega
  rw [q4x]; unfold r3t t2g
  simp only [h1,h2,hk,zOb,Bool.not_true,cond_false,b1,b2,List.length_singleton,u0r (show e.2.length+1≤1099511627776 by omega),cond_true]
  by_cases c1:e.2.length<4
  · by_cases c2:e.1.2.2.2.2<9999
    · simp only [c1,c2,decide_true,Bool.not_true,cond_false,zOb,and_self,if_true,t8x (n:=e.1.2.2.2.2) (r3d hn)]
      rfl
    · simp only [c1,c2,decide_true,decide_false,Bool.not_true,Bool.not_false,cond_false,cond_true,zOb,and_false,if_false]
  · simp only [c1,decide_false,Bool.not_false,cond_true,zOb,false_and,if_false]
theorem q0t {e:u1p} (h:EngR e) (id:Int) {r:t3u} {right:Bool} (hr:right=true→u1f r=true):t8g (e,id,r,right)=some ((u99 e id r right).1,u1z e.2 id,(u99 e id r right).2):=by
  have ho:=h.olen
  have h1:=q1s h
  have h2:=t6q e id (by omega)
  rw [q42]; unfold r3y u99
  simp only [h1,h2,zOb]
  by_cases hn:u1z e.2 id<0
  · simp only [hn,decide_true,cond_true,if_true]
  · obtain ⟨j,hj,e1,e2,e3⟩:=u07 hn
    have hR:=h.open_ _ (List.getElem_mem hj)
    simp only [hn,decide_false,cond_false,if_false]
    cases hok:right with
    | false=>rfl
    | true=>
      have c:=r8u (r:=r) hR.1 hR.2.1 (hr hok)
      simp only [Bool.not_true,cond_false,e1,y7t hj,cond_true,zTn,y8k (t:=u0z) hj,c,zOb,e2,Bool.true_eq_false,if_false]
      cases hq:(t05 e.2[j] r).2 with
      | false=>rfl
      | true=>rfl
theorem p43 {e:u1p} {id:Int} {r:t3u} {right:Bool} (h:(u99 e id r right).2=0): ¬u1z e.2 id<0:=by
  intro hn
  unfold u99 at h
  rw [if_pos hn] at h
  exact (by decide: ¬((1:Int)=0)) h
theorem r5z {e:u1p} (h:EngR e) (id:Int) {k:ByteArray} (hk:k.size≤1048576):u43 (e,id,k)=some (p5o e id k):=by
  have h3:=t6m k (by unfold u0l; omega)
  have hr:=q0t h id (r:=(k,k)) (right:=u4d k) (fun q=>by rw [r5t]; exact q)
  rw [q2m]; unfold r0e p5o
  simp only [h3,hr,zOb]
  by_cases c:(u99 e id (k,k) (u4d k)).2=0
  · obtain ⟨j,hj,e1,e2,e3⟩:=u07 (p43 c)
    have g:=r52 e.2[j] e.1.1 k (h.ot (List.getElem_mem hj)).few (by have:=h.tinyO.vl; omega)
    simp only [c,decide_true,Bool.not_true,cond_false,e1,y7t hj,cond_true,zTn,y8k (t:=u0z) hj,g,zOb,if_true,e2]
  · simp only [c,decide_false,Bool.not_false,cond_true,if_false]
    rfl
theorem q13 {e:u1p} (h:EngR e) (id:Int) {r:t3u} (hk:r.1.size≤1048576∧r.2.size≤1048576):t3e (e,id,r)=some (p0g e id r):=by
  have h3:=s4j r (by unfold u0l; omega) (by unfold u0l; omega)
  have hr:=q0t h id (r:=r) (right:=u1f r) (fun q=>q)
  rw [r6p]; unfold s4u p0g
  simp only [h3,hr,zOb]
  by_cases c:(u99 e id r (u1f r)).2=0
  · obtain ⟨j,hj,e1,e2,e3⟩:=u07 (p43 c)
    have g:=q4g e.2[j] e.1.1 r (h.ot (List.getElem_mem hj)).few (by have:=h.tinyO.vl; omega)
    simp only [c,decide_true,Bool.not_true,cond_false,e1,y7t hj,cond_true,zTn,y8k (t:=u0z) hj,g,zOb,if_true,e2]
  · simp only [c,decide_false,Bool.not_false,cond_true,if_false]
theorem q67 {e:u1p} (h:EngR e) (id:Int) {w:WrT} (hw:w.1.size≤1048576):t3d (e,id,w)=some (q3q e id w):=by
  have ho:=h.olen
  have h1:=q1s h
  have h2:=t6q e id (by omega)
  have h3:=s4n w (by unfold u0l; omega)
  rw [q2p]; unfold r0h q3q
  simp only [h1,h2,h3,zOb]
  by_cases hn:u1z e.2 id<0
  · simp only [hn,decide_true,cond_true,if_true]
  · obtain ⟨j,hj,e1,e2,e3⟩:=u07 hn
    have hR:=h.open_ _ (List.getElem_mem hj)
    simp only [hn,decide_false,cond_false,if_false]
    cases hok:u1q w with
    | false=>rfl
    | true=>
      have c:=q18 (w:=w) hR.1 hR.2.1 hok
      simp only [Bool.not_true,cond_false,e1,y7t hj,cond_true,zTn,y8k (t:=u0z) hj,c,zOb,e2,Bool.true_eq_false,if_false]
      cases hr:(t3y e.2[j] w).2 with
      | false=>rfl
      | true=>rfl
theorem q4p {e:u1p} (h:EngR e) (id:Int):t86 (e,id)=some (e.1,u6f e id):=by
  have ho:=h.olen
  have h1:=q1s h
  have h2:=r8s e.2 id (by omega)
  rw [r88]; unfold s7q
  simp only [h1,h2,zOb]
  rfl
theorem q9i {e:u1p} (h:EngR e) (id:Int):t8f (e,id)=some (s59 e id):=by
  have ho:=h.olen
  have h1:=q4p h id
  have h2:=t6q e id (by omega)
  have h3:=q7a e.1 (u6f e id) h.fewB (by have:=p4d e id; omega)
  rw [q4z]; unfold r3v s59
  simp only [h1,h2,zOb]
  by_cases hn:u1z e.2 id<0
  · simp only [hn,decide_true,cond_true,if_true,p2o hn]
  · simp only [hn,decide_false,cond_false,if_false,h3,zOb]
    rfl
theorem p12 {e:u1p} {id:Int} (h: ¬u1z e.2 id<0):s59 e id=(t2i e id,0):=by unfold s59; rw [if_neg h]
end
section
theorem q89 {l:List u1v} (hA:VAsc l) {a s:Int} (h:a≤s) (k v:ByteArray):
    (∃x∈u1d l a,x.1=k∧vCs x≤s∧x.2.2.1=false∧x.2.1=v∧ ∀y∈u1d l a,y.1=k→vCs y≤s→vCs y≤vCs x)↔
    ∃x∈l,x.1=k∧vCs x≤s∧x.2.2.1=false∧x.2.1=v∧ ∀y∈l,y.1=k→vCs y≤s→vCs y≤vCs x:=by
  constructor
  · rintro ⟨x,hx,h1,h2,h3,h4,h5⟩
    obtain ⟨m1,m2⟩:=(u3h hA).mp hx
    refine ⟨x,m1,h1,h2,h3,h4,fun y hy q1 q2=> ?_⟩
    obtain ⟨z,hz,z1,z2,z3⟩:=p11 (s:=s) (k:=k) l ⟨y,hy,q1,q2⟩
    have hzy:=z3 y hy q1 q2
    have hzx:=z3 x m1 h1 h2
    by_cases hza:vCs z >a
    · have:=h5 z ((u3h hA).mpr ⟨hz, .inl hza⟩) z1 z2
      omega
    · rcases m2 with c | ⟨c,_⟩
      · omega
      · have:=c.2 z hz (z1.trans h1.symm) (by omega)
        omega
  · rintro ⟨x,hx,h1,h2,h3,h4,h5⟩
    refine ⟨x,(u3h hA).mpr ⟨hx,?_⟩,h1,h2,h3,h4,fun y hy q1 q2=>h5 y ((u3h hA).mp hy).1 q1 q2⟩
    by_cases c:vCs x >a
    · exact .inl c
    · exact .inr ⟨⟨by omega,fun y hy q1 q2=>h5 y hy (q1.trans h1) (by omega)⟩, .inl h3⟩
theorem q72 {l:List u1v} (hA:VAsc l) {a s:Int} (h:a≤s) (k:ByteArray):u3p (u1d l a) k s=u3p l k s:=by
  have hT:=u89 hA a
  have I1:=fun v=>r5u (u1d l a) k v s hT.uni
  have I2:=fun v=>r5u l k v s hA.uni
  have I:∀v,((u3p (u1d l a) k s).2=true∧(u3p (u1d l a) k s).1=v)↔((u3p l k s).2=true∧(u3p l k s).1=v):=fun v=>by
    rw [I1,I2]; exact q89 hA h k v
  have no:∀(l:List u1v),(u3p l k s).2=false→(u3p l k s).1=emp:=fun l h=>by
    unfold u3p at h ⊢
    split
    · rfl
    · rename_i c; rw [if_neg c] at h; cases h
  apply Prod.ext
  · cases q:(u3p l k s).2 with
    | true=>exact ((I _).mpr ⟨q,rfl⟩).2
    | false=>
      rw [no _ q]
      refine no _ ?_
      cases q2:(u3p (u1d l a) k s).2 with
      | false=>rfl
      | true=>have:=((I _).mp ⟨q2,rfl⟩).1; rw [q] at this; cases this
  · cases q:(u3p l k s).2 with
    | true=>exact ((I _).mpr ⟨q,rfl⟩).1
    | false=>
      cases q2:(u3p (u1d l a) k s).2 with
      | false=>rfl
      | true=>have:=((I _).mp ⟨q2,rfl⟩).1; rw [q] at this; cases this
theorem p32 {r s:List PrT} (h1:PAsc r) (h2:PAsc s) (h:∀k v,(k,v)∈r↔(k,v)∈s):r=s:=by
  refine p2m (r:=fun a b:PrT=>y3c a.1 b.1=true) (fun x=>by rw [u5a]; simp) (fun x y q=>by rw [t8m q]; simp) h1 h2 fun x=>h x.1 x.2
theorem q71 {l:List u1v} (hA:VAsc l) {a s:Int} (h:a≤s) (r:t3u):t0k (u1d l a) r s=t0k l r s:=by
  refine p32 (q81 _ _ _) (q81 _ _ _) fun k v=> ?_
  rw [q8o _ _ _ _ _ (u89 hA a).uni,q8o _ _ _ _ _ hA.uni,q89 hA h k v]
theorem BaseR.asc {b:u0i} (h:BaseR b):VAsc b.1:=(p28.mp h.vs).2.1
theorem q75 {b:u0i} (h:BaseR b) (o:List u0f) (r:t3u):t0k (u25 b o).1 r b.2.2.2.1=t0k b.1 r b.2.2.2.1:=q71 h.asc (r7u b o) r
theorem q76 {b:u0i} (h:BaseR b) (o:List u0f) (k:ByteArray):u3p (u25 b o).1 k b.2.2.2.1=u3p b.1 k b.2.2.2.1:=q72 h.asc (r7u b o) k
theorem q1u {l:List Int} (hl:l.length≤1048576):∃e id,t0b l=some (e,id)∧EngR e∧ ¬u1z e.2 id<0∧DomE e∧Num 24 e∧RN e:=by
  obtain ⟨s,e1,k1⟩:=p6v hl
  obtain ⟨st,c1,e2,k2,r2⟩:=p1i 22 (by omega) k1
  have e2:t48 (s,22)=some (st,c1):=e2
  have e3:t5x s=some (st.1,c1):=by
    rw [r5i]; unfold s2n
    simp only [e2,zOb]
  have has:∀(e:u1p) (i:Nat) (hi:i<e.2.length),¬u1z e.2 e.2[i].1<0:=fun e i hi q=>p6k.mp q _ (List.getElem_mem hi) rfl
  rw [r2z]; unfold t9n
  simp only [e1,e3,zOb]
  cases hd:decide ((st.1.2.length:Int)=0) with
  | true=>
    have h0:st.1.2.length=0:=by simpa using hd
    have hn:st.1.1.2.2.2.2<9999:=by
      have:=r2.num.2
      have e:((22+1:Nat):Int)=23:=rfl
      omega
    have hb:t2g st.1=(r1f st.1,st.1.1.2.2.2.2,0):=by unfold t2g; rw [if_pos ⟨by omega,hn⟩]
    have hl1:(r1f st.1).2.length=1:=by unfold r1f; rw [List.length_append,h0]; rfl
    have hN:=(r2.num.begin:Num (23+1) (t2g st.1).1)
    rw [hb] at hN
    have hR:=q2e r2.eng
    rw [hb] at hR
    have hD:=r2.dom.begin
    rw [hb] at hD
    have hM:=r2.rn.begin
    rw [hb] at hM
    simp only [cond_true,q0n r2.eng,hb,zOb]
    obtain ⟨y,c2,e4,k4,r4⟩:=s1g k2 (n:=((r1f st.1).2.length:Int)) (by omega)
    obtain ⟨i,rfl⟩:∃i:Nat,y=(i:Int):=⟨y.toNat,by omega⟩
    have hi:i<(r1f st.1).2.length:=by omega
    simp only [e4,zOb,y7t hi,cond_true,zTn,y8k (t:=u0z) hi]
    exact ⟨_,_,rfl,hR,has _ i hi,hD,hN,hM⟩
  | false=>
    have h0:st.1.2.length≠0:=by simpa using hd
    obtain ⟨y,c2,e4,k4,r4⟩:=s1g k2 (n:=(st.1.2.length:Int)) (by omega)
    obtain ⟨i,rfl⟩:∃i:Nat,y=(i:Int):=⟨y.toNat,by omega⟩
    have hi:i<st.1.2.length:=by omega
    simp only [cond_false,e4,zOb,y7t hi,cond_true,zTn,y8k (t:=u0z) hi]
    exact ⟨_,_,rfl,r2.eng,has _ i hi,r2.dom,r2.num.mono (by omega),r2.rn⟩
theorem q1t {l:List Int} (hl:l.length≤1048576):∃e id,t0b l=some (e,id)∧EngR e∧ ¬u1z e.2 id<0∧DomE e∧Num 24 e:=by
  obtain ⟨e,id,h1,h2,h3,h4,h5,_⟩:=q1u hl
  exact ⟨e,id,h1,h2,h3,h4,h5⟩
end
section
theorem q6b (a b:List PrT) (ha:a.length≤1099511627776):t13 (a,b)=some (decide (a=b)):=by
  rw [r47]; unfold s2c
  by_cases h:a.length=b.length
  · have hz:(a.zip b).length=a.length:=by simp [h]
    have L:=s9q u78 (a.zip b) (fun i=>(a,b,i)) (fun p=> !(z7o p.1.1 p.2.1 && (z7o p.1.2 p.2.2 && true))) (.inr false) (.inl ())
      (by rw [t8q,hz]; simp only [u70,u0b,Nat.lt_irrefl,decide_false,cond_false])
      (fun i hi=>by
        have hi1:i<a.length:=by omega
        have hi2:i<b.length:=by omega
        rw [t8q]; simp only [u70,u0b,hi1,decide_true,cond_true,y7t hi1,y7t hi2,zTn,y8k (t:=p60) hi1,y8k (t:=p60) hi2,List.getElem_zip]
        rw [y7l (by omega)])
    have e1:decide ((a.length:Int)=(b.length:Int))=true:=by simp [h]
    simp only [e1,Bool.not_true,cond_false,L,zOb]
    rw [←p2c h]
    cases (a.zip b).any fun p=> !(z7o p.1.1 p.2.1 && (z7o p.1.2 p.2.2 && true))<;>rfl
  · have e1:decide ((a.length:Int)=(b.length:Int))=false:=by simp; omega
    have e2:decide (a=b)=false:=by
      rw [decide_eq_false_iff_not]; intro e; exact h (by rw [e])
    rw [e1,e2]; rfl
def u46 (B:u0i) (o:List u0f) (t:u0f):u1p:=(B,o++ [t])
theorem p2b {o:List u0f} {id:Int} (h:u1z o id<0):u1z o id= -1:=by
  unfold u1z at h ⊢
  split at h
  · omega
  · rename_i c; rw [if_neg c]
theorem s1s {o:List u0f} {t:u0f} (h:∀x∈o,x.1≠t.1):u1z (o++ [t]) t.1=(o.length:Int):=by
  have hn: ¬u1z (o++ [t]) t.1<0:=fun q=>p6k.mp q t (by simp) rfl
  obtain ⟨k,hk,e1,e2,e3⟩:=u07 (e:=(u2z,o++ [t])) hn
  have hk:k<(o++ [t]).length:=hk
  have e3:(o++ [t])[k].1=t.1:=e3
  have e1:u1z (o++ [t]) t.1=(k:Int):=e1
  rw [e1]
  by_cases c:k<o.length
  · rw [List.getElem_append_left c] at e3
    exact absurd e3 (h _ (List.getElem_mem c))
  · rw [List.length_append,List.length_singleton] at hk
    have:k=o.length:=by omega
    rw [this]
theorem r79 {B:u0i} {o:List u0f} {t:u0f} (h:∀x∈o,x.1≠t.1):u10 (u46 B o t) t.1=t:=by
  unfold u10
  rw [show (u46 B o t).2=o++ [t] from rfl,s1s h,zTn]
  have hk:o.length<(o++ [t]).length:=by simp
  rw [y8k (t:=u0z) hk]
  simp
theorem q84 {B:u0i} {o:List u0f} {t u:u0f} (h:∀x∈o,x.1≠t.1):r78 (u46 B o t) (u1z (u46 B o t).2 t.1).toNat u=u46 B o u:=by
  unfold r78
  rw [show (u46 B o t).2=o++ [t] from rfl,s1s h,zTn]
  show (B,(o++ [t]).set o.length u)=(B,o++ [u])
  rw [List.set_append_right _ _ (Nat.le_refl _),Nat.sub_self]
  rfl
theorem q83 {B:u0i} {o:List u0f} {t:u0f} (h:∀x∈o,x.1≠t.1): ¬u1z (u46 B o t).2 t.1<0:=by
  rw [show (u46 B o t).2=o++ [t] from rfl,s1s h]; omega
theorem r8a {B:u0i} {o:List u0f} {t:u0f} {r:t3u} (h:∀x∈o,x.1≠t.1) (hr:(t05 t r).2=true):u99 (u46 B o t) t.1 r true=(u46 B o (t05 t r).1,0):=by
  unfold u99
  rw [if_neg (q83 h),if_neg (by decide),r79 h,if_pos hr,q84 h]
theorem p4i {B:u0i} {o:List u0f} {t:u0f} {w:WrT} (h:∀x∈o,x.1≠t.1) (hw:u1q w=true) (hr:(t3y t w).2=true):q3q (u46 B o t) t.1 w=(u46 B o (t3y t w).1,0):=by
  unfold q3q
  rw [if_neg (q83 h),if_neg (by rw [hw]; decide),r79 h,if_pos hr,q84 h]
theorem p06 {e:u1p} (h:EngR e):u5w e=some true:=by
  have ho:=h.olen
  rw [s99 e (by have:=h.tinyO.wt; have:=r2b (l:=e.2) (by omega) (fun t ht=>h.ot ht); have:=q5f e; unfold u0l; omega),p66.mpr h]
theorem r7v {t:u0f} (h:t.2.2.2.2.2.1= []) (l:List u1v) (k:ByteArray):t2j t l k=u3p l k t.2.2.1:=by
  unfold t2j; rw [h]; rfl
theorem q5x {t:u0f} (h:t.2.2.2.2.2.1= []) (l:List u1v) (r:t3u):s6b t l r=t0k l r t.2.2.1:=by
  unfold s6b t0k
  simp only [r7v h,h,List.map_nil,List.append_nil]
theorem p5y {e:u1p} {id:Int} (h: ¬u1z e.2 id<0):(u6f e id).length<e.2.length:=by
  obtain ⟨k,hk,e1,e2,e3⟩:=u07 h
  unfold u6f
  rw [List.length_filter_lt_length_iff_exists]
  exact ⟨e.2[k],List.getElem_mem hk,by simp [e3]⟩
theorem p4e (e:u1p) (id:Int):u1z (u6f e id) id<0:=p6k.mpr fun x hx=>r75 hx
theorem Num.leave {k:Nat} {e:u1p} (h:Num k e) (id:Int):Num k (t2i e id):=h
def kA:ByteArray:=⟨#[97]⟩
def q6l:WrT:=(kA,(⟨#[109,105,110,101]⟩:ByteArray),false)
theorem p5q:u4d kA=true:=by decide
theorem p1k:u1f r4a=true:=by decide+kernel
def tE0 (n c:Int):u0f:=p7h n c
def tE1 (n c:Int):u0f:=p62 (tE0 n c) (kA,kA)
def tE2 (n c:Int):u0f:=p62 (tE1 n c) r4a
def tE3 (n c:Int):u0f:=p01 (tE2 n c) [q6l]
theorem rE1 (n c:Int):t05 (tE0 n c) (kA,kA)=(tE1 n c,true):=rfl
theorem rE2 (n c:Int):t05 (tE1 n c) r4a=(tE2 n c,true):=by
  unfold t05
  have h:p1z (tE1 n c).2.2.2.2.1 r4a=false:=by
    show p1z [(kA,kA)] r4a=false
    decide+kernel
  rw [h,if_neg (by decide),if_pos (by show (1:Nat)<8; decide)]
  rfl
theorem rE3 (n c:Int):t3y (tE2 n c) q6l=(tE3 n c,true):=rfl
theorem rE4 (n c:Int):t05 (tE3 n c) (kA,kA)=(tE3 n c,true):=by
  unfold t05
  have h:p1z (tE3 n c).2.2.2.2.1 (kA,kA)=true:=by
    show p1z [(kA,kA),r4a] (kA,kA)=true
    decide+kernel
  rw [h,if_pos rfl]
theorem gE3 (n c:Int) (l:List u1v):t2j (tE3 n c) l kA=((⟨#[109,105,110,101]⟩:ByteArray),true):=by
  unfold t2j
  have h:u0m (fun w:WrT=>z7o w.1 kA) (tE3 n c).2.2.2.2.2.1=0:=by
    show u0m (fun w:WrT=>z7o w.1 kA) [q6l] =0
    decide+kernel
  have h2:(tE3 n c).2.2.2.2.2.1= [q6l] :=rfl
  rw [h,h2]
  rfl
end
section
theorem q3o (x:List Int) (hx:(Ty.sl (.int .u8)).fine x):s3m x=some true:=by
  rw [r46]; unfold s2b
  rw [q9v]; unfold q0u
  simp only [zOb]
  by_cases hb:(x.length:Int) >1048576
  · simp only [hb,decide_true,cond_true]
  simp only [hb,decide_false,cond_false]
  obtain ⟨e,id,e0,hE,hid,hD,hN⟩:=q1t (l:=x) (by omega)
  have l1:t8f (e,id)=some (t2i e id,0):=by rw [q9i hE id,p12 hid]
  have hA:=p13 hE id
  have hlt:=p5y hid
  have ho:=hE.olen
  have hn:e.1.2.2.2.2<9999:=by have:=hN.2; have e24:((24:Nat):Int)=24:=rfl; omega
  obtain ⟨n,hn0⟩:∃n,n=e.1.2.2.2.2:=⟨_,rfl⟩
  obtain ⟨c,hc0⟩:∃c,c=e.1.2.2.2.1:=⟨_,rfl⟩
  obtain ⟨o,ho0⟩:∃o,o=u6f e id:=⟨_,rfl⟩
  obtain ⟨B0,hB0⟩:∃B0,B0=u25 e.1 o:=⟨_,rfl⟩
  obtain ⟨B,hB⟩:∃B:u0i,B=(B0.1,B0.2.1,B0.2.2.1,B0.2.2.2.1,B0.2.2.2.2+1):=⟨_,rfl⟩
  have f1:t2i e id=(B0,o):=by rw [hB0,ho0]; rfl
  have f2:B0.2.2.2.2=n:=by rw [hB0,hn0]; rfl
  have f3:B0.2.2.2.1=c:=by rw [hB0,hc0]; rfl
  have f4:B.1=B0.1:=by rw [hB]
  have f5:B.2.2.2.1=c:=by rw [hB]; exact f3
  have hbg:t2g (t2i e id)=(u46 B o (tE0 n c),n,0):=by
    unfold t2g
    rw [if_pos ⟨by rw [f1,ho0]; show (u6f e id).length<4; omega,by rw [f1]; show B0.2.2.2.2<9999; omega⟩,f1]
    show (r1f (B0,o),B0.2.2.2.2,(0:Int))=_
    rw [f2]
    unfold r1f u46 tE0
    simp only [f2,f3]
    rw [hB,f2,f3]
  have l2:=q9e hA
  rw [hbg] at l2
  have hR0:EngR (u46 B o (tE0 n c)):=by have:=q2e hA; rwa [hbg] at this
  have hne:∀x∈o,x.1≠n:=fun x hx=>by
    have:=hE.bel x (List.mem_append_right _ ((u5i e id).subset (by rw [←ho0]; exact hx)))
    omega
  have l3:u33 (t2i e id,id)=some (-1):=by
    rw [t6q (t2i e id) id (by rw [f1,ho0]; show (u6f e id).length≤4194304; omega)]
    exact congrArg some (p2b (p4e e id))
  have hol:o.length≤4:=by rw [ho0]; omega
  have l4:u33 (u46 B o (tE0 n c),n)=some (o.length:Int):=by
    rw [t6q _ n (by show (o++ [tE0 n c]).length≤4194304; simp; omega)]
    exact congrArg some (s1s (t:=tE0 n c) hne)
  have l5:IntKind.i64.wrap (((u46 B o (tE0 n c)).2.length:Int) - (1:Int))=(o.length:Int):=by
    show IntKind.i64.wrap (((o++ [tE0 n c]).length:Int) - (1:Int))=(o.length:Int)
    rw [List.length_append,List.length_singleton,y4y (by omega) (by omega)]; omega
  have k1:u99 (u46 B o (tE0 n c)) n (kA,kA) true=(u46 B o (tE1 n c),0):=by
    have:=r8a (B:=B) (t:=tE0 n c) (r:=(kA,kA)) hne (by rw [rE1])
    rw [rE1] at this; exact this
  have a1:u10 (u46 B o (tE0 n c)) n=tE0 n c:=r79 (t:=tE0 n c) hne
  have a2:u10 (u46 B o (tE1 n c)) n=tE1 n c:=r79 (t:=tE1 n c) hne
  have a3:u10 (u46 B o (tE3 n c)) n=tE3 n c:=r79 (t:=tE3 n c) hne
  have hR1:EngR (u46 B o (tE1 n c)):=by have:=p17 hR0 (id:=n) (r:=(kA,kA)) (right:=true) (fun _=>by rw [r5t]; exact p5q); rwa [k1] at this
  have k2:u99 (u46 B o (tE1 n c)) n r4a true=(u46 B o (tE2 n c),0):=by
    have:=r8a (B:=B) (t:=tE1 n c) (r:=r4a) hne (by rw [rE2])
    rw [rE2] at this; exact this
  have hR2:EngR (u46 B o (tE2 n c)):=by have:=p17 hR1 (id:=n) (r:=r4a) (right:=true) (fun _=>p1k); rwa [k2] at this
  have k3:q3q (u46 B o (tE2 n c)) n q6l=(u46 B o (tE3 n c),0):=by
    have:=p4i (B:=B) (t:=tE2 n c) (w:=q6l) hne (by decide) (by rw [rE3])
    rw [rE3] at this; exact this
  have hR3:EngR (u46 B o (tE3 n c)):=by have:=p7o hR2 (id:=n) (w:=q6l); rwa [k3] at this
  have k4:u99 (u46 B o (tE3 n c)) n (kA,kA) true=(u46 B o (tE3 n c),0):=by
    have:=r8a (B:=B) (t:=tE3 n c) (r:=(kA,kA)) hne (by rw [rE4])
    rw [rE4] at this; exact this
  have v0:u3p B.1 kA c=u3p e.1.1 kA c:=by rw [f4,hB0,hc0]; exact q76 hE.base o kA
  have v1:t0k B.1 r4a c=t0k e.1.1 r4a c:=by rw [f4,hB0,hc0]; exact q75 hE.base o r4a
  have l6:u43 (u46 B o (tE0 n c),n,kA)=some (u46 B o (tE1 n c),(u3p e.1.1 kA c).1,(u3p e.1.1 kA c).2,0):=by
    rw [r5z hR0 n (by decide)]
    unfold p5o
    rw [p5q,k1,if_pos rfl,a1,r7v rfl]
    show some (_,(u3p B.1 kA c).1,(u3p B.1 kA c).2,(0:Int))=_
    rw [v0]
  have l7:t3e (u46 B o (tE1 n c),n,r4a)=some (u46 B o (tE2 n c),t0k e.1.1 r4a c,0):=by
    rw [q13 hR1 n (by decide)]
    unfold p0g
    rw [p1k,k2,if_pos rfl,a2,q5x rfl]
    show some (_,t0k B.1 r4a c,(0:Int))=_
    rw [v1]
  have l8:t3d (u46 B o (tE2 n c),n,q6l)=some (u46 B o (tE3 n c),0):=by
    rw [q67 hR2 n (by decide),k3]
  have l9:u43 (u46 B o (tE3 n c),n,kA)=some (u46 B o (tE3 n c),(⟨#[109,105,110,101]⟩:ByteArray),true,0):=by
    rw [r5z hR3 n (by decide)]
    unfold p5o
    rw [p5q,k4,if_pos rfl,a3,gE3]
  have hv:=(p28.mp hE.base.vs).2.2
  have hvB:B.1.length≤120:=by have:=(p28.mp hR0.base.vs).2.2; exact this
  have s1:=s9p e.1.1 kA c (by omega)
  have s2:=r55 e.1.1 r4a c (by omega)
  have s3:u6r ((u46 B o (tE3 n c)).1.1,r4a,(u46 B o (tE3 n c)).1.2.2.2.1)=some (t0k e.1.1 r4a c):=by
    show u6r (B.1,r4a,B.2.2.2.1)=_
    rw [r55 B.1 r4a _ (by omega),f5,v1]
  have hsl:(t0k e.1.1 r4a c).length≤1099511627776:=Nat.le_trans (p0f _ _ _) (by omega)
  have pr:=q6b (t0k e.1.1 r4a c) (t0k e.1.1 r4a c) hsl
  have hall:s0n ()=some r4a:=by rw [q9u]; rfl
  have lA:u43 (u46 B o (tE0 n c),n,(⟨#[97]⟩:ByteArray))=_:=l6
  have lB:u43 (u46 B o (tE3 n c),n,(⟨#[97]⟩:ByteArray))=_:=l9
  have lC:t3d (u46 B o (tE2 n c),n,(⟨#[97]⟩:ByteArray),(⟨#[109,105,110,101]⟩:ByteArray),false)=_:=l8
  have lD:t0e (e.1.1,(⟨#[97]⟩:ByteArray),e.1.2.2.2.1)=some (u3p e.1.1 kA c):=by rw [hc0] at s1 ⊢; exact s1
  have lE:u6r (e.1.1,r4a,e.1.2.2.2.1)=some (t0k e.1.1 r4a c):=by rw [hc0] at s2 ⊢; exact s2
  have sr:∀t:ByteArray,z7o t t=true:=fun t=>by simp [z7o]
  simp only [e0,l1,l2,l3,l4,l5,lA,lB,lC,lD,lE,l7,s3,pr,hall,p06 hE,p06 hR3,zOb,decide_true,Bool.not_true,cond_false,cond_true,sr,beq_self_eq_true]
end
end
end Go.Proofs.YtbkicjpdlchbgaaGreat.Ab
