import Derived.Test.YtbkicjpdlchbgaaGreatAbPreparesT2
import Derived.Test.YtbkicjpdlchbgaaGreatAbK2
import Derived.Test.YtbkicjpdlchbgaaGreatAbF4
import Derived.Test.YtbkicjpdlchbgaaGreatAbS2
namespace Go.Proofs.YtbkicjpdlchbgaaGreat.Ab
open Go
set_option linter.unusedVariables false
set_option linter.unusedSimpArgs false
set_option linter.unnecessarySimpa false
section
section
theorem r5c {α:Type} {P:Prop} [Decidable P] {a b:α} (h:P):(bif decide P then a else b)=a:=by rw[decide_eq_true h];rfl
theorem p0z {α:Type} {n:Nat} {a b:α} (h:n≤1099511627776):(bif Nat.ble n z7w then a else b)=a:=by rw[u1q h];rfl
theorem u6a {n:Int} (h0:0≤n) (h1:n≤1000000000):u1s n=some (r55 n):=by
 obtain⟨m,rfl⟩:∃m:Nat,n=m:=⟨n.toNat,by omega⟩
 rw[q1n m (by omega)];rfl
theorem t5n {s:ByteArray} (h:s.size≤10000):u2y s=some (u0x s):=by
 rw[q1e];unfold s9a
 rw[u6a (by omega) (by omega)]
 simp only[zOb]
 have:=u4o (n:=(s.size:Int)) (by omega)
 rw[r5c (by omega)];rfl
theorem r9o (b:Bool):t3m b=some (p3i b):=by
 rw[q6t];unfold r45
 cases b<;>rfl
theorem q9t {r:s28} (h:r.1.size≤100∧r.2.size≤100):(p34 r).size≤204:=by
 have q1:=u14 (s:=r.1) (by omega)
 have q2:=u14 (s:=r.2) (by omega)
 unfold p34;rw[ByteArray.size_append];omega
theorem r9q {E:Type} (f:E→ByteArray) (l:List E) (s:ByteArray):l.foldl (fun s x=>s++f x) s=s++q2e f l:=r5d f l s
theorem s8e (t:u0d) (ht:u1u.wt t≤549755813888):t8d t=some (if t7l t=true then(t66 t,true) else(emp,false)):=by
 have hb:u0p=1099511627776:=rfl
 rw[q3c];unfold r12
 rw[t5o t (by omega)]
 simp only[zOb]
 cases hc:t7l t
 ·rfl
 ·have h:=r52.mp hc
  obtain⟨z1,z2,z3,z4,z5⟩:=h.small
  have hi:=h.id;have hst:=h.st;have hsn:=h.snap;have hrl:=h.rlen
  have v1:=u4o (n:=t.1) (by omega)
  have v2:=u4o (n:=t.2.1) (by omega)
  have v3:=u4o (n:=t.2.2.1) (by omega)
  have v4:=u4o (n:=t.2.2.2.1) (by omega)
  have v5:=u4o (n:=(t.2.2.2.2.1.length:Int)) (by omega)
  have v6:=u4o (n:=(t.2.2.2.2.2.1.length:Int)) (by omega)
  have v7:=u14 (s:=t.2.2.2.2.2.2.2) (by omega)
  have L1:∀A:ByteArray,A.size≤1000→t0l (t,A,0)=some (.inl (t,A++q2e p34 t.2.2.2.2.1)):=fun A hA=>by
   have:=t59 t0l t.2.2.2.2.1 (fun(A:ByteArray) i=>(t,A,i)) (fun A r=>A++p34 r) (fun A=> .inl (t,A)) (fun i A=>A.size≤1000+i*204)
    (fun A _=>by rw[s7v];simp only[t4y,u0b,Nat.lt_irrefl,decide_false,cond_false])
    (fun i hi A hP=>by
     have hr:=z1 _ (List.getElem_mem hi)
     have hs:=q9t (r:=t.2.2.2.2.1[i]) (by omega)
     have hs' :=hs
     unfold p34 at hs'
     rw[ByteArray.size_append] at hs'
     refine⟨by rw[ByteArray.size_append,Nat.succ_mul];omega,?_⟩
     rw[s7v];simp only[t4y,u0b,hi,decide_true,cond_true,y7t hi,zTn,y8k (t:=t9i) hi,y7l (show i<4611686018427387904 by omega)]
     rw[t5n (by omega),t5n (by omega)]
     simp only[zOb]
     rw[r5c (by omega),r5c (by rw[ByteArray.size_append];omega),t9v];rfl) A (by omega)
   rw[r9q] at this
   exact this
  have L2:∀A:ByteArray,A.size≤10000→u8n (t,A,0)=some (.inl (t,A++q2e wrT t.2.2.2.2.2.1)):=fun A hA=>by
   have:=t59 u8n t.2.2.2.2.2.1 (fun(A:ByteArray) i=>(t,A,i)) (fun A r=>A++wrT r) (fun A=> .inl (t,A)) (fun i A=>A.size≤10000+i*304)
    (fun A _=>by rw[s4v];simp only[t24,u0b,Nat.lt_irrefl,decide_false,cond_false])
    (fun i hi A hP=>by
     have hr:=z2 _ (List.getElem_mem hi)
     have q1:=u14 (s:=(t.2.2.2.2.2.1[i]).1) (by omega)
     have q2:=u14 (s:=(t.2.2.2.2.2.1[i]).2.1) (by omega)
     have q3:=u6e (t.2.2.2.2.2.1[i]).2.2
     refine⟨by unfold wrT;simp only[ByteArray.size_append,Nat.succ_mul];omega,?_⟩
     rw[s4v];simp only[t24,u0b,hi,decide_true,cond_true,y7t hi,zTn,y8k (t:=u56) hi,y7l (show i<4611686018427387904 by omega)]
     rw[t5n (by omega),t5n (by omega),r9o]
     simp only[zOb]
     rw[r5c (by omega),r5c (by rw[ByteArray.size_append];omega),r5c (by simp only[ByteArray.size_append];omega),t9v,t9v];rfl) A (by omega)
   rw[r9q] at this
   exact this
  have n1:(q2e p34 t.2.2.2.2.1).size≤t.2.2.2.2.1.length*204:=s1s fun r hr=>q9t (by have:=z1 r hr;omega)
  have n2:(q2e wrT t.2.2.2.2.2.1).size≤t.2.2.2.2.2.1.length*304:=s1s fun w hw=>by
   have:=z2 w hw
   have q1:=u14 (s:=w.1) (by omega)
   have q2:=u14 (s:=w.2.1) (by omega)
   unfold wrT;rw[ByteArray.size_append,ByteArray.size_append,u6e];omega
  simp only[Bool.not_true,cond_false,if_true]
  rw[u6a (n:=t.1) (by omega) (by omega),u6a (n:=t.2.1) (by omega) (by omega),u6a (n:=t.2.2.1) (by omega) (by omega),u6a (n:=t.2.2.2.1) (by omega) (by omega),u6a (n:=(t.2.2.2.2.1.length:Int)) (by omega) (by omega)]
  simp only[zOb]
  rw[r5c (by omega),r5c (by simp only[ByteArray.size_append];omega),r5c (by simp only[ByteArray.size_append];omega),r5c (by simp only[ByteArray.size_append];omega),L1 _ (by simp only[ByteArray.size_append];omega)]
  simp only[zOb]
  rw[u6a (n:=(t.2.2.2.2.2.1.length:Int)) (by omega) (by omega)]
  simp only[zOb]
  rw[r5c (by simp only[ByteArray.size_append];omega),L2 _ (by simp only[ByteArray.size_append];omega)]
  simp only[zOb]
  rw[r9o,t5n (by omega)]
  simp only[zOb]
  rw[r5c (by simp only[ByteArray.size_append,u6e];omega),r5c (by simp only[ByteArray.size_append,u6e];omega)]
  unfold t66
  simp only[t9v]
theorem p9u {l:List u0d} {t:u0d} (h:t∈l) (hl:(Ty.sl u1u).wt l≤549755813888):u1u.wt t≤549755813888:=Nat.le_trans (q7a h) hl
theorem q8b (l:List u0d) (hl:(Ty.sl u1u).wt l≤549755813888) (hn:l.length≤10000) (h:∀t∈l,TxnR t):t8g l=some (r8h l):=by
 have v1:=u4o (n:=(l.length:Int)) (by omega)
 have L:t0p (l,r55 (l.length:Int),0)=some (.inl (r55 (l.length:Int)++q2e t66 l)):=by
  have:=t59 t0p l (fun(A:ByteArray) i=>(l,A,i)) (fun A r=>A++t66 r) (fun A=> .inl A) (fun i A=>A.size≤2+i*300)
   (fun A _=>by rw[s70];simp only[t42,u0b,Nat.lt_irrefl,decide_false,cond_false])
   (fun i hi A hP=>by
    have hm:=List.getElem_mem hi
    have hr:=s4h (h _ hm)
    refine⟨by rw[ByteArray.size_append,Nat.succ_mul];omega,?_⟩
    rw[s70];simp only[t42,u0b,hi,decide_true,cond_true,y7t hi,zTn,y8k (t:=u1u) hi,y7l (show i<4611686018427387904 by omega)]
    rw[s8e _ (p9u hm hl),if_pos (r52.mpr (h _ hm))]
    simp only[zOb]
    rw[r5c (by omega)]) (r55 (l.length:Int)) (by omega)
  rw[r9q] at this
  exact this
 rw[q3s];unfold r2p
 rw[u6a (by omega) (by omega)]
 simp only[zOb]
 rw[L];rfl
theorem q5c (b:u0h) (hw:o0t.wt b≤549755813888):s0p b=some (if t7a b=true then(s0d b,true) else(emp,false)):=by
 have hbw:=q0f b
 rw[q0v];unfold s8q
 rw[t7d b hw]
 simp only[zOb]
 cases hc:t7a b
 ·rfl
 ·have h:=q4m.mp hc
  obtain⟨w1,w2,w3⟩:=p6s.mp h.vs
  have hcs:=h.cs;have hx:=h.next;have hp:=h.plen;have hr:=h.rlen
  have q1:=u4o (n:=b.2.2.2.1) (by omega)
  have q2:=u4o (n:=b.2.2.2.2) (by omega)
  have q3:=u4o (n:=(b.1.length:Int)) (by omega)
  have q4:=s1s (f:=p4g) (k:=22) (l:=b.1) (fun v hv=>q7d (w1 v hv))
  have q5:=r0v (l:=b.2.1) (by omega) (fun t ht=>(h.past t ht).1)
  have q6:=r0v (l:=b.2.2.1) (by omega) (fun t ht=>(h.ready t ht).1)
  have L:∀A:ByteArray,A.size≤1000→u8j (b,A,0)=some (.inl (b,A++q2e p4g b.1)):=fun A hA=>by
   have:=t59 u8j b.1 (fun(A:ByteArray) i=>(b,A,i)) (fun A r=>A++p4g r) (fun A=> .inl (b,A)) (fun i A=>A.size≤1000+i*22)
    (fun A _=>by rw[s4l];simp only[t2u,u0b,Nat.lt_irrefl,decide_false,cond_false])
    (fun i hi A hP=>by
     have hm:=w1 _ (List.getElem_mem hi)
     have hr:=q7d hm
     have hv:=s5u hm
     have s1:=u14 (s:=(b.1[i]).1) (by omega)
     have s2:=u14 (s:=(b.1[i]).2.1) (by omega)
     have s3:=u6e (b.1[i]).2.2.1
     have s4:=u4o (n:=(b.1[i]).2.2.2) (by omega)
     refine⟨by rw[ByteArray.size_append,Nat.succ_mul];omega,?_⟩
     rw[s4l];simp only[t2u,u0b,hi,decide_true,cond_true,y7t hi,zTn,y8k (t:=u0f) hi,y7l (show i<4611686018427387904 by omega)]
     rw[t5n (by omega),t5n (by omega),r9o,u6a (by omega) (by omega)]
     simp only[zOb]
     rw[r5c (by omega),r5c (by simp only[ByteArray.size_append];omega),r5c (by simp only[ByteArray.size_append];omega),r5c (by simp only[ByteArray.size_append];omega)]
     unfold p4g
     simp only[t9v]) A (by omega)
   rw[r9q] at this
   exact this
  simp only[Bool.not_true,cond_false,if_true]
  rw[u6a (n:=b.2.2.2.1) (by omega) (by omega),u6a (n:=b.2.2.2.2) (by omega) (by omega),u6a (n:=(b.1.length:Int)) (by omega) (by omega)]
  simp only[zOb]
  rw[r5c (by omega),r5c (by simp only[ByteArray.size_append];omega),L _ (by simp only[ByteArray.size_append];omega)]
  simp only[zOb]
  rw[q8b b.2.1 (by omega) (by omega) (fun t ht=>(h.past t ht).1),q8b b.2.2.1 (by omega) (by omega) (fun t ht=>(h.ready t ht).1)]
  simp only[zOb]
  rw[r5c (by simp only[ByteArray.size_append];omega),r5c (by simp only[ByteArray.size_append];omega)]
  unfold s0d
  simp only[t9v]
end
section
theorem p76 {W:Int×ByteArray×Int×Int→Option ((Int×ByteArray×Int)⊕Unit)}
 (hW:∀x,W x=(bif decide (x.2.2.2<(8:Int)) then(bif decide (Int.tmod x.1 (2:Int)=(1:Int)) then W (IntKind.u32.wrap ((BitVec.ofInt IntKind.u32.bits (IntKind.u32.wrap (Int.tdiv x.1 (2:Int)))^^^BitVec.ofInt IntKind.u32.bits (3558460437:Int)).toNat:Int),x.2.1,x.2.2.1,IntKind.i64.wrap (x.2.2.2+(1:Int)))
  else W (IntKind.u32.wrap (Int.tdiv x.1 (2:Int)),x.2.1,x.2.2.1,IntKind.i64.wrap (x.2.2.2+(1:Int)))) else some (.inl (x.1,x.2.1,x.2.2.1)))) (t:ByteArray) (k:Int):
 ∀(n:Nat) (x:Int) (i:Nat),i+n=8→W (x,t,k,(i:Int))=some (.inl (q15 n x,t,k)):=by
 intro n
 induction n with
 | zero=>
  intro x i hi
  have:i=8:=by omega
  subst this
  rw[hW];rfl
 | succ n ih=>
  intro x i hi
  rw[hW]
  simp only
  rw[r5c (by omega),y7l (by omega),ih _ (i+1) (by omega),ih _ (i+1) (by omega)]
  rw[show q15 (n+1) x=q15 n (p6d x) from rfl]
  unfold p6d o1i
  cases decide (Int.tmod x 2=1)<;>rfl
theorem p77 (f:Int→UInt8→Int) (t:ByteArray) {W:Int×ByteArray×Int→Option (Int⊕Unit)} (ht:t.size≤1099511627776)
 (hend:∀x,W (x,t,(t.size:Int))=some (.inl x))
 (hstep:∀(i:Nat),i<t.size→ ∀x,W (x,t,(i:Int))=W (f x (t.data.toList.getD i 0),t,((i+1:Nat):Int))) (x:Int):W (x,t,0)=some (.inl (t.data.toList.foldl f x)):=by
 have e:t.size=t.data.toList.length:=r3u t
 exact t59 W t.data.toList (fun x i=>(x,t,i)) f (fun x=> .inl x) (fun _ _=>True) (fun x _=>by rw[←e];exact hend x)
  (fun i hi x _=>⟨trivial,by
   rw[hstep i (by rw[e];exact hi) x]
   congr 2
   rw[List.getD_eq_getElem?_getD,List.getElem?_eq_getElem hi];rfl⟩) x trivial
theorem r7h (x:Int) (t:ByteArray) (ht:t.size≤1099511627776):s2x (x,t)=some (t.data.toList.foldl p1u x):=by
 have L:=p77 p1u t (W:=t46) ht
  (fun x=>by rw[s7r];simp only[t4u,u0b,Nat.lt_irrefl,decide_false,cond_false])
  (fun i hi x=>by
   rw[s7r];simp only[t4u,u0b,hi,decide_true,cond_true,y7t hi,zTn]
   have:=p76 (W:=t47) (fun x=>r9l x) t (i:Int) 8 (o1i x (IntKind.u32.wrap ((t.data.toList.getD i 0).toNat:Int))) 0 rfl
   unfold o1i at this
   rw[show((0:Nat):Int)=0 from rfl] at this
   rw[this]
   simp only[zOb,y7l (show i<4611686018427387904 by omega)]
   rfl) x
 rw[q28];unfold r1w
 simp only[L,zOb]
theorem s45 (t:ByteArray) (ht:t.size≤1099511627776):t6x t=some (p2s t):=by
 rw[q6m];unfold r4y p2s
 have e1:decide ((t.size:Int) >20000)= !decide (t.size≤20000):=by by_cases h:t.size≤20000<;>simp[h] <;>omega
 rw[e1,r76];unfold s81
 rw[r7h _ _ ht]
 simp only[zOb]
 rw[r2z];unfold r2e
 simp only[zOb]
 by_cases h:t.size≤20000
 ·rw[decide_eq_true h,if_pos h]
  simp only[Bool.not_true,cond_false]
  rw[r5c (by rw[u60];simp;omega)]
  rfl
 ·rw[decide_eq_false h,if_neg h];rfl
theorem t9y (k:Int):(y7g [k]).size=1:=u60 _
theorem t1w (r:s27) (hw:o27.wt r≤549755813888):u3m r=some (u1i r):=by
 have hr:=q41 r
 rw[r6o];unfold s3h u1i
 rw[r39 r hw]
 simp only[zOb]
 cases hc:t3o r
 ·rfl
 ·have h:=p8w.mp hc
  have hz:=s4e h
  simp only[Bool.not_true,cond_false,if_true]
  cases h with
  | thr t h hs=>
   have:=s4h h
   have ht:=s8e t (by have:u1u.wt t≤o27.wt (1,t,emp,false,u3o):=by rw[hr];simp only;omega
                      omega)
   rw[if_pos (r52.mpr h)] at ht
   simp only[Int.reduceEq,decide_true,decide_false,cond_true,cond_false]
   rw[ht]
   simp only[zOb]
   rw[r5c (by rw[t9y];omega),s45 _ (by rw[ByteArray.size_append,t9y];omega)]
   rfl
  | rdy t h hs=>
   have:=s4h h
   have ht:=s8e t (by have:u1u.wt t≤o27.wt (2,t,emp,false,u3o):=by rw[hr];simp only;omega
                      omega)
   rw[if_pos (r52.mpr h)] at ht
   simp only[Int.reduceEq,decide_true,decide_false,cond_true,cond_false]
   rw[ht]
   simp only[zOb]
   rw[r5c (by rw[t9y];omega),s45 _ (by rw[ByteArray.size_append,t9y];omega)]
   rfl
  | fin n y h=>
   have:=u3e h
   have q:=u14 (s:=n) (by omega)
   simp only[Int.reduceEq,decide_true,decide_false,cond_true,cond_false]
   rw[t5n (by omega)]
   simp only[zOb]
   rw[r5c (by rw[t9y];omega),r9o]
   simp only[zOb]
   rw[r5c (by simp only[ByteArray.size_append,t9y,u6e];omega),s45 _ (by simp only[ByteArray.size_append,t9y,u6e];omega),t9v]
   rfl
  | bas b h=>
   have:=q4n h
   have a1:=(p6s.mp h.vs).2.2
   have a2:=h.plen
   have a3:=h.rlen
   have ht:=q5c b (by have:o0t.wt b≤o27.wt (4,u66,emp,false,b):=by rw[hr];simp only;omega
                      omega)
   rw[if_pos (q4m.mpr h)] at ht
   simp only[Int.reduceEq,decide_true,decide_false,cond_true,cond_false]
   rw[ht]
   simp only[zOb]
   rw[r5c (by rw[t9y];omega),s45 _ (by rw[ByteArray.size_append,t9y];omega)]
   rfl
end
section
def inT (s:ByteArray) (c:Cur):Prop:=0≤c.1∧c.1≤(s.size:Int)
def bad (c:Cur) (k:Int):Int:=if c.2=true then k else 0
theorem u5u {s:ByteArray} {c:Cur} (h:inT s c):inT s (u5i s c).2∧0≤(u5i s c).1∧(u5i s c).1≤1000000000∧c.1+1≤(u5i s c).2.1+bad (u5i s c).2 1:=by
 unfold u5i
 split
 ·refine⟨h,by simp,by simp,?_⟩
  simp only[bad,if_true];omega
 ·rename_i q
  simp only[not_or,Bool.not_eq_true,Bool.not_eq_false] at q
  have:=t5v q.2
  refine⟨⟨?_,?_⟩,?_,?_,?_⟩
  ·simp only;omega
  ·simp only;omega
  ·simp only;omega
  ·simp only;omega
  ·simp only[bad,Bool.false_eq_true,if_false];omega
theorem q38 {t:ByteArray} {a:Int} (h:(u0o t a).2.2=true):a+1+((u0o t a).1.size:Int)≤(u0o t a).2.1∧0≤a:=by
 unfold u0o at h ⊢
 split at h
 ·rename_i hc
  rw[if_pos hc]
  have:=t5v hc.1
  simp only[ByteArray.size_extract]
  omega
 ·cases h
theorem t02 {s:ByteArray} {c:Cur} (h:inT s c):inT s (u28 s c).2∧c.1+1+((u28 s c).1.size:Int)≤(u28 s c).2.1+bad (u28 s c).2 1:=by
 unfold u28
 split
 ·refine⟨h,?_⟩
  simp only[bad,if_true,emp,ByteArray.size];simp
 ·rename_i q
  simp only[not_or,Bool.not_eq_true,Bool.not_eq_false] at q
  have h1:=s92 q.2
  have h2:=q38 q.2
  refine⟨⟨?_,?_⟩,?_⟩
  ·simp only;omega
  ·simp only;omega
  ·simp only[bad,Bool.false_eq_true,if_false];omega
theorem p2m {s:ByteArray} {c:Cur} (h:inT s c):inT s (q1v s c).2∧c.1+1≤(q1v s c).2.1+bad (q1v s c).2 1:=by
 unfold q1v
 split
 ·refine⟨h,?_⟩
  simp only[bad,if_true];omega
 ·rename_i q
  simp only[not_or,Decidable.not_not] at q
  unfold inT
  simp only[bad,Bool.false_eq_true,if_false];omega
theorem t0r (c:Cur) {k:Int} (hk:0≤k):0≤bad c k∧bad c k≤k:=by unfold bad;split<;>omega
theorem r5b {c c' :Cur} (h:c.2=true→c'.2=true) {k:Int} (hk:0≤k):bad c k≤bad c' k:=by
 unfold bad
 by_cases q:c.2=true
 ·rw[if_pos q,if_pos (h q)];omega
 ·rw[if_neg q];split<;>omega
def p88 {E:Type} (w:E→Nat) (k:Int) (s:ByteArray) (f:Cur→E×Cur):Prop:= ∀c,inT s c→inT s (f c).2∧c.1+1+(w (f c).1:Int)≤(f c).2.1+bad (f c).2 k
theorem t8w {E:Type} {w:E→Nat} {k:Int} {s:ByteArray} {f:Cur→E×Cur} (hk:0≤k) (hf:p88 w k s f):∀(n:Nat) (c:Cur) (a:List E),inT s c→
 inT s (u5t f n c a).2∧c.1+((u5t f n c a).1.length+((u5t f n c a).1.map w).sum:Nat)≤(u5t f n c a).2.1+(a.length+(a.map w).sum:Nat)+bad (u5t f n c a).2 k
 | 0,c,a,h=>⟨h,by have:=t0r (u5t f 0 c a).2 hk;simp only[u5t] at*;omega⟩
 | n+1,c,a,h=>by
  simp only[u5t]
  split
  ·exact⟨h,by have:=t0r c hk;simp only;omega⟩
  ·obtain⟨h1,h2⟩:=hf c h
   obtain⟨h3,h4⟩:=t8w hk hf n (f c).2 (a++ [(f c).1]) h1
   refine⟨h3,?_⟩
   have e1:(a++ [(f c).1]).length=a.length+1:=by simp
   have e2:((a++ [(f c).1]).map w).sum=(a.map w).sum+w (f c).1:=by simp
   rw[e1,e2] at h4
   have hm:bad (f c).2 k≤bad (u5t f n (f c).2 (a++ [(f c).1])).2 k∧(bad (f c).2 k≠0→u5t f n (f c).2 (a++ [(f c).1])=(a++ [(f c).1],(f c).2)):=by
    by_cases q:(f c).2.2=true
    ·rw[t4e q];exact⟨Int.le_refl _,fun _=>rfl⟩
    ·have:bad (f c).2 k=0:=by unfold bad;rw[if_neg q]
     rw[this];exact⟨(t0r _ hk).1,fun h=>absurd rfl h⟩
   by_cases z:bad (f c).2 k=0
   ·omega
   ·have e:=hm.2 z
    rw[e]
    simp only[e1,e2]
    omega
theorem q1x (s:ByteArray):p88 t9i.wt 2 s (p2n s):=fun c h=>by
 obtain⟨h1,h2⟩:=t02 h
 obtain⟨h3,h4⟩:=t02 h1
 have b1:=r5b (c:=(u28 s c).2) (c' :=(u28 s (u28 s c).2).2) s4c (k:=1) (by omega)
 have b2:bad (u28 s (u28 s c).2).2 2=2*bad (u28 s (u28 s c).2).2 1:=by unfold bad;split<;>omega
 refine⟨h3,?_⟩
 have e:t9i.wt (p2n s c).1=(u28 s c).1.size+(u28 s (u28 s c).2).1.size:=rfl
 have e2:(p2n s c).2=(u28 s (u28 s c).2).2:=rfl
 rw[e,e2];omega
theorem r9t (s:ByteArray):p88 u56.wt 3 s (rWr s):=fun c h=>by
 obtain⟨h1,h2⟩:=t02 h
 obtain⟨h3,h4⟩:=t02 h1
 obtain⟨h5,h6⟩:=p2m h3
 have b1:=r5b (c:=(u28 s c).2) (c' :=(u28 s (u28 s c).2).2) s4c (k:=1) (by omega)
 have b2:=r5b (c:=(u28 s (u28 s c).2).2) (c' :=(q1v s (u28 s (u28 s c).2).2).2) r5w (k:=1) (by omega)
 have b3:bad (q1v s (u28 s (u28 s c).2).2).2 3=3*bad (q1v s (u28 s (u28 s c).2).2).2 1:=by unfold bad;split<;>omega
 refine⟨h5,?_⟩
 have e:u56.wt (rWr s c).1=(u28 s c).1.size+((u28 s (u28 s c).2).1.size+0):=rfl
 have e2:(rWr s c).2=(q1v s (u28 s (u28 s c).2).2).2:=rfl
 rw[e,e2];omega
theorem q1y (s:ByteArray):p88 u0f.wt 4 s (p2p s):=fun c h=>by
 obtain⟨h1,h2⟩:=r9t s c h
 obtain⟨h3,h4,h5,h6⟩:=u5u h1
 have b1:=r5b (c:=(rWr s c).2) (c' :=(u5i s (rWr s c).2).2) u9w (k:=3) (by omega)
 have b3:bad (u5i s (rWr s c).2).2 4=bad (u5i s (rWr s c).2).2 1+bad (u5i s (rWr s c).2).2 3:=by unfold bad;split<;>omega
 refine⟨h3,?_⟩
 have e:u0f.wt (p2p s c).1=u56.wt (rWr s c).1:=rfl
 have e2:(p2p s c).2=(u5i s (rWr s c).2).2:=rfl
 rw[e,e2];omega
theorem q9r (m:Nat) (s:ByteArray):p88 u1u.wt 20 s (q36 m s):=fun c h=>by
 unfold q36
 simp only
 obtain⟨a1,a2,a3,a4⟩:=u5u h
 generalize hA:u5i s c=A at a1 a2 a3 a4 ⊢
 obtain⟨b1,b2,b3,b4⟩:=u5u a1
 have mB:A.2.2=true→(u5i s A.2).2.2=true:=u9w
 generalize hB:u5i s A.2=B at b1 b2 b3 b4 mB ⊢
 obtain⟨d1,d2,d3,d4⟩:=u5u b1
 have mD:B.2.2=true→(u5i s B.2).2.2=true:=u9w
 generalize hD:u5i s B.2=D at d1 d2 d3 d4 mD ⊢
 obtain⟨e1,e2,e3,e4⟩:=u5u d1
 have mE:D.2.2=true→(u5i s D.2).2.2=true:=u9w
 generalize hE:u5i s D.2=E at e1 e2 e3 e4 mE ⊢
 obtain⟨f1,f2,f3,f4⟩:=u5u e1
 have mF:E.2.2=true→(u5i s E.2).2.2=true:=u9w
 generalize hF:u5i s E.2=F at f1 f2 f3 f4 mF ⊢
 obtain⟨g1,g2⟩:=t8w (by omega) (q1x s) (min F.1.toNat m) F.2 [] f1
 have mG:F.2.2=true→(u5t (p2n s) (min F.1.toNat m) F.2 []).2.2=true:=fun q=>by rw[t4e q];exact q
 generalize hG:u5t (p2n s) (min F.1.toNat m) F.2 [] =G at g1 g2 mG ⊢
 obtain⟨k1,k2,k3,k4⟩:=u5u g1
 have mK:G.2.2=true→(u5i s G.2).2.2=true:=u9w
 generalize hK:u5i s G.2=K at k1 k2 k3 k4 mK ⊢
 obtain⟨l1,l2⟩:=t8w (by omega) (r9t s) (min K.1.toNat m) K.2 [] k1
 have mL:K.2.2=true→(u5t (rWr s) (min K.1.toNat m) K.2 []).2.2=true:=fun q=>by rw[t4e q];exact q
 generalize hL:u5t (rWr s) (min K.1.toNat m) K.2 [] =L at l1 l2 mL ⊢
 obtain⟨o1,o2⟩:=p2m l1
 have mO:L.2.2=true→(q1v s L.2).2.2=true:=r5w
 generalize hO:q1v s L.2=O at o1 o2 mO ⊢
 obtain⟨p1,p2⟩:=t02 o1
 have mP:O.2.2=true→(u28 s O.2).2.2=true:=s4c
 generalize hP:u28 s O.2=P at p1 p2 mP ⊢
 refine⟨p1,?_⟩
 have e:u1u.wt (A.1,B.1,D.1,E.1,G.1,L.1,O.1,P.1)=0+(0+(0+(0+((Ty.sl t9i).wt G.1+((Ty.sl u56).wt L.1+(0+P.1.size)))))):=rfl
 have eG:(Ty.sl t9i).wt G.1=G.1.length+(G.1.map t9i.wt).sum:=rfl
 have eL:(Ty.sl u56).wt L.1=L.1.length+(L.1.map u56.wt).sum:=rfl
 simp only[List.length_nil,List.map_nil,List.sum_nil] at g2 l2
 rw[e,eG,eL]
 by_cases q:P.2.2=true
 ·have:bad P.2 20=20:=by unfold bad;rw[if_pos q]
  rw[this]
  have t1:=(t0r A.2 (k:=1) (by omega)).2
  have t2:=(t0r B.2 (k:=1) (by omega)).2
  have t3:=(t0r D.2 (k:=1) (by omega)).2
  have t4:=(t0r E.2 (k:=1) (by omega)).2
  have t5:=(t0r F.2 (k:=1) (by omega)).2
  have t6:=(t0r G.2 (k:=2) (by omega)).2
  have t7:=(t0r K.2 (k:=1) (by omega)).2
  have t8:=(t0r L.2 (k:=3) (by omega)).2
  have t9:=(t0r O.2 (k:=1) (by omega)).2
  have t10:=(t0r P.2 (k:=1) (by omega)).2
  omega
 ·have zP:P.2.2=false:=by simpa using q
  have z:∀ {x y:Cur},(x.2=true→y.2=true)→y.2=false→x.2=false:=fun {x y} i j=>by
   cases w:x.2
   ·rfl
   ·rw[i w] at j;cases j
  have zO:=z mP zP
  have zL:=z mO zO
  have zK:=z mL zL
  have zG:=z mK zK
  have zF:=z mG zG
  have zE:=z mF zF
  have zD:=z mE zE
  have zB:=z mD zD
  have zA:=z mB zB
  simp only[bad,zP,zO,zL,zK,zG,zF,zE,zD,zB,zA,Bool.false_eq_true,if_false] at*
  omega
theorem r61 (m:Nat) (s:ByteArray):p88 u1u.wt 20 s (t01 m s):=fun c h=>by
 obtain⟨h1,h2⟩:=q9r m s c h
 refine⟨h1,?_⟩
 have:bad (q36 m s c).2 20≤bad (t01 m s c).2 20:=r5b (fun q=>by unfold t01;simp only[q,Bool.true_or]) (by omega)
 have e1:(t01 m s c).1=(q36 m s c).1:=rfl
 have e2:(t01 m s c).2.1=(q36 m s c).2.1:=rfl
 rw[e1,e2];omega
end
section
theorem gt1 (n:Nat):decide ((n:Int) >1)=decide (1<n):=by simp;omega
theorem eq1 (n:Nat):decide ((n:Int)=1)=decide (n=1):=by simp;omega
theorem q1h {E X R U:Type} {s:ByteArray} (W:X→Option (R⊕U)) (mk:Cur→List E→Int→X) (res:Cur→List E→R) (f:Cur→E×Cur) (N:Nat)
 (hf:∀c,inT s c→inT s (f c).2)
 (hend:∀c a (i:Nat),(N≤i∨c.2=true)→W (mk c a (i:Int))=some (.inl (res c a)))
 (hstep:∀c a (i:Nat),i<N→c.2=false→inT s c→a.length≤i→W (mk c a (i:Int))=W (mk (f c).2 (a++ [(f c).1]) ((i+1:Nat):Int))):
 ∀(k i:Nat) c a,i+k=N→inT s c→a.length≤i→W (mk c a (i:Int))=some (.inl (res (u5t f k c a).2 (u5t f k c a).1)):=by
 intro k
 induction k with
 | zero=>intro i c a hi hc ha;exact hend c a i (.inl (by omega))
 | succ k ih=>
  intro i c a hi hc ha
  simp only[u5t]
  split
  ·rename_i q;exact hend c a i (.inr q)
  ·rename_i q
   rw[hstep c a i (by omega) (by simpa using q) hc ha,ih (i+1) _ _ (by omega) (hf c hc) (by simp;omega)]
theorem p06 {E:Type} {w:E→Nat} {k:Int} {s:ByteArray} {f:Cur→E×Cur} (h:p88 w k s f):∀c,inT s c→inT s (f c).2:=fun c hc=>(h c hc).1
end
section
theorem p2o {m k:Nat} {s:ByteArray} {c:Cur} (h:inT s c):inT s (t5z m k s c).2∧c.1+((Ty.sl u1u).wt (t5z m k s c).1:Nat)≤(t5z m k s c).2.1+20+1:=by
 obtain⟨h1,h2,h3,h4⟩:=u5u h
 obtain⟨g1,g2⟩:=t8w (by omega) (r61 m s) (min (u5i s c).1.toNat k) (u5i s c).2 [] h1
 refine⟨g1,?_⟩
 have e:(Ty.sl u1u).wt (t5z m k s c).1=(t5z m k s c).1.length+((t5z m k s c).1.map u1u.wt).sum:=rfl
 rw[e]
 have t1:=(t0r (u5i s c).2 (k:=1) (by omega)).2
 have t2:=(t0r (u5t (t01 m s) (min (u5i s c).1.toNat k) (u5i s c).2 []).2 (k:=20) (by omega)).2
 unfold t5z
 simp only[List.length_nil,List.map_nil,List.sum_nil] at g2
 omega
theorem p2l (m:Lim) {s:ByteArray} {c:Cur} (h:inT s c):inT s (s79 m s c).2∧(o0t.wt (s79 m s c).1:Int)≤(s.size:Int)+100:=by
 unfold s79
 simp only
 obtain⟨a1,a2,a3,a4⟩:=u5u h
 obtain⟨b1,b2,b3,b4⟩:=u5u a1
 obtain⟨d1,d2,d3,d4⟩:=u5u b1
 obtain⟨g1,g2⟩:=t8w (by omega) (q1y s) (min (u5i s (u5i s (u5i s c).2).2).1.toNat m.v) (u5i s (u5i s (u5i s c).2).2).2 [] d1
 obtain⟨p1,p2⟩:=p2o (m:=m.t) (k:=m.p) g1
 obtain⟨q1,q2⟩:=p2o (m:=m.t) (k:=m.r) p1
 refine⟨q1,?_⟩
 have t1:=(t0r (u5t (p2p s) (min (u5i s (u5i s (u5i s c).2).2).1.toNat m.v) (u5i s (u5i s (u5i s c).2).2).2 []).2 (k:=4) (by omega)).2
 have u1:=(t0r (u5i s c).2 (k:=1) (by omega)).2
 have u2:=(t0r (u5i s (u5i s c).2).2 (k:=1) (by omega)).2
 have u3:=(t0r (u5i s (u5i s (u5i s c).2).2).2 (k:=1) (by omega)).2
 generalize u5t (p2p s) (min (u5i s (u5i s (u5i s c).2).2).1.toNat m.v) (u5i s (u5i s (u5i s c).2).2).2 [] =vs at*
 simp only[List.length_nil,List.map_nil,List.sum_nil] at g2
 have e:=q0f (vs.1,(t5z m.t m.p s vs.2).1,(t5z m.t m.r s (t5z m.t m.p s vs.2).2).1,(u5i s c).1,(u5i s (u5i s c).2).1)
 simp only at e
 have eV:(Ty.sl u0f).wt vs.1=vs.1.length+(vs.1.map u0f.wt).sum:=rfl
 unfold inT at q1 h
 rw[e,eV]
 omega
end
section
theorem t6k {s:ByteArray} (c:Cur) (hs:s.size≤u0p):u2i (s,c)=some ((u5i s c).1,s,(u5i s c).2):=by
 rw[q6u];unfold r46 u5i
 simp only[r7g s c.1 hs,zOb]
 cases h1:c.2
 ·cases h2:(u0t s c.1).2.2<;>simp
 ·simp
theorem t8y {s:ByteArray} (c:Cur) (hs:s.size≤u0p):u1t (s,c)=some ((u28 s c).1,s,(u28 s c).2):=by
 rw[r3x];unfold s0c u28
 simp only[r07 s c.1 hs,zOb]
 cases h1:c.2
 ·cases h2:(u0o s c.1).2.2
  ·simp[emp]
  ·simp
 ·simp[emp]
theorem r5n {s:ByteArray} {c:Cur} (hc:inT s c) (hs:s.size≤u0p):u6r (s,c)=some ((q1v s c).1,s,(q1v s c).2):=by
 have hb:u0p=1099511627776:=rfl
 unfold inT at hc
 obtain⟨k,hk⟩:∃k:Nat,c.1=k:=⟨c.1.toNat,by omega⟩
 rw[r6s];unfold s3l q1v
 simp only[hk]
 cases h1:c.2
 ·by_cases h2:k<s.size
  ·have e1:decide ((k:Int)≥(s.size:Int))=false:=decide_eq_false (by omega)
   have e3:IntKind.i64.wrap ((k:Int)+1)=(k:Int)+1:=y4y (by omega) (by omega)
   have e5:IntKind.i64.wrap ((k:Int)+1 - 1)=k:=by rw[y4y (by omega) (by omega)];omega
   rw[e1,e3,e5]
   simp only[cond_false,zOb,y7t h2,cond_true,zTn,gt1,eq1]
   rw[show(s.data.toList.getD k 0).toNat=t35 s k from rfl]
   by_cases h3:1<t35 s k
   ·simp[h3]
   ·have h3' :t35 s k≤1:=by omega
    simp[h3,h3',h2]
  ·have e1:decide ((k:Int)≥(s.size:Int))=true:=decide_eq_true (by omega)
   rw[e1]
   simp only[cond_false,zOb,cond_true]
   rw[if_pos (.inr (.inl (by omega)))]
 ·simp
theorem q0i {n k:Int} {i:Nat} {c:Cur} (h:min n.toNat k.toNat≤i∨c.2=true):((bif decide ((i:Int)<n) then(bif decide ((i:Int)<k) then some (!c.2) else some false) else some false:Option Bool))=some false:=by
 rcases h with h | h
 ·by_cases q:(i:Int)<n
  ·rw[decide_eq_true q,decide_eq_false (show ¬(i:Int)<k by omega)];rfl
  ·rw[decide_eq_false q];rfl
 ·rw[h];cases decide ((i:Int)<n)<;>cases decide ((i:Int)<k)<;>rfl
theorem r6f {n k:Int} {i:Nat} {c:Cur} (h:i<min n.toNat k.toNat) (hc:c.2=false):((bif decide ((i:Int)<n) then(bif decide ((i:Int)<k) then some (!c.2) else some false) else some false:Option Bool))=some true:=by
 rw[decide_eq_true (show(i:Int)<n by omega),decide_eq_true (show(i:Int)<k by omega),hc];rfl
theorem p58 {s:ByteArray} (hs:s.size≤u0p) (z t:u0d) (n:Int) {c:Cur} (hc:inT s c) (ht:t.2.2.2.2.1= []):
 t0h (z,(s,c),t,n,0)=some (.inl (z,(s,(u5t (p2n s) (min n.toNat 10) c []).2),(t.1,t.2.1,t.2.2.1,t.2.2.2.1,(u5t (p2n s) (min n.toNat 10) c []).1,t.2.2.2.2.2))):=by
 have L:=q1h (s:=s) t0h (fun(c:Cur) (a:List s28) i=>(z,(s,c),((t.1,t.2.1,t.2.2.1,t.2.2.2.1,a,t.2.2.2.2.2):u0d),n,i))
  (fun(c:Cur) (a:List s28)=>(z,(s,c),((t.1,t.2.1,t.2.2.1,t.2.2.2.1,a,t.2.2.2.2.2):u0d))) (p2n s) (min n.toNat 10) (p06 (q1x s))
  (fun c a i h=>by rw[s7o];simp only[t4s];rw[q0i (k:=10) h];rfl)
  (fun c a i h hc2 hin ha=>by
   rw[s7o];simp only[t4s];rw[r6f (k:=10) h hc2]
   simp only[zOb,cond_true]
   rw[t8y c hs]
   simp only[zOb]
   rw[t8y _ hs]
   simp only[zOb]
   rw[p0z (by simp;omega),y7l (by omega)]
   rfl) (min n.toNat 10) 0 c [] (by omega) hc (by simp)
 obtain⟨t1,t2,t3,t4,t5,t6⟩:=t
 simp only at ht
 subst ht
 exact L
theorem p8i {s:ByteArray} (hs:s.size≤u0p) (z t:u0d) (n:Int) {c:Cur} (hc:inT s c) (ht:t.2.2.2.2.2.1= []):
 u8l (z,(s,c),t,n,0)=some (.inl (z,(s,(u5t (rWr s) (min n.toNat 10) c []).2),(t.1,t.2.1,t.2.2.1,t.2.2.2.1,t.2.2.2.2.1,(u5t (rWr s) (min n.toNat 10) c []).1,t.2.2.2.2.2.2))):=by
 have L:=q1h (s:=s) u8l (fun(c:Cur) (a:List WrT) i=>(z,(s,c),((t.1,t.2.1,t.2.2.1,t.2.2.2.1,t.2.2.2.2.1,a,t.2.2.2.2.2.2):u0d),n,i))
  (fun(c:Cur) (a:List WrT)=>(z,(s,c),((t.1,t.2.1,t.2.2.1,t.2.2.2.1,t.2.2.2.2.1,a,t.2.2.2.2.2.2):u0d))) (rWr s) (min n.toNat 10) (p06 (r9t s))
  (fun c a i h=>by rw[s4r];simp only[t20];rw[q0i (k:=10) h];rfl)
  (fun c a i h hc2 hin ha=>by
   rw[s4r];simp only[t20];rw[r6f (k:=10) h hc2]
   simp only[zOb,cond_true]
   rw[t8y c hs]
   simp only[zOb]
   rw[t8y _ hs]
   simp only[zOb]
   rw[r5n (t02 (t02 hin).1).1 hs]
   simp only[zOb]
   rw[p0z (by simp;omega),y7l (by omega)]
   rfl) (min n.toNat 10) 0 c [] (by omega) hc (by simp)
 obtain⟨t1,t2,t3,t4,t5,t6,t7⟩:=t
 simp only at ht
 subst ht
 exact L
theorem p2w {s:ByteArray} (hs:s.size≤1048576) {a:Int} (hc:inT s (a,false)):
 t8b (s,a)=some (if(t01 10 s (a,false)).2.2=true then(u66,0,false) else((t01 10 s (a,false)).1,(t01 10 s (a,false)).2.1,true)):=by
 have hb:u0p=1099511627776:=rfl
 have hs' :s.size≤u0p:=by omega
 have hw:=q9r 10 s (a,false) hc
 have hin:=hc
 unfold inT at hin
 simp only at hin
 have hwt:u1u.wt (q36 10 s (a,false)).1≤u0p:=by
  have h1:=hw.1
  unfold inT at h1
  have:=(t0r (q36 10 s (a,false)).2 (k:=20) (by omega)).2
  have:=hw.2
  simp only at this
  omega
 have hk:=t5o _ hwt
 rw[q25];unfold r1t
 unfold t01
 unfold q36 at hk ⊢
 simp only at hk ⊢
 rw[t6k _ hs']
 simp only[zOb]
 have i1:=(u5u hc).1
 rw[t6k _ hs']
 simp only[zOb]
 have i2:=(u5u i1).1
 rw[t6k _ hs']
 simp only[zOb]
 have i3:=(u5u i2).1
 rw[t6k _ hs']
 simp only[zOb]
 have i4:=(u5u i3).1
 rw[t6k _ hs']
 simp only[zOb]
 have i5:=(u5u i4).1
 rw[p58 hs' _ _ _ i5 rfl]
 simp only[zOb]
 have i6:=(t8w (by omega) (q1x s) (min (u5i s (u5i s (u5i s (u5i s (u5i s (a,false)).2).2).2).2).1.toNat 10) (u5i s (u5i s (u5i s (u5i s (u5i s (a,false)).2).2).2).2).2 [] i5).1
 rw[t6k _ hs']
 simp only[zOb]
 have i7:=(u5u i6).1
 rw[p8i hs' _ _ _ i7 rfl]
 simp only[zOb]
 rw[r5n (t8w (by omega) (r9t s) _ _ [] i7).1 hs']
 simp only[zOb]
 rw[t8y _ hs']
 simp only[zOb]
 rw[hk]
 simp only[zOb]
 generalize u28 s _=z
 generalize t7l _=o
 cases h:z.2.2<;>cases o<;>simp[u66,emp]
theorem q93 {s:ByteArray} (hs:s.size≤1048576) (m:Nat) (hm:m≤1000) {c:Cur} (hc:inT s c):
 ∃(l:List u0d) (c' :Cur),t1t ((s,c),(m:Int))=some (l,s,c')∧inT s c' ∧c'.2=(t5z 10 (m+1) s c).2.2∧c.1+((Ty.sl u1u).wt l:Nat)≤c'.1+22∧(c'.2=false→(l,c')=t5z 10 (m+1) s c):=by
 have hb:u0p=1099511627776:=rfl
 obtain⟨h1,h2,h3,h4⟩:=u5u hc
 rw[r5m];unfold s1q t5z
 simp only
 rw[t6k c (by omega)]
 simp only[zOb]
 generalize u5i s c=y at h1 h2 h3 h4 ⊢
 have key:∀(k i:Nat) (d:Cur) (a:List u0d),i+k=min y.1.toNat (m+1)→inT s d→a.length≤i→y.2.1+((a.length+(a.map u1u.wt).sum:Nat):Int)≤d.1+bad d 20→
  ∃(r:((ByteArray×Cur)×List u0d)⊕((ByteArray×Cur)×List u0d)) (l:List u0d) (c' :Cur),u6d ((s,d),(m:Int),a,y.1,(i:Int))=some r∧(r= .inl ((s,c'),l)∨r= .inr ((s,c'),l))∧inT s c' ∧c'.2=(u5t (t01 10 s) k d a).2.2∧
   y.2.1+((l.length+(l.map u1u.wt).sum:Nat):Int)≤c'.1+bad c' 20∧(c'.2=false→(l,c')=u5t (t01 10 s) k d a):=by
  intro k
  induction k with
  | zero=>
   intro i d a hi hd ha hw
   refine⟨_,a,d,?_, .inl rfl,hd,rfl,hw,fun _=>rfl⟩
   rw[u8g];simp only[u4p]
   have:(bif decide ((i:Int)<y.1) then(bif decide ((i:Int)≤(m:Int)) then some (!d.2) else some false) else some false:Option Bool)=some false:=by
    by_cases q:(i:Int)<y.1
    ·rw[decide_eq_true q,decide_eq_false (show ¬(i:Int)≤m by omega)];rfl
    ·rw[decide_eq_false q];rfl
   rw[this];rfl
  | succ k ih=>
   intro i d a hi hd ha hw
   by_cases q:d.2=true
   ·refine⟨_,a,d,?_, .inl rfl,hd,by rw[t4e q],hw,fun z=>by rw[q] at z;cases z⟩
    rw[u8g];simp only[u4p]
    have:(bif decide ((i:Int)<y.1) then(bif decide ((i:Int)≤(m:Int)) then some (!d.2) else some false) else some false:Option Bool)=some false:=by
     rw[q];cases decide ((i:Int)<y.1)<;>cases decide ((i:Int)≤(m:Int))<;>rfl
    rw[this];rfl
   ·have q' :d.2=false:=by simpa using q
    have ed:d=(d.1,false):=by rw[←q']
    have hx:=p2w hs (a:=d.1) (by rw[←ed];exact hd)
    rw[←ed] at hx
    have he:=r61 10 s d hd
    have hbd:bad d 20=0:=by unfold bad;rw[if_neg q]
    have c1:(bif decide ((i:Int)<y.1) then(bif decide ((i:Int)≤(m:Int)) then some (!d.2) else some false) else some false:Option Bool)=some true:=by
     rw[decide_eq_true (show(i:Int)<y.1 by omega),decide_eq_true (show(i:Int)≤m by omega),q'];rfl
    simp only[u5t]
    rw[if_neg q]
    cases z:(t01 10 s d).2.2
    ·rw[if_neg (by rw[z];simp)] at hx
     have hbz:bad (t01 10 s d).2 20=0:=by unfold bad;rw[if_neg (by rw[z];simp)]
     obtain⟨r,l,c',e1,e2,e3,e4,e5,e6⟩:=ih (i+1) (t01 10 s d).2 (a++ [(t01 10 s d).1]) (by omega) he.1 (by simp;omega) (by
      have:=he.2
      rw[hbd] at hw
      rw[hbz] at this ⊢
      simp only[List.length_append,List.length_singleton,List.map_append,List.map_cons,List.map_nil,List.sum_append,List.sum_cons,List.sum_nil]
      omega)
     refine⟨r,l,c',?_,e2,e3,e4,e5,e6⟩
     rw[←e1,u8g];simp only[u4p]
     rw[c1]
     simp only[zOb,cond_true]
     rw[hx]
     simp only[zOb,Bool.not_true,cond_false]
     rw[p0z (by simp;omega),y7l (by omega),q']
     have:(t01 10 s d).2=((t01 10 s d).2.1,false):=by rw[←z]
     rw[this]
    ·rw[if_pos z] at hx
     refine⟨_,a,(d.1,true),?_, .inr rfl,hd,by rw[t4e z,z],?_,fun w=>by cases w⟩
     ·rw[u8g];simp only[u4p]
      rw[c1]
      simp only[zOb,cond_true]
      rw[hx]
      rfl
     ·rw[hbd] at hw
      have:bad ((d.1,true):Cur) 20=20:=rfl
      rw[this];simp only;omega
 have hb0:0≤bad y.2 20:=(t0r _ (by omega)).1
 obtain⟨r,l,c',e1,e2,e3,e4,e5,e6⟩:=key (min y.1.toNat (m+1)) 0 y.2 [] (by omega) h1 (by simp) (by simp only[List.length_nil,List.map_nil,List.sum_nil];omega)
 have e1' :u6d ((s,y.2),(m:Int), [],y.1,0)=some r:=e1
 refine⟨l,c',?_,e3,e4,?_,e6⟩
 ·rw[e1']
  rcases e2 with e2 | e2<;>rw[e2] <;>rfl
 ·have e:(Ty.sl u1u).wt l=l.length+(l.map u1u.wt).sum:=rfl
  rw[e]
  have t1:=(t0r y.2 (k:=1) (by omega)).2
  have t2:=(t0r c' (k:=20) (by omega)).2
  omega
def p7h:Lim:=⟨10,130,13,4⟩
theorem p9j:p7h.ok:=⟨by decide,by decide,by decide,by decide⟩
theorem p6h {s:ByteArray} (hs:s.size≤u0p) (z b:u0h) (n:Int) {c:Cur} (hc:inT s c) (ht:b.1= []):
 u8k (z,(s,c),b,n,0)=some (.inl (z,(s,(u5t (p2p s) (min n.toNat 130) c []).2),((u5t (p2p s) (min n.toNat 130) c []).1,b.2))):=by
 have L:=q1h (s:=s) u8k (fun(c:Cur) (a:List u2j) i=>(z,(s,c),((a,b.2):u0h),n,i))
  (fun(c:Cur) (a:List u2j)=>(z,(s,c),((a,b.2):u0h))) (p2p s) (min n.toNat 130) (p06 (q1y s))
  (fun c a i h=>by rw[s4q];simp only[t2z];rw[q0i (k:=130) h];rfl)
  (fun c a i h hc2 hin ha=>by
   rw[s4q];simp only[t2z];rw[r6f (k:=130) h hc2]
   simp only[zOb,cond_true]
   rw[t8y c hs]
   simp only[zOb]
   rw[t8y _ hs]
   simp only[zOb]
   rw[r5n (t02 (t02 hin).1).1 hs]
   simp only[zOb]
   rw[t6k _ hs]
   simp only[zOb]
   rw[p0z (by simp;omega),y7l (by omega)]
   rfl) (min n.toNat 130) 0 c [] (by omega) hc (by simp)
 obtain⟨b1,b2⟩:=b
 simp only at ht
 subst ht
 exact L
theorem p5b {s:ByteArray} (hs:s.size≤1048576) {a:Int} (hc:inT s (a,false)):
 s0u (s,a)=some (if(t8r p7h s (a,false)).2.2=true then(u3o,0,false) else((t8r p7h s (a,false)).1,(t8r p7h s (a,false)).2.1,true)):=by
 have hb:u0p=1099511627776:=rfl
 have hs' :s.size≤u0p:=by omega
 have hw:=p2l p7h (s:=s) hc
 have hk:=t7d (s79 p7h s (a,false)).1 (by have:=hw.2;omega)
 rw[q02];unfold s8x
 unfold t8r
 unfold s79 at hk ⊢
 simp only at hk ⊢
 rw[t6k _ hs']
 simp only[zOb]
 have i1:=(u5u hc).1
 rw[t6k _ hs']
 simp only[zOb]
 have i2:=(u5u i1).1
 rw[t6k _ hs']
 simp only[zOb]
 have i3:=(u5u i2).1
 rw[p6h hs' _ _ _ i3 rfl]
 simp only[zOb]
 have i4f:=t8w (by omega) (q1y s) (min (u5i s (u5i s (u5i s (a,false)).2).2).1.toNat 130) (u5i s (u5i s (u5i s (a,false)).2).2).2 [] i3
 rw[show p7h.v=130 from rfl,show p7h.t=10 from rfl,show p7h.p=12+1 from rfl,show p7h.r=3+1 from rfl] at hk ⊢
 generalize hvs:u5t (p2p s) (min (u5i s (u5i s (u5i s (a,false)).2).2).1.toNat 130) (u5i s (u5i s (u5i s (a,false)).2).2).2 [] =vs at hk i4f ⊢
 obtain⟨i4,i4w⟩:=i4f
 obtain⟨l1,d1,e1,e2,e3,e4,e5⟩:=q93 hs 12 (by omega) i4
 obtain⟨l2,d2,f1,f2,f3,f4,f5⟩:=q93 hs 3 (by omega) e2
 rw[show((12:Nat):Int)=12 from rfl] at e1
 rw[show((3:Nat):Int)=3 from rfl] at f1
 rw[e1]
 simp only[zOb]
 rw[f1]
 simp only[zOb]
 cases z:d2.2
 ·have z1:d1.2=false:=by
   cases w:d1.2
   ·rfl
   ·have:(t5z 10 (3+1) s d1).2.2=true:=s90 w
    rw[←f3,z] at this;cases this
  have g1:=e5 z1
  have g2:=f5 z
  rw[←g1]
  rw[←g1] at hk
  simp only at hk ⊢
  rw[←g2]
  rw[←g2] at hk
  simp only at hk ⊢
  rw[hk]
  simp only[zOb,z,cond_false,Bool.false_or]
  generalize t7a _=o
  cases o<;>simp[u3o]
 ·have zz:(t5z 10 (3+1) s (t5z 10 (12+1) s vs.2).2).2.2=true:=by
   cases w:d1.2
   ·have g1:=e5 w
    rw[←g1]
    show(t5z 10 (3+1) s d1).2.2=true
    rw[←f3];exact z
   ·exact s90 (by rw[←e3];exact w)
  rw[zz]
  simp[u3o]
theorem q9y {t:ByteArray} (h:4≤t.size):r02 (t.extract 0 (t.size - 4))=t↔t.extract (t.size - 4) t.size=o2j (p9q (t.extract 0 (t.size - 4))):=by
 have e:t.extract 0 (t.size - 4)++t.extract (t.size - 4) t.size=t:=by
  rw[ByteArray.extract_append_extract,Nat.zero_min,Nat.max_eq_right (by omega)]
  exact ByteArray.extract_zero_size
 unfold r02
 constructor
 ·intro q
  have:=e.trans q.symm
  exact ByteArray.append_right_inj (t.extract 0 (t.size - 4)) |>.mp this
 ·intro q;rw[←q,e]
theorem p3b (t:ByteArray) (ht:t.size≤1099511627776):s17 t=some (p9q t):=by
 rw[r76];unfold s81
 rw[r7h _ _ ht];rfl
theorem p4v (x:Int):t8e x=some (o2j x):=by
 rw[r2z];rfl
theorem q5q (t:ByteArray) (ht:t.size≤u0p):s0w t=some (match t8j t with
 | some s=>(s,true)
 | none=>(emp,false)):=by
 have hb:u0p=1099511627776:=rfl
 rw[q06];unfold s82 t8j
 rw[y4y (n:=(t.size:Int) - 4) (by omega) (by omega)]
 by_cases h4:t.size<4
 ·rw[decide_eq_true (show(t.size:Int) - 4<0 by omega),if_neg (by omega)];rfl
 ·rw[decide_eq_false (show ¬(t.size:Int) - 4<0 by omega)]
  have c1:(decide ((0:Int)≤0)&&decide ((0:Int)≤(t.size:Int) - 4)&&decide ((t.size:Int) - 4≤(t.size:Int)))=true:=by simp;omega
  have c2:(decide ((0:Int)≤(t.size:Int) - 4)&&decide ((t.size:Int) - 4≤(t.size:Int))&&decide ((t.size:Int)≤(t.size:Int)))=true:=by simp;omega
  have e1:((t.size:Int) - 4).toNat=t.size - 4:=by omega
  rw[c1,c2,e1,show((0:Int)).toNat=0 from rfl,zTn]
  have hz:(t.extract 0 (t.size - 4)).size=t.size - 4:=by simp
  simp only[cond_false,cond_true]
  by_cases h5:t.size - 4≤20000
  ·rw[decide_eq_false (show ¬(t.size:Int) - 4 >20000 by omega),p3b _ (by rw[hz];omega)]
   simp only[zOb,cond_false]
   rw[p4v]
   simp only[zOb]
   by_cases h6:r02 (t.extract 0 (t.size - 4))=t
   ·rw[if_pos ⟨by omega,h5,h6⟩,(q9y (by omega)).mp h6,y6l];rfl
   ·rw[if_neg (fun q=>h6 q.2.2),p1t.mpr (mt (q9y (t:=t) (by omega)).mpr h6)];rfl
  ·rw[decide_eq_true (show(t.size:Int) - 4 >20000 by omega),if_neg (fun q=>h5 q.2.1)];rfl
end
section
def noR:s27:=(0,u66,emp,false,u3o)
def s4d (t:ByteArray):s27×Bool:=match u57 t with
 | some r=>(r,true)
 | none=>(noR,false)
theorem p70 {t:ByteArray} {r:s27} (h:u1i r=(t,true)):u57 t=some r:=by
 have hr:t3o r=true:=by
  cases q:t3o r with
  | true=>rfl
  | false=>
   unfold u1i at h
   rw[if_neg (by simp[q])] at h
   simp at h
 have hR:=p8w.mp hr
 rw[t2m hR] at h
 rw[←(Prod.mk.inj h).1]
 exact s91 hR
theorem p7z {t s:ByteArray} {r:s27} (hu:t8j t=some s) (h:u57 t=some r):RecR r∧s=s93 r∧u1i r=(t,true):=by
 obtain⟨h1,h2⟩:=r5x h
 have hs:=s4e h1
 have:=r53 (t:=s93 r) (by omega)
 rw[←h2,hu] at this
 exact⟨h1,Option.some.inj this,by rw[t2m h1,←h2]⟩
theorem q6x {t s:ByteArray} {r' :s27} {b:Bool} (hu:t8j t=some s) (hr:∀r,RecR r→s=s93 r→r' =r∧b=false):
 (((bif b then some true else(bif (!(u1i r').2) then some true else some (!z7o (u1i r').1 t))):Option Bool).bind fun j=>bif j then some (noR,false) else some (r',true))=some (s4d t):=by
 unfold s4d
 cases h:u57 t with
 | some r=>
  obtain⟨h1,h2,h3⟩:=p7z hu h
  obtain⟨e1,e2⟩:=hr r h1 h2
  subst e1
  rw[e2,h3]
  simp only[cond_false,Bool.not_true,y6l,zOb]
 | none=>
  cases b
  ·cases h2:(u1i r').2
   ·rfl
   ·have:z7o (u1i r').1 t=false:=by
     rw[p1t]
     intro e
     have:=p70 (t:=t) (r:=r') (by rw[←e,←h2])
     rw[h] at this;cases this
    rw[this];rfl
  ·rfl
theorem p65 (s:ByteArray):((s.data.toList.getD 0 0).toNat:Int)=(t35 s 0:Int):=rfl
theorem p5e (s:ByteArray) (i:Nat):t35 s i<256:=by unfold t35;exact UInt8.toNat_lt _
theorem q7b {t s:ByteArray} (h:t8j t=some s):s.size≤20000:=by
 unfold t8j at h
 split at h
 ·rename_i q
  have:=Option.some.inj h
  rw[←this];simp;omega
 ·cases h
theorem o5v (k:Nat):decide ((k:Int)=3)=decide (k=3):=by simp;omega
theorem o5w (k:Nat):decide ((k:Int)=4)=decide (k=4):=by simp;omega
theorem q7i:u1u.wt u66=0:=rfl
theorem q7h:o0t.wt u3o=0:=rfl
theorem p7o (m:Nat) {s:ByteArray} (hs:s.size≤20000) (h1:1≤s.size):u1u.wt (t01 m s (1,false)).1≤30000:=by
 have h:=r61 m s (1,false) ⟨by simp,by simp;omega⟩
 have h2:=h.1
 unfold inT at h2
 have:=(t0r (t01 m s (1,false)).2 (k:=20) (by omega)).2
 have:=h.2
 simp only at this
 omega
theorem p5s (m:Lim) {s:ByteArray} (hs:s.size≤20000) (h1:1≤s.size):o0t.wt (t8r m s (1,false)).1≤30000:=by
 have h:=p2l m (s:=s) (c:=(1,false)) ⟨by simp,by simp;omega⟩
 have e:(t8r m s (1,false)).1=(s79 m s (1,false)).1:=rfl
 rw[e];have:=h.2;omega
theorem r91 (t:ByteArray) (ht:t.size≤u0p):t7i t=some (s4d t):=by
 have hb:u0p=1099511627776:=rfl
 rw[r6m];unfold s3f
 rw[q5q t ht]
 simp only[zOb]
 cases hu:t8j t with
 | none=>
  unfold s4d u57
  rw[hu];rfl
 | some s=>
  have hs:=q7b hu
  simp only[s5b]
  by_cases h0:s.size=0
  ·unfold s4d u57
   rw[hu]
   simp only
   rw[if_pos h0,decide_eq_true h0];rfl
  ·have hin:inT s (1,false):=⟨by simp,by simp;omega⟩
   rw[decide_eq_false h0]
   simp only[Bool.not_true,cond_false,zOb]
   rw[show y4q (0:Int) s.size=true from y7t (i:=0) (by omega)]
   simp only[cond_true,show((0:Int)).toNat=0 from rfl,p65]
   rw[y4y (n:=(t35 s 0:Int)) (by omega) (by have:=p5e s 0;omega),o5v,o5w]
   by_cases h3:t35 s 0=3
   ·rw[decide_eq_true h3,t8y _ (by omega)]
    simp only[cond_true,zOb]
    rw[r5n (t02 hin).1 (by omega)]
    simp only[zOb]
    have hf:=(t02 hin).2
    have hg:=(t02 hin).1
    unfold inT at hg
    have:=(t0r (u28 s (1,false)).2 (k:=1) (by omega)).2
    simp only at hf
    have hk:=t1w ((t35 s 0:Int),u66,(u28 s (1,false)).1,(q1v s (u28 s (1,false)).2).1,u3o) (by rw[q41];simp only[q7i,q7h];omega)
    rw[show((0:Int),(0:Int),(0:Int),(0:Int),([] :List s28),([] :List WrT),false,(⟨#[]⟩:ByteArray))=u66 from rfl]
    rw[show(([] :List u2j),([] :List u0d),([] :List u0d),(0:Int),(0:Int))=u3o from rfl]
    rw[hk]
    simp only[zOb]
    refine q6x hu (b:=false) fun r h1 h2=> ?_
    have:=r0s h1
    rw[←h2] at this
    unfold t63 at this
    rw[if_pos h3] at this
    rw[h3]
    exact⟨(Prod.mk.inj this).1,rfl⟩
   ·rw[decide_eq_false h3]
    by_cases h4:t35 s 0=4
    ·rw[decide_eq_true h4,p5b (by omega) hin]
     simp only[cond_true,cond_false,zOb]
     generalize hy:(if(t8r p7h s (1,false)).2.2=true then(u3o,(0:Int),false) else((t8r p7h s (1,false)).1,(t8r p7h s (1,false)).2.1,true))=y
     have hyw:o0t.wt y.1≤30000:=by
      rw[←hy]
      split
      ·rw[q7h];omega
      ·exact p5s p7h hs (by omega)
     have hk:=t1w ((t35 s 0:Int),u66,emp,false,y.1) (by rw[q41];simp only[q7i];simp only[emp,ByteArray.size];simp;omega)
     rw[show((0:Int),(0:Int),(0:Int),(0:Int),([] :List s28),([] :List WrT),false,(⟨#[]⟩:ByteArray))=u66 from rfl]
     rw[show(([] :List u2j),([] :List u0d),([] :List u0d),(0:Int),(0:Int))=u3o from rfl]
     rw[show((⟨#[]⟩:ByteArray))=emp from rfl]
     rw[hk]
     simp only[zOb]
     refine q6x hu (b:=false) fun r h1 h2=> ?_
     have:=r0s h1
     rw[←h2] at this
     unfold t63 at this
     rw[if_neg h3,if_pos h4] at this
     have hl:=p3t p5o p9j (Prod.mk.inj this).2
     rw[hl,if_neg (by rw[(Prod.mk.inj this).2];simp)] at hy
     rw[h4,←hy]
     exact⟨(Prod.mk.inj this).1,rfl⟩
    ·rw[decide_eq_false h4,p2w (by omega) hin]
     simp only[cond_true,cond_false,zOb]
     generalize hy:(if(t01 10 s (1,false)).2.2=true then(u66,(0:Int),false) else((t01 10 s (1,false)).1,(t01 10 s (1,false)).2.1,true))=y
     have hyw:u1u.wt y.1≤30000:=by
      rw[←hy]
      split
      ·rw[q7i];omega
      ·exact p7o 10 hs (by omega)
     have hk:=t1w ((t35 s 0:Int),y.1,emp,false,u3o) (by rw[q41];simp only[q7h];simp only[emp,ByteArray.size];simp;omega)
     rw[show((0:Int),(0:Int),(0:Int),(0:Int),([] :List s28),([] :List WrT),false,(⟨#[]⟩:ByteArray))=u66 from rfl]
     rw[show(([] :List u2j),([] :List u0d),([] :List u0d),(0:Int),(0:Int))=u3o from rfl]
     rw[show((⟨#[]⟩:ByteArray))=emp from rfl]
     rw[hk]
     simp only[zOb]
     refine q6x hu (b:=false) fun r h1 h2=> ?_
     have:=r0s h1
     rw[←h2] at this
     unfold t63 at this
     rw[if_neg h3,if_neg h4] at this
     have hl:=q9j (m:=9) (m' :=10) (by omega) (by omega) (Prod.mk.inj this).2
     rw[hl,if_neg (by rw[(Prod.mk.inj this).2];simp)] at hy
     rw[←hy]
     exact⟨(Prod.mk.inj this).1,rfl⟩
end
section
theorem p0n (l:List u0d) (c:ByteArray) (hl:l.length≤8388608):u1x (l,c)=some (l.filter fun x=> !z7o x.2.2.2.2.2.2.2 c):=by
 have hq:∀x∈l,u7d (x,c)=some (z7o x.2.2.2.2.2.2.2 c):=fun x _=>by rw[r8y];rfl
 have L:=Q.first (T:=u1u) (c:=ByteArray) (W:=u08) (q:=u7d) (p:=fun x:u0d=>z7o x.2.2.2.2.2.2.2 c) (fun x=>u89 x) l c (by omega) hq
 rw[u9q];unfold u4d
 simp only[t0w,u4u,L,zOb]
 by_cases hk:u0m (fun x:u0d=>z7o x.2.2.2.2.2.2.2 c) l<l.length
 ·obtain⟨a,e1,e2,e3⟩:=Q.delete (T:=u1u) (c:=ByteArray) (W:=u0z) (q:=u7d) (p:=fun x:u0d=>z7o x.2.2.2.2.2.2.2 c) (fun x=>u81 x) l c (by omega) hq hk
  have hn:=t00 (fun x:u0d=> !z7o x.2.2.2.2.2.2.2 c) l
  obtain⟨n,hne⟩:∃n,n=(l.filter fun x:u0d=> !z7o x.2.2.2.2.2.2.2 c).length:=⟨_,rfl⟩
  rw[←hne] at e1 e3 hn
  have c1:decide (((u0m (fun x:u0d=>z7o x.2.2.2.2.2.2.2 c) l:Nat):Int)= -1)=false:=by simp
  have c2:decide ((0:Int)≤(n:Int))=true:=by simp
  have c3:decide ((n:Int)≤(a.length:Int))=true:=by simp;omega
  have c4:decide ((a.length:Int)≤(a.length:Int))=true:=by simp
  have hw:=y7l (i:=u0m (fun x:u0d=>z7o x.2.2.2.2.2.2.2 c) l) (by omega)
  simp only[if_pos hk,zOb,c1,cond_false,hw,e1,c2,c3,c4,Bool.and_self,cond_true,zTn,decide_true,Int.le_refl]
  have c5:decide ((n:Int)≤((a.take n++List.replicate (a.length - n) u1u.zero++a.drop (n+(a.length - n))).length:Int))=true:=by simp;omega
  have c6:(a.take n++List.replicate (a.length - n) u1u.zero++a.drop (n+(a.length - n))).take (n - (0:Int).toNat)=l.filter fun x:u0d=> !z7o x.2.2.2.2.2.2.2 c:=by
   rw[List.append_assoc,Int.toNat_zero,Nat.sub_zero,r0n a n (by omega),e3]
  simp only[c5,Bool.and_self,cond_true,c6]
 ·have hall:(l.filter fun x:u0d=> !z7o x.2.2.2.2.2.2.2 c)=l:=by
   rw[List.filter_eq_self]
   intro x hx
   obtain⟨i,hi,rfl⟩:=List.getElem_of_mem hx
   rw[u7c (p:=fun x:u0d=>z7o x.2.2.2.2.2.2.2 c) hi (by omega)]
   rfl
  simp only[if_neg hk,zOb,decide_true,cond_true,hall]
theorem q2f (l:List u0d) (c:Int) (hl:l.length≤8388608):u1y (l,c)=some (l.filter fun x=> !decide (x.1=c)):=by
 have hq:∀x∈l,u7g (x,c)=some (decide (x.1=c)):=fun x _=>by rw[r83];rfl
 have L:=Q.first (T:=u1u) (c:=Int) (W:=u1b) (q:=u7g) (p:=fun x:u0d=>decide (x.1=c)) (fun x=>u9c x) l c (by omega) hq
 rw[u9s];unfold u4f
 simp only[t0z,u4x,L,zOb]
 by_cases hk:u0m (fun x:u0d=>decide (x.1=c)) l<l.length
 ·obtain⟨a,e1,e2,e3⟩:=Q.delete (T:=u1u) (c:=Int) (W:=u01) (q:=u7g) (p:=fun x:u0d=>decide (x.1=c)) (fun x=>u83 x) l c (by omega) hq hk
  have hn:=t00 (fun x:u0d=> !decide (x.1=c)) l
  obtain⟨n,hne⟩:∃n,n=(l.filter fun x:u0d=> !decide (x.1=c)).length:=⟨_,rfl⟩
  rw[←hne] at e1 e3 hn
  have c1:decide (((u0m (fun x:u0d=>decide (x.1=c)) l:Nat):Int)= -1)=false:=by simp
  have c2:decide ((0:Int)≤(n:Int))=true:=by simp
  have c3:decide ((n:Int)≤(a.length:Int))=true:=by simp;omega
  have c4:decide ((a.length:Int)≤(a.length:Int))=true:=by simp
  have hw:=y7l (i:=u0m (fun x:u0d=>decide (x.1=c)) l) (by omega)
  simp only[if_pos hk,zOb,c1,cond_false,hw,e1,c2,c3,c4,Bool.and_self,cond_true,zTn,decide_true,Int.le_refl]
  have c5:decide ((n:Int)≤((a.take n++List.replicate (a.length - n) u1u.zero++a.drop (n+(a.length - n))).length:Int))=true:=by simp;omega
  have c6:(a.take n++List.replicate (a.length - n) u1u.zero++a.drop (n+(a.length - n))).take (n - (0:Int).toNat)=l.filter fun x:u0d=> !decide (x.1=c):=by
   rw[List.append_assoc,Int.toNat_zero,Nat.sub_zero,r0n a n (by omega),e3]
  simp only[c5,Bool.and_self,cond_true,c6]
 ·have hall:(l.filter fun x:u0d=> !decide (x.1=c))=l:=by
   rw[List.filter_eq_self]
   intro x hx
   obtain⟨i,hi,rfl⟩:=List.getElem_of_mem hx
   rw[u7c (p:=fun x:u0d=>decide (x.1=c)) hi (by omega)]
   rfl
  simp only[if_neg hk,zOb,decide_true,cond_true,hall]
theorem q7t (b:u0h) (n:ByteArray) (hb:fewB b):s2p (b,n)=some (t84 b n):=by
 rw[q2l];unfold r09
 simp only
 rw[s26 b hb]
 simp only[zOb]
 rw[p0n _ _ (by have:=hb.2.2.1;omega)]
 rfl
theorem r7e (b:u0h) (n:ByteArray) (hb:fewB b):t78 (b,n)=some (t84 b n):=by
 obtain⟨hb1,hb2,hb3⟩:=hb
 have L:=s1j t0f b.2.2.1 (fun(a:List u0d) i=>(n,b,u3o,((b.1,b.2.1,a,b.2.2.2):u0h),i)) (fun x:u0d=> !z7o x.2.2.2.2.2.2.2 n) (fun x=>x) (fun a=> .inl (u3o,((b.1,b.2.1,a,b.2.2.2):u0h))) (by have:=hb3.1;omega)
  (fun a _=>by rw[s7k];simp only[t4o,u0b,Nat.lt_irrefl,decide_false,cond_false])
  (fun i hi a ha=>by
   have hm:=List.getElem_mem hi
   have:=hb3.1
   rw[s7k];simp only[t4o,u0b,hi,decide_true,cond_true,y7t hi,zTn,y8k (t:=u1u) hi,y7l (show i<4611686018427387904 by omega)]
   rw[u95 _ (hb3.2 _ hm)]
   simp only[zOb]
   rw[p0z (by simp;omega)])
 rw[List.map_id'] at L
 rw[q2z];unfold r1n
 simp only
 rw[t7e b ⟨hb1,hb2,hb3⟩]
 simp only[zOb]
 have L' :t0f (n,b,(([], [], [],0,0):u0h),((b.1,b.2.1, [],b.2.2.2):u0h),0)=_:=L
 rw[L']
 rfl
theorem p5l {n i:Int} :y8h n (i+1)=u1l n i:=by
 unfold y8h u1l
 by_cases h:i<n
 ·rw[if_pos h,if_neg (by omega)]
 ·rw[if_neg h,if_pos (by omega)]
theorem p5w (p:u0d→Bool) (l:List u0d):∀(a:List u0d×List u0d),l.foldl (fun a x=>if p x=true then(a.1++ [x],a.2) else(a.1,a.2++ [x])) a=(a.1++l.filter p,a.2++l.filter fun x=> !p x):=by
 induction l with
 | nil=>intro a;simp
 | cons x l ih=>
  intro a
  rw[List.foldl_cons,ih]
  cases h:p x<;>simp[h]
theorem p2g (p q:u0d→Bool) (l:List u0d) (d:u0d) (hl:l.length≤4194304):(l.filter p).length+ [d].length≤1099511627776∧(l.filter p++ [d]).length+(l.filter q).length≤1099511627776∧(l.filter p++ [d]).length≤8000000:=by
 have f1:=t00 p l
 have f2:=t00 q l
 rw[List.length_append,List.length_singleton]
 omega
theorem q40 (b z:u0h) (t d:u0d) (n:ByteArray) (hb:fewB b):u53 (n,t,z,b,d, [], [],(),(b.2.2.1.length:Int),0)=
 some (.inl (t,z,b,d,b.2.2.1.filter (fun x=>y3c x.2.2.2.2.2.2.2 n),b.2.2.1.filter fun x=> !y3c x.2.2.2.2.2.2.2 n)):=by
 have hl:=hb.2.2.1
 have L:=t59 u53 b.2.2.1 (fun(a:List u0d×List u0d) i=>(n,t,z,b,d,a.1,a.2,(),(b.2.2.1.length:Int),i)) (fun a x=>if y3c x.2.2.2.2.2.2.2 n=true then(a.1++ [x],a.2) else(a.1,a.2++ [x]))
  (fun a=> .inl (t,z,b,d,a.1,a.2)) (fun i a=>a.1.length≤i∧a.2.length≤i)
  (fun a _=>by rw[s2a];simp only[t1d,u0b,Nat.lt_irrefl,decide_false,cond_false])
  (fun i hi a ha=>by
   rw[s2a];simp only[t1d,u0b,hi,decide_true,cond_true,y7t hi,zTn,y8k (t:=u1u) hi,y7l (show i<4611686018427387904 by omega)]
   cases y3c (b.2.2.1[i]).2.2.2.2.2.2.2 n
   ·simp only[Bool.false_eq_true,if_false,cond_false]
    refine⟨⟨by omega,by simp;omega⟩,?_⟩
    rw[p0z (by simp;omega)]
   ·simp only[if_true,cond_true]
    refine⟨⟨by simp;omega,by omega⟩,?_⟩
    rw[p0z (by simp;omega)]) ([], []) ⟨by simp,by simp⟩
 rw[p5w (fun x=>y3c x.2.2.2.2.2.2.2 n)] at L
 simpa using L
theorem q2g (b:u0h) (t:u0d) (n:ByteArray) (hb:fewB b) (ht:s76 t) (hi:p6r t.1):u7e (b,t,n)=some (u1r b t n):=by
 have hl:=hb.2.2.1
 rw[r8z];unfold s5x
 simp only
 rw[s26 b hb]
 simp only[zOb]
 rw[s8b t ht]
 simp only[zOb]
 rw[r58 t b.2.1 ht hb.2.1]
 simp only[zOb]
 rw[q40 _ _ _ _ _ hb,q40 _ _ _ _ _ hb]
 simp only[zOb,t97 hi,p5l]
 have pl:=fun d=>p2g (fun x:u0d=>y3c x.2.2.2.2.2.2.2 n) (fun x:u0d=> !y3c x.2.2.2.2.2.2.2 n) b.2.2.1 d hl
 rw[p0z (pl _).1,p0z (pl _).2.1,p0z (pl _).1,p0z (pl _).2.1]
 unfold u1r u20
 cases t.2.2.2.2.2.2.1<;>rfl
theorem q11 (b z:u0h) (t d:u0d) (n:ByteArray) (hb:fewB b):u55 (n,b,t,z,((b.1,b.2.1, [],b.2.2.2):u0h),d,0)=
 some (.inl (n,b,t,z,((b.1,b.2.1,b.2.2.1.filter (fun x=>y3c x.2.2.2.2.2.2.2 n),b.2.2.2):u0h),d)):=by
 have hl:=hb.2.2.1
 have L:=s1j u55 b.2.2.1 (fun(a:List u0d) i=>(n,b,t,z,((b.1,b.2.1,a,b.2.2.2):u0h),d,i)) (fun x:u0d=>y3c x.2.2.2.2.2.2.2 n) (fun x=>x) (fun a=> .inl (n,b,t,z,((b.1,b.2.1,a,b.2.2.2):u0h),d)) (by omega)
  (fun a _=>by rw[s2g];simp only[t1j,u0b,Nat.lt_irrefl,decide_false,cond_false])
  (fun i hi a ha=>by
   have hm:=List.getElem_mem hi
   rw[s2g];simp only[t1j,u0b,hi,decide_true,cond_true,y7t hi,zTn,y8k (t:=u1u) hi,y7l (show i<4611686018427387904 by omega)]
   rw[u95 _ (hb.2.2.2 _ hm)]
   simp only[zOb]
   rw[p0z (by simp;omega)])
 rw[List.map_id'] at L
 exact L
theorem r8d (b z:u0h) (t:u0d) (n:ByteArray) (hb:fewB b) (pre:List u0d) (hp:pre.length≤8000000):u5j (n,b,t,z,((b.1,b.2.1,pre,b.2.2.2):u0h),0)=
 some (.inl (t,z,((b.1,b.2.1,pre++b.2.2.1.filter (fun x=> !y3c x.2.2.2.2.2.2.2 n),b.2.2.2):u0h))):=by
 have hl:=hb.2.2.1
 have L:=s1j u5j b.2.2.1 (fun(a:List u0d) i=>(n,b,t,z,((b.1,b.2.1,pre++a,b.2.2.2):u0h),i)) (fun x:u0d=> !y3c x.2.2.2.2.2.2.2 n) (fun x=>x) (fun a=> .inl (t,z,((b.1,b.2.1,pre++a,b.2.2.2):u0h))) (by omega)
  (fun a _=>by rw[s05];simp only[u9i,u0b,Nat.lt_irrefl,decide_false,cond_false])
  (fun i hi a ha=>by
   have hm:=List.getElem_mem hi
   rw[s05];simp only[u9i,u0b,hi,decide_true,cond_true,y7t hi,zTn,y8k (t:=u1u) hi,y7l (show i<4611686018427387904 by omega)]
   rw[u95 _ (hb.2.2.2 _ hm)]
   simp only[zOb]
   rw[p0z (by simp;omega),List.append_assoc])
 rw[List.map_id',List.append_nil] at L
 exact L
theorem r05 (b:u0h) (t:u0d) (n:ByteArray) (hb:fewB b) (ht:s76 t) (hi:p6r t.1):u59 (b,t,n)=some (u1r b t n):=by
 have hl:=hb.2.2.1
 have pl:=fun d=>p2g (fun x:u0d=>y3c x.2.2.2.2.2.2.2 n) (fun x:u0d=> !y3c x.2.2.2.2.2.2.2 n) b.2.2.1 d hl
 rw[r89];unfold s55
 simp only
 rw[t7e b hb]
 simp only[zOb]
 rw[u95 t ht]
 simp only[zOb]
 rw[r59 t b.2.1 ht hb.2.1]
 simp only[zOb]
 rw[q11 _ _ _ _ _ hb,q11 _ _ _ _ _ hb]
 simp only[zOb]
 rw[p0z (pl _).1,p0z (pl _).1,r8d _ _ _ _ hb _ (pl _).2.2,r8d _ _ _ _ hb _ (pl _).2.2]
 simp only[zOb,t97 hi]
 have key:∀(o:Bool),(bif decide (t.1≥b.2.2.2.2) then some ((b.1,b.2.1,(b.2.2.1.filter fun x=>y3c x.2.2.2.2.2.2.2 n)++ [((t.1,(2:Int),t.2.2.1,t.2.2.2.1,t.2.2.2.2.1,t.2.2.2.2.2.1,o,n):u0d)] ++(b.2.2.1.filter fun x=> !y3c x.2.2.2.2.2.2.2 n),b.2.2.2.1,t.1+1):u0h)
  else some (b.1,b.2.1,(b.2.2.1.filter fun x=>y3c x.2.2.2.2.2.2.2 n)++ [((t.1,(2:Int),t.2.2.1,t.2.2.2.1,t.2.2.2.2.1,t.2.2.2.2.2.1,o,n):u0d)] ++(b.2.2.1.filter fun x=> !y3c x.2.2.2.2.2.2.2 n),b.2.2.2))=
  some (b.1,b.2.1,(b.2.2.1.filter fun x=>y3c x.2.2.2.2.2.2.2 n)++ [((t.1,(2:Int),t.2.2.1,t.2.2.2.1,t.2.2.2.2.1,t.2.2.2.2.2.1,o,n):u0d)] ++(b.2.2.1.filter fun x=> !y3c x.2.2.2.2.2.2.2 n),b.2.2.2.1,u1l b.2.2.2.2 t.1):=fun o=>by
  unfold u1l
  by_cases h:t.1<b.2.2.2.2
  ·rw[decide_eq_false (by omega),if_pos h];rfl
  ·rw[decide_eq_true (by omega),if_neg h];rfl
 unfold u1r u20
 cases t.2.2.2.2.2.2.1
 ·exact key _
 ·exact key _
end
section
def SameLog (d e:u0j):Prop:=u45 e=true∧u0y e=u0y d∧u0c e 0=u0c d 0∧u0c e 1=u0c d 1
theorem u8q {a:Int} (ha:a=0∨a=1):u0e a=1+a*48∧(s3s a:Int)=2+a*48:=by
 have hfa:u0e a=1+a*48:=by unfold u0e;rw[if_pos (p7e.mpr ha)]
 refine⟨hfa,?_⟩
 unfold s3s
 rcases ha with rfl | rfl<;>omega
theorem r5t {e:u0j} (h1:u1z e=true) (h2:e.1.length=97) (h3:e.2= []) (h4:(u0c e 0).2.2=true) (h5:(u0c e 1).2.2=true):u45 e=true:=by
 unfold u45
 rw[h1,h4,h5]
 simp[h2,h3]
theorem s2j {d e:u0j} (h:u0g e 0=u0g d 0):u0y e=u0y d:=by
 unfold u0y u5x
 rw[h]
theorem p9h {d e:u0j} (hl:u45 d=true) {a:Int} (ha:a=0∨a=1) (h1:u1z e=true) (h2:e.1.length=97) (h3:e.2= [])
 (h4:∀k:Nat,k<97→ ¬(s3s a≤k∧k<s3s a+47)→u0g e (k:Int)=u0g d (k:Int))
 (h5:∀j:Nat,(j:Int)<(u0c d a).2.1→j<3008→s5d (s48 e a) j=s5d (s48 d a) j):SameLog d e:=by
 obtain⟨d1,d2,d3,d4,d5⟩:=u6w hl
 have fd:=s5c d1 d2
 have fe:=s5c h1 h2
 obtain⟨f1,f2⟩:=u8q ha
 have hact:u0y e=u0y d:=s2j (h4 0 (by omega) (by omega))
 have hcnt:u1c e a=u1c d a:=by
  unfold u1c u5x
  have hk:u0e a=(((u0e a).toNat:Nat):Int):=by rcases ha with rfl | rfl<;>omega
  have:=h4 (u0e a).toNat (by rcases ha with rfl | rfl<;>omega) (by rcases ha with rfl | rfl<;>omega)
  rw[←hk] at this
  rw[this]
 have hra:u0c e a=u0c d a:=by
  have hda:=u9x fd ha
  have hok:(u0c d a).2.2=true:=by rcases ha with rfl | rfl<;>assumption
  rw[u9x fe ha,hcnt]
  obtain⟨l,E,r⟩:∃l E,u0c d a=(l,E,true):=⟨_,_,by rw[←hok]⟩
  rw[r] at h5 ⊢
  rw[r] at hda
  have hsz:(s48 e a).size=(s48 d a).size:=by rw[(u7b fe ha).2.1,(u7b fd ha).2.1]
  have hat:=q0c (s48 d a) (u1c d a).toNat 0 [] (by simp)
  rw[←hda] at hat
  refine s9e hsz hda.symm (fun q hq=>h5 q hq ?_)
  have:=(u7b fd ha).2.1
  simp only at hat
  omega
 have hro:u0c e (1 - a)=u0c d (1 - a):=by
  refine t05 (fun q hq=> ?_)
  have ho:=(u8q (a:=1 - a) (by omega)).1
  obtain⟨j,hj⟩:∃j:Nat,u0e (1 - a)+(q:Int)=(j:Int):=⟨(u0e (1 - a)+(q:Int)).toNat,by rcases ha with rfl | rfl<;>omega⟩
  rw[hj]
  exact h4 j (by rcases ha with rfl | rfl<;>omega) (by rcases ha with rfl | rfl<;>omega)
 have both:u0c e 0=u0c d 0∧u0c e 1=u0c d 1:=by
  rcases ha with rfl | rfl
  ·exact⟨hra,by simpa using hro⟩
  ·exact⟨by simpa using hro,hra⟩
 exact⟨r5t h1 h2 h3 (by rw[both.1];exact d4) (by rw[both.2];exact d5),hact,both.1,both.2⟩
theorem q5u {d x:u0j} {a:Int} {t:ByteArray} (h:t6i d a t=some x):∃E:Nat,(u0c d a).2.1=(E:Int)∧E+(u0x t).size≤3008∧q7m ((u0x t).size+1) d (s3s a+E / 64) (E % 64) (u0x t)=some x∧t.size≠0∧t.size≤3008∧u1c d a<255:=by
 have hat:=r35 d a
 unfold t6i at h
 split at h
 ·cases h
 ·rename_i hc
  simp only[not_or] at hc
  unfold u6t at h
  split at h
  ·exact⟨(u0c d a).2.1.toNat,by omega,by omega,h,hc.2.1,by omega,by omega⟩
  ·cases h
theorem p1o {d:u0j} (h:d.2= []) {k:Nat} (hk:k<d.1.length):u0g d (k:Int)=(rdL Ty.str d.1 k,true):=by
 unfold u0g
 rw[if_pos (by omega),h,zTn]
 rfl
theorem SameLog.refl {d:u0j} (h:u45 d=true):SameLog d d:=⟨h,rfl,rfl,rfl⟩
theorem SameLog.trans {d e f:u0j} (h1:SameLog d e) (h2:SameLog e f):SameLog d f:=⟨h2.1,h2.2.1.trans h1.2.1,h2.2.2.1.trans h1.2.2.1,h2.2.2.2.trans h1.2.2.2⟩
end
section
theorem p07 {d x:u0j} {a:Int} {t:ByteArray} (hl:u45 d=true) (ha:a=0∨a=1) (h:t6i d a t=some x):
 SameLog d (flush x)∧ ∀E:Nat,(u0c d a).2.1=(E:Int)→ ∀q,q<(u0x t).size→s5d (s48 (flush x) a) (E+q)=s5d (u0x t) q:=by
 obtain⟨d1,d2,d3,d4,d5⟩:=u6w hl
 obtain⟨_,x1,x2,_⟩:=s49 h
 obtain⟨E,e1,e2,e3,_⟩:=q5u h
 obtain⟨c1,c2,c3⟩:=t75 x1
 have hxl:x.1.length=97:=by rw[x2];exact d2
 have hcl:(flush x).1.length=97:=by rw[c3];exact hxl
 obtain⟨f1,f2⟩:=u8q ha
 have fd:=s5c d1 d2
 have fe:=s5c c1 hcl
 have hb97:s3s a+47≤97:=by rcases ha with rfl | rfl<;>omega
 have hbytes:=fun j i (hi:i<64) (hj:j<97)=>q5a e3 (by omega) (Nat.mod_lt _ (by omega)) j i hi (by omega)
 refine⟨p9h hl ha c1 hcl c2 (fun k hk hn=> ?_) (fun j hj hj2=> ?_),fun E' hE' q hq=> ?_⟩
 ·rw[t2b x1]
  exact r0w e3 (Nat.mod_lt _ (by omega)) k (fun z=>hn ⟨by omega,by omega⟩)
 ·rw[(u7b fe ha).2.2 j hj2,(u7b fd ha).2.2 j hj2,t2b x1,hbytes _ _ (Nat.mod_lt _ (by omega)) (by omega),if_neg (by omega)]
 ·have hEE:E' =E:=by omega
  subst hEE
  rw[(u7b fe ha).2.2 (E' +q) (by omega),t2b x1,hbytes _ _ (Nat.mod_lt _ (by omega)) (by omega),if_pos (by omega)]
  congr 1
  omega
theorem r6e (t:ByteArray):r8w t=((s5d t 0).toNat:Int):=rfl
theorem q0j (n:Int) (r:ByteArray) (h0:0≤n) (h1:n<256):r8w (t7b n++r)=n:=by
 rw[r6e,u9v,if_pos (by rw[u4h];omega)]
 unfold t7b s5d
 rw[s01]
 have w:IntKind.u8.wrap n=n:=by rw[p6l];omega
 rw[w]
 simp only[u8s,List.map_cons,List.map_nil,List.getD_cons_zero]
 rw[UInt8.toNat_ofNat']
 omega
theorem p53 {d y:u0j} {a:Int} {t:ByteArray} (hl:u45 d=true) (ha:a=0∨a=1) (h:q4x d a t=some y):
 u45 y=true∧u0y y=u0y d∧u0c y (1 - a)=u0c d (1 - a)∧u1c y a=u1c d a+1∧u0c y a=((u0c d a).1++ [t],(u0c d a).2.1+((u0x t).size:Int),true):=by
 obtain⟨d1,d2,d3,d4,d5⟩:=u6w hl
 obtain⟨x,hx,x1,y1,y2,y3,hy⟩:=p54 d2 h
 obtain⟨s1,s2⟩:=p07 hl ha hx
 obtain⟨E,e1,e2,e3,e4,e5,e6⟩:=q5u hx
 obtain⟨c1,c2,c3⟩:=t75 x1
 have hxl:(flush x).1.length=97:=(u6w s1.1).2.1
 obtain⟨f1,f2⟩:=u8q ha
 have hcl:=r6g d a
 have hc1:s6e d a=u1c d a+1:=by unfold s6e;exact y4y (by omega) (by omega)
 have hob:=r32 (s:=u0e a) c1 c2 (by omega) (by rw[hxl];rcases ha with rfl | rfl<;>omega) (u4h (s6e d a))
 have hcz:s9g (flush x) a (s6e d a)=some ((flush x).1, [(u0e a,t7b (s6e d a)++(rdL Ty.str (flush x).1 (u0e a).toNat).extract 1 64)]):=hob
 have hz1:=(u7v hob).2.1
 rw[hcz] at hy
 simp only[orD] at hy
 have hrd:∀j:Int,u0g y j=if j=u0e a then(t7b (s6e d a)++(rdL Ty.str (flush x).1 (u0e a).toNat).extract 1 64,true) else u0g (flush x) j:=fun j=>by
  rw[hy,t2b hz1]
  by_cases e:j=u0e a
  ·rw[if_pos e,e]
   unfold u0g
   rw[if_pos (by show _∧_<((flush x).1.length:Int);rw[hxl];rcases ha with rfl | rfl<;>omega)]
   simp[t2e]
  ·rw[if_neg e]
   have hne: ¬u0e a=j:=fun z=>e z.symm
   unfold u0g
   simp only[t2e,List.foldl_cons,List.foldl_nil,hne,if_false,c2]
 have fy:=s5c y1 y3
 have fx:=s5c c1 hxl
 have fd:=s5c d1 d2
 have hcnt:u1c y a=u1c d a+1:=by
  unfold u1c at hc1 ⊢
  rw[p7e.mpr ha,if_pos rfl] at*
  unfold u5x at*
  rw[hrd,if_pos rfl]
  simp only
  have:u1c d a=r8w (u0g d (u0e a)).1:=by unfold u1c u5x;rw[p7e.mpr ha,if_pos rfl]
  rw[hc1]
  exact q0j _ _ (by omega) (by omega)
 have hareaT:∀j,j<3008→s5d (s48 y a) j=s5d (s48 (flush x) a) j:=fun j hj=>by
  rw[(u7b fy ha).2.2 j hj,(u7b fx ha).2.2 j hj,hrd,if_neg (by rcases ha with rfl | rfl<;>omega)]
 have hother:u0c y (1 - a)=u0c (flush x) (1 - a):=by
  refine t05 (fun q hq=> ?_)
  have ho:=(u8q (a:=1 - a) (by omega)).1
  rw[hrd,if_neg (by rcases ha with rfl | rfl<;>omega)]
 have hother2:u0c (flush x) (1 - a)=u0c d (1 - a):=by
  rcases ha with rfl | rfl
  ·exact s1.2.2.2
  ·exact s1.2.2.1
 have hact:u0y y=u0y d:=by
  rw[←s1.2.1]
  exact s2j (by rw[hrd,if_neg (by rcases ha with rfl | rfl<;>omega)])
 have hok:(u0c d a).2.2=true:=by rcases ha with rfl | rfl<;>assumption
 have hda:u7p (s48 d a) (u1c d a).toNat 0 [] =((u0c d a).1,(E:Int),true):=by
  rw[←u9x fd ha,←e1,←hok]
 have hfx:u7p (s48 (flush x) a) (u1c (flush x) a).toNat 0 [] =((u0c d a).1,(E:Int),true):=by
  have:u0c (flush x) a=u0c d a:=by
   rcases ha with rfl | rfl
   ·exact s1.2.2.1
   ·exact s1.2.2.2
  rw[←u9x fx ha,this,←e1,←hok]
 have hcx:u1c (flush x) a=u1c d a:=by
  unfold u1c u5x
  have hk:u0e a=(((u0e a).toNat:Nat):Int):=by rcases ha with rfl | rfl<;>omega
  have h2:=r0w e3 (Nat.mod_lt _ (by omega)) (u0e a).toNat (by rcases ha with rfl | rfl<;>omega)
  rw[←hk] at h2
  rw[t2b x1,h2]
 have hsz:(s48 y a).size=(s48 (flush x) a).size:=by rw[(u7b fy ha).2.1,(u7b fx ha).2.1]
 have hra:u0c y a=((u0c d a).1++ [t],(u0c d a).2.1+((u0x t).size:Int),true):=by
  rw[u9x fy ha,hcnt,e1]
  have hm:(u1c d a+1).toNat=(u1c d a).toNat+1:=by omega
  rw[hm]
  have hloc:=s9e hsz hfx (fun q hq=>hareaT q (by omega))
  rw[hcx] at hloc
  have hrs:=r63 (T:=s48 y a) (E:=E) e4 e5 (by rw[(u7b fy ha).2.1];exact e2) (fun q hq=>by rw[hareaT _ (by omega)];exact s2 E e1 q hq)
  have:=q0d hloc hrs e4
  rw[this]
  congr 2
 have hlog:u45 y=true:=by
  rw[hother2] at hother
  refine r5t y1 y3 y2 ?_ ?_
  ·rcases ha with rfl | rfl
   ·rw[hra]
   ·have:u0c y 0=u0c d 0:=by simpa using hother
    rw[this];exact d4
  ·rcases ha with rfl | rfl
   ·have:u0c y 1=u0c d 1:=by simpa using hother
    rw[this];exact d5
   ·rw[hra]
 exact⟨hlog,hact,hother.trans hother2,hcnt,hra⟩
end
section
theorem p56 {d:u0j} (hk:u1z d=true) {k:Nat} (hlt:k<d.1.length):(u0g d (k:Int)).2=true∧(u0g d (k:Int)).1.size=64:=by
 obtain⟨k1,k2,k3,k4⟩:=q4q.mp hk
 have hc:(0:Int)≤(k:Int)∧(k:Int)<(d.1.length:Int):=by omega
 unfold u0g
 rw[if_pos hc]
 refine⟨rfl,?_⟩
 cases hp:t2e d.2 (k:Int) with
 | none=>
  have e:rdL Ty.str d.1 k=d.1[k] :=y8k (t:=Ty.str) hlt
  simp only[Option.getD_none,zTn]
  rw[e]
  exact k3 _ (List.getElem_mem hlt)
 | some s=>
  obtain⟨p,hp1,hp2⟩:=r30 hp
  simp only[Option.getD_some]
  rw[←hp2]
  exact(k4 p hp1).2
theorem q95:∀(f:Nat) {d:u0j} {k at_:Nat} {t:ByteArray},u1z d=true→at_<64→k*64+at_+t.size≤d.1.length*64→d.2.length+(at_+t.size+63) / 64≤60→ ∃x,q7m f d k at_ t=some x
 | 0,d,k,at_,t,_,_,_,_=>⟨d,rfl⟩
 | f+1,d,k,at_,t,hk,hat,h1,h2=>by
  rw[q7m]
  by_cases hz:t.size=0
  ·exact⟨d,by rw[if_pos hz]⟩
  ·have hr:=p56 hk (k:=k) (by omega)
   rw[if_neg hz,if_pos hr]
   have hsz:((u0g d (k:Int)).1.extract 0 at_++t.extract 0 (min t.size (64 - at_))++(u0g d (k:Int)).1.extract (at_+min t.size (64 - at_)) 64).size=64:=by
    simp only[ByteArray.size_append,ByteArray.size_extract,hr.2];omega
   have hin:r21 (k:Int) 0 ((d.1.length:Int) - 1)=true:=by simp[r21];omega
   have hok:u1z (d.1,d.2++ [((k:Int),(u0g d (k:Int)).1.extract 0 at_++t.extract 0 (min t.size (64 - at_))++(u0g d (k:Int)).1.extract (at_+min t.size (64 - at_)) 64)])=true:=by
    rw[r3w,hk,hin,hsz]
    simp;omega
   have hw:u8h d (k:Int) ((u0g d (k:Int)).1.extract 0 at_++t.extract 0 (min t.size (64 - at_))++(u0g d (k:Int)).1.extract (at_+min t.size (64 - at_)) 64)=some (d.1,d.2++ [((k:Int),(u0g d (k:Int)).1.extract 0 at_++t.extract 0 (min t.size (64 - at_))++(u0g d (k:Int)).1.extract (at_+min t.size (64 - at_)) 64)]):=by
    unfold u8h
    rw[if_pos hok]
   rw[hw]
   simp only[zOb]
   have hs2:(t.extract (min t.size (64 - at_)) t.size).size=t.size - min t.size (64 - at_):=by rw[ByteArray.size_extract];omega
   refine q95 f hok (by omega) ?_ ?_
   ·rw[hs2];show _≤d.1.length*64;omega
   ·rw[hs2];simp only[List.length_append,List.length_singleton];omega
theorem p3h {d:u0j} {a:Int} {t:ByteArray} (hl:u45 d=true) (ha:a=0∨a=1) (h0:t.size≠0) (h1:t.size≤3008) (h2:u1c d a<255) (h3:(u0c d a).2.1+((u0x t).size:Int)≤3008):∃x,t6i d a t=some x:=by
 obtain⟨d1,d2,d3,d4,d5⟩:=u6w hl
 obtain⟨f1,f2⟩:=u8q ha
 have hat:=r35 d a
 have hok:(u0c d a).2.2=true:=by rcases ha with rfl | rfl<;>assumption
 have hsp:=s95 t
 unfold t6i
 rw[if_neg (by rw[hok];simp only[Bool.true_eq_false,false_or];omega)]
 unfold u6t
 have hc:(r21 (u0c d a).2.1 0 6400&&r21 (u0e a+1) 0 ((d.1.length:Int) - 1)&&u1z d)=true:=by
  rw[d1,d2]
  simp only[r21,Bool.and_eq_true,decide_eq_true_eq,and_true]
  rcases ha with rfl | rfl<;>omega
 rw[if_pos hc]
 refine q95 _ d1 (Nat.mod_lt _ (by omega)) ?_ ?_
 ·rw[d2]
  rcases ha with rfl | rfl<;>omega
 ·rw[d3]
  simp only[List.length_nil]
  omega
theorem p7x {d:u0j} {a:Int} {t:ByteArray} (hl:u45 d=true) (ha:a=0∨a=1) (h0:t.size≠0) (h1:t.size≤3008) (h2:u1c d a<255) (h3:(u0c d a).2.1+((u0x t).size:Int)≤3008):∃y,q4x d a t=some y:=by
 obtain⟨x,hx⟩:=p3h hl ha h0 h1 h2 h3
 unfold q4x
 rw[hx]
 exact⟨_,rfl⟩
def p37 (l:List ByteArray):Nat:=(l.map fun t=>(u0x t).size).sum
theorem q83 {a:Int} (ha:a=0∨a=1):∀ {l:List ByteArray} {x:u0j},u45 x=true→u1c x a+(l.length:Int)≤255→(u0c x a).2.1+(p37 l:Int)≤3008→(∀t∈l,t.size≠0∧t.size≤3008)→
 ∃y,r20 a l x=some y∧u45 y=true∧u0y y=u0y x∧u0c y (1 - a)=u0c x (1 - a)∧(u0c y a).1=(u0c x a).1++l
 | [],x,hl,_,_,_=>⟨x,rfl,hl,rfl,rfl,by simp⟩
 | t::l,x,hl,hc,hr,ht=>by
  have h0:=ht t (List.mem_cons_self ..)
  have hs:p37 (t::l)=(u0x t).size+p37 l:=by simp[p37]
  simp only[List.length_cons] at hc
  obtain⟨y,hy⟩:=p7x hl ha h0.1 h0.2 (by omega) (by omega)
  obtain⟨p1,p2,p3,p4,p5⟩:=p53 hl ha hy
  obtain⟨z,z1,z2,z3,z4,z5⟩:=q83 ha (l:=l) p1 (by omega) (by rw[p5];simp only;omega) (fun t h=>ht t (List.mem_cons_of_mem _ h))
  refine⟨z,?_,z2,z3.trans p2,z4.trans p3,?_⟩
  ·unfold r20;rw[hy];exact z1
  ·rw[z5,p5];simp
theorem p3j {d:u0j} (hl:u45 d=true) {a n:Int} (ha:a=0∨a=1):∃z r,s9g d a n=some z∧u1z z=true∧z.1=d.1∧z.2= [(u0e a,t7b n++r)] ∧ ∀j:Int,u0g (flush z) j=if j=u0e a then(t7b n++r,true) else u0g d j:=by
 obtain⟨d1,d2,d3,d4,d5⟩:=u6w hl
 obtain⟨f1,f2⟩:=u8q ha
 have hob:=r32 (s:=u0e a) d1 d3 (by omega) (by rw[d2];rcases ha with rfl | rfl<;>omega) (u4h n)
 have hz1:=(u7v hob).2.1
 refine⟨_,_,hob,hz1,rfl,rfl,fun j=> ?_⟩
 rw[t2b hz1]
 by_cases e:j=u0e a
 ·rw[if_pos e,e]
  unfold u0g
  rw[if_pos (by show _∧_<(d.1.length:Int);rw[d2];rcases ha with rfl | rfl<;>omega)]
  simp[t2e]
 ·rw[if_neg e]
  have hne: ¬u0e a=j:=fun z=>e z.symm
  unfold u0g
  simp only[t2e,List.foldl_cons,List.foldl_nil,hne,if_false,d3]
theorem q1i {d:u0j} (hl:u45 d=true):u45 (s3r d)=true∧u0y (s3r d)=u0y d∧u0c (s3r d) (u0y d)=u0c d (u0y d)∧u0c (s3r d) (u6h d)=([],0,true)∧u1c (s3r d) (u6h d)=0:=by
 obtain⟨a1,a2⟩:=t7f d
 obtain⟨z,r,hz,hz1,hz2,hz3,hrd⟩:=p3j hl (n:=0) a1
 obtain⟨d1,d2,d3,d4,d5⟩:=u6w hl
 have e:s3r d=flush z:=by unfold s3r;rw[hz];rfl
 obtain⟨c1,c2,c3⟩:=t75 hz1
 have hlen:(flush z).1.length=97:=by rw[c3,hz2];exact d2
 obtain⟨f1,f2⟩:=u8q a1
 rw[e]
 have hcnt:u1c (flush z) (u6h d)=0:=by
  unfold u1c u5x
  rw[p7e.mpr a1,if_pos rfl,hrd,if_pos rfl]
  exact q0j 0 r (by omega) (by omega)
 have ho:u0c (flush z) (u6h d)=([],0,true):=by
  rw[u9x (s5c c1 hlen) a1,hcnt]
  rfl
 have hother:u0c (flush z) (1 - u6h d)=u0c d (1 - u6h d):=by
  refine t05 (fun q hq=> ?_)
  have ho:=(u8q (a:=1 - u6h d) (by omega)).1
  rw[hrd,if_neg (by omega)]
 rw[←a2] at hother
 have hact:u0y (flush z)=u0y d:=s2j (by rw[hrd,if_neg (by omega)])
 have hok:(u0c d (u0y d)).2.2=true:=by rcases t5i d with q | q<;>rw[q] <;>assumption
 refine⟨r5t c1 hlen c2 ?_ ?_,hact,hother,ho,hcnt⟩
 ·rcases a1 with q | q
  ·rw[q] at ho;rw[ho]
  ·have q2:u0y d=0:=by omega
   rw[q2] at hother hok
   rw[hother];exact hok
 ·rcases a1 with q | q
  ·have q2:u0y d=1:=by omega
   rw[q2] at hother hok
   rw[hother];exact hok
  ·rw[q] at ho;rw[ho]
end
section
theorem q8h {z:u0j} {s:Int} {b:ByteArray} (hk:u1z z=true) (hz:z.2= [(s,b++(rdL Ty.str z.1 s.toNat).extract 1 64)]) (hb:b.size=1) (keep:List Int) (tear:Int):
 (p1a keep 0=false→s1c z keep tear=(z.1, []))∧(p1a keep 0=true→1≤s02 tear→s1c z keep tear=flush z)∧(s1c z keep tear=(z.1, [])∨s1c z keep tear=flush z):=by
 obtain⟨k1,k2,k3,k4⟩:=q4q.mp hk
 have hs:=(k4 (s,b++(rdL Ty.str z.1 s.toNat).extract 1 64) (by rw[hz];simp)).1
 have hlt:s.toNat<z.1.length:=by
  have h1:0≤s:=hs.1
  have h2:s<(z.1.length:Int):=hs.2
  omega
 have ht:=(p78 tear).1
 have eo:rdL Ty.str z.1 s.toNat=z.1[s.toNat] :=y8k (t:=Ty.str) hlt
 have hold:(rdL Ty.str z.1 s.toNat).size=64:=by rw[eo];exact k3 _ (List.getElem_mem hlt)
 have hlen:z.2.length=1:=by rw[hz];rfl
 have h0:rdL p6o z.2 0=(s,b++(rdL Ty.str z.1 s.toNat).extract 1 64):=by rw[hz];rfl
 have hc:s1c z keep tear=(r5e z keep (r5s keep 1) (s02 tear) z.1 0, []):=by
  unfold s1c
  rw[if_pos hk,hlen]
  rfl
 have hfl:flush z=(s00 z.1 (s,b++(rdL Ty.str z.1 s.toNat).extract 1 64), []):=by
  unfold flush
  rw[if_pos hk,hz]
  rfl
 have hno:p1a keep 0=false→s1c z keep tear=(z.1, []):=fun h=>by
  rw[hc]
  unfold r5e
  rw[h,if_neg (by simp)]
 have hyes:p1a keep 0=true→s1c z keep tear=(s00 z.1 (s,(b++(rdL Ty.str z.1 s.toNat).extract 1 64).extract 0 (s02 tear)++(rdL Ty.str z.1 s.toNat).extract (s02 tear) 64), []):=fun h=>by
  have hlast:r5s keep 1=0:=by
   show(if p1a keep 0 then((0:Nat):Int) else r5s keep 0)=0
   rw[if_pos h];rfl
  rw[hc]
  unfold r5e
  rw[h,if_pos rfl,hlast,if_pos (by rfl),h0]
  simp only[hold]
 have hfull:p1a keep 0=true→1≤s02 tear→s1c z keep tear=flush z:=fun h h1=>by
  rw[hyes h,hfl]
  congr 2
  congr 1
  apply r9r
  ·simp only[ByteArray.size_append,ByteArray.size_extract,hold,hb];omega
  ·intro i hi
   simp only[ByteArray.size_append,ByteArray.size_extract,hold,hb] at hi
   rw[u9v,u5y,u5y]
   simp only[ByteArray.size_append,ByteArray.size_extract,hold,hb]
   by_cases h2:i<s02 tear
   ·rw[if_pos (by omega),if_pos (by omega),Nat.zero_add]
   ·rw[if_neg (by omega),if_pos (by omega),u9v,if_neg (by omega),u5y,hb,hold,if_pos (by omega)]
    congr 1
    omega
 refine⟨hno,hfull,?_⟩
 cases h:p1a keep 0 with
 | false=>exact .inl (hno h)
 | true=>
  by_cases h1:1≤s02 tear
  ·exact .inr (hfull h h1)
  ·left
   have ht0:s02 tear=0:=by omega
   rw[hyes h,ht0]
   congr 1
   have e1:(b++(rdL Ty.str z.1 s.toNat).extract 1 64).extract 0 0++(rdL Ty.str z.1 s.toNat).extract 0 64=rdL Ty.str z.1 s.toNat:=by
    apply r9r
    ·simp only[ByteArray.size_append,ByteArray.size_extract,hold,hb];omega
    ·intro i hi
     simp only[ByteArray.size_append,ByteArray.size_extract,hold,hb] at hi
     rw[u9v,if_neg (by rw[ByteArray.size_extract];omega),u5y,hold,if_pos (by rw[ByteArray.size_extract];omega)]
     congr 1
     rw[ByteArray.size_extract]
     omega
   rw[e1]
   unfold s00
   show z.1.set s.toNat (rdL Ty.str z.1 s.toNat)=z.1
   rw[eo]
   exact List.set_getElem_self hlt
theorem p00 {d:u0j} (hl:u45 d=true) {a n:Int} (ha:a=0∨a=1) (keep:List Int) (tear:Int):∃z,s9g d a n=some z∧
 (p1a keep 0=false→s1c z keep tear=d)∧(p1a keep 0=true→1≤s02 tear→s1c z keep tear=flush z)∧(s1c z keep tear=d∨s1c z keep tear=flush z):=by
 obtain⟨d1,d2,d3,d4,d5⟩:=u6w hl
 obtain⟨f1,f2⟩:=u8q ha
 have hob:=r32 (s:=u0e a) d1 d3 (by omega) (by rw[d2];rcases ha with rfl | rfl<;>omega) (u4h n)
 have hz1:=(u7v hob).2.1
 have hd:(d.1,([] :List (Int×ByteArray)))=d:=by rw[←d3]
 obtain⟨c1,c2,c3⟩:=q8h hz1 rfl (u4h n) keep tear
 rw[hd] at c1 c3
 exact⟨_,hob,c1,c2,c3⟩
theorem q4p {x:u0j} (hl:u45 x=true) (keep:List Int) (tear:Int):∃z,p4d x=some z∧u1z z=true∧(∀j:Int,u0g (flush z) j=if j=0 then(t7b (IntKind.i64.wrap (u5x x 0+1))++(rdL Ty.str x.1 0).extract 1 64,true) else u0g x j)∧(flush z).1.length=97∧
 (p1a keep 0=false→s1c z keep tear=x)∧(p1a keep 0=true→1≤s02 tear→s1c z keep tear=flush z)∧(s1c z keep tear=x∨s1c z keep tear=flush z):=by
 obtain⟨d1,d2,d3,d4,d5⟩:=u6w hl
 have hob:=r32 (s:=0) d1 d3 (by omega) (by rw[d2];omega) (u4h (IntKind.i64.wrap (u5x x 0+1)))
 have hz1:=(u7v hob).2.1
 have hd:(x.1,([] :List (Int×ByteArray)))=x:=by rw[←d3]
 obtain⟨c1,c2,c3⟩:=q8h hz1 rfl (u4h (IntKind.i64.wrap (u5x x 0+1))) keep tear
 rw[hd] at c1 c3
 refine⟨_,hob,hz1,fun j=> ?_,by rw[(t75 hz1).2.2];exact d2,c1,c2,c3⟩
 rw[t2b hz1]
 by_cases e:j=0
 ·rw[if_pos e,e]
  unfold u0g
  rw[if_pos (by show _∧_<(x.1.length:Int);rw[d2];omega)]
  simp[t2e]
 ·rw[if_neg e]
  have hne: ¬(0:Int)=j:=fun z=>e z.symm
  unfold u0g
  simp only[t2e,List.foldl_cons,List.foldl_nil,hne,if_false,d3]
theorem p8a {x z:u0j} (hl:u45 x=true) (hz1:u1z z=true) (hlen:(flush z).1.length=97) (hrd:∀j:Int,u0g (flush z) j=if j=0 then(t7b (IntKind.i64.wrap (u5x x 0+1))++(rdL Ty.str x.1 0).extract 1 64,true) else u0g x j):
 u45 (flush z)=true∧u0y (flush z)=1 - u0y x∧u0c (flush z) 0=u0c x 0∧u0c (flush z) 1=u0c x 1:=by
 obtain⟨d1,d2,d3,d4,d5⟩:=u6w hl
 obtain⟨c1,c2,c3⟩:=t75 hz1
 have r0:u0c (flush z) 0=u0c x 0:=t05 (fun q hq=>by
  have:=(u8q (a:=0) (.inl rfl)).1
  rw[hrd,if_neg (by omega)])
 have r1:u0c (flush z) 1=u0c x 1:=t05 (fun q hq=>by
  have:=(u8q (a:=1) (.inr rfl)).1
  rw[hrd,if_neg (by omega)])
 have hb:=q5v (u0g x 0).1
 refine⟨r5t c1 hlen c2 (by rw[r0];exact d4) (by rw[r1];exact d5),?_,r0,r1⟩
 unfold u0y u5x
 rw[hrd,if_pos rfl]
 have w:IntKind.i64.wrap (u5x x 0+1)=u5x x 0+1:=by unfold u5x;exact y4y (by omega) (by omega)
 have e:r8w (t7b (IntKind.i64.wrap (u5x x 0+1))++(rdL Ty.str x.1 0).extract 1 64)=(u5x x 0+1) % 256:=by
  rw[w,r6e,u9v,if_pos (by rw[u4h];omega)]
  unfold t7b s5d
  rw[s01,p6l]
  simp only[u8s,List.map_cons,List.map_nil,List.getD_cons_zero]
  rw[UInt8.toNat_ofNat']
  omega
 show Int.tmod (r8w _) 2=_
 rw[e]
 have hf:u5x x 0=r8w (u0g x 0).1:=rfl
 rw[hf]
 generalize r8w (u0g x 0).1=n at*
 obtain⟨m,rfl⟩:∃m:Nat,n=(m:Int):=⟨n.toNat,by omega⟩
 have t1:Int.tmod (m:Int) 2=((m % 2:Nat):Int):=p6e m 2
 have t2:Int.tmod (((m:Int)+1) % 256) 2=((((m+1) % 256) % 2:Nat):Int):=by
  have:((m:Int)+1) % 256=(((m+1) % 256:Nat):Int):=by omega
  rw[this]
  exact p6e ((m+1) % 256) 2
 rw[t1,t2]
 omega
end
section
theorem p3e {d y:u0j} {t:ByteArray} (h:append_ d t=some y):u45 d=true∧u45 y=true∧u0k y=u0k d++ [t] :=by
 unfold append_ at h
 split at h
 ·rename_i hl
  obtain⟨p1,p2,p3,p4,p5⟩:=p53 hl (t5i d) h
  refine⟨hl,p1,?_⟩
  unfold u0k
  rw[p2,p5]
 ·cases h
theorem p69 {d:u0j} {l:List ByteArray} (hl:u45 d=true) (hn:l.length≤255) (hr:p37 l≤3008) (ht:∀t∈l,t.size≠0∧t.size≤3008):
 ∃x,r01 d l=some x∧u45 x=true∧u0y x=u0y d∧u0k x=u0k d∧(u0c x (u6h d)).1=l:=by
 obtain⟨a1,a2⟩:=t7f d
 obtain⟨f1,f2,f3,f4,f5⟩:=q1i hl
 obtain⟨y,y1,y2,y3,y4,y5⟩:=q83 a1 (l:=l) f1 (by rw[f5];omega) (by rw[f4];simp only;omega) ht
 rw[←a2] at y4
 refine⟨y,by unfold r01;rw[hl,if_pos rfl];exact y1,y2,y3.trans f2,?_,by rw[y5,f4];simp⟩
 unfold u0k
 rw[y3.trans f2,y4,f3]
theorem p3m {d x:u0j} {l:List ByteArray} (hx:r01 d l=some x) (h1:u45 x=true) (h2:u0y x=u0y d) (h3:u0k x=u0k d) (h4:(u0c x (u6h d)).1=l) (hl:u45 d=true):
 ∃y,s97 d l=some y∧u45 y=true∧u0k y=l∧ ∀(step:Int) (keep:List Int) (tear:Int),
  (step=0→u45 (t19 d l step keep tear)=true∧u0k (t19 d l step keep tear)=u0k d)∧(step=1→t19 d l step keep tear=x)∧
  (step≠0→step≠1→step≠2→t19 d l step keep tear=y)∧
  (step=2→(p1a keep 0=false→t19 d l step keep tear=x)∧(p1a keep 0=true→1≤s02 tear→t19 d l step keep tear=y)∧(t19 d l step keep tear=x∨t19 d l step keep tear=y)):=by
 obtain⟨a1,a2⟩:=t7f d
 obtain⟨z,hz,hz1,hrd,hlen,_⟩:=q4p h1 [] 0
 obtain⟨t1,t2,t3,t4⟩:=p8a h1 hz1 hlen hrd
 have hsw:s97 d l=some (flush z):=by unfold s97;rw[hx];simp only[Option.map_some,hz,orD]
 have htx:u0k (flush z)=l:=by
  have ho:u0y (flush z)=u6h d:=by rw[t2,h2];rfl
  unfold u0k
  rw[ho,←h4]
  rcases a1 with q | q<;>rw[q]
  ·rw[t3]
  ·rw[t4]
 refine⟨flush z,hsw,t1,htx,fun step keep tear=> ?_⟩
 obtain⟨c,hc,c1,c2,c3⟩:=p00 hl (n:=0) a1 keep tear
 obtain⟨z',hz',_,_,_,g1,g2,g3⟩:=q4p h1 keep tear
 rw[hz] at hz'
 cases hz'
 have e0:∀st,t19 d l st keep tear=(if st=0 then s1c c keep tear else if st=1 then x else if st=2 then s1c z keep tear else flush z):=fun st=>by
  unfold t19
  rw[hx]
  simp only[hc,orD,hz]
 have hf0:flush c=s3r d:=by unfold s3r;rw[hc];rfl
 obtain⟨f1,f2,f3,f4,f5⟩:=q1i hl
 have htx0:u0k (s3r d)=u0k d:=by unfold u0k;rw[f2,f3]
 refine⟨fun s0=> ?_,fun s1=> ?_,fun n0 n1 n2=> ?_,fun s2=> ?_⟩
 ·rw[e0,if_pos s0]
  rcases c3 with q | q
  ·rw[q];exact⟨hl,rfl⟩
  ·rw[q,hf0];exact⟨f1,htx0⟩
 ·rw[e0,if_neg (by omega),if_pos s1]
 ·rw[e0,if_neg n0,if_neg n1,if_neg n2]
 ·have e:t19 d l step keep tear=s1c z keep tear:=by rw[e0,if_neg (by omega),if_neg (by omega),if_pos s2]
  rw[e]
  exact⟨g1,g2,g3⟩
end
section
structure Like0 (b e:u0h):Prop where
 vs:b.1=u15 e.1 e.2.2.2.1
 past:b.2.1= []
 ready:b.2.2.1=e.2.2.1
 cs:b.2.2.2.1=e.2.2.2.1
theorem q9k (b:u0h):∀(o:List u0d),t6l b o≤b.2.2.2.1:=by
 intro o
 have key:∀(o:List u0d) (m:Int),o.foldl (fun m t=>if t.2.2.1<m then t.2.2.1 else m) m≤m:=by
  intro o
  induction o with
  | nil=>intro m;exact Int.le_refl _
  | cons t o ih=>
   intro m
   rw[List.foldl_cons]
   refine Int.le_trans (ih _) ?_
   split<;>omega
 exact key o _
theorem p3u (b:u0h):t6l b [] =b.2.2.2.1:=rfl
theorem Like0.tidy {b e:u0h} (h:Like0 b e) (he:BaseR e) (o:List u0d):Like0 b (u5q e o):=
 ⟨by rw[h.vs];exact(r51 (p6s.mp he.vs).2.1 (q9k e o)).symm,h.past,h.ready,h.cs⟩
theorem r0t {x:u0h} (hp:∀t∈x.2.1,t.2.2.2.1≤x.2.2.2.1):u5q x [] =(u15 x.1 x.2.2.2.1, [],x.2.2):=by
 unfold u5q
 rw[p3u]
 congr 2
 rw[List.filter_eq_nil_iff]
 intro t ht
 simp[hp t ht]
theorem Like0.self {b e:u0h} (h:Like0 b e) (he:BaseR e):u5q b [] =b:=by
 rw[r0t (by rw[h.past];intro t ht;cases ht)]
 obtain⟨b1,b2,b3⟩:=b
 have h1:=h.vs
 have h2:=h.past
 have h4:=h.cs
 simp only at h1 h2 h4
 rw[h4,h1,h2,r51 (p6s.mp he.vs).2.1 (Int.le_refl _)]
theorem p3o {d d' x:u0d} (h1:d.1=d'.1) (h2:d.2.1=d'.2.1) (h3:d.2.2.1=d'.2.2.1) (h4:d.2.2.2.1=d'.2.2.2.1) (h5:d.2.2.2.2.2.1=d'.2.2.2.2.2.1):r3y d x=r3y d' x:=by
 have:ahead x d=ahead x d' :=by unfold ahead r2w q1t;rw[h1,h2,h3,h4,h5]
 unfold r3y;rw[this]
theorem Like0.vlen {b e:u0h} (h:Like0 b e):b.1.length≤e.1.length:=by rw[h.vs];exact(u90 _ _).length_le
theorem r8g {b e:u0h} {t u:u0d} (h:Like0 b e) (he:BaseR e) (hb:BaseR b) (hc:e.2.2.2.1<9999) (hv:e.1.length≤100) (hu:TxnR u) (h9:u.1<9999) (hs:u.2.2.1≤e.2.2.2.1)
 (h1:u.1=t.1) (h3:u.2.2.1=t.2.2.1) (h5:u.2.2.2.2.2.1=t.2.2.2.2.2.1):
 t7a (u5q (u1k b u) [])=true∧Like0 (u5q (u1k b u) []) (u1k e t):=by
 have hR:BaseR (u1k b u):=q92 hb hu (by rw[h.cs];exact hs) (by rw[h.cs];exact hc) (by rw[h.past];simp) (by have:=h.vlen;omega) (by rw[h.past];intro x hx;cases hx) h9
 refine⟨q4m.mpr (t65 hR _),?_⟩
 rw[r0t (fun x hx=>(hR.past x hx).2.2)]
 obtain⟨v1,v2,v3⟩:=p6s.mp he.vs
 refine⟨?_,rfl,?_,?_⟩
 ·show u15 (t5y b.1 u.2.2.2.2.2.1 (b.2.2.2.1+1)) (b.2.2.2.1+1)=u15 (t5y e.1 t.2.2.2.2.2.1 (e.2.2.2.1+1)) (e.2.2.2.1+1)
  rw[h.cs,h.vs,h5]
  exact p79 v2 (h5 ▸ q96 hu.ws) fun x hx=>by have:=he.vcs x hx;unfold vCs;omega
 ·show(b.2.2.1.filter fun x=> !decide (x.1=u.1)).map (r3y (t0s b u))=(e.2.2.1.filter fun x=> !decide (x.1=t.1)).map (r3y (t0s e t))
  rw[h.ready,h1]
  refine List.map_congr_left fun x _=>p3o h1 rfl h3 ?_ h5
  show b.2.2.2.1+1=e.2.2.2.1+1
  rw[h.cs]
 ·show b.2.2.2.1+1=e.2.2.2.1+1
  rw[h.cs]
theorem p9m {b:u0h} {n:ByteArray} :u0q b n<0↔ ∀x∈b.2.2.1,x.2.2.2.2.2.2.2≠n:=by
 unfold u0q
 constructor
 ·intro h x hx e
  obtain⟨i,hi,rfl⟩:=List.getElem_of_mem hx
  obtain⟨k,hk,hr⟩:=p32 b hi e
  unfold u0q at hr
  rw[hr] at h;omega
 ·intro h
  split
  ·rename_i q
   have:=u7x q
   exact absurd (y7f.mp this) (h _ (List.getElem_mem q))
  ·omega
theorem t2k {b:u0h} {n:ByteArray} (h: ¬u0q b n<0):∃(k:Nat) (hk:k<b.2.2.1.length),u0q b n=(k:Int)∧b.2.2.1[k].2.2.2.2.2.2.2=n:=by
 unfold u0q at h ⊢
 split at h
 ·rename_i q
  rw[if_pos q]
  exact⟨_,q,rfl,y7f.mp (u7x q)⟩
 ·omega
theorem s19 {b e:u0h} (h:b.2.2.1=e.2.2.1) (n:ByteArray):u0q b n=u0q e n:=by unfold u0q;rw[h]
theorem q35 {b e:u0h} {t:u0d} (h:Like0 b e) (he:BaseR e) (hb:BaseR b) (hc:e.2.2.2.1<9999) (hv:e.1.length≤100) (ht:TxnR t) (h9:t.1<9999) (hs:t.2.2.1≤e.2.2.2.1):
 ∃x,u9g b (1,t0s e t,emp,false,u3o)=some x∧BaseR x∧Like0 x (u1k e t):=by
 have hD:=p02 (b:=e) ht hs hc
 obtain⟨k1,k2⟩:=r8g (t:=t) (u:=t0s e t) h he hb hc hv hD h9 hs rfl rfl rfl
 refine⟨_,?_,q4m.mp k1,k2⟩
 unfold u9g
 rw[if_pos ⟨q4m.mpr hb,p8w.mpr (.thr _ hD rfl)⟩]
 have e1:u2x b (1,t0s e t,emp,false,u3o)=some (u1k b (t0s e t)):=by
  unfold u2x
  rw[if_pos rfl,if_pos (by show e.2.2.2.1+1=b.2.2.2.1+1;rw[h.cs])]
 rw[e1]
 simp only
 rw[if_pos k1]
theorem p3x {b e:u0h} {n:ByteArray} {k:Nat} (h:Like0 b e) (he:BaseR e) (hb:BaseR b) (hc:e.2.2.2.1<9999) (hv:e.1.length≤100) (hn:u78 n=true) (hk:k<e.2.2.1.length) (hr:u0q e n=(k:Int)):
 ∃x,u9g b (3,u66,n,true,u3o)=some x∧BaseR x∧Like0 x (u1k e e.2.2.1[k]):=by
 obtain⟨q1,q2,q3⟩:=he.ready _ (List.getElem_mem hk)
 have h9:e.2.2.1[k].1<9999:=by
  have:=s0e.mp he.below _ (List.mem_append_right e.2.1 (List.getElem_mem hk))
  have:=he.next.2;omega
 obtain⟨k1,k2⟩:=r8g (t:=e.2.2.1[k]) (u:=e.2.2.1[k]) h he hb hc hv q1 h9 q3 rfl rfl rfl
 refine⟨_,?_,q4m.mp k1,k2⟩
 unfold u9g
 rw[if_pos ⟨q4m.mpr hb,p8w.mpr (.fin _ _ hn)⟩]
 have e1:u2x b (3,u66,n,true,u3o)=some (u1k b e.2.2.1[k]):=by
  unfold u2x
  simp only
  rw[if_neg (by decide),if_neg (by decide),if_pos trivial,s19 h.ready,hr,if_neg (by omega),if_pos trivial,zTn]
  congr 2
  rw[h.ready]
  exact y8k (t:=u1u) hk
 rw[e1]
 simp only
 rw[if_pos k1]
theorem p5y {b e:u0h} {n:ByteArray} {k:Nat} (h:Like0 b e) (he:BaseR e) (hb:BaseR b) (hn:u78 n=true) (hk:k<e.2.2.1.length) (hr:u0q e n=(k:Int)):
 ∃x,u9g b (3,u66,n,false,u3o)=some x∧BaseR x∧Like0 x (t84 e n):=by
 have hR:=r5p hb n
 refine⟨u5q (t84 b n) [],?_,t65 hR _,?_⟩
 ·unfold u9g
  rw[if_pos ⟨q4m.mpr hb,p8w.mpr (.fin _ _ hn)⟩]
  have e1:u2x b (3,u66,n,false,u3o)=some (t84 b n):=by
   unfold u2x
   simp only
   rw[if_neg (by decide),if_neg (by decide),if_pos trivial,s19 h.ready,hr,if_neg (by omega),if_neg (by decide)]
  rw[e1]
  simp only
  rw[if_pos (q4m.mpr (t65 hR _))]
 ·rw[r0t (fun x hx=>(hR.past x hx).2.2)]
  refine⟨?_,rfl,?_,h.cs⟩
  ·show u15 b.1 b.2.2.2.1=u15 e.1 e.2.2.2.1
   rw[h.cs,h.vs]
   exact r51 (p6s.mp he.vs).2.1 (Int.le_refl _)
  ·show b.2.2.1.filter _=e.2.2.1.filter _
   rw[h.ready]
theorem q9o {b e:u0h} {t:u0d} {n:ByteArray} (h:Like0 b e) (he:BaseR e) (hb:BaseR b) (ht:TxnR t) (h3:t.2.1≠3) (hn:u78 n=true) (hs:t.2.2.1≤e.2.2.2.1) (hl:e.2.2.1.length<3)
 (hx:∀x∈e.2.2.1,x.2.2.2.2.2.2.2≠n) (hid:∀x∈e.2.2.1,x.1≠t.1) (h9:t.1<9999):
 ∃x,u9g b (2,u20 e t n,emp,false,u3o)=some x∧BaseR x∧Like0 x (u1r e t n):=by
 have hD:=q65 (b:=e) ht h3 hn
 have hrr:u20 b (u20 e t n) n=u20 e t n:=by
  have:s78 (u20 e t n) b.2.1=false:=by rw[h.past];rfl
  unfold u20 at this ⊢
  rw[this,Bool.or_false]
 have hR:BaseR (u1r b (u20 e t n) n):=s5f hb hD (by show(2:Int)≠3;omega) (by rw[h.cs];exact hs) hn (by rw[h.ready];exact hl) (by rw[h.ready];exact hx) (by
  rw[h.past,h.ready];exact hid) h9
 refine⟨u5q (u1r b (u20 e t n) n) [],?_,t65 hR _,?_⟩
 ·unfold u9g
  rw[if_pos ⟨q4m.mpr hb,p8w.mpr (.rdy _ hD rfl)⟩]
  have e1:u2x b (2,u20 e t n,emp,false,u3o)=some (u1r b (u20 e t n) n):=by
   unfold u2x
   simp only
   have hcond:b.2.2.1.length<3∧u0q b (u20 e t n).2.2.2.2.2.2.2<0:=⟨by rw[h.ready];exact hl,by rw[s19 h.ready];exact p9m.mpr hx⟩
   rw[if_neg (by decide),if_pos trivial,if_pos hcond]
   rfl
  rw[e1]
  simp only
  rw[if_pos (q4m.mpr (t65 hR _))]
 ·rw[r0t (fun x hx=>(hR.past x hx).2.2)]
  refine⟨?_,rfl,?_,h.cs⟩
  ·show u15 b.1 b.2.2.2.1=u15 e.1 e.2.2.2.1
   rw[h.cs,h.vs]
   exact r51 (p6s.mp he.vs).2.1 (Int.le_refl _)
  ·show(b.2.2.1.filter _)++ [u20 b (u20 e t n) n] ++(b.2.2.1.filter _)=(e.2.2.1.filter _)++ [u20 e t n] ++(e.2.2.1.filter _)
   rw[h.ready,hrr]
theorem p2f:BaseR p0c:=by
 refine⟨rfl,fun v h=>(by cases h),⟨Int.le_refl _,by decide⟩,⟨by decide,by decide⟩,by decide,fun t h=>(by cases h),List.Pairwise.nil,by decide,fun t h=>(by cases h),List.Pairwise.nil,fun x h=>(by cases h),List.Pairwise.nil⟩
theorem p1k {b:u0h} (hb:BaseR b) (hs:u5q b [] =b):u9g p0c (4,u66,emp,false,b)=some b:=by
 unfold u9g
 rw[if_pos ⟨q4m.mpr p2f,p8w.mpr (.bas b hb)⟩]
 have e1:u2x p0c (4,u66,emp,false,b)=some b:=by
  unfold u2x
  simp only
  rw[if_neg (by decide),if_neg (by decide),if_neg (by decide)]
 rw[e1]
 simp only
 rw[hs,if_pos (q4m.mpr hb)]
theorem q46 {d y:u0j} {t:ByteArray} (h:s97 d [t] =some y):u45 d=true∧u45 y=true∧u0k y= [t] :=by
 obtain⟨x,hx⟩:∃x,r01 d [t] =some x:=by
  cases q:r01 d [t] with
  | none=>unfold s97 at h;rw[q] at h;cases h
  | some x=>exact⟨x,rfl⟩
 have hl:u45 d=true:=by
  unfold r01 at hx
  split at hx
  ·assumption
  ·cases hx
 obtain⟨a1,a2⟩:=t7f d
 obtain⟨f1,f2,f3,f4,f5⟩:=q1i hl
 have hp:∃z,q4x (s3r d) (u6h d) t=some z:=by
  unfold r01 at hx
  rw[if_pos hl] at hx
  cases q:q4x (s3r d) (u6h d) t with
  | none=>simp only[r20,q] at hx;cases hx
  | some z=>exact⟨z,rfl⟩
 obtain⟨z,hz⟩:=hp
 obtain⟨w,hw,_⟩:=p54 (u6w f1).2.1 hz
 obtain⟨E,hE,g1,g2,g3,g4,g5⟩:=q5u hw
 obtain⟨x',x1,x2,x3,x4,x5⟩:=p69 (l:= [t]) hl (by simp) (by simp[p37];omega) (fun u hu=>by simp at hu;subst hu;exact⟨g3,g4⟩)
 rw[hx] at x1
 cases x1
 obtain⟨y',y1,y2,y3,_⟩:=p3m hx x2 x3 x4 x5 hl
 rw[h] at y1
 cases y1
 exact⟨hl,y2,y3⟩
def p4p (d:u0j):Option u0j:=match t3w (u0k d) with
 | none=>none
 | some b=>if(u1i (4,u66,emp,false,b)).2=true then s97 d [(u1i (4,u66,emp,false,b)).1] else none
def t5j (d:u0j) (r:s27):Option u0j:=
 if(u1i r).2=true then(match append_ d (u1i r).1 with
  | some y=>some y
  | none=>match p4p d with
   | none=>none
   | some z=>append_ z (u1i r).1)
 else none
theorem p16 {d y:u0j} {b:u0h} (hp:t3w (u0k d)=some b) (hb:BaseR b) (hs:u5q b [] =b) (h:p4p d=some y):u45 d=true∧u45 y=true∧t3w (u0k y)=some b:=by
 unfold p4p at h
 rw[hp] at h
 simp only at h
 rw[t2m (.bas b hb),if_pos rfl] at h
 obtain⟨h1,h2,h3⟩:=q46 h
 refine⟨h1,h2,?_⟩
 rw[h3]
 unfold t3w
 simp only[s0m]
 rw[s91 (.bas b hb)]
 simp only
 rw[p1k hb hs]
theorem r9s {d y:u0j} {b x:u0h} {r:s27} (hp:t3w (u0k d)=some b) (hb:BaseR b) (hs:u5q b [] =b) (hr:RecR r) (hx:u9g b r=some x) (h:t5j d r=some y):u45 y=true∧t3w (u0k y)=some x:=by
 have step:∀ {d y:u0j},t3w (u0k d)=some b→append_ d (r02 (s93 r))=some y→u45 y=true∧t3w (u0k y)=some x:=by
  intro d y hp h
  obtain⟨h1,h2,h3⟩:=p3e h
  refine⟨h2,?_⟩
  rw[h3]
  unfold t3w at hp ⊢
  rw[p3w,hp]
  simp only[zOb,s0m]
  rw[s91 hr]
  simp only
  rw[hx]
 unfold t5j at h
 rw[t2m hr,if_pos rfl] at h
 simp only at h
 cases q:append_ d (r02 (s93 r)) with
 | some z=>
  rw[q] at h
  cases h
  exact step hp q
 | none=>
  rw[q] at h
  simp only at h
  cases a:p4p d with
  | none=>rw[a] at h;cases h
  | some z=>
   rw[a] at h
   obtain⟨_,_,z3⟩:=p16 hp hb hs a
   exact step z3 h
end
section
def p09 (x:u0d):Bool:=decide (x.2.1=2) || decide (x.2.1=3)
def p0b (t:u0d) (l:List u0d):Bool:=l.any fun x=>p09 x&&ahead x t
def s9f (t:u0d) (l:List u0d):Bool:=l.any fun x=> !decide (x.1=t.1)&&((decide (x.2.1=2) || (decide (x.2.1=3)&&decide (x.2.2.2.1 >t.2.2.1)))&&s5g x.2.2.2.2.2.1 t.2.2.2.2.2.1)
def s2k (f:u0d→Bool) (t:u0d) (l:List u0d):Bool:=
 (p0b t l&&s78 t l) || (l.any (fun x=>p09 x&&(x.2.2.2.2.2.2.1&&ahead t x)) ||
  l.any fun p=>decide (p.2.1=2)&&(ahead p t&&(ahead t p || l.any fun x=>decide (x.2.1=2)&&(f x&&ahead x p))))
def r2x (t:u0d) (l:List u0d):Bool:=s2k (fun x=> !decide (x.1=t.1)) t l
def t5w (f:u0d→Bool) (t:u0d) (l:List u0d):Bool:=
 s2k f t l || ((p0b t l&&l.any fun x=>decide (x.2.1=2)&&ahead t x) || l.any fun x=>(decide (x.2.1=2)&&ahead t x)&&l.any fun y=>decide (y.2.1=2)&&(!decide (y.1=t.1)&&ahead x y))
def t2l (t:u0d) (l:List u0d):Bool:=t5w (fun x=> !decide (x.1=t.1)) t l
theorem t8m {a b:u0d} :ahead a b=true↔a.1≠b.1∧ ¬(a.2.1=3∧a.2.2.2.1≤b.2.2.1)∧ ¬(b.2.1=3∧b.2.2.2.1≤a.2.2.1)∧s99 a.2.2.2.2.1 b.2.2.2.2.2.1=true:=by
 unfold ahead r2w q1t
 simp only[Bool.and_eq_true,Bool.not_eq_true',Bool.and_eq_false_iff,decide_eq_false_iff_not,not_and,and_assoc]
 constructor
 ·rintro⟨h1,h2,h3,h4⟩
  exact⟨h1,fun e=>h2.resolve_left (fun q=>q e),fun e=>h3.resolve_left (fun q=>q e),h4⟩
 ·rintro⟨h1,h2,h3,h4⟩
  refine⟨h1,?_,?_,h4⟩
  ·by_cases e:a.2.1=3
   ·exact .inr (h2 e)
   ·exact .inl e
  ·by_cases e:b.2.1=3
   ·exact .inr (h3 e)
   ·exact .inl e
structure SameC (x y:u0d):Prop where
 id:x.1=y.1
 st:x.2.1=y.2.1
 snap:x.2.2.1=y.2.2.1
 cs:x.2.2.2.1=y.2.2.2.1
 rs:x.2.2.2.2.1=y.2.2.2.2.1
 ws:x.2.2.2.2.2.1=y.2.2.2.2.2.1
theorem SameC.refl (x:u0d):SameC x x:=⟨rfl,rfl,rfl,rfl,rfl,rfl⟩
theorem SameC.symm {x y:u0d} (h:SameC x y):SameC y x:=⟨h.id.symm,h.st.symm,h.snap.symm,h.cs.symm,h.rs.symm,h.ws.symm⟩
theorem SameC.ahead {x x' y y' :u0d} (h:SameC x x') (k:SameC y y'):Ab.ahead x y=Ab.ahead x' y' :=by
 unfold Ab.ahead r2w q1t
 rw[h.id,h.st,h.snap,h.cs,h.rs,k.id,k.st,k.snap,k.cs,k.ws]
theorem q85 (d x:u0d):SameC (r3y d x) x:=⟨rfl,rfl,rfl,rfl,rfl,rfl⟩
theorem q4j {b:u0h} {t d y:u0d} (hd:SameC d (t0s b t)) (ht:t.2.1≠3) (hy:y.2.2.1≤b.2.2.2.1):ahead d y=ahead t y∧ahead y d=ahead y t:=by
 have h1:ahead d y=ahead (t0s b t) y:=hd.ahead (SameC.refl y)
 have h2:ahead y d=ahead y (t0s b t):=(SameC.refl y).ahead hd
 rw[h1,h2]
 constructor
 ·apply Bool.eq_iff_iff.mpr
  rw[t8m,t8m]
  refine and_congr_right fun _=>and_congr ?_ (and_congr Iff.rfl Iff.rfl)
  constructor
  ·exact fun _ q=>ht q.1
  ·rintro _ ⟨_,q⟩
   have q:b.2.2.2.1+1≤y.2.2.1:=q
   omega
 ·apply Bool.eq_iff_iff.mpr
  rw[t8m,t8m]
  refine and_congr_right fun _=>and_congr Iff.rfl (and_congr ?_ Iff.rfl)
  constructor
  ·exact fun _ q=>ht q.1
  ·rintro _ ⟨_,q⟩
   have q:b.2.2.2.1+1≤y.2.2.1:=q
   omega
theorem q4w (a b:List WrT):s5g a b=s5g b a:=by
 unfold s5g
 apply Bool.eq_iff_iff.mpr
 simp only[List.any_eq_true]
 constructor
 ·rintro⟨x,hx,y,hy,h⟩;exact⟨y,hy,x,hx,by rw[q44];exact h⟩
 ·rintro⟨x,hx,y,hy,h⟩;exact⟨y,hy,x,hx,by rw[q44];exact h⟩
structure Ser (H:List u0d) (e:u1w):Prop where
 eng:EngR e
 st:∀x∈H,x.2.1=3
 snap:∀x∈H,x.2.2.1<x.2.2.2.1∧x.2.2.2.1≤e.1.2.2.2.1
 asc:H.Pairwise fun x y=>x.2.2.2.1<y.2.2.2.1
 uqh:uq (H++(e.1.2.2.1++e.2))
 bel:∀x∈H,x.1<e.1.2.2.2.2
 pin:∀x∈e.1.2.1,∃y∈H,SameC x y
 cov:∀y∈H,∀o∈e.2,o.2.2.1<y.2.2.2.1→ ∃x∈e.1.2.1,SameC x y
 outp:∀x∈e.1.2.1,∀y∈H,ahead x y=true→y.2.2.2.1<x.2.2.2.1→x.2.2.2.2.2.2.1=true
 outr:∀p∈e.1.2.2.1,∀y∈H,ahead p y=true→p.2.2.2.2.2.2.1=true
 no3:∀x∈H,∀y∈H,∀z∈H,ahead x y=true→ahead y z=true→z.2.2.2.1<y.2.2.2.1→z.2.2.2.1≤x.2.2.2.1→False
 noA:∀x∈H,∀p∈e.1.2.2.1,∀z∈H,ahead x p=true→ahead p z=true→z.2.2.2.1≤x.2.2.2.1→False
 noB:∀p∈e.1.2.2.1,∀y∈H,∀z∈H,ahead p y=true→ahead y z=true→z.2.2.2.1<y.2.2.2.1→False
 noD:∀p∈e.1.2.2.1,∀q∈e.1.2.2.1,∀z∈H,ahead p q=true→ahead q z=true→False
 noE:∀p∈e.1.2.2.1,∀q∈e.1.2.2.1,∀r∈e.1.2.2.1,ahead p q=true→ahead q r=true→False
 ww:∀x∈H,∀y∈H,x.2.2.2.1<y.2.2.2.1→s5g x.2.2.2.2.2.1 y.2.2.2.2.2.1=true→x.2.2.2.1≤y.2.2.1
 wr:∀p∈e.1.2.2.1,∀y∈H,s5g y.2.2.2.2.2.1 p.2.2.2.2.2.1=true→y.2.2.2.1≤p.2.2.1
 rr:∀p∈e.1.2.2.1,∀q∈e.1.2.2.1,p.1≠q.1→s5g p.2.2.2.2.2.1 q.2.2.2.2.2.1=true→False
def p1q (c:Int) (t:u0d):u0d:=(t.1,(3:Int),t.2.2.1,c,t.2.2.2.2.1,t.2.2.2.2.2.1,t.2.2.2.2.2.2.1,(⟨#[]⟩:ByteArray))
theorem p71 (b:u0h) (t:u0d):SameC (p1q (b.2.2.2.1+1) t) (t0s b t):=⟨rfl,rfl,rfl,rfl,rfl,rfl⟩
theorem Ser.opens {H:List u0d} {e e' :u1w} (h:Ser H e) (hR:EngR e') (h1:e'.1.2.1=e.1.2.1) (h2:e'.1.2.2.1=e.1.2.2.1) (h3:e'.1.2.2.2.1=e.1.2.2.2.1) (h4:e.1.2.2.2.2≤e'.1.2.2.2.2)
 (ho:∀o∈e'.2,(∃p∈e.2,p.1=o.1∧p.2.2.1=o.2.2.1)∨(e.1.2.2.2.2≤o.1∧o.2.2.1=e.1.2.2.2.1)):Ser H e' :=by
 obtain⟨u1,u2,u3⟩:=o5e.mp h.uqh
 refine⟨hR,h.st,by rw[h3];exact h.snap,h.asc,?_,fun x hx=>by have:=h.bel x hx;omega,by rw[h1];exact h.pin,?_,by rw[h1];exact h.outp,by rw[h2];exact h.outr,h.no3,by rw[h2];exact h.noA,by rw[h2];exact h.noB,by rw[h2];exact h.noD,by rw[h2];exact h.noE,h.ww,by rw[h2];exact h.wr,by rw[h2];exact h.rr⟩
 ·have hu:=hR.uq
  rw[List.append_assoc] at hu
  refine o5e.mpr ⟨u1,(o5e.mp hu).2.1,fun x hx y hy=> ?_⟩
  rcases List.mem_append.mp hy with hy | hy
  ·rw[h2] at hy;exact u3 x hx y (List.mem_append_left _ hy)
  ·rcases ho y hy with ⟨p,hp,e1,_⟩ | ⟨e1,_⟩
   ·rw[←e1];exact u3 x hx p (List.mem_append_right _ hp)
   ·have:=h.bel x hx;omega
 ·intro y hy o ho' hlt
  rw[h1]
  rcases ho o ho' with ⟨p,hp,_,e2⟩ | ⟨_,e2⟩
  ·exact h.cov y hy p hp (by omega)
  ·have:=(h.snap y hy).2;omega
theorem p1j (b:u0h):∀(o:List u0d),∀t∈o,t6l b o≤t.2.2.1:=by
 have le:∀(o:List u0d) (m:Int),o.foldl (fun m t=>if t.2.2.1<m then t.2.2.1 else m) m≤m:=by
  intro o
  induction o with
  | nil=>intro m;exact Int.le_refl _
  | cons t o ih=>
   intro m
   rw[List.foldl_cons]
   refine Int.le_trans (ih _) ?_
   split<;>omega
 have key:∀(o:List u0d) (m:Int),∀t∈o,o.foldl (fun m t=>if t.2.2.1<m then t.2.2.1 else m) m≤t.2.2.1:=by
  intro o
  induction o with
  | nil=>intro m t ht;cases ht
  | cons x o ih=>
   intro m t ht
   rw[List.foldl_cons]
   rcases List.mem_cons.mp ht with rfl | ht
   ·refine Int.le_trans (le o _) ?_
    split<;>omega
   ·exact ih _ t ht
 exact fun o t ht=>key o _ t ht
theorem Ser.tidy {H:List u0d} {e:u1w} (h:Ser H e):Ser H (u5q e.1 e.2,e.2):=by
 have sub:∀x∈(u5q e.1 e.2).2.1,x∈e.1.2.1:=fun x hx=>(List.mem_filter.mp hx).1
 refine⟨p9r h.eng,h.st,h.snap,h.asc,h.uqh,h.bel,fun x hx=>h.pin x (sub x hx),?_,fun x hx=>h.outp x (sub x hx),h.outr,h.no3,h.noA,h.noB,h.noD,h.noE,h.ww,h.wr,h.rr⟩
 intro y hy o ho hlt
 obtain⟨x,hx,hs⟩:=h.cov y hy o ho hlt
 refine⟨x,List.mem_filter.mpr ⟨hx,?_⟩,hs⟩
 have:=p1j e.1 e.2 o ho
 have:=hs.cs
 simp only[Bool.not_eq_true',decide_eq_false_iff_not]
 omega
structure Passed (t:u0d) (P R:List u0d):Prop where
 nb:∀x∈P++R,x.1≠t.1→(x.2.1=2∨(x.2.1=3∧x.2.2.2.1 >t.2.2.1))→s5g x.2.2.2.2.2.1 t.2.2.2.2.2.1=true→False
 d1:∀x∈P++R,∀y∈P,ahead x t=true→ahead t y=true→False
 d2:∀x∈P++R,x.2.2.2.2.2.2.1=true→ahead t x=true→False
 d3:∀p∈R,ahead p t=true→ahead t p=true→False
 d4:∀p∈R,∀x∈R,ahead p t=true→ahead x p=true→x.1≠t.1→False
theorem Ser.inPast {H:List u0d} {e:u1w} (h:Ser H e) {t:u0d} (ht:t∈e.2) {y:u0d} (hy:y∈H) (ha:ahead t y=true∨ahead y t=true):∃x∈e.1.2.1,SameC x y:=by
 refine h.cov y hy t ht ?_
 have hs:=h.st y hy
 rcases ha with ha | ha
 ·have:=(t8m.mp ha).2.2.1
  exact Int.not_le.mp fun q=>this ⟨hs,q⟩
 ·have:=(t8m.mp ha).2.1
  exact Int.not_le.mp fun q=>this ⟨hs,q⟩
theorem Ser.commit {H:List u0d} {e:u1w} (h:Ser H e) {t:u0d} (ht:t∈e.2) (hf:s2n e.1=false) (hp:Passed t e.1.2.1 e.1.2.2.1):Ser (H++ [p1q (e.1.2.2.2.1+1) t]) (u1k e.1 t,t1u e t.1):=by
 have hE:=h.eng
 obtain⟨tR,t1,ts⟩:=hE.open_ t ht
 have t3:t.2.1≠3:=by omega
 have hsame:=p71 e.1 t
 have hgn:=t2f e.1.2.2.2.2 t.1
 have hHs:∀y∈H,y.2.2.1≤e.1.2.2.2.1:=fun y hy=>by have:=h.snap y hy;omega
 have hRs:∀y∈e.1.2.2.1,y.2.2.1≤e.1.2.2.2.1:=fun y hy=>(hE.base.ready y hy).2.2
 have hPs:∀y∈e.1.2.1,y.2.2.1≤e.1.2.2.2.1:=fun y hy=>by obtain⟨z,hz,q⟩:=h.pin y hy;rw[q.snap];exact hHs z hz
 have aL:∀y:u0d,y.2.2.1≤e.1.2.2.2.1→ahead (p1q (e.1.2.2.2.1+1) t) y=ahead t y:=fun y hy=>(q4j hsame t3 hy).1
 have aR:∀y:u0d,y.2.2.1≤e.1.2.2.2.1→ahead y (p1q (e.1.2.2.2.1+1) t)=ahead y t:=fun y hy=>(q4j hsame t3 hy).2
 have self:∀x:u0d,ahead x x=false:=fun x=>by
  cases q:ahead x x with
  | false=>rfl
  | true=>exact absurd rfl (t8m.mp q).1
 have inP:∀y∈H,ahead y t=true→ ∃x∈e.1.2.1,ahead x t=true:=fun y hy q=>by
  obtain⟨x,hx,hs⟩:=h.inPast ht hy (.inr q)
  exact⟨x,hx,by rw[hs.ahead (SameC.refl t)];exact q⟩
 have outP:∀y∈H,ahead t y=true→ ∃x∈e.1.2.1,SameC x y∧ahead t x=true:=fun y hy q=>by
  obtain⟨x,hx,hs⟩:=h.inPast ht hy (.inl q)
  exact⟨x,hx,hs,by rw[(SameC.refl t).ahead hs];exact q⟩
 have ready' :∀p∈(u1k e.1 t).2.2.1,∃q∈e.1.2.2.1,p=r3y (t0s e.1 t) q:=fun p hp=>by
  obtain⟨q,hq,rfl⟩:=List.mem_map.mp hp
  exact⟨q,(List.mem_filter.mp hq).1,rfl⟩
 have snoc:∀ {x:u0d},x∈H++ [p1q (e.1.2.2.2.1+1) t] →x∈H∨x=p1q (e.1.2.2.2.1+1) t:=fun {x} hx=>by
  rcases List.mem_append.mp hx with hx | hx
  ·exact .inl hx
  ·exact .inr (List.mem_singleton.mp hx)
 have csN:(p1q (e.1.2.2.2.1+1) t).2.2.2.1=e.1.2.2.2.1+1:=rfl
 have fl:∀(q y:u0d),ahead (r3y (t0s e.1 t) q) y=ahead q y:=fun q y=>(q85 _ q).ahead (SameC.refl y)
 have fr:∀(q y:u0d),ahead y (r3y (t0s e.1 t) q)=ahead y q:=fun q y=>(SameC.refl y).ahead (q85 _ q)
 obtain⟨u1,u2,u3⟩:=o5e.mp h.uqh
 obtain⟨u4,u5,u6⟩:=o5e.mp u2
 have hEc:=q5x hE ht hf
 have hE' :EngR (u1k e.1 t,t1u e t.1):=r79 hE (s4g hE (.inl ht) hf) (u9y e t.1) (by show e.1.2.2.2.1≤e.1.2.2.2.1+1;omega) hgn.1 fun x hx y hy=>by
  rcases r36 hx with q | ⟨z,hz,q⟩
  ·rw[q];exact(q67 hy).symm
  ·rw[←q];exact hE.apart z hz y ((u9y e t.1).subset hy)
 refine⟨hE',?_,?_,?_,?_,?_,?_,?_,?_,?_,?_,?_,?_,?_,?_,?_,?_,?_⟩
 ·-- st
  intro x hx
  rcases snoc hx with hx | rfl
  ·exact h.st x hx
  ·rfl
 ·-- snap
  intro x hx
  show x.2.2.1<x.2.2.2.1∧x.2.2.2.1≤e.1.2.2.2.1+1
  rcases snoc hx with hx | rfl
  ·have:=h.snap x hx;omega
  ·show t.2.2.1<e.1.2.2.2.1+1∧e.1.2.2.2.1+1≤e.1.2.2.2.1+1
   omega
 ·-- asc
  rw[List.pairwise_append]
  refine⟨h.asc,List.pairwise_singleton _ _,fun x hx y hy=> ?_⟩
  rw[List.mem_singleton] at hy;subst hy
  have:=(h.snap x hx).2
  show x.2.2.2.1<e.1.2.2.2.1+1
  omega
 ·-- uq
  have hu:=hE'.uq
  rw[List.append_assoc] at hu
  obtain⟨k1,k2,k3⟩:=o5e.mp hu
  refine o5e.mpr ⟨o5e.mpr ⟨u1,p6f,fun x hx y hy=> ?_⟩,k2,fun x hx y hy=> ?_⟩
  ·rw[List.mem_singleton] at hy;subst hy
   exact u3 x hx t (List.mem_append_right _ ht)
  ·rcases snoc hx with hx | rfl
   ·rcases List.mem_append.mp hy with hy | hy
    ·obtain⟨q,hq,rfl⟩:=ready' y hy
     exact u3 x hx q (List.mem_append_left _ hq)
    ·exact u3 x hx y (List.mem_append_right _ ((u9y e t.1).subset hy))
   ·exact k3 (t0s e.1 t) (by show _∈e.1.2.1++ [t0s e.1 t];simp) y hy
 ·-- below
  intro x hx
  show x.1<u1l e.1.2.2.2.2 t.1
  rcases snoc hx with hx | rfl
  ·have:=h.bel x hx;omega
  ·exact hgn.2
 ·-- pin
  intro x hx
  rcases List.mem_append.mp hx with hx | hx
  ·obtain⟨y,hy,q⟩:=h.pin x hx
   exact⟨y,List.mem_append_left _ hy,q⟩
  ·rw[List.mem_singleton] at hx;subst hx
   exact⟨_,List.mem_append_right _ (List.mem_singleton.mpr rfl),hsame.symm⟩
 ·-- cov
  intro y hy o ho hlt
  rcases snoc hy with hy | rfl
  ·obtain⟨x,hx,q⟩:=h.cov y hy o ((u9y e t.1).subset ho) hlt
   exact⟨x,List.mem_append_left _ hx,q⟩
  ·exact⟨t0s e.1 t,List.mem_append_right _ (List.mem_singleton.mpr rfl),hsame.symm⟩
 ·-- outp
  intro x hx y hy ha hlt
  rcases List.mem_append.mp hx with hx | hx
  ·rcases snoc hy with hy | rfl
   ·exact h.outp x hx y hy ha hlt
   ·obtain⟨z,hz,q⟩:=h.pin x hx
    have:=(h.snap z hz).2
    have:=q.cs
    have hlt:e.1.2.2.2.1+1<x.2.2.2.1:=hlt
    omega
  ·rw[List.mem_singleton] at hx;subst hx
   rcases snoc hy with hy | rfl
   ·have q:ahead t y=true:=by
     rw[hsame.symm.ahead (SameC.refl y),aL y (hHs y hy)] at ha;exact ha
    obtain⟨z,hz,hs,hz2⟩:=outP y hy q
    show(t.2.2.2.2.2.2.1 || s78 t e.1.2.1)=true
    have:s78 t e.1.2.1=true:=List.any_eq_true.mpr ⟨z,hz,by rw[(hE.base.past z hz).2.1,hz2];rfl⟩
    rw[this,Bool.or_true]
   ·rw[hsame.symm.ahead (SameC.refl _),self] at ha;cases ha
 ·-- outr
  intro p hp' y hy ha
  obtain⟨q,hq,rfl⟩:=ready' p hp'
  rw[fl] at ha
  show(q.2.2.2.2.2.2.1 || ahead q (t0s e.1 t))=true
  rcases snoc hy with hy | rfl
  ·rw[h.outr q hq y hy ha];rfl
  ·rw[(SameC.refl q).ahead hsame] at ha
   rw[ha,Bool.or_true]
 ·-- no3
  intro x hx y hy z hz q1 q2 l1 l2
  rcases snoc hz with hz | rfl
  ·rcases snoc hy with hy | rfl
   ·rcases snoc hx with hx | rfl
    ·exact h.no3 x hx y hy z hz q1 q2 l1 l2
    ·-- it reads ahead of y,which is Out
     rw[aL y (hHs y hy)] at q1
     obtain⟨w,hw,hs,hw2⟩:=outP y hy q1
     refine hp.d2 w (List.mem_append_left _ hw) (h.outp w hw z hz ?_ (by rw[hs.cs];exact l1)) hw2
     rw[hs.ahead (SameC.refl z)];exact q2
   ·rw[aL z (hHs z hz)] at q2
    obtain⟨w,hw,_,hw2⟩:=outP z hz q2
    rcases snoc hx with hx | rfl
    ·rw[aR x (hHs x hx)] at q1
     obtain⟨v,hv,hv2⟩:=inP x hx q1
     exact hp.d1 v (List.mem_append_left _ hv) w hw hv2 hw2
    ·rw[self] at q1;cases q1
  ·rcases snoc hy with hy | rfl
   ·have:=(h.snap y hy).2
    rw[csN] at l1
    omega
   ·rw[self] at q2;cases q2
 ·-- noA
  intro x hx p hp' z hz q1 q2 l
  obtain⟨q,hq,rfl⟩:=ready' p hp'
  rw[fr] at q1;rw[fl] at q2
  rcases snoc hz with hz | rfl
  ·rcases snoc hx with hx | rfl
   ·exact h.noA x hx q hq z hz q1 q2 l
   ·rw[aL q (hRs q hq)] at q1
    exact hp.d2 q (List.mem_append_right _ hq) (h.outr q hq z hz q2) q1
  ·rcases snoc hx with hx | rfl
   ·have:=(h.snap x hx).2
    rw[csN] at l
    omega
   ·rw[aL q (hRs q hq)] at q1
    rw[aR q (hRs q hq)] at q2
    exact hp.d3 q hq q2 q1
 ·-- noB
  intro p hp' y hy z hz q1 q2 l
  obtain⟨q,hq,rfl⟩:=ready' p hp'
  rw[fl] at q1
  rcases snoc hz with hz | rfl
  ·rcases snoc hy with hy | rfl
   ·exact h.noB q hq y hy z hz q1 q2 l
   ·rw[aR q (hRs q hq)] at q1
    rw[aL z (hHs z hz)] at q2
    obtain⟨w,hw,_,hw2⟩:=outP z hz q2
    exact hp.d1 q (List.mem_append_right _ hq) w hw q1 hw2
  ·rcases snoc hy with hy | rfl
   ·have:=(h.snap y hy).2
    rw[csN] at l
    omega
   ·rw[self] at q2;cases q2
 ·-- noD
  intro p hp' p2 hp2 z hz q1 q2
  obtain⟨q,hq,rfl⟩:=ready' p hp'
  obtain⟨r,hr,rfl⟩:=ready' p2 hp2
  rw[fl,fr] at q1;rw[fl] at q2
  rcases snoc hz with hz | rfl
  ·exact h.noD q hq r hr z hz q1 q2
  ·rw[aR r (hRs r hr)] at q2
   exact hp.d4 r hr q hq q2 q1 (hE.apart q (List.mem_append_right _ hq) t ht)
 ·-- noE
  intro p hp' p2 hp2 p3 hp3 q1 q2
  obtain⟨q,hq,rfl⟩:=ready' p hp'
  obtain⟨r,hr,rfl⟩:=ready' p2 hp2
  obtain⟨s,hs,rfl⟩:=ready' p3 hp3
  rw[fl,fr] at q1;rw[fl,fr] at q2
  exact h.noE q hq r hr s hs q1 q2
 ·-- ww
  intro x hx y hy l m
  rcases snoc hy with hy | rfl
  ·rcases snoc hx with hx | rfl
   ·exact h.ww x hx y hy l m
   ·have:=(h.snap y hy).2
    rw[csN] at l
    omega
  ·rcases snoc hx with hx | rfl
   ·show x.2.2.2.1≤t.2.2.1
    apply Int.not_lt.mp
    intro hlt
    obtain⟨w,hw,hs⟩:=h.cov x hx t ht hlt
    refine hp.nb w (List.mem_append_left _ hw) (hE.apart w (List.mem_append_left _ hw) t ht) (.inr ⟨(hE.base.past w hw).2.1,by rw[hs.cs];exact hlt⟩) ?_
    rw[hs.ws];exact m
   ·rw[csN] at l;omega
 ·-- wr
  intro p hp' y hy m
  obtain⟨q,hq,rfl⟩:=ready' p hp'
  show y.2.2.2.1≤q.2.2.1
  rcases snoc hy with hy | rfl
  ·exact h.wr q hq y hy m
  ·exfalso
   refine hp.nb q (List.mem_append_right _ hq) (hE.apart q (List.mem_append_right _ hq) t ht) (.inl (hE.base.ready q hq).2.1) ?_
   rw[q4w];exact m
 ·-- rr
  intro p hp' p2 hp2 hne m
  obtain⟨q,hq,rfl⟩:=ready' p hp'
  obtain⟨r,hr,rfl⟩:=ready' p2 hp2
  exact h.rr q hq r hr hne m
end
section
abbrev u13:=u1w×u0j
def r7d:s27:=(0,u66,emp,false,u3o)
def u5o (o:List u0d) (id:Int):Int:=if u0m (fun x:u0d=>decide (x.1=id)) o<o.length then((u0m (fun x:u0d=>decide (x.1=id)) o:Nat):Int) else -1
def u16 (e:u1w) (id:Int):u0d:=rdL u1u e.2 (u5o e.2 id).toNat
def u73 (e:u1w):List u0d:=e.1.2.1++e.1.2.2.1
def s1e (e:u1w) (id:Int):Int:=
 if u5o e.2 id<0 then 1 else if s9f (u16 e id) (u73 e)=true then 4 else if r2x (u16 e id) (u73 e)=true then 5 else if s2n e.1=true then 3 else 0
def u27 (e:u1w) (id:Int):u1w×s27×Int:=
 if s1e e id=1 then(e,r7d,1) else if s1e e id=0 then(r3v e (u16 e id),(1,t0s e.1 (u16 e id),emp,false,u3o),0) else(t5r e id,r7d,s1e e id)
def t6m (e:u1w) (id:Int):Int:=
 if s1e e id≠0 then s1e e id else if t2l (u16 e id) (u73 e)=true then 5 else if 3≤e.1.2.2.1.length then 3 else 0
def t5k (e:u1w) (id:Int) (n:ByteArray):u1w×s27×Int:=
 if u5o e.2 id<0 then(e,r7d,1) else if u78 n=false then(e,r7d,2) else if 0≤u0q e.1 n then(e,r7d,6)
 else if t6m e id=0 then(r9i e (u16 e id) n,(2,u20 e.1 (u16 e id) n,emp,false,u3o),0) else(t5r e id,r7d,t6m e id)
def s77 (e:u1w) (n:ByteArray) (yes:Bool):u1w×s27×Int:=
 if u0q e.1 n<0 then(e,r7d,1) else if yes=true∧s2n e.1=true then(e,r7d,3)
 else if yes=true then(o1j e (rdL u1u e.1.2.2.1 (u0q e.1 n).toNat),(3,u66,n,true,u3o),0) else(noE e n,(3,u66,n,false,u3o),0)
def s4a (e:u1w) (id:Int):u1w×Int:=if u5o e.2 id<0 then(e,1) else(t5r e id,0)
def t9j (e:u1w):u1w×Int×Int:=if e.2.length<4∧e.1.2.2.2.2<9999 then(q0g e,e.1.2.2.2.2,0) else(e,0,3)
def o2k (l:List s28) (r:s28):Bool:=l.any fun x=>z7o x.1 r.1&&z7o x.2 r.2
def o47 (t:u0d) (r:s28):u0d:=(t.1,t.2.1,t.2.2.1,t.2.2.2.1,t.2.2.2.2.1++ [r],t.2.2.2.2.2)
def s1g (t:u0d) (r:s28):u0d×Bool:=if o2k t.2.2.2.2.1 r=true then(t,true) else if t.2.2.2.2.1.length<8 then(o47 t r,true) else(t,false)
def o3j (t:u0d) (l:List WrT):u0d:=(t.1,t.2.1,t.2.2.1,t.2.2.2.1,t.2.2.2.2.1,l,t.2.2.2.2.2.2)
def s72 (t:u0d) (w:WrT):u0d×Bool:=if(q7l t.2.2.2.2.2.1 w).length≤8 then(o3j t (q7l t.2.2.2.2.2.1 w),true) else(t,false)
def s1f (e:u1w) (id:Int) (r:s28) (right:Bool):u1w×Int:=
 if u5o e.2 id<0 then(e,1) else if right=false then(e,2) else if(s1g (u16 e id) r).2=true then(p1s e (u5o e.2 id).toNat (s1g (u16 e id) r).1,0) else(e,3)
def p2j (e:u1w) (id:Int) (w:WrT):u1w×Int:=
 if u5o e.2 id<0 then(e,1) else if u52 w=false then(e,2) else if(s72 (u16 e id) w).2=true then(p1s e (u5o e.2 id).toNat (s72 (u16 e id) w).1,0) else(e,3)
theorem o0f {o:List u0d} {id:Int} :u5o o id<0↔ ∀x∈o,x.1≠id:=by
 unfold u5o
 constructor
 ·intro h x hx e
  obtain⟨i,hi,rfl⟩:=List.getElem_of_mem hx
  split at h
  ·omega
  ·rename_i q
   have:=u7c (p:=fun x:u0d=>decide (x.1=id)) hi (by have:=t3f (fun x:u0d=>decide (x.1=id)) o;omega)
   simp[e] at this
 ·intro h
  split
  ·rename_i q
   have:=u7x q
   simp only[decide_eq_true_eq] at this
   exact absurd this (h _ (List.getElem_mem q))
  ·omega
theorem u1o {e:u1w} {id:Int} (h: ¬u5o e.2 id<0):∃(k:Nat) (hk:k<e.2.length),u5o e.2 id=(k:Int)∧u16 e id=e.2[k] ∧e.2[k].1=id:=by
 unfold u16
 unfold u5o at h ⊢
 split at h
 ·rename_i q
  rw[if_pos q]
  refine⟨_,q,rfl,?_,?_⟩
  ·rw[zTn];exact y8k (t:=u1u) q
  ·simpa using u7x q
 ·omega
theorem s5e {e:u1w} {id:Int} (h:s1e e id=0): ¬u5o e.2 id<0∧s9f (u16 e id) (u73 e)=false∧r2x (u16 e id) (u73 e)=false∧s2n e.1=false:=by
 unfold s1e at h
 split at h
 ·omega
 ·rename_i h1
  split at h
  ·omega
  ·rename_i h2
   split at h
   ·omega
   ·rename_i h3
    split at h
    ·omega
    ·rename_i h4
     exact⟨h1,by simpa using h2,by simpa using h3,by simpa using h4⟩
theorem o3e {e:u1w} {id:Int} :s1e e id=1↔u5o e.2 id<0:=by
 unfold s1e
 constructor
 ·intro h
  split at h
  ·assumption
  ·split at h
   ·omega
   ·split at h
    ·omega
    ·split at h<;>omega
 ·intro h;rw[if_pos h]
theorem p57 {e:u1w} {id:Int} (h:u5o e.2 id<0):t1u e id=e.2:=by
 unfold t1u
 rw[List.filter_eq_self]
 intro x hx
 simp[o0f.mp h x hx]
theorem o0v {t:u0d} {r:s28} (h:TxnR t) (hr:u5m r=true) (hl:t.2.2.2.2.1.length<8):TxnR (o47 t r):=
 ⟨h.id,h.st,h.snap,by show(t.2.2.2.2.1++ [r]).length≤8;simp only[List.length_append,List.length_singleton];omega,h.ws,fun x hx=>by
   rcases List.mem_append.mp hx with hx | hx
   ·exact h.rs x hx
   ·rw[List.mem_singleton] at hx;subst hx;exact hr,h.done,h.nocs,h.name,h.noname,h.out⟩
theorem p9l {t:u0d} {r:s28} (h:TxnR t) (hr:u5m r=true):TxnR (s1g t r).1∧(s1g t r).1.1=t.1∧(s1g t r).1.2.1=t.2.1∧(s1g t r).1.2.2.1=t.2.2.1∧(s1g t r).1.2.2.2.2.2.1=t.2.2.2.2.2.1:=by
 unfold s1g
 split
 ·exact⟨h,rfl,rfl,rfl,rfl⟩
 ·split
  ·rename_i q;exact⟨o0v h hr q,rfl,rfl,rfl,rfl⟩
  ·exact⟨h,rfl,rfl,rfl,rfl⟩
theorem p52 {l:List WrT} {w:WrT} (h:u7w l=true) (hw:u52 w=true) (hl:(q7l l w).length≤8):u7w (q7l l w)=true:=by
 obtain⟨h1,h2,h3⟩:=p8y.mp h
 refine p8y.mpr ⟨fun x hx=> ?_,?_,hl⟩
 ·rcases q63 hx with hx | rfl
  ·exact h1 x hx
  ·exact hw
 ·unfold q7l
  rw[List.append_assoc,List.pairwise_append]
  refine⟨List.Pairwise.filter _ h2,?_,?_⟩
  ·rw[List.singleton_append,List.pairwise_cons]
   refine⟨fun y hy=> ?_,List.Pairwise.filter _ h2⟩
   have:=(List.mem_filter.mp hy).2
   rw[q89] at this
   exact this
  ·intro x hx y hy
   have h4:=(List.mem_filter.mp hx).2
   rcases List.mem_append.mp hy with hy | hy
   ·rw[List.mem_singleton] at hy;subst hy;exact h4
   ·have h5:=(List.mem_filter.mp hy).2
    rw[q89] at h5
    exact r3g h4 h5
theorem o1d {t:u0d} {l:List WrT} (h:TxnR t) (hl:u7w l=true):TxnR (o3j t l):=
 ⟨h.id,h.st,h.snap,h.rlen,hl,h.rs,h.done,h.nocs,h.name,h.noname,h.out⟩
theorem p8h {t:u0d} {w:WrT} (h:TxnR t) (hw:u52 w=true):TxnR (s72 t w).1∧(s72 t w).1.1=t.1∧(s72 t w).1.2.1=t.2.1∧(s72 t w).1.2.2.1=t.2.2.1∧(s72 t w).1.2.2.2.2.1=t.2.2.2.2.1:=by
 unfold s72
 split
 ·rename_i q;exact⟨o1d h (p52 h.ws hw q),rfl,rfl,rfl,rfl⟩
 ·exact⟨h,rfl,rfl,rfl,rfl⟩
theorem o04 {e:u1w} (h:EngR e) {id:Int} {r:s28} {right:Bool} (hr:right=true→u5m r=true):EngR (s1f e id r right).1:=by
 unfold s1f
 split
 ·exact h
 ·rename_i q
  split
  ·exact h
  ·rename_i hb
   split
   ·obtain⟨k,hk,e1,e2,e3⟩:=u1o q
    obtain⟨o1,o2,o3⟩:=h.open_ _ (List.getElem_mem hk)
    rw[e1,zTn,e2]
    obtain⟨r1,r2,r3,r4,r5⟩:=p9l o1 (hr (by simpa using hb))
    exact q9z h hk r1 r2 (r3.trans o2) r4
   ·exact h
theorem o3i {e:u1w} (h:EngR e) {id:Int} {w:WrT} :EngR (p2j e id w).1:=by
 unfold p2j
 split
 ·exact h
 ·rename_i q
  split
  ·exact h
  ·rename_i hb
   split
   ·obtain⟨k,hk,e1,e2,e3⟩:=u1o q
    obtain⟨o1,o2,o3⟩:=h.open_ _ (List.getElem_mem hk)
    rw[e1,zTn,e2]
    obtain⟨r1,r2,r3,r4,r5⟩:=p8h (w:=w) o1 (by simpa using hb)
    exact q9z h hk r1 r2 (r3.trans o2) r4
   ·exact h
theorem p18 {e:u1w} (h:EngR e):EngR (t9j e).1:=by
 unfold t9j
 split
 ·rename_i q;exact p9d h q.1 q.2
 ·exact h
theorem p5f {e:u1w} (h:EngR e) (id:Int):EngR (u27 e id).1:=by
 unfold u27
 split
 ·exact h
 ·split
  ·rename_i _ q
   obtain⟨h1,h2,h3,h4⟩:=s5e q
   obtain⟨k,hk,e1,e2,e3⟩:=u1o h1
   rw[e2]
   exact q5x h (List.getElem_mem hk) h4
  ·exact p5n h id
structure Sync (s:u13) (b:u0h):Prop where
 eng:EngR s.1
 log:u45 s.2=true
 play:t3w (u0k s.2)=some b
 right:BaseR b
 like:Like0 b s.1.1
theorem Like0.of {b e e' :u0h} (h:Like0 b e) (h1:e'.1=e.1) (h2:e'.2.2.1=e.2.2.1) (h3:e'.2.2.2.1=e.2.2.2.1):Like0 b e' :=
 ⟨by rw[h1,h3];exact h.vs,h.past,by rw[h2];exact h.ready,by rw[h3];exact h.cs⟩
theorem Sync.opens {s:u13} {b:u0h} {e:u1w} (h:Sync s b) (he:EngR e) (h1:e.1.1=s.1.1.1) (h2:e.1.2.2.1=s.1.1.2.2.1) (h3:e.1.2.2.2.1=s.1.1.2.2.2.1):Sync (e,s.2) b:=
 ⟨he,h.log,h.play,h.right,h.like.of h1 h2 h3⟩
theorem Sync.leave {s:u13} {b:u0h} (h:Sync s b) (id:Int):Sync (t5r s.1 id,s.2) b:=
 ⟨p5n h.eng id,h.log,h.play,h.right,h.like.tidy h.eng.base _⟩
theorem Sync.own {s:u13} {b:u0h} (h:Sync s b):u5q b [] =b:=h.like.self h.eng.base
def t64 (s:u13) (id:Int):u13×Int:=
 if(u27 s.1 id).2.2=0 then(match t5j s.2 (u27 s.1 id).2.1 with
  | some d=>(((u27 s.1 id).1,d),0)
  | none=>((t5r s.1 id,s.2),3))
 else(((u27 s.1 id).1,s.2),(u27 s.1 id).2.2)
def s96 (s:u13) (id:Int) (n:ByteArray):u13×Int:=
 if(t5k s.1 id n).2.2=0 then(match t5j s.2 (t5k s.1 id n).2.1 with
  | some d=>(((t5k s.1 id n).1,d),0)
  | none=>((t5r s.1 id,s.2),3))
 else(((t5k s.1 id n).1,s.2),(t5k s.1 id n).2.2)
def q14 (s:u13) (n:ByteArray) (yes:Bool):u13×Int:=
 if(s77 s.1 n yes).2.2=0 then(match t5j s.2 (s77 s.1 n yes).2.1 with
  | some d=>(((s77 s.1 n yes).1,d),0)
  | none=>(s,3))
 else(s,(s77 s.1 n yes).2.2)
def p7a (s:u13):u13×Bool:=match p4p s.2 with
 | some d=>((s.1,d),true)
 | none=>(s,false)
theorem Sync.commit {s:u13} {b:u0h} (h:Sync s b) (id:Int):∃b',Sync (t64 s id).1 b' ∧(b' =b∨((t64 s id).2=0∧s1e s.1 id=0∧u9g b (1,t0s s.1.1 (u16 s.1 id),emp,false,u3o)=some b')):=by
 have hE:=h.eng
 unfold t64
 by_cases c0:(u27 s.1 id).2.2=0
 ·rw[if_pos c0]
  have j0:s1e s.1 id=0:=by
   unfold u27 at c0
   split at c0
   ·cases c0
   ·split at c0
    ·assumption
    ·exact c0
  have ec:u27 s.1 id=(r3v s.1 (u16 s.1 id),(1,t0s s.1.1 (u16 s.1 id),emp,false,u3o),0):=by
   unfold u27;rw[if_neg (by omega),if_pos j0]
  obtain⟨h1,h2,h3,h4⟩:=s5e j0
  obtain⟨k,hk,e1,e2,e3⟩:=u1o h1
  have ht:u16 s.1 id∈s.1.2:=by rw[e2];exact List.getElem_mem hk
  obtain⟨f1,f2,f3⟩:=q6y h4
  obtain⟨tR,t1,ts⟩:=hE.open_ _ ht
  have h9:(u16 s.1 id).1<9999:=by have:=hE.bel _ (List.mem_append_right _ ht);have:=hE.base.next.2;omega
  obtain⟨x,p1,p2,p3⟩:=q35 (t:=u16 s.1 id) h.like hE.base h.right f3 f2 tR h9 ts
  rw[ec]
  simp only
  cases hk2:t5j s.2 (1,t0s s.1.1 (u16 s.1 id),emp,false,u3o) with
  | none=>exact⟨b,h.leave id, .inl rfl⟩
  | some d=>
   obtain⟨l1,l2⟩:=r9s h.play h.right h.own (.thr _ (p02 tR ts f3) rfl) p1 hk2
   have hR:=q5x hE ht h4
   exact⟨x,⟨hR,l1,l2,p2,p3.tidy (s4g hE (.inl ht) h4) _⟩, .inr ⟨rfl,j0,p1⟩⟩
 ·rw[if_neg c0]
  refine⟨b,?_, .inl rfl⟩
  unfold u27
  split
  ·exact h
  ·split
   ·rename_i q1 q2
    exfalso;apply c0
    unfold u27;rw[if_neg q1,if_pos q2]
   ·exact h.leave id
theorem p8u {e:u1w} {id:Int} (h:t6m e id=0):s1e e id=0∧t2l (u16 e id) (u73 e)=false∧e.1.2.2.1.length<3:=by
 unfold t6m at h
 split at h
 ·rename_i q;exact absurd h q
 ·rename_i q
  split at h
  ·omega
  ·rename_i q2
   split at h
   ·omega
   ·exact⟨by omega,by simpa using q2,by omega⟩
theorem p5z {e:u1w} {id:Int} {n:ByteArray} (h:(t5k e id n).2.2=0): ¬u5o e.2 id<0∧u78 n=true∧u0q e.1 n<0∧t6m e id=0∧t5k e id n=(r9i e (u16 e id) n,(2,u20 e.1 (u16 e id) n,emp,false,u3o),0):=by
 unfold t5k at h ⊢
 split at h
 ·cases h
 ·rename_i q1
  split at h
  ·cases h
  ·rename_i q2
   split at h
   ·cases h
   ·rename_i q3
    split at h
    ·rename_i q4
     exact⟨q1,by simpa using q2,by omega,q4,by rw[if_neg q1,if_neg q2,if_neg q3,if_pos q4]⟩
    ·rename_i q4
     exact absurd h q4
theorem Sync.prep {s:u13} {b:u0h} (h:Sync s b) (id:Int) (n:ByteArray):∃b',Sync (s96 s id n).1 b' ∧(b' =b∨((s96 s id n).2=0∧(t5k s.1 id n).2.2=0∧u9g b (2,u20 s.1.1 (u16 s.1 id) n,emp,false,u3o)=some b')):=by
 have hE:=h.eng
 unfold s96
 by_cases c0:(t5k s.1 id n).2.2=0
 ·rw[if_pos c0]
  obtain⟨h1,hn,hr,hc,ec⟩:=p5z c0
  obtain⟨j0,rd,rl⟩:=p8u hc
  obtain⟨k,hk,e1,e2,e3⟩:=u1o h1
  have ht:u16 s.1 id∈s.1.2:=by rw[e2];exact List.getElem_mem hk
  obtain⟨tR,t1,ts⟩:=hE.open_ _ ht
  have h9:(u16 s.1 id).1<9999:=by have:=hE.bel _ (List.mem_append_right _ ht);have:=hE.base.next.2;omega
  have hnn:=p9m.mp hr
  obtain⟨x,p1,p2,p3⟩:=q9o (t:=u16 s.1 id) (n:=n) h.like hE.base h.right tR (by omega) hn ts rl hnn (fun x hx=>hE.apart x (List.mem_append_right _ hx) _ ht) h9
  rw[ec]
  simp only
  cases hk2:t5j s.2 (2,u20 s.1.1 (u16 s.1 id) n,emp,false,u3o) with
  | none=>exact⟨b,h.leave id, .inl rfl⟩
  | some d=>
   obtain⟨l1,l2⟩:=r9s h.play h.right h.own (.rdy _ (q65 tR (by omega) hn) rfl) p1 hk2
   have hB:BaseR (u1r s.1.1 (u16 s.1 id) n):=s5f hE.base tR (by omega) ts hn rl hnn (fun x hx=>hE.apart x hx _ ht) h9
   exact⟨x,⟨p8v hE ht hn rl hnn,l1,l2,p2,p3.tidy hB _⟩, .inr ⟨by trivial,by trivial,p1⟩⟩
 ·rw[if_neg c0]
  refine⟨b,?_, .inl rfl⟩
  unfold t5k
  split
  ·exact h
  ·split
   ·exact h
   ·split
    ·exact h
    ·split
     ·rename_i q1 q2 q3 q4
      exfalso;apply c0
      unfold t5k;rw[if_neg q1,if_neg q2,if_neg q3,if_pos q4]
     ·exact h.leave id
theorem Sync.fin {s:u13} {b:u0h} (h:Sync s b) (n:ByteArray) (yes:Bool):∃b',Sync (q14 s n yes).1 b' ∧(b' =b∨((q14 s n yes).2=0∧(s77 s.1 n yes).2.2=0∧u9g b (3,u66,n,yes,u3o)=some b')):=by
 have hE:=h.eng
 unfold q14
 by_cases c0:(s77 s.1 n yes).2.2=0
 ·rw[if_pos c0]
  unfold s77 at c0
  split at c0
  ·cases c0
  ·rename_i q1
   split at c0
   ·cases c0
   ·rename_i q2
    obtain⟨k,hk,r1,r2⟩:=t2k q1
    obtain⟨tR,t2,ts⟩:=hE.base.ready _ (List.getElem_mem hk)
    have hn:u78 n=true:=by rw[←r2];exact tR.name t2
    cases yes with
    | true=>
     have hf:s2n s.1.1=false:=by simpa using q2
     obtain⟨f1,f2,f3⟩:=q6y hf
     have ec:s77 s.1 n true=(o1j s.1 s.1.1.2.2.1[k],(3,u66,n,true,u3o),0):=by
      unfold s77;rw[if_neg q1,if_neg q2,if_pos rfl,r1,zTn,y8k (t:=u1u) hk]
     obtain⟨x,p1,p2,p3⟩:=p3x h.like hE.base h.right f3 f2 hn hk r1
     rw[ec]
     simp only
     cases hk2:t5j s.2 (3,u66,n,true,u3o) with
     | none=>exact⟨b,h, .inl rfl⟩
     | some d=>
      obtain⟨l1,l2⟩:=r9s h.play h.right h.own (.fin n true hn) p1 hk2
      exact⟨x,⟨o3m hE (List.getElem_mem hk) hf,l1,l2,p2,p3.tidy (s4g hE (.inr (List.getElem_mem hk)) hf) _⟩, .inr ⟨by trivial,by trivial,p1⟩⟩
    | false=>
     have ec:s77 s.1 n false=(noE s.1 n,(3,u66,n,false,u3o),0):=by
      unfold s77;rw[if_neg q1,if_neg q2,if_neg (by decide)]
     obtain⟨x,p1,p2,p3⟩:=p5y h.like hE.base h.right hn hk r1
     rw[ec]
     simp only
     cases hk2:t5j s.2 (3,u66,n,false,u3o) with
     | none=>exact⟨b,h, .inl rfl⟩
     | some d=>
      obtain⟨l1,l2⟩:=r9s h.play h.right h.own (.fin n false hn) p1 hk2
      exact⟨x,⟨o5b hE n,l1,l2,p2,p3.tidy (r5p hE.base n) _⟩, .inr ⟨by trivial,by trivial,p1⟩⟩
 ·rw[if_neg c0]
  exact⟨b,h, .inl rfl⟩
theorem Sync.fix {s:u13} {b:u0h} (h:Sync s b):Sync (p7a s).1 b:=by
 unfold p7a
 cases ha:p4p s.2 with
 | none=>exact h
 | some d=>
  obtain⟨_,l1,l2⟩:=p16 h.play h.right h.own ha
  exact⟨h.eng,l1,l2,h.right,h.like⟩
end
section
theorem r6c (x:u0d):ahead x x=false:=by
 cases q:ahead x x with
 | false=>rfl
 | true=>exact absurd rfl (t8m.mp q).1
structure PassedR (t:u0d) (P R:List u0d):Prop extends Passed t P R where
 e1:∀x∈P++R,∀y∈R,ahead x t=true→ahead t y=true→False
 e2:∀x∈R,∀y∈R,ahead t x=true→ahead x y=true→y.1≠t.1→False
theorem Ser.ready {H:List u0d} {e:u1w} (h:Ser H e) {t:u0d} {n:ByteArray} (ht:t∈e.2) (hk:u78 n=true) (hl:e.1.2.2.1.length<3) (hn:∀x∈e.1.2.2.1,x.2.2.2.2.2.2.2≠n) (hp:PassedR t e.1.2.1 e.1.2.2.1):
 Ser H (u1r e.1 t n,t1u e t.1):=by
 have hE:=h.eng
 obtain⟨tR,t1,ts⟩:=hE.open_ t ht
 have t3:t.2.1≠3:=by omega
 have hgn:=t2f e.1.2.2.2.2 t.1
 have hHs:∀y∈H,y.2.2.1≤e.1.2.2.2.1:=fun y hy=>by have:=h.snap y hy;omega
 have hRs:∀y∈e.1.2.2.1,y.2.2.1≤e.1.2.2.2.1:=fun y hy=>(hE.base.ready y hy).2.2
 have aL:∀y:u0d,ahead (u20 e.1 t n) y=ahead t y:=fun y=>by
  apply Bool.eq_iff_iff.mpr
  rw[t8m,t8m]
  refine and_congr_right fun _=>and_congr ⟨fun _ q=>t3 q.1,fun _ q=> ?_⟩ Iff.rfl
  have q:(2:Int)=3:=q.1
  omega
 have aR:∀y:u0d,ahead y (u20 e.1 t n)=ahead y t:=fun y=>by
  apply Bool.eq_iff_iff.mpr
  rw[t8m,t8m]
  refine and_congr_right fun _=>and_congr Iff.rfl (and_congr ⟨fun _ q=>t3 q.1,fun _ q=> ?_⟩ Iff.rfl)
  have q:(2:Int)=3:=q.1
  omega
 have inP:∀y∈H,ahead y t=true→ ∃x∈e.1.2.1,ahead x t=true:=fun y hy q=>by
  obtain⟨x,hx,hs⟩:=h.inPast ht hy (.inr q)
  exact⟨x,hx,by rw[hs.ahead (SameC.refl t)];exact q⟩
 have outP:∀y∈H,ahead t y=true→ ∃x∈e.1.2.1,SameC x y∧ahead t x=true:=fun y hy q=>by
  obtain⟨x,hx,hs⟩:=h.inPast ht hy (.inl q)
  exact⟨x,hx,hs,by rw[(SameC.refl t).ahead hs];exact q⟩
 have ready' :∀ {p:u0d},p∈(u1r e.1 t n).2.2.1→p∈e.1.2.2.1∨p=u20 e.1 t n:=fun {x} hx=>by
  rcases List.mem_append.mp hx with hx | hx
  ·rcases List.mem_append.mp hx with hx | hx
   ·exact .inl (List.mem_filter.mp hx).1
   ·rw[List.mem_singleton] at hx;exact .inr hx
  ·exact .inl (List.mem_filter.mp hx).1
 obtain⟨u1,u2,u3⟩:=o5e.mp h.uqh
 have hB:BaseR (u1r e.1 t n):=s5f hE.base tR t3 ts hk hl hn (fun x hx=>hE.apart x hx t ht) (by have:=hE.bel t (List.mem_append_right _ ht);have:=hE.base.next.2;omega)
 have hE' :EngR (u1r e.1 t n,t1u e t.1):=r79 hE hB (u9y e t.1) (Int.le_refl _) hgn.1 fun x hx y hy=>by
  have hy' :=(u9y e t.1).subset hy
  rcases List.mem_append.mp hx with hx | hx
  ·exact hE.apart x (List.mem_append_left _ hx) y hy'
  ·rcases ready' hx with hx | rfl
   ·exact hE.apart x (List.mem_append_right _ hx) y hy'
   ·exact(q67 hy).symm
 have apart:∀q∈e.1.2.2.1,q.1≠t.1:=fun q hq=>hE.apart q (List.mem_append_right _ hq) t ht
 refine⟨hE',h.st,h.snap,h.asc,?_,?_,h.pin,?_,h.outp,?_,h.no3,?_,?_,?_,?_,h.ww,?_,?_⟩
 ·-- uq
  have hu:=hE'.uq
  rw[List.append_assoc] at hu
  obtain⟨k1,k2,k3⟩:=o5e.mp hu
  refine o5e.mpr ⟨u1,k2,fun x hx y hy=> ?_⟩
  rcases List.mem_append.mp hy with hy | hy
  ·rcases ready' hy with hy | rfl
   ·exact u3 x hx y (List.mem_append_left _ hy)
   ·exact u3 x hx t (List.mem_append_right _ ht)
  ·exact u3 x hx y (List.mem_append_right _ ((u9y e t.1).subset hy))
 ·intro x hx
  have:=h.bel x hx
  show x.1<u1l e.1.2.2.2.2 t.1
  omega
 ·exact fun y hy o ho=>h.cov y hy o ((u9y e t.1).subset ho)
 ·-- outr
  intro p hp' y hy ha
  rcases ready' hp' with hp' | rfl
  ·exact h.outr p hp' y hy ha
  ·rw[aL] at ha
   obtain⟨z,hz,_,hz2⟩:=outP y hy ha
   show(t.2.2.2.2.2.2.1 || s78 t e.1.2.1)=true
   have:s78 t e.1.2.1=true:=List.any_eq_true.mpr ⟨z,hz,by rw[(hE.base.past z hz).2.1,hz2];rfl⟩
   rw[this,Bool.or_true]
 ·-- noA
  intro x hx p hp' z hz q1 q2 l
  rcases ready' hp' with hp' | rfl
  ·exact h.noA x hx p hp' z hz q1 q2 l
  ·rw[aR] at q1;rw[aL] at q2
   obtain⟨v,hv,hv2⟩:=inP x hx q1
   obtain⟨w,hw,_,hw2⟩:=outP z hz q2
   exact hp.d1 v (List.mem_append_left _ hv) w hw hv2 hw2
 ·-- noB
  intro p hp' y hy z hz q1 q2 l
  rcases ready' hp' with hp' | rfl
  ·exact h.noB p hp' y hy z hz q1 q2 l
  ·rw[aL] at q1
   obtain⟨w,hw,hs,hw2⟩:=outP y hy q1
   refine hp.d2 w (List.mem_append_left _ hw) (h.outp w hw z hz ?_ (by rw[hs.cs];exact l)) hw2
   rw[hs.ahead (SameC.refl z)];exact q2
 ·-- noD
  intro p hp' q hq z hz q1 q2
  rcases ready' hp' with hp' | rfl
  ·rcases ready' hq with hq | rfl
   ·exact h.noD p hp' q hq z hz q1 q2
   ·rw[aR] at q1;rw[aL] at q2
    obtain⟨w,hw,_,hw2⟩:=outP z hz q2
    exact hp.d1 p (List.mem_append_right _ hp') w hw q1 hw2
  ·rcases ready' hq with hq | rfl
   ·rw[aL] at q1
    exact hp.d2 q (List.mem_append_right _ hq) (h.outr q hq z hz q2) q1
   ·rw[r6c] at q1;cases q1
 ·-- noE
  intro p hp' q hq r hr q1 q2
  rcases ready' hq with hq | rfl
  ·rcases ready' hp' with hp' | rfl
   ·rcases ready' hr with hr | rfl
    ·exact h.noE p hp' q hq r hr q1 q2
    ·rw[aR] at q2
     exact hp.d4 q hq p hp' q2 q1 (apart p hp')
   ·rw[aL] at q1
    rcases ready' hr with hr | rfl
    ·exact hp.e2 q hq r hr q1 q2 (apart r hr)
    ·rw[aR] at q2
     exact hp.d3 q hq q2 q1
  ·rw[aR] at q1;rw[aL] at q2
   rcases ready' hp' with hp' | rfl
   ·rcases ready' hr with hr | rfl
    ·exact hp.e1 p (List.mem_append_right _ hp') r hr q1 q2
    ·rw[aR,r6c] at q2;cases q2
   ·rw[aL,r6c] at q1;cases q1
 ·-- wr
  intro p hp' y hy m
  rcases ready' hp' with hp' | rfl
  ·exact h.wr p hp' y hy m
  ·show y.2.2.2.1≤t.2.2.1
   apply Int.not_lt.mp
   intro hlt
   obtain⟨w,hw,hs⟩:=h.cov y hy t ht hlt
   refine hp.nb w (List.mem_append_left _ hw) (hE.apart w (List.mem_append_left _ hw) t ht) (.inr ⟨(hE.base.past w hw).2.1,by rw[hs.cs];exact hlt⟩) ?_
   rw[hs.ws];exact m
 ·-- rr
  intro p hp' q hq hne m
  rcases ready' hp' with hp' | rfl
  ·rcases ready' hq with hq | rfl
   ·exact h.rr p hp' q hq hne m
   ·exact hp.nb p (List.mem_append_right _ hp') (apart p hp') (.inl (hE.base.ready p hp').2.1) m
  ·rcases ready' hq with hq | rfl
   ·refine hp.nb q (List.mem_append_right _ hq) (apart q hq) (.inl (hE.base.ready q hq).2.1) ?_
    rw[q4w];exact m
   ·exact hne rfl
end
section
def K5:List ByteArray:= [⟨#[97]⟩,⟨#[98]⟩,⟨#[99]⟩,⟨#[100]⟩,⟨#[97,98]⟩]
structure DomT (t:u0d):Prop where
 ws:∀w∈t.2.2.2.2.2.1,w.1∈K5
 rs:∀r∈t.2.2.2.2.1,r.1∈K5∧r.2∈K5
structure DomB (b:u0h):Prop where
 vs:∀v∈b.1,v.1∈K5
 ready:∀t∈b.2.2.1,DomT t
structure DomE (e:u1w):Prop where
 base:DomB e.1
 open_:∀t∈e.2,DomT t
theorem DomB.tidy {b:u0h} (h:DomB b) (o:List u0d):DomB (u5q b o):=⟨fun v hv=>h.vs v ((u90 _ _).subset hv),h.ready⟩
theorem DomB.through {b:u0h} {t:u0d} (h:DomB b) (ht:DomT t):DomB (u1k b t):=by
 refine⟨fun v hv=> ?_,fun x hx=> ?_⟩
 ·rcases(t8q _ _ _).mp hv with hv | ⟨w,hw,rfl⟩
  ·exact h.vs v hv
  ·exact ht.ws w hw
 ·obtain⟨q,hq,rfl⟩:=List.mem_map.mp hx
  have:=h.ready q (List.mem_filter.mp hq).1
  exact⟨this.ws,this.rs⟩
theorem DomB.made {b:u0h} {t:u0d} {n:ByteArray} (h:DomB b) (ht:DomT t):DomB (u1r b t n):=by
 refine⟨h.vs,fun x hx=> ?_⟩
 rcases List.mem_append.mp hx with hx | hx
 ·rcases List.mem_append.mp hx with hx | hx
  ·exact h.ready x (List.mem_filter.mp hx).1
  ·rw[List.mem_singleton] at hx;subst hx;exact⟨ht.ws,ht.rs⟩
 ·exact h.ready x (List.mem_filter.mp hx).1
theorem DomB.given {b:u0h} (h:DomB b) (n:ByteArray):DomB (t84 b n):=⟨h.vs,fun x hx=>h.ready x (List.mem_filter.mp hx).1⟩
theorem DomE.rest {e:u1w} (h:DomE e) (id:Int):∀t∈t1u e id,DomT t:=fun t ht=>h.open_ t ((u9y e id).subset ht)
theorem DomE.leave {e:u1w} (h:DomE e) (id:Int):DomE (t5r e id):=⟨h.base.tidy _,h.rest id⟩
theorem DomE.begin {e:u1w} (h:DomE e):DomE (t9j e).1:=by
 unfold t9j
 split
 ·refine⟨⟨h.base.vs,h.base.ready⟩,fun t ht=> ?_⟩
  rcases List.mem_append.mp ht with ht | ht
  ·exact h.open_ t ht
  ·rw[List.mem_singleton] at ht;subst ht
   exact⟨fun w hw=>(by cases hw),fun r hr=>(by cases hr)⟩
 ·exact h
theorem DomE.commit {e:u1w} (h:DomE e) (id:Int):DomE (u27 e id).1:=by
 unfold u27
 split
 ·exact h
 ·split
  ·rename_i _ q
   obtain⟨k,hk,e1,e2,e3⟩:=u1o (s5e q).1
   rw[e2]
   exact⟨(h.base.through (h.open_ _ (List.getElem_mem hk))).tidy _,h.rest _⟩
  ·exact h.leave id
theorem DomE.prep {e:u1w} (h:DomE e) (id:Int) (n:ByteArray):DomE (t5k e id n).1:=by
 unfold t5k
 split
 ·exact h
 ·rename_i q
  split
  ·exact h
  ·split
   ·exact h
   ·split
    ·obtain⟨k,hk,e1,e2,e3⟩:=u1o q
     rw[e2]
     exact⟨(h.base.made (h.open_ _ (List.getElem_mem hk))).tidy _,h.rest _⟩
    ·exact h.leave id
theorem DomE.fin {e:u1w} (h:DomE e) (n:ByteArray) (y:Bool):DomE (s77 e n y).1:=by
 unfold s77
 split
 ·exact h
 ·rename_i q
  split
  ·exact h
  ·split
   ·obtain⟨k,hk,r1,r2⟩:=t2k q
    rw[r1,zTn,y8k (t:=u1u) hk]
    exact⟨(h.base.through (h.base.ready _ (List.getElem_mem hk))).tidy _,h.open_⟩
   ·exact⟨(h.base.given n).tidy _,h.open_⟩
theorem DomE.look {e:u1w} (h:DomE e) {id:Int} {r:s28} {right:Bool} (hr:r.1∈K5∧r.2∈K5):DomE (s1f e id r right).1:=by
 unfold s1f
 split
 ·exact h
 ·rename_i q
  split
  ·exact h
  ·split
   ·obtain⟨k,hk,e1,e2,e3⟩:=u1o q
    rw[e2]
    have ho:=h.open_ _ (List.getElem_mem hk)
    refine⟨h.base,fun t ht=> ?_⟩
    rcases q68 ht with ht | rfl
    ·exact h.open_ t ht
    ·unfold s1g
     split
     ·exact ho
     ·split
      ·refine⟨ho.ws,fun x hx=> ?_⟩
       rcases List.mem_append.mp hx with hx | hx
       ·exact ho.rs x hx
       ·rw[List.mem_singleton] at hx;subst hx;exact hr
      ·exact ho
   ·exact h
theorem DomE.put {e:u1w} (h:DomE e) {id:Int} {w:WrT} (hw:w.1∈K5):DomE (p2j e id w).1:=by
 unfold p2j
 split
 ·exact h
 ·rename_i q
  split
  ·exact h
  ·split
   ·obtain⟨k,hk,e1,e2,e3⟩:=u1o q
    rw[e2]
    have ho:=h.open_ _ (List.getElem_mem hk)
    refine⟨h.base,fun t ht=> ?_⟩
    rcases q68 ht with ht | rfl
    ·exact h.open_ t ht
    ·unfold s72
     split
     ·refine⟨fun x hx=> ?_,ho.rs⟩
      rcases q63 hx with hx | rfl
      ·exact ho.ws x hx
      ·exact hw
     ·exact ho
   ·exact h
def Num (k:Nat) (e:u1w):Prop:=e.1.2.2.2.1≤(k:Int)∧e.1.2.2.2.2≤(k:Int)+1
theorem Num.mono {k m:Nat} {e:u1w} (h:Num k e) (hk:k≤m):Num m e:=⟨by have:=h.1;omega,by have:=h.2;omega⟩
theorem r60 {e:u1w} (h:EngR e) {t:u0d} (ht:t∈e.2∨t∈e.1.2.2.1):u1l e.1.2.2.2.2 t.1=e.1.2.2.2.2:=by
 refine q9i ?_
 rcases ht with ht | ht
 ·exact h.bel t (List.mem_append_right _ ht)
 ·exact h.bel t (List.mem_append_left _ (List.mem_append_right _ ht))
theorem Num.begin {k:Nat} {e:u1w} (h:Num k e):Num (k+1) (t9j e).1:=by
 unfold t9j
 split
 ·exact⟨by show e.1.2.2.2.1≤_;have:=h.1;omega,by show e.1.2.2.2.2+1≤_;have:=h.2;omega⟩
 ·exact h.mono (by omega)
theorem Num.commit {k:Nat} {e:u1w} (hE:EngR e) (h:Num k e) (id:Int):Num (k+1) (u27 e id).1:=by
 unfold u27
 split
 ·exact h.mono (by omega)
 ·split
  ·rename_i _ q
   obtain⟨j,hj,e1,e2,e3⟩:=u1o (s5e q).1
   refine⟨by show e.1.2.2.2.1+1≤_;have:=h.1;omega,?_⟩
   show u1l e.1.2.2.2.2 (u16 e id).1≤_
   rw[e2,r60 hE (.inl (List.getElem_mem hj))]
   have:=h.2;omega
  ·exact h.mono (by omega)
theorem Num.prep {k:Nat} {e:u1w} (hE:EngR e) (h:Num k e) (id:Int) (n:ByteArray):Num (k+1) (t5k e id n).1:=by
 unfold t5k
 split
 ·exact h.mono (by omega)
 ·rename_i q
  split
  ·exact h.mono (by omega)
  ·split
   ·exact h.mono (by omega)
   ·split
    ·obtain⟨j,hj,e1,e2,e3⟩:=u1o q
     refine⟨by show e.1.2.2.2.1≤_;have:=h.1;omega,?_⟩
     show u1l e.1.2.2.2.2 (u16 e id).1≤_
     rw[e2,r60 hE (.inl (List.getElem_mem hj))]
     have:=h.2;omega
    ·exact h.mono (by omega)
theorem Num.fin {k:Nat} {e:u1w} (hE:EngR e) (h:Num k e) (n:ByteArray) (y:Bool):Num (k+1) (s77 e n y).1:=by
 unfold s77
 split
 ·exact h.mono (by omega)
 ·rename_i q
  split
  ·exact h.mono (by omega)
  ·split
   ·obtain⟨j,hj,r1,r2⟩:=t2k q
    rw[r1,zTn,y8k (t:=u1u) hj]
    refine⟨by show e.1.2.2.2.1+1≤_;have:=h.1;omega,?_⟩
    show u1l e.1.2.2.2.2 e.1.2.2.1[j].1≤_
    rw[r60 hE (.inr (List.getElem_mem hj))]
    have:=h.2;omega
   ·exact h.mono (by omega)
theorem Num.look {k:Nat} {e:u1w} (h:Num k e) {id:Int} {r:s28} {right:Bool} :Num k (s1f e id r right).1:=by
 unfold s1f
 split
 ·exact h
 ·split
  ·exact h
  ·split<;>exact h
theorem Num.put {k:Nat} {e:u1w} (h:Num k e) {id:Int} {w:WrT} :Num k (p2j e id w).1:=by
 unfold p2j
 split
 ·exact h
 ·split
  ·exact h
  ·split<;>exact h
structure Stt (k:Nat) (s:u13):Prop where
 sync:∃b,Sync s b∧b.2.2.2.2≤(k:Int)+1
 dom:DomE s.1
 num:Num k s.1
theorem Stt.eng {k:Nat} {s:u13} (h:Stt k s):EngR s.1:=by obtain⟨b,h1,_⟩:=h.sync;exact h1.eng
theorem r33 {b x:u0h} {r:s27} (h:u9g b r=some x):∃y,u2x b r=some y∧x=u5q y [] :=by
 unfold u9g at h
 split at h
 ·cases q:u2x b r with
  | none=>rw[q] at h;cases h
  | some y=>
   rw[q] at h
   simp only at h
   split at h
   ·exact⟨y,rfl,(Option.some.inj h).symm⟩
   ·cases h
 ·cases h
theorem p1g {n i m:Int} (h1:n≤m) (h2:i<m):u1l n i≤m:=by unfold u1l;split<;>omega
theorem Stt.commit {k:Nat} {s:u13} (h:Stt k s) (id:Int):Stt (k+1) (t64 s id).1:=by
 obtain⟨b,hs,hb⟩:=h.sync
 obtain⟨b',hs',hd⟩:=hs.commit id
 have hE:=hs.eng
 have h1:=h.num.commit hE id
 have hl:=h.dom.leave id
 refine⟨⟨b',hs',?_⟩,?_,?_⟩
 ·rcases hd with rfl | ⟨_,j0,hp⟩
  ·omega
  ·obtain⟨y,hy,rfl⟩:=r33 hp
   unfold u2x at hy
   rw[if_pos rfl] at hy
   split at hy
   ·cases hy
    show u1l b.2.2.2.2 (u16 s.1 id).1≤_
    obtain⟨j,hj,e1,e2,e3⟩:=u1o (s5e j0).1
    have:=hE.bel _ (List.mem_append_right _ (List.getElem_mem hj))
    rw[e2]
    have:=h.num.2
    exact p1g (by omega) (by omega)
   ·cases hy
 ·have h2:=h.dom.commit id
  unfold t64
  split
  ·split
   ·exact h2
   ·exact hl
  ·exact h2
 ·unfold t64
  split
  ·split
   ·exact h1
   ·exact h.num.mono (by omega)
  ·exact h1
theorem Stt.prep {k:Nat} {s:u13} (h:Stt k s) (id:Int) (n:ByteArray):Stt (k+1) (s96 s id n).1:=by
 obtain⟨b,hs,hb⟩:=h.sync
 obtain⟨b',hs',hd⟩:=hs.prep id n
 have hE:=hs.eng
 have h1:=h.num.prep hE id n
 have hl:=h.dom.leave id
 refine⟨⟨b',hs',?_⟩,?_,?_⟩
 ·rcases hd with rfl | ⟨_,j0,hp⟩
  ·omega
  ·obtain⟨y,hy,rfl⟩:=r33 hp
   unfold u2x at hy
   simp only at hy
   rw[if_neg (by decide),if_pos trivial] at hy
   split at hy
   ·cases hy
    show u1l b.2.2.2.2 (u16 s.1 id).1≤_
    obtain⟨j,hj,e1,e2,e3⟩:=u1o (p5z j0).1
    have:=hE.bel _ (List.mem_append_right _ (List.getElem_mem hj))
    rw[e2]
    have:=h.num.2
    exact p1g (by omega) (by omega)
   ·cases hy
 ·have h2:=h.dom.prep id n
  unfold s96
  split
  ·split
   ·exact h2
   ·exact hl
  ·exact h2
 ·unfold s96
  split
  ·split
   ·exact h1
   ·exact h.num.mono (by omega)
  ·exact h1
theorem Stt.fin {k:Nat} {s:u13} (h:Stt k s) (n:ByteArray) (y:Bool):Stt (k+1) (q14 s n y).1:=by
 obtain⟨b,hs,hb⟩:=h.sync
 obtain⟨b',hs',hd⟩:=hs.fin n y
 have hE:=hs.eng
 have h1:=h.num.fin hE n y
 refine⟨⟨b',hs',?_⟩,?_,?_⟩
 ·rcases hd with rfl | ⟨_,j0,hp⟩
  ·omega
  ·obtain⟨z,hz,rfl⟩:=r33 hp
   unfold u2x at hz
   simp only at hz
   rw[if_neg (by decide),if_neg (by decide),if_pos trivial] at hz
   split at hz
   ·cases hz
   ·rename_i q
    obtain⟨j,hj,r1,r2⟩:=t2k q
    split at hz
    ·cases hz
     show u1l b.2.2.2.2 (rdL u1u b.2.2.1 (u0q b n).toNat).1≤_
     rw[r1,zTn,y8k (t:=u1u) hj]
     have:b.2.2.1[j] ∈s.1.1.2.2.1:=by rw[←hs.like.ready];exact List.getElem_mem hj
     have:=hE.bel _ (List.mem_append_left _ (List.mem_append_right _ this))
     have:=h.num.2
     exact p1g (by omega) (by omega)
    ·cases hz
     show b.2.2.2.2≤_
     omega
 ·have h2:=h.dom.fin n y
  unfold q14
  split
  ·split
   ·exact h2
   ·exact h.dom
  ·exact h.dom
 ·unfold q14
  split
  ·split
   ·exact h1
   ·exact h.num.mono (by omega)
  ·exact h.num.mono (by omega)
theorem Stt.fix {k:Nat} {s:u13} (h:Stt k s):Stt (k+1) (p7a s).1:=by
 obtain⟨b,hs,hb⟩:=h.sync
 refine⟨⟨b,hs.fix,by omega⟩,?_,?_⟩
 ·unfold p7a;split<;>exact h.dom
 ·unfold p7a;split<;>exact h.num.mono (by omega)
theorem Stt.leave {k:Nat} {s:u13} (h:Stt k s) (id:Int):Stt (k+1) ((s4a s.1 id).1,s.2):=by
 obtain⟨b,hs,hb⟩:=h.sync
 unfold s4a
 split
 ·exact⟨⟨b,hs,by omega⟩,h.dom,h.num.mono (by omega)⟩
 ·exact⟨⟨b,hs.leave id,by omega⟩,h.dom.leave id,h.num.mono (by omega)⟩
theorem Stt.begin {k:Nat} {s:u13} (h:Stt k s):Stt (k+1) ((t9j s.1).1,s.2):=by
 obtain⟨b,hs,hb⟩:=h.sync
 refine⟨⟨b,hs.opens (p18 hs.eng) ?_ ?_ ?_,by omega⟩,h.dom.begin,h.num.begin⟩<;>(unfold t9j;split<;>rfl)
theorem Stt.look {k:Nat} {s:u13} (h:Stt k s) {id:Int} {r:s28} {right:Bool} (hr:right=true→u5m r=true) (hk:r.1∈K5∧r.2∈K5):Stt (k+1) ((s1f s.1 id r right).1,s.2):=by
 obtain⟨b,hs,hb⟩:=h.sync
 have e:(s1f s.1 id r right).1.1=s.1.1:=by
  unfold s1f
  split
  ·rfl
  ·split
   ·rfl
   ·split<;>rfl
 exact⟨⟨b,hs.opens (o04 hs.eng hr) (by rw[e]) (by rw[e]) (by rw[e]),by omega⟩,h.dom.look hk,h.num.look.mono (by omega)⟩
theorem Stt.put {k:Nat} {s:u13} (h:Stt k s) {id:Int} {w:WrT} (hk:w.1∈K5):Stt (k+1) ((p2j s.1 id w).1,s.2):=by
 obtain⟨b,hs,hb⟩:=h.sync
 have e:(p2j s.1 id w).1.1=s.1.1:=by
  unfold p2j
  split
  ·rfl
  ·split
   ·rfl
   ·split<;>rfl
 exact⟨⟨b,hs.opens (o3i hs.eng) (by rw[e]) (by rw[e]) (by rw[e]),by omega⟩,h.dom.put hk,h.num.put.mono (by omega)⟩
end
section
structure tinyT (t:u0d):Prop where
 rl:t.2.2.2.2.1.length≤100
 rs:∀r∈t.2.2.2.2.1,r.1.size≤100∧r.2.size≤100
 wl:t.2.2.2.2.2.1.length≤100
 ws:∀w∈t.2.2.2.2.2.1,w.1.size≤100∧w.2.1.size≤100
 nm:t.2.2.2.2.2.2.2.size≤100
structure tinyB (b:u0h):Prop where
 vl:b.1.length≤10000
 vs:∀v∈b.1,v.1.size≤100∧v.2.1.size≤100
 pl:b.2.1.length≤1000
 ps:∀t∈b.2.1,tinyT t
 rl:b.2.2.1.length≤1000
 rs:∀t∈b.2.2.1,tinyT t
theorem s4f {α:Type} {f:α→Nat} {k:Nat} :∀ {l:List α},(∀x∈l,f x≤k)→(l.map f).sum≤l.length*k
 | [],_=>by simp
 | x::l,h=>by
  rw[List.map_cons,List.sum_cons,List.length_cons,Nat.succ_mul]
  have h1:=h x (by simp)
  have h2:=s4f (l:=l) (fun y hy=>h y (by simp[hy]))
  omega
theorem tinyT.wt {t:u0d} (h:tinyT t):u1u.wt t≤50000:=by
 have e1:(Ty.sl t9i).wt t.2.2.2.2.1=t.2.2.2.2.1.length+(t.2.2.2.2.1.map t9i.wt).sum:=rfl
 have e2:(Ty.sl u56).wt t.2.2.2.2.2.1=t.2.2.2.2.2.1.length+(t.2.2.2.2.2.1.map u56.wt).sum:=rfl
 have s1:(t.2.2.2.2.1.map t9i.wt).sum≤t.2.2.2.2.1.length*200:=s4f fun r hr=>by
  have:=h.rs r hr
  have e:t9i.wt r=r.1.size+r.2.size:=rfl
  omega
 have s2:(t.2.2.2.2.2.1.map u56.wt).sum≤t.2.2.2.2.2.1.length*200:=s4f fun w hw=>by
  have:=h.ws w hw
  have e:u56.wt w=w.1.size+(w.2.1.size+0):=rfl
  omega
 have:=h.rl;have:=h.wl;have:=h.nm
 rw[p8x,e1,e2]
 omega
theorem tinyT.few {t:u0d} (h:tinyT t):s76 t:=⟨by have:=h.rl;omega,by have:=h.wl;omega⟩
theorem TxnR.tiny {t:u0d} (h:TxnR t):tinyT t:=by
 obtain⟨z1,z2,z3,z4,z5⟩:=h.small
 exact⟨by have:=h.rlen;omega,fun r hr=>by have:=z1 r hr;omega,by omega,fun w hw=>by have:=z2 w hw;omega,by omega⟩
theorem tinyT.like {t u:u0d} (h:tinyT t) (e1:u.2.2.2.2.1=t.2.2.2.2.1) (e2:u.2.2.2.2.2.1=t.2.2.2.2.2.1) (e3:u.2.2.2.2.2.2.2.size≤100):tinyT u:=
 ⟨by rw[e1];exact h.rl,by rw[e1];exact h.rs,by rw[e2];exact h.wl,by rw[e2];exact h.ws,e3⟩
theorem q69 {l:List u0d} (hl:l.length≤1000) (h:∀t∈l,tinyT t):(Ty.sl u1u).wt l≤60000000:=by
 have e:(Ty.sl u1u).wt l=l.length+(l.map u1u.wt).sum:=rfl
 have s:(l.map u1u.wt).sum≤l.length*50000:=s4f fun t ht=>(h t ht).wt
 rw[e];omega
theorem tinyB.wt {b:u0h} (h:tinyB b):o0t.wt b≤200000000:=by
 have e:(Ty.sl u0f).wt b.1=b.1.length+(b.1.map u0f.wt).sum:=rfl
 have s:(b.1.map u0f.wt).sum≤b.1.length*200:=s4f fun v hv=>by
  have:=h.vs v hv
  have e:u0f.wt v=v.1.size+(v.2.1.size+(0+0)):=rfl
  omega
 have h1:=q69 h.pl h.ps
 have h2:=q69 h.rl h.rs
 have:=h.vl
 rw[q0f,e];omega
theorem r50 {l:List u0d} (hl:l.length≤1000) (h:∀t∈l,tinyT t):r6u l:=⟨by omega,fun t ht=>(h t ht).few⟩
theorem tinyB.few {b:u0h} (h:tinyB b):fewB b:=⟨by have:=h.vl;omega,r50 h.pl h.ps,r50 h.rl h.rs⟩
theorem BaseR.tiny {b:u0h} (h:BaseR b):tinyB b:=by
 obtain⟨w1,w2,w3⟩:=p6s.mp h.vs
 exact⟨by omega,fun v hv=>by have:=s5u (w1 v hv);omega,by have:=h.plen;omega,fun t ht=>(h.past t ht).1.tiny,by have:=h.rlen;omega,fun t ht=>(h.ready t ht).1.tiny⟩
theorem p1w {b:u0h} (h:tinyB b) (o:List u0d):tinyB (u5q b o):=
 ⟨Nat.le_trans (p1y _ _) h.vl,fun v hv=>h.vs v ((u90 _ _).subset hv),Nat.le_trans (t00 _ _) h.pl,fun t ht=>h.ps t (List.mem_filter.mp ht).1,h.rl,h.rs⟩
theorem s98 {b:u0h} {t:u0d} (h:BaseR b) (ht:tinyT t):tinyB (u1k b t):=by
 obtain⟨w1,w2,w3⟩:=p6s.mp h.vs
 have hb:=h.tiny
 refine⟨?_,fun v hv=> ?_,?_,fun x hx=> ?_,?_,fun x hx=> ?_⟩
 ·show(t5y b.1 t.2.2.2.2.2.1 (b.2.2.2.1+1)).length≤10000
  rw[q1u];have:=ht.wl
  have e:(t.2.2.2.2.2.1:List u56.den).length=t.2.2.2.2.2.1.length:=rfl
  omega
 ·rcases(t8q _ _ _).mp hv with q | ⟨w,hw,rfl⟩
  ·exact hb.vs v q
  ·exact ht.ws w hw
 ·show(b.2.1++ [t0s b t]).length≤1000
  have:=h.plen
  rw[List.length_append,List.length_singleton];omega
 ·rcases List.mem_append.mp hx with q | q
  ·exact hb.ps x q
  ·rw[List.mem_singleton.mp q]
   exact ht.like rfl rfl (Nat.zero_le _)
 ·show((b.2.2.1.filter fun x=> !decide (x.1=t.1)).map (r3y (t0s b t))).length≤1000
  rw[List.length_map]
  exact Nat.le_trans (t00 _ _) hb.rl
 ·obtain⟨y,hy,rfl⟩:=List.mem_map.mp hx
  have:=hb.rs y (List.mem_filter.mp hy).1
  exact this.like rfl rfl this.nm
theorem r64 {b:u0h} {t:u0d} {n:ByteArray} (h:BaseR b) (ht:tinyT t) (hn:n.size≤100):tinyB (u1r b t n):=by
 have hb:=h.tiny
 refine⟨hb.vl,hb.vs,hb.pl,hb.ps,?_,fun x hx=> ?_⟩
 ·show((b.2.2.1.filter fun x=>y3c x.2.2.2.2.2.2.2 n)++ [u20 b t n] ++(b.2.2.1.filter fun x=> !y3c x.2.2.2.2.2.2.2 n)).length≤1000
  have f1:=t00 (fun x:u0d=>y3c x.2.2.2.2.2.2.2 n) b.2.2.1
  have f2:=t00 (fun x:u0d=> !y3c x.2.2.2.2.2.2.2 n) b.2.2.1
  have:=h.rlen
  rw[List.length_append,List.length_append,List.length_singleton];omega
 ·rcases List.mem_append.mp hx with q | q
  ·rcases List.mem_append.mp q with q | q
   ·exact hb.rs x (List.mem_filter.mp q).1
   ·rw[List.mem_singleton.mp q]
    exact ht.like rfl rfl hn
  ·exact hb.rs x (List.mem_filter.mp q).1
theorem r6v {b:u0h} {n:ByteArray} (hb:tinyB b):tinyB (t84 b n):=
 ⟨hb.vl,hb.vs,hb.pl,hb.ps,Nat.le_trans (t00 _ _) hb.rl,fun x hx=>hb.rs x (List.mem_filter.mp hx).1⟩
structure tinyR (r:s27):Prop where
 t:tinyT r.2.1
 n:r.2.2.1.size≤100
 b:tinyB r.2.2.2.2
theorem tinyR.wt {r:s27} (h:tinyR r):o27.wt r≤549755813888:=by
 have:=h.t.wt;have:=h.n;have:=h.b.wt
 rw[q41];omega
theorem t7n:tinyT u66:=⟨by decide,fun r hr=>(by cases hr),by decide,fun r hr=>(by cases hr),by decide⟩
theorem t06:tinyB u3o:=⟨by decide,fun r hr=>(by cases hr),by decide,fun r hr=>(by cases hr),by decide,fun r hr=>(by cases hr)⟩
theorem p7m:tinyR noR:=⟨t7n,by decide,t06⟩
theorem RecR.tiny {r:s27} (h:RecR r):tinyR r:=by
 cases h with
 | thr t h hs=>exact⟨h.tiny,Nat.zero_le 100,t06⟩
 | rdy t h hs=>exact⟨h.tiny,Nat.zero_le 100,t06⟩
 | fin n y h=>exact⟨t7n,by have:=u3e h;show n.size≤100;omega,t06⟩
 | bas b h=>exact⟨t7n,Nat.zero_le 100,h.tiny⟩
def r62 (b:u0h) (r:s27):u0h×Bool:=match u9g b r with
 | some x=>(x,true)
 | none=>(b,false)
theorem p1f {n:Int} (h:0≤n∧n≤9999):p6r n:=⟨by omega,by omega⟩
theorem r31 {n:Int} (h:1≤n∧n≤9999):p6r n:=⟨by omega,by omega⟩
end
section
theorem p9b:∃t,s20 ()=some t∧t.size=64∧s5d t 0=0:=by
 have hset:∀i,(List.replicate 64 (0:Int)).set i 0=List.replicate 64 0:=fun i=>by
  apply List.ext_getElem (by simp)
  intro j h1 h2
  rw[List.getElem_set,List.getElem_replicate]
  split
  ·rfl
  ·rfl
 have key:∀(r i:Nat),i+r=64→t0m ((64:Int),0,List.replicate 64 0,(i:Int))=some (.inl (List.replicate 64 0)):=by
  intro r
  induction r with
  | zero=>
   intro i hi
   have:i=64:=by omega
   subst this
   rw[s7w]
   rfl
  | succ r ih=>
   intro i hi
   have hlt:decide ((i:Int)<64)=true:=by simp;omega
   have hg:y4q (i:Int) (List.replicate 64 (0:Int)).length=true:=y7t (by simp;omega)
   rw[s7w]
   simp only[t81,hlt,cond_true,hg,hset]
   rw[y7l (by omega)]
   exact ih (i+1) (by omega)
 have e1:t0m ((64:Int),0,List.replicate 64 0,0)=_:=key 64 0 rfl
 refine⟨y7g (List.replicate 64 0),?_,by rw[u60];simp,by unfold s5d;rw[s01];rfl⟩
 rw[q3j];unfold r2g
 rw[q3f];unfold r2b
 have hc:(decide ((0:Int)≤64)&&decide ((64:Int)≤1099511627776))=true:=rfl
 have hr:List.replicate ((64:Int)).toNat (Ty.int .u8).zero=List.replicate 64 (0:Int):=rfl
 simp only[hc,cond_true,hr,e1,zOb]
theorem p0q:∃d,s5q ()=some d∧u45 d=true∧u0k d= [] :=by
 obtain⟨z,hz,hz1,hz2⟩:=p9b
 have key:∀(r i:Nat),i+r=97→t0e ((97:Int),([], []),(List.replicate i z, []),(i:Int))=some (.inl (([], []),(List.replicate 97 z, []))):=by
  intro r
  induction r with
  | zero=>
   intro i hi
   have:i=97:=by omega
   subst this
   rw[s7j]
   rfl
  | succ r ih=>
   intro i hi
   have hlt:decide ((i:Int)<97)=true:=by simp;omega
   have hc:Nat.ble ((List.replicate i z).length+([z] :List ByteArray).length) z7w=true:=u1q (by simp;omega)
   rw[s7j]
   simp only[t80,hlt,cond_true,hz,zOb,hc]
   rw[y7l (by omega)]
   have e:List.replicate i z++ [z] =List.replicate (i+1) z:=by rw[List.replicate_succ']
   rw[e]
   exact ih (i+1) (by omega)
 have e1:t0e ((97:Int),([], []),([], []),0)=_:=key 97 0 rfl
 have hs:u8y ()=some 97:=by rw[s3q];rfl
 refine⟨(List.replicate 97 z, []),?_,?_⟩
 ·rw[q6g];unfold r4s
  simp only[hs,zOb]
  rw[q2y];unfold r1m
  have hi:r21 97 1 100=true:=rfl
  simp only[t76,hi,zOb,Bool.not_true,cond_false,e1]
 ·have hk:u1z (List.replicate 97 z,([] :List (Int×ByteArray)))=true:=q4q.mpr ⟨by simp,by simp,fun s hs=>by rw[List.eq_of_mem_replicate hs];exact hz1,fun p hp=>by cases hp⟩
  have hl:(List.replicate 97 z,([] :List (Int×ByteArray))).1.length=97:=by simp
  have hf:=s5c hk hl
  have hc:∀a:Int,a=0∨a=1→u1c (List.replicate 97 z, []) a=0:=fun a ha=>by
   obtain⟨f1,_⟩:=u8q ha
   unfold u1c u5x
   rw[p7e.mpr ha,if_pos rfl]
   have hk2:u0e a=(((u0e a).toNat:Nat):Int):=by rcases ha with rfl | rfl<;>omega
   rw[hk2,p1o rfl (by rw[hl];rcases ha with rfl | rfl<;>omega)]
   have hlt:(u0e a).toNat<(List.replicate 97 z).length:=by simp;rcases ha with rfl | rfl<;>omega
   have e:rdL Ty.str (List.replicate 97 z) (u0e a).toNat=(List.replicate 97 z)[(u0e a).toNat] :=y8k (t:=Ty.str) hlt
   simp only[e,List.getElem_replicate]
   rw[r6e,hz2]
   rfl
  refine⟨r5t hk hl rfl ?_ ?_,?_⟩
  ·rw[u9x hf (.inl rfl),hc 0 (.inl rfl)];rfl
  ·rw[u9x hf (.inr rfl),hc 1 (.inr rfl)];rfl
  ·unfold u0k
   rw[u9x hf (t5i _),hc _ (t5i _)];rfl
end
section
theorem r0p {d:u0j} (h:u45 d=true):o5r.wt d≤10000000:=Nat.le_trans (t6j (u6w h).1) (by omega)
end
section
theorem q5i (d:u0j) (hd:o5r.wt d≤1073741824):s0r d=some (u0k d):=by
 rw[q0y];unfold s8t
 simp only[s4y d (show o5r.wt d≤u0p by unfold u0p;omega),s44 d _ hd,zOb];rfl
end
end
end Go.Proofs.YtbkicjpdlchbgaaGreat.Ab
