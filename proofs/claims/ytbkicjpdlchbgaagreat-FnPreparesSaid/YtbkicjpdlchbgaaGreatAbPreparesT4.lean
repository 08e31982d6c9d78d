import Derived.Test.YtbkicjpdlchbgaaGreatAbPreparesT3
import Derived.Test.YtbkicjpdlchbgaaGreatAbK2
import Derived.Test.YtbkicjpdlchbgaaGreatAbF4
import Derived.Test.YtbkicjpdlchbgaaGreatAbS2
namespace Go.Proofs.YtbkicjpdlchbgaaGreat.Ab
open Go
set_option linter.unusedVariables false
set_option linter.unusedSimpArgs false
set_option linter.unnecessarySimpa false
section
section
theorem p43 (b:u0h) (r:s27) (hB:BaseR b) (hR:RecR r):s23 (b,r)=some (match u2x b r with
 | some x=>(x,true)
 | none=>(b,false)):=by
 have hb:=hB.tiny
 have thr:∀t:u0d,TxnR t→u6m (b,t)=some (u1k b t):=fun t ht=>by
  rw[r7i b t hb.few ht.tiny.few,q17 (p1f hB.cs) (r31 ht.id)]
 rw[q3r];unfold r2o u2x
 cases hR with
 | thr t h hs=>
  simp only[decide_true,cond_true,if_true]
  rw[t97 (p1f hB.cs),thr t h]
  by_cases q:t.2.2.2.1=b.2.2.2.1+1
  ·rw[decide_eq_true q,if_pos q];rfl
  ·rw[decide_eq_false q,if_neg q];rfl
 | rdy t h hs=>
  simp only[show decide ((2:Int)=1)=false from rfl,show((2:Int)=1)=False by simp,decide_true,decide_false,cond_true,cond_false,if_true,if_false]
  rw[t8k b _ (by have:=hB.rlen;omega)]
  simp only[zOb]
  rw[r05 b t _ hb.few h.tiny.few (r31 h.id)]
  simp only[zOb]
  by_cases q:b.2.2.1.length<3
  ·rw[decide_eq_false (show ¬(b.2.2.1.length:Int)≥3 by omega)]
   simp only[cond_false,zOb]
   by_cases q2:u0q b t.2.2.2.2.2.2.2<0
   ·rw[decide_eq_false (show ¬u0q b t.2.2.2.2.2.2.2≥0 by omega),if_pos ⟨q,q2⟩];rfl
   ·rw[decide_eq_true (show u0q b t.2.2.2.2.2.2.2≥0 by omega),if_neg (fun z=>q2 z.2)];rfl
  ·rw[decide_eq_true (show(b.2.2.1.length:Int)≥3 by omega),if_neg (fun z=>q z.1)];rfl
 | fin n y h=>
  simp only[show decide ((3:Int)=1)=false from rfl,show decide ((3:Int)=2)=false from rfl,show((3:Int)=1)=False by simp,show((3:Int)=2)=False by simp,decide_true,decide_false,cond_true,cond_false,if_true,if_false]
  rw[t8k b _ (by have:=hB.rlen;omega)]
  simp only[zOb]
  by_cases q:u0q b n<0
  ·rw[decide_eq_true q,if_pos q];rfl
  ·rw[decide_eq_false q,if_neg q]
   simp only[cond_false]
   rw[r7e b n hb.few]
   simp only[zOb]
   have hk:(u0q b n).toNat<b.2.2.1.length:=by
    unfold u0q at q ⊢
    split
    ·rename_i z;rw[zTn];exact z
    ·rename_i z;rw[if_neg z] at q;omega
   obtain⟨k,hkk⟩:∃k:Nat,u0q b n=k:=⟨(u0q b n).toNat,by omega⟩
   have hg:y4q (u0q b n) b.2.2.1.length=true:=by rw[hkk];exact y7t (by rw[hkk] at hk;simpa using hk)
   have hT:TxnR (rdL u1u b.2.2.1 (u0q b n).toNat):=by
    rw[y8k hk];exact(hB.ready _ (List.getElem_mem hk)).1
   rw[hg,thr _ hT]
   cases y
   ·rfl
   ·rfl
 | bas c h=>
  simp only[show decide ((4:Int)=1)=false from rfl,show decide ((4:Int)=2)=false from rfl,show decide ((4:Int)=3)=false from rfl,show((4:Int)=1)=False by simp,show((4:Int)=2)=False by simp,show((4:Int)=3)=False by simp,decide_false,cond_false,if_false]
  rw[t7e c h.tiny.few];rfl
theorem p7y {b:u0h} {r:s27} {x:u0h} (hB:BaseR b) (hR:RecR r) (h:u2x b r=some x):tinyB x:=by
 unfold u2x at h
 cases hR with
 | thr t ht hs=>
  simp only[if_true] at h
  split at h
  ·rw[←Option.some.inj h];exact s98 hB ht.tiny
  ·cases h
 | rdy t ht hs=>
  simp only[show((2:Int)=1)=False by simp,if_true,if_false] at h
  split at h
  ·rw[←Option.some.inj h];exact r64 hB ht.tiny (by have:=u3e (ht.name hs);omega)
  ·cases h
 | fin n y hn=>
  simp only[show((3:Int)=1)=False by simp,show((3:Int)=2)=False by simp,if_true,if_false] at h
  split at h
  ·cases h
  ·rename_i q
   have hk:(u0q b n).toNat<b.2.2.1.length:=by
    unfold u0q at q ⊢
    split
    ·rename_i z;rw[zTn];exact z
    ·rename_i z;rw[if_neg z] at q;omega
   split at h
   ·rw[←Option.some.inj h]
    refine s98 hB ?_
    rw[y8k hk];exact(hB.ready _ (List.getElem_mem hk)).1.tiny
   ·rw[←Option.some.inj h];exact r6v hB.tiny
 | bas c hc=>
  simp only[show((4:Int)=1)=False by simp,show((4:Int)=2)=False by simp,show((4:Int)=3)=False by simp,if_false] at h
  rw[←Option.some.inj h];exact hc.tiny
theorem p0t (b:u0h) (r:s27) (hb:tinyB b) (hr:tinyR r):s5r (b,r)=some (r62 b r):=by
 have hq:u0p=1099511627776:=rfl
 rw[q6j];unfold r4v
 simp only
 rw[t7d b (by have:=hb.wt;omega),r39 r hr.wt,t7e b hb.few]
 simp only[zOb]
 cases h1:t7a b
 ·unfold r62 u9g
  rw[if_neg (by simp[h1])];rfl
 ·cases h2:t3o r
  ·unfold r62 u9g
   rw[if_neg (by simp[h2])];rfl
  ·have hB:=q4m.mp h1
   have hR:=p8w.mp h2
   simp only[Bool.not_true,cond_false,zOb]
   rw[p43 b r hB hR]
   simp only[zOb]
   unfold r62 u9g
   rw[if_pos ⟨h1,h2⟩]
   cases hx:u2x b r with
   | none=>rfl
   | some x=>
    have h3:=p7y hB hR hx
    simp only[Bool.not_true,cond_false]
    rw[s46 _ _ h3.few (by simp)]
    simp only[zOb]
    rw[t7d _ (by have:=(p1w h3 []).wt;omega)]
    simp only[zOb]
    cases t7a (u5q x [])<;>rfl
theorem p2i {b x:u0h} {r:s27} (h:u9g b r=some x):BaseR x∧RecR r:=by
 unfold u9g at h
 split at h
 ·rename_i q
  split at h
  ·cases h
  ·split at h
   ·rename_i z
    rw[←Option.some.inj h]
    exact⟨q4m.mp z,p8w.mp q.2⟩
   ·cases h
 ·cases h
theorem p33 (t:ByteArray):tinyR (s4d t).1:=by
 unfold s4d
 cases h:u57 t with
 | none=>exact p7m
 | some r=>exact(r5x h).1.tiny
theorem p7i (b:u0h) (t:ByteArray) (l:List ByteArray):s0m b (t::l)=bif !(s4d t).2 || !(r62 b (s4d t).1).2 then none else s0m (r62 b (s4d t).1).1 l:=by
 unfold s4d r62
 simp only[s0m]
 cases u57 t with
 | none=>rfl
 | some r=>
  simp only
  cases u9g b r with
  | none=>rfl
  | some x=>rfl
def p5p (l:List ByteArray):u0h×Bool:=match t3w l with
 | some b=>(b,true)
 | none=>(u3o,false)
theorem q70 (d:u0j) (hd:o5r.wt d≤1073741824) (ht:∀t∈u0k d,t.size≤u0p) (hl:(u0k d).length≤1000000):t8a d=some (p5p (u0k d)):=by
 have L:=r3t u58 (u0k d).length (fun(b:u0h) i=>(u3o,b,u0k d,i)) (fun i b=>match s0m b ((u0k d).drop i) with
  | some x=> .inl (u3o,x)
  | none=> .inr (u3o,false)) (fun _ b=>BaseR b)
  (fun b hb=>by
   rw[s7n];simp only[t4r,u0b,Nat.lt_irrefl,decide_false,cond_false]
   rw[List.drop_length];rfl)
  (fun i b hi hb=>by
   have hm:=List.getElem_mem hi
   have hd:(u0k d).drop i=(u0k d)[i] ::(u0k d).drop (i+1):=List.drop_eq_getElem_cons hi
   have hw:u58 (u3o,b,u0k d,(i:Int))=bif !(s4d (u0k d)[i]).2 || !(r62 b (s4d (u0k d)[i]).1).2 then some (.inr (u3o,false)) else u58 (u3o,(r62 b (s4d (u0k d)[i]).1).1,u0k d,((i+1:Nat):Int)):=by
    rw[s7n];simp only[t4r,u0b,hi,decide_true,cond_true,y7t hi,zTn,y8k (t:=Ty.str) hi,y7l (show i<4611686018427387904 by omega)]
    rw[r91 _ (ht _ hm)]
    simp only[zOb]
    rw[p0t b _ hb.tiny (p33 _)]
    simp only[zOb]
    cases (s4d (u0k d)[i]).2<;>cases (r62 b (s4d (u0k d)[i]).1).2<;>rfl
   rw[hw,hd,p7i]
   cases hc:(!(s4d (u0k d)[i]).2 || !(r62 b (s4d (u0k d)[i]).1).2)
   ·refine .inr ⟨(r62 b (s4d (u0k d)[i]).1).1,?_,?_,rfl⟩
    ·unfold r62 at hc ⊢
     cases hp:u9g b (s4d (u0k d)[i]).1 with
     | none=>rw[hp] at hc;simp at hc
     | some x=>exact(p2i hp).1
    ·simp only[cond_false]
   ·exact .inl rfl) 0 p0c (Nat.zero_le _) p2f
 rw[q22];unfold r1q
 rw[r2y];unfold r1j
 rw[q5i d hd]
 simp only[zOb]
 have L' :u58 ((([], [], [],0,0):u0h),(([], [], [],0,1):u0h),u0k d,0)=_:=L
 rw[L',List.drop_zero]
 unfold p5p t3w
 cases s0m p0c (u0k d)<;>rfl
end
section
def p63:s28:=((⟨#[97]⟩:ByteArray),(⟨#[122,122,122]⟩:ByteArray))
end
section
theorem q9w (t:ByteArray) (a:Int):(u0o t a).1.size≤20000:=by
 unfold u0o
 split
 ·rename_i hc
  have:=t5v hc.1
  simp only[ByteArray.size_extract];omega
 ·exact Nat.zero_le _
theorem r71 (t:ByteArray):∀(m:Nat) (a:Int) (acc:List ByteArray),(∀s∈acc,s.size≤20000)→ ∀s∈(u7p t m a acc).1,s.size≤20000
 | 0,a,acc,h=>h
 | m+1,a,acc,h=>by
  unfold u7p
  split
  ·refine r71 t m _ _ fun s hs=> ?_
   rcases List.mem_append.mp hs with q | q
   ·exact h s q
   ·rw[List.mem_singleton.mp q];exact q9w _ _
  ·intro s hs;cases hs
theorem q37 (d:u0j) (a:Int):∀s∈(u0c d a).1,s.size≤20000:=by
 unfold u0c
 split
 ·exact r71 _ _ _ _ fun s hs=>by cases hs
 ·intro s hs;cases hs
theorem q34 (d:u0j):∀s∈u0k d,s.size≤20000:=q37 d _
theorem q9f (d:u0j):(u0k d).length<256:=q9u d _
theorem p3a (d:u0j) (hd:o5r.wt d≤1073741824):t8a d=some (p5p (u0k d)):=
 q70 d hd (fun t ht=>by have:=q34 d t ht;unfold u0p;omega) (by have:=q9f d;omega)
theorem p2h:∀ {l:List ByteArray} {b x:u0h},BaseR b→s0m b l=some x→BaseR x
 | [],b,x,hb,h=>by rw[←Option.some.inj h];exact hb
 | t::l,b,x,hb,h=>by
  simp only[s0m] at h
  split at h
  ·cases h
  ·split at h
   ·cases h
   ·rename_i r _ y hy
    exact p2h (p2i hy).1 h
theorem q9n {l:List ByteArray} {x:u0h} (h:t3w l=some x):BaseR x:=p2h p2f h
theorem p5q (l:List ByteArray):tinyB (p5p l).1:=by
 unfold p5p
 cases h:t3w l with
 | none=>exact t06
 | some b=>exact(q9n h).tiny
end
section
theorem p60 {y:ByteArray} (h:y∈K5):u78 y=true:=by
 simp only[K5,List.mem_cons,List.not_mem_nil,or_false] at h
 rcases h with rfl | rfl | rfl | rfl | rfl<;>decide
theorem q5h {s:Src} (h:s.ok):Dr (u6j s) (fun y=>y∈K5):=by
 rw[q6s];unfold r44
 obtain⟨y,s1,e1,k1,r1⟩:=q5k h (l:=K5) (by decide)
 have e1:u12 (s, [(⟨#[97]⟩:ByteArray),(⟨#[98]⟩:ByteArray),(⟨#[99]⟩:ByteArray),(⟨#[100]⟩:ByteArray),(⟨#[97,98]⟩:ByteArray)])=_:=e1
 simp only[e1,zOb]
 exact⟨_,_,rfl,k1,r1⟩
def o5c (r:s28):Prop:=r.1∈K5∧r.2∈K5∧u5m r=true
theorem p1i {a b:ByteArray} (ha:a∈K5) (hb:b∈K5) (h:y3c b a=false):o5c (a,b):=by
 refine⟨ha,hb,?_⟩
 unfold u5m
 simp only[p60 ha,p60 hb,Bool.true_and,Bool.or_eq_true]
 rcases r65 a b with q | rfl | q
 ·exact .inl q
 ·exact .inr (by simp[z7o])
 ·rw[q] at h;cases h
theorem p44 {s:Src} (h:s.ok):Dr (u8z s) o5c:=by
 rw[q1c];unfold s88
 obtain⟨y1,s1,e1,k1,r1⟩:=q5h h
 obtain⟨y2,s2,e2,k2,r2⟩:=q5j k1 (n:=2) (by omega)
 obtain⟨y3,s3,e3,k3,r3⟩:=q5h k2
 simp only[e1,e2,e3,zOb]
 cases y2 with
 | true=>exact⟨_,_,rfl,k2,p1i r1 r1 (u9z _)⟩
 | false=>
  simp only[cond_false]
  cases hc:y3c y3 y1 with
  | true=>exact⟨_,_,rfl,k3,p1i r3 r1 (s5t hc)⟩
  | false=>exact⟨_,_,rfl,k3,p1i r1 r3 hc⟩
def o5z (w:WrT):Prop:=w.1∈K5∧u52 w=true
theorem p47 {s:Src} (h:s.ok):Dr (u80 s) o5z:=by
 rw[q1d];unfold s89
 obtain⟨y1,s1,e1,k1,r1⟩:=q5h h
 obtain⟨y2,s2,e2,k2,r2⟩:=q5k k1 (l:= [(⟨#[111,110,101]⟩:ByteArray),(⟨#[116,119,111]⟩:ByteArray),(⟨#[]⟩:ByteArray),(⟨#[120,0]⟩:ByteArray)]) (by decide)
 obtain⟨y3,s3,e3,k3,r3⟩:=q5j k2 (n:=5) (by omega)
 simp only[e1,e2,e3,zOb]
 have hz:y2.size≤12:=by
  simp only[List.mem_cons,List.not_mem_nil,or_false] at r2
  rcases r2 with rfl | rfl | rfl | rfl<;>decide
 have hk:=p60 r1
 cases y3 with
 | true=>exact⟨_,_,rfl,k3,r1,by simp[u52,hk,emp,ByteArray.size]⟩
 | false=>exact⟨_,_,rfl,k3,r1,by simp[u52,hk,hz]⟩
end
section
theorem u8i (b:u0h) (o:List u0d) (hb:fewB b) (ho:r6u o):u0l (b,o)=some (b,o):=by
 have h1:=t7e b hb
 have h2:=r3s o ho
 rw[q3t];unfold r2q
 simp only[h1,h2,zOb]
theorem p23 (b:u0h) (o:List u0d) (hb:fewB b) (ho:r6u o):u3k (b,o)=some (b,o):=by
 have h1:=s26 b hb
 have h2:=r3r o ho
 rw[r6j];unfold s3c
 simp only[h1,h2,zOb]
end
section
theorem EngR.ot {e:u1w} (h:EngR e) {t:u0d} (ht:t∈e.2):tinyT t:=(h.open_ t ht).1.tiny
theorem EngR.fewO {e:u1w} (h:EngR e):r6u e.2:=r50 (by have:=h.olen;omega) fun t ht=>h.ot ht
theorem EngR.tinyO {e:u1w} (h:EngR e):tinyB e.1:=h.base.tiny
theorem EngR.fewB {e:u1w} (h:EngR e):Ab.fewB e.1:=h.base.tiny.few
theorem EngR.oth {e:u1w} (h:EngR e):∀t∈u73 e,tinyT t:=fun t ht=>by
 rcases List.mem_append.mp ht with q | q
 ·exact(h.base.past t q).1.tiny
 ·exact(h.base.ready t q).1.tiny
theorem EngR.fewOth {e:u1w} (h:EngR e):r6u (u73 e):=r50 (by have:=h.base.plen;have:=h.base.rlen;simp only[u73,List.length_append];omega) h.oth
theorem q66 (e:u1w) (id:Int):(t1u e id).length≤e.2.length:=List.length_filter_le _ _
theorem t5g (e:u1w) (id:Int) (h:e.2.length≤4194304):u6i (e,id)=some (u5o e.2 id):=by
 have L:=r3t t14 (u0m (fun x:u0d=>decide (x.1=id)) e.2) (fun(_:Unit) i=>(id,e,i)) (fun _ _=>if u0m (fun x:u0d=>decide (x.1=id)) e.2<e.2.length then .inr ((u0m (fun x:u0d=>decide (x.1=id)) e.2:Nat):Int) else .inl ()) (fun _ _=>True)
  (fun a _=>by
   have hle:=t3f (fun x:u0d=>decide (x.1=id)) e.2
   rw[r0g]
   by_cases hk:u0m (fun x:u0d=>decide (x.1=id)) e.2<e.2.length
   ·have hy:=u7x hk
    simp only[t1x,u0b,hk,decide_true,cond_true,y7t hk,zTn,y8k (t:=u1u) hk,hy,if_true]
   ·simp only[t1x,u0b,hk,decide_false,cond_false,if_false])
  (fun i a hi _=> .inr ⟨(),trivial,rfl,by
   have hle:=t3f (fun x:u0d=>decide (x.1=id)) e.2
   have hil:i<e.2.length:=by omega
   have hn:=u7c hil hi
   rw[r0g]
   simp only[t1x,u0b,hil,decide_true,cond_true,y7t hil,zTn,y8k (t:=u1u) hil,hn,cond_false]
   rw[y7l (by omega)]⟩) 0 () (Nat.zero_le _) trivial
 have L:t14 (id,e,0)=_:=L
 rw[q6h];unfold r4t u5o
 simp only[L,zOb]
 by_cases hk:u0m (fun x:u0d=>decide (x.1=id)) e.2<e.2.length
 ·simp only[if_pos hk]
 ·simp only[if_neg hk]
theorem s42 (e:u1w) (id:Int) (h:e.2.length≤4194304):t3h (e,id)=some (u5o e.2 id):=by
 have hq:∀x∈e.2,t6q (x,id)=some (decide (x.1=id)):=fun x _=>by
  rw[q0q];unfold s8m;rfl
 have L:=Q.first (T:=u1u) (c:=Int) (W:=u1f) (q:=t6q) (p:=fun x:u0d=>decide (x.1=id)) (fun x=>u93 x) e.2 id (by omega) hq
 rw[q55];unfold r4h u5o
 simp only[t09,u5b,L,zOb]
 by_cases hk:u0m (fun x:u0d=>decide (x.1=id)) e.2<e.2.length
 ·simp only[if_pos hk,zOb]
 ·simp only[if_neg hk,zOb]
theorem p5c {e:u1w} :(decide ((e.2.length:Int)≥4)= !decide (e.2.length<4))∧(decide (e.1.2.2.2.2≥9999)= !decide (e.1.2.2.2.2<9999)):=by
 constructor
 ·by_cases h:e.2.length<4<;>simp[h] <;>omega
 ·by_cases h:e.1.2.2.2.2<9999<;>simp[h] <;>omega
theorem q4a {e:u1w} (h:EngR e):t2j e=some (t9j e):=by
 have ho:=h.olen
 have hn:=h.base.next
 have h1:=u8i e.1 e.2 h.fewB h.fewO
 have h2:=q5f e (by have:=h.tinyO.wt;have:=q69 (l:=e.2) (by omega) (fun t ht=>h.ot ht);have:=p8r e;omega)
 have h1:u0l e=some e:=h1
 have hk:=o0y.mpr h
 rw[q8r];unfold r7r t9j
 simp only[h1,h2,hk,zOb,Bool.not_true,cond_false,p5c.1,p5c.2,List.length_singleton,u1q (show e.2.length+1≤1099511627776 by omega),cond_true]
 by_cases c1:e.2.length<4
 ·by_cases c2:e.1.2.2.2.2<9999
  ·simp only[c1,c2,decide_true,Bool.not_true,cond_false,zOb,and_self,if_true,t97 (n:=e.1.2.2.2.2) (r31 hn)]
   rfl
  ·simp only[c1,c2,decide_true,decide_false,Bool.not_true,Bool.not_false,cond_false,cond_true,zOb,and_false,if_false]
 ·simp only[c1,decide_false,Bool.not_false,cond_true,zOb,false_and,if_false]
theorem o5s (l:List s28) (r:s28):(l.any fun x=>z7o x.1 r.1&&(z7o x.2 r.2&&true))=o2k l r:=by
 unfold o2k;simp only[Bool.and_true]
theorem r06 {t:u0d} {r:s28} (ht:TxnR t) (h1:t.2.1=1) (hr:u5m r=true):t5e (t,r)=some (s1g t r):=by
 have hy:=ht.tiny
 have hw:=hy.wt
 have hl:=ht.rlen
 have c0:=u95 t hy.few
 have c1:=t5o t (by unfold u0p;omega)
 have k:=u3e (s:=r.1) (by unfold u5m at hr;simp only[Bool.and_eq_true] at hr;exact hr.1)
 have k' :=u3e (s:=r.2) (by unfold u5m at hr;simp only[Bool.and_eq_true] at hr;exact hr.2.1)
 have c2:=s8c r (by unfold u0p;omega) (by unfold u0p;omega)
 have ok:=r52.mpr ht
 have L:=s47 u7o t.2.2.2.2.1 (fun i=>(t,r,(u66:u0d),t,i)) (fun x=>z7o x.1 r.1&&(z7o x.2 r.2&&true)) (.inr (t,true)) (.inl (t,r,u66,t))
  (by rw[s2i];simp only[t1l,u0b,Nat.lt_irrefl,decide_false,cond_false])
  (fun i hi=>by
   rw[s2i]
   simp only[t1l,u0b,hi,decide_true,cond_true,y7t hi,zTn,y8k (t:=t9i) hi]
   rw[y7l (by omega)])
 rw[o5s] at L
 have L:u7o (t,r,((0,0,0,0, [], [],false,(⟨#[]⟩:ByteArray)):u0d),t,0)=_:=L
 rw[r9b];unfold s57 s1g
 simp only[c0,c1,c2,ok,hr,h1,zOb,decide_true,Bool.not_true,cond_false,L]
 cases o2k t.2.2.2.2.1 r
 ·have e8:decide ((t.2.2.2.2.1.length:Int)≥8)= !decide (t.2.2.2.2.1.length<8):=by by_cases c:t.2.2.2.2.1.length<8<;>simp[c] <;>omega
  simp only[cond_false,e8,Bool.false_eq_true,if_false]
  by_cases c:t.2.2.2.2.1.length<8
  ·simp only[c,decide_true,Bool.not_true,cond_false,List.length_singleton,u1q (show t.2.2.2.2.1.length+1≤1099511627776 by omega),cond_true,if_true]
   rfl
  ·simp only[c,decide_false,Bool.not_false,cond_true,if_false]
 ·rfl
theorem q7g {l:List WrT} {w:WrT} (h:u7w l=true) (hw:u52 w=true):u7w (q7l l w)=decide ((q7l l w).length≤8):=by
 by_cases c:(q7l l w).length≤8
 ·rw[p52 h hw c,decide_eq_true c]
 ·rw[decide_eq_false c]
  cases q:u7w (q7l l w)
  ·rfl
  ·exact absurd (p8y.mp q).2.2 c
theorem p2x {w:WrT} (h:u52 w=true):w.1.size≤3∧w.2.1.size≤12:=by
 unfold u52 at h
 simp only[Bool.and_eq_true,decide_eq_true_eq] at h
 exact⟨(u3e h.1).2,h.2.1⟩
theorem p6m {l:List WrT} (hn:l.length≤1000) (h:∀w∈l,u52 w=true):(Ty.sl u56).wt l≤20000:=by
 have e:(Ty.sl u56).wt l=l.length+(l.map u56.wt).sum:=rfl
 have s:=s4f (f:=u56.wt) (k:=15) (l:=l) fun w hw=>by
  have:=p2x (h w hw)
  have e:u56.wt w=w.1.size+(w.2.1.size+0):=rfl
  omega
 omega
theorem p51 {l:List WrT} {w:WrT} (h:u7w l=true) (hw:u52 w=true):∀x∈q7l l w,u52 x=true:=fun x hx=>by
 rcases q63 hx with q | q
 ·exact(p8y.mp h).1 x q
 ·rw[q];exact hw
theorem q5r {t:u0d} {w:WrT} (ht:TxnR t) (h1:t.2.1=1) (hw:u52 w=true):s0x (t,w)=some (s72 t w):=by
 have hy:=ht.tiny
 have ht8:=(p8y.mp ht.ws).2.2
 have hl:=p7u t.2.2.2.2.2.1 w
 have c0:=u95 t hy.few
 have c1:=t5o t (by have:=hy.wt;unfold u0p;omega)
 have c2:=s8g w (by have:=p2x hw;unfold u0p;omega)
 have c3:=q5l t.2.2.2.2.2.1 w (by omega)
 have c4:=r4b (q7l t.2.2.2.2.2.1 w) (by have:=p6m (l:=q7l t.2.2.2.2.2.1 w) (by omega) (p51 ht.ws hw);unfold u0p;omega)
 have ok:=r52.mpr ht
 rw[q07];unfold s83 s72
 simp only[c0,c1,c2,c3,c4,ok,hw,h1,zOb,decide_true,Bool.not_true,cond_false,q7g ht.ws hw]
 by_cases c:(q7l t.2.2.2.2.2.1 w).length≤8
 ·simp only[c,decide_true,Bool.not_true,cond_false,if_true]
  unfold o3j
  rw[h1]
 ·simp only[c,decide_false,Bool.not_false,cond_true,if_false]
end
section
def s9y (t:u0d) (l:List u2j) (k:ByteArray):ByteArray×Bool:=
 if u0m (fun w:WrT=>z7o w.1 k) t.2.2.2.2.2.1<t.2.2.2.2.2.1.length then
  (if(rdL u56 t.2.2.2.2.2.1 (u0m (fun w:WrT=>z7o w.1 k) t.2.2.2.2.2.1)).2.2=true then(emp,false) else((rdL u56 t.2.2.2.2.2.1 (u0m (fun w:WrT=>z7o w.1 k) t.2.2.2.2.2.1)).2.1,true))
 else s94 l k t.2.2.1
def q1s (t:u0d) (l:List u2j) (r:s28):List PrT:=
 ((q1l (l.map (fun v=>v.1)++t.2.2.2.2.2.1.map fun w=>w.1)).filter fun k=>(s9y t l k).2&&inR r k).map fun k=>(k,(s9y t l k).1)
theorem r90 (t:u0d) (l:List u2j) (k:ByteArray) (ht:s76 t) (hl:l.length≤4194304):t93 (t,l,k)=some (s9y t l k):=by
 have h8:=ht.2
 have L:=r3t t15 (u0m (fun w:WrT=>z7o w.1 k) t.2.2.2.2.2.1) (fun(_:Unit) i=>(l,k,t,i)) (fun _ _=>if u0m (fun w:WrT=>z7o w.1 k) t.2.2.2.2.2.1<t.2.2.2.2.2.1.length then .inr (if(rdL u56 t.2.2.2.2.2.1 (u0m (fun w:WrT=>z7o w.1 k) t.2.2.2.2.2.1)).2.2=true then(emp,false) else((rdL u56 t.2.2.2.2.2.1 (u0m (fun w:WrT=>z7o w.1 k) t.2.2.2.2.2.1)).2.1,true)) else .inl (l,k,t)) (fun _ _=>True)
  (fun a _=>by
   have hle:=t3f (fun w:WrT=>z7o w.1 k) t.2.2.2.2.2.1
   rw[r0h]
   by_cases hk:u0m (fun w:WrT=>z7o w.1 k) t.2.2.2.2.2.1<t.2.2.2.2.2.1.length
   ·have hy:=u7x hk
    simp only[t1y,u0b,hk,decide_true,cond_true,y7t hk,zTn,y8k (t:=u56) hk,hy,if_true]
    cases (t.2.2.2.2.2.1[u0m (fun w:WrT=>z7o w.1 k) t.2.2.2.2.2.1]).2.2<;>rfl
   ·simp only[t1y,u0b,hk,decide_false,cond_false,if_false])
  (fun i a hi _=> .inr ⟨(),trivial,rfl,by
   have hle:=t3f (fun w:WrT=>z7o w.1 k) t.2.2.2.2.2.1
   have hil:i<t.2.2.2.2.2.1.length:=by omega
   have hn:=u7c hil hi
   rw[r0h]
   simp only[t1y,u0b,hil,decide_true,cond_true,y7t hil,zTn,y8k (t:=u56) hil,hn,cond_false]
   rw[y7l (by omega)]⟩) 0 () (Nat.zero_le _) trivial
 have L:t15 (l,k,t,0)=_:=L
 rw[q6i];unfold r4u s9y
 simp only[L,zOb]
 by_cases hk:u0m (fun w:WrT=>z7o w.1 k) t.2.2.2.2.2.1<t.2.2.2.2.2.1.length
 ·simp only[if_pos hk]
 ·simp only[if_neg hk,r94 l k _ (show l.length≤1099511627776 by omega),zOb]
theorem q7z (t:u0d) (l:List u2j) (r:s28) (ht:s76 t) (hl:l.length≤4194304):s2v (t,l,r)=some (q1s t l r):=by
 have h8:=ht.2
 have L:=t59 t0g t.2.2.2.2.2.1 (fun(a:List u2j) i=>(l,t,r,a,i)) (fun a (w:WrT)=>a++ [((w.1,emp,false,(0:Int)):u2j)]) (fun a=> .inl (l,t,r,a)) (fun i a=>a.length=l.length+i)
  (fun a _=>by rw[s7l];simp only[t4p,u0b,Nat.lt_irrefl,decide_false,cond_false])
  (fun i hi a ha=>⟨by simp[ha];omega,by
   rw[s7l]
   simp only[t4p,u0b,hi,decide_true,cond_true,y7t hi,zTn,y8k (t:=u56) hi,List.length_singleton,u1q (show a.length+1≤1099511627776 by omega)]
   rw[y7l (by omega)]
   rfl⟩) l rfl
 have fo:∀(ws:List WrT) (a:List u2j),ws.foldl (fun a (w:WrT)=>a++ [((w.1,emp,false,(0:Int)):u2j)]) a=a++ws.map fun w=>((w.1,emp,false,(0:Int)):u2j):=by
  intro ws
  induction ws with
  | nil=>intro a;simp
  | cons w ws ih=>intro a;rw[List.foldl_cons,ih,List.map_cons,List.append_assoc];rfl
 rw[fo] at L
 obtain⟨all,ha⟩:∃all,all=l++t.2.2.2.2.2.1.map fun w:WrT=>((w.1,emp,false,(0:Int)):u2j):=⟨_,rfl⟩
 rw[←ha] at L
 have hal:all.length≤6000000:=by rw[ha];simp;omega
 have hmap:all.map (fun v=>v.1)=l.map (fun v=>v.1)++t.2.2.2.2.2.1.map fun w=>w.1:=by
  rw[ha,List.map_append,List.map_map];rfl
 obtain⟨ks,hks⟩:∃ks,ks=(q1l (all.map fun v=>v.1)).filter fun k=>inR r k:=⟨_,rfl⟩
 have hkl:ks.length≤all.length:=by
  rw[hks]
  refine Nat.le_trans (List.length_filter_le _ _) (Nat.le_trans (q1m _) (by simp))
 have L2:=s1j t44 ks (fun a i=>(l,t,a,ks,i)) (fun k=>(s9y t l k).2) (fun k=>(k,(s9y t l k).1)) (fun a=> .inl a) (by omega)
  (fun a _=>by rw[s7m];simp only[t4q,u0b,Nat.lt_irrefl,decide_false,cond_false])
  (fun i hi a ha=>by
   rw[s7m];simp only[t4q,u0b,hi,decide_true,cond_true,y7t hi,zTn,y8k (t:=Ty.str) hi,r90 t l _ ht hl,zOb,List.length_singleton,u1q (show a.length+1≤1099511627776 by omega)]
   rw[y7l (by omega)])
 have L:t0g (l,t,r,l,0)=_:=L
 rw[q21];unfold r1p
 simp only[List.length_nil,Nat.zero_add,List.nil_append,u1q (show l.length≤1099511627776 by omega),cond_true,L,zOb,q7y all r (show all.length≤500000000000 by omega)]
 rw[←hks]
 simp only[L2,zOb]
 rw[hks,List.filter_filter,hmap]
 rfl
theorem p2q {k:ByteArray} :u5m (k,k)=u78 k:=by
 unfold u5m
 have:z7o k k=true:=by simp[z7o]
 rw[this,Bool.or_true,Bool.and_true,Bool.and_self]
def o3d (e:u1w) (id:Int) (k:ByteArray):u1w×ByteArray×Bool×Int:=
 if(s1f e id (k,k) (u78 k)).2=0 then((s1f e id (k,k) (u78 k)).1,(s9y (u16 e id) e.1.1 k).1,(s9y (u16 e id) e.1.1 k).2,0)
 else((s1f e id (k,k) (u78 k)).1,emp,false,(s1f e id (k,k) (u78 k)).2)
def p9n (e:u1w) (id:Int) (r:s28):u1w×List PrT×Int:=
 if(s1f e id r (u5m r)).2=0 then((s1f e id r (u5m r)).1,q1s (u16 e id) e.1.1 r,0) else((s1f e id r (u5m r)).1, [],(s1f e id r (u5m r)).2)
theorem q1z {t:u0d} {r:s28} :(s1g t r).1.2.2.1=t.2.2.1∧(s1g t r).1.2.2.2.2.2.1=t.2.2.2.2.2.1:=by
 unfold s1g
 split
 ·exact⟨rfl,rfl⟩
 ·split<;>exact⟨rfl,rfl⟩
theorem q1r (t:u0d) (r:s28) (l:List u2j) (k:ByteArray):s9y (s1g t r).1 l k=s9y t l k:=by
 unfold s9y;rw[q1z.1,q1z.2]
theorem q9l (t:u0d) (r q:s28) (l:List u2j):q1s (s1g t r).1 l q=q1s t l q:=by
 unfold q1s;rw[q1z.2];simp only[q1r]
theorem q9v {t:u0d} {r:s28} (h:tinyT t):s76 (s1g t r).1:=by
 unfold s1g
 split
 ·exact h.few
 ·split
  ·refine⟨?_,h.few.2⟩
   show(t.2.2.2.2.1++ [r]).length≤1048576
   have:=h.rl
   simp;omega
  ·exact h.few
theorem p0p {e:u1w} (h:EngR e) (id:Int) {k:ByteArray} (hk:k.size≤1048576):t3j (e,id,k)=some (o3d e id k):=by
 have ho:=h.olen
 have h1:u0l e=some e:=u8i e.1 e.2 h.fewB h.fewO
 have h2:=t5g e id (by omega)
 have h3:=t5m k (by unfold u0p;omega)
 rw[q6f];unfold r4r o3d s1f
 simp only[h1,h2,h3,zOb]
 by_cases hn:u5o e.2 id<0
 ·simp only[hn,decide_true,cond_true,if_true]
  rfl
 ·obtain⟨j,hj,e1,e2,e3⟩:=u1o hn
  have hR:=h.open_ _ (List.getElem_mem hj)
  simp only[hn,decide_false,cond_false,if_false]
  cases hok:u78 k with
  | false=>rfl
  | true=>
   have c:=r06 (r:=(k,k)) hR.1 hR.2.1 (by rw[p2q];exact hok)
   simp only[Bool.not_true,cond_false,e1,y7t hj,cond_true,zTn,y8k (t:=u1u) hj,c,zOb,e2,Bool.true_eq_false,if_false]
   cases hr:(s1g e.2[j] (k,k)).2 with
   | false=>rfl
   | true=>
    have g:=r90 (s1g e.2[j] (k,k)).1 e.1.1 k (q9v hR.1.tiny) (by have:=h.tinyO.vl;omega)
    simp only[Bool.not_true,cond_false,g,zOb,if_true,q1r]
    rfl
theorem q5n {e:u1w} (h:EngR e) (id:Int) {r:s28} (hk:r.1.size≤1048576∧r.2.size≤1048576):u8w (e,id,r)=some (p9n e id r):=by
 have ho:=h.olen
 have h1:u0l e=some e:=u8i e.1 e.2 h.fewB h.fewO
 have h2:=t5g e id (by omega)
 have h3:=s8c r (by unfold u0p;omega) (by unfold u0p;omega)
 rw[q04];unfold s8z p9n s1f
 simp only[h1,h2,h3,zOb]
 by_cases hn:u5o e.2 id<0
 ·simp only[hn,decide_true,cond_true,if_true]
  rfl
 ·obtain⟨j,hj,e1,e2,e3⟩:=u1o hn
  have hR:=h.open_ _ (List.getElem_mem hj)
  simp only[hn,decide_false,cond_false,if_false]
  cases hok:u5m r with
  | false=>rfl
  | true=>
   have c:=r06 (r:=r) hR.1 hR.2.1 hok
   simp only[Bool.not_true,cond_false,e1,y7t hj,cond_true,zTn,y8k (t:=u1u) hj,c,zOb,e2,Bool.true_eq_false,if_false]
   cases hr:(s1g e.2[j] r).2 with
   | false=>rfl
   | true=>
    have g:=q7z (s1g e.2[j] r).1 e.1.1 r (q9v hR.1.tiny) (by have:=h.tinyO.vl;omega)
    simp only[Bool.not_true,cond_false,g,zOb,if_true,q9l]
    rfl
theorem p0u {e:u1w} (h:EngR e) (id:Int) {w:WrT} (hw:w.1.size≤1048576):t3k (e,id,w)=some (p2j e id w):=by
 have ho:=h.olen
 have h1:u0l e=some e:=u8i e.1 e.2 h.fewB h.fewO
 have h2:=t5g e id (by omega)
 have h3:=s8g w (by unfold u0p;omega)
 rw[q6k];unfold r4w p2j
 simp only[h1,h2,h3,zOb]
 by_cases hn:u5o e.2 id<0
 ·simp only[hn,decide_true,cond_true,if_true]
 ·obtain⟨j,hj,e1,e2,e3⟩:=u1o hn
  have hR:=h.open_ _ (List.getElem_mem hj)
  simp only[hn,decide_false,cond_false,if_false]
  cases hok:u52 w with
  | false=>rfl
  | true=>
   have c:=q5r (w:=w) hR.1 hR.2.1 hok
   simp only[Bool.not_true,cond_false,e1,y7t hj,cond_true,zTn,y8k (t:=u1u) hj,c,zOb,e2,Bool.true_eq_false,if_false]
   cases hr:(s72 e.2[j] w).2 with
   | false=>rfl
   | true=>rfl
theorem s43 (b:u0h) (o:List u0d) (id:Int) (hb:fewB b) (ho:o.length≤1000):u03 ((b,o),id)=some ((u5q b (o.filter fun x=> !decide (x.1=id))),o.filter fun x=> !decide (x.1=id)):=by
 have L:=s1j t17 o (fun a i=>((b,o),id,a,i)) (fun x:u0d=> !decide (x.1=id)) (fun x=>x) (fun a=> .inl ((b,o),a)) (by omega)
  (fun a _=>by rw[r0k];simp only[t58,u0b,Nat.lt_irrefl,decide_false,cond_false])
  (fun i hi a ha=>by
   rw[r0k];simp only[t58,u0b,hi,decide_true,cond_true,y7t hi,zTn,y8k (t:=u1u) hi,List.length_singleton,u1q (show a.length+1≤1099511627776 by omega)]
   rw[y7l (by omega)])
 rw[List.map_id'] at L
 have L:t17 ((b,o),id, [],0)=_:=L
 have hl:=List.length_filter_le (fun x:u0d=> !decide (x.1=id)) o
 rw[q6w];unfold r48
 simp only[L,zOb,s46 b (o.filter fun x=> !decide (x.1=id)) hb (by omega)]
theorem p27 {e:u1w} (h:EngR e) (id:Int):t5t (e,id)=some (s4a e id):=by
 have ho:=h.olen
 have h1:u0l e=some e:=u8i e.1 e.2 h.fewB h.fewO
 have h2:=t5g e id (by omega)
 have h3:u03 (e,id)=some (t5r e id):=s43 e.1 e.2 id h.fewB (by omega)
 rw[q8u];unfold r7u s4a
 simp only[h1,h2,h3,zOb]
 by_cases hn:u5o e.2 id<0
 ·simp only[hn,decide_true,cond_true,if_true]
 ·simp only[hn,decide_false,cond_false,if_false]
end
section
theorem o0w {E:Type} (l:List E) (f g:E→Bool):l.any (fun x=>f x || g x)=(l.any f || l.any g):=by
 induction l with
 | nil=>rfl
 | cons x l ih=>
  simp only[List.any_cons,ih]
  cases f x<;>cases g x<;>cases l.any f<;>cases l.any g<;>rfl
theorem p64 {E:Type} (l:List E) (f g:E→Bool) (i:Bool):l.any (fun x=>f x&&(i || g x))=((i&&l.any f) || l.any fun x=>f x&&g x):=by
 cases i
 ·simp
 ·simp only[Bool.true_or,Bool.and_true,Bool.true_and]
  cases h:l.any f with
  | true=>rfl
  | false=>
   rw[List.any_eq_false] at h
   symm
   rw[Bool.false_or,List.any_eq_false]
   intro x hx
   have:=h x hx
   simp[this]
theorem q7q (t:u0d) (l:List u0d) (ht:s76 t) (hl:r6u l):s2u (t,l)=some (s9f t l):=by
 obtain⟨l1,l2⟩:=hl
 have L:=s47 t0d l (fun i=>(l,t,i)) (fun x=> !decide (x.1=t.1)&&((decide (x.2.1=2) || (decide (x.2.1=3)&&decide (x.2.2.2.1 >t.2.2.1)))&&s5g x.2.2.2.2.2.1 t.2.2.2.2.2.1)) (.inr true) (.inl ())
  (by rw[s7i];simp only[t4n,u0b,Nat.lt_irrefl,decide_false,cond_false])
  (fun i hi=>by
   have h1:=p29 l[i].2.2.2.2.2.1 t.2.2.2.2.2.1 (u77 (l2 _ (List.getElem_mem hi)).2) (u77 ht.2)
   rw[s7i]
   simp only[t4n,u0b,hi,decide_true,cond_true,y7t hi,zTn,y8k (t:=u1u) hi,h1,zOb]
   rw[y7l (by omega)]
   cases decide (l[i].1=t.1)<;>cases decide (l[i].2.1=2)<;>cases decide (l[i].2.1=3)<;>cases decide (l[i].2.2.2.1 >t.2.2.1)<;>cases s5g l[i].2.2.2.2.2.1 t.2.2.2.2.2.1<;>rfl)
 rw[q2w];unfold r1k s9f
 have L:t0d (l,t,0)=_:=L
 simp only[L,zOb]
 cases l.any fun x:u0d=> !decide (x.1=t.1)&&((decide (x.2.1=2) || (decide (x.2.1=3)&&decide (x.2.2.2.1 >t.2.2.1)))&&s5g x.2.2.2.2.2.1 t.2.2.2.2.2.1)<;>rfl
theorem q7w (t:u0d) (l:List u0d) (ht:s76 t) (hl:r6u l):s5p (t,l)=some (p0b t l):=by
 obtain⟨l1,l2⟩:=hl
 have L:=s47 t6c l (fun i=>(l,t,i)) (fun x=>p09 x&&ahead x t) (.inr true) (.inl ())
  (by rw[r56];simp only[t9u,u0b,Nat.lt_irrefl,decide_false,cond_false])
  (fun i hi=>by
   have h1:=t2p l[i] t (u77 (l2 _ (List.getElem_mem hi)).1) (u77 ht.2)
   rw[r56]
   simp only[t9u,u0b,hi,decide_true,cond_true,y7t hi,zTn,y8k (t:=u1u) hi,h1,zOb,p09]
   rw[y7l (by omega)]
   cases decide (l[i].2.1=2)<;>cases decide (l[i].2.1=3)<;>cases ahead l[i] t<;>rfl)
 rw[p05];unfold q0a p0b
 have L:t6c (l,t,0)=_:=L
 simp only[L,zOb]
 cases l.any fun x=>p09 x&&ahead x t<;>rfl
def q5z (t:u0d) (l:List u0d) (p:u0d):Bool:=
 (p09 p&&(p.2.2.2.2.2.2.1&&ahead t p)) || (decide (p.2.1=2)&&(ahead p t&&(ahead t p || l.any fun x=>decide (x.2.1=2)&&(!decide (x.1=t.1)&&ahead x p))))
theorem p67 (t:u0d) (l:List u0d):r2x t l=((p0b t l&&s78 t l) || l.any (q5z t l)):=by
 unfold r2x s2k
 rw[←o0w]
 rfl
theorem r9x (t:u0d) (l:List u0d) (ht:s76 t) (hl:r6u l):t92 (t,l)=some (r2x t l):=by
 obtain⟨l1,l2⟩:=hl
 have inner:∀(i:Nat) (hi:i<l.length),u7a (l,t,(i:Int),l[i],0)=some (bif (decide (l[i].2.1=2)&&ahead l[i] t)&&(l.any fun x=>decide (x.2.1=2)&&(!decide (x.1=t.1)&&ahead x l[i])) then .inr true else .inl (l,t,(i:Int))):=fun i hi=>by
  have g1:=t2p l[i] t (u77 (l2 _ (List.getElem_mem hi)).1) (u77 ht.2)
  cases hg:(decide (l[i].2.1=2)&&ahead l[i] t) with
  | false=>
   have e0:u7a (l,t,(i:Int),l[i],0)=_:=t9c _
   rw[e0]
   simp only[u96,g1,zOb,Bool.false_and,cond_false]
   cases decide ((0:Int)<(l.length:Int))
   ·rfl
   ·revert hg
    cases decide (l[i].2.1=2)<;>cases ahead l[i] t<;>simp
  | true=>
   rw[Bool.and_eq_true,decide_eq_true_eq] at hg
   obtain⟨q1,q2⟩:=hg
   have L:=s47 u7a l (fun k=>(l,t,(i:Int),l[i],k)) (fun x=>decide (x.2.1=2)&&(!decide (x.1=t.1)&&ahead x l[i])) (.inr true) (.inl (l,t,(i:Int)))
    (by rw[t9c];simp only[u96,u0b,Nat.lt_irrefl,decide_false,cond_false,zOb])
    (fun k hk=>by
     have g2:=t2p l[k] l[i] (u77 (l2 _ (List.getElem_mem hk)).1) (u77 (l2 _ (List.getElem_mem hi)).2)
     rw[t9c]
     simp only[u96,u0b,hk,decide_true,cond_true,q1,g1,q2,g2,y7t hk,zTn,y8k (t:=u1u) hk,zOb]
     rw[y7l (by omega)]
     cases decide (l[k].2.1=2)<;>cases decide (l[k].1=t.1)<;>cases ahead l[k] l[i] <;>rfl)
   rw[Bool.true_and]
   exact L
 have L:=s47 t13 l (fun i=>(l,t,i)) (q5z t l) (.inr true) (.inl ())
  (by rw[r0d];simp only[t53,u0b,Nat.lt_irrefl,decide_false,cond_false])
  (fun i hi=>by
   have g1:=t2p l[i] t (u77 (l2 _ (List.getElem_mem hi)).1) (u77 ht.2)
   have g2:=t2p t l[i] (u77 ht.1) (u77 (l2 _ (List.getElem_mem hi)).2)
   rw[r0d]
   simp only[t53,u0b,hi,decide_true,cond_true,y7t hi,zTn,y8k (t:=u1u) hi,g1,g2,inner i hi,zOb,q5z,p09]
   have ws:=y7l (i:=i) (by omega)
   cases decide (l[i].2.1=2)<;>cases decide (l[i].2.1=3)<;>cases l[i].2.2.2.2.2.2.1<;>cases ahead l[i] t<;>cases ahead t l[i] <;>cases (l.any fun x=>decide (x.2.1=2)&&(!decide (x.1=t.1)&&ahead x l[i]))<;>first | rfl | (simp only[Bool.and_self,Bool.and_false,Bool.false_and,Bool.true_and,Bool.or_false,Bool.or_true,Bool.false_or,cond_true,cond_false,zOb,ws]))
 rw[q6c];unfold r4o
 have L:t13 (l,t,0)=_:=L
 simp only[q7w t l ht ⟨l1,l2⟩,r59 t l ht ⟨l1,l2⟩,L,zOb]
 rw[p67]
 cases p0b t l<;>cases s78 t l<;>cases l.any (q5z t l)<;>rfl
theorem r8q (t:u0d) (l:List u0d) (ht:s76 t) (hl:r6u l):t6u (t,l)=some (t2l t l):=by
 obtain⟨l1,l2⟩:=hl
 have inner:∀(i:Nat) (hi:i<l.length) (b:Bool),u5v (l,t,b,(i:Int),l[i],0)=some (bif (l.any fun y=>decide (y.2.1=2)&&(!decide (y.1=t.1)&&ahead l[i] y)) then .inr true else .inl (l,t,b,(i:Int))):=fun i hi b=>
  s47 u5v l (fun k=>(l,t,b,(i:Int),l[i],k)) (fun y=>decide (y.2.1=2)&&(!decide (y.1=t.1)&&ahead l[i] y)) (.inr true) (.inl (l,t,b,(i:Int)))
   (by rw[t8z];simp only[u7l,u0b,Nat.lt_irrefl,decide_false,cond_false,zOb])
   (fun k hk=>by
    have g2:=t2p l[i] l[k] (u77 (l2 _ (List.getElem_mem hi)).1) (u77 (l2 _ (List.getElem_mem hk)).2)
    rw[t8z]
    simp only[u7l,u0b,hk,decide_true,cond_true,g2,y7t hk,zTn,y8k (t:=u1u) hk,zOb]
    rw[y7l (by omega)]
    cases decide (l[k].2.1=2)<;>cases decide (l[k].1=t.1)<;>cases ahead l[i] l[k] <;>rfl)
 have L:=s47 u6c l (fun i=>(l,t,p0b t l,i)) (fun x=>(decide (x.2.1=2)&&ahead t x)&&(p0b t l || l.any fun y=>decide (y.2.1=2)&&(!decide (y.1=t.1)&&ahead x y))) (.inr true) (.inl ())
  (by rw[t9t];simp only[u8c,u0b,Nat.lt_irrefl,decide_false,cond_false])
  (fun i hi=>by
   have g2:=t2p t l[i] (u77 ht.1) (u77 (l2 _ (List.getElem_mem hi)).2)
   rw[t9t]
   simp only[u8c,u0b,hi,decide_true,cond_true,y7t hi,zTn,y8k (t:=u1u) hi,g2,inner i hi (p0b t l),zOb]
   have ws:=y7l (i:=i) (by omega)
   cases decide (l[i].2.1=2)<;>cases ahead t l[i] <;>cases p0b t l<;>cases (l.any fun y=>decide (y.2.1=2)&&(!decide (y.1=t.1)&&ahead l[i] y))<;>first | rfl | (simp only[Bool.and_self,Bool.and_false,Bool.false_and,Bool.true_and,Bool.or_false,Bool.or_true,Bool.false_or,Bool.not_true,Bool.not_false,cond_true,cond_false,zOb,ws]))
 rw[p64] at L
 rw[r5j];unfold s1o t2l t5w
 have L:u6c (l,t,p0b t l,0)=_:=L
 simp only[r9x t l ht ⟨l1,l2⟩,q7w t l ht ⟨l1,l2⟩,L,zOb]
 have e:s2k (fun x:u0d=> !decide (x.1=t.1)) t l=r2x t l:=rfl
 rw[e]
 cases r2x t l<;>cases ((p0b t l&&l.any fun x=>decide (x.2.1=2)&&ahead t x) || l.any fun x=>(decide (x.2.1=2)&&ahead t x)&&l.any fun y=>decide (y.2.1=2)&&(!decide (y.1=t.1)&&ahead x y))<;>rfl
theorem p10 (b:u0h) (hb:fewB b):t3n b=some (b.2.1++b.2.2.1):=by
 have h1:=hb.2.1.1
 have h2:=hb.2.2.1
 rw[q6v];unfold r47
 simp only[List.length_nil,Nat.zero_add,List.nil_append,u1q (show b.2.1.length≤1099511627776 by omega),u1q (show b.2.1.length+b.2.2.1.length≤1099511627776 by omega),cond_true]
theorem q4e {e:u1w} (h:EngR e) (id:Int):s14 (e,id)=some (s1e e id):=by
 have ho:=h.olen
 have h2:=t5g e id (by omega)
 have h3:=p10 e.1 h.fewB
 have h3:t3n e.1=some (u73 e):=h3
 have h4:=q87 e.1
 rw[q8s];unfold r7s s1e
 simp only[h2,h3,zOb]
 by_cases hn:u5o e.2 id<0
 ·simp only[hn,decide_true,cond_true,if_true]
 ·obtain⟨j,hj,e1,e2,e3⟩:=u1o hn
  have hT:=(h.ot (List.getElem_mem hj)).few
  simp only[hn,decide_false,cond_false,if_false,e1,y7t hj,cond_true,zTn,y8k (t:=u1u) hj,q7q _ _ hT h.fewOth,r9x _ _ hT h.fewOth,h4,zOb,e2]
  have hn' : ¬((j:Int)<0):=by omega
  simp only[hn',decide_false,cond_false,if_false]
  cases s9f e.2[j] (u73 e)<;>cases r2x e.2[j] (u73 e)<;>cases s2n e.1<;>rfl
end
section
theorem r8c {b:u0h} {t:u0d} {n:ByteArray} (h: ¬(0≤u0q b n)):∃(k:Nat) (hk:k<(u1r b t n).2.2.1.length),u0q (u1r b t n) n=(k:Int)∧(u1r b t n).2.2.1[k] =u20 b t n:=by
 have hb:=p9m.mp (show u0q b n<0 by omega)
 have hm:u20 b t n∈(u1r b t n).2.2.1:=by
  show u20 b t n∈(b.2.2.1.filter fun x=>y3c x.2.2.2.2.2.2.2 n)++ [u20 b t n] ++(b.2.2.1.filter fun x=> !y3c x.2.2.2.2.2.2.2 n)
  simp
 have hn: ¬u0q (u1r b t n) n<0:=fun q=>p9m.mp q _ hm rfl
 obtain⟨k,hk,e1,e2⟩:=t2k hn
 refine⟨k,hk,e1,?_⟩
 have hx:=List.getElem_mem hk
 have hx:(u1r b t n).2.2.1[k] ∈(b.2.2.1.filter fun x=>y3c x.2.2.2.2.2.2.2 n)++ [u20 b t n] ++(b.2.2.1.filter fun x=> !y3c x.2.2.2.2.2.2.2 n):=hx
 simp only[List.mem_append,List.mem_filter,List.mem_singleton] at hx
 rcases hx with (q | q) | q
 ·exact absurd e2 (hb _ q.1)
 ·exact q
 ·exact absurd e2 (hb _ q.1)
theorem EngR.mids {e:u1w} (h:EngR e):p6r e.1.2.2.2.1:=p1f h.base.cs
theorem p14 {e:u1w} (h:EngR e) {t:u0d} (ht:t∈e.2∨t∈e.1.2.2.1):u6m (e.1,t)=some (u1k e.1 t):=by
 have hT:TxnR t:=by
  rcases ht with q | q
  ·exact(h.open_ t q).1
  ·exact(h.base.ready t q).1
 rw[r7i e.1 t h.fewB hT.tiny.few,q17 h.mids (r31 hT.id)]
theorem r9p {e:u1w} (h:EngR e) {t:u0d} (ht:t∈e.2∨t∈e.1.2.2.1):tinyB (u1k e.1 t):=by
 have hT:TxnR t:=by
  rcases ht with q | q
  ·exact(h.open_ t q).1
  ·exact(h.base.ready t q).1
 exact s98 h.base hT.tiny
theorem q9m (b:u0h) (t:u0d) (hb:b.2.1.length≤1000):∃(k:Nat) (hk:k<(u1k b t).2.1.length),IntKind.i64.wrap (((u1k b t).2.1.length:Int) - (1:Int))=(k:Int)∧(u1k b t).2.1[k] =t0s b t:=by
 have e:(u1k b t).2.1=b.2.1++ [t0s b t] :=rfl
 refine⟨b.2.1.length,by rw[e];simp,?_,?_⟩
 ·rw[e,List.length_append,List.length_singleton,y4y (by omega) (by omega)];omega
 ·simp[e]
theorem q8i {b:u0h} {t:u0d} (h:s76 t):s76 (t0s b t):=h
theorem p0l {e:u1w} (h:EngR e) (id:Int):s5n (e,id)=some (u27 e id):=by
 have ho:=h.olen
 have h1:u0l e=some e:=u8i e.1 e.2 h.fewB h.fewO
 have h2:=t5g e id (by omega)
 have hJ:=q4e h id
 have hO:u03 (e,id)=some (t5r e id):=s43 e.1 e.2 id h.fewB (by omega)
 rw[q6b];unfold r4n u27
 simp only[h1,hJ,zOb]
 by_cases c1:s1e e id=1
 ·simp only[c1,decide_true,cond_true,if_true]
  rfl
 ·simp only[c1,decide_false,cond_false,if_false]
  by_cases c0:s1e e id=0
  ·obtain⟨hn,_,_,_⟩:=s5e c0
   obtain⟨j,hj,e1,e2,e3⟩:=u1o hn
   have hm:e.2[j] ∈e.2∨e.2[j] ∈e.1.2.2.1:= .inl (List.getElem_mem hj)
   have hT:=p14 h hm
   obtain⟨k,hk,f1,f2⟩:=q9m e.1 e.2[j] (by have:=h.base.plen;omega)
   have hC:=u95 (t0s e.1 e.2[j]) (q8i (h.ot (List.getElem_mem hj)).few)
   have hO2:=s43 (u1k e.1 e.2[j]) e.2 id (r9p h hm).few (by omega)
   simp only[c0,decide_true,Bool.not_true,cond_false,if_true,h2,e1,y7t hj,cond_true,zTn,y8k (t:=u1u) hj,hT,f1,y7t hk,y8k (t:=u1u) hk,f2,hC,hO2,zOb,e2]
   show some _=some (r3v e e.2[j],_)
   unfold r3v t1u
   rw[e3]
   rfl
  ·simp only[c0,decide_false,Bool.not_false,cond_true,if_false,hO,zOb]
   rfl
theorem q72 {e:u1w} (h:EngR e) (id:Int) {n:ByteArray} (hn1:n.size≤1048576):s2w (e,id,n)=some (t5k e id n):=by
 have ho:=h.olen
 have h1:u0l e=some e:=u8i e.1 e.2 h.fewB h.fewO
 have h2:=t5g e id (by omega)
 have hK:=t5m n (by unfold u0p;omega)
 have hA:u11 (e.1,n)=some (u0q e.1 n):=t8k e.1 n (by have:=h.base.rlen;omega)
 have hJ:=q4e h id
 have hL:t3n e.1=some (u73 e):=p10 e.1 h.fewB
 have hO:u03 (e,id)=some (t5r e id):=s43 e.1 e.2 id h.fewB (by omega)
 rw[q23];unfold r1r t5k
 simp only[h1,h2,zOb]
 by_cases c1:u5o e.2 id<0
 ·simp only[c1,decide_true,cond_true,if_true]
  rfl
 simp only[c1,decide_false,cond_false,if_false,hK,zOb]
 cases c2:u78 n with
 | false=>simp only[Bool.not_false,cond_true,if_true];rfl
 | true=>
 simp only[Bool.not_true,cond_false,Bool.true_eq_false,if_false,hA,zOb]
 by_cases c3:0≤u0q e.1 n
 ·have c3' :decide (u0q e.1 n≥0)=true:=by simpa using c3
  simp only[c3,c3',cond_true,if_true]
  rfl
 have c3' :decide (u0q e.1 n≥0)=false:=by simpa using c3
 simp only[c3,c3',cond_false,if_false,hJ,zOb]
 unfold t6m
 by_cases c4:s1e e id=0
 ·obtain⟨j,hj,e1,e2,e3⟩:=u1o c1
  have hT:=(h.ot (List.getElem_mem hj))
  have hTR:=(h.open_ _ (List.getElem_mem hj)).1
  have hD:=r8q e.2[j] (u73 e) hT.few h.fewOth
  have hr:=h.base.rlen
  simp only[c4,decide_true,e1,y7t hj,cond_true,zTn,y8k (t:=u1u) hj,hL,hD,zOb,e2,ne_eq,not_true_eq_false,if_false]
  cases c5:t2l e.2[j] (u73 e) with
  | true=>
   have d5:decide ((5:Int)=0)=false:=by decide
   simp only[cond_true,d5,cond_false,zOb,Bool.not_false,hO,if_true]
   rfl
  | false=>
   simp only[cond_false,zOb,Bool.false_eq_true,if_false]
   have e6:decide ((e.1.2.2.1.length:Int)≥3)=decide (3≤e.1.2.2.1.length):=by simp;omega
   simp only[e6]
   by_cases c6:3≤e.1.2.2.1.length
   ·have d3:decide ((3:Int)=0)=false:=by decide
    simp only[c6,decide_true,cond_true,d3,Bool.not_false,hO,zOb,if_true]
    rfl
   ·have hM:=r05 e.1 e.2[j] n h.fewB hT.few (r31 hTR.id)
    obtain⟨k,hk,f1,f2⟩:=r8c (t:=e.2[j]) c3
    have hns:n.size≤100:=by have:=(u3e c2).2;omega
    have hMt:=r64 (t:=e.2[j]) h.base hT hns
    have hA2:u11 (u1r e.1 e.2[j] n,n)=some ((k:Nat):Int):=by rw[t8k _ n (by have:=hMt.rl;omega),f1]
    have hC:=u95 (u20 e.1 e.2[j] n) hT.few
    have hO2:=s43 (u1r e.1 e.2[j] n) e.2 id hMt.few (by omega)
    simp only[c6,decide_false,cond_false,decide_true,Bool.not_true,y7t hj,cond_true,y8k (t:=u1u) hj,hM,hA2,y7t hk,zTn,y8k (t:=u1u) hk,f2,hC,hO2,zOb,if_false,if_true]
    show some _=some (r9i e e.2[j] n,_)
    unfold r9i t1u
    rw[e3]
    rfl
 ·simp only[c4,decide_false,cond_false,zOb,Bool.not_false,cond_true,hO,ne_eq,not_false_eq_true,if_true,if_false]
  rfl
theorem q5g {e:u1w} (h:EngR e) (n:ByteArray) (yes:Bool):s5o (e,n,yes)=some (s77 e n yes):=by
 have ho:=h.olen
 have h1:u0l e=some e:=u8i e.1 e.2 h.fewB h.fewO
 have hA:u11 (e.1,n)=some (u0q e.1 n):=t8k e.1 n (by have:=h.base.rlen;omega)
 have hF:=q87 e.1
 have hG:=r7e e.1 n h.fewB
 have hG2:=s46 (t84 e.1 n) e.2 (r6v h.tinyO).few (by omega)
 rw[q6e];unfold r4q s77
 simp only[h1,hA,hF,zOb]
 by_cases c1:u0q e.1 n<0
 ·simp only[c1,decide_true,cond_true,if_true]
  rfl
 obtain⟨k,hk,f1,f2⟩:=t2k c1
 simp only[c1,decide_false,cond_false,if_false]
 cases yes with
 | false=>simp only[cond_false,zOb,hG,hG2,Bool.false_eq_true,false_and,if_false];rfl
 | true=>
  have hm:e.1.2.2.1[k] ∈e.2∨e.1.2.2.1[k] ∈e.1.2.2.1:= .inr (List.getElem_mem hk)
  have hT:=p14 h hm
  have hT2:=s46 (u1k e.1 e.1.2.2.1[k]) e.2 (r9p h hm).few (by omega)
  simp only[cond_true,true_and]
  cases s2n e.1 with
  | true=>rfl
  | false=>
   simp only[cond_false,Bool.false_eq_true,if_false,if_true,f1,y7t hk,cond_true,zTn,y8k (t:=u1u) hk,hT,hT2,zOb]
   rfl
end
section
theorem q81:emp.size≤100:=by decide
theorem r3f (r:s27):(u1i r).1.size≤20000:=by
 cases h:t3o r with
 | false=>unfold u1i;rw[h];exact Nat.le_trans q81 (by omega)
 | true=>
  have hR:=p8w.mp h
  rw[t2m hR]
  have:=s4e hR
  show(r02 (s93 r)).size≤20000
  rw[q42];omega
def p0y (b:u0h):s27:=(4,u66,emp,false,b)
theorem q8d {b:u0h} (h:tinyB b):tinyR (p0y b):=⟨t7n,q81,h⟩
theorem q4b (d:u0j) (hd:o5r.wt d≤10000000):t62 d=some (orD d (p4p d)):=by
 have h1:=p3a d (by omega)
 have h2:=t1w (p0y (p5p (u0k d)).1) (q8d (p5q _)).wt
 have h3:=t2q d (by unfold u0p;omega)
 rw[q1g];unfold s9c
 simp only[h1,zOb]
 have h2:u3m (4,(0,0,0,0, [], [],false,(⟨#[]⟩:ByteArray)),(⟨#[]⟩:ByteArray),false,(p5p (u0k d)).1)=_:=h2
 simp only[h2,h3,zOb]
 unfold p4p
 cases hp:t3w (u0k d) with
 | none=>
  have e:(p5p (u0k d)).2=false:=by unfold p5p;rw[hp]
  simp only[e,Bool.not_false,cond_true,zOb]
  rfl
 | some b=>
  have e:p5p (u0k d)=(b,true):=by unfold p5p;rw[hp]
  simp only[e,Bool.not_true,cond_false,zOb]
  have e4:p0y b=(4,u66,emp,false,b):=rfl
  rw[e4]
  cases ht:(u1i (4,u66,emp,false,b)).2 with
  | false=>simp only[Bool.not_false,cond_true,Bool.false_eq_true,if_false];rfl
  | true=>
   have h5:=q2i (d:=d) (l:= [(u1i (4,u66,emp,false,b)).1]) hd (by simp) (fun t h=>by
    rw[List.mem_singleton.mp h];have:=r3f (4,u66,emp,false,b);omega)
   simp only[Bool.not_true,cond_false,if_true,h5,zOb]
theorem p9c {d z:u0j} (h:p4p d=some z):u45 z=true:=by
 unfold p4p at h
 split at h
 ·cases h
 ·split at h
  ·exact(q46 h).2.1
  ·cases h
theorem r9z (s:u13) (r:s27) (hd:o5r.wt s.2≤10000000) (hr:tinyR r):t4d (s,r)=some ((t5j s.2 r).isSome,s.1,(t5j s.2 r).getD s.2):=by
 have h1:=t1w r hr.wt
 have hl:=r3f r
 have h2:=r04 s.2 (u1i r).1 hd (by omega)
 have h3:=q4b s.2 hd
 rw[q3w];unfold r2t t5j
 simp only[h1,zOb]
 cases ht:(u1i r).2 with
 | false=>simp only[Bool.not_false,cond_true,Bool.false_eq_true,if_false];rfl
 | true=>
  simp only[Bool.not_true,cond_false,if_true,h2,zOb]
  cases ha:append_ s.2 (u1i r).1 with
  | some y=>rfl
  | none=>
   simp only[orD,Bool.not_false,cond_true,h3,zOb]
   cases hz:p4p s.2 with
   | none=>rfl
   | some z=>
    have h4:=r04 z (u1i r).1 (r0p (p9c hz)) (by omega)
    simp only[orD,Bool.not_true,cond_false,h4,zOb]
    cases hq:append_ z (u1i r).1<;>rfl
theorem t5x:tinyR r7d:=⟨t7n,by decide,t06⟩
theorem q8f {e:u1w} (h:EngR e) (id:Int):tinyR (u27 e id).2.1:=by
 unfold u27
 split
 ·exact t5x
 ·split
  ·rename_i c1 c0
   obtain⟨hn,_,_,_⟩:=s5e c0
   obtain⟨j,hj,e1,e2,e3⟩:=u1o hn
   rw[e2]
   exact⟨(h.ot (List.getElem_mem hj)).like rfl rfl q81,q81,t06⟩
  ·exact t5x
theorem p3y {e:u1w} (h:EngR e) (id:Int) (n:ByteArray):tinyR (t5k e id n).2.1:=by
 unfold t5k
 split
 ·exact t5x
 ·rename_i hn
  split
  ·exact t5x
  ·rename_i hk
   split
   ·exact t5x
   ·split
    ·obtain⟨j,hj,e1,e2,e3⟩:=u1o hn
     rw[e2]
     have hk:u78 n=true:=by simpa using hk
     have:=(u3e hk).2
     exact⟨(h.ot (List.getElem_mem hj)).like rfl rfl (by show n.size≤100;omega),q81,t06⟩
    ·exact t5x
theorem p5i {e:u1w} (n:ByteArray) (hn:n.size≤100) (y:Bool):tinyR (s77 e n y).2.1:=by
 unfold s77
 split
 ·exact t5x
 ·split
  ·exact t5x
  ·split
   ·exact⟨t7n,hn,t06⟩
   ·exact⟨t7n,hn,t06⟩
theorem q31 {s:u13} (h:EngR s.1) (hd:u45 s.2=true) (id:Int):u7j (s,id)=some ((t64 s id).2,(t64 s id).1):=by
 have ho:=h.olen
 have h1:=p0l h id
 have h2:=r9z s (u27 s.1 id).2.1 (r0p hd) (q8f h id)
 have h3:u0l s.1=some s.1:=u8i s.1.1 s.1.2 h.fewB h.fewO
 have hO:u03 (s.1,id)=some (t5r s.1 id):=s43 s.1.1 s.1.2 id h.fewB (by omega)
 rw[r9g];unfold s6c t64
 simp only[h1,zOb]
 by_cases c:(u27 s.1 id).2.2=0
 ·simp only[c,decide_true,cond_true,if_true,h2,zOb]
  cases t5j s.2 (u27 s.1 id).2.1 with
  | none=>simp only[Option.isSome_none,Bool.not_false,cond_true,h3,hO,zOb];rfl
  | some d=>rfl
 ·simp only[c,decide_false,cond_false,if_false]
theorem q1p {s:u13} (h:EngR s.1) (hd:u45 s.2=true) (id:Int) {n:ByteArray} (hn:n.size≤1048576):u6s (s,id,n)=some ((s96 s id n).2,(s96 s id n).1):=by
 have ho:=h.olen
 have h1:=q72 h id hn
 have h2:=r9z s (t5k s.1 id n).2.1 (r0p hd) (p3y h id n)
 have h3:u0l s.1=some s.1:=u8i s.1.1 s.1.2 h.fewB h.fewO
 have hO:u03 (s.1,id)=some (t5r s.1 id):=s43 s.1.1 s.1.2 id h.fewB (by omega)
 rw[r6t];unfold s3m s96
 simp only[h1,zOb]
 by_cases c:(t5k s.1 id n).2.2=0
 ·simp only[c,decide_true,cond_true,if_true,h2,zOb]
  cases t5j s.2 (t5k s.1 id n).2.1 with
  | none=>simp only[Option.isSome_none,Bool.not_false,cond_true,h3,hO,zOb];rfl
  | some d=>rfl
 ·simp only[c,decide_false,cond_false,if_false]
theorem p9f {e:u1w} {n:ByteArray} {y:Bool} (c:(s77 e n y).2.2≠0):(s77 e n y).1=e:=by
 unfold s77 at c ⊢
 split
 ·rfl
 ·split
  ·rfl
  ·rename_i h1 h2
   rw[if_neg h1,if_neg h2] at c
   split at c<;>exact absurd rfl c
theorem q32 {s:u13} (h:EngR s.1) (hd:u45 s.2=true) {n:ByteArray} (hn:n.size≤100) (y:Bool):u7k (s,n,y)=some ((q14 s n y).2,(q14 s n y).1):=by
 have h1:=q5g h n y
 have h2:=r9z s (s77 s.1 n y).2.1 (r0p hd) (p5i n hn y)
 rw[r9h];unfold s6d q14
 simp only[h1,zOb]
 by_cases c:(s77 s.1 n y).2.2=0
 ·simp only[c,decide_true,cond_true,if_true,h2,zOb]
  cases t5j s.2 (s77 s.1 n y).2.1 with
  | none=>rfl
  | some d=>rfl
 ·simp only[c,decide_false,cond_false,if_false,p9f c]
theorem p24 {s:u13} (h:EngR s.1) (hd:o5r.wt s.2≤10000000):s24 s=some s:=by
 have h1:u0l s.1=some s.1:=u8i s.1.1 s.1.2 h.fewB h.fewO
 have h2:=t2q s.2 (by unfold u0p;omega)
 rw[q3v];unfold r2s
 simp only[h1,h2,zOb]
theorem p6x {s:u13} (h:EngR s.1) (hd:u45 s.2=true):u8u s=some (p7a s):=by
 have h1:=p24 h (r0p hd)
 have h2:=q4b s.2 (r0p hd)
 rw[q0x];unfold s8s p7a
 simp only[h1,h2,zOb]
 cases p4p s.2<;>rfl
end
section
def PQR:List ByteArray:= [⟨#[112]⟩,⟨#[113]⟩,⟨#[114]⟩]
theorem p11 {y:ByteArray} (h:y∈PQR):y.size≤100:=by
 simp only[PQR,List.mem_cons,List.not_mem_nil,or_false] at h
 rcases h with rfl | rfl | rfl<;>decide
theorem Stt.mono {k m:Nat} {s:u13} (h:Stt k s) (hm:k≤m):Stt m s:=by
 obtain⟨b,h1,h2⟩:=h.sync
 exact⟨⟨b,h1,by omega⟩,h.dom,h.num.mono hm⟩
theorem Stt.log {k:Nat} {s:u13} (h:Stt k s):u45 s.2=true:=by obtain⟨b,h1,_⟩:=h.sync;exact h1.log
def RN (e:u1w):Prop:= ∀x∈e.1.2.2.1,x.2.2.2.2.2.2.2∈PQR
theorem RN.sub {e e' :u1w} (h:RN e) (hs:∀x∈e'.1.2.2.1,∃y∈e.1.2.2.1,x.2.2.2.2.2.2.2=y.2.2.2.2.2.2.2):RN e' :=fun x hx=>by
 obtain⟨y,hy,q⟩:=hs x hx
 rw[q];exact h y hy
theorem RN.same {e e' :u1w} (h:RN e) (hs:e'.1.2.2.1=e.1.2.2.1):RN e' :=h.sub fun x hx=>⟨x,by rw[←hs];exact hx,rfl⟩
theorem RN.through {e:u1w} (h:RN e) (t:u0d) (o:List u0d):RN (u5q (u1k e.1 t) o,o):=h.sub fun x hx=>by
 have hx:x∈(e.1.2.2.1.filter fun x=> !decide (x.1=t.1)).map (r3y (t0s e.1 t)):=hx
 obtain⟨y,hy,rfl⟩:=List.mem_map.mp hx
 exact⟨y,(List.mem_filter.mp hy).1,rfl⟩
theorem RN.commit {e:u1w} (h:RN e) (id:Int):RN (u27 e id).1:=by
 unfold u27
 split
 ·exact h
 ·split
  ·exact h.through _ _
  ·exact h.same rfl
theorem RN.prep {e:u1w} (h:RN e) (id:Int) {n:ByteArray} (hn:n∈PQR):RN (t5k e id n).1:=by
 unfold t5k
 split
 ·exact h
 ·split
  ·exact h
  ·split
   ·exact h
   ·split
    ·intro x hx
     have hx:x∈(e.1.2.2.1.filter fun x=>y3c x.2.2.2.2.2.2.2 n)++ [u20 e.1 (u16 e id) n] ++(e.1.2.2.1.filter fun x=> !y3c x.2.2.2.2.2.2.2 n):=hx
     simp only[List.mem_append,List.mem_filter,List.mem_singleton] at hx
     rcases hx with (q | rfl) | q
     ·exact h x q.1
     ·exact hn
     ·exact h x q.1
    ·exact h.same rfl
theorem RN.fin {e:u1w} (h:RN e) (n:ByteArray) (y:Bool):RN (s77 e n y).1:=by
 unfold s77
 split
 ·exact h
 ·split
  ·exact h
  ·split
   ·exact h.through _ _
   ·exact h.sub fun x hx=>⟨x,(List.mem_filter.mp hx).1,rfl⟩
theorem RN.look {e:u1w} (h:RN e) {id:Int} {r:s28} {right:Bool} :RN (s1f e id r right).1:=by
 unfold s1f
 split
 ·exact h
 ·split
  ·exact h
  ·split<;>exact h
theorem RN.put {e:u1w} (h:RN e) {id:Int} {w:WrT} :RN (p2j e id w).1:=by
 unfold p2j
 split
 ·exact h
 ·split
  ·exact h
  ·split<;>exact h
theorem RN.begin {e:u1w} (h:RN e):RN (t9j e).1:=by
 unfold t9j
 split<;>exact h
theorem RN.leave {e:u1w} (h:RN e) (id:Int):RN (s4a e id).1:=by
 unfold s4a
 split<;>exact h
structure SttN (k:Nat) (s:u13):Prop extends Stt k s where
 rn:RN s.1
theorem SttN.mono {k m:Nat} {s:u13} (h:SttN k s) (hm:k≤m):SttN m s:=⟨h.toStt.mono hm,h.rn⟩
theorem SttN.begin {k:Nat} {s:u13} (h:SttN k s):SttN (k+1) ((t9j s.1).1,s.2):=⟨h.toStt.begin,h.rn.begin⟩
theorem SttN.look {k:Nat} {s:u13} (h:SttN k s) {id:Int} {r:s28} {right:Bool} (hr:right=true→u5m r=true) (hk:r.1∈K5∧r.2∈K5):SttN (k+1) ((s1f s.1 id r right).1,s.2):=⟨h.toStt.look hr hk,h.rn.look⟩
theorem SttN.put {k:Nat} {s:u13} (h:SttN k s) {id:Int} {w:WrT} (hk:w.1∈K5):SttN (k+1) ((p2j s.1 id w).1,s.2):=⟨h.toStt.put hk,h.rn.put⟩
theorem SttN.leave {k:Nat} {s:u13} (h:SttN k s) (id:Int):SttN (k+1) ((s4a s.1 id).1,s.2):=⟨h.toStt.leave id,h.rn.leave id⟩
theorem SttN.fix {k:Nat} {s:u13} (h:SttN k s):SttN (k+1) (p7a s).1:=⟨h.toStt.fix,by
 unfold p7a
 split<;>exact h.rn⟩
theorem SttN.commit {k:Nat} {s:u13} (h:SttN k s) (id:Int):SttN (k+1) (t64 s id).1:=⟨h.toStt.commit id,by
 unfold t64
 split
 ·split
  ·exact h.rn.commit id
  ·exact h.rn.same rfl
 ·exact h.rn.commit id⟩
theorem SttN.prep {k:Nat} {s:u13} (h:SttN k s) (id:Int) {n:ByteArray} (hn:n∈PQR):SttN (k+1) (s96 s id n).1:=⟨h.toStt.prep id n,by
 unfold s96
 split
 ·split
  ·exact h.rn.prep id hn
  ·exact h.rn.same rfl
 ·exact h.rn.prep id hn⟩
theorem SttN.fin {k:Nat} {s:u13} (h:SttN k s) (n:ByteArray) (y:Bool):SttN (k+1) (q14 s n y).1:=⟨h.toStt.fin n y,by
 unfold q14
 split
 ·split
  ·exact h.rn.fin n y
  ·exact h.rn
 ·exact h.rn⟩
theorem q5o:∃s,s0v ()=some s∧SttN 0 s:=by
 obtain⟨d,h1,h2,h3⟩:=p0q
 have h0:t87 ()=some (p0c, []):=by
  rw[r87];unfold s53
  rw[r2y];rfl
 refine⟨((p0c, []),d),?_,?_⟩
 ·rw[q05];unfold s80
  simp only[h0,h1,zOb]
 ·have hp:t3w (u0k d)=some p0c:=by rw[h3];rfl
  have hE:EngR ((p0c, []):u1w):=o0y.mp (by decide)
  have hL:Like0 p0c p0c:=⟨by decide,rfl,rfl,rfl⟩
  have hN:p0c.2.2.2.2≤((0:Nat):Int)+1:=by decide
  have hM:Num 0 ((p0c, []):u1w):=⟨by decide,by decide⟩
  have hD:DomE ((p0c, []):u1w):=⟨⟨(fun v hv=>by cases hv),(fun t ht=>by cases ht)⟩,(fun t ht=>by cases ht)⟩
  exact⟨⟨⟨p0c,⟨hE,h2,hp,p2f,hL⟩,hN⟩,hD,hM⟩,fun x hx=>by cases hx⟩
def DrS (F:Option (Src×u13)) (k:Nat):Prop:= ∃s t,F=some (s,t)∧s.ok∧SttN k t
theorem p6z {y:ByteArray} (h:y∈K5):y.size≤1048576:=by have:=(u3e (p60 h)).2;omega
theorem q91 {k:Nat} {s:u13} (h:SttN k s) (id:Int) {c:Src} (hc:c.ok):DrS ((u2c (c,(16:Int))).bind fun(y20:(Int×((List Int)×(Int×Int))))=>(((bif (decide (id=(0:Int))) then(some true) else(some (decide (y20.1<(3:Int))))):Option Bool).bind fun j21=>(bif j21 then((t2j s.1).bind fun y22=>(some (y20.2,(y22.1,s.2)))) else(bif (decide (y20.1<(6:Int))) then((u6j y20.2).bind fun y23=>((t3j (s.1,(id,y23.1))).bind fun y24=>(some (y23.2,(y24.1,s.2))))) else(bif (decide (y20.1<(7:Int))) then((u8z y20.2).bind fun y25=>((u8w (s.1,(id,y25.1))).bind fun y26=>(some (y25.2,(y26.1,s.2))))) else(bif (decide (y20.1<(10:Int))) then((u80 y20.2).bind fun y27=>((t3k (s.1,(id,y27.1))).bind fun y28=>(some (y27.2,(y28.1,s.2))))) else(bif (decide (y20.1<(13:Int))) then((u7j (s,id)).bind fun y29=>(some (y20.2,y29.2))) else(bif (decide (y20.1=(13:Int))) then((u12 (y20.2,PQR)).bind fun y30=>((u6s (s,(id,y30.1))).bind fun y31=>(some (y30.2,y31.2)))) else(bif (decide (y20.1=(14:Int))) then((u12 (y20.2,PQR)).bind fun y32=>((u2d (y32.2,(2:Int))).bind fun(y33:(Bool×((List Int)×(Int×Int))))=>((u7k (s,(y32.1,y33.1))).bind fun y34=>(some (y33.2,y34.2))))) else((u2d (y20.2,(3:Int))).bind fun(y35:(Bool×((List Int)×(Int×Int))))=>(bif y35.1 then((u8u s).bind fun y36=>(some (y35.2,y36.1))) else((t5t (s.1,id)).bind fun y37=>(some (y35.2,(y37.1,s.2))))))))))))))) (k+1):=by
 obtain⟨y,c1,e1,k1,r1⟩:=s4z hc (n:=16) (by omega)
 have hE:=h.eng
 simp only[e1,zOb]
 have key:∀j:Bool,DrS ((some j).bind fun j21=>(bif j21 then((t2j s.1).bind fun y22=>(some (c1,(y22.1,s.2)))) else(bif (decide (y<(6:Int))) then((u6j c1).bind fun y23=>((t3j (s.1,(id,y23.1))).bind fun y24=>(some (y23.2,(y24.1,s.2))))) else(bif (decide (y<(7:Int))) then((u8z c1).bind fun y25=>((u8w (s.1,(id,y25.1))).bind fun y26=>(some (y25.2,(y26.1,s.2))))) else(bif (decide (y<(10:Int))) then((u80 c1).bind fun y27=>((t3k (s.1,(id,y27.1))).bind fun y28=>(some (y27.2,(y28.1,s.2))))) else(bif (decide (y<(13:Int))) then((u7j (s,id)).bind fun y29=>(some (c1,y29.2))) else(bif (decide (y=(13:Int))) then((u12 (c1,PQR)).bind fun y30=>((u6s (s,(id,y30.1))).bind fun y31=>(some (y30.2,y31.2)))) else(bif (decide (y=(14:Int))) then((u12 (c1,PQR)).bind fun y32=>((u2d (y32.2,(2:Int))).bind fun(y33:(Bool×((List Int)×(Int×Int))))=>((u7k (s,(y32.1,y33.1))).bind fun y34=>(some (y33.2,y34.2))))) else((u2d (c1,(3:Int))).bind fun(y35:(Bool×((List Int)×(Int×Int))))=>(bif y35.1 then((u8u s).bind fun y36=>(some (y35.2,y36.1))) else((t5t (s.1,id)).bind fun y37=>(some (y35.2,(y37.1,s.2)))))))))))))) (k+1):=by
  intro j
  simp only[zOb]
  cases j with
  | true=>
   simp only[cond_true,q4a hE,zOb]
   exact⟨_,_,rfl,k1,h.begin⟩
  | false=>
   simp only[cond_false]
   cases decide (y<(6:Int)) with
   | true=>
    obtain⟨z,c2,e2,k2,r2⟩:=q5h k1
    simp only[cond_true,e2,zOb,p0p hE id (p6z r2)]
    refine⟨_,_,rfl,k2,?_⟩
    have:=h.look (id:=id) (r:=(z,z)) (right:=u78 z) (fun hk=>by rw[p2q];exact hk) ⟨r2,r2⟩
    unfold o3d
    split<;>exact this
   | false=>
   simp only[cond_false]
   cases decide (y<(7:Int)) with
   | true=>
    obtain⟨z,c2,e2,k2,r2⟩:=p44 k1
    simp only[cond_true,e2,zOb,q5n hE id ⟨p6z r2.1,p6z r2.2.1⟩]
    refine⟨_,_,rfl,k2,?_⟩
    have:=h.look (id:=id) (r:=z) (right:=u5m z) (fun hk=>hk) ⟨r2.1,r2.2.1⟩
    unfold p9n
    split<;>exact this
   | false=>
   simp only[cond_false]
   cases decide (y<(10:Int)) with
   | true=>
    obtain⟨z,c2,e2,k2,r2⟩:=p47 k1
    simp only[cond_true,e2,zOb,p0u hE id (p6z r2.1)]
    exact⟨_,_,rfl,k2,h.put r2.1⟩
   | false=>
   simp only[cond_false]
   cases decide (y<(13:Int)) with
   | true=>
    simp only[cond_true,q31 hE h.log,zOb]
    exact⟨_,_,rfl,k1,h.commit id⟩
   | false=>
   simp only[cond_false]
   cases decide (y=(13:Int)) with
   | true=>
    obtain⟨z,c2,e2,k2,r2⟩:=q5k k1 (l:=PQR) (by decide)
    have hz:=p11 r2
    simp only[cond_true,e2,zOb,q1p hE h.log id (show z.size≤1048576 by omega)]
    exact⟨_,_,rfl,k2,h.prep id r2⟩
   | false=>
   simp only[cond_false]
   cases decide (y=(14:Int)) with
   | true=>
    obtain⟨z,c2,e2,k2,r2⟩:=q5k k1 (l:=PQR) (by decide)
    obtain⟨z2,c3,e3,k3,r3⟩:=q5j k2 (n:=2) (by omega)
    simp only[cond_true,e2,e3,zOb,q32 hE h.log (p11 r2)]
    exact⟨_,_,rfl,k3,h.fin z z2⟩
   | false=>
    obtain⟨z2,c3,e3,k3,r3⟩:=q5j k1 (n:=3) (by omega)
    simp only[cond_false,e3,zOb]
    cases z2 with
    | true=>
     simp only[cond_true,p6x hE h.log,zOb]
     exact⟨_,_,rfl,k3,h.fix⟩
    | false=>
     simp only[cond_false,p27 hE,zOb]
     exact⟨_,_,rfl,k3,h.leave id⟩
 cases decide (id=0) with
 | true=>simp only[cond_true];exact key true
 | false=>simp only[cond_false];exact key _
theorem p45 {k:Nat} {s:u13} (h:SttN k s) {c:Src} (hc:c.ok):DrS (s25 (c,s)) (k+1):=by
 rw[q3x];unfold r2u
 cases hd:decide ((s.1.2.length:Int) >0) with
 | true=>
  have hl:0<s.1.2.length:=by simpa using hd
  obtain⟨y,c1,e1,k1,r1⟩:=s4z hc (n:=(s.1.2.length:Int)) (by omega)
  obtain⟨i,rfl⟩:∃i:Nat,y=(i:Int):=⟨y.toNat,by omega⟩
  have hi:i<s.1.2.length:=by omega
  simp only[hd,cond_true,e1,zOb,y7t hi]
  exact q91 h _ k1
 | false=>
  simp only[hd,cond_false]
  exact q91 h 0 hc
theorem p46 (m:Nat) (hm:1≤m∧m≤1000) {c:Src} (hc:c.ok):∃(s:u13) (c' :Src),t8i (c,(m:Int))=some (s,c')∧c'.ok∧SttN (m+1) s:=by
 have key:∀(d i:Nat) (c:Src) (j s:u13),c.ok→SttN i s→m+2≤i+d→i≤m+1→ ∃(c' :Src) (s' :u13),t0q (c,(m:Int),j,s,(i:Int))=some (.inl (c',j,s'))∧c'.ok∧SttN (m+1) s' :=by
  intro d
  induction d with
  | zero=>intro i c j s _ _ h1 h2;omega
  | succ d ih=>
   intro i c j s hc hs hd hi
   obtain⟨y,c1,e1,k1,r1⟩:=s4z hc (n:=(m:Int)) (by omega)
   rw[r9m]
   simp only[t82,e1,zOb]
   rw[y4y (n:=2+y) (by omega) (by omega)]
   by_cases hy:(i:Int)<2+y
   ·obtain⟨c2,s2,e2,k2,r2⟩:=p45 hs k1
    simp only[hy,decide_true,cond_true,e2,zOb]
    rw[y7l (by omega)]
    exact ih (i+1) c2 j s2 k2 r2 (by omega) (by omega)
   ·simp only[hy,decide_false,cond_false]
    exact⟨_,_,rfl,k1,hs.mono hi⟩
 obtain⟨s0,e0,h0⟩:=q5o
 obtain⟨c',s',e1,k1,r1⟩:=key (m+2) 0 c (((([], [], [],0,0):u0h), []),([], [])) s0 hc h0 (by omega) (by omega)
 rw[q3y];unfold r2v
 have e1:t0q (c,(m:Int),(((([], [], [],0,0):u0h), []),([], [])),s0,0)=_:=e1
 simp only[e0,e1,zOb]
 exact⟨_,_,rfl,k1,r1⟩
end
section
theorem q7p (t:u0d) (l:List u0d) (ht:s76 t) (hl:r6u l):s2o (t,l)=some (s9f t l):=by
 obtain⟨l1,l2⟩:=hl
 have hq:∀x∈l,t5b (x,t)=some (!decide (x.1=t.1)&&((decide (x.2.1=2) || (decide (x.2.1=3)&&decide (x.2.2.2.1 >t.2.2.1)))&&s5g x.2.2.2.2.2.1 t.2.2.2.2.2.1)):=fun x hx=>by
  have h1:=p28 x.2.2.2.2.2.1 t.2.2.2.2.2.1 (u77 (l2 x hx).2) (u77 ht.2)
  rw[r8x];unfold s5w
  simp only[u9f,t9w,t6g,zOb,h1]
  cases decide (x.1=t.1)<;>cases decide (x.2.1=2)<;>cases decide (x.2.1=3)<;>cases decide (x.2.2.2.1 >t.2.2.1)<;>cases s5g x.2.2.2.2.2.1 t.2.2.2.2.2.1<;>rfl
 have L:=Q.first (T:=u1u) (c:=u0d) (W:=u07) (q:=t5b) (p:=fun x:u0d=> !decide (x.1=t.1)&&((decide (x.2.1=2) || (decide (x.2.1=3)&&decide (x.2.2.2.1 >t.2.2.1)))&&s5g x.2.2.2.2.2.1 t.2.2.2.2.2.1)) (fun x=>u88 x) l t (by omega) hq
 rw[q2k];unfold r08 s9f
 simp only[s1d,t3q,u8p,u3d,t0v,u4t,L,zOb]
 rw[←u9u]
 clear L hq
 split<;>rename_i hc<;>split at hc<;>simp_all<;>omega
theorem q7v (t:u0d) (l:List u0d) (ht:s76 t) (hl:r6u l):s5j (t,l)=some (p0b t l):=by
 obtain⟨l1,l2⟩:=hl
 have hq:∀x∈l,t90 (x,t)=some (p09 x&&ahead x t):=fun x hx=>by
  have h1:=t04 x t (u77 (l2 x hx).1) (u77 ht.2)
  rw[q54];unfold r4g
  simp only[u9f,t9w,t6g,zOb,h1,p09]
  cases decide (x.2.1=2)<;>cases decide (x.2.1=3)<;>cases ahead x t<;>rfl
 have L:=Q.first (T:=u1u) (c:=u0d) (W:=u1m) (q:=t90) (p:=fun x:u0d=>p09 x&&ahead x t) (fun x=>t1c x) l t (by omega) hq
 rw[p03];unfold r97 p0b
 simp only[s5a,t6h,t0t,u4r,t2a,u5w,L,zOb]
 rw[←u9u]
 clear L hq
 split<;>rename_i hc<;>split at hc<;>simp_all<;>omega
def q0k (t:u0d) (l:List u0d):Bool:=s2k (fun _=>true) t l
theorem q7r (t:u0d) (l:List u0d) (ht:s76 t) (hl:r6u l):u7y (l,t)=some (l.any fun x=>p09 x&&(x.2.2.2.2.2.2.1&&ahead t x)):=by
 obtain⟨l1,l2⟩:=hl
 have hq:∀x∈l,t6o (x,t)=some (p09 x&&(x.2.2.2.2.2.2.1&&ahead t x)):=fun x hx=>by
  have h1:=t04 t x (u77 ht.1) (u77 (l2 x hx).2)
  rw[q0n];unfold s8j
  simp only[u9f,t9w,t6g,zOb,h1,p09]
  cases decide (x.2.1=2)<;>cases decide (x.2.1=3)<;>cases x.2.2.2.2.2.2.1<;>cases ahead t x<;>rfl
 have L:=Q.first (T:=u1u) (c:=u0d) (W:=u1d) (q:=t6o) (p:=fun x:u0d=>p09 x&&(x.2.2.2.2.2.2.1&&ahead t x)) (fun x=>u91 x) l t (by omega) hq
 simp only[s2l,t33,u85,u3v,t07,u49,L,zOb]
 rw[←u9u]
 clear L hq
 split<;>rename_i hc<;>split at hc<;>simp_all<;>omega
theorem q5d (p:u0d) (l:List u0d) (ht:s76 p) (hl:r6u l):u6y (l,p)=some (l.any fun x=>decide (x.2.1=2)&&ahead x p):=by
 obtain⟨l1,l2⟩:=hl
 have hq:∀x∈l,t3g (x,p)=some (decide (x.2.1=2)&&ahead x p):=fun x hx=>by
  have h1:=t04 x p (u77 (l2 x hx).1) (u77 ht.2)
  rw[r6i];unfold s3b
  simp only[u9f,zOb,h1]
  cases decide (x.2.1=2)<;>cases ahead x p<;>rfl
 have L:=Q.first (T:=u1u) (c:=u0d) (W:=u02) (q:=t3g) (p:=fun x:u0d=>decide (x.2.1=2)&&ahead x p) (fun x=>u84 x) l p (by omega) hq
 simp only[s0f,t18,u74,u21,u9t,u4g,L,zOb]
 rw[←u9u]
 clear L hq
 split<;>rename_i hc<;>split at hc<;>simp_all<;>omega
theorem q7s (t:u0d) (l:List u0d) (ht:s76 t) (hl:r6u l):u7z (l,t,l)=some (l.any fun p=>decide (p.2.1=2)&&(ahead p t&&(ahead t p || l.any fun x=>decide (x.2.1=2)&&ahead x p))):=by
 have hl' :=hl
 obtain⟨l1,l2⟩:=hl
 have hq:∀p∈l,t6p (p,t,l)=some (decide (p.2.1=2)&&(ahead p t&&(ahead t p || l.any fun x=>decide (x.2.1=2)&&ahead x p))):=fun p hx=>by
  have h1:=t04 t p (u77 ht.1) (u77 (l2 p hx).2)
  have h2:=t04 p t (u77 (l2 p hx).1) (u77 ht.2)
  have h3:=q5d p l (l2 p hx) hl'
  rw[q0o];unfold s8k
  simp only[u9f,zOb,h1,h2,h3]
  cases decide (p.2.1=2)<;>cases ahead p t<;>cases ahead t p<;>cases (l.any fun x=>decide (x.2.1=2)&&ahead x p)<;>rfl
 have L:=Q.first (T:=u1u) (c:=u0d×List u0d) (W:=u1e) (q:=t6p) (p:=fun p:u0d=>decide (p.2.1=2)&&(ahead p t&&(ahead t p || l.any fun x=>decide (x.2.1=2)&&ahead x p))) (fun x=>u92 x) l (t,l) (by omega) hq
 simp only[s2m,t34,u86,u3w,t08,u5a,L,zOb]
 rw[←u9u]
 clear L hq
 split<;>rename_i hc<;>split at hc<;>simp_all<;>omega
theorem r9w (t:u0d) (l:List u0d) (ht:s76 t) (hl:r6u l):t9z (t,l)=some (q0k t l):=by
 rw[q52];unfold r4e q0k s2k
 simp only[q7v t l ht hl,r58 t l ht hl,q7r t l ht hl,q7s t l ht hl,zOb,Bool.true_and]
 cases p0b t l<;>cases s78 t l<;>cases (l.any fun x=>p09 x&&(x.2.2.2.2.2.2.1&&ahead t x))<;>cases (l.any fun p=>decide (p.2.1=2)&&(ahead p t&&(ahead t p || l.any fun x=>decide (x.2.1=2)&&ahead x p)))<;>rfl
theorem q73 (t:u0d) (l:List u0d) (ht:s76 t) (hl:r6u l):u5z (l,t)=some (l.any fun x=>decide (x.2.1=2)&&ahead t x):=by
 obtain⟨l1,l2⟩:=hl
 have hq:∀x∈l,u6g (x,t)=some (decide (x.2.1=2)&&ahead t x):=fun x hx=>by
  have h1:=t04 t x (u77 ht.1) (u77 (l2 x hx).2)
  rw[t9k];unfold t3u
  simp only[u9f,zOb,h1]
  cases decide (x.2.1=2)<;>cases ahead t x<;>rfl
 have L:=Q.first (T:=u1u) (c:=u0d) (W:=u0v) (q:=u6g) (p:=fun x:u0d=>decide (x.2.1=2)&&ahead t x) (fun x=>u7t x) l t (by omega) hq
 simp only[t8n,u9d,u64,u2l,u75,u22,L,zOb]
 rw[←u9u]
 clear L hq
 split<;>rename_i hc<;>split at hc<;>simp_all<;>omega
theorem q5m (t p:u0d) (l:List u0d) (ht:s76 p) (hl:r6u l):u46 (l,t,p)=some (l.any fun y=>decide (y.2.1=2)&&(!decide (y.1=t.1)&&ahead p y)):=by
 obtain⟨l1,l2⟩:=hl
 have hq:∀x∈l,u61 (x,t,p)=some (decide (x.2.1=2)&&(!decide (x.1=t.1)&&ahead p x)):=fun x hx=>by
  have h1:=t04 p x (u77 ht.1) (u77 (l2 x hx).2)
  rw[s74];unfold t68
  simp only[u9f,zOb,h1]
  cases decide (x.2.1=2)<;>cases decide (x.1=t.1)<;>cases ahead p x<;>rfl
 have L:=Q.first (T:=u1u) (c:=u0d×u0d) (W:=u0u) (q:=u61) (p:=fun x:u0d=>decide (x.2.1=2)&&(!decide (x.1=t.1)&&ahead p x)) (fun x=>u63 x) l (t,p) (by omega) hq
 simp only[t67,u72,u6v,u2a,u7q,u2r,L,zOb]
 rw[←u9u]
 clear L hq
 split<;>rename_i hc<;>split at hc<;>simp_all<;>omega
theorem q74 (t:u0d) (l:List u0d) (ht:s76 t) (hl:r6u l):u2u (l,t,l,t)=some (l.any fun x=>(decide (x.2.1=2)&&ahead t x)&&l.any fun y=>decide (y.2.1=2)&&(!decide (y.1=t.1)&&ahead x y)):=by
 have hl' :=hl
 obtain⟨l1,l2⟩:=hl
 have hq:∀p∈l,u8f (p,t,l,t)=some ((decide (p.2.1=2)&&ahead t p)&&l.any fun y=>decide (y.2.1=2)&&(!decide (y.1=t.1)&&ahead p y)):=fun p hx=>by
  have h1:=t04 t p (u77 ht.1) (u77 (l2 p hx).2)
  have h3:=q5m t p l (l2 p hx) hl'
  rw[r00];unfold t9h
  simp only[t9k,t3u,u9f,zOb,h1,h3]
  cases decide (p.2.1=2)<;>cases ahead t p<;>cases (l.any fun y=>decide (y.2.1=2)&&(!decide (y.1=t.1)&&ahead p y))<;>rfl
 have L:=Q.first (T:=u1u) (c:=u0d×List u0d×u0d) (W:=u0w) (q:=u8f) (p:=fun x:u0d=>(decide (x.2.1=2)&&ahead t x)&&l.any fun y=>decide (y.2.1=2)&&(!decide (y.1=t.1)&&ahead x y)) (fun x=>u7u x) l (t,l,t) (by omega) hq
 simp only[t8o,u9e,u65,u2m,u76,u23,L,zOb]
 rw[←u9u]
 clear L hq
 split<;>rename_i hc<;>split at hc<;>simp_all<;>omega
theorem r8p (t:u0d) (l:List u0d) (ht:s76 t) (hl:r6u l):t6r (t,l)=some (t5w (fun _=>true) t l):=by
 rw[r5h];unfold s1m t5w
 have e:s2k (fun _=>true) t l=q0k t l:=rfl
 simp only[r9w t l ht hl,q7v t l ht hl,q73 t l ht hl,q74 t l ht hl,zOb,e]
 cases q0k t l<;>cases p0b t l<;>cases (l.any fun x=>decide (x.2.1=2)&&ahead t x)<;>cases (l.any fun x=>(decide (x.2.1=2)&&ahead t x)&&l.any fun y=>decide (y.2.1=2)&&(!decide (y.1=t.1)&&ahead x y))<;>rfl
theorem r75 {f g:u0d→Bool} {t:u0d} {l:List u0d} (h:∀x∈l,f x=g x):s2k f t l=s2k g t l:=by
 unfold s2k
 have e:∀p:u0d,(l.any fun x=>decide (x.2.1=2)&&(f x&&ahead x p))=l.any fun x=>decide (x.2.1=2)&&(g x&&ahead x p):=fun p=>by
  rw[Bool.eq_iff_iff,List.any_eq_true,List.any_eq_true]
  constructor<;>rintro⟨x,hx,q⟩<;>exact⟨x,hx,by rw[h x hx] at*;exact q⟩
 simp only[e]
end
section
theorem p0m {e:u1w} (h:EngR e):u3k e=some e:=p23 e.1 e.2 h.fewB h.fewO
theorem s8f {e:u1w} (h:EngR e) (id:Int):u6k (e,id)=some (e.1,t1u e id):=by
 have ho:=h.olen
 have h1:=p0m h
 have h2:=q2f e.2 id (by omega)
 rw[q2v];unfold r1i
 simp only[h1,h2,zOb]
 rfl
theorem q4f {e:u1w} (h:EngR e) (id:Int):t2g (e,id)=some (s4a e id):=by
 have ho:=h.olen
 have h1:=s8f h id
 have h2:=s42 e id (by omega)
 have h3:=s0a e.1 (t1u e id) h.fewB (by have:=q66 e id;omega)
 rw[q8m];unfold r7m s4a
 simp only[h1,h2,zOb]
 by_cases hn:u5o e.2 id<0
 ·simp only[hn,decide_true,cond_true,if_true,p57 hn]
 ·simp only[hn,decide_false,cond_false,if_false,h3,zOb]
  rfl
theorem q4h {e:u1w} (h:EngR e):t8u e=some (u73 e):=by
 have h1:=h.base.plen
 have h2:=h.base.rlen
 have e1: [e.1.2.1,e.1.2.2.1].flatten=u73 e:=by simp[u73]
 have L:=p22 [e.1.2.1,e.1.2.2.1] (by rw[e1];simp only[u73,List.length_append];omega) (by simp)
 rw[e1] at L
 rw[q8p];unfold r7p
 simp only[L,zOb]
theorem EngR.unlike {e:u1w} (h:EngR e) {t:u0d} (ht:t∈e.2):∀x∈u73 e,(!decide (x.1=t.1))=true:=fun x hx=>by
 have:=h.apart x hx t ht
 simpa using this
theorem p01 {e:u1w} (h:EngR e) {t:u0d} (ht:t∈e.2):q0k t (u73 e)=r2x t (u73 e):=
 r75 fun x hx=>(h.unlike ht x hx).symm
theorem r9k {e:u1w} (h:EngR e) {t:u0d} (ht:t∈e.2):t5w (fun _=>true) t (u73 e)=t2l t (u73 e):=by
 unfold t2l t5w
 rw[r75 (f:=fun _=>true) (g:=fun x=> !decide (x.1=t.1)) fun x hx=>(h.unlike ht x hx).symm]
theorem q4d {e:u1w} (h:EngR e) (id:Int):s12 (e,id)=some (s1e e id):=by
 have ho:=h.olen
 have h2:=s42 e id (by omega)
 have h3:=q4h h
 have h4:=q86 e.1
 rw[q8k];unfold r7k s1e
 simp only[h2,h3,zOb]
 by_cases hn:u5o e.2 id<0
 ·simp only[hn,decide_true,cond_true,if_true]
 ·obtain⟨j,hj,e1,e2,e3⟩:=u1o hn
  have hm:=List.getElem_mem hj
  have hT:=(h.ot hm).few
  simp only[hn,decide_false,cond_false,if_false,e1,y7t hj,cond_true,zTn,y8k (t:=u1u) hj,q7p _ _ hT h.fewOth,r9w _ _ hT h.fewOth,p01 h hm,h4,zOb,e2]
  have hn' : ¬((j:Int)<0):=by omega
  simp only[hn',decide_false,cond_false,if_false]
  cases s9f e.2[j] (u73 e)<;>cases r2x e.2[j] (u73 e)<;>cases s2n e.1<;>rfl
theorem p12 {e:u1w} (h:EngR e) {t:u0d} (ht:t∈e.2∨t∈e.1.2.2.1):t37 (e.1,t)=some (u1k e.1 t):=by
 have hT:TxnR t:=by
  rcases ht with q | q
  ·exact(h.open_ t q).1
  ·exact(h.base.ready t q).1
 rw[q76 e.1 t h.fewB hT.tiny.few,q16 h.mids (r31 hT.id)]
theorem q9e {e:u1w} {id:Int} (h: ¬u5o e.2 id<0):s4a e id=(t5r e id,0):=by unfold s4a;rw[if_neg h]
theorem p1e {e:u1w} {id:Int} (h:u5o e.2 id<0):s4a e id=(e,1):=by unfold s4a;rw[if_pos h]
theorem p0k {e:u1w} (h:EngR e) (id:Int):s5i (e,id)=some (u27 e id):=by
 have ho:=h.olen
 have h2:=s42 e id (by omega)
 have hJ:=q4d h id
 have hO:=q4f h id
 have hW:=s8f h id
 rw[q51];unfold r4d u27
 simp only[hJ,zOb]
 by_cases c1:s1e e id=1
 ·have d:decide ((1:Int)=0)=false:=by decide
  simp only[c1,d,Bool.not_false,cond_true,hO,zOb,if_true,p1e (o3e.mp c1)]
  rfl
 ·by_cases c0:s1e e id=0
  ·obtain⟨hn,_,_,_⟩:=s5e c0
   obtain⟨j,hj,e1,e2,e3⟩:=u1o hn
   have hm:e.2[j] ∈e.2∨e.2[j] ∈e.1.2.2.1:= .inl (List.getElem_mem hj)
   have hT:=p12 h hm
   obtain⟨k,hk,f1,f2⟩:=q9m e.1 e.2[j] (by have:=h.base.plen;omega)
   have hC:=s8b (t0s e.1 e.2[j]) (q8i (h.ot (List.getElem_mem hj)).few)
   have hO2:=s0a (u1k e.1 e.2[j]) (t1u e id) (r9p h hm).few (by have:=q66 e id;omega)
   have d: ¬((0:Int)=1):=by decide
   simp only[c0,d,decide_true,Bool.not_true,cond_false,if_true,if_false,h2,e1,y7t hj,cond_true,zTn,y8k (t:=u1u) hj,hW,hT,f1,y7t hk,y8k (t:=u1u) hk,f2,hC,hO2,zOb,e2]
   show some _=some (r3v e e.2[j],_)
   unfold r3v t1u
   rw[e3]
   rfl
  ·have hn: ¬u5o e.2 id<0:=fun q=>c1 (o3e.mpr q)
   simp only[c1,c0,decide_false,Bool.not_false,cond_true,if_false,hO,zOb,q9e hn]
   rfl
theorem q71 {e:u1w} (h:EngR e) (id:Int) {n:ByteArray} (hn1:n.size≤1048576):t36 (e,id,n)=some (t5k e id n):=by
 have ho:=h.olen
 have h1:=p0m h
 have h2:=s42 e id (by omega)
 have hK:=p26 n (by unfold u0p;omega)
 have hA:u1v (e.1,n)=some (u0q e.1 n):=s1i e.1 n (by have:=h.base.rlen;omega)
 have hJ:=q4d h id
 have hL:=q4h h
 have hO:=q4f h id
 have hW:=s8f h id
 rw[q2o];unfold r1c t5k
 simp only[h1,h2,zOb]
 by_cases c1:u5o e.2 id<0
 ·simp only[c1,decide_true,cond_true,if_true]
  rfl
 rw[q9e c1] at hO
 simp only[c1,decide_false,cond_false,if_false,hK,zOb]
 cases c2:u78 n with
 | false=>simp only[Bool.not_false,cond_true,if_true];rfl
 | true=>
 simp only[Bool.not_true,cond_false,Bool.true_eq_false,if_false,hA,zOb]
 by_cases c3:0≤u0q e.1 n
 ·have c3' :decide (u0q e.1 n≥0)=true:=by simpa using c3
  simp only[c3,c3',cond_true,if_true]
  rfl
 have c3' :decide (u0q e.1 n≥0)=false:=by simpa using c3
 simp only[c3,c3',cond_false,if_false,hJ,zOb]
 unfold t6m
 by_cases c4:s1e e id=0
 ·obtain⟨j,hj,e1,e2,e3⟩:=u1o c1
  have hm:=List.getElem_mem hj
  have hT:=(h.ot hm)
  have hTR:=(h.open_ _ hm).1
  have hD:=r8p e.2[j] (u73 e) hT.few h.fewOth
  rw[r9k h hm] at hD
  have hr:=h.base.rlen
  simp only[c4,decide_true,e1,y7t hj,cond_true,zTn,y8k (t:=u1u) hj,hL,hD,zOb,e2,ne_eq,not_true_eq_false,if_false]
  cases c5:t2l e.2[j] (u73 e) with
  | true=>
   have d5:decide ((5:Int)=0)=false:=by decide
   simp only[cond_true,d5,cond_false,zOb,Bool.not_false,hO,if_true]
   rfl
  | false=>
   simp only[cond_false,zOb,Bool.false_eq_true,if_false]
   have e6:decide ((e.1.2.2.1.length:Int)≥3)=decide (3≤e.1.2.2.1.length):=by simp;omega
   simp only[e6]
   by_cases c6:3≤e.1.2.2.1.length
   ·have d3:decide ((3:Int)=0)=false:=by decide
    simp only[c6,decide_true,cond_true,d3,Bool.not_false,hO,zOb,if_true]
    rfl
   ·have hM:=q2g e.1 e.2[j] n h.fewB hT.few (r31 hTR.id)
    obtain⟨k,hk,f1,f2⟩:=r8c (t:=e.2[j]) c3
    have hns:n.size≤100:=by have:=(u3e c2).2;omega
    have hMt:=r64 (t:=e.2[j]) h.base hT hns
    have hA2:u1v (u1r e.1 e.2[j] n,n)=some ((k:Nat):Int):=by rw[s1i _ n (by have:=hMt.rl;omega),f1]
    have hC:=s8b (u20 e.1 e.2[j] n) hT.few
    have hO2:=s0a (u1r e.1 e.2[j] n) (t1u e id) hMt.few (by have:=q66 e id;omega)
    simp only[c6,decide_false,cond_false,decide_true,Bool.not_true,hW,y7t hj,cond_true,y8k (t:=u1u) hj,hM,hA2,y7t hk,zTn,y8k (t:=u1u) hk,f2,hC,hO2,zOb,if_false,if_true]
    show some _=some (r9i e e.2[j] n,_)
    unfold r9i t1u
    rw[e3]
    rfl
 ·simp only[c4,decide_false,cond_false,zOb,Bool.not_false,cond_true,hO,ne_eq,not_false_eq_true,if_true,if_false]
  rfl
theorem s41 {e:u1w} (h:EngR e) (n:ByteArray) (yes:Bool):u7r (e,n,yes)=some (s77 e n yes):=by
 have ho:=h.olen
 have h1:=p0m h
 have hA:u1v (e.1,n)=some (u0q e.1 n):=s1i e.1 n (by have:=h.base.rlen;omega)
 have hF:=q86 e.1
 have hG:=q7t e.1 n h.fewB
 have hG2:=s0a (t84 e.1 n) e.2 (r6v h.tinyO).few (by omega)
 rw[q53];unfold r4f s77
 simp only[h1,hA,hF,zOb]
 by_cases c1:u0q e.1 n<0
 ·simp only[c1,decide_true,cond_true,if_true]
  rfl
 obtain⟨k,hk,f1,f2⟩:=t2k c1
 simp only[c1,decide_false,cond_false,if_false]
 cases yes with
 | false=>simp only[cond_false,zOb,hG,hG2,Bool.false_eq_true,false_and,if_false];rfl
 | true=>
  have hm:e.1.2.2.1[k] ∈e.2∨e.1.2.2.1[k] ∈e.1.2.2.1:= .inr (List.getElem_mem hk)
  have hT:=p12 h hm
  have hT2:=s0a (u1k e.1 e.1.2.2.1[k]) e.2 (r9p h hm).few (by omega)
  simp only[cond_true,true_and]
  cases s2n e.1 with
  | true=>rfl
  | false=>
   simp only[cond_false,Bool.false_eq_true,if_false,if_true,f1,y7t hk,cond_true,zTn,y8k (t:=u1u) hk,hT,hT2,zOb]
   rfl
end
section
theorem p8g {l:List u2j} (hA:VAsc l) {a s:Int} (h:a≤s) (k v:ByteArray):
 (∃x∈u15 l a,x.1=k∧vCs x≤s∧x.2.2.1=false∧x.2.1=v∧ ∀y∈u15 l a,y.1=k→vCs y≤s→vCs y≤vCs x)↔
 ∃x∈l,x.1=k∧vCs x≤s∧x.2.2.1=false∧x.2.1=v∧ ∀y∈l,y.1=k→vCs y≤s→vCs y≤vCs x:=by
 constructor
 ·rintro⟨x,hx,h1,h2,h3,h4,h5⟩
  obtain⟨m1,m2⟩:=(u5l hA).mp hx
  refine⟨x,m1,h1,h2,h3,h4,fun y hy q1 q2=> ?_⟩
  obtain⟨z,hz,z1,z2,z3⟩:=p5m (s:=s) (k:=k) l ⟨y,hy,q1,q2⟩
  have hzy:=z3 y hy q1 q2
  have hzx:=z3 x m1 h1 h2
  by_cases hza:vCs z >a
  ·have:=h5 z ((u5l hA).mpr ⟨hz, .inl hza⟩) z1 z2
   omega
  ·rcases m2 with c | ⟨c,_⟩
   ·omega
   ·have:=c.2 z hz (z1.trans h1.symm) (by omega)
    omega
 ·rintro⟨x,hx,h1,h2,h3,h4,h5⟩
  refine⟨x,(u5l hA).mpr ⟨hx,?_⟩,h1,h2,h3,h4,fun y hy q1 q2=>h5 y ((u5l hA).mp hy).1 q1 q2⟩
  by_cases c:vCs x >a
  ·exact .inl c
  ·exact .inr ⟨⟨by omega,fun y hy q1 q2=>h5 y hy (q1.trans h1) (by omega)⟩, .inl h3⟩
theorem p7p {r s:List PrT} (h1:PAsc r) (h2:PAsc s) (h:∀k v,(k,v)∈r↔(k,v)∈s):r=s:=by
 refine p55 (r:=fun a b:PrT=>y3c a.1 b.1=true) (fun x=>by rw[u9z];simp) (fun x y q=>by rw[s5t q];simp) h1 h2 fun x=>h x.1 x.2
theorem p1r {l:List u2j} (hA:VAsc l) {a s:Int} (h:a≤s) (r:s28):s0z (u15 l a) r s=s0z l r s:=by
 refine p7p (p2r _ _ _) (p2r _ _ _) fun k v=> ?_
 rw[p2e _ _ _ _ _ (t5l hA a).uni,p2e _ _ _ _ _ hA.uni,p8g hA h k v]
theorem BaseR.asc {b:u0h} (h:BaseR b):VAsc b.1:=(p6s.mp h.vs).2.1
theorem p1v {b:u0h} (h:BaseR b) (o:List u0d) (r:s28):s0z (u5q b o).1 r b.2.2.2.1=s0z b.1 r b.2.2.2.1:=p1r h.asc (q9k b o) r
theorem q5e {l:List Int} (hl:l.length≤1048576):∃e id,t7h l=some (e,id)∧EngR e∧ ¬u5o e.2 id<0∧DomE e∧Num 24 e∧RN e:=by
 obtain⟨s,e1,k1⟩:=o0p hl
 obtain⟨st,c1,e2,k2,r2⟩:=p46 22 (by omega) k1
 have e2:t8i (s,22)=some (st,c1):=e2
 have e3:t9b s=some (st.1,c1):=by
  rw[r9f];unfold s6b
  simp only[e2,zOb]
 have has:∀(e:u1w) (i:Nat) (hi:i<e.2.length),¬u5o e.2 e.2[i].1<0:=fun e i hi q=>o0f.mp q _ (List.getElem_mem hi) rfl
 rw[r6l];unfold s3e
 simp only[e1,e3,zOb]
 cases hd:decide ((st.1.2.length:Int)=0) with
 | true=>
  have h0:st.1.2.length=0:=by simpa using hd
  have hn:st.1.1.2.2.2.2<9999:=by
   have:=r2.num.2
   have e:((22+1:Nat):Int)=23:=rfl
   omega
  have hb:t9j st.1=(q0g st.1,st.1.1.2.2.2.2,0):=by unfold t9j;rw[if_pos ⟨by omega,hn⟩]
  have hl1:(q0g st.1).2.length=1:=by unfold q0g;rw[List.length_append,h0];rfl
  have hN:=(r2.num.begin:Num (23+1) (t9j st.1).1)
  rw[hb] at hN
  have hR:=p18 r2.eng
  rw[hb] at hR
  have hD:=r2.dom.begin
  rw[hb] at hD
  have hM:=r2.rn.begin
  rw[hb] at hM
  simp only[cond_true,q4a r2.eng,hb,zOb]
  obtain⟨y,c2,e4,k4,r4⟩:=s4z k2 (n:=((q0g st.1).2.length:Int)) (by omega)
  obtain⟨i,rfl⟩:∃i:Nat,y=(i:Int):=⟨y.toNat,by omega⟩
  have hi:i<(q0g st.1).2.length:=by omega
  simp only[e4,zOb,y7t hi,cond_true,zTn,y8k (t:=u1u) hi]
  exact⟨_,_,rfl,hR,has _ i hi,hD,hN,hM⟩
 | false=>
  have h0:st.1.2.length≠0:=by simpa using hd
  obtain⟨y,c2,e4,k4,r4⟩:=s4z k2 (n:=(st.1.2.length:Int)) (by omega)
  obtain⟨i,rfl⟩:∃i:Nat,y=(i:Int):=⟨y.toNat,by omega⟩
  have hi:i<st.1.2.length:=by omega
  simp only[cond_false,e4,zOb,y7t hi,cond_true,zTn,y8k (t:=u1u) hi]
  exact⟨_,_,rfl,r2.eng,has _ i hi,r2.dom,r2.num.mono (by omega),r2.rn⟩
end
section
theorem q9x (a b:List PrT) (ha:a.length≤1099511627776):t86 (a,b)=some (decide (a=b)):=by
 rw[r84];unfold s50
 by_cases h:a.length=b.length
 ·have hz:(a.zip b).length=a.length:=by simp[h]
  have L:=s47 t1m (a.zip b) (fun i=>(a,b,i)) (fun p=> !(z7o p.1.1 p.2.1&&(z7o p.1.2 p.2.2&&true))) (.inr false) (.inl ())
   (by rw[s2c,hz];simp only[t1f,u0b,Nat.lt_irrefl,decide_false,cond_false])
   (fun i hi=>by
    have hi1:i<a.length:=by omega
    have hi2:i<b.length:=by omega
    rw[s2c];simp only[t1f,u0b,hi1,decide_true,cond_true,y7t hi1,y7t hi2,zTn,y8k (t:=o0u) hi1,y8k (t:=o0u) hi2,List.getElem_zip]
    rw[y7l (by omega)])
  have e1:decide ((a.length:Int)=(b.length:Int))=true:=by simp[h]
  simp only[e1,Bool.not_true,cond_false,L,zOb]
  rw[←p5v h]
  cases (a.zip b).any fun p=> !(z7o p.1.1 p.2.1&&(z7o p.1.2 p.2.2&&true))<;>rfl
 ·have e1:decide ((a.length:Int)=(b.length:Int))=false:=by simp;omega
  have e2:decide (a=b)=false:=by
   rw[decide_eq_false_iff_not];intro e;exact h (by rw[e])
  rw[e1,e2];rfl
theorem Num.leave {k:Nat} {e:u1w} (h:Num k e) (id:Int):Num k (t5r e id):=h
end
section
def kZz:ByteArray:=⟨#[122,122]⟩
theorem p8n {y:ByteArray} (h:y∈PQR):y≠kZz:=by
 simp only[PQR,List.mem_cons,List.not_mem_nil,or_false] at h
 rcases h with rfl | rfl | rfl<;>decide
theorem p31 {b:u0h} {n:ByteArray} (h:u0q b n<0):u0q b n= -1:=by
 unfold u0q at h ⊢
 split at h
 ·omega
 ·rename_i c;rw[if_neg c]
theorem RN.neg {e:u1w} (h:RN e):u0q e.1 kZz<0:=p9m.mpr fun x hx=>p8n (h x hx)
def hasZ (e:u1w):Prop:= ∃x∈e.1.2.2.1,x.2.2.2.2.2.2.2=kZz
theorem hasZ.commit {e:u1w} (hE:EngR e) (h:hasZ e) (id:Int):hasZ (u27 e id).1:=by
 unfold u27
 split
 ·exact h
 ·split
  ·rename_i c1 c0
   obtain⟨hn,_,_,_⟩:=s5e c0
   obtain⟨j,hj,e1,e2,e3⟩:=u1o hn
   obtain⟨x,hx,hz⟩:=h
   have ha:=hE.apart x (List.mem_append_right _ hx) _ (List.getElem_mem hj)
   rw[e2]
   refine⟨r3y (t0s e.1 e.2[j]) x,?_,hz⟩
   show _∈(e.1.2.2.1.filter fun x=> !decide (x.1=e.2[j].1)).map (r3y (t0s e.1 e.2[j]))
   exact List.mem_map.mpr ⟨x,List.mem_filter.mpr ⟨hx,by simpa using ha⟩,rfl⟩
  ·exact h
theorem hasZ.get {e:u1w} (h:hasZ e): ¬u0q e.1 kZz<0:=fun q=>by
 obtain⟨x,hx,hz⟩:=h
 exact p9m.mp q x hx hz
theorem p7r {e:u1w} (h:EngR e) (hr:RN e) {id:Int} (c:t6m e id=0) (hid: ¬u5o e.2 id<0):EngR (r9i e (u16 e id) kZz):=by
 obtain⟨j,hj,e1,e2,e3⟩:=u1o hid
 rw[e2]
 exact p8v h (List.getElem_mem hj) (by decide) (p8u c).2.2 fun x hx=>p8n (hr x hx)
theorem p9g {b:u0h} (h:s2n b=true) (hc:b.2.2.2.1<9999):(decide ((b.2.1.length:Int)≥12) || decide ((b.1.length:Int) >100))=true:=by
 unfold s2n at h
 have:decide (b.2.2.2.1≥9999)=false:=by simpa using hc
 rw[this,Bool.or_false] at h
 exact h
theorem q33 (x:List Int) (hx:(Ty.sl (.int .u8)).fine x):s4b x=some true:=by
 rw[r6k];unfold s3d
 rw[p3l];unfold q4i
 simp only[zOb]
 by_cases hb:(x.length:Int) >1048576
 ·simp only[hb,decide_true,cond_true]
 simp only[hb,decide_false,cond_false]
 obtain⟨e,id,e0,hE,hid,hD,hN,hM⟩:=q5e (l:=x) (by omega)
 have ho:=hE.olen
 have hk:u78 kZz=true:=by decide
 have hneg:=hM.neg
 have b1:t36 (e,id,kZz)=some (t5k e id kZz):=q71 hE id (by decide)
 have b1:t36 (e,id,(⟨#[122,122]⟩:ByteArray))=some (t5k e id kZz):=b1
 have hP:t5k e id kZz=if t6m e id=0 then(r9i e (u16 e id) kZz,(2,u20 e.1 (u16 e id) kZz,emp,false,u3o),0) else(t5r e id,r7d,t6m e id):=by
  unfold t5k
  rw[if_neg hid,hk,if_neg (by decide),if_neg (by omega)]
 simp only[e0,b1,zOb]
 rw[hP]
 by_cases c0:t6m e id=0
 ·rw[if_pos c0]
  simp only[decide_true,Bool.not_true,cond_false]
  have hR0:=p7r hE hM c0 hid
  have hN0:Num 25 (r9i e (u16 e id) kZz):=by
   have:=hN.prep hE id kZz
   rw[hP,if_pos c0] at this
   exact this
  have hZ0:hasZ (r9i e (u16 e id) kZz):=by
   refine⟨u20 e.1 (u16 e id) kZz,?_,rfl⟩
   show _∈(e.1.2.2.1.filter fun x=>y3c x.2.2.2.2.2.2.2 kZz)++ [u20 e.1 (u16 e id) kZz] ++(e.1.2.2.1.filter fun x=> !y3c x.2.2.2.2.2.2.2 kZz)
   simp
  obtain⟨r,hr⟩:∃r:s27,r=(2,u20 e.1 (u16 e id) kZz,emp,false,u3o):=⟨_,rfl⟩
  have hr2:r.1=2:=by rw[hr]
  rw[←hr]
  obtain⟨a0,ha0⟩:∃a0,a0=r9i e (u16 e id) kZz:=⟨_,rfl⟩
  rw[←ha0] at hR0 hN0 hZ0 ⊢
  obtain⟨f,hf⟩:∃f:u1w→u0d→u1w,f=fun a y=>if y.1=id then a else(u27 a y.1).1:=⟨_,rfl⟩
  have stp:∀(i:Nat) (a:u1w) (y:u0d),EngR a∧hasZ a∧Num (25+i) a→EngR (f a y)∧hasZ (f a y)∧Num (25+(i+1)) (f a y):=fun i a y h=>by
   rw[hf]
   simp only
   split
   ·exact⟨h.1,h.2.1,h.2.2.mono (by omega)⟩
   ·exact⟨p5f h.1 _,h.2.1.commit h.1 _,h.2.2.commit h.1 _⟩
  have L:=t59 u6u e.2 (fun(a:u1w) i=>(e,id,a,r,i)) f (fun a=> .inl (a,r)) (fun i a=>EngR a∧hasZ a∧Num (25+i) a)
   (fun a _=>by rw[s04];simp only[u9h,u0b,Nat.lt_irrefl,decide_false,cond_false])
   (fun i hi a ha=>⟨stp i a _ ha,by
    rw[s04]
    simp only[u9h,u0b,hi,decide_true,cond_true,y7t hi,zTn,y8k (t:=u1u) hi,p0k ha.1,zOb]
    rw[y7l (by omega),hf]
    by_cases q:e.2[i].1=id
    ·simp only[q,decide_true,Bool.not_true,cond_false,if_true]
    ·simp only[q,decide_false,Bool.not_false,cond_true,if_false]⟩) a0 ⟨hR0,hZ0,hN0⟩
  have key:∀(l:List u0d) (i:Nat) (a:u1w),EngR a∧hasZ a∧Num (25+i) a→EngR (l.foldl f a)∧hasZ (l.foldl f a)∧Num (25+(i+l.length)) (l.foldl f a):=by
   intro l
   induction l with
   | nil=>intro i a h;exact h
   | cons y l ih=>
    intro i a h
    have:=ih (i+1) (f a y) (stp i a y h)
    rw[List.foldl_cons,List.length_cons]
    have e' :i+(l.length+1)=i+1+l.length:=by omega
    rw[e'];exact this
  obtain⟨hR,hZ,hNn⟩:=key e.2 0 a0 ⟨hR0,hZ0,hN0⟩
  obtain⟨a,ha⟩:∃a,a=e.2.foldl f a0:=⟨_,rfl⟩
  rw[←ha] at L hR hZ hNn
  have L:u6u (e,id,a0,r,0)=_:=L
  have hg:=hZ.get
  obtain⟨k,hk1,g1,g2⟩:=t2k hg
  have hcs:a.1.2.2.2.1<9999:=by
   have:=hNn.1
   have:((25+(0+e.2.length):Nat):Int)≤29:=by omega
   omega
  have y1:=s41 hR kZz true
  have y2:=s41 hR kZz false
  have F2:s77 a kZz false=(noE a kZz,(3,u66,kZz,false,u3o),0):=by
   unfold s77
   rw[if_neg hg,if_neg (by simp),if_neg (by decide)]
  have hRc:=o5b hR kZz
  have hcn:u0q (noE a kZz).1 kZz<0:=p9m.mpr fun z hz=>by
   have hz:z∈a.1.2.2.1.filter fun z=> !z7o z.2.2.2.2.2.2.2 kZz:=hz
   have:=(List.mem_filter.mp hz).2
   intro q
   rw[q] at this
   simp[z7o] at this
  have y3:=s41 hRc kZz true
  have F3:s77 (noE a kZz) kZz true=(noE a kZz,r7d,1):=by
   unfold s77
   rw[if_pos hcn]
  rw[F2] at y2
  rw[F3] at y3
  have y1:u7r (a,(⟨#[122,122]⟩:ByteArray),true)=_:=y1
  have y2:u7r (a,(⟨#[122,122]⟩:ByteArray),false)=_:=y2
  have y3:u7r (noE a kZz,(⟨#[122,122]⟩:ByteArray),true)=_:=y3
  have hall:r0q ()=some p63:=by rw[p3k];rfl
  simp only[L,zOb,y1,y2,y3]
  cases hF:s2n a.1 with
  | true=>
   have F1:s77 a kZz true=(a,r7d,3):=by
    unfold s77
    rw[if_neg hg,if_pos ⟨rfl,hF⟩]
   rw[F1]
   have:=p9g hF hcs
   simp only[decide_true,cond_true]
   revert this
   cases decide ((a.1.2.1.length:Int)≥12)<;>cases decide ((a.1.1.length:Int) >100)<;>simp
  | false=>
   have F1:s77 a kZz true=(o1j a (rdL u1u a.1.2.2.1 (u0q a.1 kZz).toNat),(3,u66,kZz,true,u3o),0):=by
    unfold s77
    rw[if_neg hg,if_neg (by simp[hF]),if_pos rfl]
   rw[F1]
   have n1:(o1j a (rdL u1u a.1.2.2.1 (u0q a.1 kZz).toNat)).1.2.2.2.1=a.1.2.2.2.1+1:=rfl
   have n2:(noE a kZz).1.2.2.2.1=a.1.2.2.2.1:=rfl
   have w1:IntKind.i64.wrap (a.1.2.2.2.1+(1:Int))=a.1.2.2.2.1+1:=t97 hR.mids
   have d0:decide ((0:Int)=3)=false:=by decide
   have hv:=(p6s.mp hR.base.vs).2.2
   have s2:=r92 a.1.1 p63 a.1.2.2.2.1 (by omega)
   have hgu:=r5p hR.base kZz
   have hvn:=(p6s.mp hRc.base.vs).2.2
   have s1:t6w ((noE a kZz).1.1,p63,a.1.2.2.2.1)=some (s0z a.1.1 p63 a.1.2.2.2.1):=by
    rw[r92 _ p63 _ (by omega)]
    exact congrArg some (p1v hgu a.2 p63)
   have hsl:(s0z a.1.1 p63 a.1.2.2.2.1).length≤1099511627776:=Nat.le_trans (p35 _ _ _) (by omega)
   have pr:=q9x (s0z a.1.1 p63 a.1.2.2.2.1) (s0z a.1.1 p63 a.1.2.2.2.1) hsl
   have sr:z7o kZz (⟨#[122,122]⟩:ByteArray)=true:=by
    have:∀t:ByteArray,z7o t t=true:=fun t=>by simp[z7o]
    exact this kZz
   simp only[d0,cond_false,hr2,decide_true,cond_true,n1,n2,w1,sr,Bool.not_false,hall,s1,s2,pr,zOb]
 ·rw[if_neg c0]
  have r1:u1v ((t5r e id).1,kZz)=some (-1):=by
   rw[s1i _ kZz (by show e.1.2.2.1.length≤4194304;have:=hE.base.rlen;omega)]
   exact congrArg some ((s19 (b:=(t5r e id).1) (e:=e.1) rfl kZz).trans (p31 hneg))
  have r1:u1v ((t5r e id).1,(⟨#[122,122]⟩:ByteArray))=_:=r1
  have k1:(t5r e id).1.2.2.2.1=e.1.2.2.2.1:=rfl
  have k2:r7d.1=0:=rfl
  simp only[c0,decide_false,Bool.not_false,cond_true,r1,zOb,decide_true,k1,k2]
end
end
end Go.Proofs.YtbkicjpdlchbgaaGreat.Ab
