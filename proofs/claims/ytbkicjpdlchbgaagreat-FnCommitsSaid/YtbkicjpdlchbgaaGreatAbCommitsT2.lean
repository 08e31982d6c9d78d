import Derived.Test.YtbkicjpdlchbgaaGreatAbCommitsT1
import Derived.Test.YtbkicjpdlchbgaaGreatAbK2
import Derived.Test.YtbkicjpdlchbgaaGreatAbF4
import Derived.Test.YtbkicjpdlchbgaaGreatAbS2
namespace Go.Proofs.YtbkicjpdlchbgaaGreat.Ab
open Go
set_option linter.unusedVariables false
set_option linter.unusedSimpArgs false
set_option linter.unnecessarySimpa false
section
section
theorem p5y (l:List u0e) (n:Int):((List.range l.length).all fun i=>decide ((rdL u0t l i).1<n)&& !((l.take i).any fun y=>decide (y.1=(rdL u0t l i).1)))=r3i (u4k l) n:=by
 rw[Bool.eq_iff_iff,List.all_eq_true,s8x]
 unfold u4k
 constructor
 ·intro h
  constructor
  ·intro x hx
   obtain⟨t,ht,rfl⟩:=List.mem_map.mp hx
   obtain⟨i,hi,rfl⟩:=List.getElem_of_mem ht
   have:=h i (List.mem_range.mpr hi)
   rw[Bool.and_eq_true,decide_eq_true_eq,y8k hi] at this
   exact this.1
  ·rw[List.nodup_iff_pairwise_ne,List.pairwise_map,List.pairwise_iff_getElem]
   intro i j hi hj hij e
   have:=h j (List.mem_range.mpr hj)
   rw[Bool.and_eq_true,Bool.not_eq_true',y8k hj] at this
   have hm:l[i] ∈l.take j:=by
    rw[List.mem_iff_getElem]
    exact⟨i,by simp;omega,by simp⟩
   have:=List.any_eq_false.mp this.2 _ hm
   simp only[decide_eq_true_eq] at this
   exact this e
 ·rintro⟨h1,h2⟩ i hi
  have hi:=List.mem_range.mp hi
  rw[Bool.and_eq_true,decide_eq_true_eq,y8k hi,Bool.not_eq_true']
  refine⟨h1 _ (List.mem_map.mpr ⟨_,List.getElem_mem hi,rfl⟩),?_⟩
  rw[List.any_eq_false]
  intro y hy
  rw[List.mem_iff_getElem] at hy
  obtain⟨j,hj,rfl⟩:=hy
  simp only[List.length_take] at hj
  rw[List.nodup_iff_pairwise_ne,List.pairwise_map,List.pairwise_iff_getElem] at h2
  simp only[List.getElem_take,decide_eq_true_eq]
  exact h2 j i (by omega) hi (by omega)
theorem r2h (l:List u0e) (n:Int) (hl:l.length≤1099511627776):u9q (l,n)=some (r3i (u4k l) n):=by
 have hsome:∀(m:List u0e) (t:u0e),m.length≤1099511627776→u5k (m,t)=some (m.any fun y=>decide (y.1=t.1)):=by
  intro m t hm
  have L:=Q.first (T:=u0t) (c:=u0e) (W:=u0v) (q:=t5u) (p:=fun y:u0e=>decide (y.1=t.1)) (fun x=>u62 x) m t (by omega) (fun x _=>by rw[r5b];rfl)
  simp only[t8z,t0e,u6q,u2g,u70,u28,L,zOb]
  rw[←t4m]
  by_cases h:u0n (fun y:u0e=>decide (y.1=t.1)) m<m.length
  ·simp[h]
  ·simp[h]
 have L:=t2y t0a l.length (fun i=>(l,n,l,(l.length:Int),i)) (fun i=>decide ((rdL u0t l i).1<n)&& !((l.take i).any fun y=>decide (y.1=(rdL u0t l i).1))) (.inl ()) (.inr false)
  (by rw[s1i];simp only[u92,u0b,Nat.lt_irrefl,decide_false,cond_false])
  (fun i hi=>by
   have e1:(decide ((0:Int)≤0)&&decide ((0:Int)≤(i:Int))&&decide ((i:Int)≤(l.length:Int)))=true:=by simp;omega
   have e2:(l.take i).drop ((0:Int)).toNat=l.take i:=by simp
   have e3:=hsome (l.take i) (rdL u0t l i) (by simp;omega)
   rw[s1i];simp only[u92,u0b,hi,decide_true,cond_true,y7t hi,zTn,y7l (show i<4611686018427387904 by omega),r73 (rdL u0t l i).1 n,e1]
   rw[e2,e3]
   cases decide ((rdL u0t l i).1<n)
   ·rfl
   ·simp only[Bool.not_true,cond_false,zOb,Bool.true_and]
    cases (l.take i).any fun y=>decide (y.1=(rdL u0t l i).1)<;>rfl)
 rw[p5y] at L
 rw[r8s];unfold s49
 simp only[L,zOb]
 cases r3i (u4k l) n<;>rfl
theorem r3e (b:u0i):o01.wt b=(Ty.sl u0d).wt b.1+((Ty.sl u0t).wt b.2.1+((Ty.sl u0t).wt b.2.2.1+(0+0))):=rfl
theorem r3v {l:List u0e} {t:u0e} (h:t∈l):u0t.wt t≤(Ty.sl u0t).wt l:=by
 have h1:(Ty.sl u0t).wt l=l.length+(l.map u0t.wt).sum:=rfl
 have h2:=q5c (f:=u0t.wt) h
 omega
theorem gt3 (n:Nat):decide ((n:Int) >3)= !decide (n≤3):=by by_cases h:n≤3<;>simp[h] <;>omega
theorem gt4 (n:Nat):decide ((n:Int) >4)= !decide (n≤4):=by by_cases h:n≤4<;>simp[h] <;>omega
theorem t4u (t:u0e):u5m t=some (decide (t.2.1=2)):=by rw[q2t];rfl
theorem p0m (b:u0i) (hw:o01.wt b≤u0l):s4s b=some (t24 b):=by
 have hb:u0l=1099511627776:=rfl
 have hbw:=r3e b
 have n1:=t6b (t:=u0d) b.1
 have n2:=t6b (t:=u0t) b.2.1
 have n3:=t6b (t:=u0t) b.2.2.1
 have L1:=t2y t0r b.1.length (fun i=>(b,b.1,(b.1.length:Int),i)) (fun i=>(fun v:u18=>decide (v.2.2.2≤b.2.2.2.1)) (rdL u0d b.1 i)) (.inl b) (.inr false)
  (by rw[s9u];simp only[t43,u0b,Nat.lt_irrefl,decide_false,cond_false])
  (fun i hi=>by
   rw[s9u];simp only[t43,u0b,hi,decide_true,cond_true,y7t hi,zTn,y7l (show i<4611686018427387904 by omega),r74 (rdL u0d b.1 i).2.2.2 b.2.2.2.1]
   cases decide ((rdL u0d b.1 i).2.2.2≤b.2.2.2.1)<;>rfl)
 rw[t9d (t:=u0d) b.1 (fun v:u18=>decide (v.2.2.2≤b.2.2.2.1))] at L1
 have L2:=t2y u8z b.2.1.length (fun i=>(b,b.2.1,(b.2.1.length:Int),i)) (fun i=>(fun t:u0e=>u6x t&&(decide (t.2.1=3)&&decide (t.2.2.2.1≤b.2.2.2.1))) (rdL u0t b.2.1 i)&&(decide (i=0) || (fun x y:u0e=>decide (x.2.2.2.1<y.2.2.2.1)) (rdL u0t b.2.1 (i - 1)) (rdL u0t b.2.1 i))) (.inl b) (.inr false)
  (by rw[s6o];simp only[t3g,u0b,Nat.lt_irrefl,decide_false,cond_false])
  (fun i hi=>by
   have hm:rdL u0t b.2.1 i∈b.2.1:=by rw[y8k hi];exact List.getElem_mem hi
   have ht:=r3v hm
   have hk:=s2h (rdL u0t b.2.1 i) (by omega)
   rw[s6o];simp only[t3g,u0b,hi,decide_true,cond_true,y7t hi,zTn,y7l (show i<4611686018427387904 by omega),r74 (rdL u0t b.2.1 i).2.2.2.1 b.2.2.2.1,t7d,p1i,zOb]
   rw[hk]
   simp only[zOb]
   generalize u6x (rdL u0t b.2.1 i)=b1
   generalize decide ((rdL u0t b.2.1 i).2.1=3)=b2
   generalize decide ((rdL u0t b.2.1 i).2.2.2.1≤b.2.2.2.1)=b3
   by_cases h0:i=0
   ·subst h0;simp only[decide_true,Bool.not_true,cond_false,Bool.true_or,Bool.and_true]
    cases b1<;>cases b2<;>cases b3<;>rfl
   ·simp only[h0,decide_false,Bool.not_false,cond_true,Bool.false_or,t3f (show i<4611686018427387904 by omega) h0,y7t (show i - 1<b.2.1.length by omega),zTn,r73 (rdL u0t b.2.1 (i - 1)).2.2.2.1 (rdL u0t b.2.1 i).2.2.2.1]
    generalize decide ((rdL u0t b.2.1 (i - 1)).2.2.2.1<(rdL u0t b.2.1 i).2.2.2.1)=b4
    cases b1<;>cases b2<;>cases b3<;>cases b4<;>rfl)
 rw[s1r (t:=u0t) b.2.1 (fun t:u0e=>u6x t&&(decide (t.2.1=3)&&decide (t.2.2.2.1≤b.2.2.2.1))) (fun x y:u0e=>decide (x.2.2.2.1<y.2.2.2.1))] at L2
 have L3:=t2y u80 b.2.2.1.length (fun i=>(b,b.2.2.1,(b.2.2.1.length:Int),i)) (fun i=>(fun t:u0e=>u6x t&&(decide (t.2.1=2)&&decide (t.2.2.1≤b.2.2.2.1))) (rdL u0t b.2.2.1 i)&&(decide (i=0) || (fun x y:u0e=>y3c x.2.2.2.2.2.2.2 y.2.2.2.2.2.2.2) (rdL u0t b.2.2.1 (i - 1)) (rdL u0t b.2.2.1 i))) (.inl b) (.inr false)
  (by rw[s6p];simp only[t3h,u0b,Nat.lt_irrefl,decide_false,cond_false])
  (fun i hi=>by
   have hm:rdL u0t b.2.2.1 i∈b.2.2.1:=by rw[y8k hi];exact List.getElem_mem hi
   have ht:=r3v hm
   have hk:=s2h (rdL u0t b.2.2.1 i) (by omega)
   rw[s6p];simp only[t3h,u0b,hi,decide_true,cond_true,y7t hi,zTn,y7l (show i<4611686018427387904 by omega),r74 (rdL u0t b.2.2.1 i).2.2.1 b.2.2.2.1,t7d,t4u,zOb]
   rw[hk]
   simp only[zOb]
   generalize u6x (rdL u0t b.2.2.1 i)=b1
   generalize decide ((rdL u0t b.2.2.1 i).2.1=2)=b2
   generalize decide ((rdL u0t b.2.2.1 i).2.2.1≤b.2.2.2.1)=b3
   by_cases h0:i=0
   ·subst h0;simp only[decide_true,Bool.not_true,cond_false,Bool.true_or,Bool.and_true]
    cases b1<;>cases b2<;>cases b3<;>rfl
   ·simp only[h0,decide_false,Bool.not_false,cond_true,Bool.false_or,t3f (show i<4611686018427387904 by omega) h0,y7t (show i - 1<b.2.2.1.length by omega),zTn]
    generalize y3c (rdL u0t b.2.2.1 (i - 1)).2.2.2.2.2.2.2 (rdL u0t b.2.2.1 i).2.2.2.2.2.2.2=b4
    cases b1<;>cases b2<;>cases b3<;>cases b4<;>rfl)
 rw[s1r (t:=u0t) b.2.2.1 (fun t:u0e=>u6x t&&(decide (t.2.1=2)&&decide (t.2.2.1≤b.2.2.2.1))) (fun x y:u0e=>y3c x.2.2.2.2.2.2.2 y.2.2.2.2.2.2.2)] at L3
 have hC:=r53 [b.2.1,b.2.2.1] (by simp only[List.flatten_cons,List.flatten_nil,List.append_nil,List.length_append];omega) (by simp)
 have hf: [b.2.1,b.2.2.1].flatten=b.2.1++b.2.2.1:=by simp
 rw[hf] at hC
 have hI:=r2h (b.2.1++b.2.2.1) b.2.2.2.2 (by rw[List.length_append];omega)
 have hV:=r9v b.1 (by omega)
 rw[q55];unfold r34
 rw[hV]
 simp only[r0f,o23,gt3,zOb]
 unfold t24 p2m q7c
 generalize u6i b.1=c1
 generalize inB b.2.2.2.1 0 9999=c3
 generalize inB b.2.2.2.2 1 9999=c4
 generalize decide (b.2.1.length≤12)=c5
 generalize decide (b.2.2.1.length≤3)=c6
 generalize ha1:b.1.all (fun v:u18=>decide (v.2.2.2≤b.2.2.2.1))=a1 at L1
 generalize ha2:b.2.1.all (fun t:u0e=>u6x t&&(decide (t.2.1=3)&&decide (t.2.2.2.1≤b.2.2.2.1)))=a2 at L2
 generalize ha3:q2j u0t (fun x y:u0e=>decide (x.2.2.2.1<y.2.2.2.1)) b.2.1=a3 at L2
 generalize ha4:b.2.2.1.all (fun t:u0e=>u6x t&&(decide (t.2.1=2)&&decide (t.2.2.1≤b.2.2.2.1)))=a4 at L3
 generalize ha5:q2j u0t (fun x y:u0e=>y3c x.2.2.2.2.2.2.2 y.2.2.2.2.2.2.2) b.2.2.1=a5 at L3
 generalize r3i (u4k (b.2.1++b.2.2.1)) b.2.2.2.2=a6 at hI
 have hR:((t0r (b,b.1,(b.1.length:Int),0)).bind fun r5=>match r5 with
  | .inl o6=>(u8z (o6,o6.2.1,(o6.2.1.length:Int),0)).bind fun r10=>match r10 with
   | .inl o11=>(u80 (o11,o11.2.2.1,(o11.2.2.1.length:Int),0)).bind fun r15=>match r15 with
    | .inl o16=>(u13 [o16.2.1,o16.2.2.1]).bind fun y17=>(u9q (y17,o16.2.2.2.2)).bind fun y18=>some y18
    | .inr z19=>some z19
   | .inr z20=>some z20
  | .inr z21=>some z21)=some (a1&&((a2&&a3)&&((a4&&a5)&&a6))):=by
  rw[L1]
  cases a1
  ·rfl
  ·simp only[cond_true,zOb,Bool.true_and]
   rw[L2]
   cases (a2&&a3)
   ·rfl
   ·simp only[cond_true,zOb,Bool.true_and]
    rw[L3]
    cases (a4&&a5)
    ·rfl
    ·simp only[cond_true,zOb,Bool.true_and]
     rw[hC]
     simp only[zOb]
     rw[hI];rfl
 cases c1<;>cases c3<;>cases c4<;>cases c5<;>cases c6<;>simp only[Bool.not_true,Bool.not_false,cond_true,cond_false,zOb,Bool.false_and,Bool.and_false,Bool.true_and,Bool.and_true]
 exact hR
theorem p30 (l:List Int) (n:Int):((List.range l.length).all fun i=>((List.range i).all fun j=> !decide (rdL (Ty.int .i64) l j=rdL (Ty.int .i64) l i))&&decide (rdL (Ty.int .i64) l i<n))=r3i l n:=by
 rw[Bool.eq_iff_iff,List.all_eq_true,s8x]
 constructor
 ·intro h
  constructor
  ·intro x hx
   obtain⟨i,hi,rfl⟩:=List.getElem_of_mem hx
   have:=h i (List.mem_range.mpr hi)
   rw[Bool.and_eq_true,decide_eq_true_eq,y8k (t:=Ty.int .i64) hi] at this
   exact this.2
  ·rw[List.nodup_iff_pairwise_ne,List.pairwise_iff_getElem]
   intro i j hi hj hij e
   have:=h j (List.mem_range.mpr hj)
   rw[Bool.and_eq_true,List.all_eq_true] at this
   have:=this.1 i (List.mem_range.mpr hij)
   rw[y8k (t:=Ty.int .i64) hi,y8k (t:=Ty.int .i64) hj,Bool.not_eq_true',decide_eq_false_iff_not] at this
   exact this e
 ·rintro⟨h1,h2⟩ i hi
  have hi:=List.mem_range.mp hi
  rw[Bool.and_eq_true,decide_eq_true_eq,y8k (t:=Ty.int .i64) hi,List.all_eq_true]
  refine⟨fun j hj=> ?_,h1 _ (List.getElem_mem hi)⟩
  have hj:=List.mem_range.mp hj
  rw[List.nodup_iff_pairwise_ne,List.pairwise_iff_getElem] at h2
  rw[y8k (t:=Ty.int .i64) (show j<l.length by omega),Bool.not_eq_true',decide_eq_false_iff_not]
  exact h2 j i (by omega) hi hj
theorem q7t (b:u0i) (l:List Int) (hl:l.length≤1099511627776):u59 (b,l,0)=some (bif r3i l b.2.2.2.2 then .inl () else .inr false):=by
 have inner:∀i:Nat,i<l.length→u84 (b,l,(i:Int),0)=some (bif (List.range i).all (fun j=> !decide (rdL (Ty.int .i64) l j=rdL (Ty.int .i64) l i)) then .inl (b,l,(i:Int)) else .inr false):=by
  intro i hi
  exact t2y u84 i (fun j=>(b,l,(i:Int),j)) (fun j=> !decide (rdL (Ty.int .i64) l j=rdL (Ty.int .i64) l i)) (.inl (b,l,(i:Int))) (.inr false)
   (by rw[s6x];simp only[t3p,u0b,Nat.lt_irrefl,decide_false,cond_false])
   (fun j hj=>by
    rw[s6x];simp only[t3p,u0b,hj,decide_true,cond_true,y7t hi,y7t (show j<l.length by omega),zTn,y7l (show j<4611686018427387904 by omega)]
    by_cases e:rdL (Ty.int .i64) l j=rdL (Ty.int .i64) l i
    ·rw[decide_eq_true e];rfl
    ·rw[decide_eq_false e];rfl)
 have L:=t2y u59 l.length (fun i=>(b,l,i)) (fun i=>((List.range i).all fun j=> !decide (rdL (Ty.int .i64) l j=rdL (Ty.int .i64) l i))&&decide (rdL (Ty.int .i64) l i<b.2.2.2.2)) (.inl ()) (.inr false)
  (by rw[s6w];simp only[t3o,u0b,Nat.lt_irrefl,decide_false,cond_false])
  (fun i hi=>by
   rw[s6w];simp only[t3o,u0b,hi,decide_true,cond_true]
   rw[inner i hi]
   cases (List.range i).all fun j=> !decide (rdL (Ty.int .i64) l j=rdL (Ty.int .i64) l i)
   ·rfl
   ·simp only[cond_true,zOb,y7t hi,zTn,y7l (show i<4611686018427387904 by omega),Bool.true_and]
    rw[r73]
    cases decide (rdL (Ty.int .i64) l i<b.2.2.2.2)<;>rfl)
 rw[p30] at L
 exact L
theorem p2i (l:List u0e) {i:Nat} (h:i<l.length):u4k (l.take i)++ [(rdL u0t l i).1] =u4k (l.take (i+1)):=by
 rw[y8k h];unfold u4k
 rw[List.take_add_one,List.getElem?_eq_getElem h,List.map_append];rfl
theorem t6e (b:u0i) (hw:o01.wt b≤549755813888):u6o b=some (t24 b):=by
 have hb:u0l=1099511627776:=rfl
 have hbw:=r3e b
 have n1:=t6b (t:=u0d) b.1
 have n2:=t6b (t:=u0t) b.2.1
 have n3:=t6b (t:=u0t) b.2.2.1
 have L1:=t2y t0t b.1.length (fun i=>(b,i)) (fun i=>(fun v:u18=>decide (v.2.2.2≤b.2.2.2.1)) (rdL u0d b.1 i)) (.inl b) (.inr false)
  (by rw[s9w];simp only[t45,u0b,Nat.lt_irrefl,decide_false,cond_false])
  (fun i hi=>by
   rw[s9w];simp only[t45,u0b,hi,decide_true,cond_true,y7t hi,zTn,y7l (show i<4611686018427387904 by omega),r74 (rdL u0d b.1 i).2.2.2 b.2.2.2.1]
   cases decide ((rdL u0d b.1 i).2.2.2≤b.2.2.2.1)<;>rfl)
 rw[t9d (t:=u0d) b.1 (fun v:u18=>decide (v.2.2.2≤b.2.2.2.1))] at L1
 have il:∀(l:List u0e) (i:Nat),i≤l.length→(u4k (l.take i)).length=i:=fun l i h=>by unfold u4k;simp;omega
 have L2:=t2y u58 b.2.1.length (fun i=>(b,u4k (b.2.1.take i.toNat),i)) (fun i=>(fun t:u0e=>u6x t&&(decide (t.2.1=3)&&decide (t.2.2.2.1≤b.2.2.2.1))) (rdL u0t b.2.1 i)&&(decide (i=0) || (fun x y:u0e=>decide (x.2.2.2.1<y.2.2.2.1)) (rdL u0t b.2.1 (i - 1)) (rdL u0t b.2.1 i))) (.inl (b,u4k b.2.1)) (.inr false)
  (by rw[s6u];simp only[t3m,u0b,Nat.lt_irrefl,decide_false,cond_false,zTn,List.take_length])
  (fun i hi=>by
   have hm:rdL u0t b.2.1 i∈b.2.1:=by rw[y8k hi];exact List.getElem_mem hi
   have ht:=r3v hm
   have hk:=t4r (rdL u0t b.2.1 i) (by omega)
   rw[s6u];simp only[t3m,u0b,hi,decide_true,cond_true,y7t hi,zTn,y7l (show i<4611686018427387904 by omega),r74 (rdL u0t b.2.1 i).2.2.2.1 b.2.2.2.1,t7d,zOb]
   rw[hk]
   have hc:Nat.ble ((u4k (b.2.1.take i)).length+ [(rdL u0t b.2.1 i).1].length) z7w=true:=u07 (by rw[il _ _ (by omega)];simp;omega)
   simp only[zOb]
   rw[hc,p2i _ hi]
   generalize u6x (rdL u0t b.2.1 i)=b1
   generalize decide ((rdL u0t b.2.1 i).2.1=3)=b2
   generalize decide ((rdL u0t b.2.1 i).2.2.2.1≤b.2.2.2.1)=b3
   by_cases h0:i=0
   ·subst h0;simp only[decide_true,Bool.not_true,cond_false,Bool.true_or,Bool.and_true]
    cases b1<;>cases b2<;>cases b3<;>rfl
   ·simp only[h0,decide_false,Bool.not_false,cond_true,Bool.false_or,t3f (show i<4611686018427387904 by omega) h0,y7t (show i - 1<b.2.1.length by omega),zTn,r73 (rdL u0t b.2.1 (i - 1)).2.2.2.1 (rdL u0t b.2.1 i).2.2.2.1]
    generalize decide ((rdL u0t b.2.1 (i - 1)).2.2.2.1<(rdL u0t b.2.1 i).2.2.2.1)=b4
    cases b1<;>cases b2<;>cases b3<;>cases b4<;>rfl)
 rw[s1r (t:=u0t) b.2.1 (fun t:u0e=>u6x t&&(decide (t.2.1=3)&&decide (t.2.2.2.1≤b.2.2.2.1))) (fun x y:u0e=>decide (x.2.2.2.1<y.2.2.2.1))] at L2
 have L3:=t2y u83 b.2.2.1.length (fun i=>(b,u4k b.2.1++u4k (b.2.2.1.take i.toNat),i)) (fun i=>(fun t:u0e=>u6x t&&(decide (t.2.1=2)&&decide (t.2.2.1≤b.2.2.2.1))) (rdL u0t b.2.2.1 i)&&(decide (i=0) || (fun x y:u0e=>y3c x.2.2.2.2.2.2.2 y.2.2.2.2.2.2.2) (rdL u0t b.2.2.1 (i - 1)) (rdL u0t b.2.2.1 i))) (.inl (b,u4k (b.2.1++b.2.2.1))) (.inr false)
  (by rw[s6v];simp only[t3n,u0b,Nat.lt_irrefl,decide_false,cond_false,zTn,List.take_length];unfold u4k;rw[List.map_append])
  (fun i hi=>by
   have hm:rdL u0t b.2.2.1 i∈b.2.2.1:=by rw[y8k hi];exact List.getElem_mem hi
   have ht:=r3v hm
   have hk:=t4r (rdL u0t b.2.2.1 i) (by omega)
   rw[s6v];simp only[t3n,u0b,hi,decide_true,cond_true,y7t hi,zTn,y7l (show i<4611686018427387904 by omega),r74 (rdL u0t b.2.2.1 i).2.2.1 b.2.2.2.1,t7d,zOb]
   rw[hk]
   have hz:(u4k b.2.1).length=b.2.1.length:=by unfold u4k;simp
   have hc:Nat.ble ((u4k b.2.1++u4k (b.2.2.1.take i)).length+ [(rdL u0t b.2.2.1 i).1].length) z7w=true:=u07 (by rw[List.length_append,il _ _ (by omega),hz];simp;omega)
   simp only[zOb]
   rw[hc,List.append_assoc,p2i _ hi]
   generalize u6x (rdL u0t b.2.2.1 i)=b1
   generalize decide ((rdL u0t b.2.2.1 i).2.1=2)=b2
   generalize decide ((rdL u0t b.2.2.1 i).2.2.1≤b.2.2.2.1)=b3
   by_cases h0:i=0
   ·subst h0;simp only[decide_true,Bool.not_true,cond_false,Bool.true_or,Bool.and_true]
    cases b1<;>cases b2<;>cases b3<;>rfl
   ·simp only[h0,decide_false,Bool.not_false,cond_true,Bool.false_or,t3f (show i<4611686018427387904 by omega) h0,y7t (show i - 1<b.2.2.1.length by omega),zTn]
    generalize y3c (rdL u0t b.2.2.1 (i - 1)).2.2.2.2.2.2.2 (rdL u0t b.2.2.1 i).2.2.2.2.2.2.2=b4
    cases b1<;>cases b2<;>cases b3<;>cases b4<;>rfl)
 rw[s1r (t:=u0t) b.2.2.1 (fun t:u0e=>u6x t&&(decide (t.2.1=2)&&decide (t.2.2.1≤b.2.2.2.1))) (fun x y:u0e=>y3c x.2.2.2.2.2.2.2 y.2.2.2.2.2.2.2)] at L3
 have L2' :u58 (b, [],0)=_:=L2
 have e:u4k b.2.1++u4k (b.2.2.1.take (0:Int).toNat)=u4k b.2.1:=by simp[u4k]
 rw[e] at L3
 have hI:=q7t b (u4k (b.2.1++b.2.2.1)) (by unfold u4k;rw[List.length_map,List.length_append];omega)
 have hV:=r9w b.1 (by omega)
 rw[q6f];unfold r4f
 rw[hV]
 simp only[s22,o23,gt3,zOb]
 unfold t24 p2m q7c
 generalize u6i b.1=c1
 generalize inB b.2.2.2.1 0 9999=c3
 generalize inB b.2.2.2.2 1 9999=c4
 generalize decide (b.2.1.length≤12)=c5
 generalize decide (b.2.2.1.length≤3)=c6
 generalize ha1:b.1.all (fun v:u18=>decide (v.2.2.2≤b.2.2.2.1))=a1 at L1
 generalize ha2:b.2.1.all (fun t:u0e=>u6x t&&(decide (t.2.1=3)&&decide (t.2.2.2.1≤b.2.2.2.1)))=a2 at L2'
 generalize ha3:q2j u0t (fun x y:u0e=>decide (x.2.2.2.1<y.2.2.2.1)) b.2.1=a3 at L2'
 generalize ha4:b.2.2.1.all (fun t:u0e=>u6x t&&(decide (t.2.1=2)&&decide (t.2.2.1≤b.2.2.2.1)))=a4 at L3
 generalize ha5:q2j u0t (fun x y:u0e=>y3c x.2.2.2.2.2.2.2 y.2.2.2.2.2.2.2) b.2.2.1=a5 at L3
 generalize r3i (u4k (b.2.1++b.2.2.1)) b.2.2.2.2=a6 at hI
 have hR:((t0t (b,0)).bind fun r5=>match r5 with
  | .inl o6=>(u58 (o6, [],0)).bind fun r9=>match r9 with
   | .inl o10=>(u83 (o10.1,o10.2,0)).bind fun r13=>match r13 with
    | .inl o14=>(u59 (o14.1,o14.2,0)).bind fun r18=>match r18 with
     | .inl o19=>some true
     | .inr z20=>some z20
    | .inr z21=>some z21
   | .inr z22=>some z22
  | .inr z23=>some z23)=some (a1&&((a2&&a3)&&((a4&&a5)&&a6))):=by
  rw[L1]
  cases a1
  ·rfl
  ·simp only[cond_true,zOb,Bool.true_and]
   rw[L2']
   cases (a2&&a3)
   ·rfl
   ·simp only[cond_true,zOb,Bool.true_and]
    rw[L3]
    cases (a4&&a5)
    ·rfl
    ·simp only[cond_true,zOb,Bool.true_and]
     rw[hI]
     cases a6<;>rfl
 cases c1<;>cases c3<;>cases c4<;>cases c5<;>cases c6<;>simp only[Bool.not_true,Bool.not_false,cond_true,cond_false,zOb,Bool.false_and,Bool.and_false,Bool.true_and,Bool.and_true]
 exact hR
theorem q85 (e:u1q):o3o.wt e=o01.wt e.1+(Ty.sl u0t).wt e.2:=rfl
theorem r30 (e:u1q) (hw:o3o.wt e≤u0l):u7m e=some (p3w e):=by
 have hb:u0l=1099511627776:=rfl
 have hew:=q85 e
 have hbw:=r3e e.1
 have n1:=t6b (t:=u0t) e.2
 have n2:=t6b (t:=u0t) e.1.2.1
 have n3:=t6b (t:=u0t) e.1.2.2.1
 have L:=t2y t14 e.2.length (fun i=>(e,e.2,(e.2.length:Int),i)) (fun i=>(fun t:u0e=>u6x t&&(decide (t.2.1=1)&&decide (t.2.2.1≤e.1.2.2.2.1))) (rdL u0t e.2 i)&&(decide (i=0) || (fun x y:u0e=>decide (x.1<y.1)) (rdL u0t e.2 (i - 1)) (rdL u0t e.2 i))) (.inl ()) (.inr false)
  (by rw[s3u];simp only[t1k,u0b,Nat.lt_irrefl,decide_false,cond_false])
  (fun i hi=>by
   have hm:rdL u0t e.2 i∈e.2:=by rw[y8k hi];exact List.getElem_mem hi
   have ht:=r3v hm
   have hk:=s2h (rdL u0t e.2 i) (by omega)
   rw[s3u];simp only[t1k,u0b,hi,decide_true,cond_true,y7t hi,zTn,y7l (show i<4611686018427387904 by omega),r74 (rdL u0t e.2 i).2.2.1 e.1.2.2.2.1,t7d,zOb]
   rw[hk]
   simp only[zOb]
   generalize u6x (rdL u0t e.2 i)=b1
   generalize decide ((rdL u0t e.2 i).2.1=1)=b2
   generalize decide ((rdL u0t e.2 i).2.2.1≤e.1.2.2.2.1)=b3
   by_cases h0:i=0
   ·subst h0;simp only[decide_true,Bool.not_true,cond_false,Bool.true_or,Bool.and_true]
    cases b1<;>cases b2<;>cases b3<;>rfl
   ·simp only[h0,decide_false,Bool.not_false,cond_true,Bool.false_or,t3f (show i<4611686018427387904 by omega) h0,y7t (show i - 1<e.2.length by omega),zTn,r73 (rdL u0t e.2 (i - 1)).1 (rdL u0t e.2 i).1]
    generalize decide ((rdL u0t e.2 (i - 1)).1<(rdL u0t e.2 i).1)=b4
    cases b1<;>cases b2<;>cases b3<;>cases b4<;>rfl)
 rw[s1r (t:=u0t) e.2 (fun t:u0e=>u6x t&&(decide (t.2.1=1)&&decide (t.2.2.1≤e.1.2.2.2.1))) (fun x y:u0e=>decide (x.1<y.1))] at L
 have hC:=r53 [e.1.2.1,e.1.2.2.1,e.2] (by simp only[List.flatten_cons,List.flatten_nil,List.append_nil,List.length_append];omega) (by simp)
 have hf: [e.1.2.1,e.1.2.2.1,e.2].flatten=e.1.2.1++e.1.2.2.1++e.2:=by simp
 rw[hf] at hC
 have hI:=r2h (e.1.2.1++e.1.2.2.1++e.2) e.1.2.2.2.2 (by rw[List.length_append,List.length_append];omega)
 have hB:=p0m e.1 (by omega)
 rw[q0d];unfold s7w
 rw[hB]
 simp only[zOb,gt4]
 rw[hC]
 simp only[zOb]
 rw[hI]
 simp only[zOb]
 rw[L]
 unfold p3w p2l
 cases t24 e.1<;>cases decide (e.2.length≤4)<;>cases r3i (u4k (e.1.2.1++e.1.2.2.1++e.2)) e.1.2.2.2.2<;>try rfl
 all_goals
  cases e.2.all (fun t:u0e=>u6x t&&(decide (t.2.1=1)&&decide (t.2.2.1≤e.1.2.2.2.1)))<;>cases q2j u0t (fun x y:u0e=>decide (x.1<y.1)) e.2<;>rfl
theorem p7k {b:u0i} {o:List u0e} (hb:r3i (u4k (b.2.1++b.2.2.1)) b.2.2.2.2=true) (ho:q2j u0t (fun x y:u0e=>decide (x.1<y.1)) o=true):
 r3i (u4k (b.2.1++b.2.2.1++o)) b.2.2.2.2=o.all (fun t=>decide (t.1<b.2.2.2.2)&&((b.2.1.all fun x=> !decide (x.1=t.1))&&(b.2.2.1.all fun x=> !decide (x.1=t.1)))):=by
 rw[o3t (f:=fun t=>t.1)] at ho
 obtain⟨h1,h2⟩:=s8x.mp hb
 rw[Bool.eq_iff_iff,s8x,List.all_eq_true]
 simp only[Bool.and_eq_true,decide_eq_true_eq,List.all_eq_true,Bool.not_eq_true',decide_eq_false_iff_not]
 unfold u4k at*
 constructor
 ·rintro⟨k1,k2⟩ t ht
  rw[List.map_append,List.nodup_append] at k2
  refine⟨k1 _ (List.mem_map.mpr ⟨t,by simp[ht],rfl⟩),fun x hx=> ?_,fun x hx=> ?_⟩
  ·exact k2.2.2 _ (List.mem_map.mpr ⟨x,by simp[hx],rfl⟩) _ (List.mem_map.mpr ⟨t,ht,rfl⟩)
  ·exact k2.2.2 _ (List.mem_map.mpr ⟨x,by simp[hx],rfl⟩) _ (List.mem_map.mpr ⟨t,ht,rfl⟩)
 ·intro k
  constructor
  ·intro x hx
   obtain⟨t,ht,rfl⟩:=List.mem_map.mp hx
   rcases List.mem_append.mp ht with q | q
   ·exact h1 _ (List.mem_map.mpr ⟨t,q,rfl⟩)
   ·exact(k t q).1
  ·rw[List.map_append,List.nodup_append]
   refine⟨h2,?_,?_⟩
   ·rw[List.nodup_iff_pairwise_ne,List.pairwise_map]
    exact ho.imp fun {a b} q e=>by omega
   ·intro a ha c hc e
    obtain⟨x,hx,rfl⟩:=List.mem_map.mp ha
    obtain⟨t,ht,rfl⟩:=List.mem_map.mp hc
    rcases List.mem_append.mp hx with q | q
    ·exact(k t ht).2.1 x q e
    ·exact(k t ht).2.2 x q e
theorem q5h (e:u1q) (hw:o3o.wt e≤549755813888):t9v e=some (p3w e):=by
 have hb:u0l=1099511627776:=rfl
 have hew:=q85 e
 have hbw:=r3e e.1
 have n1:=t6b (t:=u0t) e.2
 have n2:=t6b (t:=u0t) e.1.2.1
 have n3:=t6b (t:=u0t) e.1.2.2.1
 have I1:∀(j:Int) (t:u0e),u6l (e,j,t,0)=some (bif (e.1.2.1.all fun x=> !decide (x.1=t.1)) then .inl (e,j,t) else .inr false):=fun j t=>by
  have L:=t2y u6l e.1.2.1.length (fun i=>(e,j,t,i)) (fun i=>(fun x:u0e=> !decide (x.1=t.1)) (rdL u0t e.1.2.1 i)) (.inl (e,j,t)) (.inr false)
   (by rw[s1k];simp only[u94,u0b,Nat.lt_irrefl,decide_false,cond_false])
   (fun i hi=>by
    rw[s1k];simp only[u94,u0b,hi,decide_true,cond_true,y7t hi,zTn,y7l (show i<4611686018427387904 by omega)]
    cases decide ((rdL u0t e.1.2.1 i).1=t.1)<;>rfl)
  rw[t9d (t:=u0t) e.1.2.1 (fun x:u0e=> !decide (x.1=t.1))] at L
  exact L
 have I2:∀(j:Int) (t:u0e),u48 (e,j,t,0)=some (bif (e.1.2.2.1.all fun x=> !decide (x.1=t.1)) then .inl (e,j) else .inr false):=fun j t=>by
  have L:=t2y u48 e.1.2.2.1.length (fun i=>(e,j,t,i)) (fun i=>(fun x:u0e=> !decide (x.1=t.1)) (rdL u0t e.1.2.2.1 i)) (.inl (e,j)) (.inr false)
   (by rw[s1l];simp only[u95,u0b,Nat.lt_irrefl,decide_false,cond_false])
   (fun i hi=>by
    rw[s1l];simp only[u95,u0b,hi,decide_true,cond_true,y7t hi,zTn,y7l (show i<4611686018427387904 by omega)]
    cases decide ((rdL u0t e.1.2.2.1 i).1=t.1)<;>rfl)
  rw[t9d (t:=u0t) e.1.2.2.1 (fun x:u0e=> !decide (x.1=t.1))] at L
  exact L
 have L:=t2y u5q e.2.length (fun i=>(e,i)) (fun i=>(fun t:u0e=>(u6x t&&(decide (t.2.1=1)&&decide (t.2.2.1≤e.1.2.2.2.1)))&&(decide (t.1<e.1.2.2.2.2)&&((e.1.2.1.all fun x=> !decide (x.1=t.1))&&(e.1.2.2.1.all fun x=> !decide (x.1=t.1))))) (rdL u0t e.2 i)&&(decide (i=0) || (fun x y:u0e=>decide (x.1<y.1)) (rdL u0t e.2 (i - 1)) (rdL u0t e.2 i))) (.inl ()) (.inr false)
  (by rw[s31];simp only[t1r,u0b,Nat.lt_irrefl,decide_false,cond_false])
  (fun i hi=>by
   have hm:rdL u0t e.2 i∈e.2:=by rw[y8k hi];exact List.getElem_mem hi
   have ht:=r3v hm
   have hk:=t4r (rdL u0t e.2 i) (by omega)
   have k1:=I1 (i:Int) (rdL u0t e.2 i)
   have k2:=I2 (i:Int) (rdL u0t e.2 i)
   rw[s31];simp only[t1r,u0b,hi,decide_true,cond_true,y7t hi,zTn,y7l (show i<4611686018427387904 by omega),r74 (rdL u0t e.2 i).2.2.1 e.1.2.2.2.1,r73 (rdL u0t e.2 i).1 e.1.2.2.2.2,t7d,zOb]
   rw[hk,k1]
   simp only[zOb]
   generalize u6x (rdL u0t e.2 i)=b1
   generalize decide ((rdL u0t e.2 i).2.1=1)=b2
   generalize decide ((rdL u0t e.2 i).2.2.1≤e.1.2.2.2.1)=b3
   generalize decide ((rdL u0t e.2 i).1<e.1.2.2.2.2)=b5
   generalize (e.1.2.1.all fun x=> !decide (x.1=(rdL u0t e.2 i).1))=b6
   generalize (e.1.2.2.1.all fun x=> !decide (x.1=(rdL u0t e.2 i).1))=b7 at k2 ⊢
   have tail:((bif b6 then Sum.inl (e,(i:Int),rdL u0t e.2 i) else Sum.inr false:(u1q×Int×u0e)⊕Bool) |>fun r5=>(match r5 with
    | .inl o6=>(u48 (o6.1,o6.2.1,o6.2.2,0)).bind fun r7=>match r7 with
     | .inl o8=>u5q (o8.1,IntKind.i64.wrap (o8.2+1))
     | .inr z9=>some (.inr z9)
    | .inr z10=>some (.inr z10)))=bif b6&&b7 then u5q (e,((i+1:Nat):Int)) else some (.inr false):=by
    cases b6
    ·rfl
    ·simp only[cond_true]
     rw[k2]
     cases b7
     ·rfl
     ·simp only[cond_true,zOb,y7l (show i<4611686018427387904 by omega)];rfl
   by_cases h0:i=0
   ·subst h0;simp only[decide_true,Bool.not_true,cond_false,Bool.true_or,Bool.and_true]
    cases b1<;>cases b2<;>cases b3<;>cases b5<;>try rfl
    exact tail
   ·simp only[h0,decide_false,Bool.not_false,cond_true,Bool.false_or,t3f (show i<4611686018427387904 by omega) h0,y7t (show i - 1<e.2.length by omega),zTn,r73 (rdL u0t e.2 (i - 1)).1 (rdL u0t e.2 i).1]
    generalize decide ((rdL u0t e.2 (i - 1)).1<(rdL u0t e.2 i).1)=b4
    cases b1<;>cases b2<;>cases b3<;>cases b5<;>cases b4<;>(first | rfl | (rw[Bool.and_false];rfl) | (rw[Bool.and_true];exact tail)))
 rw[s1r (t:=u0t) e.2 (fun t:u0e=>(u6x t&&(decide (t.2.1=1)&&decide (t.2.2.1≤e.1.2.2.2.1)))&&(decide (t.1<e.1.2.2.2.2)&&((e.1.2.1.all fun x=> !decide (x.1=t.1))&&(e.1.2.2.1.all fun x=> !decide (x.1=t.1))))) (fun x y:u0e=>decide (x.1<y.1)),p5j] at L
 have hB:=t6e e.1 (by omega)
 rw[q0o];unfold s76
 rw[hB]
 simp only[zOb,gt4]
 rw[L]
 unfold p3w p2l
 cases h1:t24 e.1
 ·rfl
 ·have hbi:r3i (u4k (e.1.2.1++e.1.2.2.1)) e.1.2.2.2.2=true:=by
   have:=q4k.mp h1
   exact s8x.mpr ⟨this.below,this.nodup⟩
  cases ha:q2j u0t (fun x y:u0e=>decide (x.1<y.1)) e.2
  ·cases decide (e.2.length≤4)<;>simp
  ·rw[p7k hbi ha]
   cases decide (e.2.length≤4)
   ·rfl
   ·simp only[Bool.not_true,cond_false,zOb,Bool.true_and,Bool.and_true]
    cases (e.2.all fun t:u0e=>u6x t&&(decide (t.2.1=1)&&decide (t.2.2.1≤e.1.2.2.2.1)))
    ·rfl
    ·simp only[Bool.true_and]
     cases (e.2.all fun t:u0e=>decide (t.1<e.1.2.2.2.2)&&((e.1.2.1.all fun x=> !decide (x.1=t.1))&&(e.1.2.2.1.all fun x=> !decide (x.1=t.1))))<;>rfl
end
section
theorem r6f {E:Type} (a:List E) (n:Nat) (h:n≤a.length) (z:List E):(a.take n++z).take n=a.take n:=by
 rw[List.take_append_of_le_length (by rw[List.length_take];omega),List.take_take,Nat.min_self]
theorem t03 {E:Type} (p:E→Bool) (l:List E):(l.filter p).length≤l.length:=List.length_filter_le _ _
theorem p0t (l:List u0e) (c:Int) (hl:l.length≤8388608):u1t (l,c)=some (l.filter fun x=> !decide (x.2.2.2.1≤c)):=by
 have hq:∀x∈l,u7n (x,c)=some (decide (x.2.2.2.1≤c)):=fun x _=>by rw[q0h];rfl
 have L:=Q.first (T:=u0t) (c:=Int) (W:=u1c) (q:=u7n) (p:=fun x:u0e=>decide (x.2.2.2.1≤c)) (fun x=>u8u x) l c (by omega) hq
 rw[u9l];unfold u34
 simp only[u9y,u4j,L,zOb]
 by_cases hk:u0n (fun x:u0e=>decide (x.2.2.2.1≤c)) l<l.length
 ·obtain⟨a,e1,e2,e3⟩:=Q.delete (T:=u0t) (c:=Int) (W:=u03) (q:=u7n) (p:=fun x:u0e=>decide (x.2.2.2.1≤c)) (fun x=>u71 x) l c (by omega) hq hk
  have hn:=t03 (fun x:u0e=> !decide (x.2.2.2.1≤c)) l
  obtain⟨n,hne⟩:∃n,n=(l.filter fun x:u0e=> !decide (x.2.2.2.1≤c)).length:=⟨_,rfl⟩
  rw[←hne] at e1 e3 hn
  have c1:decide (((u0n (fun x:u0e=>decide (x.2.2.2.1≤c)) l:Nat):Int)= -1)=false:=by simp
  have c2:decide ((0:Int)≤(n:Int))=true:=by simp
  have c3:decide ((n:Int)≤(a.length:Int))=true:=by simp;omega
  have c4:decide ((a.length:Int)≤(a.length:Int))=true:=by simp
  have hw:=y7l (i:=u0n (fun x:u0e=>decide (x.2.2.2.1≤c)) l) (by omega)
  simp only[if_pos hk,zOb,c1,cond_false,hw,e1,c2,c3,c4,Bool.and_self,cond_true,zTn,decide_true,Int.le_refl]
  have c5:decide ((n:Int)≤((a.take n++List.replicate (a.length - n) u0t.zero++a.drop (n+(a.length - n))).length:Int))=true:=by simp;omega
  have c6:(a.take n++List.replicate (a.length - n) u0t.zero++a.drop (n+(a.length - n))).take (n - (0:Int).toNat)=l.filter fun x:u0e=> !decide (x.2.2.2.1≤c):=by
   rw[List.append_assoc,Int.toNat_zero,Nat.sub_zero,r6f a n (by omega),e3]
  simp only[c5,Bool.and_self,cond_true,c6]
 ·have hall:(l.filter fun x:u0e=> !decide (x.2.2.2.1≤c))=l:=by
   rw[List.filter_eq_self]
   intro x hx
   obtain⟨i,hi,rfl⟩:=List.getElem_of_mem hx
   rw[u7k (p:=fun x:u0e=>decide (x.2.2.2.1≤c)) hi (by omega)]
   rfl
  simp only[if_neg hk,zOb,decide_true,cond_true,hall]
end
section
def u4r (b:u0i) (o:List u0e):u0i:=(u1z b.1 (t5o b o),b.2.1.filter (fun x=> !decide (x.2.2.2.1≤t5o b o)),b.2.2)
theorem r9u (b:u0i) (o:List u0e) (hb:fewB b) (ho:o.length≤4194304):t83 (b,o)=some (u4r b o):=by
 have h1:=r54 b hb
 have h2:=p0w b o ho
 have h3:=p0t b.2.1 (t5o b o) (by have:=hb.2.1.1;omega)
 have h4:=q79 b.1 (t5o b o) (by have:=hb.1;omega)
 rw[q6c];unfold r4b u4r
 simp only[h1,h2,h3,h4,zOb]
theorem s4k (b:u0i) (o:List u0e) (hb:fewB b) (ho:o.length≤4194304):t2l (b,o)=some (u4r b o):=by
 have h1:=t6f b hb
 have h2:=p0x b o ho
 have h4:=q8a b.1 (t5o b o) (by have:=hb.1;omega)
 have hl:=hb.2.1.1
 have L:=s0p t5g b.2.1 (fun a i=>(b,(([], [], [],0,0):u0i),(b.1,a,b.2.2),t5o b o,i)) (fun x=> !decide (x.2.2.2.1≤t5o b o)) (fun x=>x) (fun a=> .inl (b,(([], [], [],0,0):u0i),(b.1,a,b.2.2),t5o b o)) (by omega)
  (fun a _=>by rw[s93];simp only[t5a,u0b,Nat.lt_irrefl,decide_false,cond_false])
  (fun i hi a ha=>by
   have hc:=u8v b.2.1[i] (hb.2.1.2 _ (List.getElem_mem hi))
   rw[s93]
   simp only[t5a,u0b,hi,decide_true,cond_true,y7t hi,zTn,y8k (t:=u0t) hi,hc,zOb,List.length_singleton,u07 (show a.length+1≤1099511627776 by omega)]
   rw[y7l (by omega)]
   by_cases h:b.2.1[i].2.2.2.1≤t5o b o
   ·have h' : ¬b.2.1[i].2.2.2.1 >t5o b o:=Int.not_lt.mpr h
    simp[h,h']
   ·have h' :b.2.1[i].2.2.2.1 >t5o b o:=Int.not_le.mp h
    simp[h,h'])
 rw[List.map_id'] at L
 rw[q6u];unfold r4u u4r
 simp only[h1,h2,zOb,L,h4]
end
section
theorem p3e (l:List u0e) (c:u0e) (hl:l.length≤8388608):u1d (l,c)=some (l.filter fun x=> !decide (x.1=c.1)):=by
 have hq:∀x∈l,u6c (x,c)=some (decide (x.1=c.1)):=fun x _=>by rw[r8q];rfl
 have L:=Q.first (T:=u0t) (c:=u0e) (W:=u05) (q:=u6c) (p:=fun x:u0e=>decide (x.1=c.1)) (fun x=>u73 x) l c (by omega) hq
 rw[u8h];unfold u3m
 simp only[u9n,u36,L,zOb]
 by_cases hk:u0n (fun x:u0e=>decide (x.1=c.1)) l<l.length
 ·obtain⟨a,e1,e2,e3⟩:=Q.delete (T:=u0t) (c:=u0e) (W:=u0x) (q:=u6c) (p:=fun x:u0e=>decide (x.1=c.1)) (fun x=>u7v x) l c (by omega) hq hk
  have hn:=t03 (fun x:u0e=> !decide (x.1=c.1)) l
  obtain⟨n,hne⟩:∃n,n=(l.filter fun x:u0e=> !decide (x.1=c.1)).length:=⟨_,rfl⟩
  rw[←hne] at e1 e3 hn
  have c1:decide (((u0n (fun x:u0e=>decide (x.1=c.1)) l:Nat):Int)= -1)=false:=by simp
  have c2:decide ((0:Int)≤(n:Int))=true:=by simp
  have c3:decide ((n:Int)≤(a.length:Int))=true:=by simp;omega
  have c4:decide ((a.length:Int)≤(a.length:Int))=true:=by simp
  have hw:=y7l (i:=u0n (fun x:u0e=>decide (x.1=c.1)) l) (by omega)
  simp only[if_pos hk,zOb,c1,cond_false,hw,e1,c2,c3,c4,Bool.and_self,cond_true,zTn,decide_true,Int.le_refl]
  have c5:decide ((n:Int)≤((a.take n++List.replicate (a.length - n) u0t.zero++a.drop (n+(a.length - n))).length:Int))=true:=by simp;omega
  have c6:(a.take n++List.replicate (a.length - n) u0t.zero++a.drop (n+(a.length - n))).take (n - (0:Int).toNat)=l.filter fun x:u0e=> !decide (x.1=c.1):=by
   rw[List.append_assoc,Int.toNat_zero,Nat.sub_zero,r6f a n (by omega),e3]
  simp only[c5,Bool.and_self,cond_true,c6]
 ·have hall:(l.filter fun x:u0e=> !decide (x.1=c.1))=l:=by
   rw[List.filter_eq_self]
   intro x hx
   obtain⟨i,hi,rfl⟩:=List.getElem_of_mem hx
   rw[u7k (p:=fun x:u0e=>decide (x.1=c.1)) hi (by omega)]
   rfl
  simp only[if_neg hk,zOb,decide_true,cond_true,hall]
def r5h (d x:u0e):u0e:=(x.1,x.2.1,x.2.2.1,x.2.2.2.1,x.2.2.2.2.1,x.2.2.2.2.2.1,(x.2.2.2.2.2.2.1 || ahead x d),x.2.2.2.2.2.2.2)
end
section
theorem p2a (t:u0e) (b0:u0i) (v:List u18) (p R:List u0e) (c n:Int) (d:u0e) (hR:q1a R) (hd:r2f d):
 u57 (t,b0,(v,p,R,c,n),d,(),(R.length:Int),0)=some (.inl (t,b0,(v,p,R.map (r5h d),c,n),d)):=by
 have hl:=hR.1
 have L:=r9x u57 R.length (fun(a:List u0e) i=>(t,b0,((v,p,a,c,n):u0i),d,(),(R.length:Int),i)) (fun i=>(R.take i).map (r5h d)++R.drop i) (.inl (t,b0,((v,p,R.map (r5h d),c,n):u0i),d))
  (by
   rw[s6q]
   simp only[t3i,u0b,Nat.lt_irrefl,decide_false,cond_false,List.take_length,List.drop_length,List.append_nil])
  (fun i hi=>by
   have hm:((R.take i).map (r5h d)).length=i:=by simp;omega
   have hd1:R.drop i=R[i] ::R.drop (i+1):=List.drop_eq_getElem_cons hi
   have hal:i<((R.take i).map (r5h d)++R.drop i).length:=by simp;omega
   have hg:((R.take i).map (r5h d)++R.drop i)[i] =R[i] :=by
    rw[List.getElem_append_right (by omega),List.getElem_drop]
    congr 1
    omega
   have hset:∀y:u0e,((R.take i).map (r5h d)++R.drop i).set i y=(R.take i).map (r5h d)++y::R.drop (i+1):=fun y=>by
    rw[List.set_append_right _ _ (by omega),hm,Nat.sub_self,hd1,List.set_cons_zero]
   have hnx:(R.take (i+1)).map (r5h d)++R.drop (i+1)=(R.take i).map (r5h d)++r5h d R[i] ::R.drop (i+1):=by
    rw[List.take_succ_eq_append_getElem hi,List.map_append]
    simp
   have ha:=t6d R[i] d (t0l (hR.2 _ (List.getElem_mem hi)).1) (t0l hd.2)
   rw[s6q]
   simp only[t3i,u0b,hi,decide_true,cond_true,y7t hal,zTn,y8k (t:=u0t) hal,hg,ha,zOb,hset]
   rw[y7l (by omega),hnx]
   unfold r5h
   cases h1:R[i].2.2.2.2.2.2.1 with
   | true=>simp
   | false=>simp)
 simpa using L
end
section
def q4p (b:u0i) (t:u0e):u0e:=(t.1,(3:Int),t.2.2.1,IntKind.i64.wrap (b.2.2.2.1+1),t.2.2.2.2.1,t.2.2.2.2.2.1,(t.2.2.2.2.2.2.1 || s7k t b.2.1),(⟨#[]⟩:ByteArray))
def t87 (b:u0i) (t:u0e):u0i:=
 (t41 b.1 t.2.2.2.2.2.1 (IntKind.i64.wrap (b.2.2.2.1+1)),b.2.1++ [q4p b t],(b.2.2.1.filter fun x=> !decide (x.1=t.1)).map (r5h (q4p b t)),IntKind.i64.wrap (b.2.2.2.1+1),y8h b.2.2.2.2 (IntKind.i64.wrap (t.1+1)))
theorem q76 (b:u0i) (t:u0e) (hb:fewB b) (ht:r2f t):t7f (b,t)=some (t87 b t):=by
 have h1:=r54 b hb
 have h2:=r3z t ht
 have h3:=r8h b.1 t.2.2.2.2.2.1 (IntKind.i64.wrap (b.2.2.2.1+1)) (by have:=hb.1;have:=ht.2;omega)
 have h4:=p3e b.2.2.1 t (by have:=hb.2.2.1;omega)
 have h5:=q4e t b.2.1 ht hb.2.1
 have hf:q1a (b.2.2.1.filter fun x=> !decide (x.1=t.1)):=⟨Nat.le_trans (t03 _ _) hb.2.2.1,fun x hx=>hb.2.2.2 x (List.mem_filter.mp hx).1⟩
 have hp:=hb.2.1.1
 have hc:∀d:u0e,Nat.ble (b.2.1.length+([d] :List u0e).length) z7w=true:=fun d=>u07 (by simp;omega)
 rw[q2o];unfold r0u t87 q4p
 simp only[h1,h2,h3,h4,h5,zOb]
 cases ho:t.2.2.2.2.2.2.1 with
 | true=>
  have hd:r2f ((t.1,(3:Int),t.2.2.1,IntKind.i64.wrap (b.2.2.2.1+1),t.2.2.2.2.1,t.2.2.2.2.2.1,true,(⟨#[]⟩:ByteArray)):u0e):=ht
  have L:=p2a t ([], [], [],0,0) (t41 b.1 t.2.2.2.2.2.1 (IntKind.i64.wrap (b.2.2.2.1+1))) b.2.1 (b.2.2.1.filter fun x=> !decide (x.1=t.1)) (IntKind.i64.wrap (b.2.2.2.1+1)) b.2.2.2.2 _ hf hd
  simp only[cond_true,L,zOb,hc,Bool.true_or]
 | false=>
  have hd:r2f ((t.1,(3:Int),t.2.2.1,IntKind.i64.wrap (b.2.2.2.1+1),t.2.2.2.2.1,t.2.2.2.2.2.1,s7k t b.2.1,(⟨#[]⟩:ByteArray)):u0e):=ht
  have L:=p2a t ([], [], [],0,0) (t41 b.1 t.2.2.2.2.2.1 (IntKind.i64.wrap (b.2.2.2.1+1))) b.2.1 (b.2.2.1.filter fun x=> !decide (x.1=t.1)) (IntKind.i64.wrap (b.2.2.2.1+1)) b.2.2.2.2 _ hf hd
  simp only[cond_false,cond_true,h5,zOb,L,hc,Bool.false_or]
end
section
def r9j (b:u0i) (t:u0e):u0i:=
 ((t87 b t).1,(t87 b t).2.1,(t87 b t).2.2.1,(t87 b t).2.2.2.1,if t.1≥b.2.2.2.2 then IntKind.i64.wrap (t.1+1) else b.2.2.2.2)
theorem q75 (b:u0i) (t:u0e) (b0:u0i) (v:List u18) (p:List u0e) (c n:Int) (d:u0e) (hb:fewB b) (hd:r2f d):
 u5r (b,t,b0,(v,p, [],c,n),d,0)=some (.inl (t,b0,(v,p,(b.2.2.1.filter fun x=> !decide (x.1=t.1)).map (r5h d),c,n))):=by
 have hl:=hb.2.2.1
 exact s0p u5r b.2.2.1 (fun a i=>(b,t,b0,((v,p,a,c,n):u0i),d,i)) (fun x=> !decide (x.1=t.1)) (r5h d) (fun a=> .inl (t,b0,((v,p,a,c,n):u0i))) (by omega)
  (fun a _=>by rw[s37];simp only[t1x,u0b,Nat.lt_irrefl,decide_false,cond_false])
  (fun i hi a ha=>by
   have h1:=u8v b.2.2.1[i] (hb.2.2.2 _ (List.getElem_mem hi))
   have h2:=t1i b.2.2.1[i] d (t0l (hb.2.2.2 _ (List.getElem_mem hi)).1) (t0l hd.2)
   rw[s37]
   simp only[t1x,u0b,hi,decide_true,cond_true,y7t hi,zTn,y8k (t:=u0t) hi,h1,h2,zOb,List.length_singleton,u07 (show a.length+1≤1099511627776 by omega)]
   rw[y7l (by omega)]
   cases decide (b.2.2.1[i].1=t.1) with
   | true=>rfl
   | false=>
    simp only[cond_false,Bool.not_false,cond_true]
    unfold r5h
    cases ahead b.2.2.1[i] d with
    | true=>simp
    | false=>simp)
end
section
theorem r7b (b:u0i) (t:u0e) (hb:fewB b) (ht:r2f t):u5o (b,t)=some (r9j b t):=by
 have h1:=t6f b hb
 have h2:=u8v t ht
 have h3:=r8i b.1 t.2.2.2.2.2.1 (IntKind.i64.wrap (b.2.2.2.1+1)) (by have:=hb.1;have:=ht.2;omega)
 have h5:=r56 t b.2.1 ht hb.2.1
 have hp:=hb.2.1.1
 have hc:∀d:u0e,Nat.ble (b.2.1.length+([d] :List u0e).length) z7w=true:=fun d=>u07 (by simp;omega)
 rw[q28];unfold r1e r9j t87 q4p
 simp only[h1,h2,h3,h5,zOb]
 cases ho:t.2.2.2.2.2.2.1 with
 | true=>
  have hd:r2f ((t.1,(3:Int),t.2.2.1,IntKind.i64.wrap (b.2.2.2.1+1),t.2.2.2.2.1,t.2.2.2.2.2.1,true,(⟨#[]⟩:ByteArray)):u0e):=ht
  have L:=fun p=>q75 b t ([], [], [],0,0) (t41 b.1 t.2.2.2.2.2.1 (IntKind.i64.wrap (b.2.2.2.1+1))) p (IntKind.i64.wrap (b.2.2.2.1+1)) b.2.2.2.2 _ hb hd
  simp only[cond_true,L,zOb,hc,Bool.true_or]
  by_cases h:t.1≥b.2.2.2.2<;>simp[h]
 | false=>
  have hd:r2f ((t.1,(3:Int),t.2.2.1,IntKind.i64.wrap (b.2.2.2.1+1),t.2.2.2.2.1,t.2.2.2.2.2.1,s7k t b.2.1,(⟨#[]⟩:ByteArray)):u0e):=ht
  have L:=fun p=>q75 b t ([], [], [],0,0) (t41 b.1 t.2.2.2.2.2.1 (IntKind.i64.wrap (b.2.2.2.1+1))) p (IntKind.i64.wrap (b.2.2.2.1+1)) b.2.2.2.2 _ hb hd
  simp only[cond_false,cond_true,h5,zOb,L,hc,Bool.false_or]
  by_cases h:t.1≥b.2.2.2.2<;>simp[h]
end
section
def smallB (b:u0i):Prop:=b.1.length≤1048576∧(b.2.1.length≤1048576∧ ∀t∈b.2.1,r2f t)∧b.2.2.1.length≤1048576∧ ∀t∈b.2.2.1,r2f t
theorem smallB.few {b:u0i} (h:smallB b):fewB b:=⟨by have:=h.1;omega,⟨by have:=h.2.1.1;omega,h.2.1.2⟩,⟨by have:=h.2.2.1;omega,h.2.2.2⟩⟩
end
section
def s8w (b:u0i):Bool:=decide ((b.2.1.length:Int)≥12) || (decide ((b.1.length:Int) >100) || decide (b.2.2.2.1≥9999))
theorem q9a (b:u0i):t7r b=some (s8w b):=by
 rw[q3t];unfold r12 s8w
 cases decide ((b.2.1.length:Int)≥12)<;>cases decide ((b.1.length:Int) >100)<;>rfl
theorem p5x (b:u0i):r3q b=some (s8w b):=by
 rw[p1c];unfold r90 s8w
 cases decide ((b.2.1.length:Int)≥12)<;>cases decide ((b.1.length:Int) >100)<;>rfl
theorem p4b (b:u0i) {n:ByteArray} {i:Nat} (hi:i<b.2.2.1.length) (hn:b.2.2.1[i].2.2.2.2.2.2.2=n):∃k:Nat,k<b.2.2.1.length∧u1k b n=(k:Int):=by
 have h:u0n (fun x:u0e=>z7o x.2.2.2.2.2.2.2 n) b.2.2.1<b.2.2.1.length:=by
  rcases Nat.lt_or_ge (u0n (fun x:u0e=>z7o x.2.2.2.2.2.2.2 n) b.2.2.1) b.2.2.1.length with q | q
  ·exact q
  ·have:=u7k (p:=fun x:u0e=>z7o x.2.2.2.2.2.2.2 n) hi (by omega)
   rw[y7f.mpr hn] at this
   cases this
 exact⟨_,h,if_pos h⟩
end
section
def u1m (n i:Int):Int:=if i<n then n else i+1
def u8f (b:u0i) (t:u0e):u0e:=(t.1,(3:Int),t.2.2.1,b.2.2.2.1+1,t.2.2.2.2.1,t.2.2.2.2.2.1,(t.2.2.2.2.2.2.1 || s7k t b.2.1),(⟨#[]⟩:ByteArray))
def u1h (b:u0i) (t:u0e):u0i:=
 (t41 b.1 t.2.2.2.2.2.1 (b.2.2.2.1+1),b.2.1++ [u8f b t],(b.2.2.1.filter fun x=> !decide (x.1=t.1)).map (r5h (u8f b t)),b.2.2.2.1+1,u1m b.2.2.2.2 t.1)
def u4q (b:u0i) (t:u0e) (n:ByteArray):u0e:=(t.1,(2:Int),t.2.2.1,t.2.2.2.1,t.2.2.2.2.1,t.2.2.2.2.2.1,(t.2.2.2.2.2.2.1 || s7k t b.2.1),n)
def u1s (b:u0i) (t:u0e) (n:ByteArray):u0i:=
 (b.1,b.2.1,(b.2.2.1.filter fun x=>y3c x.2.2.2.2.2.2.2 n)++ [u4q b t n] ++(b.2.2.1.filter fun x=> !y3c x.2.2.2.2.2.2.2 n),b.2.2.2.1,u1m b.2.2.2.2 t.1)
def s1v (b:u0i) (n:ByteArray):u0i:=(b.1,b.2.1,(b.2.2.1.filter fun x=> !z7o x.2.2.2.2.2.2.2 n),b.2.2.2.1,b.2.2.2.2)
def p7u (n:Int):Prop:= -1000000≤n∧n≤1000000
theorem t88 {n:Int} (h:p7u n):IntKind.i64.wrap (n+1)=n+1:=by
 obtain⟨h1,h2⟩:=h
 rw[y4y (by omega) (by omega)]
theorem q14 {b:u0i} {t:u0e} (hc:p7u b.2.2.2.1) (hi:p7u t.1):t87 b t=u1h b t:=by
 have e:q4p b t=u8f b t:=by unfold q4p u8f;rw[t88 hc]
 unfold t87 u1h
 rw[e,t88 hc,t88 hi]
 unfold y8h u1m
 congr 4
 by_cases h:t.1<b.2.2.2.2
 ·rw[if_pos h,if_neg (by omega)]
 ·rw[if_neg h,if_pos (by omega)]
theorem q15 {b:u0i} {t:u0e} (hc:p7u b.2.2.2.1) (hi:p7u t.1):r9j b t=u1h b t:=by
 unfold r9j
 rw[q14 hc hi,t88 hi]
 unfold u1h u1m
 congr 4
 by_cases h:t.1<b.2.2.2.2
 ·rw[if_pos h,if_neg (by omega)]
 ·rw[if_neg h,if_pos (by omega)]
def uq (l:List u0e):Prop:=l.Pairwise fun a b=>a.1≠b.1
theorem q48 {l:List u0e} :(u4k l).Nodup↔uq l:=by
 unfold u4k uq;rw[List.nodup_iff_pairwise_ne,List.pairwise_map]
theorem o5p {a b:List u0e} :uq (a++b)↔uq a∧uq b∧ ∀x∈a,∀y∈b,x.1≠y.1:=List.pairwise_append
theorem q16 {l:List u0e} (h:uq l) (p:u0e→Bool):uq (l.filter p):=List.Pairwise.filter p h
theorem o1s {l:List u0e} (f:u0e→u0e) (hf:∀x,(f x).1=x.1) (h:uq l):uq (l.map f):=by
 unfold uq;rw[List.pairwise_map];simp only[hf];exact h
theorem p6s {t:u0e} :uq [t] :=List.pairwise_singleton _ _
theorem o1t {l:List u0e} :uq l→ ∀x∈l,∀y∈l,x.1=y.1→x=y:=by
 induction l with
 | nil=>intro _ x hx;cases hx
 | cons z l ih=>
  intro h x hx y hy e
  have h' :=List.pairwise_cons.mp h
  rcases List.mem_cons.mp hx with rfl | hx' <;>rcases List.mem_cons.mp hy with rfl | hy'
  ·rfl
  ·exact absurd e (h'.1 y hy')
  ·exact absurd e.symm (h'.1 x hx')
  ·exact ih h'.2 x hx' y hy' e
theorem t9f {l:List u0e} {n:Int} :(∀x∈u4k l,x<n)↔ ∀t∈l,t.1<n:=by
 unfold u4k
 constructor
 ·exact fun h t ht=>h _ (List.mem_map.mpr ⟨t,ht,rfl⟩)
 ·intro h x hx
  obtain⟨t,ht,rfl⟩:=List.mem_map.mp hx
  exact h t ht
theorem o08 {d x:u0e} (h:TxnR x) (hs:x.2.1=2):TxnR (r5h d x):=
 ⟨h.id,h.st,h.snap,h.rlen,h.ws,h.rs,h.done,h.nocs,h.name,h.noname,fun e=>by have e:x.2.1=1:=e;omega⟩
theorem p1a {b:u0i} {t:u0e} (ht:TxnR t) (hs:t.2.2.1≤b.2.2.2.1) (hc:b.2.2.2.1<9999):TxnR (u8f b t):=
 ⟨ht.id,⟨by show(1:Int)≤3;omega,by show(3:Int)≤3;omega⟩,ht.snap,ht.rlen,ht.ws,ht.rs,fun _=>⟨by show t.2.2.1+1≤b.2.2.2.1+1;omega,by show b.2.2.2.1+1≤9999;omega⟩,
   fun e=>absurd rfl e,fun e=>by have e:(3:Int)=2:=e;omega,fun _=>rfl,fun e=>by have e:(3:Int)=1:=e;omega⟩
theorem q7d {b:u0i} {t:u0e} {n:ByteArray} (ht:TxnR t) (hs:t.2.1≠3) (hn:u55 n=true):TxnR (u4q b t n):=
 ⟨ht.id,⟨by show(1:Int)≤2;omega,by show(2:Int)≤3;omega⟩,ht.snap,ht.rlen,ht.ws,ht.rs,fun e=>by have e:(2:Int)=3:=e;omega,
   fun _=>ht.nocs hs,fun _=>hn,fun e=>absurd rfl e,fun e=>by have e:(2:Int)=1:=e;omega⟩
theorem p8q {w:WrT} {c:Int} (h:u10 w=true) (h1:1≤c) (h2:c≤9999):r3w (w.1,w.2.1,w.2.2,c)=true:=by
 unfold u10 at h
 unfold r3w
 simp only[Bool.and_eq_true,r6u] at h ⊢
 exact⟨h.1,h.2.1,h.2.2,h1,h2⟩
theorem p73 {l:List u18} {ws:List WrT} {c:Int} (hl:u6i l=true) (hv:∀v∈l,v.2.2.2≤c) (hw:u3x ws=true) (h0:0≤c) (h9:c<9999) (hn:l.length≤112):
 u6i (t41 l ws (c+1))=true∧ ∀v∈t41 l ws (c+1),v.2.2.2≤c+1:=by
 obtain⟨h1,h2,h3⟩:=p66.mp hl
 obtain⟨w1,w2,w3⟩:=p9a.mp hw
 refine⟨p66.mpr ⟨fun v h=> ?_,r5n ws h2 (p0d hw) fun x hx w _ q=>by have:=hv x hx;have:vCs x=c+1:=q.2;unfold vCs at this;omega,by rw[q1p];omega⟩,fun v h=> ?_⟩
 ·rcases(t7z ws l (c+1)).mp h with h | ⟨w,hw,rfl⟩
  ·exact h1 v h
  ·exact p8q (w1 w hw) (by omega) (by omega)
 ·rcases(t7z ws l (c+1)).mp h with h | ⟨w,hw,rfl⟩
  ·have:=hv v h;omega
  ·exact Int.le_refl _
theorem q9l {n i:Int} (h:i<n):u1m n i=n:=if_pos h
theorem t08 (n i:Int):n≤u1m n i∧i<u1m n i:=by unfold u1m;split<;>omega
theorem q98 {b:u0i} {t:u0e} (hb:BaseR b) (ht:TxnR t) (hs:t.2.2.1≤b.2.2.2.1) (hc:b.2.2.2.1<9999) (hp:b.2.1.length<12) (hv:b.1.length≤112)
 (hid:∀x∈b.2.1,x.1≠t.1) (hn:t.1<9999):BaseR (u1h b t):=by
 have c0:=hb.cs.1
 obtain⟨v1,v2⟩:=p73 hb.vs hb.vcs ht.ws c0 hc hv
 have hu:=q48.mp hb.nodup
 have hbl:=t9f.mp hb.below
 obtain⟨u1,u2,u3⟩:=o5p.mp hu
 have hg:=t08 b.2.2.2.2 t.1
 have hnx:u1m b.2.2.2.2 t.1≤9999:=by have:=hb.next.2;unfold u1m;split<;>omega
 refine⟨v1,v2,⟨by show 0≤b.2.2.2.1+1;omega,by show b.2.2.2.1+1≤9999;omega⟩,⟨by show 1≤u1m b.2.2.2.2 t.1;have:=hb.next.1;omega,hnx⟩,?_,?_,?_,?_,?_,?_,?_,?_⟩
 ·show(b.2.1++ [u8f b t]).length≤12
  simp only[List.length_append,List.length_singleton];omega
 ·intro x hx
  rcases List.mem_append.mp hx with hx | hx
  ·obtain⟨q1,q2,q3⟩:=hb.past x hx
   exact⟨q1,q2,by show x.2.2.2.1≤b.2.2.2.1+1;omega⟩
  ·rw[List.mem_singleton] at hx
   subst hx
   exact⟨p1a ht hs hc,rfl,Int.le_refl _⟩
 ·show(b.2.1++ [u8f b t]).Pairwise _
  rw[List.pairwise_append]
  refine⟨hb.pasc,List.pairwise_singleton _ _,fun x hx y hy=> ?_⟩
  rw[List.mem_singleton] at hy
  subst hy
  have:=(hb.past x hx).2.2
  show x.2.2.2.1<b.2.2.2.1+1
  omega
 ·show((b.2.2.1.filter _).map _).length≤3
  rw[List.length_map]
  exact Nat.le_trans (List.length_filter_le _ _) hb.rlen
 ·intro x hx
  obtain⟨y,hy,rfl⟩:=List.mem_map.mp hx
  obtain⟨q1,q2,q3⟩:=hb.ready y (List.mem_filter.mp hy).1
  exact⟨o08 q1 q2,q2,by show y.2.2.1≤b.2.2.2.1+1;omega⟩
 ·show((b.2.2.1.filter _).map _).Pairwise _
  rw[List.pairwise_map]
  exact(List.Pairwise.filter _ hb.rasc)
 ·rw[t9f]
  intro x hx
  show x.1<u1m b.2.2.2.2 t.1
  rcases List.mem_append.mp hx with hx | hx
  ·rcases List.mem_append.mp hx with hx | hx
   ·have:=hbl x (List.mem_append_left _ hx);omega
   ·rw[List.mem_singleton] at hx;subst hx;exact hg.2
  ·obtain⟨y,hy,rfl⟩:=List.mem_map.mp hx
   have:=hbl y (List.mem_append_right _ (List.mem_filter.mp hy).1)
   show y.1<_
   omega
 ·rw[q48]
  refine o5p.mpr ⟨o5p.mpr ⟨u1,p6s,fun x hx y hy=> ?_⟩,o1s _ (fun _=>rfl) (q16 u2 _),fun x hx y hy=> ?_⟩
  ·rw[List.mem_singleton] at hy;subst hy;exact hid x hx
  ·obtain⟨z,hz,rfl⟩:=List.mem_map.mp hy
   obtain⟨z1,z2⟩:=List.mem_filter.mp hz
   show x.1≠z.1
   rcases List.mem_append.mp hx with hx | hx
   ·exact u3 x hx z z1
   ·rw[List.mem_singleton] at hx;subst hx
    intro e
    simp only[Bool.not_eq_true',decide_eq_false_iff_not] at z2
    exact z2 e.symm
theorem t4i {b:u0i} (hb:BaseR b) (o:List u0e):BaseR (u4r b o):=by
 obtain⟨h1,h2,h3⟩:=p66.mp hb.vs
 have sv:=u8p b.1 (t5o b o)
 have sp:(b.2.1.filter fun x=> !decide (x.2.2.2.1≤t5o b o)).Sublist b.2.1:=List.filter_sublist
 have si:((b.2.1.filter fun x=> !decide (x.2.2.2.1≤t5o b o))++b.2.2.1).Sublist (b.2.1++b.2.2.1):=sp.append (List.Sublist.refl _)
 refine⟨p66.mpr ⟨fun v h=>h1 v (sv.subset h),h2.sublist sv,Nat.le_trans sv.length_le h3⟩,fun v h=>hb.vcs v (sv.subset h),hb.cs,hb.next,Nat.le_trans sp.length_le hb.plen,
  fun t h=>hb.past t (sp.subset h),hb.pasc.sublist sp,hb.rlen,hb.ready,hb.rasc,?_,?_⟩
 ·rw[t9f]
  intro x hx
  exact t9f.mp hb.below x (si.subset hx)
 ·rw[q48]
  exact List.Pairwise.sublist si (q48.mp hb.nodup)
theorem s4r {b:u0i} {t:u0e} {n:ByteArray} (hb:BaseR b) (ht:TxnR t) (h3:t.2.1≠3) (hs:t.2.2.1≤b.2.2.2.1) (hk:u55 n=true) (hl:b.2.2.1.length<3)
 (hn:∀x∈b.2.2.1,x.2.2.2.2.2.2.2≠n) (hid:∀x∈b.2.1++b.2.2.1,x.1≠t.1) (h9:t.1<9999):BaseR (u1s b t n):=by
 have hu:=q48.mp hb.nodup
 have hbl:=t9f.mp hb.below
 obtain⟨u1,u2,u3⟩:=o5p.mp hu
 have hg:=t08 b.2.2.2.2 t.1
 have hnx:u1m b.2.2.2.2 t.1≤9999:=by have:=hb.next.2;unfold u1m;split<;>omega
 have mem:∀ {x:u0e},x∈(b.2.2.1.filter fun x=>y3c x.2.2.2.2.2.2.2 n)++ [u4q b t n] ++(b.2.2.1.filter fun x=> !y3c x.2.2.2.2.2.2.2 n)→x∈b.2.2.1∨x=u4q b t n:=fun {x} hx=>by
  rcases List.mem_append.mp hx with hx | hx
  ·rcases List.mem_append.mp hx with hx | hx
   ·exact .inl (List.mem_filter.mp hx).1
   ·rw[List.mem_singleton] at hx;exact .inr hx
  ·exact .inl (List.mem_filter.mp hx).1
 have len:∀(l:List u0e) (p:u0e→Bool),(l.filter p).length+(l.filter fun x=> !p x).length=l.length:=fun l p=>by
  induction l with
  | nil=>rfl
  | cons x l ih=>cases hp:p x<;>simp[List.filter_cons,hp] <;>omega
 refine⟨hb.vs,hb.vcs,hb.cs,⟨by show 1≤u1m b.2.2.2.2 t.1;have:=hb.next.1;omega,hnx⟩,hb.plen,hb.past,hb.pasc,?_,?_,?_,?_,?_⟩
 ·show((b.2.2.1.filter fun x=>y3c x.2.2.2.2.2.2.2 n)++ [u4q b t n] ++(b.2.2.1.filter fun x=> !y3c x.2.2.2.2.2.2.2 n)).length≤3
  have:=len b.2.2.1 fun x=>y3c x.2.2.2.2.2.2.2 n
  simp only[List.length_append,List.length_singleton]
  omega
 ·intro x hx
  rcases mem hx with hx | rfl
  ·exact hb.ready x hx
  ·exact⟨q7d ht h3 hk,rfl,hs⟩
 ·show((b.2.2.1.filter fun x=>y3c x.2.2.2.2.2.2.2 n)++ [u4q b t n] ++(b.2.2.1.filter fun x=> !y3c x.2.2.2.2.2.2.2 n)).Pairwise _
  have up:∀y∈b.2.2.1,(!y3c y.2.2.2.2.2.2.2 n)=true→y3c n y.2.2.2.2.2.2.2=true:=fun y hy h=>by
   rcases r3t y.2.2.2.2.2.2.2 n with c | c | c
   ·rw[c] at h;cases h
   ·exact absurd c (hn y hy)
   ·exact c
  rw[List.append_assoc,List.pairwise_append]
  refine⟨List.Pairwise.filter _ hb.rasc,?_,?_⟩
  ·rw[List.singleton_append,List.pairwise_cons]
   refine⟨fun y hy=> ?_,List.Pairwise.filter _ hb.rasc⟩
   obtain⟨y1,y2⟩:=List.mem_filter.mp hy
   exact up y y1 y2
  ·intro x hx y hy
   obtain⟨x1,x2⟩:=List.mem_filter.mp hx
   rcases List.mem_append.mp hy with hy | hy
   ·rw[List.mem_singleton] at hy;subst hy;exact x2
   ·obtain⟨y1,y2⟩:=List.mem_filter.mp hy
    exact s9n x2 (up y y1 y2)
 ·rw[t9f]
  intro x hx
  show x.1<u1m b.2.2.2.2 t.1
  rcases List.mem_append.mp hx with hx | hx
  ·have:=hbl x (List.mem_append_left _ hx);omega
  ·rcases mem hx with hx | rfl
   ·have:=hbl x (List.mem_append_right _ hx);omega
   ·exact hg.2
 ·rw[q48]
  refine o5p.mpr ⟨u1,?_,fun x hx y hy=> ?_⟩
  ·show uq ((b.2.2.1.filter fun x=>y3c x.2.2.2.2.2.2.2 n)++ [u4q b t n] ++(b.2.2.1.filter fun x=> !y3c x.2.2.2.2.2.2.2 n))
   rw[List.append_assoc]
   refine o5p.mpr ⟨q16 u2 _,?_,fun x hx y hy=> ?_⟩
   ·rw[List.singleton_append]
    refine List.pairwise_cons.mpr ⟨fun y hy=> ?_,q16 u2 _⟩
    exact(hid y (List.mem_append_right _ (List.mem_filter.mp hy).1)).symm
   ·obtain⟨x1,x2⟩:=List.mem_filter.mp hx
    rcases List.mem_append.mp hy with hy | hy
    ·rw[List.mem_singleton] at hy;subst hy
     exact hid x (List.mem_append_right _ x1)
    ·obtain⟨y1,y2⟩:=List.mem_filter.mp hy
     intro e
     have:=o1t u2 x x1 y y1 e
     subst this
     rw[x2] at y2;cases y2
  ·rcases mem hy with hy | rfl
   ·exact u3 x hx y hy
   ·exact hid x (List.mem_append_left _ hx)
theorem q1c {b:u0i} (hb:BaseR b) (n:ByteArray):BaseR (s1v b n):=by
 have sp:(b.2.2.1.filter fun x=> !z7o x.2.2.2.2.2.2.2 n).Sublist b.2.2.1:=List.filter_sublist
 have si:(b.2.1++(b.2.2.1.filter fun x=> !z7o x.2.2.2.2.2.2.2 n)).Sublist (b.2.1++b.2.2.1):=(List.Sublist.refl _).append sp
 refine⟨hb.vs,hb.vcs,hb.cs,hb.next,hb.plen,hb.past,hb.pasc,Nat.le_trans sp.length_le hb.rlen,fun t h=>hb.ready t (sp.subset h),hb.rasc.sublist sp,?_,?_⟩
 ·rw[t9f]
  intro x hx
  exact t9f.mp hb.below x (si.subset hx)
 ·rw[q48]
  exact List.Pairwise.sublist si (q48.mp hb.nodup)
end
section
def o1j (id snap:Int):u0e:=(id,(1:Int),snap,(0:Int), [], [],false,(⟨#[]⟩:ByteArray))
def r95 (e:u1q):u1q:=((e.1.1,e.1.2.1,e.1.2.2.1,e.1.2.2.2.1,e.1.2.2.2.2+1),e.2++ [o1j e.1.2.2.2.2 e.1.2.2.2.1])
def q10 (e:u1q) (k:Nat) (t:u0e):u1q:=(e.1,e.2.set k t)
def u60 (e:u1q) (id:Int):List u0e:=e.2.filter fun x=> !decide (x.1=id)
def t4v (e:u1q) (id:Int):u1q:=(u4r e.1 (u60 e id),u60 e id)
def u54 (e:u1q) (t:u0e):u1q:=(u4r (u1h e.1 t) (u60 e t.1),u60 e t.1)
def p59 (e:u1q) (t:u0e) (n:ByteArray):u1q:=(u4r (u1s e.1 t n) (u60 e t.1),u60 e t.1)
def o31 (e:u1q) (t:u0e):u1q:=(u4r (u1h e.1 t) e.2,e.2)
def noE (e:u1q) (n:ByteArray):u1q:=(u4r (s1v e.1 n) e.2,e.2)
theorem EngR.uq {e:u1q} (h:EngR e):uq (e.1.2.1++e.1.2.2.1++e.2):=q48.mp h.nodup
theorem EngR.bel {e:u1q} (h:EngR e):∀t∈e.1.2.1++e.1.2.2.1++e.2,t.1<e.1.2.2.2.2:=t9f.mp h.below
theorem EngR.apart {e:u1q} (h:EngR e):∀x∈e.1.2.1++e.1.2.2.1,∀y∈e.2,x.1≠y.1:=(o5p.mp h.uq).2.2
theorem EngR.uqo {e:u1q} (h:EngR e):Ab.uq e.2:=(o5p.mp h.uq).2.1
theorem r76 {e:u1q} {b:u0i} {o:List u0e} (h:EngR e) (hb:BaseR b) (ho:o.Sublist e.2) (hc:e.1.2.2.2.1≤b.2.2.2.1) (hn:e.1.2.2.2.2≤b.2.2.2.2) (hu:∀x∈b.2.1++b.2.2.1,∀y∈o,x.1≠y.1):EngR (b,o):=by
 refine⟨hb,Nat.le_trans ho.length_le h.olen,fun t ht=> ?_,h.oasc.sublist ho,?_,?_⟩
 ·obtain⟨q1,q2,q3⟩:=h.open_ t (ho.subset ht)
  exact⟨q1,q2,by show t.2.2.1≤b.2.2.2.1;omega⟩
 ·rw[t9f]
  intro x hx
  rcases List.mem_append.mp hx with hx | hx
  ·exact t9f.mp hb.below x hx
  ·have:=h.bel x (List.mem_append_right _ (ho.subset hx))
   show x.1<b.2.2.2.2
   omega
 ·rw[q48]
  exact o5p.mpr ⟨q48.mp hb.nodup,List.Pairwise.sublist ho h.uqo,hu⟩
theorem t89 {b:u0i} {o:List u0e} {x:u0e} (h:x∈(u4r b o).2.1++(u4r b o).2.2.1):x∈b.2.1++b.2.2.1:=by
 rcases List.mem_append.mp h with h | h
 ·exact List.mem_append_left _ (List.mem_filter.mp h).1
 ·exact List.mem_append_right _ h
theorem u8o (e:u1q) (id:Int):(u60 e id).Sublist e.2:=List.filter_sublist
theorem q1x {e:u1q} {id:Int} {x:u0e} (h:x∈u60 e id):x.1≠id:=by
 have:=(List.mem_filter.mp h).2
 simpa using this
theorem p9q {e:u1q} (h:EngR e) (hl:e.2.length<4) (hn:e.1.2.2.2.2<9999):EngR (r95 e):=by
 have hb:=h.base
 have n1:=hb.next.1
 have hT:TxnR (o1j e.1.2.2.2.2 e.1.2.2.2.1):=
  ⟨⟨n1,by show e.1.2.2.2.2≤9999;omega⟩,⟨by show(1:Int)≤1;omega,by show(1:Int)≤3;omega⟩,hb.cs,Nat.zero_le _,rfl,fun r hr=>(by cases hr),fun e=>by have e:(1:Int)=3:=e;omega,fun _=>rfl,fun e=>by have e:(1:Int)=2:=e;omega,fun _=>rfl,fun _=>rfl⟩
 have hbel:=h.bel
 refine⟨⟨hb.vs,hb.vcs,hb.cs,⟨by show 1≤e.1.2.2.2.2+1;omega,by show e.1.2.2.2.2+1≤9999;omega⟩,hb.plen,hb.past,hb.pasc,hb.rlen,hb.ready,hb.rasc,?_,hb.nodup⟩,?_,?_,?_,?_,?_⟩
 ·rw[t9f]
  intro x hx
  have:=hbel x (List.mem_append_left _ hx)
  show x.1<e.1.2.2.2.2+1
  omega
 ·show(e.2++ [_]).length≤4
  simp only[List.length_append,List.length_singleton];omega
 ·intro t ht
  rcases List.mem_append.mp ht with ht | ht
  ·exact h.open_ t ht
  ·rw[List.mem_singleton] at ht;subst ht
   exact⟨hT,rfl,Int.le_refl _⟩
 ·show(e.2++ [_]).Pairwise _
  rw[List.pairwise_append]
  refine⟨h.oasc,List.pairwise_singleton _ _,fun x hx y hy=> ?_⟩
  rw[List.mem_singleton] at hy;subst hy
  exact hbel x (List.mem_append_right _ hx)
 ·rw[t9f]
  intro x hx
  show x.1<e.1.2.2.2.2+1
  have hx:x∈e.1.2.1++e.1.2.2.1++(e.2++ [o1j e.1.2.2.2.2 e.1.2.2.2.1]):=hx
  rw[←List.append_assoc] at hx
  rcases List.mem_append.mp hx with hx | hx
  ·have:=hbel x hx;omega
  ·rw[List.mem_singleton] at hx;subst hx
   show e.1.2.2.2.2<_
   omega
 ·rw[q48]
  show uq (e.1.2.1++e.1.2.2.1++(e.2++ [o1j e.1.2.2.2.2 e.1.2.2.2.1]))
  rw[←List.append_assoc]
  refine o5p.mpr ⟨h.uq,p6s,fun x hx y hy=> ?_⟩
  rw[List.mem_singleton] at hy;subst hy
  have:=hbel x hx
  show x.1≠e.1.2.2.2.2
  omega
theorem q9j {α β:Type} (f:α→β) (l:List α) (k:Nat) (a:α) (h:k<l.length) (ha:f a=f l[k]):(l.set k a).map f=l.map f:=by
 apply List.ext_getElem (by simp)
 intro i h1 h2
 simp only[List.getElem_map,List.getElem_set]
 split
 ·rename_i e;subst e;exact ha
 ·rfl
theorem q7f {α:Type} {l:List α} {k:Nat} {a x:α} (h:x∈l.set k a):x∈l∨x=a:=List.mem_or_eq_of_mem_set h
theorem q95 {e:u1q} (h:EngR e) {k:Nat} (hk:k<e.2.length) {t:u0e} (ht:TxnR t) (h1:t.1=e.2[k].1) (h2:t.2.1=1) (h3:t.2.2.1=e.2[k].2.2.1):EngR (q10 e k t):=by
 have hm:u4k (e.2.set k t)=u4k e.2:=q9j _ _ _ _ hk h1
 have hid:u4k (e.1.2.1++e.1.2.2.1++e.2.set k t)=u4k (e.1.2.1++e.1.2.2.1++e.2):=by
  have:∀a b:List u0e,u4k (a++b)=u4k a++u4k b:=fun a b=>by simp[u4k]
  rw[this,hm,←this]
 refine⟨h.base,by show(e.2.set k t).length≤4;rw[List.length_set];exact h.olen,fun x hx=> ?_,?_,?_,?_⟩
 ·rcases q7f hx with hx | rfl
  ·exact h.open_ x hx
  ·have:=(h.open_ _ (List.getElem_mem hk)).2.2
   exact⟨ht,h2,by rw[h3];exact this⟩
 ·have q:(u4k (e.2.set k t)).Pairwise fun a b=>a<b:=by
   rw[hm];unfold u4k;rw[List.pairwise_map];exact h.oasc
  unfold u4k at q
  rw[List.pairwise_map] at q
  exact q
 ·show ∀x∈u4k (e.1.2.1++e.1.2.2.1++e.2.set k t),x<e.1.2.2.2.2
  rw[hid];exact h.below
 ·show(u4k (e.1.2.1++e.1.2.2.1++e.2.set k t)).Nodup
  rw[hid];exact h.nodup
theorem p9w {e:u1q} (h:EngR e) (id:Int):EngR (t4v e id):=
 r76 h (t4i h.base _) (u8o e id) (Int.le_refl _) (Int.le_refl _) fun x hx y hy=>h.apart x (t89 hx) y ((u8o e id).subset hy)
theorem p96 {e:u1q} (h:EngR e):EngR (u4r e.1 e.2,e.2):=
 r76 h (t4i h.base _) (List.Sublist.refl _) (Int.le_refl _) (Int.le_refl _) fun x hx y hy=>h.apart x (t89 hx) y hy
theorem r9f {b:u0i} (h:s8w b=false):b.2.1.length<12∧b.1.length≤100∧b.2.2.2.1<9999:=by
 unfold s8w at h
 simp only[Bool.or_eq_false_iff,decide_eq_false_iff_not] at h
 obtain⟨h1,h2,h3⟩:=h
 exact⟨by omega,by omega,by omega⟩
theorem s3s {e:u1q} (h:EngR e) {t:u0e} (ht:t∈e.2∨t∈e.1.2.2.1) (hf:s8w e.1=false):BaseR (u1h e.1 t):=by
 obtain⟨f1,f2,f3⟩:=r9f hf
 have hq:TxnR t∧t.2.2.1≤e.1.2.2.2.1:=by
  rcases ht with ht | ht
  ·exact⟨(h.open_ t ht).1,(h.open_ t ht).2.2⟩
  ·exact⟨(h.base.ready t ht).1,(h.base.ready t ht).2.2⟩
 have hlt:t.1<e.1.2.2.2.2:=by
  rcases ht with ht | ht
  ·exact h.bel t (List.mem_append_right _ ht)
  ·exact h.bel t (List.mem_append_left _ (List.mem_append_right _ ht))
 refine q98 h.base hq.1 hq.2 f3 f1 (by omega) (fun x hx=> ?_) (by have:=h.base.next.2;omega)
 rcases ht with ht | ht
 ·exact h.apart x (List.mem_append_left _ hx) t ht
 ·exact(o5p.mp (o5p.mp h.uq).1).2.2 x hx t ht
theorem r3u {b:u0i} {t x:u0e} (h:x∈(u1h b t).2.1++(u1h b t).2.2.1):x.1=t.1∨ ∃y∈b.2.1++b.2.2.1,y.1=x.1:=by
 rcases List.mem_append.mp h with h | h
 ·rcases List.mem_append.mp h with h | h
  ·exact .inr ⟨x,List.mem_append_left _ h,rfl⟩
  ·rw[List.mem_singleton] at h;subst h;exact .inl rfl
 ·obtain⟨y,hy,rfl⟩:=List.mem_map.mp h
  exact .inr ⟨y,List.mem_append_right _ (List.mem_filter.mp hy).1,rfl⟩
theorem q52 {e:u1q} (h:EngR e) {t:u0e} (ht:t∈e.2) (hf:s8w e.1=false):EngR (u54 e t):=by
 have hg:=t08 e.1.2.2.2.2 t.1
 refine r76 h (t4i (s3s h (.inl ht) hf) _) (u8o e t.1) (by show e.1.2.2.2.1≤e.1.2.2.2.1+1;omega) hg.1 fun x hx y hy=> ?_
 rcases r3u (t89 hx) with q | ⟨z,hz,q⟩
 ·rw[q];exact(q1x hy).symm
 ·rw[←q];exact h.apart z hz y ((u8o e t.1).subset hy)
theorem o32 {e:u1q} (h:EngR e) {t:u0e} (ht:t∈e.1.2.2.1) (hf:s8w e.1=false):EngR (o31 e t):=by
 have hg:=t08 e.1.2.2.2.2 t.1
 refine r76 h (t4i (s3s h (.inr ht) hf) _) (List.Sublist.refl _) (by show e.1.2.2.2.1≤e.1.2.2.2.1+1;omega) hg.1 fun x hx y hy=> ?_
 rcases r3u (t89 hx) with q | ⟨z,hz,q⟩
 ·rw[q];exact h.apart t (List.mem_append_right _ ht) y hy
 ·rw[←q];exact h.apart z hz y hy
theorem o58 {e:u1q} (h:EngR e) (n:ByteArray):EngR (noE e n):=by
 refine r76 h (t4i (q1c h.base n) _) (List.Sublist.refl _) (Int.le_refl _) (Int.le_refl _) fun x hx y hy=> ?_
 rcases List.mem_append.mp (t89 hx) with hx | hx
 ·exact h.apart x (List.mem_append_left _ hx) y hy
 ·exact h.apart x (List.mem_append_right _ (List.mem_filter.mp hx).1) y hy
theorem o1p {e:u1q} (h:EngR e) {t:u0e} (ht:t∈e.2) {n:ByteArray} (hk:u55 n=true) (hl:e.1.2.2.1.length<3) (hn:∀x∈e.1.2.2.1,x.2.2.2.2.2.2.2≠n):EngR (p59 e t n):=by
 obtain⟨q1,q2,q3⟩:=h.open_ t ht
 have hlt:=h.bel t (List.mem_append_right _ ht)
 have hg:=t08 e.1.2.2.2.2 t.1
 have hb:BaseR (u1s e.1 t n):=s4r h.base q1 (by omega) q3 hk hl hn (fun x hx=>h.apart x hx t ht) (by have:=h.base.next.2;omega)
 refine r76 h (t4i hb _) (u8o e t.1) (Int.le_refl _) hg.1 fun x hx y hy=> ?_
 have hy' :=(u8o e t.1).subset hy
 rcases List.mem_append.mp (t89 hx) with hx | hx
 ·exact h.apart x (List.mem_append_left _ hx) y hy'
 ·rcases List.mem_append.mp hx with hx | hx
  ·rcases List.mem_append.mp hx with hx | hx
   ·exact h.apart x (List.mem_append_right _ (List.mem_filter.mp hx).1) y hy'
   ·rw[List.mem_singleton] at hx;subst hx;exact(q1x hy).symm
  ·exact h.apart x (List.mem_append_right _ (List.mem_filter.mp hx).1) y hy'
end
section
def s0g (n:Nat):List Int:=if h:n<128 then[(n:Int)] else((n % 128+128:Nat):Int)::s0g (n / 128)
termination_by n
decreasing_by omega
theorem s9t {n:Nat} (h:n<128):s0g n= [(n:Int)] :=by rw[s0g,dif_pos h]
theorem r64 {n:Nat} (h: ¬n<128):s0g n=((n % 128+128:Nat):Int)::s0g (n / 128):=by rw[s0g,dif_neg h]
theorem p8o (n:Nat):(s0g n).length≤n+1:=by
 induction n using Nat.strongRecOn with
 | _ n ih=>
  by_cases h:n<128
  ·rw[s9t h];simp
  ·rw[r64 h]
   have:=ih (n / 128) (by omega)
   simp only[List.length_cons];omega
theorem p8p {S:Type} {W:Int×List Int→Option ((Int×List Int)⊕S)}
 (hW:∀x,W x=(bif (decide (x.1 >(127:Int))) then(bif (Nat.ble (x.2.length+([(IntKind.u8.wrap (IntKind.i64.wrap ((Int.tmod x.1 (128:Int))+(128:Int))))] :List Int).length) z7w) then
  (W ((IntKind.i64.wrap (Int.tdiv x.1 (128:Int))),(x.2++([(IntKind.u8.wrap (IntKind.i64.wrap ((Int.tmod x.1 (128:Int))+(128:Int))))] :List Int)))) else none) else(some (.inl x)))):
 ∀(n:Nat) (acc:List Int),acc.length+n≤1000000000000→ ∃m:Nat,∃acc' :List Int,W ((n:Int),acc)=some (.inl ((m:Int),acc'))∧m<128∧acc' ++ [(m:Int)] =acc++s0g n∧acc'.length≤acc.length+n:=by
 intro n
 induction n using Nat.strongRecOn with
 | _ n ih=>
  intro acc hn
  rw[hW]
  by_cases h:n<128
  ·have:decide ((n:Int) >(127:Int))=false:=by simp;omega
   simp only[this,cond_false]
   exact⟨n,acc,rfl,h,by rw[s9t h],by omega⟩
  ·have h1:decide ((n:Int) >(127:Int))=true:=by simp;omega
   have h2:Int.tmod (n:Int) (128:Int)=((n % 128:Nat):Int):=p6q n 128
   have h3:Int.tdiv (n:Int) (128:Int)=((n / 128:Nat):Int):=o1r n 128
   have h4:IntKind.u8.wrap (IntKind.i64.wrap (((n % 128:Nat):Int)+(128:Int)))=((n % 128+128:Nat):Int):=by
    rw[y4y (by omega) (by omega)]
    have:((n % 128:Nat):Int)+128=((n % 128+128:Nat):Int):=by simp
    rw[this,o0d (by omega)]
   simp only[h1,h2,h3,h4,cond_true,List.length_singleton,u07 (show acc.length+1≤1099511627776 by omega)]
   rw[y8b (by omega)]
   obtain⟨m,acc',e1,e2,e3,e4⟩:=ih (n / 128) (by omega) (acc++ [((n % 128+128:Nat):Int)]) (by simp;omega)
   refine⟨m,acc',e1,e2,?_,?_⟩
   ·rw[e3,r64 h,List.append_assoc];rfl
   ·have:(acc++ [((n % 128+128:Nat):Int)]).length=acc.length+1:=by simp
    omega
theorem q1j (n:Nat) (hn:n≤100000000000):u1n (n:Int)=some (y7g (s0g n)):=by
 rw[q6w];unfold r4w
 obtain⟨m,acc',e1,e2,e3,e4⟩:=p8p (W:=t5h) (fun x=>q19 x) n [] (by simp;omega)
 have e4:acc'.length≤n:=by simpa using e4
 simp only[e1,zOb,List.length_singleton,u07 (show acc'.length+1≤1099511627776 by omega),cond_true]
 rw[o0d (by omega),e3];rfl
def r0l:Nat→Nat→Nat→List UInt8→Option (Nat×Nat)
 | 0,_,_,_=>none
 | _+1,_,_, [] =>none
 | f+1,i,n,b::l=>
  if b.toNat<128 then(if n+b.toNat % 128*128^i≤1000000000∧(s0g (n+b.toNat % 128*128^i)).length=i+1 then some (n+b.toNat % 128*128^i,i+1) else none)
  else r0l f (i+1) (n+b.toNat % 128*128^i) l
def q17 (at_:Int) (r:Option (Nat×Nat)):Int×Int×Bool:=match r with
 | some (n,k)=>((n:Int),at_+(k:Int),true)
 | none=>(0,0,false)
def u0s (t:ByteArray) (at_:Int):Int×Int×Bool:=if 0≤at_∧at_≤t.size then q17 at_ (r0l 5 0 0 (t.data.toList.drop at_.toNat)) else(0,0,false)
theorem q7h:∀(f i n:Nat) (l:List UInt8) (v k:Nat),r0l f i n l=some (v,k)→v≤1000000000∧k≤i+l.length∧i<k
 | 0,_,_,_,_,_,h=>by cases h
 | _+1,_,_, [],_,_,h=>by cases h
 | f+1,i,n,b::l,v,k,h=>by
  simp only[r0l] at h
  split at h
  ·split at h
   ·rename_i h2
    simp only[Option.some.injEq,Prod.mk.injEq] at h
    obtain⟨rfl,rfl⟩:=h
    exact⟨h2.1,by simp,by omega⟩
   ·cases h
  ·have:=q7h f (i+1) _ l v k h
   simp only[List.length_cons]
   omega
theorem t4z {t:ByteArray} {at_:Int} (h:(u0s t at_).2.2=true):0≤(u0s t at_).1∧(u0s t at_).1≤1000000000∧0≤at_∧at_<(u0s t at_).2.1∧(u0s t at_).2.1≤t.size:=by
 unfold u0s at h ⊢
 split at h
 ·rename_i hc
  rw[if_pos hc]
  cases hv:r0l 5 0 0 (t.data.toList.drop at_.toNat) with
  | none=>rw[hv] at h;cases h
  | some r=>
   obtain⟨v,k⟩:=r
   have:=q7h 5 0 0 _ v k hv
   have hl:(t.data.toList.drop at_.toNat).length=t.size - at_.toNat:=by simp
   simp only[q17]
   omega
 ·cases h
theorem o1n (i:Nat) (h:i≤5):128^i≤34359738368:=by
 rcases i with _ | _ | _ | _ | _ | _ | i
 all_goals first | decide | omega
def q49:List UInt8→Nat
 | [] =>0
 | b::l=>b.toNat % 128+128*q49 l
theorem p6t (l:List UInt8) (b:UInt8):q49 (l++ [b])=q49 l+b.toNat % 128*128^l.length:=by
 induction l with
 | nil=>simp[q49]
 | cons x l ih=>
  simp only[List.cons_append,q49,ih,List.length_cons,Nat.pow_succ]
  rw[Nat.mul_add]
  have:128*(b.toNat % 128*128^l.length)=b.toNat % 128*(128^l.length*128):=by
   rw[Nat.mul_comm 128,Nat.mul_assoc]
  omega
theorem o0b (l:List UInt8) (b:UInt8) (hl:∀x∈l,¬x.toNat<128) (hb:b.toNat<128) (h:(s0g (q49 (l++ [b]))).length=l.length+1):s0g (q49 (l++ [b]))=(l++ [b]).map fun x=>(x.toNat:Int):=by
 induction l with
 | nil=>
  have:q49 ([] ++ [b])=b.toNat:=by simp[q49];omega
  rw[this,s9t hb];rfl
 | cons x l ih=>
  have hx:x.toNat<256:=UInt8.toNat_lt x
  have hx2:=hl x (by simp)
  simp only[List.cons_append,q49] at h ⊢
  by_cases hs:x.toNat % 128+128*q49 (l++ [b])<128
  ·rw[s9t hs] at h
   simp at h
  ·rw[r64 hs] at h ⊢
   have e1:(x.toNat % 128+128*q49 (l++ [b])) / 128=q49 (l++ [b]):=by omega
   have e2:(x.toNat % 128+128*q49 (l++ [b])) % 128+128=x.toNat:=by omega
   rw[e1] at h ⊢
   rw[e2]
   simp only[List.length_cons,Nat.add_right_cancel_iff] at h
   rw[ih (fun y hy=>hl y (by simp[hy])) h]
   rfl
theorem p8h (l:List UInt8):y7g (l.map fun x=>(x.toNat:Int))=⟨l.toArray⟩:=by
 unfold y7g
 simp only[List.map_map]
 have:(l.map ((fun n=>UInt8.ofNat n.toNat) ∘fun b=>(b.toNat:Int)))=l:=by
  conv=>rhs;rw[←List.map_id l]
  apply List.map_congr_left
  intro b _
  simp
 rw[this]
theorem r72 (t:ByteArray) (a b:Nat) (h:b≤t.size):t.extract a b=⟨((t.data.toList.drop a).take (b - a)).toArray⟩:=by
 apply ByteArray.ext
 simp only[ByteArray.data_extract]
 apply Array.ext'
 simp[List.extract_eq_take_drop]
theorem o1c {q:Nat} (h:q≤1000000000):decide ((q:Int) >(1000000000:Int))=false:=by simp;omega
theorem o09 {q:Nat} (h: ¬q≤1000000000):decide ((q:Int) >(1000000000:Int))=true:=by simp;omega
theorem r69 (t:ByteArray) (at_:Int) (ht:t.size≤u0l):t7m (t,at_)=some (u0s t at_):=by
 unfold u0l at ht
 rw[q25];unfold r1b u0s
 simp only[t7c,q64,zOb]
 by_cases h:0≤at_∧at_≤t.size
 ·obtain⟨p,rfl⟩:∃p:Nat,at_=p:=⟨at_.toNat,by omega⟩
  have hp:p≤t.size:=by omega
  rw[decide_eq_true h,if_pos h]
  have L:∀(f i:Nat),i+f=5→p+i≤t.size→(∀x∈(t.data.toList.drop p).take i,¬x.toNat<128)→q49 ((t.data.toList.drop p).take i)<128^i→
   ((t38 (t,(p:Int),((q49 ((t.data.toList.drop p).take i):Nat):Int),((128^i:Nat):Int),((p+i:Nat):Int))).bind fun r=>match r with
   | .inl o=>some ((0:Int),(0:Int),false)
   | .inr z=>some z)=some (q17 p (r0l f i (q49 ((t.data.toList.drop p).take i)) (t.data.toList.drop (p+i)))):=by
   intro f
   induction f with
   | zero=>
    intro i hi hpi hall hn
    have:i=5:=by omega
    subst this
    rw[s65];simp only[t3w]
    have e1:decide (((p+5:Nat):Int)<IntKind.i64.wrap ((p:Int)+5))=false:=by rw[y4y (by omega) (by omega)];simp
    rw[e1]
    cases decide (((p+5:Nat):Int)<(t.size:Int))<;>rfl
   | succ f ih=>
    intro i hi hpi hall hn
    have hi5:i<5:=by omega
    have hpw:=o1n i (by omega)
    rw[s65];simp only[t3w]
    have e1:decide (((p+i:Nat):Int)<IntKind.i64.wrap ((p:Int)+5))=true:=by rw[y4y (by omega) (by omega)];simp;omega
    by_cases hlt:p+i<t.size
    ·have hd:t.data.toList.drop (p+i)=(t.data.toList[p+i]'(by simpa using hlt))::t.data.toList.drop (p+i+1):=List.drop_eq_getElem_cons (by simpa using hlt)
     have hb:(t.data.toList[p+i]'(by simpa using hlt)).toNat<256:=UInt8.toNat_lt _
     have htk:(t.data.toList.drop p).take (i+1)=(t.data.toList.drop p).take i++ [t.data.toList[p+i]'(by simpa using hlt)] :=by
      rw[List.take_succ_eq_append_getElem (by simp;omega)]
      simp
     have htl:((t.data.toList.drop p).take i).length=i:=by simp;omega
     have hvs:=p6t ((t.data.toList.drop p).take i) (t.data.toList[p+i]'(by simpa using hlt))
     rw[htl] at hvs
     rw[hd]
     generalize hc:(t.data.toList[p+i]'(by simpa using hlt))=c at hb htk hvs
     generalize hn' :q49 ((t.data.toList.drop p).take i)=n at hn hvs ⊢
     have e2:decide (((p+i:Nat):Int)<(t.size:Int))=true:=by simp;omega
     have t2:Int.tmod ((c.toNat:Nat):Int) (128:Int)=((c.toNat % 128:Nat):Int):=p6q _ 128
     have hm:c.toNat % 128*128^i≤127*34359738368:=Nat.mul_le_mul (by omega) hpw
     have w2:IntKind.i64.wrap (((c.toNat % 128:Nat):Int)*((128^i:Nat):Int))=((c.toNat % 128*128^i:Nat):Int):=by
      rw[←Int.natCast_mul];exact y8b (by omega)
     have w3:IntKind.i64.wrap ((n:Int)+((c.toNat % 128*128^i:Nat):Int))=((n+c.toNat % 128*128^i:Nat):Int):=by
      rw[←Int.natCast_add];exact y8b (by omega)
     have wp:IntKind.i64.wrap (((p+i:Nat):Int)+1)=((p+i+1:Nat):Int):=y7l (by omega)
     have ws:IntKind.i64.wrap (((128^i:Nat):Int)*128)=((128^(i+1):Nat):Int):=by
      rw[Nat.pow_succ,Int.natCast_mul]
      exact y4y (by omega) (by omega)
     simp only[e1,e2,cond_true,zOb,y7t hlt,zTn,p7f hlt,hc,y8b (show c.toNat≤4611686018427387904 by omega),t2,w2,w3,wp,ws,r0l]
     by_cases hc1:c.toNat<128
     ·have e4:decide (((c.toNat:Nat):Int)<(128:Int))=true:=by simp;omega
      simp only[e4,cond_true,if_pos hc1]
      by_cases hv:n+c.toNat % 128*128^i≤1000000000
      ·have e5:decide (((n+c.toNat % 128*128^i:Nat):Int) >(1000000000:Int))=false:=o1c hv
       have e6:(decide (0≤(p:Int))&&decide ((p:Int)≤((p+i+1:Nat):Int))&&decide (((p+i+1:Nat):Int)≤(t.size:Int)))=true:=by simp;omega
       simp only[e5,cond_false,q1j _ (show n+c.toNat % 128*128^i≤100000000000 by omega),zOb,e6,cond_true]
       have hx:t.extract p (p+i+1)=⟨((t.data.toList.drop p).take (i+1)).toArray⟩:=by
        rw[r72 t p (p+i+1) (by omega)]
        have:p+i+1 - p=i+1:=by omega
        rw[this]
       rw[hx]
       have hv' :n+c.toNat % 128*128^i=q49 ((t.data.toList.drop p).take i++ [c]):=hvs.symm
       by_cases hl:(s0g (n+c.toNat % 128*128^i)).length=i+1
       ·rw[if_pos ⟨hv,hl⟩]
        have key:s0g (n+c.toNat % 128*128^i)=((t.data.toList.drop p).take (i+1)).map fun x=>(x.toNat:Int):=by
         rw[hv',htk]
         exact o0b _ c hall hc1 (by rw[←hv',hl,htl])
        rw[key,p8h,y6l]
        simp only[Bool.not_true,cond_false,zOb,q17]
        simp[Int.add_assoc]
       ·rw[if_neg (fun hh=>hl hh.2)]
        have hne:z7o (y7g (s0g (n+c.toNat % 128*128^i))) ⟨((t.data.toList.drop p).take (i+1)).toArray⟩=false:=by
         rw[←Bool.not_eq_true,y7f]
         intro hh
         have:=congrArg ByteArray.size hh
         rw[u51] at this
         apply hl
         rw[this]
         show((t.data.toList.drop p).take (i+1)).toArray.size=_
         simp;omega
        rw[hne];rfl
      ·have e5:decide (((n+c.toNat % 128*128^i:Nat):Int) >(1000000000:Int))=true:=o09 hv
       rw[if_neg (fun hh=>hv hh.1),e5];rfl
     ·have e4:decide (((c.toNat:Nat):Int)<(128:Int))=false:=by simp;omega
      simp only[e4,cond_false,if_neg hc1]
      have:=ih (i+1) (by omega) (by omega) (by
       rw[htk]
       intro x hx
       rcases List.mem_append.mp hx with hx | hx
       ·exact hall x hx
       ·simp at hx;rw[hx];exact hc1) (by
       rw[htk,hvs]
       have:128^(i+1)=128^i*128:=Nat.pow_succ 128 i
       have h2:c.toNat % 128*128^i≤127*128^i:=Nat.mul_le_mul (by omega) (Nat.le_refl _)
       omega)
      rw[htk,hvs] at this
      exact this
    ·have e2:decide (((p+i:Nat):Int)<(t.size:Int))=false:=by simp;omega
     have hd:t.data.toList.drop (p+i)= [] :=List.drop_eq_nil_of_le (by simp;omega)
     rw[hd]
     simp only[e2,zOb,cond_false,r0l]
     rfl
  exact L 5 0 rfl (by omega) (by simp) (by simp[q49])
 ·rw[decide_eq_false h,if_neg h];rfl
end
section
def u0p (t:ByteArray) (at_:Int):ByteArray×Int×Bool:=
 if(u0s t at_).2.2=true∧(u0s t at_).1≤20000∧(u0s t at_).1≤(t.size:Int) - (u0s t at_).2.1 then
  (t.extract (u0s t at_).2.1.toNat ((u0s t at_).2.1+(u0s t at_).1).toNat,(u0s t at_).2.1+(u0s t at_).1,true)
 else(emp,0,false)
theorem s9k {t:ByteArray} {at_:Int} (h:(u0p t at_).2.2=true):0≤(u0p t at_).2.1∧(u0p t at_).2.1≤t.size:=by
 unfold u0p at h ⊢
 split at h
 ·rename_i hc
  rw[if_pos hc]
  have:=t4z hc.1
  simp only
  omega
 ·cases h
theorem p4f (t:ByteArray) (at_:Int) (ht:t.size≤u0l):
 (((bif (!(u0s t at_).2.2) then(some true) else(bif (decide ((u0s t at_).1 >(20000:Int))) then(some true) else(some (decide ((u0s t at_).1 >(IntKind.i64.wrap ((t.size:Int) - (u0s t at_).2.1))))))):Option Bool).bind fun j2=>
  (bif j2 then(some ((⟨#[]⟩:ByteArray),((0:Int),false))) else(bif (decide (0≤(u0s t at_).2.1)&&decide ((u0s t at_).2.1≤(IntKind.i64.wrap ((u0s t at_).2.1+(u0s t at_).1)))&&decide ((IntKind.i64.wrap ((u0s t at_).2.1+(u0s t at_).1))≤(t.size:Int))) then
   (some ((t.extract ((u0s t at_).2.1).toNat ((IntKind.i64.wrap ((u0s t at_).2.1+(u0s t at_).1))).toNat),((IntKind.i64.wrap ((u0s t at_).2.1+(u0s t at_).1)),true))) else none)))=some (u0p t at_):=by
 unfold u0l at ht
 unfold u0p
 cases ho:(u0s t at_).2.2 with
 | false=>rfl
 | true=>
  have hk:=t4z ho
  rw[y4y (n:=(t.size:Int) - (u0s t at_).2.1) (by omega) (by omega),y4y (n:=(u0s t at_).2.1+(u0s t at_).1) (by omega) (by omega)]
  by_cases h1:(u0s t at_).1 >20000
  ·rw[if_neg (by omega),decide_eq_true h1];rfl
  ·rw[decide_eq_false h1]
   by_cases h2:(u0s t at_).1 >(t.size:Int) - (u0s t at_).2.1
   ·rw[if_neg (by omega),decide_eq_true h2];rfl
   ·rw[if_pos ⟨rfl,by omega,by omega⟩,decide_eq_false h2]
    simp only[Bool.not_true,cond_false,zOb]
    rw[decide_eq_true (show 0≤(u0s t at_).2.1 by omega),decide_eq_true (show(u0s t at_).2.1≤(u0s t at_).2.1+(u0s t at_).1 by omega),decide_eq_true (show(u0s t at_).2.1+(u0s t at_).1≤(t.size:Int) by omega)]
    rfl
theorem r0p (t:ByteArray) (at_:Int) (ht:t.size≤u0l):t4h (t,at_)=some (u0p t at_):=by
 rw[r83];unfold s5j
 simp only[r69 t at_ ht,zOb]
 exact p4f t at_ ht
def r8o (t:ByteArray):Int:=((t.data.toList.getD 0 0).toNat:Int)
theorem q50 (t:ByteArray):0≤r8o t∧r8o t<256:=by
 unfold r8o
 have:(t.data.toList.getD 0 0).toNat<256:=UInt8.toNat_lt _
 omega
def u43 (d:u0j) (s:Int):Int:=r8o (u0h d s).1
theorem p4a {d:u0j} {s:Int} (h:(u0h d s).2=false):(u0h d s).1=emp:=by
 unfold u0h at h ⊢
 split at h
 ·cases h
 ·rename_i hc;rw[if_neg hc]
theorem p3y (r:ByteArray×Bool) (h:r.2=false→r.1=emp):
 (((bif (!r.2) then(some true) else(some (z7o r.1 (⟨#[]⟩:ByteArray)))):Option Bool).bind fun j2=>(bif j2 then(some (0:Int)) else(bif (y4q (0:Int) r.1.size) then(some (IntKind.i64.wrap ((r.1.data.toList.getD ((0:Int)).toNat 0).toNat:Int))) else none)))=some (r8o r.1):=by
 obtain⟨t,o⟩:=r
 cases o with
 | false=>
  have:t=emp:=h rfl
  subst this;rfl
 | true=>
  simp only[Bool.not_true,cond_false,zOb]
  by_cases he:t=emp
  ·subst he
   have:z7o emp (⟨#[]⟩:ByteArray)=true:=y6l emp
   simp only[this,cond_true];rfl
  ·have h1:z7o t (⟨#[]⟩:ByteArray)=false:=by
    rw[←Bool.not_eq_true,y7f];exact he
   have h2:t.size≠0:=by
    intro hz
    apply he
    apply ByteArray.ext
    apply Array.eq_empty_of_size_eq_zero
    exact hz
   have h3:y4q (0:Int) t.size=true:=by simp[y4q];omega
   have hb:(t.data.toList.getD 0 0).toNat<256:=UInt8.toNat_lt _
   simp only[h1,cond_false,h3,cond_true,Int.toNat_zero]
   rw[y8b (by omega)];rfl
theorem s8z (d:u0j) (s:Int) (hd:o51.wt d≤u0l):t3b (d,s)=some (u43 d s):=by
 rw[q3j];unfold r1q
 simp only[t9a d s hd,zOb]
 exact p3y _ (fun h=>p4a h)
def u0w (d:u0j):Int:=Int.tmod (u43 d 0) 2
theorem t4l (d:u0j):u0w d=0∨u0w d=1:=by
 have:=q50 (u0h d 0).1
 unfold u0w u43
 have e:=Int.tmod_eq_emod_of_nonneg (b:=2) this.1
 rw[e];omega
theorem s4e (d:u0j) (hd:o51.wt d≤u0l):t1d d=some (u0w d):=by
 rw[q0m];unfold s74
 simp only[s8z d 0 hd,zOb];rfl
def p31 (a:Int):Bool:=decide (a=0) || decide (a=1)
def u0f (a:Int):Int:=if p31 a then 1+a*48 else 0
theorem p7n {a:Int} :p31 a=true↔a=0∨a=1:=by simp[p31]
theorem s0w (a:Int):0≤u0f a∧u0f a≤49:=by
 unfold u0f
 split
 ·rename_i h;have:=p7n.mp h;omega
 ·omega
theorem s95 (a:Int):u0o (a,0,1)=some (p31 a):=by
 rw[t7c,q64]
 congr 1
 rw[Bool.eq_iff_iff,p7n,decide_eq_true_iff];omega
theorem t6r (a:Int):u6e a=some (u0f a):=by
 rw[r8x];unfold s5d u0f
 simp only[s95,zOb]
 cases h:p31 a with
 | false=>rfl
 | true=>
  have:=p7n.mp h
  simp only[Bool.not_true,cond_false,if_true]
  rw[y4y (n:=a*48) (by omega) (by omega),y4y (by omega) (by omega)]
def u08 (d:u0j) (a:Int):Int:=if p31 a then u43 d (u0f a) else 0
theorem r6e (d:u0j) (a:Int):0≤u08 d a∧u08 d a<256:=by
 unfold u08
 split
 ·exact q50 _
 ·omega
theorem s0o (d:u0j) (a:Int) (hd:o51.wt d≤u0l):t28 (d,a)=some (u08 d a):=by
 rw[q2w];unfold r02 u08
 simp only[s95,t6r,s8z d _ hd,zOb]
 cases p31 a<;>rfl
def u6n (t:ByteArray):Nat→Int→List ByteArray→List ByteArray×Int×Bool
 | 0,at_,acc=>(acc,at_,true)
 | m+1,at_,acc=>if(u0p t at_).2.2&& !z7o (u0p t at_).1 emp then u6n t m (u0p t at_).2.1 (acc++ [(u0p t at_).1]) else([],0,false)
def u0c (d:u0j) (a:Int):List ByteArray×Int×Bool:=
 if p31 a&&(t1g d (u0f a+1) 47).2 then u6n (t1g d (u0f a+1) 47).1 (u08 d a).toNat 0 [] else([],0,false)
theorem q43 (d:u0j) (from_:Int):∀(m i:Nat) (acc:ByteArray),(r61 d from_ m i acc).1.size≤acc.size+m*o51.wt d
 | 0,i,acc=>by simp[r61]
 | m+1,i,acc=>by
  unfold r61
  split
  ·have h1:=q43 d from_ m (i+1) (acc++(u0h d (from_+(i:Int))).1)
   have h2:=r79 d (from_+(i:Int))
   rw[ByteArray.size_append] at h1
   have:(m+1)*o51.wt d=m*o51.wt d+o51.wt d:=Nat.succ_mul _ _
   omega
  ·show 0≤_;omega
theorem r8c (d:u0j) (from_ n:Int):(t1g d from_ n).1.size≤100*o51.wt d:=by
 unfold t1g
 split
 ·have h:=q43 d from_ n.toNat 0 emp
  have h2:emp.size=0:=rfl
  have h3:n.toNat*o51.wt d≤100*o51.wt d:=Nat.mul_le_mul (by omega) (Nat.le_refl _)
  omega
 ·show 0≤_;omega
theorem s4i (d:u0j) (a:Int) (hd:o51.wt d≤1073741824):u7p (d,a)=some (u0c d a):=by
 have hb:o51.wt d≤u0l:=by unfold u0l;omega
 have hf:=s0w a
 have hz:(t1g d (u0f a+1) 47).1.size≤u0l:=by have:=r8c d (u0f a+1) 47;unfold u0l;omega
 have hc:=r6e d a
 rw[q0t];unfold s8b u0c
 simp only[s95,t6r,zOb]
 rw[y4y (n:=u0f a+1) (by omega) (by omega)]
 simp only[r9s d (u0f a+1) 47 hd (by omega) (by omega),zOb]
 generalize t1g d (u0f a+1) 47=s at hz
 cases hs:s.2 with
 | false=>cases p31 a<;>rfl
 | true=>
  cases ha:p31 a with
  | false=>rfl
  | true=>
   have L:=r3c (fun x=>(t0d x).bind fun r=>match r with
    | .inl o=>some (o.1,o.2,true)
    | .inr z=>some z) (u08 d a).toNat (fun(p:List ByteArray×Int) i=>(a,d, [],s.1,p.1,p.2,i)) (fun i p=>u6n s.1 ((u08 d a).toNat - i) p.2 p.1) (fun i p=>p.1.length≤i)
    (fun p _=>by
     rw[s1o];simp only[u98,s0o d a hb,zOb]
     rw[decide_eq_false (by omega)]
     simp only[cond_false,zOb,Nat.sub_self,u6n])
    (fun i p hi hp=>by
     have e:(u08 d a).toNat - i=((u08 d a).toNat - (i+1))+1:=by omega
     rw[s1o];simp only[u98,s0o d a hb,zOb]
     rw[decide_eq_true (by omega),e]
     simp only[cond_true,r0p s.1 p.2 hz,zOb,u6n,p85]
     cases hr:(u0p s.1 p.2).2.2 with
     | false=>left;rfl
     | true=>
      cases hq:z7o (u0p s.1 p.2).1 emp with
      | true=>left;rfl
      | false=>
       right
       refine⟨(p.1++ [(u0p s.1 p.2).1],(u0p s.1 p.2).2.1),by simp;omega,by simp,?_⟩
       simp only[Bool.not_true,cond_false,zOb,List.length_singleton,u07 (show p.1.length+1≤1099511627776 by omega),cond_true]
       rw[y7l (by omega)]) 0 ([],0) (by omega) (by simp)
   simp only[Bool.not_true,cond_false,zOb,Bool.and_self,if_true]
   exact L
def u0k (d:u0j):List ByteArray:=(u0c d (u0w d)).1
theorem q4j (t:ByteArray):∀(m:Nat) (at_:Int) (acc:List ByteArray),(u6n t m at_ acc).1.length≤acc.length+m
 | 0,at_,acc=>by simp[u6n]
 | m+1,at_,acc=>by
  unfold u6n
  split
  ·have:=q4j t m (u0p t at_).2.1 (acc++ [(u0p t at_).1])
   simp at this;omega
  ·simp
theorem q9z (d:u0j) (a:Int):(u0c d a).1.length<256:=by
 unfold u0c
 split
 ·have h:=q4j (t1g d (u0f a+1) 47).1 (u08 d a).toNat 0 []
  have:=r6e d a
  simp at h;omega
 ·simp
end
section
def u1r (d:u0j):Bool:=decide (1≤d.1.length∧d.1.length≤100)&&decide (d.2.length≤60)&&d.1.all (fun s=>decide (s.size=64))&&d.2.all (fun p=>r2i p.1 0 ((d.1.length:Int) - 1)&&decide (p.2.size=64))
theorem p5k {α:Type} (l:List α) (p:α→Bool):l.any (fun x=> !p x)= !l.all p:=by
 induction l with
 | nil=>rfl
 | cons x l ih=>simp only[List.any_cons,List.all_cons,ih,Bool.not_and]
theorem s4g (d:u0j) (hd:o51.wt d≤u0l):t2g d=some (u1r d):=by
 have h1:d.1.length≤u0l:=Nat.le_trans s2w hd
 have h2:d.2.length≤u0l:=Nat.le_trans s8v hd
 unfold u0l at h1 h2
 have L1:=s4l t5c d.1 (fun i=>(d,i)) (fun s=> !decide (s.size=64)) (.inr false) (.inl d)
  (by rw[s9y];simp only[t47,u0b,Nat.lt_irrefl,decide_false,cond_false])
  (fun i hi=>by
   rw[s9y];simp only[t47,u0b,hi,decide_true,cond_true,y7t hi,zTn,y8k (t:=Ty.str) hi]
   rw[y7l (by omega)]
   have:decide (((d.1[i]).size:Int)=(64:Int))=decide ((d.1[i]).size=64):=by simp only[decide_eq_decide];omega
   rw[this])
 have L2:=s4l t5d d.2 (fun i=>(d,i)) (fun p=> !(r2i p.1 0 ((d.1.length:Int) - 1)&&decide (p.2.size=64))) (.inr false) (.inl ())
  (by rw[s9z];simp only[t48,u0b,Nat.lt_irrefl,decide_false,cond_false])
  (fun i hi=>by
   rw[s9z];simp only[t48,u0b,hi,decide_true,cond_true,y7t hi,zTn,y8k (t:=p62) hi,t7c,zOb]
   rw[y7l (by omega),y4y (n:=(d.1.length:Int) - 1) (by omega) (by omega)]
   have:decide (((d.2[i]).2.size:Int)=(64:Int))=decide ((d.2[i]).2.size=64):=by simp only[decide_eq_decide];omega
   rw[this]
   cases r2i (d.2[i]).1 0 ((d.1.length:Int) - 1)<;>rfl)
 rw[q6j];unfold r4j u1r
 simp only[t7c,q64 (a:=(d.1.length:Int)),L1,zOb]
 have e1:decide ((1:Int)≤(d.1.length:Int)∧(d.1.length:Int)≤100)=decide (1≤d.1.length∧d.1.length≤100):=by simp only[decide_eq_decide];omega
 have e2:decide ((d.2.length:Int) >60)= !decide (d.2.length≤60):=by
  rw[←decide_not,decide_eq_decide];omega
 rw[e1,e2,p5k]
 cases decide (1≤d.1.length∧d.1.length≤100) with
 | false=>rfl
 | true=>
  cases decide (d.2.length≤60) with
  | false=>rfl
  | true=>
   cases d.1.all (fun s=>decide (s.size=64)) with
   | false=>rfl
   | true=>
    simp only[Bool.not_true,cond_false,zOb,L2,p5k]
    cases d.2.all _<;>rfl
def u4d (d:u0j):Bool:=u1r d&&decide (d.1.length=97)&&decide (d.2.length=0)&&(u0c d 0).2.2&&(u0c d 1).2.2
theorem q4d (d:u0j) (hd:o51.wt d≤1073741824):s1b d=some (u4d d):=by
 have hb:o51.wt d≤u0l:=by unfold u0l;omega
 rw[q8y];unfold r7r u4d
 have hs:u7s ()=some 97:=by rw[s2z];rfl
 simp only[s4g d hb,hs,s4i d _ hd,zOb]
 have e1:decide ((d.1.length:Int)=97)=decide (d.1.length=97):=by rw[decide_eq_decide];omega
 have e2:decide ((d.2.length:Int) >0)= !decide (d.2.length=0):=by rw[←decide_not,decide_eq_decide];omega
 rw[e1,e2]
 cases u1r d<;>cases decide (d.1.length=97)<;>cases decide (d.2.length=0)<;>cases (u0c d 0).2.2<;>cases (u0c d 1).2.2<;>rfl
end
section
theorem p9s (d:u0j):o51.wt d=(d.1.length+(d.1.map ByteArray.size).sum)+(d.2.length+(d.2.map fun p=>0+p.2.size).sum):=rfl
theorem q45 {α:Type} {l:List α} {f:α→Nat} {k:Nat} (h:∀x∈l,f x≤k):(l.map f).sum≤l.length*k:=by
 induction l with
 | nil=>simp
 | cons x l ih=>
  have h1:=h x (List.mem_cons_self ..)
  have h2:=ih (fun y hy=>h y (List.mem_cons_of_mem _ hy))
  simp only[List.map_cons,List.sum_cons,List.length_cons,Nat.succ_mul]
  omega
theorem q4o {d:u0j} :u1r d=true↔(1≤d.1.length∧d.1.length≤100)∧d.2.length≤60∧(∀s∈d.1,s.size=64)∧ ∀p∈d.2,(0≤p.1∧p.1<(d.1.length:Int))∧p.2.size=64:=by
 unfold u1r
 simp only[Bool.and_eq_true,decide_eq_true_eq,List.all_eq_true,r2i,and_assoc]
 constructor
 ·rintro⟨a,b,c,e,f⟩
  exact⟨a,b,c,e,fun p hp=>by obtain⟨x,y,z⟩:=f p hp;exact⟨x,by omega,z⟩⟩
 ·rintro⟨a,b,c,e,f⟩
  exact⟨a,b,c,e,fun p hp=>by obtain⟨x,y,z⟩:=f p hp;exact⟨x,by omega,z⟩⟩
theorem t5l {d:u0j} (h:u1r d=true):o51.wt d≤11000:=by
 obtain⟨h1,h2,h3,h4⟩:=q4o.mp h
 have a1:=q45 (l:=d.1) (f:=ByteArray.size) (k:=64) (fun s hs=>by rw[h3 s hs];exact Nat.le_refl _)
 have a2:=q45 (l:=d.2) (f:=fun p=>0+p.2.size) (k:=64) (fun p hp=>by rw[(h4 p hp).2];exact Nat.le_refl _)
 rw[p9s]
 omega
theorem t1j (d:u0j) (hd:o51.wt d≤u0l):u01 d=some d:=by
 have h1:d.1.length≤u0l:=Nat.le_trans s2w hd
 have h2:d.2.length≤u0l:=Nat.le_trans s8v hd
 unfold u0l at h1 h2
 rw[q3h];unfold r1o
 have a1:Nat.ble (([] :List ByteArray).length+d.1.length) z7w=true:=u07 (by simp;omega)
 have a2:Nat.ble (([] :List p4t.den).length+d.2.length) z7w=true:=u07 (by simp;omega)
 simp only[a1,a2,cond_true,List.nil_append]
def u7a (d:u0j) (k:Int) (t:ByteArray):Option u0j:=if u1r (d.1,d.2++ [(k,t)]) then some (d.1,d.2++ [(k,t)]) else none
def orD (d:u0j):Option u0j→u0j×Bool
 | some x=>(x,true)
 | none=>(d,false)
theorem r3f (d:u0j) (k:Int) (t:ByteArray):u1r (d.1,d.2++ [(k,t)])=(u1r d&&(r2i k 0 ((d.1.length:Int) - 1)&&(decide (t.size=64)&& !decide (60≤d.2.length)))):=by
 rw[Bool.eq_iff_iff]
 simp only[Bool.and_eq_true,Bool.not_eq_true',decide_eq_true_eq,decide_eq_false_iff_not]
 rw[q4o,q4o]
 simp only[List.length_append,List.length_singleton,List.mem_append,List.mem_singleton,r2i,Bool.and_eq_true,decide_eq_true_eq]
 constructor
 ·rintro⟨a,b,c,e⟩
  have:=e (k,t) (.inr rfl)
  exact⟨⟨a,by omega,c,fun p hp=>e p (.inl hp)⟩,⟨this.1.1,by have:=this.1.2;omega⟩,this.2,by omega⟩
 ·rintro⟨⟨a,b,c,e⟩,⟨f1,f2⟩,g,h⟩
  refine⟨a,by omega,c,fun p hp=> ?_⟩
  rcases hp with hp | rfl
  ·exact e p hp
  ·exact⟨⟨f1,by show k<(d.1.length:Int);omega⟩,g⟩
theorem r8l (d:u0j) (k:Int) (t:ByteArray) (hd:o51.wt d≤1073741824) (ht:t.size≤1073741824):t0i (d,k,t)=some (orD d (u7a d k t)):=by
 have h2:d.2.length≤1073741824:=Nat.le_trans s8v hd
 have h1:d.1.length≤1073741824:=Nat.le_trans s2w hd
 have a:Nat.ble (d.2.length+([(k,t)] :List p4t.den).length) z7w=true:=u07 (by simp;omega)
 have w:IntKind.i64.wrap ((d.1.length:Int) - 1)=(d.1.length:Int) - 1:=y4y (by omega) (by omega)
 have e1:decide ((t.size:Int)=(64:Int))=decide (t.size=64):=by simp only[decide_eq_decide];omega
 have e2:decide ((d.2.length:Int)≥(60:Int))=decide (60≤d.2.length):=by simp only[decide_eq_decide];omega
 rw[r5e];unfold s0u
 simp only[t1j d (by unfold u0l;omega),s4g d (by unfold u0l;omega),zOb,a,cond_true,t7c,w,e1,e2]
 unfold u7a
 rw[r3f]
 cases u1r d<;>cases r2i k 0 ((d.1.length:Int) - 1)<;>cases decide (t.size=64)<;>cases decide (60≤d.2.length)<;>rfl
def q7r:Nat→u0j→Nat→Nat→ByteArray→Option u0j
 | 0,d,_,_,_=>some d
 | f+1,d,k,at_,t=>if t.size=0 then some d else
  if(u0h d (k:Int)).2=true∧(u0h d (k:Int)).1.size=64 then
   (u7a d (k:Int) ((u0h d (k:Int)).1.extract 0 at_++t.extract 0 (min t.size (64 - at_))++(u0h d (k:Int)).1.extract (at_+min t.size (64 - at_)) 64)).bind fun x=>
    q7r f x (k+1) 0 (t.extract (min t.size (64 - at_)) t.size)
  else none
theorem q7j (f:Nat) (d:u0j) (k at_:Nat) {t:ByteArray} (h:t.size=0):q7r f d k at_ t=some d:=by
 cases f with
 | zero=>rfl
 | succ f=>rw[q7r,if_pos h]
theorem t6p {d x:u0j} {k:Int} {t:ByteArray} (h:u7a d k t=some x):u1r x=true∧x=(d.1,d.2++ [(k,t)]):=by
 unfold u7a at h
 split at h
 ·rename_i hk;cases h;exact⟨hk,rfl⟩
 ·cases h
theorem r8d {t:ByteArray} :z7o t ⟨#[]⟩=decide (t.size=0):=by
 rw[Bool.eq_iff_iff,y7f,decide_eq_true_eq]
 constructor
 ·rintro rfl;rfl
 ·intro h
  have:t.data= #[] :=by apply Array.eq_empty_of_size_eq_zero;exact h
  cases t;simp at this;rw[this]
theorem p6w (d0 jk:u0j) (sec at_:Nat) (t:ByteArray) (hsec:sec≤2000000000) (hat:at_≤6400) (ht:t.size≤1048576) (h0:o51.wt d0≤1073741824):∀(f i:Nat) (out:u0j),i≤t.size→t.size - i<f→o51.wt out≤1073741824→
 u4u ((sec:Int),(at_:Int),t,d0,jk,out,(i:Int))=some (match q7r f out (sec+(at_+i) / 64) ((at_+i) % 64) (t.extract i t.size) with
  | some x=> .inl (jk,x)
  | none=> .inr (d0,false))
 | 0,i,out,_,h,_=>by omega
 | f+1,i,out,hi,hf,ho=>by
  have hsz:(t.extract i t.size).size=t.size - i:=by simp only[ByteArray.size_extract];omega
  have w0:IntKind.i64.wrap ((at_:Int)+(i:Int))=((at_+i:Nat):Int):=by rw[y4y (by omega) (by omega)];omega
  have t1:Int.tdiv ((at_+i:Nat):Int) (64:Int)=(((at_+i) / 64:Nat):Int):=o1r (at_+i) 64
  have t2:Int.tmod ((at_+i:Nat):Int) (64:Int)=(((at_+i) % 64:Nat):Int):=p6q (at_+i) 64
  obtain⟨q,hq⟩:∃q,q=(at_+i) / 64:=⟨_,rfl⟩
  obtain⟨m,hm⟩:∃m,m=(at_+i) % 64:=⟨_,rfl⟩
  have w1:IntKind.i64.wrap ((q:Int))=(q:Int):=y4y (by omega) (by omega)
  have w2:IntKind.i64.wrap ((sec:Int)+(q:Int))=((sec+q:Nat):Int):=by rw[y4y (by omega) (by omega)];omega
  have w3:IntKind.i64.wrap ((64:Int) - (m:Int))=((64 - m:Nat):Int):=by rw[y4y (by omega) (by omega)];omega
  have w4:IntKind.i64.wrap ((t.size:Int) - (i:Int))=((t.size - i:Nat):Int):=by rw[y4y (by omega) (by omega)];omega
  rw[r3x]
  simp only[t4j,w0,t1,t2,←hq,←hm,w1,w2,w3,w4,t9a out ((sec+q:Nat):Int) (by unfold u0l;omega),t1j d0 (by unfold u0l;omega),zOb,u0b]
  rw[q7r,hsz]
  by_cases hz:i<t.size
  ·have hz' : ¬t.size - i=0:=by omega
   simp only[hz,decide_true,cond_true,hz',if_false]
   generalize u0h out ((sec+q:Nat):Int)=r
   obtain⟨old,rok⟩:=r
   cases rok with
   | false=>simp
   | true=>
    have e64:decide ((old.size:Int)=(64:Int))=decide (old.size=64):=by simp only[decide_eq_decide];omega
    simp only[Bool.not_true,cond_false,zOb,e64]
    by_cases hs:old.size=64
    ·obtain⟨n,hn⟩:∃n,n=min (t.size - i) (64 - m):=⟨_,rfl⟩
     have z0:((0:Int)).toNat=0:=rfl
     have hm64:m<64:=by omega
     have body:∀N:Nat,N=n→IntKind.i64.wrap ((i:Int)+(N:Int))=((i+n:Nat):Int)∧IntKind.i64.wrap ((m:Int)+(N:Int))=((m+n:Nat):Int):=fun N hN=>by
      subst hN
      exact⟨by rw[y4y (by omega) (by omega)];omega,by rw[y4y (by omega) (by omega)];omega⟩
     have c1:(decide ((0:Int)≤0)&&decide ((0:Int)≤(m:Int))&&decide ((m:Int)≤((64:Nat):Int)))=true:=by simp;omega
     have c2:(decide ((0:Int)≤(i:Int))&&decide ((i:Int)≤((i+n:Nat):Int))&&decide (((i+n:Nat):Int)≤(t.size:Int)))=true:=by simp;omega
     have c3:decide ((old.extract 0 m).size+(t.extract i (i+n)).size≤140737488355328)=true:=by simp only[ByteArray.size_extract,decide_eq_true_eq];omega
     have c4:(decide ((0:Int)≤((m+n:Nat):Int))&&decide (((m+n:Nat):Int)≤((64:Nat):Int))&&decide (((64:Nat):Int)≤((64:Nat):Int)))=true:=by simp;omega
     have c5:decide ((old.extract 0 m++t.extract i (i+n)).size+(old.extract (m+n) 64).size≤140737488355328)=true:=by simp only[ByteArray.size_append,ByteArray.size_extract,decide_eq_true_eq];omega
     have hx1:(t.extract i t.size).extract 0 n=t.extract i (i+n):=by
      rw[ByteArray.extract_extract];congr 1;omega
     have hx2:(t.extract i t.size).extract n (t.size - i)=t.extract (i+n) t.size:=by
      rw[ByteArray.extract_extract];congr 1;omega
     have hw:=r8l out ((sec+q:Nat):Int) (old.extract 0 m++t.extract i (i+n)++old.extract (m+n) 64) ho (by simp only[ByteArray.size_append,ByteArray.size_extract];omega)
     have ih:∀x:u0j,u1r x=true→u4u ((sec:Int),(at_:Int),t,d0,jk,x,((i+n:Nat):Int))=some (match q7r f x (sec+q+1) 0 (t.extract (i+n) t.size) with
      | some x=> .inl (jk,x)
      | none=> .inr (d0,false)):=fun x hx=>by
      have:=p6w d0 jk sec at_ t hsec hat ht h0 f (i+n) x (by omega) (by omega) (Nat.le_trans (t5l hx) (by omega))
      rw[this]
      by_cases he:i+n=t.size
      ·have hsz2:(t.extract (i+n) t.size).size=0:=by simp only[ByteArray.size_extract];omega
       rw[q7j _ _ _ _ hsz2,q7j _ _ _ _ hsz2]
      ·have hn2:n=64 - m:=by omega
       have e1:sec+(at_+(i+n)) / 64=sec+q+1:=by omega
       have e2:(at_+(i+n)) % 64=0:=by omega
       rw[e1,e2]
     rw[←hn,hx1,hx2]
     simp only[hs,decide_true,Bool.not_true,cond_false,and_self,if_true]
     by_cases hb:t.size - i<64 - m
     ·obtain⟨b1,b2⟩:=body (t.size - i) (by omega)
      simp only[hb,decide_true,cond_true,b1,b2,zTn,z0,c3,c5]
      rw[c1,c2,c4]
      simp only[cond_true,hw,zOb]
      cases hx:u7a out ((sec+q:Nat):Int) (old.extract 0 m++t.extract i (i+n)++old.extract (m+n) 64) with
      | none=>simp[orD]
      | some x=>
       simp only[orD,Bool.not_true,cond_false,zOb]
       exact ih x (t6p hx).1
     ·obtain⟨b1,b2⟩:=body (64 - m) (by omega)
      simp only[hb,decide_false,cond_false,b1,b2,zTn,z0,c3,c5]
      rw[c1,c2,c4]
      simp only[cond_true,hw,zOb]
      cases hx:u7a out ((sec+q:Nat):Int) (old.extract 0 m++t.extract i (i+n)++old.extract (m+n) 64) with
      | none=>simp[orD]
      | some x=>
       simp only[orD,Bool.not_true,cond_false,zOb]
       exact ih x (t6p hx).1
    ·simp[hs]
  ·have hz' :t.size - i=0:=by omega
   simp only[hz,decide_false,cond_false,hz',if_true]
def u5w (d:u0j) (sector at_:Int) (t:ByteArray):Option u0j:=
 if r2i at_ 0 6400&&r2i sector 0 ((d.1.length:Int) - 1)&&u1r d then q7r (t.size+1) d (sector.toNat+at_.toNat / 64) (at_.toNat % 64) t else none
theorem t9b (d:u0j) (sector at_:Int) (t:ByteArray) (hd:o51.wt d≤1073741824) (ht:t.size≤1048576):u7r (d,sector,at_,t)=some (orD d (u5w d sector at_ t)):=by
 have h1:d.1.length≤1073741824:=Nat.le_trans s2w hd
 have w:IntKind.i64.wrap ((d.1.length:Int) - 1)=(d.1.length:Int) - 1:=y4y (by omega) (by omega)
 rw[r6q];unfold s2s u5w
 simp only[t1j d (by unfold u0l;omega),s4g d (by unfold u0l;omega),zOb,t7c,w]
 cases ha:r2i at_ 0 6400 with
 | false=>rfl
 | true=>
  cases hs:r2i sector 0 ((d.1.length:Int) - 1) with
  | false=>rfl
  | true=>
   cases hk:u1r d with
   | false=>rfl
   | true=>
    simp only[r2i,Bool.and_eq_true,decide_eq_true_eq] at ha hs
    obtain⟨s,rfl⟩:∃s:Nat,sector=(s:Int):=⟨sector.toNat,by omega⟩
    obtain⟨a,rfl⟩:∃a:Nat,at_=(a:Int):=⟨at_.toNat,by omega⟩
    have L:=p6w d ([], []) s a t (by omega) (by omega) ht hd (t.size+1) 0 d (by omega) (by omega) hd
    have L:u4u ((s:Int),(a:Int),t,d,([], []),d,0)=_:=L
    have e:t.extract 0 t.size=t:=ByteArray.extract_zero_size
    simp only[Bool.not_true,cond_false,zOb,L,Bool.and_self,if_true,zTn,Nat.add_zero,e]
    cases q7r (t.size+1) d (s+a / 64) (a % 64) t<;>rfl
end
section
def t95 (s:List ByteArray) (p:Int×ByteArray):List ByteArray:=s.set p.1.toNat p.2
def flush (d:u0j):u0j:=if u1r d then(d.2.foldl t95 d.1, []) else d
theorem r62 (s:List ByteArray) (p:Int×ByteArray):(t95 s p).length=s.length:=by simp[t95]
theorem r3h:∀(c:List (Int×ByteArray)) (s:List ByteArray),(c.foldl t95 s).length=s.length
 | [],s=>rfl
 | p::c,s=>by rw[List.foldl_cons,r3h c,r62]
theorem q4r:∀(c:List (Int×ByteArray)) (s:List ByteArray),(∀p∈c,p.2.size=64)→(∀x∈s,x.size=64)→ ∀x∈c.foldl t95 s,x.size=64
 | [],s,_,h=>h
 | p::c,s,hc,h=>by
  rw[List.foldl_cons]
  refine q4r c _ (fun q hq=>hc q (List.mem_cons_of_mem _ hq)) (fun x hx=> ?_)
  rcases List.mem_or_eq_of_mem_set hx with hx | rfl
  ·exact h x hx
  ·exact hc p (List.mem_cons_self ..)
theorem t7b {d:u0j} (h:u1r d=true):u1r (flush d)=true∧(flush d).2= [] ∧(flush d).1.length=d.1.length:=by
 unfold flush
 rw[if_pos h]
 obtain⟨h1,h2,h3,h4⟩:=q4o.mp h
 refine⟨q4o.mpr ⟨by rw[r3h];exact h1,by simp,q4r _ _ (fun p hp=>(h4 p hp).2) h3,fun p hp=>by cases hp⟩,rfl,r3h _ _⟩
theorem t6s (d:u0j) (hd:o51.wt d≤1073741824):u6f d=some (flush d):=by
 have h1:d.1.length≤1073741824:=Nat.le_trans s2w hd
 have h2:d.2.length≤1073741824:=Nat.le_trans s8v hd
 rw[r8z];unfold s5f flush
 simp only[t1j d (by unfold u0l;omega),s4g d (by unfold u0l;omega),zOb]
 cases hk:u1r d with
 | false=>rfl
 | true=>
  obtain⟨k1,k2,k3,k4⟩:=q4o.mp hk
  have L:=t7v t0c d.2 (fun s i=>(d,([], []),(s,d.2),i)) t95 (fun s=> .inl (([], []),(s,d.2))) (fun _ s=>s.length=d.1.length)
   (fun s _=>by rw[s1m];simp only[u96,u0b,Nat.lt_irrefl,decide_false,cond_false])
   (fun i hi s hs=>by
    refine⟨by rw[r62];exact hs,?_⟩
    have hp:=(k4 d.2[i] (List.getElem_mem hi)).1
    have hg:y4q (d.2[i]).1 s.length=true:=by simp[y4q,hs,hp.1,hp.2]
    rw[s1m];simp only[u96,u0b,hi,decide_true,cond_true,y7t hi,zTn,y8k (t:=p62) hi,hg]
    rw[y7l (by omega)]
    rfl) d.1 rfl
  simp only[Bool.not_true,cond_false,L,zOb,if_true]
def p1k (keep:List Int) (i:Nat):Bool:=decide (i<keep.length)&& !decide (Int.tmod (rdL (Ty.int .i64) keep i) 2=0)
def r5l (keep:List Int):Nat→Int
 | 0=> -1
 | n+1=>if p1k keep n then(n:Int) else r5l keep n
def t97 (tear:Int):Nat:=(if Int.tmod tear 65<0 then Int.tmod tear 65+65 else Int.tmod tear 65).toNat
def r48 (d:u0j) (keep:List Int) (last:Int) (n:Nat) (s:List ByteArray) (i:Nat):List ByteArray:=
 if p1k keep i then
  (if(i:Int)=last then t95 s ((rdL p62 d.2 i).1,(rdL p62 d.2 i).2.extract 0 n++(rdL Ty.str s (rdL p62 d.2 i).1.toNat).extract n (rdL Ty.str s (rdL p62 d.2 i).1.toNat).size)
   else t95 s (rdL p62 d.2 i))
 else s
def s0j (d:u0j) (keep:List Int) (tear:Int):u0j:=
 if u1r d then((List.range d.2.length).foldl (r48 d keep (r5l keep d.2.length) (t97 tear)) d.1, []) else d
theorem p8k (tear:Int):t97 tear≤64∧((t97 tear:Nat):Int)=(if Int.tmod tear 65<0 then Int.tmod tear 65+65 else Int.tmod tear 65):=by
 have h1:Int.tmod tear 65<65:=Int.tmod_lt_of_pos _ (by omega)
 have h2: -65<Int.tmod tear 65:=by
  have:=Int.lt_tmod_of_pos tear (show(0:Int)<65 by omega)
  exact this
 unfold t97
 split<;>omega
section
variable {d:u0j} (hk:u1r d=true) (keep:List Int)
include hk in
include hk in
include hk
end
end
section
theorem r92 (t:ByteArray):∀(m:Nat) (at_:Int) (acc:List ByteArray),0≤at_∧at_≤t.size→0≤(u6n t m at_ acc).2.1∧(u6n t m at_ acc).2.1≤t.size
 | 0,at_,acc,h=>h
 | m+1,at_,acc,h=>by
  unfold u6n
  split
  ·rename_i hc
   simp only[Bool.and_eq_true] at hc
   exact r92 t m _ _ (s9k hc.1)
  ·simp
theorem r3s (d:u0j) (a:Int):0≤(u0c d a).2.1∧(u0c d a).2.1≤(100*o51.wt d:Nat):=by
 unfold u0c
 split
 ·have h1:=r92 (t1g d (u0f a+1) 47).1 (u08 d a).toNat 0 [] (by simp)
  have h2:=r8c d (u0f a+1) 47
  omega
 ·simp only[Int.le_refl,true_and]
  omega
def u0u (t:ByteArray):ByteArray:=y7g (s0g t.size)++t
theorem s9p (t:ByteArray):t.size≤(u0u t).size∧(u0u t).size≤2*t.size+1:=by
 unfold u0u
 rw[ByteArray.size_append,u51]
 have:=p8o t.size
 omega
def t5k (d:u0j) (a:Int) (t:ByteArray):Option u0j:=
 if(u0c d a).2.2=false∨t.size=0∨3008<t.size∨255≤u08 d a∨3008<(u0c d a).2.1+((u0u t).size:Int) then none
 else u5w d (u0f a+1) (u0c d a).2.1 (u0u t)
theorem p1l (d:u0j) (a:Int) (t:ByteArray) (hd:o51.wt d≤10000000) (ht:t.size≤1048576):t93 (d,a,t)=some (orD d (t5k d a t)):=by
 have hr:=r3s d a
 have hs:=s9p t
 have ha:=s0w a
 rw[q02];unfold s8l t5k
 simp only[s4i d a (by omega),t1j d (by unfold u0l;omega),s0o d a (by unfold u0l;omega),q1j t.size (by omega),t6r,zOb,r8d]
 have e1:decide ((t.size:Int) >(3008:Int))=decide (3008<t.size):=by simp only[decide_eq_decide];omega
 have w1:IntKind.i64.wrap ((3008:Int) - (u0c d a).2.1)=3008 - (u0c d a).2.1:=y4y (by omega) (by omega)
 have w2:IntKind.i64.wrap (u0f a+1)=u0f a+1:=y4y (by omega) (by omega)
 rw[e1]
 cases h1:(u0c d a).2.2 with
 | false=>simp[orD]
 | true=>
  by_cases h2:t.size=0
  ·simp[h2,orD]
  ·by_cases h3:3008<t.size
   ·simp[h2,h3,orD]
   ·by_cases h4:255≤u08 d a
    ·have:decide (u08 d a≥255)=true:=by simpa using h4
     simp[h2,h3,h4,orD]
    ·have e4:decide (u08 d a≥255)=false:=by simp;omega
     have c:decide ((y7g (s0g t.size)).size+t.size≤140737488355328)=true:=by
      have h5:(u0u t).size=(y7g (s0g t.size)).size+t.size:=by unfold u0u;rw[ByteArray.size_append]
      simp;omega
     simp only[h2,h3,decide_false,Bool.not_true,cond_false,zOb,e4,c,cond_true,w1,w2]
     have hsz:y7g (s0g t.size)++t=u0u t:=rfl
     rw[hsz]
     by_cases h6:3008<(u0c d a).2.1+((u0u t).size:Int)
     ·have:decide (((u0u t).size:Int) >3008 - (u0c d a).2.1)=true:=by simp;omega
      simp[this,h6,orD]
     ·have:decide (((u0u t).size:Int) >3008 - (u0c d a).2.1)=false:=by simp;omega
      simp only[this,cond_false,t9b d (u0f a+1) (u0c d a).2.1 (u0u t) (by omega) (by omega),zOb]
      rw[if_neg (by simp[h2,h3,h6];omega)]
def t6a (n:Int):ByteArray:=y7g [IntKind.u8.wrap n]
theorem u3p (n:Int):(t6a n).size=1:=by unfold t6a;rw[u51];rfl
def s8u (d:u0j) (a n:Int):Option u0j:=u5w d (u0f a) 0 (t6a n)
theorem q1k (d:u0j) (a n:Int) (hd:o51.wt d≤1073741824):t52 (d,a,n)=some (orD d (s8u d a n)):=by
 rw[q03];unfold s8m
 have h1:t53 n=some (t6a n):=by rw[r5f];rfl
 simp only[t6r,h1,zOb,t9b d (u0f a) 0 (t6a n) hd (by rw[u3p];omega)]
 rfl
theorem p6v:∀ {f:Nat} {d x:u0j} {k at_:Nat} {t:ByteArray},q7r f d k at_ t=some x→(u1r d=true→u1r x=true)∧x.1=d.1∧(t.size≠0→0<f→u1r x=true)
 | 0,d,x,k,at_,t,h=>by cases h;exact⟨id,rfl,fun _ h=>by omega⟩
 | f+1,d,x,k,at_,t,h=>by
  rw[q7r] at h
  split at h
  ·rename_i hz
   cases h;exact⟨id,rfl,fun hne=>absurd hz hne⟩
  ·split at h
   ·cases hw:u7a d (k:Int) ((u0h d (k:Int)).1.extract 0 at_++t.extract 0 (min t.size (64 - at_))++(u0h d (k:Int)).1.extract (at_+min t.size (64 - at_)) 64) with
    | none=>rw[hw] at h;cases h
    | some y=>
     rw[hw] at h
     simp only[zOb] at h
     obtain⟨k1,k2⟩:=t6p hw
     obtain⟨i1,i2,_⟩:=p6v h
     exact⟨fun _=>i1 k1,by rw[i2,k2],fun _ _=>i1 k1⟩
   ·cases h
theorem u6p {d x:u0j} {s at_:Int} {t:ByteArray} (h:u5w d s at_ t=some x):u1r d=true∧u1r x=true∧x.1=d.1:=by
 unfold u5w at h
 split at h
 ·rename_i hc
  simp only[Bool.and_eq_true] at hc
  obtain⟨i1,i2,_⟩:=p6v h
  exact⟨hc.2,i1 hc.2,i2⟩
 ·cases h
theorem s4n {d x:u0j} {a:Int} {t:ByteArray} (h:t5k d a t=some x):u1r d=true∧u1r x=true∧x.1=d.1∧(u0c d a).2.2=true:=by
 unfold t5k at h
 split at h
 ·cases h
 ·rename_i hc
  have:=u6p h
  simp only[not_or] at hc
  exact⟨this.1,this.2.1,this.2.2,by simpa using hc.1⟩
theorem r3l {d:u0j} (hk:u1r d=true) (h2:d.2= []) {s:Int} (h0:0≤s) (h1:s<(d.1.length:Int)) {b:ByteArray} (hb:b.size=1):
 u5w d s 0 b=some (d.1, [(s,b++(rdL Ty.str d.1 s.toNat).extract 1 64)]):=by
 obtain⟨k1,k2,k3,k4⟩:=q4o.mp hk
 have hlt:s.toNat<d.1.length:=by omega
 have hold:(rdL Ty.str d.1 s.toNat).size=64:=by
  have e:rdL Ty.str d.1 s.toNat=d.1[s.toNat] :=y8k (t:=Ty.str) hlt
  rw[e]
  exact k3 _ (List.getElem_mem hlt)
 have hs:((s.toNat:Nat):Int)=s:=by omega
 have hrd:u0h d s=(rdL Ty.str d.1 s.toNat,true):=by
  unfold u0h
  rw[if_pos ⟨h0,h1⟩,h2]
  rfl
 have c:(r2i 0 0 6400&&r2i s 0 ((d.1.length:Int) - 1)&&u1r d)=true:=by
  rw[hk]
  simp[r2i]
  omega
 have e1:(rdL Ty.str d.1 s.toNat).extract 0 0=ByteArray.empty:=by
  apply ByteArray.ext
  simp
 have e2:b.extract 0 1=b:=by rw[←hb];exact ByteArray.extract_zero_size
 have hw:u7a d s (b++(rdL Ty.str d.1 s.toNat).extract 1 64)=some (d.1, [(s,b++(rdL Ty.str d.1 s.toNat).extract 1 64)]):=by
  unfold u7a
  rw[r3f,hk,h2]
  have:r2i s 0 ((d.1.length:Int) - 1)=true:=by simp[r2i];omega
  rw[this]
  have hz:(b++(rdL Ty.str d.1 s.toNat).extract 1 64).size=64:=by
   rw[ByteArray.size_append,ByteArray.size_extract,hb,hold];omega
  simp[hz]
 unfold u5w
 rw[if_pos c]
 have z:(0:Int).toNat=0:=rfl
 simp only[z,Nat.zero_div,Nat.zero_mod,Nat.add_zero,hb]
 rw[q7r,if_neg (by omega)]
 rw[hs,hrd]
 simp only[hold,and_self,if_true,hb]
 have m1:min 1 (64 - 0)=1:=by decide
 rw[m1,e1,e2]
 have e3:ByteArray.empty++b++(rdL Ty.str d.1 s.toNat).extract (0+1) 64=b++(rdL Ty.str d.1 s.toNat).extract 1 64:=by
  rw[ByteArray.empty_append]
 rw[e3,hw]
 simp only[zOb]
 exact q7j _ _ _ _ (by rw[ByteArray.size_extract,hb];decide)
end
section
def s5p (d:u0j) (a:Int):Int:=IntKind.i64.wrap (u08 d a+1)
def q4w (d:u0j) (a:Int) (t:ByteArray):Option u0j:=(t5k d a t).map fun x=>flush (orD (flush x) (s8u (flush x) a (s5p d a))).1
theorem p3o {d x:u0j} {a:Int} {t:ByteArray} (h:t5k d a t=some x):p31 a=true:=by
 have:=(s4n h).2.2.2
 unfold u0c at this
 split at this
 ·rename_i hc
  simp only[Bool.and_eq_true] at hc
  exact hc.1
 ·cases this
theorem q53 {d x:u0j} {a n:Int} {t:ByteArray} (hlen:d.1.length=97) (h:t5k d a t=some x):∃y,s8u (flush x) a n=some y∧u1r y=true∧y.1.length=97:=by
 obtain⟨h1,h2,h3,_⟩:=s4n h
 obtain⟨f1,f2,f3⟩:=t7b h2
 have hl:(flush x).1.length=97:=by rw[f3,h3];exact hlen
 have ha:=s0w a
 have ho:=r3l (s:=u0f a) f1 f2 (by omega) (by rw[hl];omega) (u3p n)
 have:=u6p ho
 exact⟨_,ho,this.2.1,by rw[this.2.2];exact hl⟩
theorem u5x {d:u0j} (h:u4d d=true):u1r d=true∧d.1.length=97∧d.2= [] ∧(u0c d 0).2.2=true∧(u0c d 1).2.2=true:=by
 unfold u4d at h
 simp only[Bool.and_eq_true,decide_eq_true_eq] at h
 obtain⟨⟨⟨⟨a,b⟩,c⟩,e⟩,f⟩:=h
 exact⟨a,b,List.length_eq_zero_iff.mp c,e,f⟩
theorem q9g (d:u0j) (a:Int) (t:ByteArray) (hd:o51.wt d≤10000000) (ht:t.size≤1048576) (hlen:d.1.length=97):t86 (d,a,t)=some (orD d (q4w d a t)):=by
 rw[q6x];unfold r4x q4w
 simp only[p1l d a t hd ht,zOb]
 cases hb:t5k d a t with
 | none=>rfl
 | some x=>
  have hx:=t5l (s4n hb).2.1
  have hf:=t5l (t7b (s4n hb).2.1).1
  obtain⟨y,hy,hy2,_⟩:=q53 (n:=s5p d a) hlen hb
  have hyw:=t5l hy2
  simp only[orD,Bool.not_true,cond_false,t6s x (by omega),s0o d a (by unfold u0l;omega),zOb,q1k (flush x) a _ (by omega)]
  have hc:IntKind.i64.wrap (u08 d a+1)=s5p d a:=rfl
  rw[hc,hy]
  simp only[orD,t6s y (by omega),zOb,Option.map_some,hy]
theorem q2g (d:u0j) (a:Int) (t:ByteArray) (hd:o51.wt d≤10000000) (ht:t.size≤1048576):t8f (d,a,t)=some (orD d (if u4d d then q4w d a t else none)):=by
 rw[r81];unfold s5h
 simp only[q4d d (by omega),s95,t1j d (by unfold u0l;omega),zOb]
 cases hl:u4d d with
 | false=>simp[orD]
 | true=>
  cases ha:p31 a with
  | false=>
   have hn:q4w d a t=none:=by
    unfold q4w
    cases hb:t5k d a t with
    | none=>rfl
    | some x=>rw[p3o hb] at ha;cases ha
   simp[hn,orD]
  | true=>
   simp only[Bool.not_true,cond_false,zOb,q9g d a t hd ht (u5x hl).2.1,if_true]
   cases q4w d a t<;>simp[orD]
def append_ (d:u0j) (t:ByteArray):Option u0j:=if u4d d then q4w d (u0w d) t else none
theorem r0m (d:u0j) (t:ByteArray) (hd:o51.wt d≤10000000) (ht:t.size≤1048576):t4f (d,t)=some (orD d (append_ d t)):=by
 rw[r8w];unfold s5c append_
 simp only[s4e d (by unfold u0l;omega),zOb,q2g d _ t hd ht]
theorem p6e {d y:u0j} {a:Int} {t:ByteArray} (hlen:d.1.length=97) (h:q4w d a t=some y):∃x,t5k d a t=some x∧u1r x=true∧u1r y=true∧y.2= [] ∧y.1.length=97∧y=flush (orD (flush x) (s8u (flush x) a (s5p d a))).1:=by
 unfold q4w at h
 cases hb:t5k d a t with
 | none=>rw[hb] at h;cases h
 | some x=>
  rw[hb] at h
  simp only[Option.map_some,Option.some.injEq] at h
  obtain⟨z,hz,hz2,hz3⟩:=q53 (n:=s5p d a) hlen hb
  rw[hz] at h
  simp only[orD] at h
  obtain⟨f1,f2,f3⟩:=t7b hz2
  rw[←h]
  exact⟨x,rfl,(s4n hb).2.1,f1,f2,by rw[f3];exact hz3,by rw[hz];rfl⟩
section
variable {d:u0j} {t:ByteArray} (hd:o51.wt d≤10000000) (ht:t.size≤1048576)
include hd ht
end
end
section
theorem r28 {d x:u0j} {k:Int} {s:ByteArray} (h:u7a d k s=some x) {j:Int} (hj:j≠k):u0h x j=u0h d j:=by
 have:=(t6p h).2
 subst this
 have hne: ¬k=j:=fun z=>hj z.symm
 unfold u0h
 simp only[s9d,hne,if_false]
theorem r0e:∀ {f:Nat} {d x:u0j} {k at_:Nat} {t:ByteArray},q7r f d k at_ t=some x→at_<64→ ∀j:Nat,¬(k≤j∧j*64<k*64+at_+t.size)→u0h x (j:Int)=u0h d (j:Int)
 | 0,d,x,k,at_,t,h,_,j,_=>by cases h;rfl
 | f+1,d,x,k,at_,t,h,hat,j,hj=>by
  rw[q7r] at h
  split at h
  ·cases h;rfl
  ·rename_i hz
   split at h
   ·cases hw:u7a d (k:Int) ((u0h d (k:Int)).1.extract 0 at_++t.extract 0 (min t.size (64 - at_))++(u0h d (k:Int)).1.extract (at_+min t.size (64 - at_)) 64) with
    | none=>rw[hw] at h;cases h
    | some y=>
     rw[hw] at h
     simp only[zOb] at h
     have hne:j≠k:=fun z=>hj ⟨by omega,by omega⟩
     rw[←r28 hw (j:=(j:Int)) (by omega)]
     refine r0e h (by omega) j (fun z=>hj ?_)
     rw[ByteArray.size_extract] at z
     omega
   ·cases h
theorem p6l {s:List ByteArray} {p:Int×ByteArray} {j:Int} (hp:0≤p.1) (hj0:0≤j) (hj:j.toNat<s.length):rdL Ty.str (t95 s p) j.toNat=if p.1=j then p.2 else rdL Ty.str s j.toNat:=by
 have h' :j.toNat<(s.set p.1.toNat p.2).length:=by rw[List.length_set];exact hj
 have e1:rdL Ty.str (s.set p.1.toNat p.2) j.toNat=(s.set p.1.toNat p.2)[j.toNat] :=y8k (t:=Ty.str) h'
 have e2:rdL Ty.str s j.toNat=s[j.toNat] :=y8k (t:=Ty.str) hj
 show rdL Ty.str (s.set p.1.toNat p.2) j.toNat=_
 rw[e1,e2,List.getElem_set]
 by_cases e:p.1=j
 ·rw[if_pos (by rw[e]),if_pos e]
 ·rw[if_neg (by omega),if_neg e]
theorem q4s {j:Int} (hj0:0≤j) (z:ByteArray):∀(c:List (Int×ByteArray)) (s:List ByteArray) (t:Option ByteArray),(∀p∈c,0≤p.1)→j.toNat<s.length→rdL Ty.str s j.toNat=t.getD z→
 rdL Ty.str (c.foldl t95 s) j.toNat=(c.foldl (fun t p=>if p.1=j then some p.2 else t) t).getD z
 | [],s,t,_,_,h=>h
 | p::c,s,t,hc,hl,h=>by
  rw[List.foldl_cons,List.foldl_cons]
  refine q4s hj0 z c _ _ (fun q hq=>hc q (List.mem_cons_of_mem _ hq)) (by rw[r62];exact hl) ?_
  rw[p6l (hc p (List.mem_cons_self ..)) hj0 hl]
  split
  ·rfl
  ·exact h
theorem t04 {d:u0j} (hk:u1r d=true) (j:Int):u0h (flush d) j=u0h d j:=by
 obtain⟨_,f2,f3⟩:=t7b hk
 obtain⟨k1,k2,k3,k4⟩:=q4o.mp hk
 unfold u0h
 rw[f3]
 split
 ·rename_i hj
  have e1:t07 (flush d).2 j=none:=by rw[f2];rfl
  rw[e1]
  have e2:(flush d).1=d.2.foldl t95 d.1:=by unfold flush;rw[if_pos hk]
  rw[e2]
  have:=q4s hj.1 (rdL Ty.str d.1 j.toNat) d.2 d.1 none (fun p hp=>(k4 p hp).1.1) (by omega) rfl
  show(rdL Ty.str (d.2.foldl t95 d.1) j.toNat,true)=_
  rw[this]
  rfl
 ·rfl
theorem q1z {d d' :u0j} {from_:Int} :∀(m i:Nat) (acc:ByteArray),(∀q:Nat,i≤q→q<i+m→u0h d' (from_+(q:Int))=u0h d (from_+(q:Int)))→r61 d' from_ m i acc=r61 d from_ m i acc
 | 0,i,acc,h=>rfl
 | m+1,i,acc,h=>by
  unfold r61
  rw[h i (by omega) (by omega)]
  split
  ·exact q1z m (i+1) _ (fun q h1 h2=>h q (by omega) (by omega))
  ·rfl
theorem u9t {d d' :u0j} {o:Int} (h:∀q:Nat,q<48→u0h d' (u0f o+(q:Int))=u0h d (u0f o+(q:Int))):u0c d' o=u0c d o:=by
 have h1:t1g d' (u0f o+1) 47=t1g d (u0f o+1) 47:=by
  unfold t1g
  rw[if_pos (by omega),if_pos (by omega)]
  refine q1z _ _ _ (fun q _ hq=> ?_)
  have:=h (q+1) (by simp at hq;omega)
  rw[show u0f o+1+(q:Int)=u0f o+((q+1:Nat):Int) by omega]
  exact this
 have h2:u08 d' o=u08 d o:=by
  unfold u08 u43
  have:=h 0 (by omega)
  rw[show u0f o+((0:Nat):Int)=u0f o by omega] at this
  rw[this]
 unfold u0c
 rw[h1,h2]
def OnlyArea (a:Int) (d d' :u0j):Prop:= ∀j:Nat,¬(u0f a≤(j:Int)∧(j:Int)<u0f a+48)→u0h d' (j:Int)=u0h d (j:Int)
theorem OnlyArea.other {a o:Int} {d d' :u0j} (h:OnlyArea a d d') (ha:a=0∨a=1) (ho:o=1 - a):u0c d' o=u0c d o:=by
 refine u9t (fun q hq=> ?_)
 have hf:u0f o=1+o*48:=by unfold u0f;rw[if_pos (p7n.mpr (by omega))]
 have hfa:u0f a=1+a*48:=by unfold u0f;rw[if_pos (p7n.mpr ha)]
 obtain⟨j,hj⟩:∃j:Nat,u0f o+(q:Int)=(j:Int):=⟨(u0f o+(q:Int)).toNat,by rcases ha with rfl | rfl<;>omega⟩
 rw[hj]
 exact h j (by rcases ha with rfl | rfl<;>omega)
theorem OnlyArea.trans {a:Int} {d d' e:u0j} (h1:OnlyArea a d d') (h2:OnlyArea a d' e):OnlyArea a d e:=fun j hj=>(h2 j hj).trans (h1 j hj)
theorem OnlyArea.flush {a:Int} {d d' :u0j} (h:OnlyArea a d d') (hk:u1r d' =true):OnlyArea a d (flush d'):=fun j hj=>(t04 hk _).trans (h j hj)
theorem s7h {d x:u0j} {s at_:Int} {t:ByteArray} (h:u5w d s at_ t=some x) {j:Nat} (hj: ¬(s≤(j:Int)∧(j:Int)*64<s*64+at_+(t.size:Int))):u0h x (j:Int)=u0h d (j:Int):=by
 unfold u5w at h
 split at h
 ·rename_i hc
  simp only[Bool.and_eq_true,r2i,decide_eq_true_eq] at hc
  refine r0e h (Nat.mod_lt _ (by omega)) j (fun z=>hj ?_)
  omega
 ·cases h
theorem p3p {d x:u0j} {a:Int} {t:ByteArray} (h:t5k d a t=some x):OnlyArea a d x:=by
 have h0:=h
 unfold t5k at h
 split at h
 ·cases h
 ·rename_i hc
  simp only[not_or] at hc
  intro j hj
  refine s7h h (fun z=>hj ?_)
  omega
theorem q4m {d x:u0j} {a n:Int} (h:s8u d a n=some x):OnlyArea a d x:=by
 intro j hj
 refine s7h h (fun z=>hj ?_)
 rw[u3p] at z
 omega
theorem p74 {d y:u0j} {a:Int} {t:ByteArray} (hlen:d.1.length=97) (h:q4w d a t=some y):OnlyArea a d y:=by
 unfold q4w at h
 cases hb:t5k d a t with
 | none=>rw[hb] at h;cases h
 | some x=>
  rw[hb] at h
  simp only[Option.map_some,Option.some.injEq] at h
  obtain⟨z,hz,hz2,hz3⟩:=q53 (n:=s5p d a) hlen hb
  rw[hz] at h
  subst h
  exact(((p3p hb).flush (s4n hb).2.1).trans (q4m hz)).flush hz2
structure Mid (o:Int) (x:u0j):Prop where
 ok:u1r x=true
 len:x.1.length=97
 nil:x.2= []
 other:(u0c x o).2.2=true
theorem Mid.put {a o:Int} {x y:u0j} {t:ByteArray} (h:Mid o x) (ha:a=0∨a=1) (ho:o=1 - a) (hp:q4w x a t=some y):Mid o y:=by
 obtain⟨_,_,_,p1,p2,p3,_⟩:=p6e h.len hp
 exact⟨p1,p3,p2,by rw[(p74 h.len hp).other ha ho];exact h.other⟩
def r2g (a:Int):List ByteArray→u0j→Option u0j
 | [],x=>some x
 | t::l,x=>(q4w x a t).bind (r2g a l)
theorem q4q {a o:Int} (ha:a=0∨a=1) (ho:o=1 - a):∀ {l:List ByteArray} {x y:u0j},Mid o x→r2g a l x=some y→Mid o y
 | [],x,y,h,hy=>by cases hy;exact h
 | t::l,x,y,h,hy=>by
  unfold r2g at hy
  cases hp:q4w x a t with
  | none=>rw[hp] at hy;cases hy
  | some z=>
   rw[hp] at hy
   exact q4q ha ho (h.put ha ho hp) hy
theorem q88 {a o:Int} (ha:a=0∨a=1) (ho:o=1 - a) (jk:u0j) (list:List ByteArray) (hl:list.length≤1048576) (hs:∀t∈list,t.size≤1048576):∀(r i:Nat) (x:u0j),i+r=list.length→Mid o x→
 ∃q,u9f (list,jk,a,x,true,(i:Int))=some (.inl (jk,q))∧(match r2g a (list.drop i) x with
  | some y=>q=(y,true)
  | none=>q.2=false)
 | 0,i,x,hi,hm=>by
  have:i=list.length:=by omega
  subst this
  rw[t8k]
  simp only[u8y,u0b,Nat.lt_irrefl,decide_false,cond_false,List.drop_length,r2g,zOb]
  exact⟨_,rfl,rfl⟩
 | r+1,i,x,hi,hm=>by
  have h:i<list.length:=by omega
  have hw:=t5l hm.ok
  have hts:=hs list[i] (List.getElem_mem h)
  have hr:rdL Ty.str list i=list[i] :=y8k (t:=Ty.str) h
  rw[t8k,List.drop_eq_getElem_cons h]
  simp only[u8y,u0b,h,decide_true,cond_true,y7t h,zTn,hr,q9g x a list[i] (by omega) hts hm.len,zOb,r2g]
  rw[y7l (by omega)]
  cases hp:q4w x a list[i] with
  | none=>
   simp only[orD,Option.bind_none]
   rw[t8k]
   simp only[u8y,u0b]
   cases decide (i+1<list.length)<;>exact⟨_,rfl,rfl⟩
  | some y=>
   simp only[orD,zOb]
   exact q88 ha ho jk list hl hs r (i+1) y (by omega) (hm.put ha ho hp)
end
section
def u5i (d:u0j):Int:=1 - u0w d
theorem t6i (d:u0j):(u5i d=0∨u5i d=1)∧u0w d=1 - u5i d:=by
 unfold u5i
 have:=t4l d
 omega
def s20 (d:u0j):u0j:=flush (orD d (s8u d (u5i d) 0)).1
def r0j (d:u0j) (l:List ByteArray):Option u0j:=if u4d d then r2g (u5i d) l (s20 d) else none
def p4m (x:u0j):Option u0j:=u5w x 0 0 (t6a (IntKind.i64.wrap (u43 x 0+1)))
def s9r (d:u0j) (l:List ByteArray):Option u0j:=(r0j d l).map fun x=>flush (orD x (p4m x)).1
theorem q8g {d:u0j} (hl:u4d d=true) (a n:Int):∃z,s8u d a n=some z∧u1r z=true∧z.1.length=97:=by
 obtain⟨h1,h2,h3,_⟩:=u5x hl
 have ha:=s0w a
 have ho:=r3l (s:=u0f a) h1 h3 (by omega) (by omega) (u3p n)
 have:=u6p ho
 exact⟨_,ho,this.2.1,by rw[this.2.2];exact h2⟩
theorem q86 {d:u0j} (hl:u4d d=true):Mid (u0w d) (s20 d):=by
 obtain⟨z,hz,hz2,hz3⟩:=q8g hl (u5i d) 0
 obtain⟨a1,a2⟩:=t6i d
 obtain⟨h1,h2,h3,h4,h5⟩:=u5x hl
 obtain⟨f1,f2,f3⟩:=t7b hz2
 have e:s20 d=flush z:=by unfold s20;rw[hz];rfl
 have hr:(u0c d (u0w d)).2.2=true:=by
  rcases t4l d with h | h<;>rw[h] <;>assumption
 rw[e]
 exact⟨f1,by rw[f3];exact hz3,f2,by rw[((q4m hz).flush hz2).other a1 a2];exact hr⟩
theorem p98 {x:u0j} {o:Int} (h:Mid o x):∃y,p4m x=some y∧u1r y=true:=by
 have ho:=r3l (s:=0) h.ok h.nil (by omega) (by rw[h.len];omega) (u3p (IntKind.i64.wrap (u43 x 0+1)))
 exact⟨_,ho,(u6p ho).2.1⟩
section
variable {d:u0j} {l:List ByteArray} (hd:o51.wt d≤10000000) (hl:l.length≤1048576) (hs:∀t∈l,t.size≤1048576)
include hd hl hs
omit hd hl hs in
theorem o0c:IntKind.i64.wrap ((1:Int) - u0w d)=u5i d:=by
 unfold u5i
 have:=t4l d
 rw[y4y (by omega) (by omega)]
omit hd hl hs in
theorem p5t {x:u0j} (h:r0j d l=some x):u4d d=true∧Mid (u0w d) x:=by
 unfold r0j at h
 split at h
 ·rename_i hlo
  obtain⟨a1,a2⟩:=t6i d
  exact⟨hlo,q4q a1 a2 (q86 hlo) h⟩
 ·cases h
theorem q9f (hlo:u4d d=true):∃q,s19 (d,l)=some q∧(match r0j d l with
 | some y=>q=(y,true)
 | none=>q.2=false):=by
 obtain⟨z,hz,hz2,hz3⟩:=q8g hlo (u5i d) 0
 have hzw:=t5l hz2
 obtain⟨a1,a2⟩:=t6i d
 have e:flush z=s20 d:=by unfold s20;rw[hz];rfl
 obtain⟨q,L,hq⟩:=q88 a1 a2 ([], []) l hl hs l.length 0 (s20 d) (by omega) (q86 hlo)
 have L:u9f (l,([], []),u5i d,s20 d,true,0)=_:=L
 rw[List.drop_zero] at hq
 refine⟨q,?_,by unfold r0j;rw[hlo,if_pos rfl];exact hq⟩
 rw[q3k];unfold r1r
 simp only[s4e d (by unfold u0l;omega),o0c (d:=d),q1k d _ _ (by omega),zOb,hz,orD,t6s z (by omega),e,L]
omit hd hl hs in
theorem p33 (x:u0j) (hx:o51.wt x≤10000000):s2a x=some (orD x (p4m x)):=by
 rw[q3l];unfold r1s
 have h1:∀n,t53 n=some (t6a n):=fun n=>by rw[r5f];rfl
 simp only[s8z x 0 (by unfold u0l;omega),h1,zOb,t9b x 0 0 (t6a (IntKind.i64.wrap (u43 x 0+1))) (by omega) (by rw[u3p];omega)]
 rfl
theorem q2h:t8g (d,l)=some (orD d (s9r d l)):=by
 rw[r84];unfold s5k s9r
 simp only[q4d d (by omega),t1j d (by unfold u0l;omega),zOb]
 cases hlo:u4d d with
 | false=>
  have:r0j d l=none:=by unfold r0j;rw[hlo];rfl
  rw[this]
  rfl
 | true=>
  obtain⟨q,hq,hq2⟩:=q9f hd hl hs hlo
  simp only[Bool.not_true,cond_false,hq,zOb]
  cases hf:r0j d l with
  | none=>
   rw[hf] at hq2
   simp only at hq2
   simp only[hq2,Bool.not_false,cond_true]
   rfl
  | some x=>
   rw[hf] at hq2
   simp only at hq2
   subst hq2
   obtain⟨_,hm⟩:=p5t hf
   have hx:=t5l hm.ok
   obtain⟨y,hy,hy2⟩:=p98 hm
   have hyw:=t5l hy2
   simp only[orD,Bool.not_true,cond_false,p33 x (by omega),hy,zOb,t6s y (by omega),Option.map_some]
def t01 (d:u0j) (l:List ByteArray) (step:Int) (keep:List Int) (tear:Int):u0j:=
 match r0j d l with
 | none=>d
 | some x=>
  if step=0 then s0j (orD d (s8u d (u5i d) 0)).1 keep tear
  else if step=1 then x
  else if step=2 then s0j (orD x (p4m x)).1 keep tear
  else flush (orD x (p4m x)).1
end
end
section
def s4q (s:ByteArray) (i:Nat):UInt8:=s.data.toList.getD i 0
theorem u8k (a b:ByteArray) (i:Nat):s4q (a++b) i=if i<a.size then s4q a i else s4q b (i - a.size):=by
 unfold s4q
 have hs:a.size=a.data.toList.length:=by simp only[Array.length_toList];rfl
 rw[ByteArray.data_append,Array.toList_append,List.getD_eq_getElem?_getD,hs]
 split
 ·rename_i h
  rw[List.getElem?_append_left h,List.getD_eq_getElem?_getD]
 ·rename_i h
  rw[List.getElem?_append_right (Nat.le_of_not_lt h),List.getD_eq_getElem?_getD]
theorem u44 (a:ByteArray) (b e i:Nat):s4q (a.extract b e) i=if i<min e a.size - b then s4q a (b+i) else 0:=by
 unfold s4q
 have hd:(a.extract b e).data.toList=(a.data.toList.drop b).take (min e a.size - b):=by
  have hs:a.size=a.data.toList.length:=by simp only[Array.length_toList];rfl
  rw[ByteArray.data_extract]
  rw[Array.toList_extract,List.extract_eq_take_drop]
  apply List.ext_getElem?
  intro n
  rw[List.getElem?_take,List.getElem?_take,List.getElem?_drop]
  split<;>split<;>first | rfl | skip
  ·rename_i h1 h2
   rw[List.getElem?_eq_none (by omega)]
  ·rename_i h1 h2
   rw[List.getElem?_eq_none (by omega)]
 rw[hd,List.getD_eq_getElem?_getD,List.getElem?_take]
 split
 ·rw[List.getElem?_drop,List.getD_eq_getElem?_getD]
 ·rfl
theorem r9g {a b:ByteArray} (hs:a.size=b.size) (h:∀i,i<a.size→s4q a i=s4q b i):a=b:=by
 have ha:a.size=a.data.toList.length:=by simp only[Array.length_toList];rfl
 have hb:b.size=b.data.toList.length:=by simp only[Array.length_toList];rfl
 have:a.data.toList=b.data.toList:=by
  apply List.ext_getElem (by omega)
  intro i h1 h2
  have:=h i (by omega)
  unfold s4q at this
  rw[List.getD_eq_getElem?_getD,List.getD_eq_getElem?_getD,List.getElem?_eq_getElem h1,List.getElem?_eq_getElem h2] at this
  exact this
 apply ByteArray.ext
 apply Array.ext'
 exact this
theorem q7k {d x:u0j} {k:Int} {s:ByteArray} (h:u7a d k s=some x):u0h x k=(s,true):=by
 obtain⟨h1,h2⟩:=t6p h
 obtain⟨_,_,_,h4⟩:=q4o.mp h1
 subst h2
 have:=(h4 (k,s) (by simp)).1
 have hk:0≤k∧k<(d.1.length:Int):=this
 unfold u0h
 simp only[s9d]
 rw[if_pos hk]
 simp
theorem q5a:∀ {f:Nat} {d x:u0j} {k at_:Nat} {t:ByteArray},q7r f d k at_ t=some x→t.size<f→at_<64→ ∀(j i:Nat),i<64→j<d.1.length→
 s4q (u0h x (j:Int)).1 i=if k*64+at_≤j*64+i∧j*64+i<k*64+at_+t.size then s4q t (j*64+i - (k*64+at_)) else s4q (u0h d (j:Int)).1 i
 | 0,d,x,k,at_,t,h,hf,_,j,i,_,_=>by omega
 | f+1,d,x,k,at_,t,h,hf,hat,j,i,hi,hj=>by
  rw[q7r] at h
  split at h
  ·rename_i hz
   cases h
   rw[if_neg (by omega)]
  ·rename_i hz
   split at h
   ·rename_i hrd
    cases hw:u7a d (k:Int) ((u0h d (k:Int)).1.extract 0 at_++t.extract 0 (min t.size (64 - at_))++(u0h d (k:Int)).1.extract (at_+min t.size (64 - at_)) 64) with
    | none=>rw[hw] at h;cases h
    | some y=>
     rw[hw] at h
     simp only[zOb] at h
     obtain⟨n,hn⟩:∃n,n=min t.size (64 - at_):=⟨_,rfl⟩
     rw[←hn] at h hw
     have hyl:y.1.length=d.1.length:=by rw[(t6p hw).2]
     have hsz:(t.extract n t.size).size=t.size - n:=by rw[ByteArray.size_extract];omega
     have ih:=q5a h (by omega) (by omega) j i hi (by omega)
     rw[ih,hsz]
     by_cases hjk:j=k
     ·subst hjk
      rw[if_neg (by omega),q7k hw]
      simp only
      rw[u8k,u8k,u44,u44,u44]
      simp only[ByteArray.size_append,ByteArray.size_extract,hrd.2]
      by_cases h1:i<at_
      ·have e1:i<min at_ 64 - 0:=by omega
       rw[if_pos (by omega),if_pos e1,if_pos e1,if_neg (by omega),Nat.zero_add]
      ·by_cases h2:i<at_+n
       ·rw[if_pos (by omega),if_neg (by omega),if_pos (by omega),if_pos (by omega)]
        congr 1
        omega
       ·rw[if_neg (by omega),if_pos (by omega),if_neg (by omega)]
        congr 1
        omega
     ·have hfr:u0h y (j:Int)=u0h d (j:Int):=r28 hw (by omega)
      rw[hfr]
      by_cases h1:(k+1)*64+0≤j*64+i∧j*64+i<(k+1)*64+0+(t.size - n)
      ·rw[if_pos h1,if_pos (by omega),u44,if_pos (by omega)]
       congr 1
       omega
      ·rw[if_neg h1,if_neg (by omega)]
   ·cases h
end
section
theorem q96 (a:ByteArray):a.size=a.data.toList.length:=by simp only[Array.length_toList];rfl
theorem r5j {a:ByteArray} {i:Nat} (h:i<a.size):a.data.toList[i]? =some (s4q a i):=by
 unfold s4q
 rw[q96] at h
 rw[List.getD_eq_getElem?_getD,List.getElem?_eq_getElem h]
 rfl
theorem q18:∀ {f i n:Nat} {l l' :List UInt8} {v k:Nat},r0l f i n l=some (v,k)→(∀q,q<k - i→l'[q]? =l[q]?)→r0l f i n l' =some (v,k)
 | 0,_,_,_,_,_,_,h,_=>by cases h
 | _+1,_,_, [],_,_,_,h,_=>by cases h
 | f+1,i,n,b::l,l',v,k,h,hl=>by
  have hk:=(q7h _ _ _ _ _ _ h).2.2
  have h0:=hl 0 (by omega)
  cases l' with
  | nil=>simp at h0
  | cons b' l' =>
   simp only[List.getElem?_cons_zero,Option.some.injEq] at h0
   subst h0
   simp only[r0l] at h ⊢
   split at h
   ·rename_i h1
    rw[if_pos h1]
    exact h
   ·rename_i h1
    rw[if_neg h1]
    exact q18 h (fun q hq=>by have:=hl (q+1) (by omega);simpa using this)
theorem q7b {T T' :ByteArray} {at_:Int} (h:(u0s T at_).2.2=true) (hs:T'.size=T.size) (hb:∀q:Nat,(q:Int)<(u0s T at_).2.1→s4q T' q=s4q T q):u0s T' at_=u0s T at_:=by
 have hok:=t4z h
 unfold u0s at h hb hok ⊢
 split at h
 ·rename_i hc
  rw[if_pos hc] at hb hok
  rw[if_pos (by rw[hs];exact hc),if_pos hc]
  cases hv:r0l 5 0 0 (T.data.toList.drop at_.toNat) with
  | none=>rw[hv] at h;cases h
  | some r=>
   obtain⟨v,k⟩:=r
   rw[hv] at hb hok
   simp only[q17] at hb hok
   rw[q18 hv (fun q hq=>by
    have hlt:at_.toNat+q<T.size:=by omega
    rw[List.getElem?_drop,List.getElem?_drop,r5j (by omega),r5j hlt,hb (at_.toNat+q) (by omega)])]
 ·cases h
theorem r2v {T:ByteArray} {at_:Int} (h:(u0p T at_).2.2=true):0≤at_∧at_<(u0p T at_).2.1∧(u0p T at_).2.1≤T.size:=by
 have h2:=s9k h
 unfold u0p at h h2 ⊢
 split at h
 ·rename_i hc
  rw[if_pos hc] at h2
  rw[if_pos hc]
  have:=t4z hc.1
  simp only at h2 ⊢
  omega
 ·cases h
theorem q1v {T T' :ByteArray} {at_:Int} (h:(u0p T at_).2.2=true) (hs:T'.size=T.size) (hb:∀q:Nat,(q:Int)<(u0p T at_).2.1→s4q T' q=s4q T q):u0p T' at_=u0p T at_:=by
 have hn:=r2v h
 unfold u0p at h hb hn ⊢
 split at h
 ·rename_i hc
  rw[if_pos hc] at hb hn
  simp only at hb hn
  have hok:=t4z hc.1
  have e:u0s T' at_=u0s T at_:=q7b hc.1 hs (fun q hq=>hb q (by omega))
  rw[e,if_pos (by rw[hs];exact hc),if_pos hc]
  congr 1
  apply r9g
  ·rw[ByteArray.size_extract,ByteArray.size_extract,hs]
  ·intro i hi
   rw[ByteArray.size_extract] at hi
   rw[u44,u44,hs]
   split
   ·exact hb _ (by omega)
   ·rfl
 ·cases h
theorem q4i {T:ByteArray} :∀ {m:Nat} {at_:Int} {acc l:List ByteArray} {E:Int},u6n T m at_ acc=(l,E,true)→at_≤E
 | 0,at_,acc,l,E,h=>by unfold u6n at h;cases h;exact Int.le_refl _
 | m+1,at_,acc,l,E,h=>by
  unfold u6n at h
  split at h
  ·rename_i hc
   simp only[Bool.and_eq_true] at hc
   have h1:=(r2v hc.1).2.1
   have h2:=q4i h
   omega
  ·cases h
theorem s8s {T T' :ByteArray} (hs:T'.size=T.size):∀ {m:Nat} {at_:Int} {acc l:List ByteArray} {E:Int},u6n T m at_ acc=(l,E,true)→(∀q:Nat,(q:Int)<E→s4q T' q=s4q T q)→u6n T' m at_ acc=(l,E,true)
 | 0,at_,acc,l,E,h,_=>by unfold u6n at h ⊢;exact h
 | m+1,at_,acc,l,E,h,hb=>by
  unfold u6n at h ⊢
  split at h
  ·rename_i hc
   have hc' :=hc
   simp only[Bool.and_eq_true] at hc'
   have h2:=q4i h
   rw[q1v hc'.1 hs (fun q hq=>hb q (by omega)),if_pos hc]
   exact s8s hs h hb
  ·cases h
theorem r93 {T:ByteArray} {s:ByteArray} {nx:Int} :∀ {m:Nat} {at_:Int} {acc l:List ByteArray} {E:Int},u6n T m at_ acc=(l,E,true)→u0p T E=(s,nx,true)→s.size≠0→u6n T (m+1) at_ acc=(l++ [s],nx,true)
 | 0,at_,acc,l,E,h,hr,hne=>by
  unfold u6n at h
  cases h
  unfold u6n
  have:z7o s emp=false:=by
   have:=r8d (t:=s)
   rw[p85] at this
   rw[this]
   simpa using hne
  rw[hr]
  simp only[this,Bool.not_false,Bool.and_self,if_true]
  rfl
 | m+1,at_,acc,l,E,h,hr,hne=>by
  unfold u6n at h
  split at h
  ·rename_i hc
   unfold u6n
   rw[if_pos hc]
   exact r93 h hr hne
  ·cases h
def u8s (l:List Int):List UInt8:=l.map fun n=>UInt8.ofNat n.toNat
theorem r65:∀(f i acc n N:Nat) (r:List UInt8),0<f→n<128^f→acc+n*128^i=N→N≤1000000000→(s0g N).length=i+(s0g n).length→r0l f i acc (u8s (s0g n)++r)=some (N,i+(s0g n).length)
 | 0,i,acc,n,N,r,hf,_,_,_,_=>by omega
 | f+1,i,acc,n,N,r,_,hn,hN,hb,hl=>by
  by_cases h:n<128
  ·rw[s9t h] at hl ⊢
   have e:(UInt8.ofNat ((n:Int)).toNat).toNat=n:=by
    rw[zTn,UInt8.toNat_ofNat']
    omega
   simp only[u8s,List.map_cons,List.map_nil,List.cons_append,List.nil_append,r0l,e,h,if_true,List.length_singleton] at hl ⊢
   rw[Nat.mod_eq_of_lt h,hN,if_pos ⟨hb,hl⟩]
  ·rw[r64 h] at hl ⊢
   have e:(UInt8.ofNat (((n % 128+128:Nat):Int)).toNat).toNat=n % 128+128:=by
    rw[zTn,UInt8.toNat_ofNat']
    omega
   have hh: ¬n % 128+128<128:=by omega
   simp only[u8s,List.map_cons,List.cons_append,r0l,e,hh,if_false,List.length_cons] at hl ⊢
   have e2:(n % 128+128) % 128=n % 128:=by omega
   rw[e2]
   have:=r65 f (i+1) (acc+n % 128*128^i) (n / 128) N r (by rcases f with _ | f<;>simp at hn ⊢;omega) (by rw[Nat.pow_succ] at hn;omega) (by
    rw[←hN,Nat.pow_succ]
    have:n=n % 128+128*(n / 128):=by omega
    conv=>rhs;rw[this]
    rw[Nat.add_mul]
    have:n / 128*(128^i*128)=128*(n / 128)*128^i:=by rw[Nat.mul_comm (128^i) 128,←Nat.mul_assoc,Nat.mul_comm (n / 128) 128]
    omega) hb (by omega)
   show r0l f (i+1) (acc+n % 128*128^i) (u8s (s0g (n / 128))++r)=_
   rw[this]
   congr 2
   omega
end
section
theorem t96 (l:List Int):(y7g l).data.toList=u8s l:=by
 unfold y7g u8s
 simp
theorem r60 {T t:ByteArray} {E:Nat} (h0:t.size≠0) (h1:t.size≤3008) (hE:E+(u0u t).size≤T.size) (hb:∀q,q<(u0u t).size→s4q T (E+q)=s4q (u0u t) q):
 u0p T (E:Int)=(t,((E+(u0u t).size:Nat):Int),true):=by
 have hsz:(u0u t).size=(s0g t.size).length+t.size:=by unfold u0u;rw[ByteArray.size_append,u51]
 have hlist:(u0u t).data.toList=u8s (s0g t.size)++t.data.toList:=by
  unfold u0u
  rw[ByteArray.data_append,Array.toList_append,t96]
 have hdrop:∃r,T.data.toList.drop E=u8s (s0g t.size)++r:=by
  refine⟨(T.data.toList.drop E).drop (u8s (s0g t.size)).length,?_⟩
  have:(T.data.toList.drop E).take (u8s (s0g t.size)).length=u8s (s0g t.size):=by
   apply List.ext_getElem?
   intro q
   rw[List.getElem?_take]
   split
   ·rename_i hq
    have hq' :q<(s0g t.size).length:=by simpa[u8s] using hq
    rw[List.getElem?_drop,r5j (by omega),hb q (by omega),←r5j (by omega),hlist,List.getElem?_append_left hq]
   ·rename_i hq
    rw[List.getElem?_eq_none (Nat.le_of_not_lt hq)]
  conv=>lhs;rw[←List.take_append_drop (u8s (s0g t.size)).length (T.data.toList.drop E)]
  rw[this]
 obtain⟨r,hr⟩:=hdrop
 have hv:=r65 5 0 0 t.size t.size r (by omega) (by omega) (by simp) (by omega) (by omega)
 have hread:u0s T (E:Int)=((t.size:Int),(E:Int)+((s0g t.size).length:Int),true):=by
  unfold u0s
  rw[if_pos (by omega),zTn,hr,hv]
  simp[q17]
 unfold u0p
 rw[hread]
 simp only
 rw[if_pos (by simp only[true_and];omega)]
 have e1:((E:Int)+((s0g t.size).length:Int)).toNat=E+(s0g t.size).length:=by omega
 have e2:((E:Int)+((s0g t.size).length:Int)+(t.size:Int)).toNat=E+(s0g t.size).length+t.size:=by omega
 rw[e1,e2]
 have et:T.extract (E+(s0g t.size).length) (E+(s0g t.size).length+t.size)=t:=by
  apply r9g
  ·rw[ByteArray.size_extract];omega
  ·intro i hi
   rw[ByteArray.size_extract] at hi
   rw[u44,if_pos (by omega)]
   have:=hb ((s0g t.size).length+i) (by omega)
   rw[show E+(s0g t.size).length+i=E+((s0g t.size).length+i) by omega,this]
   unfold u0u
   rw[u8k,if_neg (by rw[u51];omega),u51]
   congr 1
   omega
 rw[et]
 congr 2
 rw[hsz]
 omega
def o3n (d:u0j):Prop:= ∀k:Nat,k<97→(u0h d (k:Int)).2=true∧(u0h d (k:Int)).1.size=64
theorem s4p {d:u0j} (hk:u1r d=true) (hl:d.1.length=97):o3n d:=by
 intro k hlt
 obtain⟨k1,k2,k3,k4⟩:=q4o.mp hk
 have hc:(0:Int)≤(k:Int)∧(k:Int)<(d.1.length:Int):=by omega
 unfold u0h
 rw[if_pos hc]
 refine⟨rfl,?_⟩
 cases hp:t07 d.2 (k:Int) with
 | none=>
  have hlt' :k<d.1.length:=by omega
  have e:rdL Ty.str d.1 k=d.1[k] :=y8k (t:=Ty.str) hlt'
  simp only[Option.getD_none,zTn]
  rw[e]
  exact k3 _ (List.getElem_mem hlt')
 | some s=>
  obtain⟨p,hp1,hp2⟩:=r3j hp
  simp only[Option.getD_some]
  rw[←hp2]
  exact(k4 p hp1).2
theorem q1y {d:u0j} {F:Nat} (h:∀q:Nat,q<47→(u0h d ((F+q:Nat):Int)).2=true∧(u0h d ((F+q:Nat):Int)).1.size=64):∀(m i:Nat) (acc:ByteArray),i+m≤47→
 ∃T,r61 d (F:Int) m i acc=(T,true)∧T.size=acc.size+64*m∧ ∀j,j<T.size→s4q T j=if j<acc.size then s4q acc j else s4q (u0h d ((F+i+(j - acc.size) / 64:Nat):Int)).1 ((j - acc.size) % 64)
 | 0,i,acc,_=>⟨acc,rfl,by omega,fun j hj=>by rw[if_pos hj]⟩
 | m+1,i,acc,hm=>by
  have hq:=h i (by omega)
  have e:(F:Int)+(i:Int)=((F+i:Nat):Int):=by omega
  obtain⟨T,t1,t2,t3⟩:=q1y h m (i+1) (acc++(u0h d ((F+i:Nat):Int)).1) (by omega)
  refine⟨T,?_,?_,fun j hj=> ?_⟩
  ·unfold r61
   rw[e,if_pos hq.1]
   exact t1
  ·rw[t2,ByteArray.size_append,hq.2];omega
  ·rw[t3 j hj,ByteArray.size_append,hq.2,u8k]
   by_cases h1:j<acc.size
   ·rw[if_pos (by omega),if_pos h1,if_pos h1]
   ·rw[if_neg h1,if_neg h1]
    by_cases h2:j<acc.size+64
    ·rw[if_pos h2]
     have z1:(j - acc.size) / 64=0:=by omega
     have z2:(j - acc.size) % 64=j - acc.size:=by omega
     rw[z1,z2,Nat.add_zero]
    ·rw[if_neg h2]
     have z1:F+(i+1)+(j - (acc.size+64)) / 64=F+i+(j - acc.size) / 64:=by omega
     have z2:(j - (acc.size+64)) % 64=(j - acc.size) % 64:=by omega
     rw[z1,z2]
def s21 (a:Int):Nat:=(u0f a+1).toNat
def s4m (d:u0j) (a:Int):ByteArray:=(t1g d (u0f a+1) 47).1
theorem u6b {d:u0j} (hf:o3n d) {a:Int} (ha:a=0∨a=1):t1g d (u0f a+1) 47=(s4m d a,true)∧(s4m d a).size=3008∧ ∀j,j<3008→s4q (s4m d a) j=s4q (u0h d ((s21 a+j / 64:Nat):Int)).1 (j % 64):=by
 have hfa:u0f a=1+a*48:=by unfold u0f;rw[if_pos (p7n.mpr ha)]
 have hF:(u0f a+1:Int)=((s21 a:Nat):Int):=by unfold s21;rcases ha with rfl | rfl<;>omega
 have hb:s21 a+47≤97:=by unfold s21;rcases ha with rfl | rfl<;>omega
 obtain⟨T,t1,t2,t3⟩:=q1y (d:=d) (F:=s21 a) (fun q hq=>hf (s21 a+q) (by omega)) 47 0 emp (by omega)
 have he:emp.size=0:=rfl
 have hs:t1g d (u0f a+1) 47=(T,true):=by
  unfold t1g
  rw[if_pos (by omega),hF]
  exact t1
 have hT:s4m d a=T:=by unfold s4m;rw[hs]
 rw[hT]
 rw[he] at t2 t3
 refine⟨hs,by omega,fun j hj=> ?_⟩
 rw[t3 j (by omega),if_neg (by omega),Nat.add_zero,Nat.sub_zero]
theorem u8n {d:u0j} (hf:o3n d) {a:Int} (ha:a=0∨a=1):u0c d a=u6n (s4m d a) (u08 d a).toNat 0 [] :=by
 have h:=(u6b hf ha).1
 have hi:p31 a=true:=p7n.mpr ha
 unfold u0c
 rw[h,hi]
 rfl
end
section
theorem p2e {a b:ByteArray} (h:a.data.toList=b.data.toList):a=b:=by
 apply ByteArray.ext
 exact Array.toList_inj.mp h
theorem r94 (a b:ByteArray):(a++b).data.toList=a.data.toList++b.data.toList:=by rw[ByteArray.data_append,Array.toList_append]
theorem t8y (a b c:ByteArray):a++b++c=a++(b++c):=p2e (by simp only[r94,List.append_assoc])
theorem p5s (a:ByteArray):emp++a=a:=p2e (by rw[r94];rfl)
theorem p5l (a:ByteArray):a++emp=a:=p2e (by rw[r94];simp[emp])
theorem r3d (a:ByteArray):a.size=a.data.toList.length:=q96 a
def r5x (n:Int):ByteArray:=y7g (s0g n.toNat)
def p3s (b:Bool):ByteArray:=y7g [if b then 1 else 0]
def q2d {E:Type} (f:E→ByteArray) (l:List E):ByteArray:=l.foldl (fun s x=>s++f x) emp
def p4d (r:s2e):ByteArray:=u0u r.1++u0u r.2
def wrT (w:WrT):ByteArray:=u0u w.1++(u0u w.2.1++p3s w.2.2)
def p4p (v:u18):ByteArray:=u0u v.1++(u0u v.2.1++(p3s v.2.2.1++r5x v.2.2.2))
def t58 (t:u0e):ByteArray:=
 r5x t.1++(r5x t.2.1++(r5x t.2.2.1++(r5x t.2.2.2.1++(r5x (t.2.2.2.2.1.length:Int)++(q2d p4d t.2.2.2.2.1++(r5x (t.2.2.2.2.2.1.length:Int)++(q2d wrT t.2.2.2.2.2.1++(p3s t.2.2.2.2.2.2.1++u0u t.2.2.2.2.2.2.2))))))))
def r8f (l:List u0e):ByteArray:=r5x (l.length:Int)++q2d t58 l
def t9e (b:u0i):ByteArray:=r5x b.2.2.2.1++(r5x b.2.2.2.2++(r5x (b.1.length:Int)++(q2d p4p b.1++(r8f b.2.1++r8f b.2.2.1))))
theorem r47 {E:Type} (f:E→ByteArray):∀(l:List E) (s:ByteArray),l.foldl (fun s x=>s++f x) s=s++q2d f l
 | [],s=>(p5l s).symm
 | x::l,s=>by
  rw[List.foldl_cons,r47 f l]
  unfold q2d
  rw[List.foldl_cons,r47 f l (emp++f x),p5s,t8y]
  rfl
theorem q8e {E:Type} (f:E→ByteArray) (x:E) (l:List E):q2d f (x::l)=f x++q2d f l:=by
 unfold q2d
 rw[List.foldl_cons,r47,p5s]
 rfl
theorem p2g {E:Type} (f:E→ByteArray):q2d f [] =emp:=rfl
def t2x (T:ByteArray) (a:Nat) (s:ByteArray):Prop:= ∃r,T.data.toList.drop a=s.data.toList++r
theorem o0s {T:ByteArray} {a:Nat} {s u:ByteArray} :t2x T a (s++u)↔t2x T a s∧t2x T (a+s.size) u:=by
 unfold t2x
 rw[r94,r3d s]
 constructor
 ·rintro⟨r,h⟩
  refine⟨⟨u.data.toList++r,by rw[h,List.append_assoc]⟩,r,?_⟩
  rw[←List.drop_drop,h,List.append_assoc,List.drop_left]
 ·rintro⟨⟨r,h⟩,r',h'⟩
  rw[←List.drop_drop,h,List.drop_left] at h'
  exact⟨r',by rw[h,h',List.append_assoc]⟩
theorem r5q {T:ByteArray} {a:Nat} {s:ByteArray} (h:t2x T a s) (hs:s.size≠0):a+s.size≤T.size:=by
 obtain⟨r,h⟩:=h
 have:=congrArg List.length h
 rw[List.length_drop,List.length_append,←r3d,←r3d] at this
 omega
theorem p4h {a s b:ByteArray} :t2x (a++s++b) a.size s:=⟨b.data.toList,by rw[r94,r94,r3d,List.append_assoc,List.drop_left]⟩
theorem t99 (n:Int):(r5x n).size=(s0g n.toNat).length:=u51 _
theorem r5w (n:Nat):0<(s0g n).length:=by
 by_cases h:n<128
 ·rw[s9t h];simp
 ·rw[r64 h];simp
theorem r2w {T:ByteArray} {a:Nat} {n:Int} (h0:0≤n) (hn:n≤1000000000) (h:t2x T a (r5x n)):u0s T (a:Int)=(n,((a+(r5x n).size:Nat):Int),true):=by
 have hle:=r5q h (by rw[t99];have:=r5w n.toNat;omega)
 obtain⟨r,h⟩:=h
 unfold r5x at h
 rw[t96] at h
 have hv:=r65 5 0 0 n.toNat n.toNat r (by omega) (by omega) (by simp) (by omega) (by omega)
 unfold u0s
 rw[if_pos (by omega),zTn,h,hv]
 simp only[q17]
 rw[t99]
 congr 1
 ·omega
 ·congr 1
  omega
theorem r89 {T:ByteArray} {a:Nat} {s:ByteArray} (hs:s.size≤20000) (h:t2x T a (u0u s)):u0p T (a:Int)=(s,((a+(u0u s).size:Nat):Int),true):=by
 have e:u0u s=r5x (s.size:Int)++s:=rfl
 rw[e] at h
 obtain⟨h1,h2⟩:=o0s.mp h
 have hv:=r2w (by omega) (by omega) h1
 have hle1:=r5q h1 (by rw[t99];have:=r5w (s.size:Int).toNat;omega)
 unfold u0p
 rw[hv]
 have hle:a+(r5x (s.size:Int)).size+s.size≤T.size:=by
  by_cases q:s.size=0
  ·omega
  ·exact r5q h2 q
 rw[if_pos (by simp only[true_and];omega)]
 have hx:T.extract (((a+(r5x (s.size:Int)).size:Nat):Int)).toNat ((((a+(r5x (s.size:Int)).size:Nat):Int)+(s.size:Int))).toNat=s:=by
  rw[zTn,show(((a+(r5x (s.size:Int)).size:Nat):Int)+(s.size:Int)).toNat=a+(r5x (s.size:Int)).size+s.size by omega]
  rw[r72 _ _ _ hle]
  obtain⟨r,hr⟩:=h2
  rw[hr,Nat.add_sub_cancel_left,r3d,List.take_left]
 simp only[hx]
 rw[e,ByteArray.size_append]
 congr 2
 omega
abbrev Cur:=Int×Bool
def u4s (s:ByteArray) (c:Cur):Int×Cur:=if c.2=true∨(u0s s c.1).2.2=false then(0,c.1,true) else((u0s s c.1).1,(u0s s c.1).2.1,false)
def u2q (s:ByteArray) (c:Cur):ByteArray×Cur:=if c.2=true∨(u0p s c.1).2.2=false then(emp,c.1,true) else((u0p s c.1).1,(u0p s c.1).2.1,false)
def t26 (s:ByteArray) (i:Nat):Nat:=(s.data.toList.getD i 0).toNat
def q1q (s:ByteArray) (c:Cur):Bool×Cur:=if c.2=true∨ ¬(0≤c.1∧c.1<(s.size:Int))∨1<t26 s c.1.toNat then(false,c.1,true) else(decide (t26 s c.1.toNat=1),c.1+1,false)
def u4z {E:Type} (f:Cur→E×Cur):Nat→Cur→List E→List E×Cur
 | 0,c,a=>(a,c)
 | n+1,c,a=>if c.2=true then(a,c) else u4z f n (f c).2 (a++ [(f c).1])
def p2t (s:ByteArray) (c:Cur):s2e×Cur:=(((u2q s c).1,(u2q s (u2q s c).2).1),(u2q s (u2q s c).2).2)
def rWr (s:ByteArray) (c:Cur):WrT×Cur:=
 (((u2q s c).1,(u2q s (u2q s c).2).1,(q1q s (u2q s (u2q s c).2).2).1),(q1q s (u2q s (u2q s c).2).2).2)
def p2v (s:ByteArray) (c:Cur):u18×Cur:=
 let w:=rWr s c
 ((w.1.1,w.1.2.1,w.1.2.2,(u4s s w.2).1),(u4s s w.2).2)
def q33 (m:Nat) (s:ByteArray) (c:Cur):u0e×Cur:=
 let a:=u4s s c
 let b:=u4s s a.2
 let d:=u4s s b.2
 let e:=u4s s d.2
 let n:=u4s s e.2
 let rs:=u4z (p2t s) (min n.1.toNat m) n.2 []
 let k:=u4s s rs.2
 let ws:=u4z (rWr s) (min k.1.toNat m) k.2 []
 let o:=q1q s ws.2
 let nm:=u2q s o.2
 ((a.1,b.1,d.1,e.1,rs.1,ws.1,o.1,nm.1),nm.2)
theorem u8m {s:ByteArray} {c:Cur} (h:c.2=true):(u4s s c).2.2=true:=by unfold u4s;rw[if_pos (.inl h)]
theorem s3n {s:ByteArray} {c:Cur} (h:c.2=true):(u2q s c).2.2=true:=by unfold u2q;rw[if_pos (.inl h)]
theorem r5o {s:ByteArray} {c:Cur} (h:c.2=true):(q1q s c).2.2=true:=by unfold q1q;rw[if_pos (.inl h)]
theorem t3e {E:Type} {f:Cur→E×Cur} {n:Nat} {c:Cur} {a:List E} (h:c.2=true):u4z f n c a=(a,c):=by
 cases n with
 | zero=>rfl
 | succ n=>simp only[u4z];rw[if_pos h]
theorem q9v {E:Type} {f:Cur→E×Cur} :∀ {n:Nat} {c:Cur} {a:List E},(u4z f n c a).2.2=false→(u4z f n c a).1.length=a.length+n
 | 0,c,a,_=>rfl
 | n+1,c,a,h=>by
  simp only[u4z] at h ⊢
  split at h
  ·rename_i q;rw[q] at h;cases h
  ·rename_i q
   rw[if_neg q,q9v h]
   simp;omega
theorem u5z {s:ByteArray} {a:Nat} {n:Int} (h0:0≤n) (hn:n≤1000000000) (h:t2x s a (r5x n)):u4s s ((a:Int),false)=(n,((a+(r5x n).size:Nat):Int),false):=by
 unfold u4s
 rw[r2w h0 hn h,if_neg (by simp)]
theorem t4y {s:ByteArray} {a:Nat} {x:ByteArray} (hx:x.size≤20000) (h:t2x s a (u0u x)):u2q s ((a:Int),false)=(x,((a+(u0u x).size:Nat):Int),false):=by
 unfold u2q
 rw[r89 hx h,if_neg (by simp)]
theorem u5h (b:Bool):(p3s b).size=1:=u51 _
theorem r3r {s:ByteArray} {a:Nat} {b:Bool} (h:t2x s a (p3s b)):q1q s ((a:Int),false)=(b,((a+1:Nat):Int),false):=by
 have hle:=r5q h (by rw[u5h];omega)
 rw[u5h] at hle
 obtain⟨r,hr⟩:=h
 unfold p3s at hr
 rw[t96] at hr
 have hb:t26 s a=if b then 1 else 0:=by
  unfold t26
  have:s.data.toList.getD a 0=(s.data.toList.drop a).getD 0 0:=by
   rw[List.getD_eq_getElem?_getD,List.getD_eq_getElem?_getD,List.getElem?_drop,Nat.add_zero]
  rw[this,hr]
  cases b<;>rfl
 unfold q1q
 simp only[zTn,hb]
 rw[if_neg]
 ·cases b<;>simp
 ·rintro(q | q | q)
  ·cases q
  ·omega
  ·cases b<;>simp at q
theorem t74 {E:Type} {f:Cur→E×Cur} {g:E→ByteArray} {s:ByteArray} :∀ {l:List E} {a:Nat} {acc:List E},(∀x∈l,∀a:Nat,t2x s a (g x)→f ((a:Int),false)=(x,((a+(g x).size:Nat):Int),false))→
 t2x s a (q2d g l)→u4z f l.length ((a:Int),false) acc=(acc++l,((a+(q2d g l).size:Nat):Int),false)
 | [],a,acc,_,_=>by rw[p2g];simp[u4z,emp,ByteArray.size]
 | x::l,a,acc,hf,h=>by
  rw[q8e] at h ⊢
  obtain⟨h1,h2⟩:=o0s.mp h
  have e:=hf x (by simp) a h1
  simp only[List.length_cons,u4z]
  rw[if_neg (by simp),e]
  rw[t74 (l:=l) (fun y hy=>hf y (by simp[hy])) h2,ByteArray.size_append]
  simp[Nat.add_assoc]
theorem p1v {s:ByteArray} {a:Nat} {r:s2e} (h1:r.1.size≤20000) (h2:r.2.size≤20000) (h:t2x s a (p4d r)):p2t s ((a:Int),false)=(r,((a+(p4d r).size:Nat):Int),false):=by
 obtain⟨k1,k2⟩:=o0s.mp h
 unfold p2t
 rw[t4y h1 k1]
 simp only
 rw[t4y h2 k2]
 unfold p4d
 rw[ByteArray.size_append,Nat.add_assoc]
theorem q4y {s:ByteArray} {a:Nat} {w:WrT} (h1:w.1.size≤20000) (h2:w.2.1.size≤20000) (h:t2x s a (wrT w)):rWr s ((a:Int),false)=(w,((a+(wrT w).size:Nat):Int),false):=by
 obtain⟨k1,k2⟩:=o0s.mp h
 obtain⟨k2,k3⟩:=o0s.mp k2
 unfold rWr
 rw[t4y h1 k1]
 simp only
 rw[t4y h2 k2]
 simp only
 rw[r3r k3]
 unfold wrT
 rw[ByteArray.size_append,ByteArray.size_append,u5h,Nat.add_assoc,Nat.add_assoc]
theorem p1x {s:ByteArray} {a:Nat} {v:u18} (h1:v.1.size≤20000) (h2:v.2.1.size≤20000) (h3:0≤v.2.2.2∧v.2.2.2≤1000000000) (h:t2x s a (p4p v)):p2v s ((a:Int),false)=(v,((a+(p4p v).size:Nat):Int),false):=by
 have e:p4p v=wrT (v.1,v.2.1,v.2.2.1)++r5x v.2.2.2:=by unfold p4p wrT;simp only[t8y]
 rw[e] at h ⊢
 obtain⟨k1,k2⟩:=o0s.mp h
 unfold p2v
 rw[q4y (w:=(v.1,v.2.1,v.2.2.1)) h1 h2 k1]
 simp only
 rw[u5z h3.1 h3.2 k2,ByteArray.size_append,Nat.add_assoc]
theorem TxnR.small {t:u0e} (h:TxnR t):(∀r∈t.2.2.2.2.1,r.1.size≤3∧r.2.size≤3)∧(∀w∈t.2.2.2.2.2.1,w.1.size≤3∧w.2.1.size≤12)∧t.2.2.2.2.2.2.2.size≤3∧t.2.2.2.2.2.1.length≤8∧0≤t.2.2.2.1∧t.2.2.2.1≤9999:=by
 obtain⟨w1,w2,w3⟩:=p9a.mp h.ws
 refine⟨fun r hr=> ?_,fun w hw=> ?_,?_,w3,?_⟩
 ·have:=h.rs r hr
  unfold u2d at this
  rw[Bool.and_eq_true,Bool.and_eq_true] at this
  exact⟨(u30 this.1).2,(u30 this.2.1).2⟩
 ·have:=w1 w hw
  unfold u10 at this
  rw[Bool.and_eq_true,Bool.and_eq_true,decide_eq_true_eq] at this
  exact⟨(u30 this.1).2,this.2.1⟩
 ·by_cases e:t.2.1=2
  ·exact(u30 (h.name e)).2
  ·rw[h.noname e];omega
 ·by_cases e:t.2.1=3
  ·have:=h.done e;have:=h.snap;omega
  ·rw[h.nocs e];omega
theorem p1w {s:ByteArray} {a:Nat} {t:u0e} {m:Nat} (hm:8≤m) (ht:TxnR t) (h:t2x s a (t58 t)):q33 m s ((a:Int),false)=(t,((a+(t58 t).size:Nat):Int),false):=by
 obtain⟨z1,z2,z3,z4,z5⟩:=ht.small
 have hi:=ht.id;have hst:=ht.st;have hsn:=ht.snap;have hrl:=ht.rlen
 unfold t58 at h ⊢
 obtain⟨k1,h⟩:=o0s.mp h
 obtain⟨k2,h⟩:=o0s.mp h
 obtain⟨k3,h⟩:=o0s.mp h
 obtain⟨k4,h⟩:=o0s.mp h
 obtain⟨k5,h⟩:=o0s.mp h
 obtain⟨k6,h⟩:=o0s.mp h
 obtain⟨k7,h⟩:=o0s.mp h
 obtain⟨k8,h⟩:=o0s.mp h
 obtain⟨k9,k10⟩:=o0s.mp h
 unfold q33
 rw[u5z (by omega) (by omega) k1]
 simp only
 rw[u5z (by omega) (by omega) k2]
 simp only
 rw[u5z (by omega) (by omega) k3]
 simp only
 rw[u5z (by omega) (by omega) k4]
 simp only
 rw[u5z (by omega) (by omega) k5]
 simp only
 rw[show min ((t.2.2.2.2.1.length:Int)).toNat m=t.2.2.2.2.1.length by omega,t74 (g:=p4d) (fun r hr a hs=>p1v (by have:=(z1 r hr).1;omega) (by have:=(z1 r hr).2;omega) hs) k6]
 simp only
 rw[u5z (by omega) (by omega) k7]
 simp only
 rw[show min ((t.2.2.2.2.2.1.length:Int)).toNat m=t.2.2.2.2.2.1.length by omega,t74 (g:=wrT) (fun w hw a hs=>q4y (by have:=(z2 w hw).1;omega) (by have:=(z2 w hw).2;omega) hs) k8]
 simp only
 rw[r3r k9]
 simp only
 rw[u5h] at k10
 rw[t4y (by omega) k10]
 simp only[List.nil_append,ByteArray.size_append,u5h]
 simp only[Nat.add_assoc]
end
end
end Go.Proofs.YtbkicjpdlchbgaaGreat.Ab
