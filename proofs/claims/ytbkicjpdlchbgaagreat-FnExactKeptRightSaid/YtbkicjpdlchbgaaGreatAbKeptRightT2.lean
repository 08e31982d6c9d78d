import Derived.Test.YtbkicjpdlchbgaaGreatAbKeptRightT1
import Derived.Test.YtbkicjpdlchbgaaGreatAbK2
import Derived.Test.YtbkicjpdlchbgaaGreatAbF4
import Derived.Test.YtbkicjpdlchbgaaGreatAbS2
namespace Go.Proofs.YtbkicjpdlchbgaaGreat.Ab
open Go
set_option linter.unusedVariables false
set_option linter.unusedSimpArgs false
set_option linter.unnecessarySimpa false
section
section
theorem p4x (l:List u0f) (n:Int):((List.range l.length).all fun i=>decide ((rdL u0k l i).1<n)&& !((l.take i).any fun y=>decide (y.1=(rdL u0k l i).1)))=r4b (u7m l) n:=by
 rw[Bool.eq_iff_iff,List.all_eq_true,s92]
 unfold u7m
 constructor
 ·intro h
  constructor
  ·intro x hx
   obtain⟨t,ht,rfl⟩:=List.mem_map.mp hx
   obtain⟨i,hi,rfl⟩:=List.getElem_of_mem ht
   have:=h i (List.mem_range.mpr hi)
   rw[Bool.and_eq_true,decide_eq_true_eq,y8k hi] at this
   exact this.1
  ·rw[List.nodup_iff_pairwise_ne,List.pairwise_map,List.pairwise_iff_getElem]
   intro i j hi hj hij e
   have:=h j (List.mem_range.mpr hj)
   rw[Bool.and_eq_true,Bool.not_eq_true',y8k hj] at this
   have hm:l[i] ∈l.take j:=by
    rw[List.mem_iff_getElem]
    exact⟨i,by simp;omega,by simp⟩
   have:=List.any_eq_false.mp this.2 _ hm
   simp only[decide_eq_true_eq] at this
   exact this e
 ·rintro⟨h1,h2⟩ i hi
  have hi:=List.mem_range.mp hi
  rw[Bool.and_eq_true,decide_eq_true_eq,y8k hi,Bool.not_eq_true']
  refine⟨h1 _ (List.mem_map.mpr ⟨_,List.getElem_mem hi,rfl⟩),?_⟩
  rw[List.any_eq_false]
  intro y hy
  rw[List.mem_iff_getElem] at hy
  obtain⟨j,hj,rfl⟩:=hy
  simp only[List.length_take] at hj
  rw[List.nodup_iff_pairwise_ne,List.pairwise_map,List.pairwise_iff_getElem] at h2
  simp only[List.getElem_take,decide_eq_true_eq]
  exact h2 j i (by omega) hi (by omega)
theorem r3n (l:List u0f) (n:Int) (hl:l.length≤1099511627776):u8e (l,n)=some (r4b (u7m l) n):=by
 have hsome:∀(m:List u0f) (t:u0f),m.length≤1099511627776→u4v (m,t)=some (m.any fun y=>decide (y.1=t.1)):=by
  intro m t hm
  have L:=Q.first (T:=u0k) (c:=u0f) (W:=u0r) (q:=t4l) (p:=fun y:u0f=>decide (y.1=t.1)) (fun x=>u5t x) m t (by omega) (fun x _=>by rw[r55];rfl)
  simp only[t7q,u83,u5s,u2d,u6r,u2x,L,zOb]
  rw[←q2j]
  by_cases h:u1h (fun y:u0f=>decide (y.1=t.1)) m<m.length
  ·simp[h]
  ·simp[h]
 have L:=u7t u8z l.length (fun i=>(l,n,l,(l.length:Int),i)) (fun i=>decide ((rdL u0k l i).1<n)&& !((l.take i).any fun y=>decide (y.1=(rdL u0k l i).1))) (.inl ()) (.inr false)
  (by rw[s06];simp only[u8r,u0b,Nat.lt_irrefl,decide_false,cond_false])
  (fun i hi=>by
   have e1:(decide ((0:Int)≤0)&&decide ((0:Int)≤(i:Int))&&decide ((i:Int)≤(l.length:Int)))=true:=by simp;omega
   have e2:(l.take i).drop ((0:Int)).toNat=l.take i:=by simp
   have e3:=hsome (l.take i) (rdL u0k l i) (by simp;omega)
   rw[s06];simp only[u8r,u0b,hi,decide_true,cond_true,y7t hi,zTn,y7l (show i<4611686018427387904 by omega),r84 (rdL u0k l i).1 n,e1]
   rw[e2,e3]
   cases decide ((rdL u0k l i).1<n)
   ·rfl
   ·simp only[Bool.not_true,cond_false,zOb,Bool.true_and]
    cases (l.take i).any fun y=>decide (y.1=(rdL u0k l i).1)<;>rfl)
 rw[p4x] at L
 rw[r9y];unfold s56
 simp only[L,zOb]
 cases r4b (u7m l) n<;>rfl
theorem s4z (b:u0h):q3r.wt b=(Ty.sl u0c).wt b.1+((Ty.sl u0k).wt b.2.1+((Ty.sl u0k).wt b.2.2.1+(0+0))):=rfl
theorem r0z {l:List u0f} {t:u0f} (h:t∈l):u0k.wt t≤(Ty.sl u0k).wt l:=by
 have h1:(Ty.sl u0k).wt l=l.length+(l.map u0k.wt).sum:=rfl
 have h2:=t7n (f:=u0k.wt) h
 omega
theorem gt3 (n:Nat):decide ((n:Int) >3)= !decide (n≤3):=by by_cases h:n≤3<;>simp[h] <;>omega
theorem gt4 (n:Nat):decide ((n:Int) >4)= !decide (n≤4):=by by_cases h:n≤4<;>simp[h] <;>omega
theorem r85 (t:u0f):t54 t=some (decide (t.2.1=2)):=by rw[q4c];rfl
theorem u63 (b:u0h) (hw:q3r.wt b≤u0g):u16 b=some (u5o b):=by
 have hb:u0g=1099511627776:=rfl
 have hbw:=s4z b
 have n1:=t1b (t:=u0c) b.1
 have n2:=t1b (t:=u0k) b.2.1
 have n3:=t1b (t:=u0k) b.2.2.1
 have L1:=u7t u9b b.1.length (fun i=>(b,b.1,(b.1.length:Int),i)) (fun i=>(fun v:u3g=>decide (v.2.2.2≤b.2.2.2.1)) (rdL u0c b.1 i)) (.inl b) (.inr false)
  (by rw[r02];simp only[t3q,u0b,Nat.lt_irrefl,decide_false,cond_false])
  (fun i hi=>by
   rw[r02];simp only[t3q,u0b,hi,decide_true,cond_true,y7t hi,zTn,y7l (show i<4611686018427387904 by omega),s91 (rdL u0c b.1 i).2.2.2 b.2.2.2.1]
   cases decide ((rdL u0c b.1 i).2.2.2≤b.2.2.2.1)<;>rfl)
 rw[t4e (t:=u0c) b.1 (fun v:u3g=>decide (v.2.2.2≤b.2.2.2.1))] at L1
 have L2:=u7t u7u b.2.1.length (fun i=>(b,b.2.1,(b.2.1.length:Int),i)) (fun i=>(fun t:u0f=>u4x t&&(decide (t.2.1=3)&&decide (t.2.2.2.1≤b.2.2.2.1))) (rdL u0k b.2.1 i)&&(decide (i=0) || (fun x y:u0f=>decide (x.2.2.2.1<y.2.2.2.1)) (rdL u0k b.2.1 (i - 1)) (rdL u0k b.2.1 i))) (.inl b) (.inr false)
  (by rw[s7g];simp only[t1y,u0b,Nat.lt_irrefl,decide_false,cond_false])
  (fun i hi=>by
   have hm:rdL u0k b.2.1 i∈b.2.1:=by rw[y8k hi];exact List.getElem_mem hi
   have ht:=r0z hm
   have hk:=t71 (rdL u0k b.2.1 i) (by omega)
   rw[s7g];simp only[t1y,u0b,hi,decide_true,cond_true,y7t hi,zTn,y7l (show i<4611686018427387904 by omega),s91 (rdL u0k b.2.1 i).2.2.2.1 b.2.2.2.1,t5v,q2o,zOb]
   rw[hk]
   simp only[zOb]
   generalize u4x (rdL u0k b.2.1 i)=b1
   generalize decide ((rdL u0k b.2.1 i).2.1=3)=b2
   generalize decide ((rdL u0k b.2.1 i).2.2.2.1≤b.2.2.2.1)=b3
   by_cases h0:i=0
   ·subst h0;simp only[decide_true,Bool.not_true,cond_false,Bool.true_or,Bool.and_true]
    cases b1<;>cases b2<;>cases b3<;>rfl
   ·simp only[h0,decide_false,Bool.not_false,cond_true,Bool.false_or,t1w (show i<4611686018427387904 by omega) h0,y7t (show i - 1<b.2.1.length by omega),zTn,r84 (rdL u0k b.2.1 (i - 1)).2.2.2.1 (rdL u0k b.2.1 i).2.2.2.1]
    generalize decide ((rdL u0k b.2.1 (i - 1)).2.2.2.1<(rdL u0k b.2.1 i).2.2.2.1)=b4
    cases b1<;>cases b2<;>cases b3<;>cases b4<;>rfl)
 rw[s1d (t:=u0k) b.2.1 (fun t:u0f=>u4x t&&(decide (t.2.1=3)&&decide (t.2.2.2.1≤b.2.2.2.1))) (fun x y:u0f=>decide (x.2.2.2.1<y.2.2.2.1))] at L2
 have L3:=u7t u7v b.2.2.1.length (fun i=>(b,b.2.2.1,(b.2.2.1.length:Int),i)) (fun i=>(fun t:u0f=>u4x t&&(decide (t.2.1=2)&&decide (t.2.2.1≤b.2.2.2.1))) (rdL u0k b.2.2.1 i)&&(decide (i=0) || (fun x y:u0f=>y3c x.2.2.2.2.2.2.2 y.2.2.2.2.2.2.2) (rdL u0k b.2.2.1 (i - 1)) (rdL u0k b.2.2.1 i))) (.inl b) (.inr false)
  (by rw[s7h];simp only[t1z,u0b,Nat.lt_irrefl,decide_false,cond_false])
  (fun i hi=>by
   have hm:rdL u0k b.2.2.1 i∈b.2.2.1:=by rw[y8k hi];exact List.getElem_mem hi
   have ht:=r0z hm
   have hk:=t71 (rdL u0k b.2.2.1 i) (by omega)
   rw[s7h];simp only[t1z,u0b,hi,decide_true,cond_true,y7t hi,zTn,y7l (show i<4611686018427387904 by omega),s91 (rdL u0k b.2.2.1 i).2.2.1 b.2.2.2.1,t5v,r85,zOb]
   rw[hk]
   simp only[zOb]
   generalize u4x (rdL u0k b.2.2.1 i)=b1
   generalize decide ((rdL u0k b.2.2.1 i).2.1=2)=b2
   generalize decide ((rdL u0k b.2.2.1 i).2.2.1≤b.2.2.2.1)=b3
   by_cases h0:i=0
   ·subst h0;simp only[decide_true,Bool.not_true,cond_false,Bool.true_or,Bool.and_true]
    cases b1<;>cases b2<;>cases b3<;>rfl
   ·simp only[h0,decide_false,Bool.not_false,cond_true,Bool.false_or,t1w (show i<4611686018427387904 by omega) h0,y7t (show i - 1<b.2.2.1.length by omega),zTn]
    generalize y3c (rdL u0k b.2.2.1 (i - 1)).2.2.2.2.2.2.2 (rdL u0k b.2.2.1 i).2.2.2.2.2.2.2=b4
    cases b1<;>cases b2<;>cases b3<;>cases b4<;>rfl)
 rw[s1d (t:=u0k) b.2.2.1 (fun t:u0f=>u4x t&&(decide (t.2.1=2)&&decide (t.2.2.1≤b.2.2.2.1))) (fun x y:u0f=>y3c x.2.2.2.2.2.2.2 y.2.2.2.2.2.2.2)] at L3
 have hC:=q5i [b.2.1,b.2.2.1] (by simp only[List.flatten_cons,List.flatten_nil,List.append_nil,List.length_append];omega) (by simp)
 have hf: [b.2.1,b.2.2.1].flatten=b.2.1++b.2.2.1:=by simp
 rw[hf] at hC
 have hI:=r3n (b.2.1++b.2.2.1) b.2.2.2.2 (by rw[List.length_append];omega)
 have hV:=q00 b.1 (by omega)
 rw[q63];unfold r4u
 rw[hV]
 simp only[r1k,o1l,gt3,zOb]
 unfold u5o p2k q8i
 generalize u8k b.1=c1
 generalize inB b.2.2.2.1 0 9999=c3
 generalize inB b.2.2.2.2 1 9999=c4
 generalize decide (b.2.1.length≤12)=c5
 generalize decide (b.2.2.1.length≤3)=c6
 generalize ha1:b.1.all (fun v:u3g=>decide (v.2.2.2≤b.2.2.2.1))=a1 at L1
 generalize ha2:b.2.1.all (fun t:u0f=>u4x t&&(decide (t.2.1=3)&&decide (t.2.2.2.1≤b.2.2.2.1)))=a2 at L2
 generalize ha3:q3s u0k (fun x y:u0f=>decide (x.2.2.2.1<y.2.2.2.1)) b.2.1=a3 at L2
 generalize ha4:b.2.2.1.all (fun t:u0f=>u4x t&&(decide (t.2.1=2)&&decide (t.2.2.1≤b.2.2.2.1)))=a4 at L3
 generalize ha5:q3s u0k (fun x y:u0f=>y3c x.2.2.2.2.2.2.2 y.2.2.2.2.2.2.2) b.2.2.1=a5 at L3
 generalize r4b (u7m (b.2.1++b.2.2.1)) b.2.2.2.2=a6 at hI
 have hR:((u9b (b,b.1,(b.1.length:Int),0)).bind fun r5=>match r5 with
  | .inl o6=>(u7u (o6,o6.2.1,(o6.2.1.length:Int),0)).bind fun r10=>match r10 with
   | .inl o11=>(u7v (o11,o11.2.2.1,(o11.2.2.1.length:Int),0)).bind fun r15=>match r15 with
    | .inl o16=>(u2r [o16.2.1,o16.2.2.1]).bind fun y17=>(u8e (y17,o16.2.2.2.2)).bind fun y18=>some y18
    | .inr z19=>some z19
   | .inr z20=>some z20
  | .inr z21=>some z21)=some (a1&&((a2&&a3)&&((a4&&a5)&&a6))):=by
  rw[L1]
  cases a1
  ·rfl
  ·simp only[cond_true,zOb,Bool.true_and]
   rw[L2]
   cases (a2&&a3)
   ·rfl
   ·simp only[cond_true,zOb,Bool.true_and]
    rw[L3]
    cases (a4&&a5)
    ·rfl
    ·simp only[cond_true,zOb,Bool.true_and]
     rw[hC]
     simp only[zOb]
     rw[hI];rfl
 cases c1<;>cases c3<;>cases c4<;>cases c5<;>cases c6<;>simp only[Bool.not_true,Bool.not_false,cond_true,cond_false,zOb,Bool.false_and,Bool.and_false,Bool.true_and,Bool.and_true]
 exact hR
theorem p3f (l:List Int) (n:Int):((List.range l.length).all fun i=>((List.range i).all fun j=> !decide (rdL (Ty.int .i64) l j=rdL (Ty.int .i64) l i))&&decide (rdL (Ty.int .i64) l i<n))=r4b l n:=by
 rw[Bool.eq_iff_iff,List.all_eq_true,s92]
 constructor
 ·intro h
  constructor
  ·intro x hx
   obtain⟨i,hi,rfl⟩:=List.getElem_of_mem hx
   have:=h i (List.mem_range.mpr hi)
   rw[Bool.and_eq_true,decide_eq_true_eq,y8k (t:=Ty.int .i64) hi] at this
   exact this.2
  ·rw[List.nodup_iff_pairwise_ne,List.pairwise_iff_getElem]
   intro i j hi hj hij e
   have:=h j (List.mem_range.mpr hj)
   rw[Bool.and_eq_true,List.all_eq_true] at this
   have:=this.1 i (List.mem_range.mpr hij)
   rw[y8k (t:=Ty.int .i64) hi,y8k (t:=Ty.int .i64) hj,Bool.not_eq_true',decide_eq_false_iff_not] at this
   exact this e
 ·rintro⟨h1,h2⟩ i hi
  have hi:=List.mem_range.mp hi
  rw[Bool.and_eq_true,decide_eq_true_eq,y8k (t:=Ty.int .i64) hi,List.all_eq_true]
  refine⟨fun j hj=> ?_,h1 _ (List.getElem_mem hi)⟩
  have hj:=List.mem_range.mp hj
  rw[List.nodup_iff_pairwise_ne,List.pairwise_iff_getElem] at h2
  rw[y8k (t:=Ty.int .i64) (show j<l.length by omega),Bool.not_eq_true',decide_eq_false_iff_not]
  exact h2 j i (by omega) hi hj
theorem q8r (b:u0h) (l:List Int) (hl:l.length≤1099511627776):u5c (b,l,0)=some (bif r4b l b.2.2.2.2 then .inl () else .inr false):=by
 have inner:∀i:Nat,i<l.length→u70 (b,l,(i:Int),0)=some (bif (List.range i).all (fun j=> !decide (rdL (Ty.int .i64) l j=rdL (Ty.int .i64) l i)) then .inl (b,l,(i:Int)) else .inr false):=by
  intro i hi
  exact u7t u70 i (fun j=>(b,l,(i:Int),j)) (fun j=> !decide (rdL (Ty.int .i64) l j=rdL (Ty.int .i64) l i)) (.inl (b,l,(i:Int))) (.inr false)
   (by rw[s7t];simp only[t2c,u0b,Nat.lt_irrefl,decide_false,cond_false])
   (fun j hj=>by
    rw[s7t];simp only[t2c,u0b,hj,decide_true,cond_true,y7t hi,y7t (show j<l.length by omega),zTn,y7l (show j<4611686018427387904 by omega)]
    by_cases e:rdL (Ty.int .i64) l j=rdL (Ty.int .i64) l i
    ·rw[decide_eq_true e];rfl
    ·rw[decide_eq_false e];rfl)
 have L:=u7t u5c l.length (fun i=>(b,l,i)) (fun i=>((List.range i).all fun j=> !decide (rdL (Ty.int .i64) l j=rdL (Ty.int .i64) l i))&&decide (rdL (Ty.int .i64) l i<b.2.2.2.2)) (.inl ()) (.inr false)
  (by rw[s7s];simp only[t2b,u0b,Nat.lt_irrefl,decide_false,cond_false])
  (fun i hi=>by
   rw[s7s];simp only[t2b,u0b,hi,decide_true,cond_true]
   rw[inner i hi]
   cases (List.range i).all fun j=> !decide (rdL (Ty.int .i64) l j=rdL (Ty.int .i64) l i)
   ·rfl
   ·simp only[cond_true,zOb,y7t hi,zTn,y7l (show i<4611686018427387904 by omega),Bool.true_and]
    rw[r84]
    cases decide (rdL (Ty.int .i64) l i<b.2.2.2.2)<;>rfl)
 rw[p3f] at L
 exact L
theorem p2b (l:List u0f) {i:Nat} (h:i<l.length):u7m (l.take i)++ [(rdL u0k l i).1] =u7m (l.take (i+1)):=by
 rw[y8k h];unfold u7m
 rw[List.take_add_one,List.getElem?_eq_getElem h,List.map_append];rfl
theorem t44 (b:u0h) (hw:q3r.wt b≤549755813888):u5q b=some (u5o b):=by
 have hb:u0g=1099511627776:=rfl
 have hbw:=s4z b
 have n1:=t1b (t:=u0c) b.1
 have n2:=t1b (t:=u0k) b.2.1
 have n3:=t1b (t:=u0k) b.2.2.1
 have L1:=u7t u9j b.1.length (fun i=>(b,i)) (fun i=>(fun v:u3g=>decide (v.2.2.2≤b.2.2.2.1)) (rdL u0c b.1 i)) (.inl b) (.inr false)
  (by rw[r08];simp only[t3w,u0b,Nat.lt_irrefl,decide_false,cond_false])
  (fun i hi=>by
   rw[r08];simp only[t3w,u0b,hi,decide_true,cond_true,y7t hi,zTn,y7l (show i<4611686018427387904 by omega),s91 (rdL u0c b.1 i).2.2.2 b.2.2.2.1]
   cases decide ((rdL u0c b.1 i).2.2.2≤b.2.2.2.1)<;>rfl)
 rw[t4e (t:=u0c) b.1 (fun v:u3g=>decide (v.2.2.2≤b.2.2.2.1))] at L1
 have il:∀(l:List u0f) (i:Nat),i≤l.length→(u7m (l.take i)).length=i:=fun l i h=>by unfold u7m;simp;omega
 have L2:=u7t u5b b.2.1.length (fun i=>(b,u7m (b.2.1.take i.toNat),i)) (fun i=>(fun t:u0f=>u4x t&&(decide (t.2.1=3)&&decide (t.2.2.2.1≤b.2.2.2.1))) (rdL u0k b.2.1 i)&&(decide (i=0) || (fun x y:u0f=>decide (x.2.2.2.1<y.2.2.2.1)) (rdL u0k b.2.1 (i - 1)) (rdL u0k b.2.1 i))) (.inl (b,u7m b.2.1)) (.inr false)
  (by rw[s7q];simp only[t19,u0b,Nat.lt_irrefl,decide_false,cond_false,zTn,List.take_length])
  (fun i hi=>by
   have hm:rdL u0k b.2.1 i∈b.2.1:=by rw[y8k hi];exact List.getElem_mem hi
   have ht:=r0z hm
   have hk:=t72 (rdL u0k b.2.1 i) (by omega)
   rw[s7q];simp only[t19,u0b,hi,decide_true,cond_true,y7t hi,zTn,y7l (show i<4611686018427387904 by omega),s91 (rdL u0k b.2.1 i).2.2.2.1 b.2.2.2.1,t5v,zOb]
   rw[hk]
   have hc:Nat.ble ((u7m (b.2.1.take i)).length+ [(rdL u0k b.2.1 i).1].length) z7w=true:=u1d (by rw[il _ _ (by omega)];simp;omega)
   simp only[zOb]
   rw[hc,p2b _ hi]
   generalize u4x (rdL u0k b.2.1 i)=b1
   generalize decide ((rdL u0k b.2.1 i).2.1=3)=b2
   generalize decide ((rdL u0k b.2.1 i).2.2.2.1≤b.2.2.2.1)=b3
   by_cases h0:i=0
   ·subst h0;simp only[decide_true,Bool.not_true,cond_false,Bool.true_or,Bool.and_true]
    cases b1<;>cases b2<;>cases b3<;>rfl
   ·simp only[h0,decide_false,Bool.not_false,cond_true,Bool.false_or,t1w (show i<4611686018427387904 by omega) h0,y7t (show i - 1<b.2.1.length by omega),zTn,r84 (rdL u0k b.2.1 (i - 1)).2.2.2.1 (rdL u0k b.2.1 i).2.2.2.1]
    generalize decide ((rdL u0k b.2.1 (i - 1)).2.2.2.1<(rdL u0k b.2.1 i).2.2.2.1)=b4
    cases b1<;>cases b2<;>cases b3<;>cases b4<;>rfl)
 rw[s1d (t:=u0k) b.2.1 (fun t:u0f=>u4x t&&(decide (t.2.1=3)&&decide (t.2.2.2.1≤b.2.2.2.1))) (fun x y:u0f=>decide (x.2.2.2.1<y.2.2.2.1))] at L2
 have L3:=u7t u7z b.2.2.1.length (fun i=>(b,u7m b.2.1++u7m (b.2.2.1.take i.toNat),i)) (fun i=>(fun t:u0f=>u4x t&&(decide (t.2.1=2)&&decide (t.2.2.1≤b.2.2.2.1))) (rdL u0k b.2.2.1 i)&&(decide (i=0) || (fun x y:u0f=>y3c x.2.2.2.2.2.2.2 y.2.2.2.2.2.2.2) (rdL u0k b.2.2.1 (i - 1)) (rdL u0k b.2.2.1 i))) (.inl (b,u7m (b.2.1++b.2.2.1))) (.inr false)
  (by rw[s7r];simp only[t2a,u0b,Nat.lt_irrefl,decide_false,cond_false,zTn,List.take_length];unfold u7m;rw[List.map_append])
  (fun i hi=>by
   have hm:rdL u0k b.2.2.1 i∈b.2.2.1:=by rw[y8k hi];exact List.getElem_mem hi
   have ht:=r0z hm
   have hk:=t72 (rdL u0k b.2.2.1 i) (by omega)
   rw[s7r];simp only[t2a,u0b,hi,decide_true,cond_true,y7t hi,zTn,y7l (show i<4611686018427387904 by omega),s91 (rdL u0k b.2.2.1 i).2.2.1 b.2.2.2.1,t5v,zOb]
   rw[hk]
   have hz:(u7m b.2.1).length=b.2.1.length:=by unfold u7m;simp
   have hc:Nat.ble ((u7m b.2.1++u7m (b.2.2.1.take i)).length+ [(rdL u0k b.2.2.1 i).1].length) z7w=true:=u1d (by rw[List.length_append,il _ _ (by omega),hz];simp;omega)
   simp only[zOb]
   rw[hc,List.append_assoc,p2b _ hi]
   generalize u4x (rdL u0k b.2.2.1 i)=b1
   generalize decide ((rdL u0k b.2.2.1 i).2.1=2)=b2
   generalize decide ((rdL u0k b.2.2.1 i).2.2.1≤b.2.2.2.1)=b3
   by_cases h0:i=0
   ·subst h0;simp only[decide_true,Bool.not_true,cond_false,Bool.true_or,Bool.and_true]
    cases b1<;>cases b2<;>cases b3<;>rfl
   ·simp only[h0,decide_false,Bool.not_false,cond_true,Bool.false_or,t1w (show i<4611686018427387904 by omega) h0,y7t (show i - 1<b.2.2.1.length by omega),zTn]
    generalize y3c (rdL u0k b.2.2.1 (i - 1)).2.2.2.2.2.2.2 (rdL u0k b.2.2.1 i).2.2.2.2.2.2.2=b4
    cases b1<;>cases b2<;>cases b3<;>cases b4<;>rfl)
 rw[s1d (t:=u0k) b.2.2.1 (fun t:u0f=>u4x t&&(decide (t.2.1=2)&&decide (t.2.2.1≤b.2.2.2.1))) (fun x y:u0f=>y3c x.2.2.2.2.2.2.2 y.2.2.2.2.2.2.2)] at L3
 have L2' :u5b (b, [],0)=_:=L2
 have e:u7m b.2.1++u7m (b.2.2.1.take (0:Int).toNat)=u7m b.2.1:=by simp[u7m]
 rw[e] at L3
 have hI:=q8r b (u7m (b.2.1++b.2.2.1)) (by unfold u7m;rw[List.length_map,List.length_append];omega)
 have hV:=q01 b.1 (by omega)
 rw[q7u];unfold r5n
 rw[hV]
 simp only[s2z,o1l,gt3,zOb]
 unfold u5o p2k q8i
 generalize u8k b.1=c1
 generalize inB b.2.2.2.1 0 9999=c3
 generalize inB b.2.2.2.2 1 9999=c4
 generalize decide (b.2.1.length≤12)=c5
 generalize decide (b.2.2.1.length≤3)=c6
 generalize ha1:b.1.all (fun v:u3g=>decide (v.2.2.2≤b.2.2.2.1))=a1 at L1
 generalize ha2:b.2.1.all (fun t:u0f=>u4x t&&(decide (t.2.1=3)&&decide (t.2.2.2.1≤b.2.2.2.1)))=a2 at L2'
 generalize ha3:q3s u0k (fun x y:u0f=>decide (x.2.2.2.1<y.2.2.2.1)) b.2.1=a3 at L2'
 generalize ha4:b.2.2.1.all (fun t:u0f=>u4x t&&(decide (t.2.1=2)&&decide (t.2.2.1≤b.2.2.2.1)))=a4 at L3
 generalize ha5:q3s u0k (fun x y:u0f=>y3c x.2.2.2.2.2.2.2 y.2.2.2.2.2.2.2) b.2.2.1=a5 at L3
 generalize r4b (u7m (b.2.1++b.2.2.1)) b.2.2.2.2=a6 at hI
 have hR:((u9j (b,0)).bind fun r5=>match r5 with
  | .inl o6=>(u5b (o6, [],0)).bind fun r9=>match r9 with
   | .inl o10=>(u7z (o10.1,o10.2,0)).bind fun r13=>match r13 with
    | .inl o14=>(u5c (o14.1,o14.2,0)).bind fun r18=>match r18 with
     | .inl o19=>some true
     | .inr z20=>some z20
    | .inr z21=>some z21
   | .inr z22=>some z22
  | .inr z23=>some z23)=some (a1&&((a2&&a3)&&((a4&&a5)&&a6))):=by
  rw[L1]
  cases a1
  ·rfl
  ·simp only[cond_true,zOb,Bool.true_and]
   rw[L2']
   cases (a2&&a3)
   ·rfl
   ·simp only[cond_true,zOb,Bool.true_and]
    rw[L3]
    cases (a4&&a5)
    ·rfl
    ·simp only[cond_true,zOb,Bool.true_and]
     rw[hI]
     cases a6<;>rfl
 cases c1<;>cases c3<;>cases c4<;>cases c5<;>cases c6<;>simp only[Bool.not_true,Bool.not_false,cond_true,cond_false,zOb,Bool.false_and,Bool.and_false,Bool.true_and,Bool.and_true]
 exact hR
theorem p4p (e:q3j):s4w.wt e=q3r.wt e.1+(Ty.sl u0k).wt e.2:=rfl
theorem q6o (e:q3j) (hw:s4w.wt e≤u0g):t8u e=some (q76 e):=by
 have hb:u0g=1099511627776:=rfl
 have hew:=p4p e
 have hbw:=s4z e.1
 have n1:=t1b (t:=u0k) e.2
 have n2:=t1b (t:=u0k) e.1.2.1
 have n3:=t1b (t:=u0k) e.1.2.2.1
 have L:=u7t t0g e.2.length (fun i=>(e,e.2,(e.2.length:Int),i)) (fun i=>(fun t:u0f=>u4x t&&(decide (t.2.1=1)&&decide (t.2.2.1≤e.1.2.2.2.1))) (rdL u0k e.2 i)&&(decide (i=0) || (fun x y:u0f=>decide (x.1<y.1)) (rdL u0k e.2 (i - 1)) (rdL u0k e.2 i))) (.inl ()) (.inr false)
  (by rw[s35];simp only[u9t,u0b,Nat.lt_irrefl,decide_false,cond_false])
  (fun i hi=>by
   have hm:rdL u0k e.2 i∈e.2:=by rw[y8k hi];exact List.getElem_mem hi
   have ht:=r0z hm
   have hk:=t71 (rdL u0k e.2 i) (by omega)
   rw[s35];simp only[u9t,u0b,hi,decide_true,cond_true,y7t hi,zTn,y7l (show i<4611686018427387904 by omega),s91 (rdL u0k e.2 i).2.2.1 e.1.2.2.2.1,t5v,zOb]
   rw[hk]
   simp only[zOb]
   generalize u4x (rdL u0k e.2 i)=b1
   generalize decide ((rdL u0k e.2 i).2.1=1)=b2
   generalize decide ((rdL u0k e.2 i).2.2.1≤e.1.2.2.2.1)=b3
   by_cases h0:i=0
   ·subst h0;simp only[decide_true,Bool.not_true,cond_false,Bool.true_or,Bool.and_true]
    cases b1<;>cases b2<;>cases b3<;>rfl
   ·simp only[h0,decide_false,Bool.not_false,cond_true,Bool.false_or,t1w (show i<4611686018427387904 by omega) h0,y7t (show i - 1<e.2.length by omega),zTn,r84 (rdL u0k e.2 (i - 1)).1 (rdL u0k e.2 i).1]
    generalize decide ((rdL u0k e.2 (i - 1)).1<(rdL u0k e.2 i).1)=b4
    cases b1<;>cases b2<;>cases b3<;>cases b4<;>rfl)
 rw[s1d (t:=u0k) e.2 (fun t:u0f=>u4x t&&(decide (t.2.1=1)&&decide (t.2.2.1≤e.1.2.2.2.1))) (fun x y:u0f=>decide (x.1<y.1))] at L
 have hC:=q5i [e.1.2.1,e.1.2.2.1,e.2] (by simp only[List.flatten_cons,List.flatten_nil,List.append_nil,List.length_append];omega) (by simp)
 have hf: [e.1.2.1,e.1.2.2.1,e.2].flatten=e.1.2.1++e.1.2.2.1++e.2:=by simp
 rw[hf] at hC
 have hI:=r3n (e.1.2.1++e.1.2.2.1++e.2) e.1.2.2.2.2 (by rw[List.length_append,List.length_append];omega)
 have hB:=u63 e.1 (by omega)
 rw[q1e];unfold s8u
 rw[hB]
 simp only[zOb,gt4]
 rw[hC]
 simp only[zOb]
 rw[hI]
 simp only[zOb]
 rw[L]
 unfold q76 p2g
 cases u5o e.1<;>cases decide (e.2.length≤4)<;>cases r4b (u7m (e.1.2.1++e.1.2.2.1++e.2)) e.1.2.2.2.2<;>try rfl
 all_goals
  cases e.2.all (fun t:u0f=>u4x t&&(decide (t.2.1=1)&&decide (t.2.2.1≤e.1.2.2.2.1)))<;>cases q3s u0k (fun x y:u0f=>decide (x.1<y.1)) e.2<;>rfl
theorem p6a {b:u0h} {o:List u0f} (hb:r4b (u7m (b.2.1++b.2.2.1)) b.2.2.2.2=true) (ho:q3s u0k (fun x y:u0f=>decide (x.1<y.1)) o=true):
 r4b (u7m (b.2.1++b.2.2.1++o)) b.2.2.2.2=o.all (fun t=>decide (t.1<b.2.2.2.2)&&((b.2.1.all fun x=> !decide (x.1=t.1))&&(b.2.2.1.all fun x=> !decide (x.1=t.1)))):=by
 rw[o2n (f:=fun t=>t.1)] at ho
 obtain⟨h1,h2⟩:=s92.mp hb
 rw[Bool.eq_iff_iff,s92,List.all_eq_true]
 simp only[Bool.and_eq_true,decide_eq_true_eq,List.all_eq_true,Bool.not_eq_true',decide_eq_false_iff_not]
 unfold u7m at*
 constructor
 ·rintro⟨k1,k2⟩ t ht
  rw[List.map_append,List.nodup_append] at k2
  refine⟨k1 _ (List.mem_map.mpr ⟨t,by simp[ht],rfl⟩),fun x hx=> ?_,fun x hx=> ?_⟩
  ·exact k2.2.2 _ (List.mem_map.mpr ⟨x,by simp[hx],rfl⟩) _ (List.mem_map.mpr ⟨t,ht,rfl⟩)
  ·exact k2.2.2 _ (List.mem_map.mpr ⟨x,by simp[hx],rfl⟩) _ (List.mem_map.mpr ⟨t,ht,rfl⟩)
 ·intro k
  constructor
  ·intro x hx
   obtain⟨t,ht,rfl⟩:=List.mem_map.mp hx
   rcases List.mem_append.mp ht with q | q
   ·exact h1 _ (List.mem_map.mpr ⟨t,q,rfl⟩)
   ·exact(k t q).1
  ·rw[List.map_append,List.nodup_append]
   refine⟨h2,?_,?_⟩
   ·rw[List.nodup_iff_pairwise_ne,List.pairwise_map]
    exact ho.imp fun {a b} q e=>by omega
   ·intro a ha c hc e
    obtain⟨x,hx,rfl⟩:=List.mem_map.mp ha
    obtain⟨t,ht,rfl⟩:=List.mem_map.mp hc
    rcases List.mem_append.mp hx with q | q
    ·exact(k t ht).2.1 x q e
    ·exact(k t ht).2.2 x q e
theorem q6p (e:q3j) (hw:s4w.wt e≤549755813888):t9f e=some (q76 e):=by
 have hb:u0g=1099511627776:=rfl
 have hew:=p4p e
 have hbw:=s4z e.1
 have n1:=t1b (t:=u0k) e.2
 have n2:=t1b (t:=u0k) e.1.2.1
 have n3:=t1b (t:=u0k) e.1.2.2.1
 have I1:∀(j:Int) (t:u0f),u5n (e,j,t,0)=some (bif (e.1.2.1.all fun x=> !decide (x.1=t.1)) then .inl (e,j,t) else .inr false):=fun j t=>by
  have L:=u7t u5n e.1.2.1.length (fun i=>(e,j,t,i)) (fun i=>(fun x:u0f=> !decide (x.1=t.1)) (rdL u0k e.1.2.1 i)) (.inl (e,j,t)) (.inr false)
   (by rw[s08];simp only[u8u,u0b,Nat.lt_irrefl,decide_false,cond_false])
   (fun i hi=>by
    rw[s08];simp only[u8u,u0b,hi,decide_true,cond_true,y7t hi,zTn,y7l (show i<4611686018427387904 by omega)]
    cases decide ((rdL u0k e.1.2.1 i).1=t.1)<;>rfl)
  rw[t4e (t:=u0k) e.1.2.1 (fun x:u0f=> !decide (x.1=t.1))] at L
  exact L
 have I2:∀(j:Int) (t:u0f),u4d (e,j,t,0)=some (bif (e.1.2.2.1.all fun x=> !decide (x.1=t.1)) then .inl (e,j) else .inr false):=fun j t=>by
  have L:=u7t u4d e.1.2.2.1.length (fun i=>(e,j,t,i)) (fun i=>(fun x:u0f=> !decide (x.1=t.1)) (rdL u0k e.1.2.2.1 i)) (.inl (e,j)) (.inr false)
   (by rw[s09];simp only[u8v,u0b,Nat.lt_irrefl,decide_false,cond_false])
   (fun i hi=>by
    rw[s09];simp only[u8v,u0b,hi,decide_true,cond_true,y7t hi,zTn,y7l (show i<4611686018427387904 by omega)]
    cases decide ((rdL u0k e.1.2.2.1 i).1=t.1)<;>rfl)
  rw[t4e (t:=u0k) e.1.2.2.1 (fun x:u0f=> !decide (x.1=t.1))] at L
  exact L
 have L:=u7t u40 e.2.length (fun i=>(e,i)) (fun i=>(fun t:u0f=>(u4x t&&(decide (t.2.1=1)&&decide (t.2.2.1≤e.1.2.2.2.1)))&&(decide (t.1<e.1.2.2.2.2)&&((e.1.2.1.all fun x=> !decide (x.1=t.1))&&(e.1.2.2.1.all fun x=> !decide (x.1=t.1))))) (rdL u0k e.2 i)&&(decide (i=0) || (fun x y:u0f=>decide (x.1<y.1)) (rdL u0k e.2 (i - 1)) (rdL u0k e.2 i))) (.inl ()) (.inr false)
  (by rw[s4f];simp only[u93,u0b,Nat.lt_irrefl,decide_false,cond_false])
  (fun i hi=>by
   have hm:rdL u0k e.2 i∈e.2:=by rw[y8k hi];exact List.getElem_mem hi
   have ht:=r0z hm
   have hk:=t72 (rdL u0k e.2 i) (by omega)
   have k1:=I1 (i:Int) (rdL u0k e.2 i)
   have k2:=I2 (i:Int) (rdL u0k e.2 i)
   rw[s4f];simp only[u93,u0b,hi,decide_true,cond_true,y7t hi,zTn,y7l (show i<4611686018427387904 by omega),s91 (rdL u0k e.2 i).2.2.1 e.1.2.2.2.1,r84 (rdL u0k e.2 i).1 e.1.2.2.2.2,t5v,zOb]
   rw[hk,k1]
   simp only[zOb]
   generalize u4x (rdL u0k e.2 i)=b1
   generalize decide ((rdL u0k e.2 i).2.1=1)=b2
   generalize decide ((rdL u0k e.2 i).2.2.1≤e.1.2.2.2.1)=b3
   generalize decide ((rdL u0k e.2 i).1<e.1.2.2.2.2)=b5
   generalize (e.1.2.1.all fun x=> !decide (x.1=(rdL u0k e.2 i).1))=b6
   generalize (e.1.2.2.1.all fun x=> !decide (x.1=(rdL u0k e.2 i).1))=b7 at k2 ⊢
   have tail:((bif b6 then Sum.inl (e,(i:Int),rdL u0k e.2 i) else Sum.inr false:(q3j×Int×u0f)⊕Bool) |>fun r5=>(match r5 with
    | .inl o6=>(u4d (o6.1,o6.2.1,o6.2.2,0)).bind fun r7=>match r7 with
     | .inl o8=>u40 (o8.1,IntKind.i64.wrap (o8.2+1))
     | .inr z9=>some (.inr z9)
    | .inr z10=>some (.inr z10)))=bif b6&&b7 then u40 (e,((i+1:Nat):Int)) else some (.inr false):=by
    cases b6
    ·rfl
    ·simp only[cond_true]
     rw[k2]
     cases b7
     ·rfl
     ·simp only[cond_true,zOb,y7l (show i<4611686018427387904 by omega)];rfl
   by_cases h0:i=0
   ·subst h0;simp only[decide_true,Bool.not_true,cond_false,Bool.true_or,Bool.and_true]
    cases b1<;>cases b2<;>cases b3<;>cases b5<;>try rfl
    exact tail
   ·simp only[h0,decide_false,Bool.not_false,cond_true,Bool.false_or,t1w (show i<4611686018427387904 by omega) h0,y7t (show i - 1<e.2.length by omega),zTn,r84 (rdL u0k e.2 (i - 1)).1 (rdL u0k e.2 i).1]
    generalize decide ((rdL u0k e.2 (i - 1)).1<(rdL u0k e.2 i).1)=b4
    cases b1<;>cases b2<;>cases b3<;>cases b5<;>cases b4<;>(first | rfl | (rw[Bool.and_false];rfl) | (rw[Bool.and_true];exact tail)))
 rw[s1d (t:=u0k) e.2 (fun t:u0f=>(u4x t&&(decide (t.2.1=1)&&decide (t.2.2.1≤e.1.2.2.2.1)))&&(decide (t.1<e.1.2.2.2.2)&&((e.1.2.1.all fun x=> !decide (x.1=t.1))&&(e.1.2.2.1.all fun x=> !decide (x.1=t.1))))) (fun x y:u0f=>decide (x.1<y.1)),p4h] at L
 have hB:=t44 e.1 (by omega)
 rw[q15];unfold s9k
 rw[hB]
 simp only[zOb,gt4]
 rw[L]
 unfold q76 p2g
 cases h1:u5o e.1
 ·rfl
 ·have hbi:r4b (u7m (e.1.2.1++e.1.2.2.1)) e.1.2.2.2.2=true:=by
   have:=q5t.mp h1
   exact s92.mpr ⟨this.below,this.nodup⟩
  cases ha:q3s u0k (fun x y:u0f=>decide (x.1<y.1)) e.2
  ·cases decide (e.2.length≤4)<;>simp
  ·rw[p6a hbi ha]
   cases decide (e.2.length≤4)
   ·rfl
   ·simp only[Bool.not_true,cond_false,zOb,Bool.true_and,Bool.and_true]
    cases (e.2.all fun t:u0f=>u4x t&&(decide (t.2.1=1)&&decide (t.2.2.1≤e.1.2.2.2.1)))
    ·rfl
    ·simp only[Bool.true_and]
     cases (e.2.all fun t:u0f=>decide (t.1<e.1.2.2.2.2)&&((e.1.2.1.all fun x=> !decide (x.1=t.1))&&(e.1.2.2.1.all fun x=> !decide (x.1=t.1))))<;>rfl
end
section
theorem r68 {E:Type} (a:List E) (n:Nat) (h:n≤a.length) (z:List E):(a.take n++z).take n=a.take n:=by
 rw[List.take_append_of_le_length (by rw[List.length_take];omega),List.take_take,Nat.min_self]
theorem u9l {E:Type} (p:E→Bool) (l:List E):(l.filter p).length≤l.length:=List.length_filter_le _ _
theorem p05 (l:List u0f) (c:Int) (hl:l.length≤8388608):u1w (l,c)=some (l.filter fun x=> !decide (x.2.2.2.1≤c)):=by
 have hq:∀x∈l,u6i (x,c)=some (decide (x.2.2.2.1≤c)):=fun x _=>by rw[q1l];rfl
 have L:=Q.first (T:=u0k) (c:=Int) (W:=u07) (q:=u6i) (p:=fun x:u0f=>decide (x.2.2.2.1≤c)) (fun x=>u7r x) l c (by omega) hq
 rw[u79];unfold u3i
 simp only[u8m,u3v,L,zOb]
 by_cases hk:u1h (fun x:u0f=>decide (x.2.2.2.1≤c)) l<l.length
 ·obtain⟨a,e1,e2,e3⟩:=Q.delete (T:=u0k) (c:=Int) (W:=u00) (q:=u6i) (p:=fun x:u0f=>decide (x.2.2.2.1≤c)) (fun x=>u6t x) l c (by omega) hq hk
  have hn:=u9l (fun x:u0f=> !decide (x.2.2.2.1≤c)) l
  obtain⟨n,hne⟩:∃n,n=(l.filter fun x:u0f=> !decide (x.2.2.2.1≤c)).length:=⟨_,rfl⟩
  rw[←hne] at e1 e3 hn
  have c1:decide (((u1h (fun x:u0f=>decide (x.2.2.2.1≤c)) l:Nat):Int)= -1)=false:=by simp
  have c2:decide ((0:Int)≤(n:Int))=true:=by simp
  have c3:decide ((n:Int)≤(a.length:Int))=true:=by simp;omega
  have c4:decide ((a.length:Int)≤(a.length:Int))=true:=by simp
  have hw:=y7l (i:=u1h (fun x:u0f=>decide (x.2.2.2.1≤c)) l) (by omega)
  simp only[if_pos hk,zOb,c1,cond_false,hw,e1,c2,c3,c4,Bool.and_self,cond_true,zTn,decide_true,Int.le_refl]
  have c5:decide ((n:Int)≤((a.take n++List.replicate (a.length - n) u0k.zero++a.drop (n+(a.length - n))).length:Int))=true:=by simp;omega
  have c6:(a.take n++List.replicate (a.length - n) u0k.zero++a.drop (n+(a.length - n))).take (n - (0:Int).toNat)=l.filter fun x:u0f=> !decide (x.2.2.2.1≤c):=by
   rw[List.append_assoc,Int.toNat_zero,Nat.sub_zero,r68 a n (by omega),e3]
  simp only[c5,Bool.and_self,cond_true,c6]
 ·have hall:(l.filter fun x:u0f=> !decide (x.2.2.2.1≤c))=l:=by
   rw[List.filter_eq_self]
   intro x hx
   obtain⟨i,hi,rfl⟩:=List.getElem_of_mem hx
   rw[t45 (p:=fun x:u0f=>decide (x.2.2.2.1≤c)) hi (by omega)]
   rfl
  simp only[if_neg hk,zOb,decide_true,cond_true,hall]
end
section
def t43 (b:u0h) (o:List u0f):u0h:=(r0y b.1 (s3w b o),b.2.1.filter (fun x=> !decide (x.2.2.2.1≤s3w b o)),b.2.2)
theorem t3f (b:u0h) (o:List u0f) (hb:p0v b) (ho:o.length≤4194304):u31 (b,o)=some (t43 b o):=by
 have h1:=t7x b hb
 have h2:=p08 b o ho
 have h3:=p05 b.2.1 (s3w b o) (by have:=hb.2.1.1;omega)
 have h4:=q9c b.1 (s3w b o) (by have:=hb.1;omega)
 rw[q7a];unfold r41 t43
 simp only[h1,h2,h3,h4,zOb]
theorem r35 (b:u0h) (o:List u0f) (hb:p0v b) (ho:o.length≤4194304):t4t (b,o)=some (t43 b o):=by
 have h1:=t7y b hb
 have h2:=p09 b o ho
 have h4:=q9d b.1 (s3w b o) (by have:=hb.1;omega)
 have hl:=hb.2.1.1
 have L:=s2a t4b b.2.1 (fun a i=>(b,(([], [], [],0,0):u0h),(b.1,a,b.2.2),s3w b o,i)) (fun x=> !decide (x.2.2.2.1≤s3w b o)) (fun x=>x) (fun a=> .inl (b,(([], [], [],0,0):u0h),(b.1,a,b.2.2),s3w b o)) (by omega)
  (fun a _=>by rw[r1c];simp only[t30,u0b,Nat.lt_irrefl,decide_false,cond_false])
  (fun i hi a ha=>by
   have hc:=t6j b.2.1[i] (hb.2.1.2 _ (List.getElem_mem hi))
   rw[r1c]
   simp only[t30,u0b,hi,decide_true,cond_true,y7t hi,zTn,y8k (t:=u0k) hi,hc,zOb,List.length_singleton,u1d (show a.length+1≤1099511627776 by omega)]
   rw[y7l (by omega)]
   by_cases h:b.2.1[i].2.2.2.1≤s3w b o
   ·have h' : ¬b.2.1[i].2.2.2.1 >s3w b o:=Int.not_lt.mpr h
    simp[h,h']
   ·have h' :b.2.1[i].2.2.2.1 >s3w b o:=Int.not_le.mp h
    simp[h,h'])
 rw[List.map_id'] at L
 rw[q71];unfold r5u t43
 simp only[h1,h2,zOb,L,h4]
end
section
theorem p25 (l:List u0f) (c:u0f) (hl:l.length≤8388608):u09 (l,c)=some (l.filter fun x=> !decide (x.1=c.1)):=by
 have hq:∀x∈l,u5g (x,c)=some (decide (x.1=c.1)):=fun x _=>by rw[r9u];rfl
 have L:=Q.first (T:=u0k) (c:=u0f) (W:=u03) (q:=u5g) (p:=fun x:u0f=>decide (x.1=c.1)) (fun x=>u6w x) l c (by omega) hq
 rw[u7l];unfold u29
 simp only[u8c,u3l,L,zOb]
 by_cases hk:u1h (fun x:u0f=>decide (x.1=c.1)) l<l.length
 ·obtain⟨a,e1,e2,e3⟩:=Q.delete (T:=u0k) (c:=u0f) (W:=u0v) (q:=u5g) (p:=fun x:u0f=>decide (x.1=c.1)) (fun x=>u6q x) l c (by omega) hq hk
  have hn:=u9l (fun x:u0f=> !decide (x.1=c.1)) l
  obtain⟨n,hne⟩:∃n,n=(l.filter fun x:u0f=> !decide (x.1=c.1)).length:=⟨_,rfl⟩
  rw[←hne] at e1 e3 hn
  have c1:decide (((u1h (fun x:u0f=>decide (x.1=c.1)) l:Nat):Int)= -1)=false:=by simp
  have c2:decide ((0:Int)≤(n:Int))=true:=by simp
  have c3:decide ((n:Int)≤(a.length:Int))=true:=by simp;omega
  have c4:decide ((a.length:Int)≤(a.length:Int))=true:=by simp
  have hw:=y7l (i:=u1h (fun x:u0f=>decide (x.1=c.1)) l) (by omega)
  simp only[if_pos hk,zOb,c1,cond_false,hw,e1,c2,c3,c4,Bool.and_self,cond_true,zTn,decide_true,Int.le_refl]
  have c5:decide ((n:Int)≤((a.take n++List.replicate (a.length - n) u0k.zero++a.drop (n+(a.length - n))).length:Int))=true:=by simp;omega
  have c6:(a.take n++List.replicate (a.length - n) u0k.zero++a.drop (n+(a.length - n))).take (n - (0:Int).toNat)=l.filter fun x:u0f=> !decide (x.1=c.1):=by
   rw[List.append_assoc,Int.toNat_zero,Nat.sub_zero,r68 a n (by omega),e3]
  simp only[c5,Bool.and_self,cond_true,c6]
 ·have hall:(l.filter fun x:u0f=> !decide (x.1=c.1))=l:=by
   rw[List.filter_eq_self]
   intro x hx
   obtain⟨i,hi,rfl⟩:=List.getElem_of_mem hx
   rw[t45 (p:=fun x:u0f=>decide (x.1=c.1)) hi (by omega)]
   rfl
  simp only[if_neg hk,zOb,decide_true,cond_true,hall]
def q8p (d x:u0f):u0f:=(x.1,x.2.1,x.2.2.1,x.2.2.2.1,x.2.2.2.2.1,x.2.2.2.2.2.1,(x.2.2.2.2.2.2.1 || ahead x d),x.2.2.2.2.2.2.2)
end
section
theorem p13 (t:u0f) (b0:u0h) (v:List u3g) (p R:List u0f) (c n:Int) (d:u0f) (hR:p4t R) (hd:q8o d):
 u5a (t,b0,(v,p,R,c,n),d,(),(R.length:Int),0)=some (.inl (t,b0,(v,p,R.map (q8p d),c,n),d)):=by
 have hl:=hR.1
 have L:=q03 u5a R.length (fun(a:List u0f) i=>(t,b0,((v,p,a,c,n):u0h),d,(),(R.length:Int),i)) (fun i=>(R.take i).map (q8p d)++R.drop i) (.inl (t,b0,((v,p,R.map (q8p d),c,n):u0h),d))
  (by
   rw[s7l]
   simp only[t14,u0b,Nat.lt_irrefl,decide_false,cond_false,List.take_length,List.drop_length,List.append_nil])
  (fun i hi=>by
   have hm:((R.take i).map (q8p d)).length=i:=by simp;omega
   have hd1:R.drop i=R[i] ::R.drop (i+1):=List.drop_eq_getElem_cons hi
   have hal:i<((R.take i).map (q8p d)++R.drop i).length:=by simp;omega
   have hg:((R.take i).map (q8p d)++R.drop i)[i] =R[i] :=by
    rw[List.getElem_append_right (by omega),List.getElem_drop]
    congr 1
    omega
   have hset:∀y:u0f,((R.take i).map (q8p d)++R.drop i).set i y=(R.take i).map (q8p d)++y::R.drop (i+1):=fun y=>by
    rw[List.set_append_right _ _ (by omega),hm,Nat.sub_self,hd1,List.set_cons_zero]
   have hnx:(R.take (i+1)).map (q8p d)++R.drop (i+1)=(R.take i).map (q8p d)++q8p d R[i] ::R.drop (i+1):=by
    rw[List.take_succ_eq_append_getElem hi,List.map_append]
    simp
   have ha:=q5f R[i] d (q92 (hR.2 _ (List.getElem_mem hi)).1) (q92 hd.2)
   rw[s7l]
   simp only[t14,u0b,hi,decide_true,cond_true,y7t hal,zTn,y8k (t:=u0k) hal,hg,ha,zOb,hset]
   rw[y7l (by omega),hnx]
   unfold q8p
   cases h1:R[i].2.2.2.2.2.2.1 with
   | true=>simp
   | false=>simp)
 simpa using L
end
section
def q5v (b:u0h) (t:u0f):u0f:=(t.1,(3:Int),t.2.2.1,IntKind.i64.wrap (b.2.2.2.1+1),t.2.2.2.2.1,t.2.2.2.2.2.1,(t.2.2.2.2.2.2.1 || q8b t b.2.1),(⟨#[]⟩:ByteArray))
def t7w (b:u0h) (t:u0f):u0h:=
 (r4e b.1 t.2.2.2.2.2.1 (IntKind.i64.wrap (b.2.2.2.1+1)),b.2.1++ [q5v b t],(b.2.2.1.filter fun x=> !decide (x.1=t.1)).map (q8p (q5v b t)),IntKind.i64.wrap (b.2.2.2.1+1),y8h b.2.2.2.2 (IntKind.i64.wrap (t.1+1)))
theorem q88 (b:u0h) (t:u0f) (hb:p0v b) (ht:q8o t):t1o (b,t)=some (t7w b t):=by
 have h1:=t7x b hb
 have h2:=q0s t ht
 have h3:=r9g b.1 t.2.2.2.2.2.1 (IntKind.i64.wrap (b.2.2.2.1+1)) (by have:=hb.1;have:=ht.2;omega)
 have h4:=p25 b.2.2.1 t (by have:=hb.2.2.1;omega)
 have h5:=q5m t b.2.1 ht hb.2.1
 have hf:p4t (b.2.2.1.filter fun x=> !decide (x.1=t.1)):=⟨Nat.le_trans (u9l _ _) hb.2.2.1,fun x hx=>hb.2.2.2 x (List.mem_filter.mp hx).1⟩
 have hp:=hb.2.1.1
 have hc:∀d:u0f,Nat.ble (b.2.1.length+([d] :List u0f).length) z7w=true:=fun d=>u1d (by simp;omega)
 rw[q34];unfold r2d t7w q5v
 simp only[h1,h2,h3,h4,h5,zOb]
 cases ho:t.2.2.2.2.2.2.1 with
 | true=>
  have hd:q8o ((t.1,(3:Int),t.2.2.1,IntKind.i64.wrap (b.2.2.2.1+1),t.2.2.2.2.1,t.2.2.2.2.2.1,true,(⟨#[]⟩:ByteArray)):u0f):=ht
  have L:=p13 t ([], [], [],0,0) (r4e b.1 t.2.2.2.2.2.1 (IntKind.i64.wrap (b.2.2.2.1+1))) b.2.1 (b.2.2.1.filter fun x=> !decide (x.1=t.1)) (IntKind.i64.wrap (b.2.2.2.1+1)) b.2.2.2.2 _ hf hd
  simp only[cond_true,L,zOb,hc,Bool.true_or]
 | false=>
  have hd:q8o ((t.1,(3:Int),t.2.2.1,IntKind.i64.wrap (b.2.2.2.1+1),t.2.2.2.2.1,t.2.2.2.2.2.1,q8b t b.2.1,(⟨#[]⟩:ByteArray)):u0f):=ht
  have L:=p13 t ([], [], [],0,0) (r4e b.1 t.2.2.2.2.2.1 (IntKind.i64.wrap (b.2.2.2.1+1))) b.2.1 (b.2.2.1.filter fun x=> !decide (x.1=t.1)) (IntKind.i64.wrap (b.2.2.2.1+1)) b.2.2.2.2 _ hf hd
  simp only[cond_false,cond_true,h5,zOb,L,hc,Bool.false_or]
end
section
def q0o (b:u0h) (t:u0f):u0h:=
 ((t7w b t).1,(t7w b t).2.1,(t7w b t).2.2.1,(t7w b t).2.2.2.1,if t.1≥b.2.2.2.2 then IntKind.i64.wrap (t.1+1) else b.2.2.2.2)
theorem q87 (b:u0h) (t:u0f) (b0:u0h) (v:List u3g) (p:List u0f) (c n:Int) (d:u0f) (hb:p0v b) (hd:q8o d):
 u41 (b,t,b0,(v,p, [],c,n),d,0)=some (.inl (t,b0,(v,p,(b.2.2.1.filter fun x=> !decide (x.1=t.1)).map (q8p d),c,n))):=by
 have hl:=hb.2.2.1
 exact s2a u41 b.2.2.1 (fun a i=>(b,t,b0,((v,p,a,c,n):u0h),d,i)) (fun x=> !decide (x.1=t.1)) (q8p d) (fun a=> .inl (t,b0,((v,p,a,c,n):u0h))) (by omega)
  (fun a _=>by rw[s4k];simp only[u98,u0b,Nat.lt_irrefl,decide_false,cond_false])
  (fun i hi a ha=>by
   have h1:=t6j b.2.2.1[i] (hb.2.2.2 _ (List.getElem_mem hi))
   have h2:=q5g b.2.2.1[i] d (q92 (hb.2.2.2 _ (List.getElem_mem hi)).1) (q92 hd.2)
   rw[s4k]
   simp only[u98,u0b,hi,decide_true,cond_true,y7t hi,zTn,y8k (t:=u0k) hi,h1,h2,zOb,List.length_singleton,u1d (show a.length+1≤1099511627776 by omega)]
   rw[y7l (by omega)]
   cases decide (b.2.2.1[i].1=t.1) with
   | true=>rfl
   | false=>
    simp only[cond_false,Bool.not_false,cond_true]
    unfold q8p
    cases ahead b.2.2.1[i] d with
    | true=>simp
    | false=>simp)
end
section
theorem q89 (b:u0h) (t:u0f) (hb:p0v b) (ht:q8o t):t1s (b,t)=some (q0o b t):=by
 have h1:=t7y b hb
 have h2:=t6j t ht
 have h3:=r9h b.1 t.2.2.2.2.2.1 (IntKind.i64.wrap (b.2.2.2.1+1)) (by have:=hb.1;have:=ht.2;omega)
 have h5:=q5n t b.2.1 ht hb.2.1
 have hp:=hb.2.1.1
 have hc:∀d:u0f,Nat.ble (b.2.1.length+([d] :List u0f).length) z7w=true:=fun d=>u1d (by simp;omega)
 rw[q40];unfold r26 q0o t7w q5v
 simp only[h1,h2,h3,h5,zOb]
 cases ho:t.2.2.2.2.2.2.1 with
 | true=>
  have hd:q8o ((t.1,(3:Int),t.2.2.1,IntKind.i64.wrap (b.2.2.2.1+1),t.2.2.2.2.1,t.2.2.2.2.2.1,true,(⟨#[]⟩:ByteArray)):u0f):=ht
  have L:=fun p=>q87 b t ([], [], [],0,0) (r4e b.1 t.2.2.2.2.2.1 (IntKind.i64.wrap (b.2.2.2.1+1))) p (IntKind.i64.wrap (b.2.2.2.1+1)) b.2.2.2.2 _ hb hd
  simp only[cond_true,L,zOb,hc,Bool.true_or]
  by_cases h:t.1≥b.2.2.2.2<;>simp[h]
 | false=>
  have hd:q8o ((t.1,(3:Int),t.2.2.1,IntKind.i64.wrap (b.2.2.2.1+1),t.2.2.2.2.1,t.2.2.2.2.2.1,q8b t b.2.1,(⟨#[]⟩:ByteArray)):u0f):=ht
  have L:=fun p=>q87 b t ([], [], [],0,0) (r4e b.1 t.2.2.2.2.2.1 (IntKind.i64.wrap (b.2.2.2.1+1))) p (IntKind.i64.wrap (b.2.2.2.1+1)) b.2.2.2.2 _ hb hd
  simp only[cond_false,cond_true,h5,zOb,L,hc,Bool.false_or]
  by_cases h:t.1≥b.2.2.2.2<;>simp[h]
end
section
def o4j (b:u0h):Prop:=b.1.length≤1048576∧(b.2.1.length≤1048576∧ ∀t∈b.2.1,q8o t)∧b.2.2.1.length≤1048576∧ ∀t∈b.2.2.1,q8o t
end
section
def o2p (b:u0h):Bool:=decide ((b.2.1.length:Int)≥12) || (decide ((b.1.length:Int) >100) || decide (b.2.2.2.1≥9999))
end
section
def t6r (n i:Int):Int:=if i<n then n else i+1
def p3a (b:u0h) (t:u0f):u0f:=(t.1,(3:Int),t.2.2.1,b.2.2.2.1+1,t.2.2.2.2.1,t.2.2.2.2.2.1,(t.2.2.2.2.2.2.1 || q8b t b.2.1),(⟨#[]⟩:ByteArray))
def u51 (b:u0h) (t:u0f):u0h:=
 (r4e b.1 t.2.2.2.2.2.1 (b.2.2.2.1+1),b.2.1++ [p3a b t],(b.2.2.1.filter fun x=> !decide (x.1=t.1)).map (q8p (p3a b t)),b.2.2.2.1+1,t6r b.2.2.2.2 t.1)
def p2n (b:u0h) (t:u0f) (n:ByteArray):u0f:=(t.1,(2:Int),t.2.2.1,t.2.2.2.1,t.2.2.2.2.1,t.2.2.2.2.2.1,(t.2.2.2.2.2.2.1 || q8b t b.2.1),n)
def s3u (b:u0h) (t:u0f) (n:ByteArray):u0h:=
 (b.1,b.2.1,(b.2.2.1.filter fun x=>y3c x.2.2.2.2.2.2.2 n)++ [p2n b t n] ++(b.2.2.1.filter fun x=> !y3c x.2.2.2.2.2.2.2 n),b.2.2.2.1,t6r b.2.2.2.2 t.1)
def s43 (b:u0h) (n:ByteArray):u0h:=(b.1,b.2.1,(b.2.2.1.filter fun x=> !z7o x.2.2.2.2.2.2.2 n),b.2.2.2.1,b.2.2.2.2)
def p6i (n:Int):Prop:= -1000000≤n∧n≤1000000
theorem s1c {n:Int} (h:p6i n):IntKind.i64.wrap (n+1)=n+1:=by
 obtain⟨h1,h2⟩:=h
 rw[y4y (by omega) (by omega)]
theorem q27 {b:u0h} {t:u0f} (hc:p6i b.2.2.2.1) (hi:p6i t.1):t7w b t=u51 b t:=by
 have e:q5v b t=p3a b t:=by unfold q5v p3a;rw[s1c hc]
 unfold t7w u51
 rw[e,s1c hc,s1c hi]
 unfold y8h t6r
 congr 4
 by_cases h:t.1<b.2.2.2.2
 ·rw[if_pos h,if_neg (by omega)]
 ·rw[if_neg h,if_pos (by omega)]
theorem p1w {b:u0h} {t:u0f} (hc:p6i b.2.2.2.1) (hi:p6i t.1):q0o b t=u51 b t:=by
 unfold q0o
 rw[q27 hc hi,s1c hi]
 unfold u51 t6r
 congr 4
 by_cases h:t.1<b.2.2.2.2
 ·rw[if_pos h,if_neg (by omega)]
 ·rw[if_neg h,if_pos (by omega)]
def uq (l:List u0f):Prop:=l.Pairwise fun a b=>a.1≠b.1
end
section
def o4i (e:q3j) (id:Int):List u0f:=e.2.filter fun x=> !decide (x.1=id)
def o5a (e:q3j) (t:u0f):q3j:=(t43 (u51 e.1 t) e.2,e.2)
def noE (e:q3j) (n:ByteArray):q3j:=(t43 (s43 e.1 n) e.2,e.2)
end
section
def r6t (n:Nat):List Int:=if h:n<128 then[(n:Int)] else((n % 128+128:Nat):Int)::r6t (n / 128)
termination_by n
decreasing_by omega
theorem r00 {n:Nat} (h:n<128):r6t n= [(n:Int)] :=by rw[r6t,dif_pos h]
theorem r7u {n:Nat} (h: ¬n<128):r6t n=((n % 128+128:Nat):Int)::r6t (n / 128):=by rw[r6t,dif_neg h]
theorem p2u (n:Nat):(r6t n).length≤n+1:=by
 induction n using Nat.strongRecOn with
 | _ n ih=>
  by_cases h:n<128
  ·rw[r00 h];simp
  ·rw[r7u h]
   have:=ih (n / 128) (by omega)
   simp only[List.length_cons];omega
theorem p2w {S:Type} {W:Int×List Int→Option ((Int×List Int)⊕S)}
 (hW:∀x,W x=(bif (decide (x.1 >(127:Int))) then(bif (Nat.ble (x.2.length+([(IntKind.u8.wrap (IntKind.i64.wrap ((Int.tmod x.1 (128:Int))+(128:Int))))] :List Int).length) z7w) then
  (W ((IntKind.i64.wrap (Int.tdiv x.1 (128:Int))),(x.2++([(IntKind.u8.wrap (IntKind.i64.wrap ((Int.tmod x.1 (128:Int))+(128:Int))))] :List Int)))) else none) else(some (.inl x)))):
 ∀(n:Nat) (acc:List Int),acc.length+n≤1000000000000→ ∃m:Nat,∃acc' :List Int,W ((n:Int),acc)=some (.inl ((m:Int),acc'))∧m<128∧acc' ++ [(m:Int)] =acc++r6t n∧acc'.length≤acc.length+n:=by
 intro n
 induction n using Nat.strongRecOn with
 | _ n ih=>
  intro acc hn
  rw[hW]
  by_cases h:n<128
  ·have:decide ((n:Int) >(127:Int))=false:=by simp;omega
   simp only[this,cond_false]
   exact⟨n,acc,rfl,h,by rw[r00 h],by omega⟩
  ·have h1:decide ((n:Int) >(127:Int))=true:=by simp;omega
   have h2:Int.tmod (n:Int) (128:Int)=((n % 128:Nat):Int):=p8p n 128
   have h3:Int.tdiv (n:Int) (128:Int)=((n / 128:Nat):Int):=o2u n 128
   have h4:IntKind.u8.wrap (IntKind.i64.wrap (((n % 128:Nat):Int)+(128:Int)))=((n % 128+128:Nat):Int):=by
    rw[y4y (by omega) (by omega)]
    have:((n % 128:Nat):Int)+128=((n % 128+128:Nat):Int):=by simp
    rw[this,p65 (by omega)]
   simp only[h1,h2,h3,h4,cond_true,List.length_singleton,u1d (show acc.length+1≤1099511627776 by omega)]
   rw[y8b (by omega)]
   obtain⟨m,acc',e1,e2,e3,e4⟩:=ih (n / 128) (by omega) (acc++ [((n % 128+128:Nat):Int)]) (by simp;omega)
   refine⟨m,acc',e1,e2,?_,?_⟩
   ·rw[e3,r7u h,List.append_assoc];rfl
   ·have:(acc++ [((n % 128+128:Nat):Int)]).length=acc.length+1:=by simp
    omega
theorem q94 (n:Nat) (hn:n≤100000000000):u1p (n:Int)=some (y7g (r6t n)):=by
 rw[q72];unfold r5v
 obtain⟨m,acc',e1,e2,e3,e4⟩:=p2w (W:=t4c) (fun x=>q3h x) n [] (by simp;omega)
 have e4:acc'.length≤n:=by simpa using e4
 simp only[e1,zOb,List.length_singleton,u1d (show acc'.length+1≤1099511627776 by omega),cond_true]
 rw[p65 (by omega),e3];rfl
theorem s8p (n:Int):u8i n=some (if 0≤n∧n≤1000000000 then(y7g (r6t n.toNat),true) else(emp,false)):=by
 rw[q38];unfold r2h
 simp only[t6w,s1e,zOb]
 by_cases h:0≤n∧n≤1000000000
 ·obtain⟨m,rfl⟩:∃m:Nat,n=m:=⟨n.toNat,by omega⟩
  obtain⟨k,acc',e1,e2,e3,e4⟩:=p2w (W:=t2u) (fun x=>q0g x) m [] (by simp;omega)
  have e4:acc'.length≤m:=by simpa using e4
  rw[decide_eq_true h,if_pos h]
  simp only[e1,zOb,Bool.not_true,cond_false,List.length_singleton,u1d (show acc'.length+1≤1099511627776 by omega),cond_true]
  rw[p65 (by omega),e3];rfl
 ·rw[decide_eq_false h,if_neg h];rfl
def r4h:Nat→Nat→Nat→List UInt8→Option (Nat×Nat)
 | 0,_,_,_=>none
 | _+1,_,_, [] =>none
 | f+1,i,n,b::l=>
  if b.toNat<128 then(if n+b.toNat % 128*128^i≤1000000000∧(r6t (n+b.toNat % 128*128^i)).length=i+1 then some (n+b.toNat % 128*128^i,i+1) else none)
  else r4h f (i+1) (n+b.toNat % 128*128^i) l
def q28 (at_:Int) (r:Option (Nat×Nat)):Int×Int×Bool:=match r with
 | some (n,k)=>((n:Int),at_+(k:Int),true)
 | none=>(0,0,false)
def u0m (t:ByteArray) (at_:Int):Int×Int×Bool:=if 0≤at_∧at_≤t.size then q28 at_ (r4h 5 0 0 (t.data.toList.drop at_.toNat)) else(0,0,false)
theorem p2v:∀(f i n:Nat) (l:List UInt8) (v k:Nat),r4h f i n l=some (v,k)→v≤1000000000∧k≤i+l.length∧i<k
 | 0,_,_,_,_,_,h=>by cases h
 | _+1,_,_, [],_,_,h=>by cases h
 | f+1,i,n,b::l,v,k,h=>by
  simp only[r4h] at h
  split at h
  ·split at h
   ·rename_i h2
    simp only[Option.some.injEq,Prod.mk.injEq] at h
    obtain⟨rfl,rfl⟩:=h
    exact⟨h2.1,by simp,by omega⟩
   ·cases h
  ·have:=p2v f (i+1) _ l v k h
   simp only[List.length_cons]
   omega
theorem s30 {t:ByteArray} {at_:Int} (h:(u0m t at_).2.2=true):0≤(u0m t at_).1∧(u0m t at_).1≤1000000000∧0≤at_∧at_<(u0m t at_).2.1∧(u0m t at_).2.1≤t.size:=by
 unfold u0m at h ⊢
 split at h
 ·rename_i hc
  rw[if_pos hc]
  cases hv:r4h 5 0 0 (t.data.toList.drop at_.toNat) with
  | none=>rw[hv] at h;cases h
  | some r=>
   obtain⟨v,k⟩:=r
   have:=p2v 5 0 0 _ v k hv
   have hl:(t.data.toList.drop at_.toNat).length=t.size - at_.toNat:=by simp
   simp only[q28]
   omega
 ·cases h
theorem o0j (i:Nat) (h:i<5):(2:Int)^(min (IntKind.i64.wrap (7*(i:Int))).toNat IntKind.i64.bits)=((128^i:Nat):Int):=by
 rcases i with _ | _ | _ | _ | _ | i
 all_goals first | rfl | omega
theorem p7k (i:Nat) (h:i≤5):128^i≤34359738368:=by
 rcases i with _ | _ | _ | _ | _ | _ | i
 all_goals first | decide | omega
theorem r78 (t:ByteArray) (at_:Int) (ht:t.size≤u0g):t5z (t,at_)=some (u0m t at_):=by
 unfold u0g at ht
 rw[q30];unfold r19 u0m
 simp only[t6w,s1e,zOb]
 by_cases h:0≤at_∧at_≤t.size
 ·obtain⟨p,rfl⟩:∃p:Nat,at_=p:=⟨at_.toNat,by omega⟩
  have hp:p≤t.size:=by omega
  rw[decide_eq_true h,if_pos h]
  have L:∀(f i n:Nat),i+f=5→n<128^i→p+i≤t.size→((t2q (t,(p:Int),(n:Int),(i:Int))).bind fun r=>match r with
   | .inl o=>some ((0:Int),(0:Int),false)
   | .inr z=>some z)=some (q28 p (r4h f i n (t.data.toList.drop (p+i)))):=by
   intro f
   induction f with
   | zero=>
    intro i n hi hn hpi
    have:i=5:=by omega
    subst this
    rw[s7j];simp only[t12]
    rfl
   | succ f ih=>
    intro i n hi hn hpi
    have hi5:i<5:=by omega
    have hpw:=p7k i (by omega)
    rw[s7j];simp only[t12]
    have w1:IntKind.i64.wrap ((p:Int)+(i:Int))=((p+i:Nat):Int):=by rw[y4y (by omega) (by omega)];simp
    have e1:decide ((i:Int)<(5:Int))=true:=by simp;omega
    by_cases hlt:p+i<t.size
    ·have hd:t.data.toList.drop (p+i)=(t.data.toList[p+i]'(by simpa using hlt))::t.data.toList.drop (p+i+1):=List.drop_eq_getElem_cons (by simpa using hlt)
     have hb:(t.data.toList[p+i]'(by simpa using hlt)).toNat<256:=UInt8.toNat_lt _
     rw[hd]
     generalize hc:(t.data.toList[p+i]'(by simpa using hlt))=c at hb
     have e2:decide (((p+i:Nat):Int)<(t.size:Int))=true:=by simp;omega
     have e3:decide (0≤IntKind.i64.wrap (7*(i:Int)))=true:=by rw[y4y (by omega) (by omega)];simp;omega
     have t2:Int.tmod ((c.toNat:Nat):Int) (128:Int)=((c.toNat % 128:Nat):Int):=p8p _ 128
     have hm:c.toNat % 128*128^i≤127*34359738368:=Nat.mul_le_mul (by omega) hpw
     have w2:IntKind.i64.wrap (((c.toNat % 128:Nat):Int)*((128^i:Nat):Int))=((c.toNat % 128*128^i:Nat):Int):=by
      rw[←Int.natCast_mul];exact y8b (by omega)
     have w3:IntKind.i64.wrap ((n:Int)+((c.toNat % 128*128^i:Nat):Int))=((n+c.toNat % 128*128^i:Nat):Int):=by
      rw[←Int.natCast_add];exact y8b (by omega)
     simp only[e1,cond_true,zOb,w1,e2,y7t hlt,e3,zTn,p18 hlt,hc,y8b (show c.toNat≤4611686018427387904 by omega),t2,o0j i hi5,w2,w3,r4h]
     by_cases hc1:c.toNat<128
     ·have e4:decide (((c.toNat:Nat):Int)<(128:Int))=true:=by simp;omega
      simp only[e4,cond_true,if_pos hc1,s8p,zOb]
      have wi:IntKind.i64.wrap ((i:Int)+1)=((i+1:Nat):Int):=y7l (by omega)
      by_cases hv:n+c.toNat % 128*128^i≤1000000000
      ·rw[if_pos (show(0:Int)≤((n+c.toNat % 128*128^i:Nat):Int)∧((n+c.toNat % 128*128^i:Nat):Int)≤1000000000 by omega)]
       simp only[Bool.not_true,cond_false,zTn,u6n,wi,zOb]
       by_cases hl:(r6t (n+c.toNat % 128*128^i)).length=i+1
       ·rw[if_pos ⟨hv,hl⟩,hl]
        simp only[decide_true,Bool.not_true,cond_false,zOb,q28]
        rw[y4y (by omega) (by omega)]
        simp[Int.add_assoc]
       ·rw[if_neg (fun hh=>hl hh.2)]
        rw[decide_eq_false (show ¬(((r6t (n+c.toNat % 128*128^i)).length:Nat):Int)=((i+1:Nat):Int) by omega)]
        rfl
      ·rw[if_neg (show ¬((0:Int)≤((n+c.toNat % 128*128^i:Nat):Int)∧((n+c.toNat % 128*128^i:Nat):Int)≤1000000000) by omega),if_neg (fun hh=>hv hh.1)]
       rfl
     ·have e4:decide (((c.toNat:Nat):Int)<(128:Int))=false:=by simp;omega
      simp only[e4,cond_false,if_neg hc1]
      rw[y7l (by omega)]
      have:=ih (i+1) (n+c.toNat % 128*128^i) (by omega) (by
       have:128^(i+1)=128^i*128:=Nat.pow_succ 128 i
       have h2:c.toNat % 128*128^i≤127*128^i:=Nat.mul_le_mul (by omega) (Nat.le_refl _)
       omega) (by omega)
      exact this
    ·have e2:decide (((p+i:Nat):Int)<(t.size:Int))=false:=by simp;omega
     have hd:t.data.toList.drop (p+i)= [] :=List.drop_eq_nil_of_le (by simp;omega)
     rw[hd]
     simp only[e1,cond_true,w1,e2,zOb,cond_false,r4h]
     rfl
  exact L 5 0 0 rfl (by decide) (by omega)
 ·rw[decide_eq_false h,if_neg h];rfl
def q6e:List UInt8→Nat
 | [] =>0
 | b::l=>b.toNat % 128+128*q6e l
theorem p5n (l:List UInt8) (b:UInt8):q6e (l++ [b])=q6e l+b.toNat % 128*128^l.length:=by
 induction l with
 | nil=>simp[q6e]
 | cons x l ih=>
  simp only[List.cons_append,q6e,ih,List.length_cons,Nat.pow_succ]
  rw[Nat.mul_add]
  have:128*(b.toNat % 128*128^l.length)=b.toNat % 128*(128^l.length*128):=by
   rw[Nat.mul_comm 128,Nat.mul_assoc]
  omega
theorem p8w (l:List UInt8) (b:UInt8) (hl:∀x∈l,¬x.toNat<128) (hb:b.toNat<128) (h:(r6t (q6e (l++ [b]))).length=l.length+1):r6t (q6e (l++ [b]))=(l++ [b]).map fun x=>(x.toNat:Int):=by
 induction l with
 | nil=>
  have:q6e ([] ++ [b])=b.toNat:=by simp[q6e];omega
  rw[this,r00 hb];rfl
 | cons x l ih=>
  have hx:x.toNat<256:=UInt8.toNat_lt x
  have hx2:=hl x (by simp)
  simp only[List.cons_append,q6e] at h ⊢
  by_cases hs:x.toNat % 128+128*q6e (l++ [b])<128
  ·rw[r00 hs] at h
   simp at h
  ·rw[r7u hs] at h ⊢
   have e1:(x.toNat % 128+128*q6e (l++ [b])) / 128=q6e (l++ [b]):=by omega
   have e2:(x.toNat % 128+128*q6e (l++ [b])) % 128+128=x.toNat:=by omega
   rw[e1] at h ⊢
   rw[e2]
   simp only[List.length_cons,Nat.add_right_cancel_iff] at h
   rw[ih (fun y hy=>hl y (by simp[hy])) h]
   rfl
theorem p6w (l:List UInt8):y7g (l.map fun x=>(x.toNat:Int))=⟨l.toArray⟩:=by
 unfold y7g
 simp only[List.map_map]
 have:(l.map ((fun n=>UInt8.ofNat n.toNat) ∘fun b=>(b.toNat:Int)))=l:=by
  conv=>rhs;rw[←List.map_id l]
  apply List.map_congr_left
  intro b _
  simp
 rw[this]
theorem r83 (t:ByteArray) (a b:Nat) (h:b≤t.size):t.extract a b=⟨((t.data.toList.drop a).take (b - a)).toArray⟩:=by
 apply ByteArray.ext
 simp only[ByteArray.data_extract]
 apply Array.ext'
 simp[List.extract_eq_take_drop]
theorem o0a {q:Nat} (h:q≤1000000000):decide ((q:Int) >(1000000000:Int))=false:=by simp;omega
theorem p97 {q:Nat} (h: ¬q≤1000000000):decide ((q:Int) >(1000000000:Int))=true:=by simp;omega
theorem r79 (t:ByteArray) (at_:Int) (ht:t.size≤u0g):t6d (t,at_)=some (u0m t at_):=by
 unfold u0g at ht
 rw[q4w];unfold r22 u0m
 simp only[s44,s1e,zOb]
 by_cases h:0≤at_∧at_≤t.size
 ·obtain⟨p,rfl⟩:∃p:Nat,at_=p:=⟨at_.toNat,by omega⟩
  have hp:p≤t.size:=by omega
  rw[decide_eq_true h,if_pos h]
  have L:∀(f i:Nat),i+f=5→p+i≤t.size→(∀x∈(t.data.toList.drop p).take i,¬x.toNat<128)→q6e ((t.data.toList.drop p).take i)<128^i→
   ((t2v (t,(p:Int),((q6e ((t.data.toList.drop p).take i):Nat):Int),((128^i:Nat):Int),((p+i:Nat):Int))).bind fun r=>match r with
   | .inl o=>some ((0:Int),(0:Int),false)
   | .inr z=>some z)=some (q28 p (r4h f i (q6e ((t.data.toList.drop p).take i)) (t.data.toList.drop (p+i)))):=by
   intro f
   induction f with
   | zero=>
    intro i hi hpi hall hn
    have:i=5:=by omega
    subst this
    rw[s7x];simp only[t2g]
    have e1:decide (((p+5:Nat):Int)<IntKind.i64.wrap ((p:Int)+5))=false:=by rw[y4y (by omega) (by omega)];simp
    rw[e1]
    cases decide (((p+5:Nat):Int)<(t.size:Int))<;>rfl
   | succ f ih=>
    intro i hi hpi hall hn
    have hi5:i<5:=by omega
    have hpw:=p7k i (by omega)
    rw[s7x];simp only[t2g]
    have e1:decide (((p+i:Nat):Int)<IntKind.i64.wrap ((p:Int)+5))=true:=by rw[y4y (by omega) (by omega)];simp;omega
    by_cases hlt:p+i<t.size
    ·have hd:t.data.toList.drop (p+i)=(t.data.toList[p+i]'(by simpa using hlt))::t.data.toList.drop (p+i+1):=List.drop_eq_getElem_cons (by simpa using hlt)
     have hb:(t.data.toList[p+i]'(by simpa using hlt)).toNat<256:=UInt8.toNat_lt _
     have htk:(t.data.toList.drop p).take (i+1)=(t.data.toList.drop p).take i++ [t.data.toList[p+i]'(by simpa using hlt)] :=by
      rw[List.take_succ_eq_append_getElem (by simp;omega)]
      simp
     have htl:((t.data.toList.drop p).take i).length=i:=by simp;omega
     have hvs:=p5n ((t.data.toList.drop p).take i) (t.data.toList[p+i]'(by simpa using hlt))
     rw[htl] at hvs
     rw[hd]
     generalize hc:(t.data.toList[p+i]'(by simpa using hlt))=c at hb htk hvs
     generalize hn' :q6e ((t.data.toList.drop p).take i)=n at hn hvs ⊢
     have e2:decide (((p+i:Nat):Int)<(t.size:Int))=true:=by simp;omega
     have t2:Int.tmod ((c.toNat:Nat):Int) (128:Int)=((c.toNat % 128:Nat):Int):=p8p _ 128
     have hm:c.toNat % 128*128^i≤127*34359738368:=Nat.mul_le_mul (by omega) hpw
     have w2:IntKind.i64.wrap (((c.toNat % 128:Nat):Int)*((128^i:Nat):Int))=((c.toNat % 128*128^i:Nat):Int):=by
      rw[←Int.natCast_mul];exact y8b (by omega)
     have w3:IntKind.i64.wrap ((n:Int)+((c.toNat % 128*128^i:Nat):Int))=((n+c.toNat % 128*128^i:Nat):Int):=by
      rw[←Int.natCast_add];exact y8b (by omega)
     have wp:IntKind.i64.wrap (((p+i:Nat):Int)+1)=((p+i+1:Nat):Int):=y7l (by omega)
     have ws:IntKind.i64.wrap (((128^i:Nat):Int)*128)=((128^(i+1):Nat):Int):=by
      rw[Nat.pow_succ,Int.natCast_mul]
      exact y4y (by omega) (by omega)
     simp only[e1,e2,cond_true,zOb,y7t hlt,zTn,p18 hlt,hc,y8b (show c.toNat≤4611686018427387904 by omega),t2,w2,w3,wp,ws,r4h]
     by_cases hc1:c.toNat<128
     ·have e4:decide (((c.toNat:Nat):Int)<(128:Int))=true:=by simp;omega
      simp only[e4,cond_true,if_pos hc1]
      by_cases hv:n+c.toNat % 128*128^i≤1000000000
      ·have e5:decide (((n+c.toNat % 128*128^i:Nat):Int) >(1000000000:Int))=false:=o0a hv
       have e6:(decide (0≤(p:Int))&&decide ((p:Int)≤((p+i+1:Nat):Int))&&decide (((p+i+1:Nat):Int)≤(t.size:Int)))=true:=by simp;omega
       simp only[e5,cond_false,q94 _ (show n+c.toNat % 128*128^i≤100000000000 by omega),zOb,e6,cond_true]
       have hx:t.extract p (p+i+1)=⟨((t.data.toList.drop p).take (i+1)).toArray⟩:=by
        rw[r83 t p (p+i+1) (by omega)]
        have:p+i+1 - p=i+1:=by omega
        rw[this]
       rw[hx]
       have hv' :n+c.toNat % 128*128^i=q6e ((t.data.toList.drop p).take i++ [c]):=hvs.symm
       by_cases hl:(r6t (n+c.toNat % 128*128^i)).length=i+1
       ·rw[if_pos ⟨hv,hl⟩]
        have key:r6t (n+c.toNat % 128*128^i)=((t.data.toList.drop p).take (i+1)).map fun x=>(x.toNat:Int):=by
         rw[hv',htk]
         exact p8w _ c hall hc1 (by rw[←hv',hl,htl])
        rw[key,p6w,y6l]
        simp only[Bool.not_true,cond_false,zOb,q28]
        simp[Int.add_assoc]
       ·rw[if_neg (fun hh=>hl hh.2)]
        have hne:z7o (y7g (r6t (n+c.toNat % 128*128^i))) ⟨((t.data.toList.drop p).take (i+1)).toArray⟩=false:=by
         rw[←Bool.not_eq_true,y7f]
         intro hh
         have:=congrArg ByteArray.size hh
         rw[u6n] at this
         apply hl
         rw[this]
         show((t.data.toList.drop p).take (i+1)).toArray.size=_
         simp;omega
        rw[hne];rfl
      ·have e5:decide (((n+c.toNat % 128*128^i:Nat):Int) >(1000000000:Int))=true:=p97 hv
       rw[if_neg (fun hh=>hv hh.1),e5];rfl
     ·have e4:decide (((c.toNat:Nat):Int)<(128:Int))=false:=by simp;omega
      simp only[e4,cond_false,if_neg hc1]
      have:=ih (i+1) (by omega) (by omega) (by
       rw[htk]
       intro x hx
       rcases List.mem_append.mp hx with hx | hx
       ·exact hall x hx
       ·simp at hx;rw[hx];exact hc1) (by
       rw[htk,hvs]
       have:128^(i+1)=128^i*128:=Nat.pow_succ 128 i
       have h2:c.toNat % 128*128^i≤127*128^i:=Nat.mul_le_mul (by omega) (Nat.le_refl _)
       omega)
      rw[htk,hvs] at this
      exact this
    ·have e2:decide (((p+i:Nat):Int)<(t.size:Int))=false:=by simp;omega
     have hd:t.data.toList.drop (p+i)= [] :=List.drop_eq_nil_of_le (by simp;omega)
     rw[hd]
     simp only[e2,zOb,cond_false,r4h]
     rfl
  exact L 5 0 rfl (by omega) (by simp) (by simp[q6e])
 ·rw[decide_eq_false h,if_neg h];rfl
end
section
def u0q (t:ByteArray) (at_:Int):ByteArray×Int×Bool:=
 if(u0m t at_).2.2=true∧(u0m t at_).1≤20000∧(u0m t at_).1≤(t.size:Int) - (u0m t at_).2.1 then
  (t.extract (u0m t at_).2.1.toNat ((u0m t at_).2.1+(u0m t at_).1).toNat,(u0m t at_).2.1+(u0m t at_).1,true)
 else(emp,0,false)
theorem p0j {t:ByteArray} {at_:Int} (h:(u0q t at_).2.2=true):0≤(u0q t at_).2.1∧(u0q t at_).2.1≤t.size:=by
 unfold u0q at h ⊢
 split at h
 ·rename_i hc
  rw[if_pos hc]
  have:=s30 hc.1
  simp only
  omega
 ·cases h
theorem q59 (t:ByteArray) (at_:Int) (ht:t.size≤u0g):
 (((bif (!(u0m t at_).2.2) then(some true) else(bif (decide ((u0m t at_).1 >(20000:Int))) then(some true) else(some (decide ((u0m t at_).1 >(IntKind.i64.wrap ((t.size:Int) - (u0m t at_).2.1))))))):Option Bool).bind fun j2=>
  (bif j2 then(some ((⟨#[]⟩:ByteArray),((0:Int),false))) else(bif (decide (0≤(u0m t at_).2.1)&&decide ((u0m t at_).2.1≤(IntKind.i64.wrap ((u0m t at_).2.1+(u0m t at_).1)))&&decide ((IntKind.i64.wrap ((u0m t at_).2.1+(u0m t at_).1))≤(t.size:Int))) then
   (some ((t.extract ((u0m t at_).2.1).toNat ((IntKind.i64.wrap ((u0m t at_).2.1+(u0m t at_).1))).toNat),((IntKind.i64.wrap ((u0m t at_).2.1+(u0m t at_).1)),true))) else none)))=some (u0q t at_):=by
 unfold u0g at ht
 unfold u0q
 cases ho:(u0m t at_).2.2 with
 | false=>rfl
 | true=>
  have hk:=s30 ho
  rw[y4y (n:=(t.size:Int) - (u0m t at_).2.1) (by omega) (by omega),y4y (n:=(u0m t at_).2.1+(u0m t at_).1) (by omega) (by omega)]
  by_cases h1:(u0m t at_).1 >20000
  ·rw[if_neg (by omega),decide_eq_true h1];rfl
  ·rw[decide_eq_false h1]
   by_cases h2:(u0m t at_).1 >(t.size:Int) - (u0m t at_).2.1
   ·rw[if_neg (by omega),decide_eq_true h2];rfl
   ·rw[if_pos ⟨rfl,by omega,by omega⟩,decide_eq_false h2]
    simp only[Bool.not_true,cond_false,zOb]
    rw[decide_eq_true (show 0≤(u0m t at_).2.1 by omega),decide_eq_true (show(u0m t at_).2.1≤(u0m t at_).2.1+(u0m t at_).1 by omega),decide_eq_true (show(u0m t at_).2.1+(u0m t at_).1≤(t.size:Int) by omega)]
    rfl
theorem r1v (t:ByteArray) (at_:Int) (ht:t.size≤u0g):t3e (t,at_)=some (u0q t at_):=by
 rw[q0a];unfold s6h
 simp only[r79 t at_ ht,zOb]
 exact q59 t at_ ht
theorem r1u (t:ByteArray) (at_:Int) (ht:t.size≤u0g):t23 (t,at_)=some (u0q t at_):=by
 rw[r9q];unfold s5z
 simp only[r78 t at_ ht,zOb]
 exact q59 t at_ ht
def p4k (t:ByteArray):Int:=((t.data.toList.getD 0 0).toNat:Int)
theorem p55 (t:ByteArray):0≤p4k t∧p4k t<256:=by
 unfold p4k
 have:(t.data.toList.getD 0 0).toNat<256:=UInt8.toNat_lt _
 omega
def q2k (d:u0y) (s:Int):Int:=p4k (u3d d s).1
theorem q52 {d:u0y} {s:Int} (h:(u3d d s).2=false):(u3d d s).1=emp:=by
 unfold u3d at h ⊢
 split at h
 ·cases h
 ·rename_i hc;rw[if_neg hc]
theorem q5x (r:ByteArray×Bool) (h:r.2=false→r.1=emp):
 (((bif (!r.2) then(some true) else(some (z7o r.1 (⟨#[]⟩:ByteArray)))):Option Bool).bind fun j2=>(bif j2 then(some (0:Int)) else(bif (y4q (0:Int) r.1.size) then(some (IntKind.i64.wrap ((r.1.data.toList.getD ((0:Int)).toNat 0).toNat:Int))) else none)))=some (p4k r.1):=by
 obtain⟨t,o⟩:=r
 cases o with
 | false=>
  have:t=emp:=h rfl
  subst this;rfl
 | true=>
  simp only[Bool.not_true,cond_false,zOb]
  by_cases he:t=emp
  ·subst he
   have:z7o emp (⟨#[]⟩:ByteArray)=true:=y6l emp
   simp only[this,cond_true];rfl
  ·have h1:z7o t (⟨#[]⟩:ByteArray)=false:=by
    rw[←Bool.not_eq_true,y7f];exact he
   have h2:t.size≠0:=by
    intro hz
    apply he
    apply ByteArray.ext
    apply Array.eq_empty_of_size_eq_zero
    exact hz
   have h3:y4q (0:Int) t.size=true:=by simp[y4q];omega
   have hb:(t.data.toList.getD 0 0).toNat<256:=UInt8.toNat_lt _
   simp only[h1,cond_false,h3,cond_true,Int.toNat_zero]
   rw[y8b (by omega)];rfl
theorem r3m (d:u0y) (s:Int) (hd:q6y.wt d≤u0g):t26 (d,s)=some (q2k d s):=by
 rw[r9x];unfold s55
 simp only[s8e d s hd,zOb]
 exact q5x _ (fun h=>q52 h)
theorem r86 (d:u0y) (s:Int) (hd:q6y.wt d≤u0g):t6g (d,s)=some (q2k d s):=by
 rw[q46];unfold r3d
 simp only[s8f d s hd,zOb]
 exact q5x _ (fun h=>q52 h)
def s4y (d:u0y):Int:=Int.tmod (q2k d 0) 2
theorem q6k (d:u0y) (hd:q6y.wt d≤u0g):t8r d=some (s4y d):=by
 rw[q1b];unfold s8r
 simp only[r3m d 0 hd,zOb];rfl
theorem q6l (d:u0y) (hd:q6y.wt d≤u0g):t9d d=some (s4y d):=by
 rw[q13];unfold s9i
 simp only[r86 d 0 hd,zOb];rfl
def p0w (a:Int):Bool:=decide (a=0) || decide (a=1)
def u1r (a:Int):Int:=if p0w a then 1+a*48 else 0
theorem p6d {a:Int} :p0w a=true↔a=0∨a=1:=by simp[p0w]
theorem r8x (a:Int):0≤u1r a∧u1r a≤49:=by
 unfold u1r
 split
 ·rename_i h;have:=p6d.mp h;omega
 ·omega
theorem r4c (a:Int):t4m a=some (p0w a):=by
 rw[q7b];unfold r43 p0w
 cases decide (a=0)<;>rfl
theorem r7s (a:Int):u0z (a,0,1)=some (p0w a):=by
 rw[s44,s1e]
 congr 1
 rw[Bool.eq_iff_iff,p6d,decide_eq_true_iff];omega
theorem r1s (a:Int):t22 a=some (u1r a):=by
 rw[r9m];unfold s5w u1r
 simp only[r4c,zOb]
 cases h:p0w a with
 | false=>rfl
 | true=>
  have:=p6d.mp h
  simp only[Bool.not_true,cond_false,if_true]
  rw[y4y (n:=a*48) (by omega) (by omega),y4y (by omega) (by omega)]
theorem r1t (a:Int):t3d a=some (u1r a):=by
 rw[r97];unfold s6e u1r
 simp only[r7s,zOb]
 cases h:p0w a with
 | false=>rfl
 | true=>
  have:=p6d.mp h
  simp only[Bool.not_true,cond_false,if_true]
  rw[y4y (n:=a*48) (by omega) (by omega),y4y (by omega) (by omega)]
def u7i (d:u0y) (a:Int):Int:=if p0w a then q2k d (u1r a) else 0
theorem r67 (d:u0y) (a:Int):0≤u7i d a∧u7i d a<256:=by
 unfold u7i
 split
 ·exact p55 _
 ·omega
theorem r74 (d:u0y) (a:Int) (hd:q6y.wt d≤u0g):s1f (d,a)=some (u7i d a):=by
 rw[q3u];unfold r1x u7i
 simp only[r4c,r1s,r3m d _ hd,zOb]
 cases p0w a<;>rfl
theorem r75 (d:u0y) (a:Int) (hd:q6y.wt d≤u0g):s1s (d,a)=some (u7i d a):=by
 rw[q4q];unfold r2w u7i
 simp only[r7s,r1t,r86 d _ hd,zOb]
 cases p0w a<;>rfl
def s2t (t:ByteArray):Nat→Int→List ByteArray→List ByteArray×Int×Bool
 | 0,at_,acc=>(acc,at_,true)
 | m+1,at_,acc=>if(u0q t at_).2.2&& !z7o (u0q t at_).1 emp then s2t t m (u0q t at_).2.1 (acc++ [(u0q t at_).1]) else([],0,false)
def u3t (d:u0y) (a:Int):List ByteArray×Int×Bool:=
 if p0w a&&(t4x d (u1r a+1) 47).2 then s2t (t4x d (u1r a+1) 47).1 (u7i d a).toNat 0 [] else([],0,false)
theorem q58 (d:u0y) (from_:Int):∀(m i:Nat) (acc:ByteArray),(q22 d from_ m i acc).1.size≤acc.size+m*q6y.wt d
 | 0,i,acc=>by simp[q22]
 | m+1,i,acc=>by
  unfold q22
  split
  ·have h1:=q58 d from_ m (i+1) (acc++(u3d d (from_+(i:Int))).1)
   have h2:=r0t d (from_+(i:Int))
   rw[ByteArray.size_append] at h1
   have:(m+1)*q6y.wt d=m*q6y.wt d+q6y.wt d:=Nat.succ_mul _ _
   omega
  ·show 0≤_;omega
theorem r9c (d:u0y) (from_ n:Int):(t4x d from_ n).1.size≤100*q6y.wt d:=by
 unfold t4x
 split
 ·have h:=q58 d from_ n.toNat 0 emp
  have h2:emp.size=0:=rfl
  have h3:n.toNat*q6y.wt d≤100*q6y.wt d:=Nat.mul_le_mul (by omega) (Nat.le_refl _)
  omega
 ·show 0≤_;omega
theorem r4p (d:u0y) (a:Int) (hd:q6y.wt d≤1073741824):u9n (d,a)=some (u3t d a):=by
 have hb:q6y.wt d≤u0g:=by unfold u0g;omega
 have hf:=r8x a
 have hz:(t4x d (u1r a+1) 47).1.size≤u0g:=by have:=r9c d (u1r a+1) 47;unfold u0g;omega
 have hc:=r67 d a
 rw[q1i];unfold s8y u3t
 simp only[r1s,zOb]
 rw[y4y (n:=u1r a+1) (by omega) (by omega)]
 simp only[q0y d (u1r a+1) 47 hd (by omega) (by omega),r4c,zOb]
 generalize t4x d (u1r a+1) 47=s at hz
 cases hs:s.2 with
 | false=>cases p0w a<;>rfl
 | true=>
  cases ha:p0w a with
  | false=>rfl
  | true=>
   have L:=s4v (fun x=>(t0i x).bind fun r=>match r with
    | .inl o=>some (o.1,o.2,true)
    | .inr z=>some z) (u7i d a).toNat (fun(p:List ByteArray×Int) i=>(a,d,s.1,p.1,p.2,i)) (fun i p=>s2t s.1 ((u7i d a).toNat - i) p.2 p.1) (fun i p=>p.1.length≤i)
    (fun p _=>by
     rw[s37];simp only[u9v,r74 d a hb,zOb]
     rw[decide_eq_false (by omega)]
     simp only[cond_false,zOb,Nat.sub_self,s2t])
    (fun i p hi hp=>by
     have e:(u7i d a).toNat - i=((u7i d a).toNat - (i+1))+1:=by omega
     rw[s37];simp only[u9v,r74 d a hb,zOb]
     rw[decide_eq_true (by omega),e]
     simp only[cond_true,r1u s.1 p.2 hz,zOb,s2t,p7g]
     cases hr:(u0q s.1 p.2).2.2 with
     | false=>left;rfl
     | true=>
      cases hq:z7o (u0q s.1 p.2).1 emp with
      | true=>left;rfl
      | false=>
       right
       refine⟨(p.1++ [(u0q s.1 p.2).1],(u0q s.1 p.2).2.1),by simp;omega,by simp,?_⟩
       simp only[Bool.not_true,cond_false,zOb,List.length_singleton,u1d (show p.1.length+1≤1099511627776 by omega),cond_true]
       rw[y7l (by omega)]) 0 ([],0) (by omega) (by simp)
   simp only[Bool.not_true,cond_false,zOb,Bool.and_self,if_true]
   exact L
theorem r4q (d:u0y) (a:Int) (hd:q6y.wt d≤1073741824):u9p (d,a)=some (u3t d a):=by
 have hb:q6y.wt d≤u0g:=by unfold u0g;omega
 have hf:=r8x a
 have hz:(t4x d (u1r a+1) 47).1.size≤u0g:=by have:=r9c d (u1r a+1) 47;unfold u0g;omega
 have hc:=r67 d a
 rw[q19];unfold s9o u3t
 simp only[r7s,r1t,zOb]
 rw[y4y (n:=u1r a+1) (by omega) (by omega)]
 simp only[q0z d (u1r a+1) 47 hd (by omega) (by omega),zOb]
 generalize t4x d (u1r a+1) 47=s at hz
 cases hs:s.2 with
 | false=>cases p0w a<;>rfl
 | true=>
  cases ha:p0w a with
  | false=>rfl
  | true=>
   have L:=s4v (fun x=>(u82 x).bind fun r=>match r with
    | .inl o=>some (o.1,o.2,true)
    | .inr z=>some z) (u7i d a).toNat (fun(p:List ByteArray×Int) i=>(a,d, [],s.1,p.1,p.2,i)) (fun i p=>s2t s.1 ((u7i d a).toNat - i) p.2 p.1) (fun i p=>p.1.length≤i)
    (fun p _=>by
     rw[s1b];simp only[u8x,r75 d a hb,zOb]
     rw[decide_eq_false (by omega)]
     simp only[cond_false,zOb,Nat.sub_self,s2t])
    (fun i p hi hp=>by
     have e:(u7i d a).toNat - i=((u7i d a).toNat - (i+1))+1:=by omega
     rw[s1b];simp only[u8x,r75 d a hb,zOb]
     rw[decide_eq_true (by omega),e]
     simp only[cond_true,r1v s.1 p.2 hz,zOb,s2t,p7g]
     cases hr:(u0q s.1 p.2).2.2 with
     | false=>left;rfl
     | true=>
      cases hq:z7o (u0q s.1 p.2).1 emp with
      | true=>left;rfl
      | false=>
       right
       refine⟨(p.1++ [(u0q s.1 p.2).1],(u0q s.1 p.2).2.1),by simp;omega,by simp,?_⟩
       simp only[Bool.not_true,cond_false,zOb,List.length_singleton,u1d (show p.1.length+1≤1099511627776 by omega),cond_true]
       rw[y7l (by omega)]) 0 ([],0) (by omega) (by simp)
   simp only[Bool.not_true,cond_false,zOb,Bool.and_self,if_true]
   exact L
def u0e (d:u0y):List ByteArray:=(u3t d (s4y d)).1
theorem q6q (d:u0y) (hd:q6y.wt d≤1073741824):t8v d=some (u0e d):=by
 rw[q1g];unfold s8w
 simp only[q6k d (show q6y.wt d≤u0g by unfold u0g;omega),r4p d _ hd,zOb];rfl
theorem q5s (t:ByteArray):∀(m:Nat) (at_:Int) (acc:List ByteArray),(s2t t m at_ acc).1.length≤acc.length+m
 | 0,at_,acc=>by simp[s2t]
 | m+1,at_,acc=>by
  unfold s2t
  split
  ·have:=q5s t m (u0q t at_).2.1 (acc++ [(u0q t at_).1])
   simp at this;omega
  ·simp
theorem p0g (d:u0y) (a:Int):(u3t d a).1.length<256:=by
 unfold u3t
 split
 ·have h:=q5s (t4x d (u1r a+1) 47).1 (u7i d a).toNat 0 []
  have:=r67 d a
  simp at h;omega
 ·simp
end
section
def s6k (d:u0y):Bool:=decide (1≤d.1.length∧d.1.length≤100)&&decide (d.2.length≤60)&&d.1.all (fun s=>decide (s.size=64))&&d.2.all (fun p=>q8q p.1 0 ((d.1.length:Int) - 1)&&decide (p.2.size=64))
theorem q6z {α:Type} (l:List α) (p:α→Bool):l.any (fun x=> !p x)= !l.all p:=by
 induction l with
 | nil=>rfl
 | cons x l ih=>simp only[List.any_cons,List.all_cons,ih,Bool.not_and]
theorem p07 (d:u0y) (hd:q6y.wt d≤u0g):s5o d=some (s6k d):=by
 have h1:d.1.length≤u0g:=Nat.le_trans s2v hd
 have h2:d.2.length≤u0g:=Nat.le_trans s2u hd
 unfold u0g at h1 h2
 have L1:=q02 t38 d.1 (fun i=>(d,i)) (fun s=> !decide (s.size=64)) (.inr false) (.inl d)
  (by rw[r09];simp only[t3x,u0b,Nat.lt_irrefl,decide_false,cond_false])
  (fun i hi=>by
   rw[r09];simp only[t3x,u0b,hi,decide_true,cond_true,y7t hi,zTn,y8k (t:=Ty.str) hi]
   rw[y7l (by omega)]
   have:decide (((d.1[i]).size:Int)=(64:Int))=decide ((d.1[i]).size=64):=by simp only[decide_eq_decide];omega
   rw[this])
 have L2:=q02 t39 d.2 (fun i=>(d,i)) (fun p=> !(q8q p.1 0 ((d.1.length:Int) - 1)&&decide (p.2.size=64))) (.inr false) (.inl ())
  (by rw[r1a];simp only[t3y,u0b,Nat.lt_irrefl,decide_false,cond_false])
  (fun i hi=>by
   rw[r1a];simp only[t3y,u0b,hi,decide_true,cond_true,y7t hi,zTn,y8k (t:=s4x) hi,s44,zOb]
   rw[y7l (by omega),y4y (n:=(d.1.length:Int) - 1) (by omega) (by omega)]
   have:decide (((d.2[i]).2.size:Int)=(64:Int))=decide ((d.2[i]).2.size=64):=by simp only[decide_eq_decide];omega
   rw[this]
   cases q8q (d.2[i]).1 0 ((d.1.length:Int) - 1)<;>rfl)
 rw[q7w];unfold r5p s6k
 simp only[s44,s1e (a:=(d.1.length:Int)),L1,zOb]
 have e1:decide ((1:Int)≤(d.1.length:Int)∧(d.1.length:Int)≤100)=decide (1≤d.1.length∧d.1.length≤100):=by simp only[decide_eq_decide];omega
 have e2:decide ((d.2.length:Int) >60)= !decide (d.2.length≤60):=by
  rw[←decide_not,decide_eq_decide];omega
 rw[e1,e2,q6z]
 cases decide (1≤d.1.length∧d.1.length≤100) with
 | false=>rfl
 | true=>
  cases decide (d.2.length≤60) with
  | false=>rfl
  | true=>
   cases d.1.all (fun s=>decide (s.size=64)) with
   | false=>rfl
   | true=>
    simp only[Bool.not_true,cond_false,zOb,L2,q6z]
    cases d.2.all _<;>rfl
theorem p06 (d:u0y) (hd:q6y.wt d≤u0g):s47 d=some (s6k d):=by
 have h1:d.1.length≤u0g:=Nat.le_trans s2v hd
 have h2:d.2.length≤u0g:=Nat.le_trans s2u hd
 unfold u0g at h1 h2
 have L1:=q02 t32 d.1 (fun i=>(d,d.1,(d.1.length:Int),i)) (fun s=> !decide (s.size=64)) (.inr false) (.inl d)
  (by rw[r03];simp only[t3r,u0b,Nat.lt_irrefl,decide_false,cond_false])
  (fun i hi=>by
   rw[r03];simp only[t3r,u0b,hi,decide_true,cond_true,y7t hi,zTn,y8k (t:=Ty.str) hi]
   rw[y7l (by omega)]
   have:decide (((d.1[i]).size:Int)=(64:Int))=decide ((d.1[i]).size=64):=by simp only[decide_eq_decide];omega
   rw[this])
 have L2:=q02 t33 d.2 (fun i=>(d,d.2,(d.2.length:Int),i)) (fun p=> !(q8q p.1 0 ((d.1.length:Int) - 1)&&decide (p.2.size=64))) (.inr false) (.inl d)
  (by rw[r04];simp only[t3s,u0b,Nat.lt_irrefl,decide_false,cond_false])
  (fun i hi=>by
   rw[r04];simp only[t3s,u0b,hi,decide_true,cond_true,y7t hi,zTn,y8k (t:=s4x) hi,t6w,zOb]
   rw[y7l (by omega),y4y (n:=(d.1.length:Int) - 1) (by omega) (by omega)]
   have:decide (((d.2[i]).2.size:Int)=(64:Int))=decide ((d.2[i]).2.size=64):=by simp only[decide_eq_decide];omega
   rw[this]
   cases q8q (d.2[i]).1 0 ((d.1.length:Int) - 1)<;>rfl)
 rw[q65];unfold r4w s6k
 simp only[L1,zOb]
 have e1:decide ((1:Int)≤(d.1.length:Int)∧(d.1.length:Int)≤100)=decide (1≤d.1.length∧d.1.length≤100):=by simp only[decide_eq_decide];omega
 have e2:decide ((d.2.length:Int)≤60)=decide (d.2.length≤60):=by rw[decide_eq_decide];omega
 rw[q6z]
 cases d.1.all (fun s=>decide (s.size=64)) with
 | false=>simp
 | true=>
  simp only[Bool.not_true,cond_false,zOb,L2,q6z]
  cases d.2.all (fun p=>q8q p.1 0 ((d.1.length:Int) - 1)&&decide (p.2.size=64)) with
  | false=>simp
  | true=>
   simp only[Bool.not_true,cond_false,zOb,t6w,s1e (a:=(d.1.length:Int)),e1,e2]
   cases decide (1≤d.1.length∧d.1.length≤100)<;>cases decide (d.2.length≤60)<;>rfl
def r6e (d:u0y):Bool:=s6k d&&decide (d.1.length=97)&&decide (d.2.length=0)&&(u3t d 0).2.2&&(u3t d 1).2.2
theorem q5l (d:u0y) (hd:q6y.wt d≤1073741824):s0w d=some (r6e d):=by
 have hb:q6y.wt d≤u0g:=by unfold u0g;omega
 rw[q9x];unfold r8r r6e
 have hs:t5h ()=some 97:=by rw[r7q];rfl
 simp only[p07 d hb,hs,r4q d _ hd,zOb]
 have e1:decide ((d.1.length:Int)=97)=decide (d.1.length=97):=by rw[decide_eq_decide];omega
 have e2:decide ((d.2.length:Int) >0)= !decide (d.2.length=0):=by rw[←decide_not,decide_eq_decide];omega
 rw[e1,e2]
 cases s6k d<;>cases decide (d.1.length=97)<;>cases decide (d.2.length=0)<;>cases (u3t d 0).2.2<;>cases (u3t d 1).2.2<;>rfl
theorem q5k (d:u0y) (hd:q6y.wt d≤1073741824):s0n d=some (r6e d):=by
 have hb:q6y.wt d≤u0g:=by unfold u0g;omega
 rw[q9l];unfold r8g r6e
 simp only[p06 d hb,r4p d _ hd,zOb]
 have e1:decide ((d.1.length:Int)=97)=decide (d.1.length=97):=by rw[decide_eq_decide];omega
 have e2:decide ((d.2.length:Int)=0)=decide (d.2.length=0):=by rw[decide_eq_decide];omega
 rw[e1,e2]
 cases s6k d<;>cases decide (d.1.length=97)<;>cases decide (d.2.length=0)<;>cases (u3t d 0).2.2<;>cases (u3t d 1).2.2<;>rfl
end
section
theorem p24 (d:u0y) (hd:q6y.wt d≤u0g):s10 d=some d:=by
 have h1:d.1.length≤u0g:=Nat.le_trans s2v hd
 have h2:d.2.length≤u0g:=Nat.le_trans s2u hd
 unfold u0g at h1 h2
 rw[q45];unfold r3c
 have a1:Nat.ble (([] :List ByteArray).length+d.1.length) z7w=true:=u1d (by simp;omega)
 have a2:Nat.ble (([] :List q0k.den).length+d.2.length) z7w=true:=u1d (by simp;omega)
 simp only[a1,a2,cond_true,List.nil_append]
theorem p23 (d:u0y) (hd:q6y.wt d≤u0g):t80 d=some d:=by
 have h1:d.1.length≤u0g:=Nat.le_trans s2v hd
 have h2:d.2.length≤u0g:=Nat.le_trans s2u hd
 unfold u0g at h1 h2
 rw[q1p];unfold s84
 simp only[u1d h1,u1d h2,cond_true]
def p66 (d:u0y) (k:Int) (t:ByteArray):Option u0y:=if s6k (d.1,d.2++ [(k,t)]) then some (d.1,d.2++ [(k,t)]) else none
def orD (d:u0y):Option u0y→u0y×Bool
 | some x=>(x,true)
 | none=>(d,false)
def o4l:Nat→u0y→Nat→Nat→ByteArray→Option u0y
 | 0,d,_,_,_=>some d
 | f+1,d,k,at_,t=>if t.size=0 then some d else
  if(u3d d (k:Int)).2=true∧(u3d d (k:Int)).1.size=64 then
   (p66 d (k:Int) ((u3d d (k:Int)).1.extract 0 at_++t.extract 0 (min t.size (64 - at_))++(u3d d (k:Int)).1.extract (at_+min t.size (64 - at_)) 64)).bind fun x=>
    o4l f x (k+1) 0 (t.extract (min t.size (64 - at_)) t.size)
  else none
def r72 (d:u0y) (sector at_:Int) (t:ByteArray):Option u0y:=
 if q8q at_ 0 6400&&q8q sector 0 ((d.1.length:Int) - 1)&&s6k d then o4l (t.size+1) d (sector.toNat+at_.toNat / 64) (at_.toNat % 64) t else none
end
section
def p5a (s:List ByteArray) (p:Int×ByteArray):List ByteArray:=s.set p.1.toNat p.2
def p3d (d:u0y):u0y:=if s6k d then(d.2.foldl p5a d.1, []) else d
def o4e (keep:List Int) (i:Nat):Bool:=decide (i<keep.length)&& !decide (Int.tmod (rdL (Ty.int .i64) keep i) 2=0)
def p2d (keep:List Int):Nat→Int
 | 0=> -1
 | n+1=>if o4e keep n then(n:Int) else p2d keep n
def o0m (tear:Int):Nat:=(if Int.tmod tear 65<0 then Int.tmod tear 65+65 else Int.tmod tear 65).toNat
def p4o (d:u0y) (keep:List Int) (last:Int) (n:Nat) (s:List ByteArray) (i:Nat):List ByteArray:=
 if o4e keep i then
  (if(i:Int)=last then p5a s ((rdL s4x d.2 i).1,(rdL s4x d.2 i).2.extract 0 n++(rdL Ty.str s (rdL s4x d.2 i).1.toNat).extract n (rdL Ty.str s (rdL s4x d.2 i).1.toNat).size)
   else p5a s (rdL s4x d.2 i))
 else s
def p90 (d:u0y) (keep:List Int) (tear:Int):u0y:=
 if s6k d then((List.range d.2.length).foldl (p4o d keep (p2d keep d.2.length) (o0m tear)) d.1, []) else d
section
variable {d:u0y} (hk:s6k d=true) (keep:List Int)
include hk in
include hk in
include hk
end
end
section
def u2m (t:ByteArray):ByteArray:=y7g (r6t t.size)++t
theorem p0n (t:ByteArray):t.size≤(u2m t).size∧(u2m t).size≤2*t.size+1:=by
 unfold u2m
 rw[ByteArray.size_append,u6n]
 have:=p2u t.size
 omega
def p9y (d:u0y) (a:Int) (t:ByteArray):Option u0y:=
 if(u3t d a).2.2=false∨t.size=0∨3008<t.size∨255≤u7i d a∨3008<(u3t d a).2.1+((u2m t).size:Int) then none
 else r72 d (u1r a+1) (u3t d a).2.1 (u2m t)
theorem q83 (t:ByteArray) (ht:t.size≤1048576):t25 t=some (if 20000<t.size then(emp,false) else(u2m t,true)):=by
 rw[r9t];unfold s52
 have e1:decide ((t.size:Int) >(20000:Int))=decide (20000<t.size):=by simp only[decide_eq_decide];omega
 rw[e1]
 by_cases h:20000<t.size
 ·simp only[h,decide_true,cond_true,if_true];rfl
 ·have c:decide ((y7g (r6t t.size)).size+t.size≤140737488355328)=true:=by
   rw[u6n]
   have:=p2u t.size
   simp;omega
  have hv:(0:Int)≤(t.size:Int)∧(t.size:Int)≤1000000000:=by omega
  simp only[h,decide_false,cond_false,s8p,if_pos hv,zOb,zTn,c,cond_true,if_false]
  rfl
def p7f (n:Int):ByteArray:=y7g [IntKind.u8.wrap n]
def p4n (d:u0y) (a n:Int):Option u0y:=r72 d (u1r a) 0 (p7f n)
end
section
def p9z (d:u0y) (a:Int):Int:=IntKind.i64.wrap (u7i d a+1)
def o4h (d:u0y) (a:Int) (t:ByteArray):Option u0y:=(p9y d a t).map fun x=>p3d (orD (p3d x) (p4n (p3d x) a (p9z d a))).1
def append_ (d:u0y) (t:ByteArray):Option u0y:=if r6e d then o4h d (s4y d) t else none
section
variable {d:u0y} {t:ByteArray} (hd:q6y.wt d≤10000000) (ht:t.size≤1048576)
include hd ht
end
end
section
def o01 (a:Int) (d d' :u0y):Prop:= ∀j:Nat,¬(u1r a≤(j:Int)∧(j:Int)<u1r a+48)→u3d d' (j:Int)=u3d d (j:Int)
def p7h (a:Int):List ByteArray→u0y→Option u0y
 | [],x=>some x
 | t::l,x=>(o4h x a t).bind (p7h a l)
end
section
def p1q (d:u0y):Int:=1 - s4y d
def o2o (d:u0y):u0y:=p3d (orD d (p4n d (p1q d) 0)).1
def p96 (d:u0y) (l:List ByteArray):Option u0y:=if r6e d then p7h (p1q d) l (o2o d) else none
def p8v (x:u0y):Option u0y:=r72 x 0 0 (p7f (IntKind.i64.wrap (q2k x 0+1)))
def p8j (d:u0y) (l:List ByteArray):Option u0y:=(p96 d l).map fun x=>p3d (orD x (p8v x)).1
section
variable {d:u0y} {l:List ByteArray} (hd:q6y.wt d≤10000000) (hl:l.length≤1048576) (hs:∀t∈l,t.size≤1048576)
include hd hl hs
def p91 (d:u0y) (l:List ByteArray) (step:Int) (keep:List Int) (tear:Int):u0y:=
 match p96 d l with
 | none=>d
 | some x=>
  if step=0 then p90 (orD d (p4n d (p1q d) 0)).1 keep tear
  else if step=1 then x
  else if step=2 then p90 (orD x (p8v x)).1 keep tear
  else p3d (orD x (p8v x)).1
end
end
section
def o5f (s:ByteArray) (i:Nat):UInt8:=s.data.toList.getD i 0
end
section
theorem p5b (a:ByteArray):a.size=a.data.toList.length:=by simp only[Array.length_toList];rfl
def u8s (l:List Int):List UInt8:=l.map fun n=>UInt8.ofNat n.toNat
theorem q6d:∀(f i acc n N:Nat) (r:List UInt8),0<f→n<128^f→acc+n*128^i=N→N≤1000000000→(r6t N).length=i+(r6t n).length→r4h f i acc (u8s (r6t n)++r)=some (N,i+(r6t n).length)
 | 0,i,acc,n,N,r,hf,_,_,_,_=>by omega
 | f+1,i,acc,n,N,r,_,hn,hN,hb,hl=>by
  by_cases h:n<128
  ·rw[r00 h] at hl ⊢
   have e:(UInt8.ofNat ((n:Int)).toNat).toNat=n:=by
    rw[zTn,UInt8.toNat_ofNat']
    omega
   simp only[u8s,List.map_cons,List.map_nil,List.cons_append,List.nil_append,r4h,e,h,if_true,List.length_singleton] at hl ⊢
   rw[Nat.mod_eq_of_lt h,hN,if_pos ⟨hb,hl⟩]
  ·rw[r7u h] at hl ⊢
   have e:(UInt8.ofNat (((n % 128+128:Nat):Int)).toNat).toNat=n % 128+128:=by
    rw[zTn,UInt8.toNat_ofNat']
    omega
   have hh: ¬n % 128+128<128:=by omega
   simp only[u8s,List.map_cons,List.cons_append,r4h,e,hh,if_false,List.length_cons] at hl ⊢
   have e2:(n % 128+128) % 128=n % 128:=by omega
   rw[e2]
   have:=q6d f (i+1) (acc+n % 128*128^i) (n / 128) N r (by rcases f with _ | f<;>simp at hn ⊢;omega) (by rw[Nat.pow_succ] at hn;omega) (by
    rw[←hN,Nat.pow_succ]
    have:n=n % 128+128*(n / 128):=by omega
    conv=>rhs;rw[this]
    rw[Nat.add_mul]
    have:n / 128*(128^i*128)=128*(n / 128)*128^i:=by rw[Nat.mul_comm (128^i) 128,←Nat.mul_assoc,Nat.mul_comm (n / 128) 128]
    omega) hb (by omega)
   show r4h f (i+1) (acc+n % 128*128^i) (u8s (r6t (n / 128))++r)=_
   rw[this]
   congr 2
   omega
end
section
theorem q24 (l:List Int):(y7g l).data.toList=u8s l:=by
 unfold y7g u8s
 simp
def o5d (d:u0y):Prop:= ∀k:Nat,k<97→(u3d d (k:Int)).2=true∧(u3d d (k:Int)).1.size=64
def o4d (a:Int):Nat:=(u1r a+1).toNat
def o41 (d:u0y) (a:Int):ByteArray:=(t4x d (u1r a+1) 47).1
end
section
theorem p16 {a b:ByteArray} (h:a.data.toList=b.data.toList):a=b:=by
 apply ByteArray.ext
 exact Array.toList_inj.mp h
theorem q06 (a b:ByteArray):(a++b).data.toList=a.data.toList++b.data.toList:=by rw[ByteArray.data_append,Array.toList_append]
theorem u5z (a b c:ByteArray):a++b++c=a++(b++c):=p16 (by simp only[q06,List.append_assoc])
theorem p1h (a:ByteArray):emp++a=a:=p16 (by rw[q06];rfl)
theorem p1f (a:ByteArray):a++emp=a:=p16 (by rw[q06];simp[emp])
theorem r37 (a:ByteArray):a.size=a.data.toList.length:=p5b a
def r01 (n:Int):ByteArray:=y7g (r6t n.toNat)
def p1g (b:Bool):ByteArray:=y7g [if b then 1 else 0]
def s8b {E:Type} (f:E→ByteArray) (l:List E):ByteArray:=l.foldl (fun s x=>s++f x) emp
def p0y (r:q5p):ByteArray:=u2m r.1++u2m r.2
def wrT (w:WrT):ByteArray:=u2m w.1++(u2m w.2.1++p1g w.2.2)
def p0s (v:u3g):ByteArray:=u2m v.1++(u2m v.2.1++(p1g v.2.2.1++r01 v.2.2.2))
def u6s (t:u0f):ByteArray:=
 r01 t.1++(r01 t.2.1++(r01 t.2.2.1++(r01 t.2.2.2.1++(r01 (t.2.2.2.2.1.length:Int)++(s8b p0y t.2.2.2.2.1++(r01 (t.2.2.2.2.2.1.length:Int)++(s8b wrT t.2.2.2.2.2.1++(p1g t.2.2.2.2.2.2.1++u2m t.2.2.2.2.2.2.2))))))))
def s33 (l:List u0f):ByteArray:=r01 (l.length:Int)++s8b u6s l
def t6m (b:u0h):ByteArray:=r01 b.2.2.2.1++(r01 b.2.2.2.2++(r01 (b.1.length:Int)++(s8b p0s b.1++(s33 b.2.1++s33 b.2.2.1))))
theorem r51 {E:Type} (f:E→ByteArray):∀(l:List E) (s:ByteArray),l.foldl (fun s x=>s++f x) s=s++s8b f l
 | [],s=>(p1f s).symm
 | x::l,s=>by
  rw[List.foldl_cons,r51 f l]
  unfold s8b
  rw[List.foldl_cons,r51 f l (emp++f x),p1h,u5z]
  rfl
theorem t8e {E:Type} (f:E→ByteArray) (x:E) (l:List E):s8b f (x::l)=f x++s8b f l:=by
 unfold s8b
 rw[List.foldl_cons,r51,p1h]
 rfl
theorem q62 {E:Type} (f:E→ByteArray):s8b f [] =emp:=rfl
def t1j (T:ByteArray) (a:Nat) (s:ByteArray):Prop:= ∃r,T.data.toList.drop a=s.data.toList++r
theorem p9f {T:ByteArray} {a:Nat} {s u:ByteArray} :t1j T a (s++u)↔t1j T a s∧t1j T (a+s.size) u:=by
 unfold t1j
 rw[q06,r37 s]
 constructor
 ·rintro⟨r,h⟩
  refine⟨⟨u.data.toList++r,by rw[h,List.append_assoc]⟩,r,?_⟩
  rw[←List.drop_drop,h,List.append_assoc,List.drop_left]
 ·rintro⟨⟨r,h⟩,r',h'⟩
  rw[←List.drop_drop,h,List.drop_left] at h'
  exact⟨r',by rw[h,h',List.append_assoc]⟩
theorem r6o {T:ByteArray} {a:Nat} {s:ByteArray} (h:t1j T a s) (hs:s.size≠0):a+s.size≤T.size:=by
 obtain⟨r,h⟩:=h
 have:=congrArg List.length h
 rw[List.length_drop,List.length_append,←r37,←r37] at this
 omega
theorem p3l {a s b:ByteArray} :t1j (a++s++b) a.size s:=⟨b.data.toList,by rw[q06,q06,r37,List.append_assoc,List.drop_left]⟩
theorem t9n (n:Int):(r01 n).size=(r6t n.toNat).length:=u6n _
theorem r6u (n:Nat):0<(r6t n).length:=by
 by_cases h:n<128
 ·rw[r00 h];simp
 ·rw[r7u h];simp
theorem r3x {T:ByteArray} {a:Nat} {n:Int} (h0:0≤n) (hn:n≤1000000000) (h:t1j T a (r01 n)):u0m T (a:Int)=(n,((a+(r01 n).size:Nat):Int),true):=by
 have hle:=r6o h (by rw[t9n];have:=r6u n.toNat;omega)
 obtain⟨r,h⟩:=h
 unfold r01 at h
 rw[q24] at h
 have hv:=q6d 5 0 0 n.toNat n.toNat r (by omega) (by omega) (by simp) (by omega) (by omega)
 unfold u0m
 rw[if_pos (by omega),zTn,h,hv]
 simp only[q28]
 rw[t9n]
 congr 1
 ·omega
 ·congr 1
  omega
theorem q0e {T:ByteArray} {a:Nat} {s:ByteArray} (hs:s.size≤20000) (h:t1j T a (u2m s)):u0q T (a:Int)=(s,((a+(u2m s).size:Nat):Int),true):=by
 have e:u2m s=r01 (s.size:Int)++s:=rfl
 rw[e] at h
 obtain⟨h1,h2⟩:=p9f.mp h
 have hv:=r3x (by omega) (by omega) h1
 have hle1:=r6o h1 (by rw[t9n];have:=r6u (s.size:Int).toNat;omega)
 unfold u0q
 rw[hv]
 have hle:a+(r01 (s.size:Int)).size+s.size≤T.size:=by
  by_cases q:s.size=0
  ·omega
  ·exact r6o h2 q
 rw[if_pos (by simp only[true_and];omega)]
 have hx:T.extract (((a+(r01 (s.size:Int)).size:Nat):Int)).toNat ((((a+(r01 (s.size:Int)).size:Nat):Int)+(s.size:Int))).toNat=s:=by
  rw[zTn,show(((a+(r01 (s.size:Int)).size:Nat):Int)+(s.size:Int)).toNat=a+(r01 (s.size:Int)).size+s.size by omega]
  rw[r83 _ _ _ hle]
  obtain⟨r,hr⟩:=h2
  rw[hr,Nat.add_sub_cancel_left,r37,List.take_left]
 simp only[hx]
 rw[e,ByteArray.size_append]
 congr 2
 omega
abbrev Cur:=Int×Bool
def u1x (s:ByteArray) (c:Cur):Int×Cur:=if c.2=true∨(u0m s c.1).2.2=false then(0,c.1,true) else((u0m s c.1).1,(u0m s c.1).2.1,false)
def u12 (s:ByteArray) (c:Cur):ByteArray×Cur:=if c.2=true∨(u0q s c.1).2.2=false then(emp,c.1,true) else((u0q s c.1).1,(u0q s c.1).2.1,false)
def u48 (s:ByteArray) (i:Nat):Nat:=(s.data.toList.getD i 0).toNat
def r63 (s:ByteArray) (c:Cur):Bool×Cur:=if c.2=true∨ ¬(0≤c.1∧c.1<(s.size:Int))∨1<u48 s c.1.toNat then(false,c.1,true) else(decide (u48 s c.1.toNat=1),c.1+1,false)
def u13 {E:Type} (f:Cur→E×Cur):Nat→Cur→List E→List E×Cur
 | 0,c,a=>(a,c)
 | n+1,c,a=>if c.2=true then(a,c) else u13 f n (f c).2 (a++ [(f c).1])
def q8f (s:ByteArray) (c:Cur):q5p×Cur:=(((u12 s c).1,(u12 s (u12 s c).2).1),(u12 s (u12 s c).2).2)
def rWr (s:ByteArray) (c:Cur):WrT×Cur:=
 (((u12 s c).1,(u12 s (u12 s c).2).1,(r63 s (u12 s (u12 s c).2).2).1),(r63 s (u12 s (u12 s c).2).2).2)
def q8h (s:ByteArray) (c:Cur):u3g×Cur:=
 let w:=rWr s c
 ((w.1.1,w.1.2.1,w.1.2.2,(u1x s w.2).1),(u1x s w.2).2)
def q0n (m:Nat) (s:ByteArray) (c:Cur):u0f×Cur:=
 let a:=u1x s c
 let b:=u1x s a.2
 let d:=u1x s b.2
 let e:=u1x s d.2
 let n:=u1x s e.2
 let rs:=u13 (q8f s) (min n.1.toNat m) n.2 []
 let k:=u1x s rs.2
 let ws:=u13 (rWr s) (min k.1.toNat m) k.2 []
 let o:=r63 s ws.2
 let nm:=u12 s o.2
 ((a.1,b.1,d.1,e.1,rs.1,ws.1,o.1,nm.1),nm.2)
theorem u7o {s:ByteArray} {c:Cur} (h:c.2=true):(u1x s c).2.2=true:=by unfold u1x;rw[if_pos (.inl h)]
theorem s3z {s:ByteArray} {c:Cur} (h:c.2=true):(u12 s c).2.2=true:=by unfold u12;rw[if_pos (.inl h)]
theorem r6g {s:ByteArray} {c:Cur} (h:c.2=true):(r63 s c).2.2=true:=by unfold r63;rw[if_pos (.inl h)]
theorem t1t {E:Type} {f:Cur→E×Cur} {n:Nat} {c:Cur} {a:List E} (h:c.2=true):u13 f n c a=(a,c):=by
 cases n with
 | zero=>rfl
 | succ n=>simp only[u13];rw[if_pos h]
theorem p0e {E:Type} {f:Cur→E×Cur} :∀ {n:Nat} {c:Cur} {a:List E},(u13 f n c a).2.2=false→(u13 f n c a).1.length=a.length+n
 | 0,c,a,_=>rfl
 | n+1,c,a,h=>by
  simp only[u13] at h ⊢
  split at h
  ·rename_i q;rw[q] at h;cases h
  ·rename_i q
   rw[if_neg q,p0e h]
   simp;omega
theorem u45 {s:ByteArray} {a:Nat} {n:Int} (h0:0≤n) (hn:n≤1000000000) (h:t1j s a (r01 n)):u1x s ((a:Int),false)=(n,((a+(r01 n).size:Nat):Int),false):=by
 unfold u1x
 rw[r3x h0 hn h,if_neg (by simp)]
theorem t3p {s:ByteArray} {a:Nat} {x:ByteArray} (hx:x.size≤20000) (h:t1j s a (u2m x)):u12 s ((a:Int),false)=(x,((a+(u2m x).size:Nat):Int),false):=by
 unfold u12
 rw[q0e hx h,if_neg (by simp)]
theorem u2e (b:Bool):(p1g b).size=1:=u6n _
theorem r4f {s:ByteArray} {a:Nat} {b:Bool} (h:t1j s a (p1g b)):r63 s ((a:Int),false)=(b,((a+1:Nat):Int),false):=by
 have hle:=r6o h (by rw[u2e];omega)
 rw[u2e] at hle
 obtain⟨r,hr⟩:=h
 unfold p1g at hr
 rw[q24] at hr
 have hb:u48 s a=if b then 1 else 0:=by
  unfold u48
  have:s.data.toList.getD a 0=(s.data.toList.drop a).getD 0 0:=by
   rw[List.getD_eq_getElem?_getD,List.getD_eq_getElem?_getD,List.getElem?_drop,Nat.add_zero]
  rw[this,hr]
  cases b<;>rfl
 unfold r63
 simp only[zTn,hb]
 rw[if_neg]
 ·cases b<;>simp
 ·rintro(q | q | q)
  ·cases q
  ·omega
  ·cases b<;>simp at q
theorem t6t {E:Type} {f:Cur→E×Cur} {g:E→ByteArray} {s:ByteArray} :∀ {l:List E} {a:Nat} {acc:List E},(∀x∈l,∀a:Nat,t1j s a (g x)→f ((a:Int),false)=(x,((a+(g x).size:Nat):Int),false))→
 t1j s a (s8b g l)→u13 f l.length ((a:Int),false) acc=(acc++l,((a+(s8b g l).size:Nat):Int),false)
 | [],a,acc,_,_=>by rw[q62];simp[u13,emp,ByteArray.size]
 | x::l,a,acc,hf,h=>by
  rw[t8e] at h ⊢
  obtain⟨h1,h2⟩:=p9f.mp h
  have e:=hf x (by simp) a h1
  simp only[List.length_cons,u13]
  rw[if_neg (by simp),e]
  rw[t6t (l:=l) (fun y hy=>hf y (by simp[hy])) h2,ByteArray.size_append]
  simp[Nat.add_assoc]
theorem p1r {s:ByteArray} {a:Nat} {r:q5p} (h1:r.1.size≤20000) (h2:r.2.size≤20000) (h:t1j s a (p0y r)):q8f s ((a:Int),false)=(r,((a+(p0y r).size:Nat):Int),false):=by
 obtain⟨k1,k2⟩:=p9f.mp h
 unfold q8f
 rw[t3p h1 k1]
 simp only
 rw[t3p h2 k2]
 unfold p0y
 rw[ByteArray.size_append,Nat.add_assoc]
theorem q50 {s:ByteArray} {a:Nat} {w:WrT} (h1:w.1.size≤20000) (h2:w.2.1.size≤20000) (h:t1j s a (wrT w)):rWr s ((a:Int),false)=(w,((a+(wrT w).size:Nat):Int),false):=by
 obtain⟨k1,k2⟩:=p9f.mp h
 obtain⟨k2,k3⟩:=p9f.mp k2
 unfold rWr
 rw[t3p h1 k1]
 simp only
 rw[t3p h2 k2]
 simp only
 rw[r4f k3]
 unfold wrT
 rw[ByteArray.size_append,ByteArray.size_append,u2e,Nat.add_assoc,Nat.add_assoc]
theorem p1t {s:ByteArray} {a:Nat} {v:u3g} (h1:v.1.size≤20000) (h2:v.2.1.size≤20000) (h3:0≤v.2.2.2∧v.2.2.2≤1000000000) (h:t1j s a (p0s v)):q8h s ((a:Int),false)=(v,((a+(p0s v).size:Nat):Int),false):=by
 have e:p0s v=wrT (v.1,v.2.1,v.2.2.1)++r01 v.2.2.2:=by unfold p0s wrT;simp only[u5z]
 rw[e] at h ⊢
 obtain⟨k1,k2⟩:=p9f.mp h
 unfold q8h
 rw[q50 (w:=(v.1,v.2.1,v.2.2.1)) h1 h2 k1]
 simp only
 rw[u45 h3.1 h3.2 k2,ByteArray.size_append,Nat.add_assoc]
theorem TxnR.small {t:u0f} (h:TxnR t):(∀r∈t.2.2.2.2.1,r.1.size≤3∧r.2.size≤3)∧(∀w∈t.2.2.2.2.2.1,w.1.size≤3∧w.2.1.size≤12)∧t.2.2.2.2.2.2.2.size≤3∧t.2.2.2.2.2.1.length≤8∧0≤t.2.2.2.1∧t.2.2.2.1≤9999:=by
 obtain⟨w1,w2,w3⟩:=p7m.mp h.ws
 refine⟨fun r hr=> ?_,fun w hw=> ?_,?_,w3,?_⟩
 ·have:=h.rs r hr
  unfold t3g at this
  rw[Bool.and_eq_true,Bool.and_eq_true] at this
  exact⟨(u5e this.1).2,(u5e this.2.1).2⟩
 ·have:=w1 w hw
  unfold u9r at this
  rw[Bool.and_eq_true,Bool.and_eq_true,decide_eq_true_eq] at this
  exact⟨(u5e this.1).2,this.2.1⟩
 ·by_cases e:t.2.1=2
  ·exact(u5e (h.name e)).2
  ·rw[h.noname e];omega
 ·by_cases e:t.2.1=3
  ·have:=h.done e;have:=h.snap;omega
  ·rw[h.nocs e];omega
theorem p1s {s:ByteArray} {a:Nat} {t:u0f} {m:Nat} (hm:8≤m) (ht:TxnR t) (h:t1j s a (u6s t)):q0n m s ((a:Int),false)=(t,((a+(u6s t).size:Nat):Int),false):=by
 obtain⟨z1,z2,z3,z4,z5⟩:=ht.small
 have hi:=ht.id;have hst:=ht.st;have hsn:=ht.snap;have hrl:=ht.rlen
 unfold u6s at h ⊢
 obtain⟨k1,h⟩:=p9f.mp h
 obtain⟨k2,h⟩:=p9f.mp h
 obtain⟨k3,h⟩:=p9f.mp h
 obtain⟨k4,h⟩:=p9f.mp h
 obtain⟨k5,h⟩:=p9f.mp h
 obtain⟨k6,h⟩:=p9f.mp h
 obtain⟨k7,h⟩:=p9f.mp h
 obtain⟨k8,h⟩:=p9f.mp h
 obtain⟨k9,k10⟩:=p9f.mp h
 unfold q0n
 rw[u45 (by omega) (by omega) k1]
 simp only
 rw[u45 (by omega) (by omega) k2]
 simp only
 rw[u45 (by omega) (by omega) k3]
 simp only
 rw[u45 (by omega) (by omega) k4]
 simp only
 rw[u45 (by omega) (by omega) k5]
 simp only
 rw[show min ((t.2.2.2.2.1.length:Int)).toNat m=t.2.2.2.2.1.length by omega,t6t (g:=p0y) (fun r hr a hs=>p1r (by have:=(z1 r hr).1;omega) (by have:=(z1 r hr).2;omega) hs) k6]
 simp only
 rw[u45 (by omega) (by omega) k7]
 simp only
 rw[show min ((t.2.2.2.2.2.1.length:Int)).toNat m=t.2.2.2.2.2.1.length by omega,t6t (g:=wrT) (fun w hw a hs=>q50 (by have:=(z2 w hw).1;omega) (by have:=(z2 w hw).2;omega) hs) k8]
 simp only
 rw[r4f k9]
 simp only
 rw[u2e] at k10
 rw[t3p (by omega) k10]
 simp only[List.nil_append,ByteArray.size_append,u2e]
 simp only[Nat.add_assoc]
end
section
def u4u (m:Nat) (s:ByteArray) (c:Cur):u0f×Cur:=((q0n m s c).1,(q0n m s c).2.1,(q0n m s c).2.2 || !u4x (q0n m s c).1)
def u8f (m k:Nat) (s:ByteArray) (c:Cur):List u0f×Cur:=u13 (u4u m s) (min (u1x s c).1.toNat k) (u1x s c).2 []
structure Lim where
 t:Nat
 v:Nat
 p:Nat
 r:Nat
def s3y (m:Lim) (s:ByteArray) (c:Cur):u0h×Cur:=
 let a:=u1x s c
 let b:=u1x s a.2
 let n:=u1x s b.2
 let vs:=u13 (q8h s) (min n.1.toNat m.v) n.2 []
 let ps:=u8f m.t m.p s vs.2
 let rs:=u8f m.t m.r s ps.2
 ((vs.1,ps.1,rs.1,a.1,b.1),rs.2)
theorem p43 {m:Nat} {s:ByteArray} {c:Cur} (h:c.2=true):(u4u m s c).2.2=true:=by
 have:(q0n m s c).2.2=true:=by
  unfold q0n
  have h1:=u7o (s:=s) h
  have h2:=u7o (s:=s) h1
  have h3:=u7o (s:=s) h2
  have h4:=u7o (s:=s) h3
  have h5:=u7o (s:=s) h4
  simp only
  rw[t1t h5]
  have h6:=u7o (s:=s) h5
  simp only
  rw[t1t h6]
  exact s3z (r6g h6)
 unfold u4u
 simp only[this,Bool.true_or]
theorem r1i {E:Type} {f:Cur→E×Cur} {n k:Nat} {c:Cur} (hk:k≤n):(u13 f n c []).2.2=true∨k≤(u13 f n c []).1.length:=by
 cases h:(u13 f n c []).2.2 with
 | true=>exact .inl rfl
 | false=>rw[p0e h];exact .inr (by simp;exact hk)
theorem q2t {m m' :Nat} (hm:9≤m) (hm' :9≤m') {s:ByteArray} {c:Cur} (h:(u4u m s c).2.2=false):u4u m' s c=u4u m s c:=by
 have hb:(q0n m s c).2.2=false∧u4x (q0n m s c).1=true:=by
  unfold u4u at h
  simp only[Bool.or_eq_false_iff,Bool.not_eq_false'] at h
  exact h
 have hR:=r6q.mp hb.2
 have hw:=(p7m.mp hR.ws).2.2
 suffices e:q0n m' s c=q0n m s c by unfold u4u;rw[e]
 have b1:=hb.1
 have hr:=hR.rlen
 unfold q0n at b1 hr hw ⊢
 simp only at b1 hr hw ⊢
 generalize hn:u1x s (u1x s (u1x s (u1x s (u1x s c).2).2).2).2=n at b1 hr hw ⊢
 have k1:n.1.toNat≤8∨(u13 (q8f s) (min n.1.toNat m) n.2 []).2.2=true:=by
  rcases Nat.lt_or_ge 8 n.1.toNat with q | q
  ·rcases r1i (f:=q8f s) (n:=min n.1.toNat m) (k:=9) (c:=n.2) (by omega) with z | z
   ·exact .inr z
   ·omega
  ·exact .inl q
 have k1:n.1.toNat≤8:=k1.resolve_right fun k1=>by
  have h1:=u7o (s:=s) k1
  rw[t1t h1] at b1
  rw[s3z (r6g h1)] at b1
  cases b1
 have e1:min n.1.toNat m=min n.1.toNat m' :=by omega
 rw[e1] at b1 hw ⊢
 generalize hk:u1x s (u13 (q8f s) (min n.1.toNat m') n.2 []).2=k at b1 hw ⊢
 have k2:k.1.toNat≤8∨(u13 (rWr s) (min k.1.toNat m) k.2 []).2.2=true:=by
  rcases Nat.lt_or_ge 8 k.1.toNat with q | q
  ·rcases r1i (f:=rWr s) (n:=min k.1.toNat m) (k:=9) (c:=k.2) (by omega) with z | z
   ·exact .inr z
   ·omega
  ·exact .inl q
 have k2:k.1.toNat≤8:=k2.resolve_right fun k2=>by
  rw[s3z (r6g k2)] at b1
  cases b1
 have e2:min k.1.toNat m=min k.1.toNat m' :=by omega
 rw[e2]
theorem q2u {E:Type} {f g:Cur→E×Cur} (hf:∀c,(f c).2.2=false→g c=f c) (hfb:∀c,c.2=true→(f c).2.2=true):∀ {n:Nat} {c:Cur} {a:List E},(u13 f n c a).2.2=false→u13 g n c a=u13 f n c a
 | 0,c,a,_=>rfl
 | n+1,c,a,h=>by
  simp only[u13] at h ⊢
  split at h
  ·rename_i q;rw[q] at h;cases h
  ·rename_i q
   rw[if_neg q,if_neg q]
   have:(f c).2.2=false:=by
    cases z:(f c).2.2 with
    | false=>rfl
    | true=>rw[t1t z] at h;rw[z] at h;cases h
   rw[hf c this]
   exact q2u hf hfb h
def t1a (m:Lim) (s:ByteArray) (c:Cur):u0h×Cur:=((s3y m s c).1,(s3y m s c).2.1,(s3y m s c).2.2 || !u5o (s3y m s c).1)
def Lim.ok (m:Lim):Prop:=9≤m.t∧121≤m.v∧13≤m.p∧4≤m.r
theorem r0r {m k:Nat} {s:ByteArray} {c:Cur} (h:c.2=true):(u8f m k s c).2.2=true:=by
 unfold u8f;rw[t1t (u7o h)];exact u7o h
theorem p0f {m m' k k' N:Nat} (hm:9≤m) (hm' :9≤m') (hk:N<k) (hk' :N<k') {s:ByteArray} {c:Cur} (h:(u8f m k s c).2.2=false) (hl:(u8f m k s c).1.length≤N):u8f m' k' s c=u8f m k s c:=by
 unfold u8f at h hl ⊢
 have q:(u1x s c).1.toNat≤N:=by
  rcases Nat.lt_or_ge N (u1x s c).1.toNat with q | q
  ·rcases r1i (f:=u4u m s) (n:=min (u1x s c).1.toNat k) (k:=N+1) (c:=(u1x s c).2) (by omega) with z | z
   ·rw[z] at h;cases h
   ·omega
  ·exact q
 have e:min (u1x s c).1.toNat k=min (u1x s c).1.toNat k' :=by omega
 rw[e] at h ⊢
 exact q2u (fun c hc=>q2t hm hm' hc) (fun c hc=>p43 hc) h
theorem q5z {m m' :Lim} (hm:m.ok) (hm' :m'.ok) {s:ByteArray} {c:Cur} (h:(t1a m s c).2.2=false):t1a m' s c=t1a m s c:=by
 obtain⟨a1,a2,a3,a4⟩:=hm
 obtain⟨b1,b2,b3,b4⟩:=hm'
 have hb:(s3y m s c).2.2=false∧u5o (s3y m s c).1=true:=by
  unfold t1a at h
  simp only[Bool.or_eq_false_iff,Bool.not_eq_false'] at h
  exact h
 have hR:=q5t.mp hb.2
 have v1:=(p5v.mp hR.vs).2.2
 have v2:=hR.plen
 have v3:=hR.rlen
 have h0:=hb.1
 suffices e:s3y m' s c=s3y m s c by unfold t1a;rw[e]
 unfold s3y at h0 v1 v2 v3 ⊢
 simp only at h0 v1 v2 v3 ⊢
 generalize hn:u1x s (u1x s (u1x s c).2).2=n at h0 v1 v2 v3 ⊢
 have k1:n.1.toNat≤120:=by
  rcases Nat.lt_or_ge 120 n.1.toNat with q | q
  ·rcases r1i (f:=q8h s) (n:=min n.1.toNat m.v) (k:=121) (c:=n.2) (by omega) with z | z
   ·exfalso
    rw[r0r (r0r z)] at h0
    cases h0
   ·omega
  ·exact q
 have e1:min n.1.toNat m.v=min n.1.toNat m'.v:=by omega
 rw[e1] at h0 v2 v3 ⊢
 generalize hv:u13 (q8h s) (min n.1.toNat m'.v) n.2 [] =vs at h0 v2 v3 ⊢
 have hp:(u8f m.t m.p s vs.2).2.2=false:=by
  cases z:(u8f m.t m.p s vs.2).2.2 with
  | false=>rfl
  | true=>rw[r0r z] at h0;cases h0
 rw[p0f (N:=12) a1 b1 (by omega) (by omega) hp v2]
 rw[p0f (N:=3) a1 b1 (by omega) (by omega) h0 v3]
theorem r0n {s:ByteArray} {a:Nat} {t:u0f} {m:Nat} (hm:8≤m) (ht:TxnR t) (h:t1j s a (u6s t)):u4u m s ((a:Int),false)=(t,((a+(u6s t).size:Nat):Int),false):=by
 unfold u4u
 rw[p1s hm ht h]
 simp only[r6q.mpr ht,Bool.not_true,Bool.or_false]
theorem r9a {s:ByteArray} {a:Nat} {l:List u0f} {m k:Nat} (hm:8≤m) (hk:l.length≤k) (hl:l.length≤1000000000) (ht:∀t∈l,TxnR t) (h:t1j s a (s33 l)):u8f m k s ((a:Int),false)=(l,((a+(s33 l).size:Nat):Int),false):=by
 unfold s33 at h ⊢
 obtain⟨k1,k2⟩:=p9f.mp h
 unfold u8f
 rw[u45 (by omega) (by omega) k1]
 simp only
 rw[show min ((l.length:Int)).toNat k=l.length by omega,t6t (g:=u6s) (fun t h a hs=>r0n hm (ht t h) hs) k2]
 rw[ByteArray.size_append,List.nil_append,Nat.add_assoc]
theorem t9o {v:u3g} (h:r7v v=true):v.1.size≤3∧v.2.1.size≤12∧1≤v.2.2.2∧v.2.2.2≤9999:=by
 unfold r7v at h
 simp only[Bool.and_eq_true,decide_eq_true_eq,q2l] at h
 exact⟨(u5e h.1).2,h.2.1,h.2.2.2⟩
theorem p0d {s:ByteArray} {a:Nat} {b:u0h} {m:Lim} (hm:m.ok) (hb:BaseR b) (h:t1j s a (t6m b)):s3y m s ((a:Int),false)=(b,((a+(t6m b).size:Nat):Int),false):=by
 obtain⟨a1,a2,a3,a4⟩:=hm
 obtain⟨v1,v2,v3⟩:=p5v.mp hb.vs
 have hc:=hb.cs;have hx:=hb.next;have hp:=hb.plen;have hr:=hb.rlen
 unfold t6m at h ⊢
 obtain⟨k1,h⟩:=p9f.mp h
 obtain⟨k2,h⟩:=p9f.mp h
 obtain⟨k3,h⟩:=p9f.mp h
 obtain⟨k4,h⟩:=p9f.mp h
 obtain⟨k5,k6⟩:=p9f.mp h
 unfold s3y
 rw[u45 (by omega) (by omega) k1]
 simp only
 rw[u45 (by omega) (by omega) k2]
 simp only
 rw[u45 (by omega) (by omega) k3]
 simp only
 rw[show min ((b.1.length:Int)).toNat m.v=b.1.length by omega,t6t (g:=p0s) (fun v hv a hs=>by
  have:=t9o (v1 v hv)
  exact p1t (by omega) (by omega) (by omega) hs) k4]
 simp only
 rw[r9a (by omega) (by omega) (by omega) (fun t ht=>(hb.past t ht).1) k5]
 simp only
 rw[r9a (by omega) (by omega) (by omega) (fun t ht=>(hb.ready t ht).1) k6]
 simp only[List.nil_append,ByteArray.size_append,Nat.add_assoc]
theorem p0r {n:Nat} (h:n<16384):(r6t n).length≤2:=by
 by_cases q:n<128
 ·rw[r00 q];simp
 ·rw[r7u q,r00 (by omega)];simp
theorem u1k {n:Int} (h:n<16384):(r01 n).size≤2:=by rw[t9n];exact p0r (by omega)
theorem u0l {s:ByteArray} (h:s.size<16384):(u2m s).size≤s.size+2:=by
 unfold u2m
 rw[ByteArray.size_append,u6n]
 have:=p0r h
 omega
theorem t4f {E:Type} {f:E→ByteArray} {k:Nat} :∀ {l:List E},(∀x∈l,(f x).size≤k)→(s8b f l).size≤l.length*k
 | [],_=>by rw[q62];simp[emp,ByteArray.size]
 | x::l,h=>by
  rw[t8e,ByteArray.size_append,List.length_cons,Nat.succ_mul]
  have h1:=h x (by simp)
  have h2:=t4f (l:=l) (fun y hy=>h y (by simp[hy]))
  omega
theorem t4y {t:u0f} (h:TxnR t):(u6s t).size≤300:=by
 obtain⟨z1,z2,z3,z4,z5⟩:=h.small
 have hi:=h.id;have hst:=h.st;have hsn:=h.snap;have hrl:=h.rlen
 have r1:(s8b p0y t.2.2.2.2.1).size≤t.2.2.2.2.1.length*10:=t4f fun r hr=>by
  have:=z1 r hr
  have q1:=u0l (s:=r.1) (by omega)
  have q2:=u0l (s:=r.2) (by omega)
  unfold p0y;rw[ByteArray.size_append];omega
 have r2:(s8b wrT t.2.2.2.2.2.1).size≤t.2.2.2.2.2.1.length*20:=t4f fun w hw=>by
  have:=z2 w hw
  have q1:=u0l (s:=w.1) (by omega)
  have q2:=u0l (s:=w.2.1) (by omega)
  unfold wrT;rw[ByteArray.size_append,ByteArray.size_append,u2e];omega
 have v1:=u1k (n:=t.1) (by omega)
 have v2:=u1k (n:=t.2.1) (by omega)
 have v3:=u1k (n:=t.2.2.1) (by omega)
 have v4:=u1k (n:=t.2.2.2.1) (by omega)
 have v5:=u1k (n:=(t.2.2.2.2.1.length:Int)) (by omega)
 have v6:=u1k (n:=(t.2.2.2.2.2.1.length:Int)) (by omega)
 have v7:=u0l (s:=t.2.2.2.2.2.2.2) (by omega)
 unfold u6s
 simp only[ByteArray.size_append,u2e]
 omega
theorem t73 {l:List u0f} (hl:l.length<16384) (h:∀t∈l,TxnR t):(s33 l).size≤2+l.length*300:=by
 unfold s33
 rw[ByteArray.size_append]
 have v1:=u1k (n:=(l.length:Int)) (by omega)
 have v2:=t4f (f:=u6s) (k:=300) (l:=l) (fun t ht=>t4y (h t ht))
 omega
theorem r6v {v:u3g} (h:r7v v=true):(p0s v).size≤22:=by
 have:=t9o h
 have q1:=u0l (s:=v.1) (by omega)
 have q2:=u0l (s:=v.2.1) (by omega)
 have q3:=u1k (n:=v.2.2.2) (by omega)
 unfold p0s
 simp only[ByteArray.size_append,u2e]
 omega
theorem r65 {b:u0h} (hb:BaseR b):(t6m b).size≤10+b.1.length*22+b.2.1.length*300+b.2.2.1.length*300:=by
 obtain⟨v1,v2,v3⟩:=p5v.mp hb.vs
 have hc:=hb.cs;have hx:=hb.next;have hp:=hb.plen;have hr:=hb.rlen
 have q1:=u1k (n:=b.2.2.2.1) (by omega)
 have q2:=u1k (n:=b.2.2.2.2) (by omega)
 have q3:=u1k (n:=(b.1.length:Int)) (by omega)
 have q4:=t4f (f:=p0s) (k:=22) (l:=b.1) (fun v hv=>r6v (v1 v hv))
 have q5:=t73 (l:=b.2.1) (by omega) (fun t ht=>(hb.past t ht).1)
 have q6:=t73 (l:=b.2.2.1) (by omega) (fun t ht=>(hb.ready t ht).1)
 unfold t6m
 simp only[ByteArray.size_append]
 omega
end
section
def p8y (a b:Int):Int:=IntKind.u32.wrap ((BitVec.ofInt IntKind.u32.bits a^^^BitVec.ofInt IntKind.u32.bits b).toNat:Int)
def p5d (x:Int):Int:=bif decide (Int.tmod x 2=1) then p8y (IntKind.u32.wrap (Int.tdiv x 2)) 3558460437 else IntKind.u32.wrap (Int.tdiv x 2)
def q25:Nat→Int→Int
 | 0,x=>x
 | n+1,x=>q25 n (p5d x)
def q26 (x:Int) (b:UInt8):Int:=q25 8 (p8y x (IntKind.u32.wrap (b.toNat:Int)))
def p8i (t:ByteArray):Int:=t.data.toList.foldl q26 4294967295
def p8g (x:Int) (k:Nat):Int:=IntKind.u8.wrap (Int.fdiv x (2^k))
def o1k (x:Int):ByteArray:=y7g [p8g x 24,p8g x 16,p8g x 8,IntKind.u8.wrap x]
def r6n (t:ByteArray):ByteArray:=t++o1k (p8i t)
def q21 (t:ByteArray):ByteArray×Bool:=if t.size≤20000 then(r6n t,true) else(emp,false)
def t05 (t:ByteArray):Option ByteArray:=if 4≤t.size∧t.size - 4≤20000∧r6n (t.extract 0 (t.size - 4))=t then some (t.extract 0 (t.size - 4)) else none
theorem p4v (x:Int):(o1k x).size=4:=u6n _
theorem p3k (t:ByteArray):(r6n t).size=t.size+4:=by unfold r6n;rw[ByteArray.size_append,p4v]
theorem r6r {t:ByteArray} (h:t.size≤20000):t05 (r6n t)=some t:=by
 have hs:=p3k t
 have e:(r6n t).extract 0 ((r6n t).size - 4)=t:=by
  rw[hs,Nat.add_sub_cancel]
  exact ByteArray.extract_append_eq_left rfl
 unfold t05
 rw[e,if_pos ⟨by omega,by omega,rfl⟩]
abbrev s79:=Int×u0f×ByteArray×Bool×u0h
def t1x:u0f:=(0,0,0,0, [], [],false,emp)
def u4o:u0h:=([], [], [],0,0)
def noT (t:u0f):Bool:=decide (t.1=0)&&(decide (t.2.1=0)&&(decide (t.2.2.1=0)&&(decide (t.2.2.2.1=0)&&(decide (t.2.2.2.2.1.length=0)&&(decide (t.2.2.2.2.2.1.length=0)&&(!t.2.2.2.2.2.2.1&&decide (t.2.2.2.2.2.2.2.size=0)))))))
def noB (b:u0h):Bool:=decide (b.1.length=0)&&(decide (b.2.1.length=0)&&(decide (b.2.2.1.length=0)&&(decide (b.2.2.2.1=0)&&decide (b.2.2.2.2=0))))
def u46 (r:s79):Bool:=
 if r.1=1 then u4x r.2.1&&(decide (r.2.1.2.1=3)&&(decide (r.2.2.1.size=0)&&(!r.2.2.2.1&&noB r.2.2.2.2)))
 else if r.1=2 then u4x r.2.1&&(decide (r.2.1.2.1=2)&&(decide (r.2.2.1.size=0)&&(!r.2.2.2.1&&noB r.2.2.2.2)))
 else if r.1=3 then noT r.2.1&&(t6q r.2.2.1&&noB r.2.2.2.2)
 else if r.1=4 then noT r.2.1&&(decide (r.2.2.1.size=0)&&(!r.2.2.2.1&&u5o r.2.2.2.2))
 else false
def r6k (r:s79):ByteArray:=y7g [IntKind.u8.wrap r.1] ++(if r.1=3 then u2m r.2.2.1++p1g r.2.2.2.1 else if r.1=4 then t6m r.2.2.2.2 else u6s r.2.1)
def u1z (r:s79):ByteArray×Bool:=if u46 r=true then q21 (r6k r) else(emp,false)
theorem p6v {s:ByteArray} (h:s.size=0):s=emp:=p16 (by
 rw[r37] at h
 rw[List.length_eq_zero_iff.mp h];rfl)
theorem p42 {t:u0f} :noT t=true↔t=t1x:=by
 unfold noT t1x
 simp only[Bool.and_eq_true,decide_eq_true_eq,Bool.not_eq_true']
 constructor
 ·rintro⟨h1,h2,h3,h4,h5,h6,h7,h8⟩
  obtain⟨t1,t2,t3,t4,t5,t6,t7,t8⟩:=t
  simp only at h1 h2 h3 h4 h5 h6 h7 h8
  rw[h1,h2,h3,h4,List.length_eq_zero_iff.mp h5,List.length_eq_zero_iff.mp h6,h7,p6v h8]
 ·rintro rfl
  exact⟨rfl,rfl,rfl,rfl,rfl,rfl,rfl,rfl⟩
theorem p1p {b:u0h} :noB b=true↔b=u4o:=by
 unfold noB u4o
 simp only[Bool.and_eq_true,decide_eq_true_eq]
 constructor
 ·rintro⟨h1,h2,h3,h4,h5⟩
  obtain⟨t1,t2,t3,t4,t5⟩:=b
  simp only at h1 h2 h3 h4 h5
  rw[h4,h5,List.length_eq_zero_iff.mp h1,List.length_eq_zero_iff.mp h2,List.length_eq_zero_iff.mp h3]
 ·rintro rfl
  exact⟨rfl,rfl,rfl,rfl,rfl⟩
inductive RecR:s79→Prop where
 | thr (t:u0f) (h:TxnR t) (hs:t.2.1=3):RecR (1,t,emp,false,u4o)
 | rdy (t:u0f) (h:TxnR t) (hs:t.2.1=2):RecR (2,t,emp,false,u4o)
 | fin (n:ByteArray) (y:Bool) (h:t6q n=true):RecR (3,t1x,n,y,u4o)
 | bas (b:u0h) (h:BaseR b):RecR (4,t1x,emp,false,b)
theorem p7l {r:s79} :u46 r=true↔RecR r:=by
 obtain⟨k,t,n,y,b⟩:=r
 unfold u46
 simp only
 constructor
 ·intro h
  split at h
  ·rename_i e
   simp only[Bool.and_eq_true,decide_eq_true_eq,Bool.not_eq_true',r6q,p1p] at h
   obtain⟨h1,h2,h3,h4,h5⟩:=h
   rw[e,p6v h3,h4,h5];exact .thr t h1 h2
  ·split at h
   ·rename_i _ e
    simp only[Bool.and_eq_true,decide_eq_true_eq,Bool.not_eq_true',r6q,p1p] at h
    obtain⟨h1,h2,h3,h4,h5⟩:=h
    rw[e,p6v h3,h4,h5];exact .rdy t h1 h2
   ·split at h
    ·rename_i _ _ e
     simp only[Bool.and_eq_true,p42,p1p] at h
     obtain⟨h1,h2,h3⟩:=h
     rw[e,h1,h3];exact .fin n y h2
    ·split at h
     ·rename_i _ _ _ e
      simp only[Bool.and_eq_true,decide_eq_true_eq,Bool.not_eq_true',p42,q5t] at h
      obtain⟨h1,h2,h3,h4⟩:=h
      rw[e,h1,p6v h2,h3];exact .bas b h4
     ·cases h
 ·intro h
  cases h with
  | thr t h hs=>simp[r6q.mpr h,hs,p1p.mpr rfl,emp,ByteArray.size]
  | rdy t h hs=>simp[r6q.mpr h,hs,p1p.mpr rfl,emp,ByteArray.size]
  | fin n y h=>simp[h,p1p.mpr rfl,p42.mpr rfl]
  | bas b h=>simp[q5t.mpr h,p42.mpr rfl,emp,ByteArray.size]
theorem s31 {r:s79} (h:RecR r):2≤(r6k r).size∧(r6k r).size≤10000:=by
 have h1:∀n:Int,(y7g [n]).size=1:=fun n=>u6n _
 cases h with
 | thr t h hs=>
  have:=t4y h
  have q:1≤(u6s t).size:=by
   unfold u6s;rw[ByteArray.size_append,t9n];have:=r6u t.1.toNat;omega
  show 2≤(y7g _++u6s t).size∧(y7g _++u6s t).size≤10000
  rw[ByteArray.size_append,h1];omega
 | rdy t h hs=>
  have:=t4y h
  have q:1≤(u6s t).size:=by
   unfold u6s;rw[ByteArray.size_append,t9n];have:=r6u t.1.toNat;omega
  show 2≤(y7g _++u6s t).size∧(y7g _++u6s t).size≤10000
  rw[ByteArray.size_append,h1];omega
 | fin n y h=>
  have:=u5e h
  have q:=u0l (s:=n) (by omega)
  show 2≤(y7g _++(u2m n++p1g y)).size∧(y7g _++(u2m n++p1g y)).size≤10000
  have:=(p0n n).1
  rw[ByteArray.size_append,ByteArray.size_append,h1,u2e];omega
 | bas b h=>
  have:=r65 h
  have a1:=(p5v.mp h.vs).2.2
  have a2:=h.plen
  have a3:=h.rlen
  have q:1≤(t6m b).size:=by
   unfold t6m;rw[ByteArray.size_append,t9n];have:=r6u b.2.2.2.1.toNat;omega
  show 2≤(y7g _++t6m b).size∧(y7g _++t6m b).size≤10000
  rw[ByteArray.size_append,h1];omega
theorem s00 {r:s79} (h:RecR r):u1z r=(r6n (r6k r),true):=by
 unfold u1z q21
 rw[if_pos (p7l.mpr h),if_pos (by have:=(s31 h).2;omega)]
def o2q:Lim:=⟨9,121,13,4⟩
theorem p1o:o2q.ok:=⟨by decide,by decide,by decide,by decide⟩
def u89 (s:ByteArray):s79×Bool:=
 if u48 s 0=3 then((3,t1x,(u12 s (1,false)).1,(r63 s (u12 s (1,false)).2).1,u4o),(r63 s (u12 s (1,false)).2).2.2)
 else if u48 s 0=4 then((4,t1x,emp,false,(t1a o2q s (1,false)).1),(t1a o2q s (1,false)).2.2)
 else(((u48 s 0:Int),(u4u 9 s (1,false)).1,emp,false,u4o),(u4u 9 s (1,false)).2.2)
def u3y (t:ByteArray):Option s79:=
 match t05 t with
 | none=>none
 | some s=>if s.size=0 then none else if(u89 s).2=true∨u1z (u89 s).1≠(t,true) then none else some (u89 s).1
theorem q61 {k:Nat} (h:k<256) (s:ByteArray):u48 (y7g [IntKind.u8.wrap (k:Int)] ++s) 0=k:=by
 unfold u48
 rw[q06,q24]
 have:IntKind.u8.wrap (k:Int)=(k:Int):=p65 h
 rw[this]
 show(UInt8.ofNat ((k:Int)).toNat).toNat=k
 rw[zTn]
 simp
 omega
theorem t5i {r:s79} (h:RecR r):u89 (r6k r)=(r,false):=by
 have st:∀(x:Int) (s:ByteArray),t1j (y7g [x] ++s) 1 s:=fun x s=>by
  have:=p3l (a:=y7g [x]) (s:=s) (b:=emp)
  rw[p1f,u6n] at this
  exact this
 cases h with
 | thr t h hs=>
  have e:r6k (1,t,emp,false,u4o)=y7g [IntKind.u8.wrap ((1:Nat):Int)] ++u6s t:=rfl
  rw[e]
  unfold u89
  rw[q61 (by omega),if_neg (by omega),if_neg (by omega)]
  have q:=r0n (m:=9) (by omega) h (st (IntKind.u8.wrap ((1:Nat):Int)) (u6s t))
  have q:u4u 9 (y7g [IntKind.u8.wrap ((1:Nat):Int)] ++u6s t) (1,false)=_:=q
  rw[q];rfl
 | rdy t h hs=>
  have e:r6k (2,t,emp,false,u4o)=y7g [IntKind.u8.wrap ((2:Nat):Int)] ++u6s t:=rfl
  rw[e]
  unfold u89
  rw[q61 (by omega),if_neg (by omega),if_neg (by omega)]
  have q:=r0n (m:=9) (by omega) h (st (IntKind.u8.wrap ((2:Nat):Int)) (u6s t))
  have q:u4u 9 (y7g [IntKind.u8.wrap ((2:Nat):Int)] ++u6s t) (1,false)=_:=q
  rw[q];rfl
 | fin n y h=>
  have e:r6k (3,t1x,n,y,u4o)=y7g [IntKind.u8.wrap ((3:Nat):Int)] ++(u2m n++p1g y):=rfl
  rw[e]
  unfold u89
  rw[q61 (by omega),if_pos rfl]
  obtain⟨k1,k2⟩:=p9f.mp (st (IntKind.u8.wrap ((3:Nat):Int)) (u2m n++p1g y))
  have q1:=t3p (by have:=u5e h;omega) k1
  have q1:u12 (y7g [IntKind.u8.wrap ((3:Nat):Int)] ++(u2m n++p1g y)) (1,false)=_:=q1
  rw[q1]
  simp only
  rw[r4f k2]
 | bas b h=>
  have e:r6k (4,t1x,emp,false,b)=y7g [IntKind.u8.wrap ((4:Nat):Int)] ++t6m b:=rfl
  rw[e]
  unfold u89
  rw[q61 (by omega),if_neg (by omega),if_pos rfl]
  have q:=p0d p1o h (st (IntKind.u8.wrap ((4:Nat):Int)) (t6m b))
  have q:s3y o2q (y7g [IntKind.u8.wrap ((4:Nat):Int)] ++t6m b) (1,false)=_:=q
  unfold t1a
  rw[q]
  simp only[q5t.mpr h,Bool.not_true,Bool.or_false]
theorem p0h {r:s79} (h:RecR r):u3y (r6n (r6k r))=some r:=by
 have hs:=s31 h
 unfold u3y
 rw[r6r (by omega)]
 simp only
 rw[if_neg (by omega),t5i h]
 simp only
 rw[s00 h,if_neg (by simp)]
theorem r6j {t:ByteArray} {r:s79} (h:u3y t=some r):RecR r∧t=r6n (r6k r):=by
 unfold u3y at h
 split at h
 ·cases h
 ·rename_i s hs
  split at h
  ·cases h
  ·split at h
   ·cases h
   ·rename_i hc
    simp only[not_or,ne_eq,Decidable.not_not] at hc
    have e:=Option.some.inj h
    rw[e] at hc
    have hr:u46 r=true:=by
     cases q:u46 r with
     | true=>rfl
     | false=>
      have:=hc.2
      unfold u1z at this
      rw[if_neg (by simp[q])] at this
      simp at this
    have hR:=p7l.mp hr
    refine⟨hR,?_⟩
    have:=hc.2
    rw[s00 hR] at this
    exact(Prod.mk.inj this).1.symm
def u8d (b:u0h) (r:s79):Option u0h:=
 if r.1=1 then(if r.2.1.2.2.2.1=b.2.2.2.1+1 then some (u51 b r.2.1) else none)
 else if r.1=2 then(if b.2.2.1.length<3∧u1j b r.2.1.2.2.2.2.2.2.2<0 then some (s3u b r.2.1 r.2.1.2.2.2.2.2.2.2) else none)
 else if r.1=3 then(if u1j b r.2.2.1<0 then none else if r.2.2.2.1=true then some (u51 b (rdL u0k b.2.2.1 (u1j b r.2.2.1).toNat)) else some (s43 b r.2.2.1))
 else some r.2.2.2.2
def s3x (b:u0h) (r:s79):Option u0h:=
 if u5o b=true∧u46 r=true then(match u8d b r with
  | none=>none
  | some x=>if u5o (t43 x [])=true then some (t43 x []) else none)
 else none
def p9e:u0h:=([], [], [],0,1)
def r0o:u0h→List ByteArray→Option u0h
 | b, [] =>some b
 | b,t::l=>match u3y t with
  | none=>none
  | some r=>match s3x b r with
   | none=>none
   | some x=>r0o x l
def r4d (l:List ByteArray):Option u0h:=r0o p9e l
end
section
theorem o1m (n:Nat):decide ((n:Int)=0)=decide (n=0):=by simp
theorem p6m (t:u0f):t81 t=some (noT t):=by
 rw[q1r];unfold s86 noT
 simp only[o1m,t0w]
 cases decide (t.1=0)<;>cases decide (t.2.1=0)<;>cases decide (t.2.2.1=0)<;>cases decide (t.2.2.2.1=0)<;>cases decide (t.2.2.2.2.1.length=0)<;>cases decide (t.2.2.2.2.2.1.length=0)<;>cases t.2.2.2.2.2.2.1<;>rfl
theorem p6n (t:u0f):t4u t=some (noT t):=by
 rw[q2h];unfold s9x noT
 simp only[o1m,t0w]
 cases decide (t.1=0)<;>cases decide (t.2.1=0)<;>cases decide (t.2.2.1=0)<;>cases decide (t.2.2.2.1=0)<;>cases decide (t.2.2.2.2.1.length=0)<;>cases decide (t.2.2.2.2.2.1.length=0)<;>cases t.2.2.2.2.2.2.1<;>rfl
theorem p6j (b:u0h):t62 b=some (noB b):=by
 rw[r9w];unfold s54 noB
 simp only[o1m]
 cases decide (b.1.length=0)<;>cases decide (b.2.1.length=0)<;>cases decide (b.2.2.1.length=0)<;>cases decide (b.2.2.2.1=0)<;>rfl
theorem p6k (b:u0h):t66 b=some (noB b):=by
 rw[q0c];unfold s6j noB
 simp only[o1m]
 cases decide (b.1.length=0)<;>cases decide (b.2.1.length=0)<;>cases decide (b.2.2.1.length=0)<;>cases decide (b.2.2.2.1=0)<;>cases decide (b.2.2.2.2=0)<;>rfl
theorem r0u (r:s79):o2l.wt r=0+(u0k.wt r.2.1+(r.2.2.1.size+(0+q3r.wt r.2.2.2.2))):=rfl
theorem r4r (r:s79) (hw:o2l.wt r≤549755813888):t4j r=some (u46 r):=by
 have hb:u0g=1099511627776:=rfl
 have hr:=r0u r
 have k1:=t71 r.2.1 (by omega)
 have k2:=u63 r.2.2.2.2 (by omega)
 have k3:=t7z r.2.2.1 (by omega)
 rw[q1j];unfold s8z
 rw[p6m,p6j]
 simp only[k1,k2,k3,q2o,r85,zOb,t0w]
 unfold u46
 generalize u4x r.2.1=c1
 generalize u5o r.2.2.2.2=c2
 generalize t6q r.2.2.1=c3
 generalize noT r.2.1=c4
 generalize noB r.2.2.2.2=c5
 generalize decide (r.2.2.1.size=0)=c6
 generalize decide (r.2.1.2.1=3)=c7
 generalize decide (r.2.1.2.1=2)=c8
 generalize r.2.2.2.1=c9
 by_cases h1:r.1=1
 ·simp only[h1,decide_true,cond_true,if_true]
  cases c1<;>cases c5<;>cases c6<;>cases c7<;>cases c9<;>rfl
 ·by_cases h2:r.1=2
  ·simp only[h2,decide_true,cond_true,if_true]
   cases c1<;>cases c5<;>cases c6<;>cases c8<;>cases c9<;>rfl
  ·by_cases h3:r.1=3
   ·simp only[h3,decide_true,cond_true,if_true]
    cases c3<;>cases c4<;>cases c5<;>cases c9<;>rfl
   ·by_cases h4:r.1=4
    ·simp only[h4,decide_true,cond_true,if_true]
     cases c2<;>cases c4<;>cases c6<;>cases c9<;>rfl
    ·simp only[h1,h2,h3,h4,decide_false,cond_false,if_false]
theorem r4s (r:s79) (hw:o2l.wt r≤549755813888):t4r r=some (u46 r):=by
 have hb:u0g=1099511627776:=rfl
 have hr:=r0u r
 have k1:=t72 r.2.1 (by omega)
 have k2:=t44 r.2.2.2.2 (by omega)
 have k3:=t70 r.2.2.1 (by omega)
 rw[q2b];unfold s9q
 simp only[k1,k2,k3,s2z,p6n,p6k,zOb,t0w]
 unfold u46
 generalize u4x r.2.1=c1
 generalize u5o r.2.2.2.2=c2
 generalize t6q r.2.2.1=c3
 generalize noT r.2.1=c4
 generalize noB r.2.2.2.2=c5
 generalize decide (r.2.2.1.size=0)=c6
 generalize r.2.2.2.1=c9
 by_cases h1:r.1=1
 ·simp only[h1,show inB 1 1 4=true from rfl,decide_true,cond_true,if_true]
  generalize decide (r.2.1.2.1=3)=c7
  generalize decide (r.2.1.2.1=2)=c8
  cases c1<;>cases c5<;>cases c6<;>cases c7<;>cases c8<;>cases c9<;>rfl
 ·by_cases h2:r.1=2
  ·simp only[h2,show inB 2 1 4=true from rfl,decide_true,cond_true,if_true]
   generalize decide (r.2.1.2.1=3)=c7
   generalize decide (r.2.1.2.1=2)=c8
   cases c1<;>cases c5<;>cases c6<;>cases c7<;>cases c8<;>cases c9<;>rfl
  ·by_cases h3:r.1=3
   ·simp only[h3,show inB 3 1 4=true from rfl,decide_true,cond_true,if_true]
    cases c3<;>cases c4<;>cases c5<;>cases c9<;>rfl
   ·by_cases h4:r.1=4
    ·simp only[h4,show inB 4 1 4=true from rfl,decide_true,cond_true,if_true]
     cases c2<;>cases c4<;>cases c6<;>cases c9<;>rfl
    ·have:inB r.1 1 4=false:=by
      cases h:inB r.1 1 4
      ·rfl
      ·have:=q2l.mp h;omega
     simp only[h1,h2,h3,h4,this,decide_false,cond_false,if_false,Bool.not_false,cond_true]
end
section
theorem r3k {α:Type} {P:Prop} [Decidable P] {a b:α} (h:P):(bif decide P then a else b)=a:=by rw[decide_eq_true h];rfl
theorem r62 {α:Type} {n:Nat} {a b:α} (h:n≤1099511627776):(bif Nat.ble n z7w then a else b)=a:=by rw[u1d h];rfl
theorem u4n {n:Int} (h0:0≤n) (h1:n≤1000000000):u1p n=some (r01 n):=by
 obtain⟨m,rfl⟩:∃m:Nat,n=m:=⟨n.toNat,by omega⟩
 rw[q94 m (by omega)];rfl
theorem p10 {n:Int} (h0:0≤n) (h1:n≤1000000000):u8i n=some (r01 n,true):=by
 rw[s8p,if_pos ⟨h0,h1⟩];rfl
theorem t3j {s:ByteArray} (h:s.size≤10000):u2i s=some (u2m s):=by
 rw[q2g];unfold s9w
 rw[u4n (by omega) (by omega)]
 simp only[zOb]
 have:=u1k (n:=(s.size:Int)) (by omega)
 rw[r3k (by omega)];rfl
theorem p28 {s:ByteArray} (h:s.size≤10000):t25 s=some (u2m s,true):=by
 rw[q83 s (by omega),if_neg (by omega)]
theorem q0j (b:Bool):t04 b=some (p1g b):=by
 rw[q74];unfold r5x
 cases b<;>rfl
theorem r6i {r:q5p} (h:r.1.size≤100∧r.2.size≤100):(p0y r).size≤204:=by
 have q1:=u0l (s:=r.1) (by omega)
 have q2:=u0l (s:=r.2) (by omega)
 unfold p0y;rw[ByteArray.size_append];omega
theorem t5u {E:Type} (f:E→ByteArray) (l:List E) (s:ByteArray):l.foldl (fun s x=>s++f x) s=s++s8b f l:=r51 f l s
theorem t6l (t:u0f) (ht:u0k.wt t≤549755813888):u8j t=some (if u4x t=true then(u6s t,true) else(emp,false)):=by
 have hb:u0g=1099511627776:=rfl
 rw[q43];unfold r29
 rw[t72 t (by omega)]
 simp only[zOb]
 cases hc:u4x t
 ·rfl
 ·have h:=r6q.mp hc
  obtain⟨z1,z2,z3,z4,z5⟩:=h.small
  have hi:=h.id;have hst:=h.st;have hsn:=h.snap;have hrl:=h.rlen
  have v1:=u1k (n:=t.1) (by omega)
  have v2:=u1k (n:=t.2.1) (by omega)
  have v3:=u1k (n:=t.2.2.1) (by omega)
  have v4:=u1k (n:=t.2.2.2.1) (by omega)
  have v5:=u1k (n:=(t.2.2.2.2.1.length:Int)) (by omega)
  have v6:=u1k (n:=(t.2.2.2.2.2.1.length:Int)) (by omega)
  have v7:=u0l (s:=t.2.2.2.2.2.2.2) (by omega)
  have L1:∀A:ByteArray,A.size≤1000→u76 (t,A,0)=some (.inl (t,A++s8b p0y t.2.2.2.2.1)):=fun A hA=>by
   have:=t06 u76 t.2.2.2.2.1 (fun(A:ByteArray) i=>(t,A,i)) (fun A r=>A++p0y r) (fun A=> .inl (t,A)) (fun i A=>A.size≤1000+i*204)
    (fun A _=>by rw[s73];simp only[t2l,u0b,Nat.lt_irrefl,decide_false,cond_false])
    (fun i hi A hP=>by
     have hr:=z1 _ (List.getElem_mem hi)
     have hs:=r6i (r:=t.2.2.2.2.1[i]) (by omega)
     have hs' :=hs
     unfold p0y at hs'
     rw[ByteArray.size_append] at hs'
     refine⟨by rw[ByteArray.size_append,Nat.succ_mul];omega,?_⟩
     rw[s73];simp only[t2l,u0b,hi,decide_true,cond_true,y7t hi,zTn,y8k (t:=u1u) hi,y7l (show i<4611686018427387904 by omega)]
     rw[t3j (by omega),t3j (by omega)]
     simp only[zOb]
     rw[r3k (by omega),r3k (by rw[ByteArray.size_append];omega),u5z];rfl) A (by omega)
   rw[t5u] at this
   exact this
  have L2:∀A:ByteArray,A.size≤10000→u6d (t,A,0)=some (.inl (t,A++s8b wrT t.2.2.2.2.2.1)):=fun A hA=>by
   have:=t06 u6d t.2.2.2.2.2.1 (fun(A:ByteArray) i=>(t,A,i)) (fun A r=>A++wrT r) (fun A=> .inl (t,A)) (fun i A=>A.size≤10000+i*304)
    (fun A _=>by rw[s4n];simp only[t0b,u0b,Nat.lt_irrefl,decide_false,cond_false])
    (fun i hi A hP=>by
     have hr:=z2 _ (List.getElem_mem hi)
     have q1:=u0l (s:=(t.2.2.2.2.2.1[i]).1) (by omega)
     have q2:=u0l (s:=(t.2.2.2.2.2.1[i]).2.1) (by omega)
     have q3:=u2e (t.2.2.2.2.2.1[i]).2.2
     refine⟨by unfold wrT;simp only[ByteArray.size_append,Nat.succ_mul];omega,?_⟩
     rw[s4n];simp only[t0b,u0b,hi,decide_true,cond_true,y7t hi,zTn,y8k (t:=u0w) hi,y7l (show i<4611686018427387904 by omega)]
     rw[t3j (by omega),t3j (by omega),q0j]
     simp only[zOb]
     rw[r3k (by omega),r3k (by rw[ByteArray.size_append];omega),r3k (by simp only[ByteArray.size_append];omega),u5z,u5z];rfl) A (by omega)
   rw[t5u] at this
   exact this
  have n1:(s8b p0y t.2.2.2.2.1).size≤t.2.2.2.2.1.length*204:=t4f fun r hr=>r6i (by have:=z1 r hr;omega)
  have n2:(s8b wrT t.2.2.2.2.2.1).size≤t.2.2.2.2.2.1.length*304:=t4f fun w hw=>by
   have:=z2 w hw
   have q1:=u0l (s:=w.1) (by omega)
   have q2:=u0l (s:=w.2.1) (by omega)
   unfold wrT;rw[ByteArray.size_append,ByteArray.size_append,u2e];omega
  simp only[Bool.not_true,cond_false,if_true]
  rw[u4n (n:=t.1) (by omega) (by omega),u4n (n:=t.2.1) (by omega) (by omega),u4n (n:=t.2.2.1) (by omega) (by omega),u4n (n:=t.2.2.2.1) (by omega) (by omega),u4n (n:=(t.2.2.2.2.1.length:Int)) (by omega) (by omega)]
  simp only[zOb]
  rw[r3k (by omega),r3k (by simp only[ByteArray.size_append];omega),r3k (by simp only[ByteArray.size_append];omega),r3k (by simp only[ByteArray.size_append];omega),L1 _ (by simp only[ByteArray.size_append];omega)]
  simp only[zOb]
  rw[u4n (n:=(t.2.2.2.2.2.1.length:Int)) (by omega) (by omega)]
  simp only[zOb]
  rw[r3k (by simp only[ByteArray.size_append];omega),L2 _ (by simp only[ByteArray.size_append];omega)]
  simp only[zOb]
  rw[q0j,t3j (by omega)]
  simp only[zOb]
  rw[r3k (by simp only[ByteArray.size_append,u2e];omega),r3k (by simp only[ByteArray.size_append,u2e];omega)]
  unfold u6s
  simp only[u5z]
theorem p5m {l:List u0f} {t:u0f} (h:t∈l) (hl:(Ty.sl u0k).wt l≤549755813888):u0k.wt t≤549755813888:=Nat.le_trans (r0z h) hl
theorem q9e (l:List u0f) (hl:(Ty.sl u0k).wt l≤549755813888) (hn:l.length≤10000) (h:∀t∈l,TxnR t):t6i l=some (s33 l):=by
 have v1:=u1k (n:=(l.length:Int)) (by omega)
 have L:u78 (l,r01 (l.length:Int),0)=some (.inl (r01 (l.length:Int)++s8b u6s l)):=by
  have:=t06 u78 l (fun(A:ByteArray) i=>(l,A,i)) (fun A r=>A++u6s r) (fun A=> .inl A) (fun i A=>A.size≤2+i*300)
   (fun A _=>by rw[s77];simp only[t2p,u0b,Nat.lt_irrefl,decide_false,cond_false])
   (fun i hi A hP=>by
    have hm:=List.getElem_mem hi
    have hr:=t4y (h _ hm)
    refine⟨by rw[ByteArray.size_append,Nat.succ_mul];omega,?_⟩
    rw[s77];simp only[t2p,u0b,hi,decide_true,cond_true,y7t hi,zTn,y8k (t:=u0k) hi,y7l (show i<4611686018427387904 by omega)]
    rw[t6l _ (p5m hm hl),if_pos (r6q.mpr (h _ hm))]
    simp only[zOb]
    rw[r3k (by omega)]) (r01 (l.length:Int)) (by omega)
  rw[t5u] at this
  exact this
 rw[q5c];unfold r3j
 rw[u4n (by omega) (by omega)]
 simp only[zOb]
 rw[L];rfl
theorem q6n (b:u0h) (hw:q3r.wt b≤549755813888):t9e b=some (if u5o b=true then(t6m b,true) else(emp,false)):=by
 have hbw:=s4z b
 rw[q14];unfold s9j
 rw[t44 b hw]
 simp only[zOb]
 cases hc:u5o b
 ·rfl
 ·have h:=q5t.mp hc
  obtain⟨w1,w2,w3⟩:=p5v.mp h.vs
  have hcs:=h.cs;have hx:=h.next;have hp:=h.plen;have hr:=h.rlen
  have q1:=u1k (n:=b.2.2.2.1) (by omega)
  have q2:=u1k (n:=b.2.2.2.2) (by omega)
  have q3:=u1k (n:=(b.1.length:Int)) (by omega)
  have q4:=t4f (f:=p0s) (k:=22) (l:=b.1) (fun v hv=>r6v (w1 v hv))
  have q5:=t73 (l:=b.2.1) (by omega) (fun t ht=>(h.past t ht).1)
  have q6:=t73 (l:=b.2.2.1) (by omega) (fun t ht=>(h.ready t ht).1)
  have L:∀A:ByteArray,A.size≤1000→u59 (b,A,0)=some (.inl (b,A++s8b p0s b.1)):=fun A hA=>by
   have:=t06 u59 b.1 (fun(A:ByteArray) i=>(b,A,i)) (fun A r=>A++p0s r) (fun A=> .inl (b,A)) (fun i A=>A.size≤1000+i*22)
    (fun A _=>by rw[s4e];simp only[u92,u0b,Nat.lt_irrefl,decide_false,cond_false])
    (fun i hi A hP=>by
     have hm:=w1 _ (List.getElem_mem hi)
     have hr:=r6v hm
     have hv:=t9o hm
     have s1:=u0l (s:=(b.1[i]).1) (by omega)
     have s2:=u0l (s:=(b.1[i]).2.1) (by omega)
     have s3:=u2e (b.1[i]).2.2.1
     have s4:=u1k (n:=(b.1[i]).2.2.2) (by omega)
     refine⟨by rw[ByteArray.size_append,Nat.succ_mul];omega,?_⟩
     rw[s4e];simp only[u92,u0b,hi,decide_true,cond_true,y7t hi,zTn,y8k (t:=u0c) hi,y7l (show i<4611686018427387904 by omega)]
     rw[t3j (by omega),t3j (by omega),q0j,u4n (by omega) (by omega)]
     simp only[zOb]
     rw[r3k (by omega),r3k (by simp only[ByteArray.size_append];omega),r3k (by simp only[ByteArray.size_append];omega),r3k (by simp only[ByteArray.size_append];omega)]
     unfold p0s
     simp only[u5z]) A (by omega)
   rw[t5u] at this
   exact this
  simp only[Bool.not_true,cond_false,if_true]
  rw[u4n (n:=b.2.2.2.1) (by omega) (by omega),u4n (n:=b.2.2.2.2) (by omega) (by omega),u4n (n:=(b.1.length:Int)) (by omega) (by omega)]
  simp only[zOb]
  rw[r3k (by omega),r3k (by simp only[ByteArray.size_append];omega),L _ (by simp only[ByteArray.size_append];omega)]
  simp only[zOb]
  rw[q9e b.2.1 (by omega) (by omega) (fun t ht=>(h.past t ht).1),q9e b.2.2.1 (by omega) (by omega) (fun t ht=>(h.ready t ht).1)]
  simp only[zOb]
  rw[r3k (by simp only[ByteArray.size_append];omega),r3k (by simp only[ByteArray.size_append];omega)]
  unfold t6m
  simp only[u5z]
end
section
theorem t8q (A:ByteArray) (ns:List Int) (hn:∀n∈ns,0≤n∧n<16384) (hl:ns.length≤10) (hA:A.size≤1000000):u38 (z7t A,ns)=some (z7t (A++s8b r01 ns)):=by
 have:=t06 t0n ns (fun(A:ByteArray) i=>(z7t A,ns,(ns.length:Int),i)) (fun A n=>A++r01 n) (fun A=> .inl (z7t A)) (fun i A=>A.size≤1000000+i*2)
  (fun A _=>by rw[s4d];simp only[u91,u0b,Nat.lt_irrefl,decide_false,cond_false])
  (fun i hi A hP=>by
   have hm:=hn _ (List.getElem_mem hi)
   have hv:=u1k (n:=ns[i]) hm.2
   refine⟨by rw[ByteArray.size_append,Nat.succ_mul];omega,?_⟩
   rw[s4d];simp only[u91,u0b,hi,decide_true,cond_true,y7t hi,zTn,y8k (t:=Ty.int .i64) hi,y7l (show i<4611686018427387904 by omega)]
   rw[p10 hm.1 (by omega)]
   simp only[zOb]
   rw[r62 (by rw[u5d,u5d];omega),t3n]) A (by omega)
 rw[t5u] at this
 rw[q1s];unfold s87
 simp only
 rw[this];rfl
theorem t6s (A:ByteArray) (ns:List ByteArray) (hn:∀n∈ns,n.size≤100) (hl:ns.length≤10) (hA:A.size≤1000000):u4m (z7t A,ns)=some (z7t (A++s8b u2m ns)):=by
 have:=t06 u80 ns (fun(A:ByteArray) i=>(z7t A,ns,(ns.length:Int),i)) (fun A n=>A++u2m n) (fun A=> .inl (z7t A)) (fun i A=>A.size≤1000000+i*102)
  (fun A _=>by rw[s07];simp only[u8t,u0b,Nat.lt_irrefl,decide_false,cond_false])
  (fun i hi A hP=>by
   have hm:=hn _ (List.getElem_mem hi)
   have hv:=u0l (s:=ns[i]) (by omega)
   refine⟨by rw[ByteArray.size_append,Nat.succ_mul];omega,?_⟩
   rw[s07];simp only[u8t,u0b,hi,decide_true,cond_true,y7t hi,zTn,y8k (t:=Ty.str) hi,y7l (show i<4611686018427387904 by omega)]
   rw[p28 (by omega)]
   simp only[zOb]
   rw[r62 (by rw[u5d,u5d];omega),t3n]) A (by omega)
 rw[t5u] at this
 rw[r90];unfold s58
 simp only
 rw[this];rfl
theorem s0l (A:ByteArray) (b:Bool) (hA:A.size≤1000000):u5h (z7t A,b)=some (z7t (A++p1g b)):=by
 rw[r9z];unfold s57
 have e:z7t (p1g b)= [if b then 1 else 0] :=by cases b<;>rfl
 rw[t3n,e]
 cases b
 ·simp only[cond_false]
  rw[r62 (by rw[u5d];simp;omega)];rfl
 ·simp only[cond_true]
  rw[r62 (by rw[u5d];simp;omega)];rfl
theorem r88 (ns:List Int) (hn:∀n∈ns,0≤n∧n<16384) (hl:ns.length≤10):u38 (([] :List Int),ns)=some (z7t (s8b r01 ns)):=by
 have:=t8q emp ns hn hl (by simp[emp,ByteArray.size])
 rw[p1h] at this
 exact this
theorem s40 {E:Type} (f:E→ByteArray) (a:E):s8b f [a] =f a:=by rw[t8e,q62,p1f]
theorem q0m {E:Type} (f:E→ByteArray) (a b:E):s8b f [a,b] =f a++f b:=by rw[t8e,s40]
theorem q5u {E:Type} (f:E→ByteArray) (a b c:E):s8b f [a,b,c] =f a++(f b++f c):=by rw[t8e,q0m]
theorem p4m {E:Type} (f:E→ByteArray) (a b c d e:E):s8b f [a,b,c,d,e] =f a++(f b++(f c++(f d++f e))):=by rw[t8e,t8e,q5u]
theorem t6k (t:u0f) (ht:u0k.wt t≤549755813888):u8h t=some (if u4x t=true then(u6s t,true) else(emp,false)):=by
 have hb:u0g=1099511627776:=rfl
 rw[q37];unfold r2g
 rw[t71 t (by omega)]
 simp only[zOb]
 cases hc:u4x t
 ·rfl
 ·have h:=r6q.mp hc
  obtain⟨z1,z2,z3,z4,z5⟩:=h.small
  have hi:=h.id;have hst:=h.st;have hsn:=h.snap;have hrl:=h.rlen
  have v1:=u1k (n:=t.1) (by omega)
  have v2:=u1k (n:=t.2.1) (by omega)
  have v3:=u1k (n:=t.2.2.1) (by omega)
  have v4:=u1k (n:=t.2.2.2.1) (by omega)
  have v5:=u1k (n:=(t.2.2.2.2.1.length:Int)) (by omega)
  have v6:=u1k (n:=(t.2.2.2.2.2.1.length:Int)) (by omega)
  have v7:=u0l (s:=t.2.2.2.2.2.2.2) (by omega)
  have L1:∀A:ByteArray,A.size≤1000→u7y (t,z7t A,t.2.2.2.2.1,(t.2.2.2.2.1.length:Int),0)=some (.inl (t,z7t (A++s8b p0y t.2.2.2.2.1))):=fun A hA=>by
   have:=t06 u7y t.2.2.2.2.1 (fun(A:ByteArray) i=>(t,z7t A,t.2.2.2.2.1,(t.2.2.2.2.1.length:Int),i)) (fun A r=>A++p0y r) (fun A=> .inl (t,z7t A)) (fun i A=>A.size≤1000+i*204)
    (fun A _=>by rw[s7p];simp only[t18,u0b,Nat.lt_irrefl,decide_false,cond_false])
    (fun i hi A hP=>by
     have hr:=z1 _ (List.getElem_mem hi)
     have hs:=r6i (r:=t.2.2.2.2.1[i]) (by omega)
     refine⟨by rw[ByteArray.size_append,Nat.succ_mul];omega,?_⟩
     rw[s7p];simp only[t18,u0b,hi,decide_true,cond_true,y7t hi,zTn,y8k (t:=u1u) hi,y7l (show i<4611686018427387904 by omega)]
     rw[t6s A [(t.2.2.2.2.1[i]).1,(t.2.2.2.2.1[i]).2] (by intro n hn;simp only[List.mem_cons,List.mem_nil_iff,or_false] at hn;rcases hn with rfl | rfl<;>omega) (by simp) (by omega)]
     simp only[zOb]
     rw[q0m];rfl) A (by omega)
   rw[t5u] at this
   exact this
  have L2:∀A:ByteArray,A.size≤10000→u54 (t,z7t A,t.2.2.2.2.2.1,(t.2.2.2.2.2.1.length:Int),0)=some (.inl (t,z7t (A++s8b wrT t.2.2.2.2.2.1))):=fun A hA=>by
   have:=t06 u54 t.2.2.2.2.2.1 (fun(A:ByteArray) i=>(t,z7t A,t.2.2.2.2.2.1,(t.2.2.2.2.2.1.length:Int),i)) (fun A r=>A++wrT r) (fun A=> .inl (t,z7t A)) (fun i A=>A.size≤10000+i*304)
    (fun A _=>by rw[s4a];simp only[u9y,u0b,Nat.lt_irrefl,decide_false,cond_false])
    (fun i hi A hP=>by
     have hr:=z2 _ (List.getElem_mem hi)
     have q1:=u0l (s:=(t.2.2.2.2.2.1[i]).1) (by omega)
     have q2:=u0l (s:=(t.2.2.2.2.2.1[i]).2.1) (by omega)
     have q3:=u2e (t.2.2.2.2.2.1[i]).2.2
     refine⟨by unfold wrT;simp only[ByteArray.size_append,Nat.succ_mul];omega,?_⟩
     rw[s4a];simp only[u9y,u0b,hi,decide_true,cond_true,y7t hi,zTn,y8k (t:=u0w) hi,y7l (show i<4611686018427387904 by omega)]
     rw[t6s A [(t.2.2.2.2.2.1[i]).1,(t.2.2.2.2.2.1[i]).2.1] (by intro n hn;simp only[List.mem_cons,List.mem_nil_iff,or_false] at hn;rcases hn with rfl | rfl<;>omega) (by simp) (by omega)]
     simp only[zOb]
     rw[q0m,s0l _ _ (by simp only[ByteArray.size_append];omega)]
     simp only[zOb]
     unfold wrT
     simp only[u5z]) A (by omega)
   rw[t5u] at this
   exact this
  have n1:(s8b p0y t.2.2.2.2.1).size≤t.2.2.2.2.1.length*204:=t4f fun r hr=>r6i (by have:=z1 r hr;omega)
  have n2:(s8b wrT t.2.2.2.2.2.1).size≤t.2.2.2.2.2.1.length*304:=t4f fun w hw=>by
   have:=z2 w hw
   have q1:=u0l (s:=w.1) (by omega)
   have q2:=u0l (s:=w.2.1) (by omega)
   unfold wrT;rw[ByteArray.size_append,ByteArray.size_append,u2e];omega
  simp only[Bool.not_true,cond_false,if_true]
  rw[r88 [t.1,t.2.1,t.2.2.1,t.2.2.2.1,(t.2.2.2.2.1.length:Int)] (by intro n hn;simp only[List.mem_cons,List.mem_nil_iff,or_false] at hn;rcases hn with rfl | rfl | rfl | rfl | rfl<;>omega) (by simp)]
  simp only[zOb]
  rw[p4m,L1 _ (by simp only[ByteArray.size_append];omega)]
  simp only[zOb]
  rw[t8q _ [(t.2.2.2.2.2.1.length:Int)] (by intro n hn;simp only[List.mem_cons,List.mem_nil_iff,or_false] at hn;subst hn;omega) (by simp) (by simp only[ByteArray.size_append];omega)]
  simp only[zOb]
  rw[s40,L2 _ (by simp only[ByteArray.size_append];omega)]
  simp only[zOb]
  rw[s0l _ _ (by simp only[ByteArray.size_append];omega)]
  simp only[zOb]
  rw[t6s _ [t.2.2.2.2.2.2.2] (by intro n hn;simp only[List.mem_cons,List.mem_nil_iff,or_false] at hn;subst hn;omega) (by simp) (by simp only[ByteArray.size_append,u2e];omega)]
  simp only[zOb]
  rw[s40,t3h]
  unfold u6s
  simp only[u5z]
theorem q6m (b:u0h) (hw:q3r.wt b≤549755813888):t8s b=some (if u5o b=true then(t6m b,true) else(emp,false)):=by
 have hb:u0g=1099511627776:=rfl
 have hbw:=s4z b
 rw[q1c];unfold s8s
 rw[u63 b (by omega)]
 simp only[zOb]
 cases hc:u5o b
 ·rfl
 ·have h:=q5t.mp hc
  obtain⟨w1,w2,w3⟩:=p5v.mp h.vs
  have hcs:=h.cs;have hx:=h.next;have hp:=h.plen;have hr:=h.rlen
  have q1:=u1k (n:=b.2.2.2.1) (by omega)
  have q2:=u1k (n:=b.2.2.2.2) (by omega)
  have q3:=u1k (n:=(b.1.length:Int)) (by omega)
  have q4:=t4f (f:=p0s) (k:=22) (l:=b.1) (fun v hv=>r6v (w1 v hv))
  have q5:=t73 (l:=b.2.1) (by omega) (fun t ht=>(h.past t ht).1)
  have q6:=t73 (l:=b.2.2.1) (by omega) (fun t ht=>(h.ready t ht).1)
  have L:∀A:ByteArray,A.size≤1000→u53 (b,z7t A,b.1,(b.1.length:Int),0)=some (.inl (b,z7t (A++s8b p0s b.1))):=fun A hA=>by
   have:=t06 u53 b.1 (fun(A:ByteArray) i=>(b,z7t A,b.1,(b.1.length:Int),i)) (fun A r=>A++p0s r) (fun A=> .inl (b,z7t A)) (fun i A=>A.size≤1000+i*22)
    (fun A _=>by rw[s34];simp only[u9s,u0b,Nat.lt_irrefl,decide_false,cond_false])
    (fun i hi A hP=>by
     have hm:=w1 _ (List.getElem_mem hi)
     have hr:=r6v hm
     have hv:=t9o hm
     have s1:=u0l (s:=(b.1[i]).1) (by omega)
     have s2:=u0l (s:=(b.1[i]).2.1) (by omega)
     have s3:=u2e (b.1[i]).2.2.1
     refine⟨by rw[ByteArray.size_append,Nat.succ_mul];omega,?_⟩
     rw[s34];simp only[u9s,u0b,hi,decide_true,cond_true,y7t hi,zTn,y8k (t:=u0c) hi,y7l (show i<4611686018427387904 by omega)]
     rw[t6s A [(b.1[i]).1,(b.1[i]).2.1] (by intro n hn;simp only[List.mem_cons,List.mem_nil_iff,or_false] at hn;rcases hn with rfl | rfl<;>omega) (by simp) (by omega)]
     simp only[zOb]
     rw[q0m,s0l _ _ (by simp only[ByteArray.size_append];omega)]
     simp only[zOb]
     rw[t8q _ [(b.1[i]).2.2.2] (by intro n hn;simp only[List.mem_cons,List.mem_nil_iff,or_false] at hn;subst hn;omega) (by simp) (by simp only[ByteArray.size_append];omega)]
     simp only[zOb]
     rw[s40]
     unfold p0s
     simp only[u5z]) A (by omega)
   rw[t5u] at this
   exact this
  have IN:∀(A:ByteArray) (g:List (List u0f)) (n k:Int) (l:List u0f),A.size≤100000→l.length≤100→(Ty.sl u0k).wt l≤549755813888→(∀t∈l,TxnR t)→
   u5j (z7t A,g,n,k,l,(l.length:Int),0)=some (.inl (z7t (A++s8b u6s l),g,n,k)):=fun A g n k l hA hl hlw hok=>by
   have:=t06 u5j l (fun(A:ByteArray) i=>(z7t A,g,n,k,l,(l.length:Int),i)) (fun A r=>A++u6s r) (fun A=> .inl (z7t A,g,n,k)) (fun i A=>A.size≤100000+i*300)
    (fun A _=>by rw[s03];simp only[u8o,u0b,Nat.lt_irrefl,decide_false,cond_false])
    (fun i hi A hP=>by
     have hm:=List.getElem_mem hi
     have hr:=t4y (hok _ hm)
     refine⟨by rw[ByteArray.size_append,Nat.succ_mul];omega,?_⟩
     rw[s03];simp only[u8o,u0b,hi,decide_true,cond_true,y7t hi,zTn,y8k (t:=u0k) hi,y7l (show i<4611686018427387904 by omega)]
     rw[t6k _ (p5m hm hlw),if_pos (r6q.mpr (hok _ hm))]
     simp only[zOb]
     rw[r62 (by rw[u5d,u5d];omega),t3n]) A (by omega)
   rw[t5u] at this
   exact this
  have O:∀A:ByteArray,A.size≤10000→u8y (z7t A, [b.2.1,b.2.2.1],2,0)=some (.inl (z7t (A++s33 b.2.1++s33 b.2.2.1))):=fun A hA=>by
   have v1:=u1k (n:=(b.2.1.length:Int)) (by omega)
   have v2:=u1k (n:=(b.2.2.1.length:Int)) (by omega)
   have e0:y4q 0 [b.2.1,b.2.2.1].length=true:=rfl
   have e1:y4q 1 [b.2.1,b.2.2.1].length=true:=rfl
   have r0:rdL (Ty.sl u0k) [b.2.1,b.2.2.1] (0:Int).toNat=b.2.1:=rfl
   have r1:rdL (Ty.sl u0k) [b.2.1,b.2.2.1] (1:Int).toNat=b.2.2.1:=rfl
   have w0:IntKind.i64.wrap ((0:Int)+1)=1:=rfl
   have w1:IntKind.i64.wrap ((1:Int)+1)=2:=rfl
   rw[t40];simp only[u5i]
   rw[r3k (by omega),e0,r0,t8q A [(b.2.1.length:Int)] (by intro n hn;simp only[List.mem_cons,List.mem_nil_iff,or_false] at hn;subst hn;omega) (by simp) (by omega)]
   simp only[cond_true,zOb]
   rw[s40,IN _ _ _ _ b.2.1 (by simp only[ByteArray.size_append];omega) (by omega) (by omega) (fun t ht=>(h.past t ht).1)]
   simp only[zOb]
   rw[w0,t40];simp only[u5i]
   have n1:(A++r01 (b.2.1.length:Int)++s8b u6s b.2.1).size≤20000:=by
    have:A++r01 (b.2.1.length:Int)++s8b u6s b.2.1=A++s33 b.2.1:=by unfold s33;rw[u5z]
    rw[this,ByteArray.size_append];omega
   rw[r3k (by omega),e1,r1,t8q _ [(b.2.2.1.length:Int)] (by intro n hn;simp only[List.mem_cons,List.mem_nil_iff,or_false] at hn;subst hn;omega) (by simp) (by omega)]
   simp only[cond_true,zOb]
   rw[s40,IN _ _ _ _ b.2.2.1 (by rw[ByteArray.size_append];omega) (by omega) (by omega) (fun t ht=>(h.ready t ht).1)]
   simp only[zOb]
   rw[w1,t40];simp only[u5i]
   unfold s33
   simp[u5z]
  simp only[Bool.not_true,cond_false,if_true]
  rw[r88 [b.2.2.2.1,b.2.2.2.2,(b.1.length:Int)] (by intro n hn;simp only[List.mem_cons,List.mem_nil_iff,or_false] at hn;rcases hn with rfl | rfl | rfl<;>omega) (by simp)]
  simp only[zOb]
  rw[q5u,L _ (by simp only[ByteArray.size_append];omega)]
  simp only[zOb]
  have e2:(([b.2.1,b.2.2.1] :List (List u0f)).length:Int)=2:=rfl
  rw[e2,O _ (by simp only[ByteArray.size_append];omega)]
  simp only[zOb]
  rw[t3h]
  unfold t6m
  simp only[u5z]
end
section
theorem p2o {W:Int×ByteArray×Int×Int→Option ((Int×ByteArray×Int)⊕Unit)}
 (hW:∀x,W x=(bif decide (x.2.2.2<(8:Int)) then(bif decide (Int.tmod x.1 (2:Int)=(1:Int)) then W (IntKind.u32.wrap ((BitVec.ofInt IntKind.u32.bits (IntKind.u32.wrap (Int.tdiv x.1 (2:Int)))^^^BitVec.ofInt IntKind.u32.bits (3558460437:Int)).toNat:Int),x.2.1,x.2.2.1,IntKind.i64.wrap (x.2.2.2+(1:Int)))
  else W (IntKind.u32.wrap (Int.tdiv x.1 (2:Int)),x.2.1,x.2.2.1,IntKind.i64.wrap (x.2.2.2+(1:Int)))) else some (.inl (x.1,x.2.1,x.2.2.1)))) (t:ByteArray) (k:Int):
 ∀(n:Nat) (x:Int) (i:Nat),i+n=8→W (x,t,k,(i:Int))=some (.inl (q25 n x,t,k)):=by
 intro n
 induction n with
 | zero=>
  intro x i hi
  have:i=8:=by omega
  subst this
  rw[hW];rfl
 | succ n ih=>
  intro x i hi
  rw[hW]
  simp only
  rw[r3k (by omega),y7l (by omega),ih _ (i+1) (by omega),ih _ (i+1) (by omega)]
  rw[show q25 (n+1) x=q25 n (p5d x) from rfl]
  unfold p5d p8y
  cases decide (Int.tmod x 2=1)<;>rfl
theorem p2p (f:Int→UInt8→Int) (t:ByteArray) {W:Int×ByteArray×Int→Option (Int⊕Unit)} (ht:t.size≤1099511627776)
 (hend:∀x,W (x,t,(t.size:Int))=some (.inl x))
 (hstep:∀(i:Nat),i<t.size→ ∀x,W (x,t,(i:Int))=W (f x (t.data.toList.getD i 0),t,((i+1:Nat):Int))) (x:Int):W (x,t,0)=some (.inl (t.data.toList.foldl f x)):=by
 have e:t.size=t.data.toList.length:=r37 t
 exact t06 W t.data.toList (fun x i=>(x,t,i)) f (fun x=> .inl x) (fun _ _=>True) (fun x _=>by rw[←e];exact hend x)
  (fun i hi x _=>⟨trivial,by
   rw[hstep i (by rw[e];exact hi) x]
   congr 2
   rw[List.getD_eq_getElem?_getD,List.getElem?_eq_getElem hi];rfl⟩) x trivial
theorem q86 (x:Int) (t:ByteArray) (ht:t.size≤1099511627776):s1i (x,t)=some (t.data.toList.foldl q26 x):=by
 have L:=p2p q26 t (W:=t2r) ht
  (fun x=>by rw[s7k];simp only[t13,u0b,Nat.lt_irrefl,decide_false,cond_false])
  (fun i hi x=>by
   rw[s7k];simp only[t13,u0b,hi,decide_true,cond_true,y7t hi,zTn]
   have:=p2o (W:=t2s) (fun x=>q0f x) t (i:Int) 8 (p8y x (IntKind.u32.wrap ((t.data.toList.getD i 0).toNat:Int))) 0 rfl
   unfold p8y at this
   rw[show((0:Nat):Int)=0 from rfl] at this
   rw[this]
   simp only[zOb,y7l (show i<4611686018427387904 by omega)]
   rfl) x
 rw[q33];unfold r2c
 simp only[L,zOb]
theorem r8d (x:Int) (t:ByteArray) (ht:t.size≤1099511627776):s1w (x,t)=some (t.data.toList.foldl q26 x):=by
 have L:=p2p q26 t (W:=t2w) ht
  (fun x=>by rw[s7z];simp only[t2h,u0b,Nat.lt_irrefl,decide_false,cond_false])
  (fun i hi x=>by
   rw[s7z];simp only[t2h,u0b,hi,decide_true,cond_true,y7t hi,zTn]
   have:=p2o (W:=t2x) (fun x=>q0h x) t (i:Int) 8 (p8y x (IntKind.u32.wrap ((t.data.toList.getD i 0).toNat:Int))) 0 rfl
   unfold p8y at this
   rw[show((0:Nat):Int)=0 from rfl] at this
   rw[this]
   simp only[zOb,y7l (show i<4611686018427387904 by omega)]
   rfl) x
 rw[q4z];unfold r25
 simp only[L,zOb]
theorem t8a (t:ByteArray) (ht:t.size≤1099511627776):t0z t=some (q21 t):=by
 rw[q68];unfold r4z q21
 have e1:decide ((t.size:Int) >20000)= !decide (t.size≤20000):=by by_cases h:t.size≤20000<;>simp[h] <;>omega
 rw[e1,q9n];unfold r8i
 rw[q86 _ _ ht]
 simp only[zOb]
 by_cases h:t.size≤20000
 ·rw[decide_eq_true h,if_pos h]
  simp only[Bool.not_true,cond_false]
  rw[r3k (by rw[u6n];simp;omega)]
  rfl
 ·rw[decide_eq_false h,if_neg h];rfl
theorem s4u (t:ByteArray) (ht:t.size≤1099511627776):t4s t=some (q21 t):=by
 rw[q7z];unfold r5s q21
 have e1:decide ((t.size:Int) >20000)= !decide (t.size≤20000):=by by_cases h:t.size≤20000<;>simp[h] <;>omega
 rw[e1,r82];unfold s9s
 rw[r8d _ _ ht]
 simp only[zOb]
 rw[r3l];unfold r3b
 simp only[zOb]
 by_cases h:t.size≤20000
 ·rw[decide_eq_true h,if_pos h]
  simp only[Bool.not_true,cond_false]
  rw[r3k (by rw[u6n];simp;omega)]
  rfl
 ·rw[decide_eq_false h,if_neg h];rfl
theorem u7n (k:Int):(y7g [k]).size=1:=u6n _
theorem r1d {k:Int} (h0:0≤k) (h1:k≤255): [IntKind.u8.wrap k] =z7t (y7g [IntKind.u8.wrap k]):=by
 obtain⟨n,rfl⟩:∃n:Nat,k=n:=⟨k.toNat,by omega⟩
 rw[p8x,show((n:Int) % 256)=n by omega]
 unfold z7t y7g
 simp
 omega
theorem t76 (r:s79) (hw:o2l.wt r≤549755813888):u6l r=some (u1z r):=by
 have hr:=r0u r
 rw[r7n];unfold s2p u1z
 rw[r4s r hw]
 simp only[zOb]
 cases hc:u46 r
 ·rfl
 ·have h:=p7l.mp hc
  have hz:=s31 h
  simp only[Bool.not_true,cond_false,if_true]
  cases h with
  | thr t h hs=>
   have:=t4y h
   have ht:=t6l t (by have:u0k.wt t≤o2l.wt (1,t,emp,false,u4o):=by rw[hr];simp only;omega
                      omega)
   rw[if_pos (r6q.mpr h)] at ht
   simp only[Int.reduceEq,decide_true,decide_false,cond_true,cond_false]
   rw[ht]
   simp only[zOb]
   rw[r3k (by rw[u7n];omega),s4u _ (by rw[ByteArray.size_append,u7n];omega)]
   rfl
  | rdy t h hs=>
   have:=t4y h
   have ht:=t6l t (by have:u0k.wt t≤o2l.wt (2,t,emp,false,u4o):=by rw[hr];simp only;omega
                      omega)
   rw[if_pos (r6q.mpr h)] at ht
   simp only[Int.reduceEq,decide_true,decide_false,cond_true,cond_false]
   rw[ht]
   simp only[zOb]
   rw[r3k (by rw[u7n];omega),s4u _ (by rw[ByteArray.size_append,u7n];omega)]
   rfl
  | fin n y h=>
   have:=u5e h
   have q:=u0l (s:=n) (by omega)
   simp only[Int.reduceEq,decide_true,decide_false,cond_true,cond_false]
   rw[t3j (by omega)]
   simp only[zOb]
   rw[r3k (by rw[u7n];omega),q0j]
   simp only[zOb]
   rw[r3k (by simp only[ByteArray.size_append,u7n,u2e];omega),s4u _ (by simp only[ByteArray.size_append,u7n,u2e];omega),u5z]
   rfl
  | bas b h=>
   have:=r65 h
   have a1:=(p5v.mp h.vs).2.2
   have a2:=h.plen
   have a3:=h.rlen
   have ht:=q6n b (by have:q3r.wt b≤o2l.wt (4,t1x,emp,false,b):=by rw[hr];simp only;omega
                      omega)
   rw[if_pos (q5t.mpr h)] at ht
   simp only[Int.reduceEq,decide_true,decide_false,cond_true,cond_false]
   rw[ht]
   simp only[zOb]
   rw[r3k (by rw[u7n];omega),s4u _ (by rw[ByteArray.size_append,u7n];omega)]
   rfl
theorem t75 (r:s79) (hw:o2l.wt r≤549755813888):u6h r=some (u1z r):=by
 have hr:=r0u r
 rw[r7c];unfold s2e u1z
 rw[r4r r hw]
 simp only[zOb]
 cases hc:u46 r
 ·rfl
 ·have h:=p7l.mp hc
  have hz:=s31 h
  simp only[Bool.not_true,cond_false,if_true]
  cases h with
  | thr t h hs=>
   have:=t4y h
   have ht:=t6k t (by have:u0k.wt t≤o2l.wt (1,t,emp,false,u4o):=by rw[hr];simp only;omega
                      omega)
   rw[if_pos (r6q.mpr h)] at ht
   simp only[Int.reduceEq,decide_true,decide_false,cond_true,cond_false]
   rw[ht]
   simp only[zOb]
   rw[r62 (by rw[u5d];simp;omega),r1d (k:=1) (by omega) (by omega),←t3n,t3h,t8a _ (by rw[ByteArray.size_append,u7n];omega)]
   rfl
  | rdy t h hs=>
   have:=t4y h
   have ht:=t6k t (by have:u0k.wt t≤o2l.wt (2,t,emp,false,u4o):=by rw[hr];simp only;omega
                      omega)
   rw[if_pos (r6q.mpr h)] at ht
   simp only[Int.reduceEq,decide_true,decide_false,cond_true,cond_false]
   rw[ht]
   simp only[zOb]
   rw[r62 (by rw[u5d];simp;omega),r1d (k:=2) (by omega) (by omega),←t3n,t3h,t8a _ (by rw[ByteArray.size_append,u7n];omega)]
   rfl
  | fin n y h=>
   have:=u5e h
   have q:=u0l (s:=n) (by omega)
   simp only[Int.reduceEq,decide_true,decide_false,cond_true,cond_false]
   rw[r1d (k:=3) (by omega) (by omega),t6s _ [n] (by intro m hm;simp only[List.mem_cons,List.mem_nil_iff,or_false] at hm;subst hm;omega) (by simp) (by rw[u7n];omega)]
   simp only[zOb]
   rw[s40,s0l _ _ (by rw[ByteArray.size_append,u7n];omega)]
   simp only[zOb]
   rw[t3h,t8a _ (by simp only[ByteArray.size_append,u7n,u2e];omega),u5z]
   rfl
  | bas b h=>
   have:=r65 h
   have a1:=(p5v.mp h.vs).2.2
   have a2:=h.plen
   have a3:=h.rlen
   have ht:=q6m b (by have:q3r.wt b≤o2l.wt (4,t1x,emp,false,b):=by rw[hr];simp only;omega
                      omega)
   rw[if_pos (q5t.mpr h)] at ht
   simp only[Int.reduceEq,decide_true,decide_false,cond_true,cond_false]
   rw[ht]
   simp only[zOb]
   rw[r62 (by rw[u5d];simp;omega),r1d (k:=4) (by omega) (by omega),←t3n,t3h,t8a _ (by rw[ByteArray.size_append,u7n];omega)]
   rfl
end
end
end Go.Proofs.YtbkicjpdlchbgaaGreat.Ab
