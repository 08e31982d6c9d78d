import Derived.Test.YtbkicjpdlchbgaaGreatAbPlayedT1
import Derived.Test.YtbkicjpdlchbgaaGreatAbK2
import Derived.Test.YtbkicjpdlchbgaaGreatAbF4
import Derived.Test.YtbkicjpdlchbgaaGreatAbS2
namespace Go.Proofs.YtbkicjpdlchbgaaGreat.Ab
open Go
set_option linter.unusedVariables false
set_option linter.unusedSimpArgs false
set_option linter.unnecessarySimpa false
section
section
theorem p29 (l:List u0g) (n:Int):((List.range l.length).all fun i=>decide ((rdL u1f l i).1<n)&& !((l.take i).any fun y=>decide (y.1=(rdL u1f l i).1)))=r3x (u3z l) n:=by
 rw[Bool.eq_iff_iff,List.all_eq_true,s7i]
 unfold u3z
 constructor
 ·intro h
  constructor
  ·intro x hx
   obtain⟨t,ht,rfl⟩:=List.mem_map.mp hx
   obtain⟨i,hi,rfl⟩:=List.getElem_of_mem ht
   have:=h i (List.mem_range.mpr hi)
   rw[Bool.and_eq_true,decide_eq_true_eq,y8k hi] at this
   exact this.1
  ·rw[List.nodup_iff_pairwise_ne,List.pairwise_map,List.pairwise_iff_getElem]
   intro i j hi hj hij e
   have:=h j (List.mem_range.mpr hj)
   rw[Bool.and_eq_true,Bool.not_eq_true',y8k hj] at this
   have hm:l[i] ∈l.take j:=by
    rw[List.mem_iff_getElem]
    exact⟨i,by simp;omega,by simp⟩
   have:=List.any_eq_false.mp this.2 _ hm
   simp only[decide_eq_true_eq] at this
   exact this e
 ·rintro⟨h1,h2⟩ i hi
  have hi:=List.mem_range.mp hi
  rw[Bool.and_eq_true,decide_eq_true_eq,y8k hi,Bool.not_eq_true']
  refine⟨h1 _ (List.mem_map.mpr ⟨_,List.getElem_mem hi,rfl⟩),?_⟩
  rw[List.any_eq_false]
  intro y hy
  rw[List.mem_iff_getElem] at hy
  obtain⟨j,hj,rfl⟩:=hy
  simp only[List.length_take] at hj
  rw[List.nodup_iff_pairwise_ne,List.pairwise_map,List.pairwise_iff_getElem] at h2
  simp only[List.getElem_take,decide_eq_true_eq]
  exact h2 j i (by omega) hi (by omega)
theorem q2c (l:List u0g) (n:Int) (hl:l.length≤1099511627776):t2p (l,n)=some (r3x (u3z l) n):=by
 have hsome:∀(m:List u0g) (t:u0g),m.length≤1099511627776→u4q (m,t)=some (m.any fun y=>decide (y.1=t.1)):=by
  intro m t hm
  have L:=Q.first (T:=u1f) (c:=u0g) (W:=u0y) (q:=t36) (p:=fun y:u0g=>decide (y.1=t.1)) (fun x=>u55 x) m t (by omega) (fun x _=>by rw[r3l];rfl)
  simp only[t7c,u85,u5z,u2c,u6v,u2y,L,zOb]
  rw[←r9n]
  by_cases h:u0q (fun y:u0g=>decide (y.1=t.1)) m<m.length
  ·simp[h]
  ·simp[h]
 have L:=t26 u82 l.length (fun i=>(l,n,l,(l.length:Int),i)) (fun i=>decide ((rdL u1f l i).1<n)&& !((l.take i).any fun y=>decide (y.1=(rdL u1f l i).1))) (.inl ()) (.inr false)
  (by rw[t97];simp only[u8u,u0b,Nat.lt_irrefl,decide_false,cond_false])
  (fun i hi=>by
   have e1:(decide ((0:Int)≤0)&&decide ((0:Int)≤(i:Int))&&decide ((i:Int)≤(l.length:Int)))=true:=by simp;omega
   have e2:(l.take i).drop ((0:Int)).toNat=l.take i:=by simp
   have e3:=hsome (l.take i) (rdL u1f l i) (by simp;omega)
   rw[t97];simp only[u8u,u0b,hi,decide_true,cond_true,y7t hi,zTn,y7l (show i<4611686018427387904 by omega),r9p (rdL u1f l i).1 n,e1]
   rw[e2,e3]
   cases decide ((rdL u1f l i).1<n)
   ·rfl
   ·simp only[Bool.not_true,cond_false,zOb,Bool.true_and]
    cases (l.take i).any fun y=>decide (y.1=(rdL u1f l i).1)<;>rfl)
 rw[p29] at L
 rw[r67];unfold s3w
 simp only[L,zOb]
 cases r3x (u3z l) n<;>rfl
theorem r4r (b:u0i):p8j.wt b=(Ty.sl u0c).wt b.1+((Ty.sl u1f).wt b.2.1+((Ty.sl u1f).wt b.2.2.1+(0+0))):=rfl
theorem r5n {l:List u0g} {t:u0g} (h:t∈l):u1f.wt t≤(Ty.sl u1f).wt l:=by
 have h1:(Ty.sl u1f).wt l=l.length+(l.map u1f.wt).sum:=rfl
 have h2:=q3t (f:=u1f.wt) h
 omega
theorem gt3 (n:Nat):decide ((n:Int) >3)= !decide (n≤3):=by by_cases h:n≤3<;>simp[h] <;>omega
theorem gt4 (n:Nat):decide ((n:Int) >4)= !decide (n≤4):=by by_cases h:n≤4<;>simp[h] <;>omega
theorem r6i (t:u0g):t5r t=some (decide (t.2.1=2)):=by rw[q08];rfl
theorem t2u (b:u0i) (hw:p8j.wt b≤u0p):u2g b=some (u6l b):=by
 have hb:u0p=1099511627776:=rfl
 have hbw:=r4r b
 have n1:=t8r (t:=u0c) b.1
 have n2:=t8r (t:=u1f) b.2.1
 have n3:=t8r (t:=u1f) b.2.2.1
 have L1:=t26 u9f b.1.length (fun i=>(b,b.1,(b.1.length:Int),i)) (fun i=>(fun v:u14=>decide (v.2.2.2≤b.2.2.2.1)) (rdL u0c b.1 i)) (.inl b) (.inr false)
  (by rw[s8b];simp only[t3k,u0b,Nat.lt_irrefl,decide_false,cond_false])
  (fun i hi=>by
   rw[s8b];simp only[t3k,u0b,hi,decide_true,cond_true,y7t hi,zTn,y7l (show i<4611686018427387904 by omega),r9r (rdL u0c b.1 i).2.2.2 b.2.2.2.1]
   cases decide ((rdL u0c b.1 i).2.2.2≤b.2.2.2.1)<;>rfl)
 rw[t7x (t:=u0c) b.1 (fun v:u14=>decide (v.2.2.2≤b.2.2.2.1))] at L1
 have L2:=t26 u7s b.2.1.length (fun i=>(b,b.2.1,(b.2.1.length:Int),i)) (fun i=>(fun t:u0g=>u8j t&&(decide (t.2.1=3)&&decide (t.2.2.2.1≤b.2.2.2.1))) (rdL u1f b.2.1 i)&&(decide (i=0) || (fun x y:u0g=>decide (x.2.2.2.1<y.2.2.2.1)) (rdL u1f b.2.1 (i - 1)) (rdL u1f b.2.1 i))) (.inl b) (.inr false)
  (by rw[s5b];simp only[t1n,u0b,Nat.lt_irrefl,decide_false,cond_false])
  (fun i hi=>by
   have hm:rdL u1f b.2.1 i∈b.2.1:=by rw[y8k hi];exact List.getElem_mem hi
   have ht:=r5n hm
   have hk:=r4n (rdL u1f b.2.1 i) (by omega)
   rw[s5b];simp only[t1n,u0b,hi,decide_true,cond_true,y7t hi,zTn,y7l (show i<4611686018427387904 by omega),r9r (rdL u1f b.2.1 i).2.2.2.1 b.2.2.2.1,t7g,r9u,zOb]
   rw[hk]
   simp only[zOb]
   generalize u8j (rdL u1f b.2.1 i)=b1
   generalize decide ((rdL u1f b.2.1 i).2.1=3)=b2
   generalize decide ((rdL u1f b.2.1 i).2.2.2.1≤b.2.2.2.1)=b3
   by_cases h0:i=0
   ·subst h0;simp only[decide_true,Bool.not_true,cond_false,Bool.true_or,Bool.and_true]
    cases b1<;>cases b2<;>cases b3<;>rfl
   ·simp only[h0,decide_false,Bool.not_false,cond_true,Bool.false_or,t4q (show i<4611686018427387904 by omega) h0,y7t (show i - 1<b.2.1.length by omega),zTn,r9p (rdL u1f b.2.1 (i - 1)).2.2.2.1 (rdL u1f b.2.1 i).2.2.2.1]
    generalize decide ((rdL u1f b.2.1 (i - 1)).2.2.2.1<(rdL u1f b.2.1 i).2.2.2.1)=b4
    cases b1<;>cases b2<;>cases b3<;>cases b4<;>rfl)
 rw[s26 (t:=u1f) b.2.1 (fun t:u0g=>u8j t&&(decide (t.2.1=3)&&decide (t.2.2.2.1≤b.2.2.2.1))) (fun x y:u0g=>decide (x.2.2.2.1<y.2.2.2.1))] at L2
 have L3:=t26 u7t b.2.2.1.length (fun i=>(b,b.2.2.1,(b.2.2.1.length:Int),i)) (fun i=>(fun t:u0g=>u8j t&&(decide (t.2.1=2)&&decide (t.2.2.1≤b.2.2.2.1))) (rdL u1f b.2.2.1 i)&&(decide (i=0) || (fun x y:u0g=>y3c x.2.2.2.2.2.2.2 y.2.2.2.2.2.2.2) (rdL u1f b.2.2.1 (i - 1)) (rdL u1f b.2.2.1 i))) (.inl b) (.inr false)
  (by rw[s5c];simp only[t1o,u0b,Nat.lt_irrefl,decide_false,cond_false])
  (fun i hi=>by
   have hm:rdL u1f b.2.2.1 i∈b.2.2.1:=by rw[y8k hi];exact List.getElem_mem hi
   have ht:=r5n hm
   have hk:=r4n (rdL u1f b.2.2.1 i) (by omega)
   rw[s5c];simp only[t1o,u0b,hi,decide_true,cond_true,y7t hi,zTn,y7l (show i<4611686018427387904 by omega),r9r (rdL u1f b.2.2.1 i).2.2.1 b.2.2.2.1,t7g,r6i,zOb]
   rw[hk]
   simp only[zOb]
   generalize u8j (rdL u1f b.2.2.1 i)=b1
   generalize decide ((rdL u1f b.2.2.1 i).2.1=2)=b2
   generalize decide ((rdL u1f b.2.2.1 i).2.2.1≤b.2.2.2.1)=b3
   by_cases h0:i=0
   ·subst h0;simp only[decide_true,Bool.not_true,cond_false,Bool.true_or,Bool.and_true]
    cases b1<;>cases b2<;>cases b3<;>rfl
   ·simp only[h0,decide_false,Bool.not_false,cond_true,Bool.false_or,t4q (show i<4611686018427387904 by omega) h0,y7t (show i - 1<b.2.2.1.length by omega),zTn]
    generalize y3c (rdL u1f b.2.2.1 (i - 1)).2.2.2.2.2.2.2 (rdL u1f b.2.2.1 i).2.2.2.2.2.2.2=b4
    cases b1<;>cases b2<;>cases b3<;>cases b4<;>rfl)
 rw[s26 (t:=u1f) b.2.2.1 (fun t:u0g=>u8j t&&(decide (t.2.1=2)&&decide (t.2.2.1≤b.2.2.2.1))) (fun x y:u0g=>y3c x.2.2.2.2.2.2.2 y.2.2.2.2.2.2.2)] at L3
 have hC:=p0u [b.2.1,b.2.2.1] (by simp only[List.flatten_cons,List.flatten_nil,List.append_nil,List.length_append];omega) (by simp)
 have hf: [b.2.1,b.2.2.1].flatten=b.2.1++b.2.2.1:=by simp
 rw[hf] at hC
 have hI:=q2c (b.2.1++b.2.2.1) b.2.2.2.2 (by rw[List.length_append];omega)
 have hV:=r8a b.1 (by omega)
 rw[q4f];unfold r2d
 rw[hV]
 simp only[s8w,o0b,gt3,zOb]
 unfold u6l q99 q5n
 generalize u5l b.1=c1
 generalize inB b.2.2.2.1 0 9999=c3
 generalize inB b.2.2.2.2 1 9999=c4
 generalize decide (b.2.1.length≤12)=c5
 generalize decide (b.2.2.1.length≤3)=c6
 generalize ha1:b.1.all (fun v:u14=>decide (v.2.2.2≤b.2.2.2.1))=a1 at L1
 generalize ha2:b.2.1.all (fun t:u0g=>u8j t&&(decide (t.2.1=3)&&decide (t.2.2.2.1≤b.2.2.2.1)))=a2 at L2
 generalize ha3:q2z u1f (fun x y:u0g=>decide (x.2.2.2.1<y.2.2.2.1)) b.2.1=a3 at L2
 generalize ha4:b.2.2.1.all (fun t:u0g=>u8j t&&(decide (t.2.1=2)&&decide (t.2.2.1≤b.2.2.2.1)))=a4 at L3
 generalize ha5:q2z u1f (fun x y:u0g=>y3c x.2.2.2.2.2.2.2 y.2.2.2.2.2.2.2) b.2.2.1=a5 at L3
 generalize r3x (u3z (b.2.1++b.2.2.1)) b.2.2.2.2=a6 at hI
 have hR:((u9f (b,b.1,(b.1.length:Int),0)).bind fun r5=>match r5 with
  | .inl o6=>(u7s (o6,o6.2.1,(o6.2.1.length:Int),0)).bind fun r10=>match r10 with
   | .inl o11=>(u7t (o11,o11.2.2.1,(o11.2.2.1.length:Int),0)).bind fun r15=>match r15 with
    | .inl o16=>(u4d [o16.2.1,o16.2.2.1]).bind fun y17=>(t2p (y17,o16.2.2.2.2)).bind fun y18=>some y18
    | .inr z19=>some z19
   | .inr z20=>some z20
  | .inr z21=>some z21)=some (a1&&((a2&&a3)&&((a4&&a5)&&a6))):=by
  rw[L1]
  cases a1
  ·rfl
  ·simp only[cond_true,zOb,Bool.true_and]
   rw[L2]
   cases (a2&&a3)
   ·rfl
   ·simp only[cond_true,zOb,Bool.true_and]
    rw[L3]
    cases (a4&&a5)
    ·rfl
    ·simp only[cond_true,zOb,Bool.true_and]
     rw[hC]
     simp only[zOb]
     rw[hI];rfl
 cases c1<;>cases c3<;>cases c4<;>cases c5<;>cases c6<;>simp only[Bool.not_true,Bool.not_false,cond_true,cond_false,zOb,Bool.false_and,Bool.and_false,Bool.true_and,Bool.and_true]
 exact hR
theorem p1c (l:List Int) (n:Int):((List.range l.length).all fun i=>((List.range i).all fun j=> !decide (rdL (Ty.int .i64) l j=rdL (Ty.int .i64) l i))&&decide (rdL (Ty.int .i64) l i<n))=r3x l n:=by
 rw[Bool.eq_iff_iff,List.all_eq_true,s7i]
 constructor
 ·intro h
  constructor
  ·intro x hx
   obtain⟨i,hi,rfl⟩:=List.getElem_of_mem hx
   have:=h i (List.mem_range.mpr hi)
   rw[Bool.and_eq_true,decide_eq_true_eq,y8k (t:=Ty.int .i64) hi] at this
   exact this.2
  ·rw[List.nodup_iff_pairwise_ne,List.pairwise_iff_getElem]
   intro i j hi hj hij e
   have:=h j (List.mem_range.mpr hj)
   rw[Bool.and_eq_true,List.all_eq_true] at this
   have:=this.1 i (List.mem_range.mpr hij)
   rw[y8k (t:=Ty.int .i64) hi,y8k (t:=Ty.int .i64) hj,Bool.not_eq_true',decide_eq_false_iff_not] at this
   exact this e
 ·rintro⟨h1,h2⟩ i hi
  have hi:=List.mem_range.mp hi
  rw[Bool.and_eq_true,decide_eq_true_eq,y8k (t:=Ty.int .i64) hi,List.all_eq_true]
  refine⟨fun j hj=> ?_,h1 _ (List.getElem_mem hi)⟩
  have hj:=List.mem_range.mp hj
  rw[List.nodup_iff_pairwise_ne,List.pairwise_iff_getElem] at h2
  rw[y8k (t:=Ty.int .i64) (show j<l.length by omega),Bool.not_eq_true',decide_eq_false_iff_not]
  exact h2 j i (by omega) hi hj
theorem q56 (b:u0i) (l:List Int) (hl:l.length≤1099511627776):u5b (b,l,0)=some (bif r3x l b.2.2.2.2 then .inl () else .inr false):=by
 have inner:∀i:Nat,i<l.length→u7y (b,l,(i:Int),0)=some (bif (List.range i).all (fun j=> !decide (rdL (Ty.int .i64) l j=rdL (Ty.int .i64) l i)) then .inl (b,l,(i:Int)) else .inr false):=by
  intro i hi
  exact t26 u7y i (fun j=>(b,l,(i:Int),j)) (fun j=> !decide (rdL (Ty.int .i64) l j=rdL (Ty.int .i64) l i)) (.inl (b,l,(i:Int))) (.inr false)
   (by rw[s5l];simp only[t1x,u0b,Nat.lt_irrefl,decide_false,cond_false])
   (fun j hj=>by
    rw[s5l];simp only[t1x,u0b,hj,decide_true,cond_true,y7t hi,y7t (show j<l.length by omega),zTn,y7l (show j<4611686018427387904 by omega)]
    by_cases e:rdL (Ty.int .i64) l j=rdL (Ty.int .i64) l i
    ·rw[decide_eq_true e];rfl
    ·rw[decide_eq_false e];rfl)
 have L:=t26 u5b l.length (fun i=>(b,l,i)) (fun i=>((List.range i).all fun j=> !decide (rdL (Ty.int .i64) l j=rdL (Ty.int .i64) l i))&&decide (rdL (Ty.int .i64) l i<b.2.2.2.2)) (.inl ()) (.inr false)
  (by rw[s5k];simp only[t1w,u0b,Nat.lt_irrefl,decide_false,cond_false])
  (fun i hi=>by
   rw[s5k];simp only[t1w,u0b,hi,decide_true,cond_true]
   rw[inner i hi]
   cases (List.range i).all fun j=> !decide (rdL (Ty.int .i64) l j=rdL (Ty.int .i64) l i)
   ·rfl
   ·simp only[cond_true,zOb,y7t hi,zTn,y7l (show i<4611686018427387904 by omega),Bool.true_and]
    rw[r9p]
    cases decide (rdL (Ty.int .i64) l i<b.2.2.2.2)<;>rfl)
 rw[p1c] at L
 exact L
theorem q96 (l:List u0g) {i:Nat} (h:i<l.length):u3z (l.take i)++ [(rdL u1f l i).1] =u3z (l.take (i+1)):=by
 rw[y8k h];unfold u3z
 rw[List.take_add_one,List.getElem?_eq_getElem h,List.map_append];rfl
theorem t4u (b:u0i) (hw:p8j.wt b≤549755813888):u5v b=some (u6l b):=by
 have hb:u0p=1099511627776:=rfl
 have hbw:=r4r b
 have n1:=t8r (t:=u0c) b.1
 have n2:=t8r (t:=u1f) b.2.1
 have n3:=t8r (t:=u1f) b.2.2.1
 have L1:=t26 u9h b.1.length (fun i=>(b,i)) (fun i=>(fun v:u14=>decide (v.2.2.2≤b.2.2.2.1)) (rdL u0c b.1 i)) (.inl b) (.inr false)
  (by rw[s8d];simp only[t3m,u0b,Nat.lt_irrefl,decide_false,cond_false])
  (fun i hi=>by
   rw[s8d];simp only[t3m,u0b,hi,decide_true,cond_true,y7t hi,zTn,y7l (show i<4611686018427387904 by omega),r9r (rdL u0c b.1 i).2.2.2 b.2.2.2.1]
   cases decide ((rdL u0c b.1 i).2.2.2≤b.2.2.2.1)<;>rfl)
 rw[t7x (t:=u0c) b.1 (fun v:u14=>decide (v.2.2.2≤b.2.2.2.1))] at L1
 have il:∀(l:List u0g) (i:Nat),i≤l.length→(u3z (l.take i)).length=i:=fun l i h=>by unfold u3z;simp;omega
 have L2:=t26 u5a b.2.1.length (fun i=>(b,u3z (b.2.1.take i.toNat),i)) (fun i=>(fun t:u0g=>u8j t&&(decide (t.2.1=3)&&decide (t.2.2.2.1≤b.2.2.2.1))) (rdL u1f b.2.1 i)&&(decide (i=0) || (fun x y:u0g=>decide (x.2.2.2.1<y.2.2.2.1)) (rdL u1f b.2.1 (i - 1)) (rdL u1f b.2.1 i))) (.inl (b,u3z b.2.1)) (.inr false)
  (by rw[s5i];simp only[t1u,u0b,Nat.lt_irrefl,decide_false,cond_false,zTn,List.take_length])
  (fun i hi=>by
   have hm:rdL u1f b.2.1 i∈b.2.1:=by rw[y8k hi];exact List.getElem_mem hi
   have ht:=r5n hm
   have hk:=t25 (rdL u1f b.2.1 i) (by omega)
   rw[s5i];simp only[t1u,u0b,hi,decide_true,cond_true,y7t hi,zTn,y7l (show i<4611686018427387904 by omega),r9r (rdL u1f b.2.1 i).2.2.2.1 b.2.2.2.1,t7g,zOb]
   rw[hk]
   have hc:Nat.ble ((u3z (b.2.1.take i)).length+ [(rdL u1f b.2.1 i).1].length) z7w=true:=u04 (by rw[il _ _ (by omega)];simp;omega)
   simp only[zOb]
   rw[hc,q96 _ hi]
   generalize u8j (rdL u1f b.2.1 i)=b1
   generalize decide ((rdL u1f b.2.1 i).2.1=3)=b2
   generalize decide ((rdL u1f b.2.1 i).2.2.2.1≤b.2.2.2.1)=b3
   by_cases h0:i=0
   ·subst h0;simp only[decide_true,Bool.not_true,cond_false,Bool.true_or,Bool.and_true]
    cases b1<;>cases b2<;>cases b3<;>rfl
   ·simp only[h0,decide_false,Bool.not_false,cond_true,Bool.false_or,t4q (show i<4611686018427387904 by omega) h0,y7t (show i - 1<b.2.1.length by omega),zTn,r9p (rdL u1f b.2.1 (i - 1)).2.2.2.1 (rdL u1f b.2.1 i).2.2.2.1]
    generalize decide ((rdL u1f b.2.1 (i - 1)).2.2.2.1<(rdL u1f b.2.1 i).2.2.2.1)=b4
    cases b1<;>cases b2<;>cases b3<;>cases b4<;>rfl)
 rw[s26 (t:=u1f) b.2.1 (fun t:u0g=>u8j t&&(decide (t.2.1=3)&&decide (t.2.2.2.1≤b.2.2.2.1))) (fun x y:u0g=>decide (x.2.2.2.1<y.2.2.2.1))] at L2
 have L3:=t26 u7x b.2.2.1.length (fun i=>(b,u3z b.2.1++u3z (b.2.2.1.take i.toNat),i)) (fun i=>(fun t:u0g=>u8j t&&(decide (t.2.1=2)&&decide (t.2.2.1≤b.2.2.2.1))) (rdL u1f b.2.2.1 i)&&(decide (i=0) || (fun x y:u0g=>y3c x.2.2.2.2.2.2.2 y.2.2.2.2.2.2.2) (rdL u1f b.2.2.1 (i - 1)) (rdL u1f b.2.2.1 i))) (.inl (b,u3z (b.2.1++b.2.2.1))) (.inr false)
  (by rw[s5j];simp only[t1v,u0b,Nat.lt_irrefl,decide_false,cond_false,zTn,List.take_length];unfold u3z;rw[List.map_append])
  (fun i hi=>by
   have hm:rdL u1f b.2.2.1 i∈b.2.2.1:=by rw[y8k hi];exact List.getElem_mem hi
   have ht:=r5n hm
   have hk:=t25 (rdL u1f b.2.2.1 i) (by omega)
   rw[s5j];simp only[t1v,u0b,hi,decide_true,cond_true,y7t hi,zTn,y7l (show i<4611686018427387904 by omega),r9r (rdL u1f b.2.2.1 i).2.2.1 b.2.2.2.1,t7g,zOb]
   rw[hk]
   have hz:(u3z b.2.1).length=b.2.1.length:=by unfold u3z;simp
   have hc:Nat.ble ((u3z b.2.1++u3z (b.2.2.1.take i)).length+ [(rdL u1f b.2.2.1 i).1].length) z7w=true:=u04 (by rw[List.length_append,il _ _ (by omega),hz];simp;omega)
   simp only[zOb]
   rw[hc,List.append_assoc,q96 _ hi]
   generalize u8j (rdL u1f b.2.2.1 i)=b1
   generalize decide ((rdL u1f b.2.2.1 i).2.1=2)=b2
   generalize decide ((rdL u1f b.2.2.1 i).2.2.1≤b.2.2.2.1)=b3
   by_cases h0:i=0
   ·subst h0;simp only[decide_true,Bool.not_true,cond_false,Bool.true_or,Bool.and_true]
    cases b1<;>cases b2<;>cases b3<;>rfl
   ·simp only[h0,decide_false,Bool.not_false,cond_true,Bool.false_or,t4q (show i<4611686018427387904 by omega) h0,y7t (show i - 1<b.2.2.1.length by omega),zTn]
    generalize y3c (rdL u1f b.2.2.1 (i - 1)).2.2.2.2.2.2.2 (rdL u1f b.2.2.1 i).2.2.2.2.2.2.2=b4
    cases b1<;>cases b2<;>cases b3<;>cases b4<;>rfl)
 rw[s26 (t:=u1f) b.2.2.1 (fun t:u0g=>u8j t&&(decide (t.2.1=2)&&decide (t.2.2.1≤b.2.2.2.1))) (fun x y:u0g=>y3c x.2.2.2.2.2.2.2 y.2.2.2.2.2.2.2)] at L3
 have L2' :u5a (b, [],0)=_:=L2
 have e:u3z b.2.1++u3z (b.2.2.1.take (0:Int).toNat)=u3z b.2.1:=by simp[u3z]
 rw[e] at L3
 have hI:=q56 b (u3z (b.2.1++b.2.2.1)) (by unfold u3z;rw[List.length_map,List.length_append];omega)
 have hV:=r8b b.1 (by omega)
 rw[q4l];unfold r2l
 rw[hV]
 simp only[s1o,o0b,gt3,zOb]
 unfold u6l q99 q5n
 generalize u5l b.1=c1
 generalize inB b.2.2.2.1 0 9999=c3
 generalize inB b.2.2.2.2 1 9999=c4
 generalize decide (b.2.1.length≤12)=c5
 generalize decide (b.2.2.1.length≤3)=c6
 generalize ha1:b.1.all (fun v:u14=>decide (v.2.2.2≤b.2.2.2.1))=a1 at L1
 generalize ha2:b.2.1.all (fun t:u0g=>u8j t&&(decide (t.2.1=3)&&decide (t.2.2.2.1≤b.2.2.2.1)))=a2 at L2'
 generalize ha3:q2z u1f (fun x y:u0g=>decide (x.2.2.2.1<y.2.2.2.1)) b.2.1=a3 at L2'
 generalize ha4:b.2.2.1.all (fun t:u0g=>u8j t&&(decide (t.2.1=2)&&decide (t.2.2.1≤b.2.2.2.1)))=a4 at L3
 generalize ha5:q2z u1f (fun x y:u0g=>y3c x.2.2.2.2.2.2.2 y.2.2.2.2.2.2.2) b.2.2.1=a5 at L3
 generalize r3x (u3z (b.2.1++b.2.2.1)) b.2.2.2.2=a6 at hI
 have hR:((u9h (b,0)).bind fun r5=>match r5 with
  | .inl o6=>(u5a (o6, [],0)).bind fun r9=>match r9 with
   | .inl o10=>(u7x (o10.1,o10.2,0)).bind fun r13=>match r13 with
    | .inl o14=>(u5b (o14.1,o14.2,0)).bind fun r18=>match r18 with
     | .inl o19=>some true
     | .inr z20=>some z20
    | .inr z21=>some z21
   | .inr z22=>some z22
  | .inr z23=>some z23)=some (a1&&((a2&&a3)&&((a4&&a5)&&a6))):=by
  rw[L1]
  cases a1
  ·rfl
  ·simp only[cond_true,zOb,Bool.true_and]
   rw[L2']
   cases (a2&&a3)
   ·rfl
   ·simp only[cond_true,zOb,Bool.true_and]
    rw[L3]
    cases (a4&&a5)
    ·rfl
    ·simp only[cond_true,zOb,Bool.true_and]
     rw[hI]
     cases a6<;>rfl
 cases c1<;>cases c3<;>cases c4<;>cases c5<;>cases c6<;>simp only[Bool.not_true,Bool.not_false,cond_true,cond_false,zOb,Bool.false_and,Bool.and_false,Bool.true_and,Bool.and_true]
 exact hR
theorem p6f (e:u2b):o0z.wt e=p8j.wt e.1+(Ty.sl u1f).wt e.2:=rfl
theorem p4w {b:u0i} {o:List u0g} (hb:r3x (u3z (b.2.1++b.2.2.1)) b.2.2.2.2=true) (ho:q2z u1f (fun x y:u0g=>decide (x.1<y.1)) o=true):
 r3x (u3z (b.2.1++b.2.2.1++o)) b.2.2.2.2=o.all (fun t=>decide (t.1<b.2.2.2.2)&&((b.2.1.all fun x=> !decide (x.1=t.1))&&(b.2.2.1.all fun x=> !decide (x.1=t.1)))):=by
 rw[o06 (f:=fun t=>t.1)] at ho
 obtain⟨h1,h2⟩:=s7i.mp hb
 rw[Bool.eq_iff_iff,s7i,List.all_eq_true]
 simp only[Bool.and_eq_true,decide_eq_true_eq,List.all_eq_true,Bool.not_eq_true',decide_eq_false_iff_not]
 unfold u3z at*
 constructor
 ·rintro⟨k1,k2⟩ t ht
  rw[List.map_append,List.nodup_append] at k2
  refine⟨k1 _ (List.mem_map.mpr ⟨t,by simp[ht],rfl⟩),fun x hx=> ?_,fun x hx=> ?_⟩
  ·exact k2.2.2 _ (List.mem_map.mpr ⟨x,by simp[hx],rfl⟩) _ (List.mem_map.mpr ⟨t,ht,rfl⟩)
  ·exact k2.2.2 _ (List.mem_map.mpr ⟨x,by simp[hx],rfl⟩) _ (List.mem_map.mpr ⟨t,ht,rfl⟩)
 ·intro k
  constructor
  ·intro x hx
   obtain⟨t,ht,rfl⟩:=List.mem_map.mp hx
   rcases List.mem_append.mp ht with q | q
   ·exact h1 _ (List.mem_map.mpr ⟨t,q,rfl⟩)
   ·exact(k t q).1
  ·rw[List.map_append,List.nodup_append]
   refine⟨h2,?_,?_⟩
   ·rw[List.nodup_iff_pairwise_ne,List.pairwise_map]
    exact ho.imp fun {a b} q e=>by omega
   ·intro a ha c hc e
    obtain⟨x,hx,rfl⟩:=List.mem_map.mp ha
    obtain⟨t,ht,rfl⟩:=List.mem_map.mp hc
    rcases List.mem_append.mp hx with q | q
    ·exact(k t ht).2.1 x q e
    ·exact(k t ht).2.2 x q e
theorem q3w (e:u2b) (hw:o0z.wt e≤549755813888):t8g e=some (p4t e):=by
 have hb:u0p=1099511627776:=rfl
 have hew:=p6f e
 have hbw:=r4r e.1
 have n1:=t8r (t:=u1f) e.2
 have n2:=t8r (t:=u1f) e.1.2.1
 have n3:=t8r (t:=u1f) e.1.2.2.1
 have I1:∀(j:Int) (t:u0g),u5q (e,j,t,0)=some (bif (e.1.2.1.all fun x=> !decide (x.1=t.1)) then .inl (e,j,t) else .inr false):=fun j t=>by
  have L:=t26 u5q e.1.2.1.length (fun i=>(e,j,t,i)) (fun i=>(fun x:u0g=> !decide (x.1=t.1)) (rdL u1f e.1.2.1 i)) (.inl (e,j,t)) (.inr false)
   (by rw[t98];simp only[u8v,u0b,Nat.lt_irrefl,decide_false,cond_false])
   (fun i hi=>by
    rw[t98];simp only[u8v,u0b,hi,decide_true,cond_true,y7t hi,zTn,y7l (show i<4611686018427387904 by omega)]
    cases decide ((rdL u1f e.1.2.1 i).1=t.1)<;>rfl)
  rw[t7x (t:=u1f) e.1.2.1 (fun x:u0g=> !decide (x.1=t.1))] at L
  exact L
 have I2:∀(j:Int) (t:u0g),u4b (e,j,t,0)=some (bif (e.1.2.2.1.all fun x=> !decide (x.1=t.1)) then .inl (e,j) else .inr false):=fun j t=>by
  have L:=t26 u4b e.1.2.2.1.length (fun i=>(e,j,t,i)) (fun i=>(fun x:u0g=> !decide (x.1=t.1)) (rdL u1f e.1.2.2.1 i)) (.inl (e,j)) (.inr false)
   (by rw[t99];simp only[u8w,u0b,Nat.lt_irrefl,decide_false,cond_false])
   (fun i hi=>by
    rw[t99];simp only[u8w,u0b,hi,decide_true,cond_true,y7t hi,zTn,y7l (show i<4611686018427387904 by omega)]
    cases decide ((rdL u1f e.1.2.2.1 i).1=t.1)<;>rfl)
  rw[t7x (t:=u1f) e.1.2.2.1 (fun x:u0g=> !decide (x.1=t.1))] at L
  exact L
 have L:=t26 u4w e.2.length (fun i=>(e,i)) (fun i=>(fun t:u0g=>(u8j t&&(decide (t.2.1=1)&&decide (t.2.2.1≤e.1.2.2.2.1)))&&(decide (t.1<e.1.2.2.2.2)&&((e.1.2.1.all fun x=> !decide (x.1=t.1))&&(e.1.2.2.1.all fun x=> !decide (x.1=t.1))))) (rdL u1f e.2 i)&&(decide (i=0) || (fun x y:u0g=>decide (x.1<y.1)) (rdL u1f e.2 (i - 1)) (rdL u1f e.2 i))) (.inl ()) (.inr false)
  (by rw[s2j];simp only[u97,u0b,Nat.lt_irrefl,decide_false,cond_false])
  (fun i hi=>by
   have hm:rdL u1f e.2 i∈e.2:=by rw[y8k hi];exact List.getElem_mem hi
   have ht:=r5n hm
   have hk:=t25 (rdL u1f e.2 i) (by omega)
   have k1:=I1 (i:Int) (rdL u1f e.2 i)
   have k2:=I2 (i:Int) (rdL u1f e.2 i)
   rw[s2j];simp only[u97,u0b,hi,decide_true,cond_true,y7t hi,zTn,y7l (show i<4611686018427387904 by omega),r9r (rdL u1f e.2 i).2.2.1 e.1.2.2.2.1,r9p (rdL u1f e.2 i).1 e.1.2.2.2.2,t7g,zOb]
   rw[hk,k1]
   simp only[zOb]
   generalize u8j (rdL u1f e.2 i)=b1
   generalize decide ((rdL u1f e.2 i).2.1=1)=b2
   generalize decide ((rdL u1f e.2 i).2.2.1≤e.1.2.2.2.1)=b3
   generalize decide ((rdL u1f e.2 i).1<e.1.2.2.2.2)=b5
   generalize (e.1.2.1.all fun x=> !decide (x.1=(rdL u1f e.2 i).1))=b6
   generalize (e.1.2.2.1.all fun x=> !decide (x.1=(rdL u1f e.2 i).1))=b7 at k2 ⊢
   have tail:((bif b6 then Sum.inl (e,(i:Int),rdL u1f e.2 i) else Sum.inr false:(u2b×Int×u0g)⊕Bool) |>fun r5=>(match r5 with
    | .inl o6=>(u4b (o6.1,o6.2.1,o6.2.2,0)).bind fun r7=>match r7 with
     | .inl o8=>u4w (o8.1,IntKind.i64.wrap (o8.2+1))
     | .inr z9=>some (.inr z9)
    | .inr z10=>some (.inr z10)))=bif b6&&b7 then u4w (e,((i+1:Nat):Int)) else some (.inr false):=by
    cases b6
    ·rfl
    ·simp only[cond_true]
     rw[k2]
     cases b7
     ·rfl
     ·simp only[cond_true,zOb,y7l (show i<4611686018427387904 by omega)];rfl
   by_cases h0:i=0
   ·subst h0;simp only[decide_true,Bool.not_true,cond_false,Bool.true_or,Bool.and_true]
    cases b1<;>cases b2<;>cases b3<;>cases b5<;>try rfl
    exact tail
   ·simp only[h0,decide_false,Bool.not_false,cond_true,Bool.false_or,t4q (show i<4611686018427387904 by omega) h0,y7t (show i - 1<e.2.length by omega),zTn,r9p (rdL u1f e.2 (i - 1)).1 (rdL u1f e.2 i).1]
    generalize decide ((rdL u1f e.2 (i - 1)).1<(rdL u1f e.2 i).1)=b4
    cases b1<;>cases b2<;>cases b3<;>cases b5<;>cases b4<;>(first | rfl | (rw[Bool.and_false];rfl) | (rw[Bool.and_true];exact tail)))
 rw[s26 (t:=u1f) e.2 (fun t:u0g=>(u8j t&&(decide (t.2.1=1)&&decide (t.2.2.1≤e.1.2.2.2.1)))&&(decide (t.1<e.1.2.2.2.2)&&((e.1.2.1.all fun x=> !decide (x.1=t.1))&&(e.1.2.2.1.all fun x=> !decide (x.1=t.1))))) (fun x y:u0g=>decide (x.1<y.1)),p2v] at L
 have hB:=t4u e.1 (by omega)
 rw[r82];unfold s6t
 rw[hB]
 simp only[zOb,gt4]
 rw[L]
 unfold p4t p3j
 cases h1:u6l e.1
 ·rfl
 ·have hbi:r3x (u3z (e.1.2.1++e.1.2.2.1)) e.1.2.2.2.2=true:=by
   have:=q21.mp h1
   exact s7i.mpr ⟨this.below,this.nodup⟩
  cases ha:q2z u1f (fun x y:u0g=>decide (x.1<y.1)) e.2
  ·cases decide (e.2.length≤4)<;>simp
  ·rw[p4w hbi ha]
   cases decide (e.2.length≤4)
   ·rfl
   ·simp only[Bool.not_true,cond_false,zOb,Bool.true_and,Bool.and_true]
    cases (e.2.all fun t:u0g=>u8j t&&(decide (t.2.1=1)&&decide (t.2.2.1≤e.1.2.2.2.1)))
    ·rfl
    ·simp only[Bool.true_and]
     cases (e.2.all fun t:u0g=>decide (t.1<e.1.2.2.2.2)&&((e.1.2.1.all fun x=> !decide (x.1=t.1))&&(e.1.2.2.1.all fun x=> !decide (x.1=t.1))))<;>rfl
end
section
theorem r4v {E:Type} (a:List E) (n:Nat) (h:n≤a.length) (z:List E):(a.take n++z).take n=a.take n:=by
 rw[List.take_append_of_le_length (by rw[List.length_take];omega),List.take_take,Nat.min_self]
theorem u9q {E:Type} (p:E→Bool) (l:List E):(l.filter p).length≤l.length:=List.length_filter_le _ _
theorem q8p (l:List u0g) (c:Int) (hl:l.length≤8388608):u1s (l,c)=some (l.filter fun x=> !decide (x.2.2.2.1≤c)):=by
 have hq:∀x∈l,u6n (x,c)=some (decide (x.2.2.2.1≤c)):=fun x _=>by rw[r8r];rfl
 have L:=Q.first (T:=u1f) (c:=Int) (W:=u1b) (q:=u6n) (p:=fun x:u0g=>decide (x.2.2.2.1≤c)) (fun x=>u7m x) l c (by omega) hq
 rw[u8d];unfold u3j
 simp only[u8p,u3u,L,zOb]
 by_cases hk:u0q (fun x:u0g=>decide (x.2.2.2.1≤c)) l<l.length
 ·obtain⟨a,e1,e2,e3⟩:=Q.delete (T:=u1f) (c:=Int) (W:=u05) (q:=u6n) (p:=fun x:u0g=>decide (x.2.2.2.1≤c)) (fun x=>u6w x) l c (by omega) hq hk
  have hn:=u9q (fun x:u0g=> !decide (x.2.2.2.1≤c)) l
  obtain⟨n,hne⟩:∃n,n=(l.filter fun x:u0g=> !decide (x.2.2.2.1≤c)).length:=⟨_,rfl⟩
  rw[←hne] at e1 e3 hn
  have c1:decide (((u0q (fun x:u0g=>decide (x.2.2.2.1≤c)) l:Nat):Int)= -1)=false:=by simp
  have c2:decide ((0:Int)≤(n:Int))=true:=by simp
  have c3:decide ((n:Int)≤(a.length:Int))=true:=by simp;omega
  have c4:decide ((a.length:Int)≤(a.length:Int))=true:=by simp
  have hw:=y7l (i:=u0q (fun x:u0g=>decide (x.2.2.2.1≤c)) l) (by omega)
  simp only[if_pos hk,zOb,c1,cond_false,hw,e1,c2,c3,c4,Bool.and_self,cond_true,zTn,decide_true,Int.le_refl]
  have c5:decide ((n:Int)≤((a.take n++List.replicate (a.length - n) u1f.zero++a.drop (n+(a.length - n))).length:Int))=true:=by simp;omega
  have c6:(a.take n++List.replicate (a.length - n) u1f.zero++a.drop (n+(a.length - n))).take (n - (0:Int).toNat)=l.filter fun x:u0g=> !decide (x.2.2.2.1≤c):=by
   rw[List.append_assoc,Int.toNat_zero,Nat.sub_zero,r4v a n (by omega),e3]
  simp only[c5,Bool.and_self,cond_true,c6]
 ·have hall:(l.filter fun x:u0g=> !decide (x.2.2.2.1≤c))=l:=by
   rw[List.filter_eq_self]
   intro x hx
   obtain⟨i,hi,rfl⟩:=List.getElem_of_mem hx
   rw[u8l (p:=fun x:u0g=>decide (x.2.2.2.1≤c)) hi (by omega)]
   rfl
  simp only[if_neg hk,zOb,decide_true,cond_true,hall]
end
section
def u1t (b:u0i) (o:List u0g):u0i:=(u1k b.1 (t32 b o),b.2.1.filter (fun x=> !decide (x.2.2.2.1≤t32 b o)),b.2.2)
theorem t7r (b:u0i) (o:List u0g) (hb:fewB b) (ho:o.length≤4194304):u5u (b,o)=some (u1t b o):=by
 have h1:=t7n b hb
 have h2:=q8s b o ho
 have h3:=q8p b.2.1 (t32 b o) (by have:=hb.2.1.1;omega)
 have h4:=q6k b.1 (t32 b o) (by have:=hb.1;omega)
 rw[q4i];unfold r2g u1t
 simp only[h1,h2,h3,h4,zOb]
theorem s24 (b:u0i) (o:List u0g) (hb:fewB b) (ho:o.length≤4194304):t0x (b,o)=some (u1t b o):=by
 have h1:=t22 b hb
 have h2:=q8t b o ho
 have h4:=q6l b.1 (t32 b o) (by have:=hb.1;omega)
 have hl:=hb.2.1.1
 have L:=s03 t3w b.2.1 (fun a i=>(b,(([], [], [],0,0):u0i),(b.1,a,b.2.2),t32 b o,i)) (fun x=> !decide (x.2.2.2.1≤t32 b o)) (fun x=>x) (fun a=> .inl (b,(([], [], [],0,0):u0i),(b.1,a,b.2.2),t32 b o)) (by omega)
  (fun a _=>by rw[s8j];simp only[t3q,u0b,Nat.lt_irrefl,decide_false,cond_false])
  (fun i hi a ha=>by
   have hc:=u7n b.2.1[i] (hb.2.1.2 _ (List.getElem_mem hi))
   rw[s8j]
   simp only[t3q,u0b,hi,decide_true,cond_true,y7t hi,zTn,y8k (t:=u1f) hi,hc,zOb,List.length_singleton,u04 (show a.length+1≤1099511627776 by omega)]
   rw[y7l (by omega)]
   by_cases h:b.2.1[i].2.2.2.1≤t32 b o
   ·have h' : ¬b.2.1[i].2.2.2.1 >t32 b o:=Int.not_lt.mpr h
    simp[h,h']
   ·have h' :b.2.1[i].2.2.2.1 >t32 b o:=Int.not_le.mp h
    simp[h,h'])
 rw[List.map_id'] at L
 rw[q4z];unfold r2z u1t
 simp only[h1,h2,zOb,L,h4]
end
section
theorem p0w (l:List u0g) (c:u0g) (hl:l.length≤8388608):u1c (l,c)=some (l.filter fun x=> !decide (x.1=c.1)):=by
 have hq:∀x∈l,u5f (x,c)=some (decide (x.1=c.1)):=fun x _=>by rw[r64];rfl
 have L:=Q.first (T:=u1f) (c:=u0g) (W:=u08) (q:=u5f) (p:=fun x:u0g=>decide (x.1=c.1)) (fun x=>u6z x) l c (by omega) hq
 rw[u7f];unfold u29
 simp only[u8g,u3m,L,zOb]
 by_cases hk:u0q (fun x:u0g=>decide (x.1=c.1)) l<l.length
 ·obtain⟨a,e1,e2,e3⟩:=Q.delete (T:=u1f) (c:=u0g) (W:=u01) (q:=u5f) (p:=fun x:u0g=>decide (x.1=c.1)) (fun x=>u6u x) l c (by omega) hq hk
  have hn:=u9q (fun x:u0g=> !decide (x.1=c.1)) l
  obtain⟨n,hne⟩:∃n,n=(l.filter fun x:u0g=> !decide (x.1=c.1)).length:=⟨_,rfl⟩
  rw[←hne] at e1 e3 hn
  have c1:decide (((u0q (fun x:u0g=>decide (x.1=c.1)) l:Nat):Int)= -1)=false:=by simp
  have c2:decide ((0:Int)≤(n:Int))=true:=by simp
  have c3:decide ((n:Int)≤(a.length:Int))=true:=by simp;omega
  have c4:decide ((a.length:Int)≤(a.length:Int))=true:=by simp
  have hw:=y7l (i:=u0q (fun x:u0g=>decide (x.1=c.1)) l) (by omega)
  simp only[if_pos hk,zOb,c1,cond_false,hw,e1,c2,c3,c4,Bool.and_self,cond_true,zTn,decide_true,Int.le_refl]
  have c5:decide ((n:Int)≤((a.take n++List.replicate (a.length - n) u1f.zero++a.drop (n+(a.length - n))).length:Int))=true:=by simp;omega
  have c6:(a.take n++List.replicate (a.length - n) u1f.zero++a.drop (n+(a.length - n))).take (n - (0:Int).toNat)=l.filter fun x:u0g=> !decide (x.1=c.1):=by
   rw[List.append_assoc,Int.toNat_zero,Nat.sub_zero,r4v a n (by omega),e3]
  simp only[c5,Bool.and_self,cond_true,c6]
 ·have hall:(l.filter fun x:u0g=> !decide (x.1=c.1))=l:=by
   rw[List.filter_eq_self]
   intro x hx
   obtain⟨i,hi,rfl⟩:=List.getElem_of_mem hx
   rw[u8l (p:=fun x:u0g=>decide (x.1=c.1)) hi (by omega)]
   rfl
  simp only[if_neg hk,zOb,decide_true,cond_true,hall]
def r1p (d x:u0g):u0g:=(x.1,x.2.1,x.2.2.1,x.2.2.2.1,x.2.2.2.2.1,x.2.2.2.2.2.1,(x.2.2.2.2.2.2.1 || ahead x d),x.2.2.2.2.2.2.2)
end
section
theorem q9v (t:u0g) (b0:u0i) (v:List u14) (p R:List u0g) (c n:Int) (d:u0g) (hR:q7a R) (hd:r4l d):
 u49 (t,b0,(v,p,R,c,n),d,(),(R.length:Int),0)=some (.inl (t,b0,(v,p,R.map (r1p d),c,n),d)):=by
 have hl:=hR.1
 have L:=r8c u49 R.length (fun(a:List u0g) i=>(t,b0,((v,p,a,c,n):u0i),d,(),(R.length:Int),i)) (fun i=>(R.take i).map (r1p d)++R.drop i) (.inl (t,b0,((v,p,R.map (r1p d),c,n):u0i),d))
  (by
   rw[s5d]
   simp only[t1p,u0b,Nat.lt_irrefl,decide_false,cond_false,List.take_length,List.drop_length,List.append_nil])
  (fun i hi=>by
   have hm:((R.take i).map (r1p d)).length=i:=by simp;omega
   have hd1:R.drop i=R[i] ::R.drop (i+1):=List.drop_eq_getElem_cons hi
   have hal:i<((R.take i).map (r1p d)++R.drop i).length:=by simp;omega
   have hg:((R.take i).map (r1p d)++R.drop i)[i] =R[i] :=by
    rw[List.getElem_append_right (by omega),List.getElem_drop]
    congr 1
    omega
   have hset:∀y:u0g,((R.take i).map (r1p d)++R.drop i).set i y=(R.take i).map (r1p d)++y::R.drop (i+1):=fun y=>by
    rw[List.set_append_right _ _ (by omega),hm,Nat.sub_self,hd1,List.set_cons_zero]
   have hnx:(R.take (i+1)).map (r1p d)++R.drop (i+1)=(R.take i).map (r1p d)++r1p d R[i] ::R.drop (i+1):=by
    rw[List.take_succ_eq_append_getElem hi,List.map_append]
    simp
   have ha:=q2m R[i] d (t7e (hR.2 _ (List.getElem_mem hi)).1) (t7e hd.2)
   rw[s5d]
   simp only[t1p,u0b,hi,decide_true,cond_true,y7t hal,zTn,y8k (t:=u1f) hal,hg,ha,zOb,hset]
   rw[y7l (by omega),hnx]
   unfold r1p
   cases h1:R[i].2.2.2.2.2.2.1 with
   | true=>simp
   | false=>simp)
 simpa using L
end
section
def q26 (b:u0i) (t:u0g):u0g:=(t.1,(3:Int),t.2.2.1,IntKind.i64.wrap (b.2.2.2.1+1),t.2.2.2.2.1,t.2.2.2.2.2.1,(t.2.2.2.2.2.2.1 || s7y t b.2.1),(⟨#[]⟩:ByteArray))
def t7l (b:u0i) (t:u0g):u0i:=
 (t1d b.1 t.2.2.2.2.2.1 (IntKind.i64.wrap (b.2.2.2.1+1)),b.2.1++ [q26 b t],(b.2.2.1.filter fun x=> !decide (x.1=t.1)).map (r1p (q26 b t)),IntKind.i64.wrap (b.2.2.2.1+1),y8h b.2.2.2.2 (IntKind.i64.wrap (t.1+1)))
theorem q6h (b:u0i) (t:u0g) (hb:fewB b) (ht:r4l t):t1e (b,t)=some (t7l b t):=by
 have h1:=t7n b hb
 have h2:=r71 t ht
 have h3:=r6u b.1 t.2.2.2.2.2.1 (IntKind.i64.wrap (b.2.2.2.1+1)) (by have:=hb.1;have:=ht.2;omega)
 have h4:=p0w b.2.2.1 t (by have:=hb.2.2.1;omega)
 have h5:=q2s t b.2.1 ht hb.2.1
 have hf:q7a (b.2.2.1.filter fun x=> !decide (x.1=t.1)):=⟨Nat.le_trans (u9q _ _) hb.2.2.1,fun x hx=>hb.2.2.2 x (List.mem_filter.mp hx).1⟩
 have hp:=hb.2.1.1
 have hc:∀d:u0g,Nat.ble (b.2.1.length+([d] :List u0g).length) z7w=true:=fun d=>u04 (by simp;omega)
 rw[q03];unfold s9e t7l q26
 simp only[h1,h2,h3,h4,h5,zOb]
 cases ho:t.2.2.2.2.2.2.1 with
 | true=>
  have hd:r4l ((t.1,(3:Int),t.2.2.1,IntKind.i64.wrap (b.2.2.2.1+1),t.2.2.2.2.1,t.2.2.2.2.2.1,true,(⟨#[]⟩:ByteArray)):u0g):=ht
  have L:=q9v t ([], [], [],0,0) (t1d b.1 t.2.2.2.2.2.1 (IntKind.i64.wrap (b.2.2.2.1+1))) b.2.1 (b.2.2.1.filter fun x=> !decide (x.1=t.1)) (IntKind.i64.wrap (b.2.2.2.1+1)) b.2.2.2.2 _ hf hd
  simp only[cond_true,L,zOb,hc,Bool.true_or]
 | false=>
  have hd:r4l ((t.1,(3:Int),t.2.2.1,IntKind.i64.wrap (b.2.2.2.1+1),t.2.2.2.2.1,t.2.2.2.2.2.1,s7y t b.2.1,(⟨#[]⟩:ByteArray)):u0g):=ht
  have L:=q9v t ([], [], [],0,0) (t1d b.1 t.2.2.2.2.2.1 (IntKind.i64.wrap (b.2.2.2.1+1))) b.2.1 (b.2.2.1.filter fun x=> !decide (x.1=t.1)) (IntKind.i64.wrap (b.2.2.2.1+1)) b.2.2.2.2 _ hf hd
  simp only[cond_false,cond_true,h5,zOb,L,hc,Bool.false_or]
end
section
def r7x (b:u0i) (t:u0g):u0i:=
 ((t7l b t).1,(t7l b t).2.1,(t7l b t).2.2.1,(t7l b t).2.2.2.1,if t.1≥b.2.2.2.2 then IntKind.i64.wrap (t.1+1) else b.2.2.2.2)
theorem q6g (b:u0i) (t:u0g) (b0:u0i) (v:List u14) (p:List u0g) (c n:Int) (d:u0g) (hb:fewB b) (hd:r4l d):
 u4x (b,t,b0,(v,p, [],c,n),d,0)=some (.inl (t,b0,(v,p,(b.2.2.1.filter fun x=> !decide (x.1=t.1)).map (r1p d),c,n))):=by
 have hl:=hb.2.2.1
 exact s03 u4x b.2.2.1 (fun a i=>(b,t,b0,((v,p,a,c,n):u0i),d,i)) (fun x=> !decide (x.1=t.1)) (r1p d) (fun a=> .inl (t,b0,((v,p,a,c,n):u0i))) (by omega)
  (fun a _=>by rw[s2p];simp only[t0d,u0b,Nat.lt_irrefl,decide_false,cond_false])
  (fun i hi a ha=>by
   have h1:=u7n b.2.2.1[i] (hb.2.2.2 _ (List.getElem_mem hi))
   have h2:=u9z b.2.2.1[i] d (t7e (hb.2.2.2 _ (List.getElem_mem hi)).1) (t7e hd.2)
   rw[s2p]
   simp only[t0d,u0b,hi,decide_true,cond_true,y7t hi,zTn,y8k (t:=u1f) hi,h1,h2,zOb,List.length_singleton,u04 (show a.length+1≤1099511627776 by omega)]
   rw[y7l (by omega)]
   cases decide (b.2.2.1[i].1=t.1) with
   | true=>rfl
   | false=>
    simp only[cond_false,Bool.not_false,cond_true]
    unfold r1p
    cases ahead b.2.2.1[i] d with
    | true=>simp
    | false=>simp)
end
section
theorem r5v (b:u0i) (t:u0g) (hb:fewB b) (ht:r4l t):u4u (b,t)=some (r7x b t):=by
 have h1:=t22 b hb
 have h2:=u7n t ht
 have h3:=s3q b.1 t.2.2.2.2.2.1 (IntKind.i64.wrap (b.2.2.2.1+1)) (by have:=hb.1;have:=ht.2;omega)
 have h5:=r4m t b.2.1 ht hb.2.1
 have hp:=hb.2.1.1
 have hc:∀d:u0g,Nat.ble (b.2.1.length+([d] :List u0g).length) z7w=true:=fun d=>u04 (by simp;omega)
 rw[q1n];unfold s9y r7x t7l q26
 simp only[h1,h2,h3,h5,zOb]
 cases ho:t.2.2.2.2.2.2.1 with
 | true=>
  have hd:r4l ((t.1,(3:Int),t.2.2.1,IntKind.i64.wrap (b.2.2.2.1+1),t.2.2.2.2.1,t.2.2.2.2.2.1,true,(⟨#[]⟩:ByteArray)):u0g):=ht
  have L:=fun p=>q6g b t ([], [], [],0,0) (t1d b.1 t.2.2.2.2.2.1 (IntKind.i64.wrap (b.2.2.2.1+1))) p (IntKind.i64.wrap (b.2.2.2.1+1)) b.2.2.2.2 _ hb hd
  simp only[cond_true,L,zOb,hc,Bool.true_or]
  by_cases h:t.1≥b.2.2.2.2<;>simp[h]
 | false=>
  have hd:r4l ((t.1,(3:Int),t.2.2.1,IntKind.i64.wrap (b.2.2.2.1+1),t.2.2.2.2.1,t.2.2.2.2.2.1,s7y t b.2.1,(⟨#[]⟩:ByteArray)):u0g):=ht
  have L:=fun p=>q6g b t ([], [], [],0,0) (t1d b.1 t.2.2.2.2.2.1 (IntKind.i64.wrap (b.2.2.2.1+1))) p (IntKind.i64.wrap (b.2.2.2.1+1)) b.2.2.2.2 _ hb hd
  simp only[cond_false,cond_true,h5,zOb,L,hc,Bool.false_or]
  by_cases h:t.1≥b.2.2.2.2<;>simp[h]
end
section
def smallB (b:u0i):Prop:=b.1.length≤1048576∧(b.2.1.length≤1048576∧ ∀t∈b.2.1,r4l t)∧b.2.2.1.length≤1048576∧ ∀t∈b.2.2.1,r4l t
theorem smallB.few {b:u0i} (h:smallB b):fewB b:=⟨by have:=h.1;omega,⟨by have:=h.2.1.1;omega,h.2.1.2⟩,⟨by have:=h.2.2.1;omega,h.2.2.2⟩⟩
end
section
def r3v (b:u0i):Bool:=decide ((b.2.1.length:Int)≥12) || (decide ((b.1.length:Int) >100) || decide (b.2.2.2.1≥9999))
theorem q7f (b:u0i):t51 b=some (r3v b):=by
 rw[q17];unfold r0j r3v
 cases decide ((b.2.1.length:Int)≥12)<;>cases decide ((b.1.length:Int) >100)<;>rfl
theorem p1o (b:u0i) {n:ByteArray} {i:Nat} (hi:i<b.2.2.1.length) (hn:b.2.2.1[i].2.2.2.2.2.2.2=n):∃k:Nat,k<b.2.2.1.length∧u0n b n=(k:Int):=by
 have h:u0q (fun x:u0g=>z7o x.2.2.2.2.2.2.2 n) b.2.2.1<b.2.2.1.length:=by
  rcases Nat.lt_or_ge (u0q (fun x:u0g=>z7o x.2.2.2.2.2.2.2 n) b.2.2.1) b.2.2.1.length with q | q
  ·exact q
  ·have:=u8l (p:=fun x:u0g=>z7o x.2.2.2.2.2.2.2 n) hi (by omega)
   rw[y7f.mpr hn] at this
   cases this
 exact⟨_,h,if_pos h⟩
end
section
def u1a (n i:Int):Int:=if i<n then n else i+1
def u7c (b:u0i) (t:u0g):u0g:=(t.1,(3:Int),t.2.2.1,b.2.2.2.1+1,t.2.2.2.2.1,t.2.2.2.2.2.1,(t.2.2.2.2.2.2.1 || s7y t b.2.1),(⟨#[]⟩:ByteArray))
def u0m (b:u0i) (t:u0g):u0i:=
 (t1d b.1 t.2.2.2.2.2.1 (b.2.2.2.1+1),b.2.1++ [u7c b t],(b.2.2.1.filter fun x=> !decide (x.1=t.1)).map (r1p (u7c b t)),b.2.2.2.1+1,u1a b.2.2.2.2 t.1)
def u3r (b:u0i) (t:u0g) (n:ByteArray):u0g:=(t.1,(2:Int),t.2.2.1,t.2.2.2.1,t.2.2.2.2.1,t.2.2.2.2.2.1,(t.2.2.2.2.2.2.1 || s7y t b.2.1),n)
def u1o (b:u0i) (t:u0g) (n:ByteArray):u0i:=
 (b.1,b.2.1,(b.2.2.1.filter fun x=>y3c x.2.2.2.2.2.2.2 n)++ [u3r b t n] ++(b.2.2.1.filter fun x=> !y3c x.2.2.2.2.2.2.2 n),b.2.2.2.1,u1a b.2.2.2.2 t.1)
def t2y (b:u0i) (n:ByteArray):u0i:=(b.1,b.2.1,(b.2.2.1.filter fun x=> !z7o x.2.2.2.2.2.2.2 n),b.2.2.2.1,b.2.2.2.2)
def p4e (n:Int):Prop:= -1000000≤n∧n≤1000000
theorem t54 {n:Int} (h:p4e n):IntKind.i64.wrap (n+1)=n+1:=by
 obtain⟨h1,h2⟩:=h
 rw[y4y (by omega) (by omega)]
theorem q0g {b:u0i} {t:u0g} (hc:p4e b.2.2.2.1) (hi:p4e t.1):t7l b t=u0m b t:=by
 have e:q26 b t=u7c b t:=by unfold q26 u7c;rw[t54 hc]
 unfold t7l u0m
 rw[e,t54 hc,t54 hi]
 unfold y8h u1a
 congr 4
 by_cases h:t.1<b.2.2.2.2
 ·rw[if_pos h,if_neg (by omega)]
 ·rw[if_neg h,if_pos (by omega)]
theorem q0h {b:u0i} {t:u0g} (hc:p4e b.2.2.2.1) (hi:p4e t.1):r7x b t=u0m b t:=by
 unfold r7x
 rw[q0g hc hi,t54 hi]
 unfold u0m u1a
 congr 4
 by_cases h:t.1<b.2.2.2.2
 ·rw[if_pos h,if_neg (by omega)]
 ·rw[if_neg h,if_pos (by omega)]
def uq (l:List u0g):Prop:=l.Pairwise fun a b=>a.1≠b.1
theorem q3p {l:List u0g} :(u3z l).Nodup↔uq l:=by
 unfold u3z uq;rw[List.nodup_iff_pairwise_ne,List.pairwise_map]
theorem o3a {a b:List u0g} :uq (a++b)↔uq a∧uq b∧ ∀x∈a,∀y∈b,x.1≠y.1:=List.pairwise_append
theorem q0j {l:List u0g} (h:uq l) (p:u0g→Bool):uq (l.filter p):=List.Pairwise.filter p h
theorem p89 {l:List u0g} (f:u0g→u0g) (hf:∀x,(f x).1=x.1) (h:uq l):uq (l.map f):=by
 unfold uq;rw[List.pairwise_map];simp only[hf];exact h
theorem p32 {t:u0g} :uq [t] :=List.pairwise_singleton _ _
theorem p9a {l:List u0g} :uq l→ ∀x∈l,∀y∈l,x.1=y.1→x=y:=by
 induction l with
 | nil=>intro _ x hx;cases hx
 | cons z l ih=>
  intro h x hx y hy e
  have h' :=List.pairwise_cons.mp h
  rcases List.mem_cons.mp hx with rfl | hx' <;>rcases List.mem_cons.mp hy with rfl | hy'
  ·rfl
  ·exact absurd e (h'.1 y hy')
  ·exact absurd e.symm (h'.1 x hx')
  ·exact ih h'.2 x hx' y hy' e
theorem t7z {l:List u0g} {n:Int} :(∀x∈u3z l,x<n)↔ ∀t∈l,t.1<n:=by
 unfold u3z
 constructor
 ·exact fun h t ht=>h _ (List.mem_map.mpr ⟨t,ht,rfl⟩)
 ·intro h x hx
  obtain⟨t,ht,rfl⟩:=List.mem_map.mp hx
  exact h t ht
theorem p8p {d x:u0g} (h:TxnR x) (hs:x.2.1=2):TxnR (r1p d x):=
 ⟨h.id,h.st,h.snap,h.rlen,h.ws,h.rs,h.done,h.nocs,h.name,h.noname,fun e=>by have e:x.2.1=1:=e;omega⟩
theorem q81 {b:u0i} {t:u0g} (ht:TxnR t) (hs:t.2.2.1≤b.2.2.2.1) (hc:b.2.2.2.1<9999):TxnR (u7c b t):=
 ⟨ht.id,⟨by show(1:Int)≤3;omega,by show(3:Int)≤3;omega⟩,ht.snap,ht.rlen,ht.ws,ht.rs,fun _=>⟨by show t.2.2.1+1≤b.2.2.2.1+1;omega,by show b.2.2.2.1+1≤9999;omega⟩,
   fun e=>absurd rfl e,fun e=>by have e:(3:Int)=2:=e;omega,fun _=>rfl,fun e=>by have e:(3:Int)=1:=e;omega⟩
theorem q5o {b:u0i} {t:u0g} {n:ByteArray} (ht:TxnR t) (hs:t.2.1≠3) (hn:u48 n=true):TxnR (u3r b t n):=
 ⟨ht.id,⟨by show(1:Int)≤2;omega,by show(2:Int)≤3;omega⟩,ht.snap,ht.rlen,ht.ws,ht.rs,fun e=>by have e:(2:Int)=3:=e;omega,
   fun _=>ht.nocs hs,fun _=>hn,fun e=>absurd rfl e,fun e=>by have e:(2:Int)=1:=e;omega⟩
theorem p50 {w:WrT} {c:Int} (h:u19 w=true) (h1:1≤c) (h2:c≤9999):r12 (w.1,w.2.1,w.2.2,c)=true:=by
 unfold u19 at h
 unfold r12
 simp only[Bool.and_eq_true,r5b] at h ⊢
 exact⟨h.1,h.2.1,h.2.2,h1,h2⟩
theorem p5e {l:List u14} {ws:List WrT} {c:Int} (hl:u5l l=true) (hv:∀v∈l,v.2.2.2≤c) (hw:u2i ws=true) (h0:0≤c) (h9:c<9999) (hn:l.length≤112):
 u5l (t1d l ws (c+1))=true∧ ∀v∈t1d l ws (c+1),v.2.2.2≤c+1:=by
 obtain⟨h1,h2,h3⟩:=p4f.mp hl
 obtain⟨w1,w2,w3⟩:=p6l.mp hw
 refine⟨p4f.mpr ⟨fun v h=> ?_,r32 ws h2 (q0n hw) fun x hx w _ q=>by have:=hv x hx;have:vCs x=c+1:=q.2;unfold vCs at this;omega,by rw[r33];omega⟩,fun v h=> ?_⟩
 ·rcases(t30 ws l (c+1)).mp h with h | ⟨w,hw,rfl⟩
  ·exact h1 v h
  ·exact p50 (w1 w hw) (by omega) (by omega)
 ·rcases(t30 ws l (c+1)).mp h with h | ⟨w,hw,rfl⟩
  ·have:=hv v h;omega
  ·exact Int.le_refl _
theorem q7p {n i:Int} (h:i<n):u1a n i=n:=if_pos h
theorem u9u (n i:Int):n≤u1a n i∧i<u1a n i:=by unfold u1a;split<;>omega
theorem q0i {b:u0i} {t:u0g} (hb:BaseR b) (ht:TxnR t) (hs:t.2.2.1≤b.2.2.2.1) (hc:b.2.2.2.1<9999) (hp:b.2.1.length<12) (hv:b.1.length≤112)
 (hid:∀x∈b.2.1,x.1≠t.1) (hn:t.1<9999):BaseR (u0m b t):=by
 have c0:=hb.cs.1
 obtain⟨v1,v2⟩:=p5e hb.vs hb.vcs ht.ws c0 hc hv
 have hu:=q3p.mp hb.nodup
 have hbl:=t7z.mp hb.below
 obtain⟨u1,u2,u3⟩:=o3a.mp hu
 have hg:=u9u b.2.2.2.2 t.1
 have hnx:u1a b.2.2.2.2 t.1≤9999:=by have:=hb.next.2;unfold u1a;split<;>omega
 refine⟨v1,v2,⟨by show 0≤b.2.2.2.1+1;omega,by show b.2.2.2.1+1≤9999;omega⟩,⟨by show 1≤u1a b.2.2.2.2 t.1;have:=hb.next.1;omega,hnx⟩,?_,?_,?_,?_,?_,?_,?_,?_⟩
 ·show(b.2.1++ [u7c b t]).length≤12
  simp only[List.length_append,List.length_singleton];omega
 ·intro x hx
  rcases List.mem_append.mp hx with hx | hx
  ·obtain⟨q1,q2,q3⟩:=hb.past x hx
   exact⟨q1,q2,by show x.2.2.2.1≤b.2.2.2.1+1;omega⟩
  ·rw[List.mem_singleton] at hx
   subst hx
   exact⟨q81 ht hs hc,rfl,Int.le_refl _⟩
 ·show(b.2.1++ [u7c b t]).Pairwise _
  rw[List.pairwise_append]
  refine⟨hb.pasc,List.pairwise_singleton _ _,fun x hx y hy=> ?_⟩
  rw[List.mem_singleton] at hy
  subst hy
  have:=(hb.past x hx).2.2
  show x.2.2.2.1<b.2.2.2.1+1
  omega
 ·show((b.2.2.1.filter _).map _).length≤3
  rw[List.length_map]
  exact Nat.le_trans (List.length_filter_le _ _) hb.rlen
 ·intro x hx
  obtain⟨y,hy,rfl⟩:=List.mem_map.mp hx
  obtain⟨q1,q2,q3⟩:=hb.ready y (List.mem_filter.mp hy).1
  exact⟨p8p q1 q2,q2,by show y.2.2.1≤b.2.2.2.1+1;omega⟩
 ·show((b.2.2.1.filter _).map _).Pairwise _
  rw[List.pairwise_map]
  exact(List.Pairwise.filter _ hb.rasc)
 ·rw[t7z]
  intro x hx
  show x.1<u1a b.2.2.2.2 t.1
  rcases List.mem_append.mp hx with hx | hx
  ·rcases List.mem_append.mp hx with hx | hx
   ·have:=hbl x (List.mem_append_left _ hx);omega
   ·rw[List.mem_singleton] at hx;subst hx;exact hg.2
  ·obtain⟨y,hy,rfl⟩:=List.mem_map.mp hx
   have:=hbl y (List.mem_append_right _ (List.mem_filter.mp hy).1)
   show y.1<_
   omega
 ·rw[q3p]
  refine o3a.mpr ⟨o3a.mpr ⟨u1,p32,fun x hx y hy=> ?_⟩,p89 _ (fun _=>rfl) (q0j u2 _),fun x hx y hy=> ?_⟩
  ·rw[List.mem_singleton] at hy;subst hy;exact hid x hx
  ·obtain⟨z,hz,rfl⟩:=List.mem_map.mp hy
   obtain⟨z1,z2⟩:=List.mem_filter.mp hz
   show x.1≠z.1
   rcases List.mem_append.mp hx with hx | hx
   ·exact u3 x hx z z1
   ·rw[List.mem_singleton] at hx;subst hx
    intro e
    simp only[Bool.not_eq_true',decide_eq_false_iff_not] at z2
    exact z2 e.symm
theorem t00 {b:u0i} (hb:BaseR b) (o:List u0g):BaseR (u1t b o):=by
 obtain⟨h1,h2,h3⟩:=p4f.mp hb.vs
 have sv:=u53 b.1 (t32 b o)
 have sp:(b.2.1.filter fun x=> !decide (x.2.2.2.1≤t32 b o)).Sublist b.2.1:=List.filter_sublist
 have si:((b.2.1.filter fun x=> !decide (x.2.2.2.1≤t32 b o))++b.2.2.1).Sublist (b.2.1++b.2.2.1):=sp.append (List.Sublist.refl _)
 refine⟨p4f.mpr ⟨fun v h=>h1 v (sv.subset h),h2.sublist sv,Nat.le_trans sv.length_le h3⟩,fun v h=>hb.vcs v (sv.subset h),hb.cs,hb.next,Nat.le_trans sp.length_le hb.plen,
  fun t h=>hb.past t (sp.subset h),hb.pasc.sublist sp,hb.rlen,hb.ready,hb.rasc,?_,?_⟩
 ·rw[t7z]
  intro x hx
  exact t7z.mp hb.below x (si.subset hx)
 ·rw[q3p]
  exact List.Pairwise.sublist si (q3p.mp hb.nodup)
theorem s3b {b:u0i} {t:u0g} {n:ByteArray} (hb:BaseR b) (ht:TxnR t) (h3:t.2.1≠3) (hs:t.2.2.1≤b.2.2.2.1) (hk:u48 n=true) (hl:b.2.2.1.length<3)
 (hn:∀x∈b.2.2.1,x.2.2.2.2.2.2.2≠n) (hid:∀x∈b.2.1++b.2.2.1,x.1≠t.1) (h9:t.1<9999):BaseR (u1o b t n):=by
 have hu:=q3p.mp hb.nodup
 have hbl:=t7z.mp hb.below
 obtain⟨u1,u2,u3⟩:=o3a.mp hu
 have hg:=u9u b.2.2.2.2 t.1
 have hnx:u1a b.2.2.2.2 t.1≤9999:=by have:=hb.next.2;unfold u1a;split<;>omega
 have mem:∀ {x:u0g},x∈(b.2.2.1.filter fun x=>y3c x.2.2.2.2.2.2.2 n)++ [u3r b t n] ++(b.2.2.1.filter fun x=> !y3c x.2.2.2.2.2.2.2 n)→x∈b.2.2.1∨x=u3r b t n:=fun {x} hx=>by
  rcases List.mem_append.mp hx with hx | hx
  ·rcases List.mem_append.mp hx with hx | hx
   ·exact .inl (List.mem_filter.mp hx).1
   ·rw[List.mem_singleton] at hx;exact .inr hx
  ·exact .inl (List.mem_filter.mp hx).1
 have len:∀(l:List u0g) (p:u0g→Bool),(l.filter p).length+(l.filter fun x=> !p x).length=l.length:=fun l p=>by
  induction l with
  | nil=>rfl
  | cons x l ih=>cases hp:p x<;>simp[List.filter_cons,hp] <;>omega
 refine⟨hb.vs,hb.vcs,hb.cs,⟨by show 1≤u1a b.2.2.2.2 t.1;have:=hb.next.1;omega,hnx⟩,hb.plen,hb.past,hb.pasc,?_,?_,?_,?_,?_⟩
 ·show((b.2.2.1.filter fun x=>y3c x.2.2.2.2.2.2.2 n)++ [u3r b t n] ++(b.2.2.1.filter fun x=> !y3c x.2.2.2.2.2.2.2 n)).length≤3
  have:=len b.2.2.1 fun x=>y3c x.2.2.2.2.2.2.2 n
  simp only[List.length_append,List.length_singleton]
  omega
 ·intro x hx
  rcases mem hx with hx | rfl
  ·exact hb.ready x hx
  ·exact⟨q5o ht h3 hk,rfl,hs⟩
 ·show((b.2.2.1.filter fun x=>y3c x.2.2.2.2.2.2.2 n)++ [u3r b t n] ++(b.2.2.1.filter fun x=> !y3c x.2.2.2.2.2.2.2 n)).Pairwise _
  have up:∀y∈b.2.2.1,(!y3c y.2.2.2.2.2.2.2 n)=true→y3c n y.2.2.2.2.2.2.2=true:=fun y hy h=>by
   rcases r1y y.2.2.2.2.2.2.2 n with c | c | c
   ·rw[c] at h;cases h
   ·exact absurd c (hn y hy)
   ·exact c
  rw[List.append_assoc,List.pairwise_append]
  refine⟨List.Pairwise.filter _ hb.rasc,?_,?_⟩
  ·rw[List.singleton_append,List.pairwise_cons]
   refine⟨fun y hy=> ?_,List.Pairwise.filter _ hb.rasc⟩
   obtain⟨y1,y2⟩:=List.mem_filter.mp hy
   exact up y y1 y2
  ·intro x hx y hy
   obtain⟨x1,x2⟩:=List.mem_filter.mp hx
   rcases List.mem_append.mp hy with hy | hy
   ·rw[List.mem_singleton] at hy;subst hy;exact x2
   ·obtain⟨y1,y2⟩:=List.mem_filter.mp hy
    exact r08 x2 (up y y1 y2)
 ·rw[t7z]
  intro x hx
  show x.1<u1a b.2.2.2.2 t.1
  rcases List.mem_append.mp hx with hx | hx
  ·have:=hbl x (List.mem_append_left _ hx);omega
  ·rcases mem hx with hx | rfl
   ·have:=hbl x (List.mem_append_right _ hx);omega
   ·exact hg.2
 ·rw[q3p]
  refine o3a.mpr ⟨u1,?_,fun x hx y hy=> ?_⟩
  ·show uq ((b.2.2.1.filter fun x=>y3c x.2.2.2.2.2.2.2 n)++ [u3r b t n] ++(b.2.2.1.filter fun x=> !y3c x.2.2.2.2.2.2.2 n))
   rw[List.append_assoc]
   refine o3a.mpr ⟨q0j u2 _,?_,fun x hx y hy=> ?_⟩
   ·rw[List.singleton_append]
    refine List.pairwise_cons.mpr ⟨fun y hy=> ?_,q0j u2 _⟩
    exact(hid y (List.mem_append_right _ (List.mem_filter.mp hy).1)).symm
   ·obtain⟨x1,x2⟩:=List.mem_filter.mp hx
    rcases List.mem_append.mp hy with hy | hy
    ·rw[List.mem_singleton] at hy;subst hy
     exact hid x (List.mem_append_right _ x1)
    ·obtain⟨y1,y2⟩:=List.mem_filter.mp hy
     intro e
     have:=p9a u2 x x1 y y1 e
     subst this
     rw[x2] at y2;cases y2
  ·rcases mem hy with hy | rfl
   ·exact u3 x hx y hy
   ·exact hid x (List.mem_append_left _ hx)
theorem r9q {b:u0i} (hb:BaseR b) (n:ByteArray):BaseR (t2y b n):=by
 have sp:(b.2.2.1.filter fun x=> !z7o x.2.2.2.2.2.2.2 n).Sublist b.2.2.1:=List.filter_sublist
 have si:(b.2.1++(b.2.2.1.filter fun x=> !z7o x.2.2.2.2.2.2.2 n)).Sublist (b.2.1++b.2.2.1):=(List.Sublist.refl _).append sp
 refine⟨hb.vs,hb.vcs,hb.cs,hb.next,hb.plen,hb.past,hb.pasc,Nat.le_trans sp.length_le hb.rlen,fun t h=>hb.ready t (sp.subset h),hb.rasc.sublist sp,?_,?_⟩
 ·rw[t7z]
  intro x hx
  exact t7z.mp hb.below x (si.subset hx)
 ·rw[q3p]
  exact List.Pairwise.sublist si (q3p.mp hb.nodup)
end
section
def o0e (id snap:Int):u0g:=(id,(1:Int),snap,(0:Int), [], [],false,(⟨#[]⟩:ByteArray))
def p6d (e:u2b):u2b:=((e.1.1,e.1.2.1,e.1.2.2.1,e.1.2.2.2.1,e.1.2.2.2.2+1),e.2++ [o0e e.1.2.2.2.2 e.1.2.2.2.1])
def q9l (e:u2b) (k:Nat) (t:u0g):u2b:=(e.1,e.2.set k t)
def t8p (e:u2b) (id:Int):List u0g:=e.2.filter fun x=> !decide (x.1=id)
def t9u (e:u2b) (id:Int):u2b:=(u1t e.1 (t8p e id),t8p e id)
def r8k (e:u2b) (t:u0g):u2b:=(u1t (u0m e.1 t) (t8p e t.1),t8p e t.1)
def p3n (e:u2b) (t:u0g) (n:ByteArray):u2b:=(u1t (u1o e.1 t n) (t8p e t.1),t8p e t.1)
def o1e (e:u2b) (t:u0g):u2b:=(u1t (u0m e.1 t) e.2,e.2)
def noE (e:u2b) (n:ByteArray):u2b:=(u1t (t2y e.1 n) e.2,e.2)
theorem EngR.uq {e:u2b} (h:EngR e):uq (e.1.2.1++e.1.2.2.1++e.2):=q3p.mp h.nodup
theorem EngR.bel {e:u2b} (h:EngR e):∀t∈e.1.2.1++e.1.2.2.1++e.2,t.1<e.1.2.2.2.2:=t7z.mp h.below
theorem EngR.apart {e:u2b} (h:EngR e):∀x∈e.1.2.1++e.1.2.2.1,∀y∈e.2,x.1≠y.1:=(o3a.mp h.uq).2.2
theorem EngR.uqo {e:u2b} (h:EngR e):Ab.uq e.2:=(o3a.mp h.uq).2.1
theorem r6j {e:u2b} {b:u0i} {o:List u0g} (h:EngR e) (hb:BaseR b) (ho:o.Sublist e.2) (hc:e.1.2.2.2.1≤b.2.2.2.1) (hn:e.1.2.2.2.2≤b.2.2.2.2) (hu:∀x∈b.2.1++b.2.2.1,∀y∈o,x.1≠y.1):EngR (b,o):=by
 refine⟨hb,Nat.le_trans ho.length_le h.olen,fun t ht=> ?_,h.oasc.sublist ho,?_,?_⟩
 ·obtain⟨q1,q2,q3⟩:=h.open_ t (ho.subset ht)
  exact⟨q1,q2,by show t.2.2.1≤b.2.2.2.1;omega⟩
 ·rw[t7z]
  intro x hx
  rcases List.mem_append.mp hx with hx | hx
  ·exact t7z.mp hb.below x hx
  ·have:=h.bel x (List.mem_append_right _ (ho.subset hx))
   show x.1<b.2.2.2.2
   omega
 ·rw[q3p]
  exact o3a.mpr ⟨q3p.mp hb.nodup,List.Pairwise.sublist ho h.uqo,hu⟩
theorem t7p {b:u0i} {o:List u0g} {x:u0g} (h:x∈(u1t b o).2.1++(u1t b o).2.2.1):x∈b.2.1++b.2.2.1:=by
 rcases List.mem_append.mp h with h | h
 ·exact List.mem_append_left _ (List.mem_filter.mp h).1
 ·exact List.mem_append_right _ h
theorem u7l (e:u2b) (id:Int):(t8p e id).Sublist e.2:=List.filter_sublist
theorem q5p {e:u2b} {id:Int} {x:u0g} (h:x∈t8p e id):x.1≠id:=by
 have:=(List.mem_filter.mp h).2
 simpa using this
theorem p62 {e:u2b} (h:EngR e) (hl:e.2.length<4) (hn:e.1.2.2.2.2<9999):EngR (p6d e):=by
 have hb:=h.base
 have n1:=hb.next.1
 have hT:TxnR (o0e e.1.2.2.2.2 e.1.2.2.2.1):=
  ⟨⟨n1,by show e.1.2.2.2.2≤9999;omega⟩,⟨by show(1:Int)≤1;omega,by show(1:Int)≤3;omega⟩,hb.cs,Nat.zero_le _,rfl,fun r hr=>(by cases hr),fun e=>by have e:(1:Int)=3:=e;omega,fun _=>rfl,fun e=>by have e:(1:Int)=2:=e;omega,fun _=>rfl,fun _=>rfl⟩
 have hbel:=h.bel
 refine⟨⟨hb.vs,hb.vcs,hb.cs,⟨by show 1≤e.1.2.2.2.2+1;omega,by show e.1.2.2.2.2+1≤9999;omega⟩,hb.plen,hb.past,hb.pasc,hb.rlen,hb.ready,hb.rasc,?_,hb.nodup⟩,?_,?_,?_,?_,?_⟩
 ·rw[t7z]
  intro x hx
  have:=hbel x (List.mem_append_left _ hx)
  show x.1<e.1.2.2.2.2+1
  omega
 ·show(e.2++ [_]).length≤4
  simp only[List.length_append,List.length_singleton];omega
 ·intro t ht
  rcases List.mem_append.mp ht with ht | ht
  ·exact h.open_ t ht
  ·rw[List.mem_singleton] at ht;subst ht
   exact⟨hT,rfl,Int.le_refl _⟩
 ·show(e.2++ [_]).Pairwise _
  rw[List.pairwise_append]
  refine⟨h.oasc,List.pairwise_singleton _ _,fun x hx y hy=> ?_⟩
  rw[List.mem_singleton] at hy;subst hy
  exact hbel x (List.mem_append_right _ hx)
 ·rw[t7z]
  intro x hx
  show x.1<e.1.2.2.2.2+1
  have hx:x∈e.1.2.1++e.1.2.2.1++(e.2++ [o0e e.1.2.2.2.2 e.1.2.2.2.1]):=hx
  rw[←List.append_assoc] at hx
  rcases List.mem_append.mp hx with hx | hx
  ·have:=hbel x hx;omega
  ·rw[List.mem_singleton] at hx;subst hx
   show e.1.2.2.2.2<_
   omega
 ·rw[q3p]
  show uq (e.1.2.1++e.1.2.2.1++(e.2++ [o0e e.1.2.2.2.2 e.1.2.2.2.1]))
  rw[←List.append_assoc]
  refine o3a.mpr ⟨h.uq,p32,fun x hx y hy=> ?_⟩
  rw[List.mem_singleton] at hy;subst hy
  have:=hbel x hx
  show x.1≠e.1.2.2.2.2
  omega
theorem q7n {α β:Type} (f:α→β) (l:List α) (k:Nat) (a:α) (h:k<l.length) (ha:f a=f l[k]):(l.set k a).map f=l.map f:=by
 apply List.ext_getElem (by simp)
 intro i h1 h2
 simp only[List.getElem_map,List.getElem_set]
 split
 ·rename_i e;subst e;exact ha
 ·rfl
theorem q5q {α:Type} {l:List α} {k:Nat} {a x:α} (h:x∈l.set k a):x∈l∨x=a:=List.mem_or_eq_of_mem_set h
theorem q75 {e:u2b} (h:EngR e) {k:Nat} (hk:k<e.2.length) {t:u0g} (ht:TxnR t) (h1:t.1=e.2[k].1) (h2:t.2.1=1) (h3:t.2.2.1=e.2[k].2.2.1):EngR (q9l e k t):=by
 have hm:u3z (e.2.set k t)=u3z e.2:=q7n _ _ _ _ hk h1
 have hid:u3z (e.1.2.1++e.1.2.2.1++e.2.set k t)=u3z (e.1.2.1++e.1.2.2.1++e.2):=by
  have:∀a b:List u0g,u3z (a++b)=u3z a++u3z b:=fun a b=>by simp[u3z]
  rw[this,hm,←this]
 refine⟨h.base,by show(e.2.set k t).length≤4;rw[List.length_set];exact h.olen,fun x hx=> ?_,?_,?_,?_⟩
 ·rcases q5q hx with hx | rfl
  ·exact h.open_ x hx
  ·have:=(h.open_ _ (List.getElem_mem hk)).2.2
   exact⟨ht,h2,by rw[h3];exact this⟩
 ·have q:(u3z (e.2.set k t)).Pairwise fun a b=>a<b:=by
   rw[hm];unfold u3z;rw[List.pairwise_map];exact h.oasc
  unfold u3z at q
  rw[List.pairwise_map] at q
  exact q
 ·show ∀x∈u3z (e.1.2.1++e.1.2.2.1++e.2.set k t),x<e.1.2.2.2.2
  rw[hid];exact h.below
 ·show(u3z (e.1.2.1++e.1.2.2.1++e.2.set k t)).Nodup
  rw[hid];exact h.nodup
theorem p69 {e:u2b} (h:EngR e) (id:Int):EngR (t9u e id):=
 r6j h (t00 h.base _) (u7l e id) (Int.le_refl _) (Int.le_refl _) fun x hx y hy=>h.apart x (t7p hx) y ((u7l e id).subset hy)
theorem p7j {e:u2b} (h:EngR e):EngR (u1t e.1 e.2,e.2):=
 r6j h (t00 h.base _) (List.Sublist.refl _) (Int.le_refl _) (Int.le_refl _) fun x hx y hy=>h.apart x (t7p hx) y hy
theorem q5e {b:u0i} (h:r3v b=false):b.2.1.length<12∧b.1.length≤100∧b.2.2.2.1<9999:=by
 unfold r3v at h
 simp only[Bool.or_eq_false_iff,decide_eq_false_iff_not] at h
 obtain⟨h1,h2,h3⟩:=h
 exact⟨by omega,by omega,by omega⟩
theorem s2b {e:u2b} (h:EngR e) {t:u0g} (ht:t∈e.2∨t∈e.1.2.2.1) (hf:r3v e.1=false):BaseR (u0m e.1 t):=by
 obtain⟨f1,f2,f3⟩:=q5e hf
 have hq:TxnR t∧t.2.2.1≤e.1.2.2.2.1:=by
  rcases ht with ht | ht
  ·exact⟨(h.open_ t ht).1,(h.open_ t ht).2.2⟩
  ·exact⟨(h.base.ready t ht).1,(h.base.ready t ht).2.2⟩
 have hlt:t.1<e.1.2.2.2.2:=by
  rcases ht with ht | ht
  ·exact h.bel t (List.mem_append_right _ ht)
  ·exact h.bel t (List.mem_append_left _ (List.mem_append_right _ ht))
 refine q0i h.base hq.1 hq.2 f3 f1 (by omega) (fun x hx=> ?_) (by have:=h.base.next.2;omega)
 rcases ht with ht | ht
 ·exact h.apart x (List.mem_append_left _ hx) t ht
 ·exact(o3a.mp (o3a.mp h.uq).1).2.2 x hx t ht
theorem r1z {b:u0i} {t x:u0g} (h:x∈(u0m b t).2.1++(u0m b t).2.2.1):x.1=t.1∨ ∃y∈b.2.1++b.2.2.1,y.1=x.1:=by
 rcases List.mem_append.mp h with h | h
 ·rcases List.mem_append.mp h with h | h
  ·exact .inr ⟨x,List.mem_append_left _ h,rfl⟩
  ·rw[List.mem_singleton] at h;subst h;exact .inl rfl
 ·obtain⟨y,hy,rfl⟩:=List.mem_map.mp h
  exact .inr ⟨y,List.mem_append_right _ (List.mem_filter.mp hy).1,rfl⟩
theorem q94 {e:u2b} (h:EngR e) {t:u0g} (ht:t∈e.2) (hf:r3v e.1=false):EngR (r8k e t):=by
 have hg:=u9u e.1.2.2.2.2 t.1
 refine r6j h (t00 (s2b h (.inl ht) hf) _) (u7l e t.1) (by show e.1.2.2.2.1≤e.1.2.2.2.1+1;omega) hg.1 fun x hx y hy=> ?_
 rcases r1z (t7p hx) with q | ⟨z,hz,q⟩
 ·rw[q];exact(q5p hy).symm
 ·rw[←q];exact h.apart z hz y ((u7l e t.1).subset hy)
theorem o1f {e:u2b} (h:EngR e) {t:u0g} (ht:t∈e.1.2.2.1) (hf:r3v e.1=false):EngR (o1e e t):=by
 have hg:=u9u e.1.2.2.2.2 t.1
 refine r6j h (t00 (s2b h (.inr ht) hf) _) (List.Sublist.refl _) (by show e.1.2.2.2.1≤e.1.2.2.2.1+1;omega) hg.1 fun x hx y hy=> ?_
 rcases r1z (t7p hx) with q | ⟨z,hz,q⟩
 ·rw[q];exact h.apart t (List.mem_append_right _ ht) y hy
 ·rw[←q];exact h.apart z hz y hy
theorem o3u {e:u2b} (h:EngR e) (n:ByteArray):EngR (noE e n):=by
 refine r6j h (t00 (r9q h.base n) _) (List.Sublist.refl _) (Int.le_refl _) (Int.le_refl _) fun x hx y hy=> ?_
 rcases List.mem_append.mp (t7p hx) with hx | hx
 ·exact h.apart x (List.mem_append_left _ hx) y hy
 ·exact h.apart x (List.mem_append_right _ (List.mem_filter.mp hx).1) y hy
theorem p86 {e:u2b} (h:EngR e) {t:u0g} (ht:t∈e.2) {n:ByteArray} (hk:u48 n=true) (hl:e.1.2.2.1.length<3) (hn:∀x∈e.1.2.2.1,x.2.2.2.2.2.2.2≠n):EngR (p3n e t n):=by
 obtain⟨q1,q2,q3⟩:=h.open_ t ht
 have hlt:=h.bel t (List.mem_append_right _ ht)
 have hg:=u9u e.1.2.2.2.2 t.1
 have hb:BaseR (u1o e.1 t n):=s3b h.base q1 (by omega) q3 hk hl hn (fun x hx=>h.apart x hx t ht) (by have:=h.base.next.2;omega)
 refine r6j h (t00 hb _) (u7l e t.1) (Int.le_refl _) hg.1 fun x hx y hy=> ?_
 have hy' :=(u7l e t.1).subset hy
 rcases List.mem_append.mp (t7p hx) with hx | hx
 ·exact h.apart x (List.mem_append_left _ hx) y hy'
 ·rcases List.mem_append.mp hx with hx | hx
  ·rcases List.mem_append.mp hx with hx | hx
   ·exact h.apart x (List.mem_append_right _ (List.mem_filter.mp hx).1) y hy'
   ·rw[List.mem_singleton] at hx;subst hx;exact(q5p hy).symm
  ·exact h.apart x (List.mem_append_right _ (List.mem_filter.mp hx).1) y hy'
end
section
def t83 (n:Nat):List Int:=if h:n<128 then[(n:Int)] else((n % 128+128:Nat):Int)::t83 (n / 128)
termination_by n
decreasing_by omega
theorem s8a {n:Nat} (h:n<128):t83 n= [(n:Int)] :=by rw[t83,dif_pos h]
theorem r5o {n:Nat} (h: ¬n<128):t83 n=((n % 128+128:Nat):Int)::t83 (n / 128):=by rw[t83,dif_neg h]
theorem p5y (n:Nat):(t83 n).length≤n+1:=by
 induction n using Nat.strongRecOn with
 | _ n ih=>
  by_cases h:n<128
  ·rw[s8a h];simp
  ·rw[r5o h]
   have:=ih (n / 128) (by omega)
   simp only[List.length_cons];omega
theorem p5z {S:Type} {W:Int×List Int→Option ((Int×List Int)⊕S)}
 (hW:∀x,W x=(bif (decide (x.1 >(127:Int))) then(bif (Nat.ble (x.2.length+([(IntKind.u8.wrap (IntKind.i64.wrap ((Int.tmod x.1 (128:Int))+(128:Int))))] :List Int).length) z7w) then
  (W ((IntKind.i64.wrap (Int.tdiv x.1 (128:Int))),(x.2++([(IntKind.u8.wrap (IntKind.i64.wrap ((Int.tmod x.1 (128:Int))+(128:Int))))] :List Int)))) else none) else(some (.inl x)))):
 ∀(n:Nat) (acc:List Int),acc.length+n≤1000000000000→ ∃m:Nat,∃acc' :List Int,W ((n:Int),acc)=some (.inl ((m:Int),acc'))∧m<128∧acc' ++ [(m:Int)] =acc++t83 n∧acc'.length≤acc.length+n:=by
 intro n
 induction n using Nat.strongRecOn with
 | _ n ih=>
  intro acc hn
  rw[hW]
  by_cases h:n<128
  ·have:decide ((n:Int) >(127:Int))=false:=by simp;omega
   simp only[this,cond_false]
   exact⟨n,acc,rfl,h,by rw[s8a h],by omega⟩
  ·have h1:decide ((n:Int) >(127:Int))=true:=by simp;omega
   have h2:Int.tmod (n:Int) (128:Int)=((n % 128:Nat):Int):=p30 n 128
   have h3:Int.tdiv (n:Int) (128:Int)=((n / 128:Nat):Int):=p88 n 128
   have h4:IntKind.u8.wrap (IntKind.i64.wrap (((n % 128:Nat):Int)+(128:Int)))=((n % 128+128:Nat):Int):=by
    rw[y4y (by omega) (by omega)]
    have:((n % 128:Nat):Int)+128=((n % 128+128:Nat):Int):=by simp
    rw[this,p7q (by omega)]
   simp only[h1,h2,h3,h4,cond_true,List.length_singleton,u04 (show acc.length+1≤1099511627776 by omega)]
   rw[y8b (by omega)]
   obtain⟨m,acc',e1,e2,e3,e4⟩:=ih (n / 128) (by omega) (acc++ [((n % 128+128:Nat):Int)]) (by simp;omega)
   refine⟨m,acc',e1,e2,?_,?_⟩
   ·rw[e3,r5o h,List.append_assoc];rfl
   ·have:(acc++ [((n % 128+128:Nat):Int)]).length=acc.length+1:=by simp
    omega
theorem r9v (n:Nat) (hn:n≤100000000000):u1j (n:Int)=some (y7g (t83 n)):=by
 rw[q41];unfold r21
 obtain⟨m,acc',e1,e2,e3,e4⟩:=p5z (W:=t3x) (fun x=>q0m x) n [] (by simp;omega)
 have e4:acc'.length≤n:=by simpa using e4
 simp only[e1,zOb,List.length_singleton,u04 (show acc'.length+1≤1099511627776 by omega),cond_true]
 rw[p7q (by omega),e3];rfl
def s82:Nat→Nat→Nat→List UInt8→Option (Nat×Nat)
 | 0,_,_,_=>none
 | _+1,_,_, [] =>none
 | f+1,i,n,b::l=>
  if b.toNat<128 then(if n+b.toNat % 128*128^i≤1000000000∧(t83 (n+b.toNat % 128*128^i)).length=i+1 then some (n+b.toNat % 128*128^i,i+1) else none)
  else s82 f (i+1) (n+b.toNat % 128*128^i) l
def q0k (at_:Int) (r:Option (Nat×Nat)):Int×Int×Bool:=match r with
 | some (n,k)=>((n:Int),at_+(k:Int),true)
 | none=>(0,0,false)
def u0v (t:ByteArray) (at_:Int):Int×Int×Bool:=if 0≤at_∧at_≤t.size then q0k at_ (s82 5 0 0 (t.data.toList.drop at_.toNat)) else(0,0,false)
theorem q5u:∀(f i n:Nat) (l:List UInt8) (v k:Nat),s82 f i n l=some (v,k)→v≤1000000000∧k≤i+l.length∧i<k
 | 0,_,_,_,_,_,h=>by cases h
 | _+1,_,_, [],_,_,h=>by cases h
 | f+1,i,n,b::l,v,k,h=>by
  simp only[s82] at h
  split at h
  ·split at h
   ·rename_i h2
    simp only[Option.some.injEq,Prod.mk.injEq] at h
    obtain⟨rfl,rfl⟩:=h
    exact⟨h2.1,by simp,by omega⟩
   ·cases h
  ·have:=q5u f (i+1) _ l v k h
   simp only[List.length_cons]
   omega
theorem t3g {t:ByteArray} {at_:Int} (h:(u0v t at_).2.2=true):0≤(u0v t at_).1∧(u0v t at_).1≤1000000000∧0≤at_∧at_<(u0v t at_).2.1∧(u0v t at_).2.1≤t.size:=by
 unfold u0v at h ⊢
 split at h
 ·rename_i hc
  rw[if_pos hc]
  cases hv:s82 5 0 0 (t.data.toList.drop at_.toNat) with
  | none=>rw[hv] at h;cases h
  | some r=>
   obtain⟨v,k⟩:=r
   have:=q5u 5 0 0 _ v k hv
   have hl:(t.data.toList.drop at_.toNat).length=t.size - at_.toNat:=by simp
   simp only[q0k]
   omega
 ·cases h
theorem p84 (i:Nat) (h:i≤5):128^i≤34359738368:=by
 rcases i with _ | _ | _ | _ | _ | _ | i
 all_goals first | decide | omega
def q3q:List UInt8→Nat
 | [] =>0
 | b::l=>b.toNat % 128+128*q3q l
theorem p33 (l:List UInt8) (b:UInt8):q3q (l++ [b])=q3q l+b.toNat % 128*128^l.length:=by
 induction l with
 | nil=>simp[q3q]
 | cons x l ih=>
  simp only[List.cons_append,q3q,ih,List.length_cons,Nat.pow_succ]
  rw[Nat.mul_add]
  have:128*(b.toNat % 128*128^l.length)=b.toNat % 128*(128^l.length*128):=by
   rw[Nat.mul_comm 128,Nat.mul_assoc]
  omega
theorem p7o (l:List UInt8) (b:UInt8) (hl:∀x∈l,¬x.toNat<128) (hb:b.toNat<128) (h:(t83 (q3q (l++ [b]))).length=l.length+1):t83 (q3q (l++ [b]))=(l++ [b]).map fun x=>(x.toNat:Int):=by
 induction l with
 | nil=>
  have:q3q ([] ++ [b])=b.toNat:=by simp[q3q];omega
  rw[this,s8a hb];rfl
 | cons x l ih=>
  have hx:x.toNat<256:=UInt8.toNat_lt x
  have hx2:=hl x (by simp)
  simp only[List.cons_append,q3q] at h ⊢
  by_cases hs:x.toNat % 128+128*q3q (l++ [b])<128
  ·rw[s8a hs] at h
   simp at h
  ·rw[r5o hs] at h ⊢
   have e1:(x.toNat % 128+128*q3q (l++ [b])) / 128=q3q (l++ [b]):=by omega
   have e2:(x.toNat % 128+128*q3q (l++ [b])) % 128+128=x.toNat:=by omega
   rw[e1] at h ⊢
   rw[e2]
   simp only[List.length_cons,Nat.add_right_cancel_iff] at h
   rw[ih (fun y hy=>hl y (by simp[hy])) h]
   rfl
theorem p5q (l:List UInt8):y7g (l.map fun x=>(x.toNat:Int))=⟨l.toArray⟩:=by
 unfold y7g
 simp only[List.map_map]
 have:(l.map ((fun n=>UInt8.ofNat n.toNat) ∘fun b=>(b.toNat:Int)))=l:=by
  conv=>rhs;rw[←List.map_id l]
  apply List.map_congr_left
  intro b _
  simp
 rw[this]
theorem r6h (t:ByteArray) (a b:Nat) (h:b≤t.size):t.extract a b=⟨((t.data.toList.drop a).take (b - a)).toArray⟩:=by
 apply ByteArray.ext
 simp only[ByteArray.data_extract]
 apply Array.ext'
 simp[List.extract_eq_take_drop]
theorem p8t {q:Nat} (h:q≤1000000000):decide ((q:Int) >(1000000000:Int))=false:=by simp;omega
theorem p8q {q:Nat} (h: ¬q≤1000000000):decide ((q:Int) >(1000000000:Int))=true:=by simp;omega
theorem r5s (t:ByteArray) (at_:Int) (ht:t.size≤u0p):t5w (t,at_)=some (u0v t at_):=by
 unfold u0p at ht
 rw[q1k];unfold s9v u0v
 simp only[t5n,q5f,zOb]
 by_cases h:0≤at_∧at_≤t.size
 ·obtain⟨p,rfl⟩:∃p:Nat,at_=p:=⟨at_.toNat,by omega⟩
  have hp:p≤t.size:=by omega
  rw[decide_eq_true h,if_pos h]
  have L:∀(f i:Nat),i+f=5→p+i≤t.size→(∀x∈(t.data.toList.drop p).take i,¬x.toNat<128)→q3q ((t.data.toList.drop p).take i)<128^i→
   ((t2h (t,(p:Int),((q3q ((t.data.toList.drop p).take i):Nat):Int),((128^i:Nat):Int),((p+i:Nat):Int))).bind fun r=>match r with
   | .inl o=>some ((0:Int),(0:Int),false)
   | .inr z=>some z)=some (q0k p (s82 f i (q3q ((t.data.toList.drop p).take i)) (t.data.toList.drop (p+i)))):=by
   intro f
   induction f with
   | zero=>
    intro i hi hpi hall hn
    have:i=5:=by omega
    subst this
    rw[s5t];simp only[t15]
    have e1:decide (((p+5:Nat):Int)<IntKind.i64.wrap ((p:Int)+5))=false:=by rw[y4y (by omega) (by omega)];simp
    rw[e1]
    cases decide (((p+5:Nat):Int)<(t.size:Int))<;>rfl
   | succ f ih=>
    intro i hi hpi hall hn
    have hi5:i<5:=by omega
    have hpw:=p84 i (by omega)
    rw[s5t];simp only[t15]
    have e1:decide (((p+i:Nat):Int)<IntKind.i64.wrap ((p:Int)+5))=true:=by rw[y4y (by omega) (by omega)];simp;omega
    by_cases hlt:p+i<t.size
    ·have hd:t.data.toList.drop (p+i)=(t.data.toList[p+i]'(by simpa using hlt))::t.data.toList.drop (p+i+1):=List.drop_eq_getElem_cons (by simpa using hlt)
     have hb:(t.data.toList[p+i]'(by simpa using hlt)).toNat<256:=UInt8.toNat_lt _
     have htk:(t.data.toList.drop p).take (i+1)=(t.data.toList.drop p).take i++ [t.data.toList[p+i]'(by simpa using hlt)] :=by
      rw[List.take_succ_eq_append_getElem (by simp;omega)]
      simp
     have htl:((t.data.toList.drop p).take i).length=i:=by simp;omega
     have hvs:=p33 ((t.data.toList.drop p).take i) (t.data.toList[p+i]'(by simpa using hlt))
     rw[htl] at hvs
     rw[hd]
     generalize hc:(t.data.toList[p+i]'(by simpa using hlt))=c at hb htk hvs
     generalize hn' :q3q ((t.data.toList.drop p).take i)=n at hn hvs ⊢
     have e2:decide (((p+i:Nat):Int)<(t.size:Int))=true:=by simp;omega
     have t2:Int.tmod ((c.toNat:Nat):Int) (128:Int)=((c.toNat % 128:Nat):Int):=p30 _ 128
     have hm:c.toNat % 128*128^i≤127*34359738368:=Nat.mul_le_mul (by omega) hpw
     have w2:IntKind.i64.wrap (((c.toNat % 128:Nat):Int)*((128^i:Nat):Int))=((c.toNat % 128*128^i:Nat):Int):=by
      rw[←Int.natCast_mul];exact y8b (by omega)
     have w3:IntKind.i64.wrap ((n:Int)+((c.toNat % 128*128^i:Nat):Int))=((n+c.toNat % 128*128^i:Nat):Int):=by
      rw[←Int.natCast_add];exact y8b (by omega)
     have wp:IntKind.i64.wrap (((p+i:Nat):Int)+1)=((p+i+1:Nat):Int):=y7l (by omega)
     have ws:IntKind.i64.wrap (((128^i:Nat):Int)*128)=((128^(i+1):Nat):Int):=by
      rw[Nat.pow_succ,Int.natCast_mul]
      exact y4y (by omega) (by omega)
     simp only[e1,e2,cond_true,zOb,y7t hlt,zTn,p4r hlt,hc,y8b (show c.toNat≤4611686018427387904 by omega),t2,w2,w3,wp,ws,s82]
     by_cases hc1:c.toNat<128
     ·have e4:decide (((c.toNat:Nat):Int)<(128:Int))=true:=by simp;omega
      simp only[e4,cond_true,if_pos hc1]
      by_cases hv:n+c.toNat % 128*128^i≤1000000000
      ·have e5:decide (((n+c.toNat % 128*128^i:Nat):Int) >(1000000000:Int))=false:=p8t hv
       have e6:(decide (0≤(p:Int))&&decide ((p:Int)≤((p+i+1:Nat):Int))&&decide (((p+i+1:Nat):Int)≤(t.size:Int)))=true:=by simp;omega
       simp only[e5,cond_false,r9v _ (show n+c.toNat % 128*128^i≤100000000000 by omega),zOb,e6,cond_true]
       have hx:t.extract p (p+i+1)=⟨((t.data.toList.drop p).take (i+1)).toArray⟩:=by
        rw[r6h t p (p+i+1) (by omega)]
        have:p+i+1 - p=i+1:=by omega
        rw[this]
       rw[hx]
       have hv' :n+c.toNat % 128*128^i=q3q ((t.data.toList.drop p).take i++ [c]):=hvs.symm
       by_cases hl:(t83 (n+c.toNat % 128*128^i)).length=i+1
       ·rw[if_pos ⟨hv,hl⟩]
        have key:t83 (n+c.toNat % 128*128^i)=((t.data.toList.drop p).take (i+1)).map fun x=>(x.toNat:Int):=by
         rw[hv',htk]
         exact p7o _ c hall hc1 (by rw[←hv',hl,htl])
        rw[key,p5q,y6l]
        simp only[Bool.not_true,cond_false,zOb,q0k]
        simp[Int.add_assoc]
       ·rw[if_neg (fun hh=>hl hh.2)]
        have hne:z7o (y7g (t83 (n+c.toNat % 128*128^i))) ⟨((t.data.toList.drop p).take (i+1)).toArray⟩=false:=by
         rw[←Bool.not_eq_true,y7f]
         intro hh
         have:=congrArg ByteArray.size hh
         rw[u45] at this
         apply hl
         rw[this]
         show((t.data.toList.drop p).take (i+1)).toArray.size=_
         simp;omega
        rw[hne];rfl
      ·have e5:decide (((n+c.toNat % 128*128^i:Nat):Int) >(1000000000:Int))=true:=p8q hv
       rw[if_neg (fun hh=>hv hh.1),e5];rfl
     ·have e4:decide (((c.toNat:Nat):Int)<(128:Int))=false:=by simp;omega
      simp only[e4,cond_false,if_neg hc1]
      have:=ih (i+1) (by omega) (by omega) (by
       rw[htk]
       intro x hx
       rcases List.mem_append.mp hx with hx | hx
       ·exact hall x hx
       ·simp at hx;rw[hx];exact hc1) (by
       rw[htk,hvs]
       have:128^(i+1)=128^i*128:=Nat.pow_succ 128 i
       have h2:c.toNat % 128*128^i≤127*128^i:=Nat.mul_le_mul (by omega) (Nat.le_refl _)
       omega)
      rw[htk,hvs] at this
      exact this
    ·have e2:decide (((p+i:Nat):Int)<(t.size:Int))=false:=by simp;omega
     have hd:t.data.toList.drop (p+i)= [] :=List.drop_eq_nil_of_le (by simp;omega)
     rw[hd]
     simp only[e2,zOb,cond_false,s82]
     rfl
  exact L 5 0 rfl (by omega) (by simp) (by simp[q3q])
 ·rw[decide_eq_false h,if_neg h];rfl
end
section
def u0s (t:ByteArray) (at_:Int):ByteArray×Int×Bool:=
 if(u0v t at_).2.2=true∧(u0v t at_).1≤20000∧(u0v t at_).1≤(t.size:Int) - (u0v t at_).2.1 then
  (t.extract (u0v t at_).2.1.toNat ((u0v t at_).2.1+(u0v t at_).1).toNat,(u0v t at_).2.1+(u0v t at_).1,true)
 else(emp,0,false)
theorem s73 {t:ByteArray} {at_:Int} (h:(u0s t at_).2.2=true):0≤(u0s t at_).2.1∧(u0s t at_).2.1≤t.size:=by
 unfold u0s at h ⊢
 split at h
 ·rename_i hc
  rw[if_pos hc]
  have:=t3g hc.1
  simp only
  omega
 ·cases h
theorem p1r (t:ByteArray) (at_:Int) (ht:t.size≤u0p):
 (((bif (!(u0v t at_).2.2) then(some true) else(bif (decide ((u0v t at_).1 >(20000:Int))) then(some true) else(some (decide ((u0v t at_).1 >(IntKind.i64.wrap ((t.size:Int) - (u0v t at_).2.1))))))):Option Bool).bind fun j2=>
  (bif j2 then(some ((⟨#[]⟩:ByteArray),((0:Int),false))) else(bif (decide (0≤(u0v t at_).2.1)&&decide ((u0v t at_).2.1≤(IntKind.i64.wrap ((u0v t at_).2.1+(u0v t at_).1)))&&decide ((IntKind.i64.wrap ((u0v t at_).2.1+(u0v t at_).1))≤(t.size:Int))) then
   (some ((t.extract ((u0v t at_).2.1).toNat ((IntKind.i64.wrap ((u0v t at_).2.1+(u0v t at_).1))).toNat),((IntKind.i64.wrap ((u0v t at_).2.1+(u0v t at_).1)),true))) else none)))=some (u0s t at_):=by
 unfold u0p at ht
 unfold u0s
 cases ho:(u0v t at_).2.2 with
 | false=>rfl
 | true=>
  have hk:=t3g ho
  rw[y4y (n:=(t.size:Int) - (u0v t at_).2.1) (by omega) (by omega),y4y (n:=(u0v t at_).2.1+(u0v t at_).1) (by omega) (by omega)]
  by_cases h1:(u0v t at_).1 >20000
  ·rw[if_neg (by omega),decide_eq_true h1];rfl
  ·rw[decide_eq_false h1]
   by_cases h2:(u0v t at_).1 >(t.size:Int) - (u0v t at_).2.1
   ·rw[if_neg (by omega),decide_eq_true h2];rfl
   ·rw[if_pos ⟨rfl,by omega,by omega⟩,decide_eq_false h2]
    simp only[Bool.not_true,cond_false,zOb]
    rw[decide_eq_true (show 0≤(u0v t at_).2.1 by omega),decide_eq_true (show(u0v t at_).2.1≤(u0v t at_).2.1+(u0v t at_).1 by omega),decide_eq_true (show(u0v t at_).2.1+(u0v t at_).1≤(t.size:Int) by omega)]
    rfl
theorem s88 (t:ByteArray) (at_:Int) (ht:t.size≤u0p):t2s (t,at_)=some (u0s t at_):=by
 rw[r7f];unfold s34
 simp only[r5s t at_ ht,zOb]
 exact p1r t at_ ht
def r60 (t:ByteArray):Int:=((t.data.toList.getD 0 0).toNat:Int)
theorem q4a (t:ByteArray):0≤r60 t∧r60 t<256:=by
 unfold r60
 have:(t.data.toList.getD 0 0).toNat<256:=UInt8.toNat_lt _
 omega
def u36 (d:u0k) (s:Int):Int:=r60 (u0h d s).1
theorem p1n {d:u0k} {s:Int} (h:(u0h d s).2=false):(u0h d s).1=emp:=by
 unfold u0h at h ⊢
 split at h
 ·cases h
 ·rename_i hc;rw[if_neg hc]
theorem p1a (r:ByteArray×Bool) (h:r.2=false→r.1=emp):
 (((bif (!r.2) then(some true) else(some (z7o r.1 (⟨#[]⟩:ByteArray)))):Option Bool).bind fun j2=>(bif j2 then(some (0:Int)) else(bif (y4q (0:Int) r.1.size) then(some (IntKind.i64.wrap ((r.1.data.toList.getD ((0:Int)).toNat 0).toNat:Int))) else none)))=some (r60 r.1):=by
 obtain⟨t,o⟩:=r
 cases o with
 | false=>
  have:t=emp:=h rfl
  subst this;rfl
 | true=>
  simp only[Bool.not_true,cond_false,zOb]
  by_cases he:t=emp
  ·subst he
   have:z7o emp (⟨#[]⟩:ByteArray)=true:=y6l emp
   simp only[this,cond_true];rfl
  ·have h1:z7o t (⟨#[]⟩:ByteArray)=false:=by
    rw[←Bool.not_eq_true,y7f];exact he
   have h2:t.size≠0:=by
    intro hz
    apply he
    apply ByteArray.ext
    apply Array.eq_empty_of_size_eq_zero
    exact hz
   have h3:y4q (0:Int) t.size=true:=by simp[y4q];omega
   have hb:(t.data.toList.getD 0 0).toNat<256:=UInt8.toNat_lt _
   simp only[h1,cond_false,h3,cond_true,Int.toNat_zero]
   rw[y8b (by omega)];rfl
theorem s7j (d:u0k) (s:Int) (hd:o3n.wt d≤u0p):t1j (d,s)=some (u36 d s):=by
 rw[q1x];unfold s99
 simp only[t7q d s hd,zOb]
 exact p1a _ (fun h=>p1n h)
def u0z (d:u0k):Int:=Int.tmod (u36 d 0) 2
theorem t2x (d:u0k):u0z d=0∨u0z d=1:=by
 have:=q4a (u0h d 0).1
 unfold u0z u36
 have e:=Int.tmod_eq_emod_of_nonneg (b:=2) this.1
 rw[e];omega
theorem s2w (d:u0k) (hd:o3n.wt d≤u0p):u9v d=some (u0z d):=by
 rw[r8z];unfold s6q
 simp only[s7j d 0 hd,zOb];rfl
def p1d (a:Int):Bool:=decide (a=0) || decide (a=1)
def u0f (a:Int):Int:=if p1d a then 1+a*48 else 0
theorem p4z {a:Int} :p1d a=true↔a=0∨a=1:=by simp[p1d]
theorem t9h (a:Int):0≤u0f a∧u0f a≤49:=by
 unfold u0f
 split
 ·rename_i h;have:=p4z.mp h;omega
 ·omega
theorem s8m (a:Int):u0r (a,0,1)=some (p1d a):=by
 rw[t5n,q5f]
 congr 1
 rw[Bool.eq_iff_iff,p4z,decide_eq_true_iff];omega
theorem t46 (a:Int):u5g a=some (u0f a):=by
 rw[r69];unfold s3y u0f
 simp only[s8m,zOb]
 cases h:p1d a with
 | false=>rfl
 | true=>
  have:=p4z.mp h
  simp only[Bool.not_true,cond_false,if_true]
  rw[y4y (n:=a*48) (by omega) (by omega),y4y (by omega) (by omega)]
def u09 (d:u0k) (a:Int):Int:=if p1d a then u36 d (u0f a) else 0
theorem r4u (d:u0k) (a:Int):0≤u09 d a∧u09 d a<256:=by
 unfold u09
 split
 ·exact q4a _
 ·omega
theorem t88 (d:u0k) (a:Int) (hd:o3n.wt d≤u0p):t1g (d,a)=some (u09 d a):=by
 rw[q1b];unfold s9m u09
 simp only[s8m,t46,s7j d _ hd,zOb]
 cases p1d a<;>rfl
def u5t (t:ByteArray):Nat→Int→List ByteArray→List ByteArray×Int×Bool
 | 0,at_,acc=>(acc,at_,true)
 | m+1,at_,acc=>if(u0s t at_).2.2&& !z7o (u0s t at_).1 emp then u5t t m (u0s t at_).2.1 (acc++ [(u0s t at_).1]) else([],0,false)
def u0d (d:u0k) (a:Int):List ByteArray×Int×Bool:=
 if p1d a&&(u9x d (u0f a+1) 47).2 then u5t (u9x d (u0f a+1) 47).1 (u09 d a).toNat 0 [] else([],0,false)
theorem q3j (d:u0k) (from_:Int):∀(m i:Nat) (acc:ByteArray),(r5k d from_ m i acc).1.size≤acc.size+m*o3n.wt d
 | 0,i,acc=>by simp[r5k]
 | m+1,i,acc=>by
  unfold r5k
  split
  ·have h1:=q3j d from_ m (i+1) (acc++(u0h d (from_+(i:Int))).1)
   have h2:=r6l d (from_+(i:Int))
   rw[ByteArray.size_append] at h1
   have:(m+1)*o3n.wt d=m*o3n.wt d+o3n.wt d:=Nat.succ_mul _ _
   omega
  ·show 0≤_;omega
theorem r6o (d:u0k) (from_ n:Int):(u9x d from_ n).1.size≤100*o3n.wt d:=by
 unfold u9x
 split
 ·have h:=q3j d from_ n.toNat 0 emp
  have h2:emp.size=0:=rfl
  have h3:n.toNat*o3n.wt d≤100*o3n.wt d:=Nat.mul_le_mul (by omega) (Nat.le_refl _)
  omega
 ·show 0≤_;omega
theorem s21 (d:u0k) (a:Int) (hd:o3n.wt d≤1073741824):u6p (d,a)=some (u0d d a):=by
 have hb:o3n.wt d≤u0p:=by unfold u0p;omega
 have hf:=t9h a
 have hz:(u9x d (u0f a+1) 47).1.size≤u0p:=by have:=r6o d (u0f a+1) 47;unfold u0p;omega
 have hc:=r4u d a
 rw[r87];unfold s6y u0d
 simp only[s8m,t46,zOb]
 rw[y4y (n:=u0f a+1) (by omega) (by omega)]
 simp only[r79 d (u0f a+1) 47 hd (by omega) (by omega),zOb]
 generalize u9x d (u0f a+1) 47=s at hz
 cases hs:s.2 with
 | false=>cases p1d a<;>rfl
 | true=>
  cases ha:p1d a with
  | false=>rfl
  | true=>
   have L:=r1k (fun x=>(u84 x).bind fun r=>match r with
    | .inl o=>some (o.1,o.2,true)
    | .inr z=>some z) (u09 d a).toNat (fun(p:List ByteArray×Int) i=>(a,d, [],s.1,p.1,p.2,i)) (fun i p=>u5t s.1 ((u09 d a).toNat - i) p.2 p.1) (fun i p=>p.1.length≤i)
    (fun p _=>by
     rw[s0c];simp only[u8z,t88 d a hb,zOb]
     rw[decide_eq_false (by omega)]
     simp only[cond_false,zOb,Nat.sub_self,u5t])
    (fun i p hi hp=>by
     have e:(u09 d a).toNat - i=((u09 d a).toNat - (i+1))+1:=by omega
     rw[s0c];simp only[u8z,t88 d a hb,zOb]
     rw[decide_eq_true (by omega),e]
     simp only[cond_true,s88 s.1 p.2 hz,zOb,u5t,p6e]
     cases hr:(u0s s.1 p.2).2.2 with
     | false=>left;rfl
     | true=>
      cases hq:z7o (u0s s.1 p.2).1 emp with
      | true=>left;rfl
      | false=>
       right
       refine⟨(p.1++ [(u0s s.1 p.2).1],(u0s s.1 p.2).2.1),by simp;omega,by simp,?_⟩
       simp only[Bool.not_true,cond_false,zOb,List.length_singleton,u04 (show p.1.length+1≤1099511627776 by omega),cond_true]
       rw[y7l (by omega)]) 0 ([],0) (by omega) (by simp)
   simp only[Bool.not_true,cond_false,zOb,Bool.and_self,if_true]
   exact L
def u0l (d:u0k):List ByteArray:=(u0d d (u0z d)).1
theorem q2y (t:ByteArray):∀(m:Nat) (at_:Int) (acc:List ByteArray),(u5t t m at_ acc).1.length≤acc.length+m
 | 0,at_,acc=>by simp[u5t]
 | m+1,at_,acc=>by
  unfold u5t
  split
  ·have:=q2y t m (u0s t at_).2.1 (acc++ [(u0s t at_).1])
   simp at this;omega
  ·simp
theorem q7z (d:u0k) (a:Int):(u0d d a).1.length<256:=by
 unfold u0d
 split
 ·have h:=q2y (u9x d (u0f a+1) 47).1 (u09 d a).toNat 0 []
  have:=r4u d a
  simp at h;omega
 ·simp
end
section
def u1r (d:u0k):Bool:=decide (1≤d.1.length∧d.1.length≤100)&&decide (d.2.length≤60)&&d.1.all (fun s=>decide (s.size=64))&&d.2.all (fun p=>r0v p.1 0 ((d.1.length:Int) - 1)&&decide (p.2.size=64))
theorem p2w {α:Type} (l:List α) (p:α→Bool):l.any (fun x=> !p x)= !l.all p:=by
 induction l with
 | nil=>rfl
 | cons x l ih=>simp only[List.any_cons,List.all_cons,ih,Bool.not_and]
theorem s2x (d:u0k) (hd:o3n.wt d≤u0p):t0u d=some (u1r d):=by
 have h1:d.1.length≤u0p:=Nat.le_trans s1i hd
 have h2:d.2.length≤u0p:=Nat.le_trans s7f hd
 unfold u0p at h1 h2
 have L1:=s02 t3t d.1 (fun i=>(d,i)) (fun s=> !decide (s.size=64)) (.inr false) (.inl d)
  (by rw[s8f];simp only[t3o,u0b,Nat.lt_irrefl,decide_false,cond_false])
  (fun i hi=>by
   rw[s8f];simp only[t3o,u0b,hi,decide_true,cond_true,y7t hi,zTn,y8k (t:=Ty.str) hi]
   rw[y7l (by omega)]
   have:decide (((d.1[i]).size:Int)=(64:Int))=decide ((d.1[i]).size=64):=by simp only[decide_eq_decide];omega
   rw[this])
 have L2:=s02 t3u d.2 (fun i=>(d,i)) (fun p=> !(r0v p.1 0 ((d.1.length:Int) - 1)&&decide (p.2.size=64))) (.inr false) (.inl ())
  (by rw[s8g];simp only[t3p,u0b,Nat.lt_irrefl,decide_false,cond_false])
  (fun i hi=>by
   rw[s8g];simp only[t3p,u0b,hi,decide_true,cond_true,y7t hi,zTn,y8k (t:=p4c) hi,t5n,zOb]
   rw[y7l (by omega),y4y (n:=(d.1.length:Int) - 1) (by omega) (by omega)]
   have:decide (((d.2[i]).2.size:Int)=(64:Int))=decide ((d.2[i]).2.size=64):=by simp only[decide_eq_decide];omega
   rw[this]
   cases r0v (d.2[i]).1 0 ((d.1.length:Int) - 1)<;>rfl)
 rw[q4p];unfold r2p u1r
 simp only[t5n,q5f (a:=(d.1.length:Int)),L1,zOb]
 have e1:decide ((1:Int)≤(d.1.length:Int)∧(d.1.length:Int)≤100)=decide (1≤d.1.length∧d.1.length≤100):=by simp only[decide_eq_decide];omega
 have e2:decide ((d.2.length:Int) >60)= !decide (d.2.length≤60):=by
  rw[←decide_not,decide_eq_decide];omega
 rw[e1,e2,p2w]
 cases decide (1≤d.1.length∧d.1.length≤100) with
 | false=>rfl
 | true=>
  cases decide (d.2.length≤60) with
  | false=>rfl
  | true=>
   cases d.1.all (fun s=>decide (s.size=64)) with
   | false=>rfl
   | true=>
    simp only[Bool.not_true,cond_false,zOb,L2,p2w]
    cases d.2.all _<;>rfl
def u3s (d:u0k):Bool:=u1r d&&decide (d.1.length=97)&&decide (d.2.length=0)&&(u0d d 0).2.2&&(u0d d 1).2.2
theorem q2r (d:u0k) (hd:o3n.wt d≤1073741824):t9z d=some (u3s d):=by
 have hb:o3n.wt d≤u0p:=by unfold u0p;omega
 rw[q64];unfold r55 u3s
 have hs:u6s ()=some 97:=by rw[s1l];rfl
 simp only[s2x d hb,hs,s21 d _ hd,zOb]
 have e1:decide ((d.1.length:Int)=97)=decide (d.1.length=97):=by rw[decide_eq_decide];omega
 have e2:decide ((d.2.length:Int) >0)= !decide (d.2.length=0):=by rw[←decide_not,decide_eq_decide];omega
 rw[e1,e2]
 cases u1r d<;>cases decide (d.1.length=97)<;>cases decide (d.2.length=0)<;>cases (u0d d 0).2.2<;>cases (u0d d 1).2.2<;>rfl
end
section
theorem p64 (d:u0k):o3n.wt d=(d.1.length+(d.1.map ByteArray.size).sum)+(d.2.length+(d.2.map fun p=>0+p.2.size).sum):=rfl
theorem q3l {α:Type} {l:List α} {f:α→Nat} {k:Nat} (h:∀x∈l,f x≤k):(l.map f).sum≤l.length*k:=by
 induction l with
 | nil=>simp
 | cons x l ih=>
  have h1:=h x (List.mem_cons_self ..)
  have h2:=ih (fun y hy=>h y (List.mem_cons_of_mem _ hy))
  simp only[List.map_cons,List.sum_cons,List.length_cons,Nat.succ_mul]
  omega
theorem q25 {d:u0k} :u1r d=true↔(1≤d.1.length∧d.1.length≤100)∧d.2.length≤60∧(∀s∈d.1,s.size=64)∧ ∀p∈d.2,(0≤p.1∧p.1<(d.1.length:Int))∧p.2.size=64:=by
 unfold u1r
 simp only[Bool.and_eq_true,decide_eq_true_eq,List.all_eq_true,r0v,and_assoc]
 constructor
 ·rintro⟨a,b,c,e,f⟩
  exact⟨a,b,c,e,fun p hp=>by obtain⟨x,y,z⟩:=f p hp;exact⟨x,by omega,z⟩⟩
 ·rintro⟨a,b,c,e,f⟩
  exact⟨a,b,c,e,fun p hp=>by obtain⟨x,y,z⟩:=f p hp;exact⟨x,by omega,z⟩⟩
theorem t3z {d:u0k} (h:u1r d=true):o3n.wt d≤11000:=by
 obtain⟨h1,h2,h3,h4⟩:=q25.mp h
 have a1:=q3l (l:=d.1) (f:=ByteArray.size) (k:=64) (fun s hs=>by rw[h3 s hs];exact Nat.le_refl _)
 have a2:=q3l (l:=d.2) (f:=fun p=>0+p.2.size) (k:=64) (fun p hp=>by rw[(h4 p hp).2];exact Nat.le_refl _)
 rw[p64]
 omega
theorem u90 (d:u0k) (hd:o3n.wt d≤u0p):u03 d=some d:=by
 have h1:d.1.length≤u0p:=Nat.le_trans s1i hd
 have h2:d.2.length≤u0p:=Nat.le_trans s7f hd
 unfold u0p at h1 h2
 rw[q1v];unfold s97
 have a1:Nat.ble (([] :List ByteArray).length+d.1.length) z7w=true:=u04 (by simp;omega)
 have a2:Nat.ble (([] :List p14.den).length+d.2.length) z7w=true:=u04 (by simp;omega)
 simp only[a1,a2,cond_true,List.nil_append]
def u6d (d:u0k) (k:Int) (t:ByteArray):Option u0k:=if u1r (d.1,d.2++ [(k,t)]) then some (d.1,d.2++ [(k,t)]) else none
def orD (d:u0k):Option u0k→u0k×Bool
 | some x=>(x,true)
 | none=>(d,false)
theorem r1m (d:u0k) (k:Int) (t:ByteArray):u1r (d.1,d.2++ [(k,t)])=(u1r d&&(r0v k 0 ((d.1.length:Int) - 1)&&(decide (t.size=64)&& !decide (60≤d.2.length)))):=by
 rw[Bool.eq_iff_iff]
 simp only[Bool.and_eq_true,Bool.not_eq_true',decide_eq_true_eq,decide_eq_false_iff_not]
 rw[q25,q25]
 simp only[List.length_append,List.length_singleton,List.mem_append,List.mem_singleton,r0v,Bool.and_eq_true,decide_eq_true_eq]
 constructor
 ·rintro⟨a,b,c,e⟩
  have:=e (k,t) (.inr rfl)
  exact⟨⟨a,by omega,c,fun p hp=>e p (.inl hp)⟩,⟨this.1.1,by have:=this.1.2;omega⟩,this.2,by omega⟩
 ·rintro⟨⟨a,b,c,e⟩,⟨f1,f2⟩,g,h⟩
  refine⟨a,by omega,c,fun p hp=> ?_⟩
  rcases hp with hp | rfl
  ·exact e p hp
  ·exact⟨⟨f1,by show k<(d.1.length:Int);omega⟩,g⟩
theorem r6x (d:u0k) (k:Int) (t:ByteArray) (hd:o3n.wt d≤1073741824) (ht:t.size≤1073741824):u88 (d,k,t)=some (orD d (u6d d k t)):=by
 have h2:d.2.length≤1073741824:=Nat.le_trans s7f hd
 have h1:d.1.length≤1073741824:=Nat.le_trans s1i hd
 have a:Nat.ble (d.2.length+([(k,t)] :List p14.den).length) z7w=true:=u04 (by simp;omega)
 have w:IntKind.i64.wrap ((d.1.length:Int) - 1)=(d.1.length:Int) - 1:=y4y (by omega) (by omega)
 have e1:decide ((t.size:Int)=(64:Int))=decide (t.size=64):=by simp only[decide_eq_decide];omega
 have e2:decide ((d.2.length:Int)≥(60:Int))=decide (60≤d.2.length):=by simp only[decide_eq_decide];omega
 rw[r3p];unfold t9e
 simp only[u90 d (by unfold u0p;omega),s2x d (by unfold u0p;omega),zOb,a,cond_true,t5n,w,e1,e2]
 unfold u6d
 rw[r1m]
 cases u1r d<;>cases r0v k 0 ((d.1.length:Int) - 1)<;>cases decide (t.size=64)<;>cases decide (60≤d.2.length)<;>rfl
def q54:Nat→u0k→Nat→Nat→ByteArray→Option u0k
 | 0,d,_,_,_=>some d
 | f+1,d,k,at_,t=>if t.size=0 then some d else
  if(u0h d (k:Int)).2=true∧(u0h d (k:Int)).1.size=64 then
   (u6d d (k:Int) ((u0h d (k:Int)).1.extract 0 at_++t.extract 0 (min t.size (64 - at_))++(u0h d (k:Int)).1.extract (at_+min t.size (64 - at_)) 64)).bind fun x=>
    q54 f x (k+1) 0 (t.extract (min t.size (64 - at_)) t.size)
  else none
theorem q5w (f:Nat) (d:u0k) (k at_:Nat) {t:ByteArray} (h:t.size=0):q54 f d k at_ t=some d:=by
 cases f with
 | zero=>rfl
 | succ f=>rw[q54,if_pos h]
theorem t45 {d x:u0k} {k:Int} {t:ByteArray} (h:u6d d k t=some x):u1r x=true∧x=(d.1,d.2++ [(k,t)]):=by
 unfold u6d at h
 split at h
 ·rename_i hk;cases h;exact⟨hk,rfl⟩
 ·cases h
theorem r6p {t:ByteArray} :z7o t ⟨#[]⟩=decide (t.size=0):=by
 rw[Bool.eq_iff_iff,y7f,decide_eq_true_eq]
 constructor
 ·rintro rfl;rfl
 ·intro h
  have:t.data= #[] :=by apply Array.eq_empty_of_size_eq_zero;exact h
  cases t;simp at this;rw[this]
theorem p36 (d0 jk:u0k) (sec at_:Nat) (t:ByteArray) (hsec:sec≤2000000000) (hat:at_≤6400) (ht:t.size≤1048576) (h0:o3n.wt d0≤1073741824):∀(f i:Nat) (out:u0k),i≤t.size→t.size - i<f→o3n.wt out≤1073741824→
 u3y ((sec:Int),(at_:Int),t,d0,jk,out,(i:Int))=some (match q54 f out (sec+(at_+i) / 64) ((at_+i) % 64) (t.extract i t.size) with
  | some x=> .inl (jk,x)
  | none=> .inr (d0,false))
 | 0,i,out,_,h,_=>by omega
 | f+1,i,out,hi,hf,ho=>by
  have hsz:(t.extract i t.size).size=t.size - i:=by simp only[ByteArray.size_extract];omega
  have w0:IntKind.i64.wrap ((at_:Int)+(i:Int))=((at_+i:Nat):Int):=by rw[y4y (by omega) (by omega)];omega
  have t1:Int.tdiv ((at_+i:Nat):Int) (64:Int)=(((at_+i) / 64:Nat):Int):=p88 (at_+i) 64
  have t2:Int.tmod ((at_+i:Nat):Int) (64:Int)=(((at_+i) % 64:Nat):Int):=p30 (at_+i) 64
  obtain⟨q,hq⟩:∃q,q=(at_+i) / 64:=⟨_,rfl⟩
  obtain⟨m,hm⟩:∃m,m=(at_+i) % 64:=⟨_,rfl⟩
  have w1:IntKind.i64.wrap ((q:Int))=(q:Int):=y4y (by omega) (by omega)
  have w2:IntKind.i64.wrap ((sec:Int)+(q:Int))=((sec+q:Nat):Int):=by rw[y4y (by omega) (by omega)];omega
  have w3:IntKind.i64.wrap ((64:Int) - (m:Int))=((64 - m:Nat):Int):=by rw[y4y (by omega) (by omega)];omega
  have w4:IntKind.i64.wrap ((t.size:Int) - (i:Int))=((t.size - i:Nat):Int):=by rw[y4y (by omega) (by omega)];omega
  rw[r19]
  simp only[t2w,w0,t1,t2,←hq,←hm,w1,w2,w3,w4,t7q out ((sec+q:Nat):Int) (by unfold u0p;omega),u90 d0 (by unfold u0p;omega),zOb,u0b]
  rw[q54,hsz]
  by_cases hz:i<t.size
  ·have hz' : ¬t.size - i=0:=by omega
   simp only[hz,decide_true,cond_true,hz',if_false]
   generalize u0h out ((sec+q:Nat):Int)=r
   obtain⟨old,rok⟩:=r
   cases rok with
   | false=>simp
   | true=>
    have e64:decide ((old.size:Int)=(64:Int))=decide (old.size=64):=by simp only[decide_eq_decide];omega
    simp only[Bool.not_true,cond_false,zOb,e64]
    by_cases hs:old.size=64
    ·obtain⟨n,hn⟩:∃n,n=min (t.size - i) (64 - m):=⟨_,rfl⟩
     have z0:((0:Int)).toNat=0:=rfl
     have hm64:m<64:=by omega
     have body:∀N:Nat,N=n→IntKind.i64.wrap ((i:Int)+(N:Int))=((i+n:Nat):Int)∧IntKind.i64.wrap ((m:Int)+(N:Int))=((m+n:Nat):Int):=fun N hN=>by
      subst hN
      exact⟨by rw[y4y (by omega) (by omega)];omega,by rw[y4y (by omega) (by omega)];omega⟩
     have c1:(decide ((0:Int)≤0)&&decide ((0:Int)≤(m:Int))&&decide ((m:Int)≤((64:Nat):Int)))=true:=by simp;omega
     have c2:(decide ((0:Int)≤(i:Int))&&decide ((i:Int)≤((i+n:Nat):Int))&&decide (((i+n:Nat):Int)≤(t.size:Int)))=true:=by simp;omega
     have c3:decide ((old.extract 0 m).size+(t.extract i (i+n)).size≤140737488355328)=true:=by simp only[ByteArray.size_extract,decide_eq_true_eq];omega
     have c4:(decide ((0:Int)≤((m+n:Nat):Int))&&decide (((m+n:Nat):Int)≤((64:Nat):Int))&&decide (((64:Nat):Int)≤((64:Nat):Int)))=true:=by simp;omega
     have c5:decide ((old.extract 0 m++t.extract i (i+n)).size+(old.extract (m+n) 64).size≤140737488355328)=true:=by simp only[ByteArray.size_append,ByteArray.size_extract,decide_eq_true_eq];omega
     have hx1:(t.extract i t.size).extract 0 n=t.extract i (i+n):=by
      rw[ByteArray.extract_extract];congr 1;omega
     have hx2:(t.extract i t.size).extract n (t.size - i)=t.extract (i+n) t.size:=by
      rw[ByteArray.extract_extract];congr 1;omega
     have hw:=r6x out ((sec+q:Nat):Int) (old.extract 0 m++t.extract i (i+n)++old.extract (m+n) 64) ho (by simp only[ByteArray.size_append,ByteArray.size_extract];omega)
     have ih:∀x:u0k,u1r x=true→u3y ((sec:Int),(at_:Int),t,d0,jk,x,((i+n:Nat):Int))=some (match q54 f x (sec+q+1) 0 (t.extract (i+n) t.size) with
      | some x=> .inl (jk,x)
      | none=> .inr (d0,false)):=fun x hx=>by
      have:=p36 d0 jk sec at_ t hsec hat ht h0 f (i+n) x (by omega) (by omega) (Nat.le_trans (t3z hx) (by omega))
      rw[this]
      by_cases he:i+n=t.size
      ·have hsz2:(t.extract (i+n) t.size).size=0:=by simp only[ByteArray.size_extract];omega
       rw[q5w _ _ _ _ hsz2,q5w _ _ _ _ hsz2]
      ·have hn2:n=64 - m:=by omega
       have e1:sec+(at_+(i+n)) / 64=sec+q+1:=by omega
       have e2:(at_+(i+n)) % 64=0:=by omega
       rw[e1,e2]
     rw[←hn,hx1,hx2]
     simp only[hs,decide_true,Bool.not_true,cond_false,and_self,if_true]
     by_cases hb:t.size - i<64 - m
     ·obtain⟨b1,b2⟩:=body (t.size - i) (by omega)
      simp only[hb,decide_true,cond_true,b1,b2,zTn,z0,c3,c5]
      rw[c1,c2,c4]
      simp only[cond_true,hw,zOb]
      cases hx:u6d out ((sec+q:Nat):Int) (old.extract 0 m++t.extract i (i+n)++old.extract (m+n) 64) with
      | none=>simp[orD]
      | some x=>
       simp only[orD,Bool.not_true,cond_false,zOb]
       exact ih x (t45 hx).1
     ·obtain⟨b1,b2⟩:=body (64 - m) (by omega)
      simp only[hb,decide_false,cond_false,b1,b2,zTn,z0,c3,c5]
      rw[c1,c2,c4]
      simp only[cond_true,hw,zOb]
      cases hx:u6d out ((sec+q:Nat):Int) (old.extract 0 m++t.extract i (i+n)++old.extract (m+n) 64) with
      | none=>simp[orD]
      | some x=>
       simp only[orD,Bool.not_true,cond_false,zOb]
       exact ih x (t45 hx).1
    ·simp[hs]
  ·have hz' :t.size - i=0:=by omega
   simp only[hz,decide_false,cond_false,hz',if_true]
def u41 (d:u0k) (sector at_:Int) (t:ByteArray):Option u0k:=
 if r0v at_ 0 6400&&r0v sector 0 ((d.1.length:Int) - 1)&&u1r d then q54 (t.size+1) d (sector.toNat+at_.toNat / 64) (at_.toNat % 64) t else none
theorem t7s (d:u0k) (sector at_:Int) (t:ByteArray) (hd:o3n.wt d≤1073741824) (ht:t.size≤1048576):u6r (d,sector,at_,t)=some (orD d (u41 d sector at_ t)):=by
 have h1:d.1.length≤1073741824:=Nat.le_trans s1i hd
 have w:IntKind.i64.wrap ((d.1.length:Int) - 1)=(d.1.length:Int) - 1:=y4y (by omega) (by omega)
 rw[r46];unfold s1e u41
 simp only[u90 d (by unfold u0p;omega),s2x d (by unfold u0p;omega),zOb,t5n,w]
 cases ha:r0v at_ 0 6400 with
 | false=>rfl
 | true=>
  cases hs:r0v sector 0 ((d.1.length:Int) - 1) with
  | false=>rfl
  | true=>
   cases hk:u1r d with
   | false=>rfl
   | true=>
    simp only[r0v,Bool.and_eq_true,decide_eq_true_eq] at ha hs
    obtain⟨s,rfl⟩:∃s:Nat,sector=(s:Int):=⟨sector.toNat,by omega⟩
    obtain⟨a,rfl⟩:∃a:Nat,at_=(a:Int):=⟨at_.toNat,by omega⟩
    have L:=p36 d ([], []) s a t (by omega) (by omega) ht hd (t.size+1) 0 d (by omega) (by omega) hd
    have L:u3y ((s:Int),(a:Int),t,d,([], []),d,0)=_:=L
    have e:t.extract 0 t.size=t:=ByteArray.extract_zero_size
    simp only[Bool.not_true,cond_false,zOb,L,Bool.and_self,if_true,zTn,Nat.add_zero,e]
    cases q54 (t.size+1) d (s+a / 64) (a % 64) t<;>rfl
end
section
def t8q (s:List ByteArray) (p:Int×ByteArray):List ByteArray:=s.set p.1.toNat p.2
def flush (d:u0k):u0k:=if u1r d then(d.2.foldl t8q d.1, []) else d
theorem r5l (s:List ByteArray) (p:Int×ByteArray):(t8q s p).length=s.length:=by simp[t8q]
theorem r1q:∀(c:List (Int×ByteArray)) (s:List ByteArray),(c.foldl t8q s).length=s.length
 | [],s=>rfl
 | p::c,s=>by rw[List.foldl_cons,r1q c,r5l]
theorem q28:∀(c:List (Int×ByteArray)) (s:List ByteArray),(∀p∈c,p.2.size=64)→(∀x∈s,x.size=64)→ ∀x∈c.foldl t8q s,x.size=64
 | [],s,_,h=>h
 | p::c,s,hc,h=>by
  rw[List.foldl_cons]
  refine q28 c _ (fun q hq=>hc q (List.mem_cons_of_mem _ hq)) (fun x hx=> ?_)
  rcases List.mem_or_eq_of_mem_set hx with hx | rfl
  ·exact h x hx
  ·exact hc p (List.mem_cons_self ..)
theorem t5m {d:u0k} (h:u1r d=true):u1r (flush d)=true∧(flush d).2= [] ∧(flush d).1.length=d.1.length:=by
 unfold flush
 rw[if_pos h]
 obtain⟨h1,h2,h3,h4⟩:=q25.mp h
 refine⟨q25.mpr ⟨by rw[r1q];exact h1,by simp,q28 _ _ (fun p hp=>(h4 p hp).2) h3,fun p hp=>by cases hp⟩,rfl,r1q _ _⟩
theorem t47 (d:u0k) (hd:o3n.wt d≤1073741824):u5h d=some (flush d):=by
 have h1:d.1.length≤1073741824:=Nat.le_trans s1i hd
 have h2:d.2.length≤1073741824:=Nat.le_trans s7f hd
 rw[r7b];unfold s30 flush
 simp only[u90 d (by unfold u0p;omega),s2x d (by unfold u0p;omega),zOb]
 cases hk:u1r d with
 | false=>rfl
 | true=>
  obtain⟨k1,k2,k3,k4⟩:=q25.mp hk
  have L:=t4r u83 d.2 (fun s i=>(d,([], []),(s,d.2),i)) t8q (fun s=> .inl (([], []),(s,d.2))) (fun _ s=>s.length=d.1.length)
   (fun s _=>by rw[s0a];simp only[u8x,u0b,Nat.lt_irrefl,decide_false,cond_false])
   (fun i hi s hs=>by
    refine⟨by rw[r5l];exact hs,?_⟩
    have hp:=(k4 d.2[i] (List.getElem_mem hi)).1
    have hg:y4q (d.2[i]).1 s.length=true:=by simp[y4q,hs,hp.1,hp.2]
    rw[s0a];simp only[u8x,u0b,hi,decide_true,cond_true,y7t hi,zTn,y8k (t:=p4c) hi,hg]
    rw[y7l (by omega)]
    rfl) d.1 rfl
  simp only[Bool.not_true,cond_false,L,zOb,if_true]
def q86 (keep:List Int) (i:Nat):Bool:=decide (i<keep.length)&& !decide (Int.tmod (rdL (Ty.int .i64) keep i) 2=0)
def r3z (keep:List Int):Nat→Int
 | 0=> -1
 | n+1=>if q86 keep n then(n:Int) else r3z keep n
def t8t (tear:Int):Nat:=(if Int.tmod tear 65<0 then Int.tmod tear 65+65 else Int.tmod tear 65).toNat
def r3i (d:u0k) (keep:List Int) (last:Int) (n:Nat) (s:List ByteArray) (i:Nat):List ByteArray:=
 if q86 keep i then
  (if(i:Int)=last then t8q s ((rdL p4c d.2 i).1,(rdL p4c d.2 i).2.extract 0 n++(rdL Ty.str s (rdL p4c d.2 i).1.toNat).extract n (rdL Ty.str s (rdL p4c d.2 i).1.toNat).size)
   else t8q s (rdL p4c d.2 i))
 else s
def t85 (d:u0k) (keep:List Int) (tear:Int):u0k:=
 if u1r d then((List.range d.2.length).foldl (r3i d keep (r3z keep d.2.length) (t8t tear)) d.1, []) else d
theorem p5t (tear:Int):t8t tear≤64∧((t8t tear:Nat):Int)=(if Int.tmod tear 65<0 then Int.tmod tear 65+65 else Int.tmod tear 65):=by
 have h1:Int.tmod tear 65<65:=Int.tmod_lt_of_pos _ (by omega)
 have h2: -65<Int.tmod tear 65:=by
  have:=Int.lt_tmod_of_pos tear (show(0:Int)<65 by omega)
  exact this
 unfold t8t
 split<;>omega
section
variable {d:u0k} (hk:u1r d=true) (keep:List Int)
include hk in
include hk in
include hk
end
end
section
theorem r8f (t:ByteArray):∀(m:Nat) (at_:Int) (acc:List ByteArray),0≤at_∧at_≤t.size→0≤(u5t t m at_ acc).2.1∧(u5t t m at_ acc).2.1≤t.size
 | 0,at_,acc,h=>h
 | m+1,at_,acc,h=>by
  unfold u5t
  split
  ·rename_i hc
   simp only[Bool.and_eq_true] at hc
   exact r8f t m _ _ (s73 hc.1)
  ·simp
theorem r1x (d:u0k) (a:Int):0≤(u0d d a).2.1∧(u0d d a).2.1≤(100*o3n.wt d:Nat):=by
 unfold u0d
 split
 ·have h1:=r8f (u9x d (u0f a+1) 47).1 (u09 d a).toNat 0 [] (by simp)
  have h2:=r6o d (u0f a+1) 47
  omega
 ·simp only[Int.le_refl,true_and]
  omega
def u0x (t:ByteArray):ByteArray:=y7g (t83 t.size)++t
theorem s76 (t:ByteArray):t.size≤(u0x t).size∧(u0x t).size≤2*t.size+1:=by
 unfold u0x
 rw[ByteArray.size_append,u45]
 have:=p5y t.size
 omega
def t3y (d:u0k) (a:Int) (t:ByteArray):Option u0k:=
 if(u0d d a).2.2=false∨t.size=0∨3008<t.size∨255≤u09 d a∨3008<(u0d d a).2.1+((u0x t).size:Int) then none
 else u41 d (u0f a+1) (u0d d a).2.1 (u0x t)
theorem q87 (d:u0k) (a:Int) (t:ByteArray) (hd:o3n.wt d≤10000000) (ht:t.size≤1048576):t8n (d,a,t)=some (orD d (t3y d a t)):=by
 have hr:=r1x d a
 have hs:=s76 t
 have ha:=t9h a
 rw[r9g];unfold s68 t3y
 simp only[s21 d a (by omega),u90 d (by unfold u0p;omega),t88 d a (by unfold u0p;omega),r9v t.size (by omega),t46,zOb,r6p]
 have e1:decide ((t.size:Int) >(3008:Int))=decide (3008<t.size):=by simp only[decide_eq_decide];omega
 have w1:IntKind.i64.wrap ((3008:Int) - (u0d d a).2.1)=3008 - (u0d d a).2.1:=y4y (by omega) (by omega)
 have w2:IntKind.i64.wrap (u0f a+1)=u0f a+1:=y4y (by omega) (by omega)
 rw[e1]
 cases h1:(u0d d a).2.2 with
 | false=>simp[orD]
 | true=>
  by_cases h2:t.size=0
  ·simp[h2,orD]
  ·by_cases h3:3008<t.size
   ·simp[h2,h3,orD]
   ·by_cases h4:255≤u09 d a
    ·have:decide (u09 d a≥255)=true:=by simpa using h4
     simp[h2,h3,h4,orD]
    ·have e4:decide (u09 d a≥255)=false:=by simp;omega
     have c:decide ((y7g (t83 t.size)).size+t.size≤140737488355328)=true:=by
      have h5:(u0x t).size=(y7g (t83 t.size)).size+t.size:=by unfold u0x;rw[ByteArray.size_append]
      simp;omega
     simp only[h2,h3,decide_false,Bool.not_true,cond_false,zOb,e4,c,cond_true,w1,w2]
     have hsz:y7g (t83 t.size)++t=u0x t:=rfl
     rw[hsz]
     by_cases h6:3008<(u0d d a).2.1+((u0x t).size:Int)
     ·have:decide (((u0x t).size:Int) >3008 - (u0d d a).2.1)=true:=by simp;omega
      simp[this,h6,orD]
     ·have:decide (((u0x t).size:Int) >3008 - (u0d d a).2.1)=false:=by simp;omega
      simp only[this,cond_false,t7s d (u0f a+1) (u0d d a).2.1 (u0x t) (by omega) (by omega),zOb]
      rw[if_neg (by simp[h2,h3,h6];omega)]
def t4t (n:Int):ByteArray:=y7g [IntKind.u8.wrap n]
theorem u3b (n:Int):(t4t n).size=1:=by unfold t4t;rw[u45];rfl
def s7e (d:u0k) (a n:Int):Option u0k:=u41 d (u0f a) 0 (t4t n)
theorem r9w (d:u0k) (a n:Int) (hd:o3n.wt d≤1073741824):t4g (d,a,n)=some (orD d (s7e d a n)):=by
 rw[r9h];unfold s69
 have h1:t4h n=some (t4t n):=by rw[r3q];rfl
 simp only[t46,h1,zOb,t7s d (u0f a) 0 (t4t n) hd (by rw[u3b];omega)]
 rfl
theorem p35:∀ {f:Nat} {d x:u0k} {k at_:Nat} {t:ByteArray},q54 f d k at_ t=some x→(u1r d=true→u1r x=true)∧x.1=d.1∧(t.size≠0→0<f→u1r x=true)
 | 0,d,x,k,at_,t,h=>by cases h;exact⟨id,rfl,fun _ h=>by omega⟩
 | f+1,d,x,k,at_,t,h=>by
  rw[q54] at h
  split at h
  ·rename_i hz
   cases h;exact⟨id,rfl,fun hne=>absurd hz hne⟩
  ·split at h
   ·cases hw:u6d d (k:Int) ((u0h d (k:Int)).1.extract 0 at_++t.extract 0 (min t.size (64 - at_))++(u0h d (k:Int)).1.extract (at_+min t.size (64 - at_)) 64) with
    | none=>rw[hw] at h;cases h
    | some y=>
     rw[hw] at h
     simp only[zOb] at h
     obtain⟨k1,k2⟩:=t45 hw
     obtain⟨i1,i2,_⟩:=p35 h
     exact⟨fun _=>i1 k1,by rw[i2,k2],fun _ _=>i1 k1⟩
   ·cases h
theorem u5x {d x:u0k} {s at_:Int} {t:ByteArray} (h:u41 d s at_ t=some x):u1r d=true∧u1r x=true∧x.1=d.1:=by
 unfold u41 at h
 split at h
 ·rename_i hc
  simp only[Bool.and_eq_true] at hc
  obtain⟨i1,i2,_⟩:=p35 h
  exact⟨hc.2,i1 hc.2,i2⟩
 ·cases h
theorem s28 {d x:u0k} {a:Int} {t:ByteArray} (h:t3y d a t=some x):u1r d=true∧u1r x=true∧x.1=d.1∧(u0d d a).2.2=true:=by
 unfold t3y at h
 split at h
 ·cases h
 ·rename_i hc
  have:=u5x h
  simp only[not_or] at hc
  exact⟨this.1,this.2.1,this.2.2,by simpa using hc.1⟩
theorem r1u {d:u0k} (hk:u1r d=true) (h2:d.2= []) {s:Int} (h0:0≤s) (h1:s<(d.1.length:Int)) {b:ByteArray} (hb:b.size=1):
 u41 d s 0 b=some (d.1, [(s,b++(rdL Ty.str d.1 s.toNat).extract 1 64)]):=by
 obtain⟨k1,k2,k3,k4⟩:=q25.mp hk
 have hlt:s.toNat<d.1.length:=by omega
 have hold:(rdL Ty.str d.1 s.toNat).size=64:=by
  have e:rdL Ty.str d.1 s.toNat=d.1[s.toNat] :=y8k (t:=Ty.str) hlt
  rw[e]
  exact k3 _ (List.getElem_mem hlt)
 have hs:((s.toNat:Nat):Int)=s:=by omega
 have hrd:u0h d s=(rdL Ty.str d.1 s.toNat,true):=by
  unfold u0h
  rw[if_pos ⟨h0,h1⟩,h2]
  rfl
 have c:(r0v 0 0 6400&&r0v s 0 ((d.1.length:Int) - 1)&&u1r d)=true:=by
  rw[hk]
  simp[r0v]
  omega
 have e1:(rdL Ty.str d.1 s.toNat).extract 0 0=ByteArray.empty:=by
  apply ByteArray.ext
  simp
 have e2:b.extract 0 1=b:=by rw[←hb];exact ByteArray.extract_zero_size
 have hw:u6d d s (b++(rdL Ty.str d.1 s.toNat).extract 1 64)=some (d.1, [(s,b++(rdL Ty.str d.1 s.toNat).extract 1 64)]):=by
  unfold u6d
  rw[r1m,hk,h2]
  have:r0v s 0 ((d.1.length:Int) - 1)=true:=by simp[r0v];omega
  rw[this]
  have hz:(b++(rdL Ty.str d.1 s.toNat).extract 1 64).size=64:=by
   rw[ByteArray.size_append,ByteArray.size_extract,hb,hold];omega
  simp[hz]
 unfold u41
 rw[if_pos c]
 have z:(0:Int).toNat=0:=rfl
 simp only[z,Nat.zero_div,Nat.zero_mod,Nat.add_zero,hb]
 rw[q54,if_neg (by omega)]
 rw[hs,hrd]
 simp only[hold,and_self,if_true,hb]
 have m1:min 1 (64 - 0)=1:=by decide
 rw[m1,e1,e2]
 have e3:ByteArray.empty++b++(rdL Ty.str d.1 s.toNat).extract (0+1) 64=b++(rdL Ty.str d.1 s.toNat).extract 1 64:=by
  rw[ByteArray.empty_append]
 rw[e3,hw]
 simp only[zOb]
 exact q5w _ _ _ _ (by rw[ByteArray.size_extract,hb];decide)
end
section
def s4b (d:u0k) (a:Int):Int:=IntKind.i64.wrap (u09 d a+1)
def q3d (d:u0k) (a:Int) (t:ByteArray):Option u0k:=(t3y d a t).map fun x=>flush (orD (flush x) (s7e (flush x) a (s4b d a))).1
theorem p03 {d x:u0k} {a:Int} {t:ByteArray} (h:t3y d a t=some x):p1d a=true:=by
 have:=(s28 h).2.2.2
 unfold u0d at this
 split at this
 ·rename_i hc
  simp only[Bool.and_eq_true] at hc
  exact hc.1
 ·cases this
theorem q4c {d x:u0k} {a n:Int} {t:ByteArray} (hlen:d.1.length=97) (h:t3y d a t=some x):∃y,s7e (flush x) a n=some y∧u1r y=true∧y.1.length=97:=by
 obtain⟨h1,h2,h3,_⟩:=s28 h
 obtain⟨f1,f2,f3⟩:=t5m h2
 have hl:(flush x).1.length=97:=by rw[f3,h3];exact hlen
 have ha:=t9h a
 have ho:=r1u (s:=u0f a) f1 f2 (by omega) (by rw[hl];omega) (u3b n)
 have:=u5x ho
 exact⟨_,ho,this.2.1,by rw[this.2.2];exact hl⟩
theorem u43 {d:u0k} (h:u3s d=true):u1r d=true∧d.1.length=97∧d.2= [] ∧(u0d d 0).2.2=true∧(u0d d 1).2.2=true:=by
 unfold u3s at h
 simp only[Bool.and_eq_true,decide_eq_true_eq] at h
 obtain⟨⟨⟨⟨a,b⟩,c⟩,e⟩,f⟩:=h
 exact⟨a,b,List.length_eq_zero_iff.mp c,e,f⟩
theorem q7j (d:u0k) (a:Int) (t:ByteArray) (hd:o3n.wt d≤10000000) (ht:t.size≤1048576) (hlen:d.1.length=97):t7k (d,a,t)=some (orD d (q3d d a t)):=by
 rw[q42];unfold r22 q3d
 simp only[q87 d a t hd ht,zOb]
 cases hb:t3y d a t with
 | none=>rfl
 | some x=>
  have hx:=t3z (s28 hb).2.1
  have hf:=t3z (t5m (s28 hb).2.1).1
  obtain⟨y,hy,hy2,_⟩:=q4c (n:=s4b d a) hlen hb
  have hyw:=t3z hy2
  simp only[orD,Bool.not_true,cond_false,t47 x (by omega),t88 d a (by unfold u0p;omega),zOb,r9w (flush x) a _ (by omega)]
  have hc:IntKind.i64.wrap (u09 d a+1)=s4b d a:=rfl
  rw[hc,hy]
  simp only[orD,t47 y (by omega),zOb,Option.map_some,hy]
theorem q0v (d:u0k) (a:Int) (t:ByteArray) (hd:o3n.wt d≤10000000) (ht:t.size≤1048576):t6r (d,a,t)=some (orD d (if u3s d then q3d d a t else none)):=by
 rw[r7d];unfold s32
 simp only[q2r d (by omega),s8m,u90 d (by unfold u0p;omega),zOb]
 cases hl:u3s d with
 | false=>simp[orD]
 | true=>
  cases ha:p1d a with
  | false=>
   have hn:q3d d a t=none:=by
    unfold q3d
    cases hb:t3y d a t with
    | none=>rfl
    | some x=>rw[p03 hb] at ha;cases ha
   simp[hn,orD]
  | true=>
   simp only[Bool.not_true,cond_false,zOb,q7j d a t hd ht (u43 hl).2.1,if_true]
   cases q3d d a t<;>simp[orD]
def append_ (d:u0k) (t:ByteArray):Option u0k:=if u3s d then q3d d (u0z d) t else none
theorem s85 (d:u0k) (t:ByteArray) (hd:o3n.wt d≤10000000) (ht:t.size≤1048576):t2q (d,t)=some (orD d (append_ d t)):=by
 rw[r68];unfold s3x append_
 simp only[s2w d (by unfold u0p;omega),zOb,q0v d _ t hd ht]
theorem p3s {d y:u0k} {a:Int} {t:ByteArray} (hlen:d.1.length=97) (h:q3d d a t=some y):∃x,t3y d a t=some x∧u1r x=true∧u1r y=true∧y.2= [] ∧y.1.length=97∧y=flush (orD (flush x) (s7e (flush x) a (s4b d a))).1:=by
 unfold q3d at h
 cases hb:t3y d a t with
 | none=>rw[hb] at h;cases h
 | some x=>
  rw[hb] at h
  simp only[Option.map_some,Option.some.injEq] at h
  obtain⟨z,hz,hz2,hz3⟩:=q4c (n:=s4b d a) hlen hb
  rw[hz] at h
  simp only[orD] at h
  obtain⟨f1,f2,f3⟩:=t5m hz2
  rw[←h]
  exact⟨x,rfl,(s28 hb).2.1,f1,f2,by rw[f3];exact hz3,by rw[hz];rfl⟩
section
variable {d:u0k} {t:ByteArray} (hd:o3n.wt d≤10000000) (ht:t.size≤1048576)
include hd ht
end
end
section
theorem r1h {d x:u0k} {k:Int} {s:ByteArray} (h:u6d d k s=some x) {j:Int} (hj:j≠k):u0h x j=u0h d j:=by
 have:=(t45 h).2
 subst this
 have hne: ¬k=j:=fun z=>hj z.symm
 unfold u0h
 simp only[s7w,hne,if_false]
theorem s8v:∀ {f:Nat} {d x:u0k} {k at_:Nat} {t:ByteArray},q54 f d k at_ t=some x→at_<64→ ∀j:Nat,¬(k≤j∧j*64<k*64+at_+t.size)→u0h x (j:Int)=u0h d (j:Int)
 | 0,d,x,k,at_,t,h,_,j,_=>by cases h;rfl
 | f+1,d,x,k,at_,t,h,hat,j,hj=>by
  rw[q54] at h
  split at h
  ·cases h;rfl
  ·rename_i hz
   split at h
   ·cases hw:u6d d (k:Int) ((u0h d (k:Int)).1.extract 0 at_++t.extract 0 (min t.size (64 - at_))++(u0h d (k:Int)).1.extract (at_+min t.size (64 - at_)) 64) with
    | none=>rw[hw] at h;cases h
    | some y=>
     rw[hw] at h
     simp only[zOb] at h
     have hne:j≠k:=fun z=>hj ⟨by omega,by omega⟩
     rw[←r1h hw (j:=(j:Int)) (by omega)]
     refine s8v h (by omega) j (fun z=>hj ?_)
     rw[ByteArray.size_extract] at z
     omega
   ·cases h
theorem p3w {s:List ByteArray} {p:Int×ByteArray} {j:Int} (hp:0≤p.1) (hj0:0≤j) (hj:j.toNat<s.length):rdL Ty.str (t8q s p) j.toNat=if p.1=j then p.2 else rdL Ty.str s j.toNat:=by
 have h' :j.toNat<(s.set p.1.toNat p.2).length:=by rw[List.length_set];exact hj
 have e1:rdL Ty.str (s.set p.1.toNat p.2) j.toNat=(s.set p.1.toNat p.2)[j.toNat] :=y8k (t:=Ty.str) h'
 have e2:rdL Ty.str s j.toNat=s[j.toNat] :=y8k (t:=Ty.str) hj
 show rdL Ty.str (s.set p.1.toNat p.2) j.toNat=_
 rw[e1,e2,List.getElem_set]
 by_cases e:p.1=j
 ·rw[if_pos (by rw[e]),if_pos e]
 ·rw[if_neg (by omega),if_neg e]
theorem q29 {j:Int} (hj0:0≤j) (z:ByteArray):∀(c:List (Int×ByteArray)) (s:List ByteArray) (t:Option ByteArray),(∀p∈c,0≤p.1)→j.toNat<s.length→rdL Ty.str s j.toNat=t.getD z→
 rdL Ty.str (c.foldl t8q s) j.toNat=(c.foldl (fun t p=>if p.1=j then some p.2 else t) t).getD z
 | [],s,t,_,_,h=>h
 | p::c,s,t,hc,hl,h=>by
  rw[List.foldl_cons,List.foldl_cons]
  refine q29 hj0 z c _ _ (fun q hq=>hc q (List.mem_cons_of_mem _ hq)) (by rw[r5l];exact hl) ?_
  rw[p3w (hc p (List.mem_cons_self ..)) hj0 hl]
  split
  ·rfl
  ·exact h
theorem u9r {d:u0k} (hk:u1r d=true) (j:Int):u0h (flush d) j=u0h d j:=by
 obtain⟨_,f2,f3⟩:=t5m hk
 obtain⟨k1,k2,k3,k4⟩:=q25.mp hk
 unfold u0h
 rw[f3]
 split
 ·rename_i hj
  have e1:u9t (flush d).2 j=none:=by rw[f2];rfl
  rw[e1]
  have e2:(flush d).1=d.2.foldl t8q d.1:=by unfold flush;rw[if_pos hk]
  rw[e2]
  have:=q29 hj.1 (rdL Ty.str d.1 j.toNat) d.2 d.1 none (fun p hp=>(k4 p hp).1.1) (by omega) rfl
  show(rdL Ty.str (d.2.foldl t8q d.1) j.toNat,true)=_
  rw[this]
  rfl
 ·rfl
theorem q0d {d d' :u0k} {from_:Int} :∀(m i:Nat) (acc:ByteArray),(∀q:Nat,i≤q→q<i+m→u0h d' (from_+(q:Int))=u0h d (from_+(q:Int)))→r5k d' from_ m i acc=r5k d from_ m i acc
 | 0,i,acc,h=>rfl
 | m+1,i,acc,h=>by
  unfold r5k
  rw[h i (by omega) (by omega)]
  split
  ·exact q0d m (i+1) _ (fun q h1 h2=>h q (by omega) (by omega))
  ·rfl
theorem u8o {d d' :u0k} {o:Int} (h:∀q:Nat,q<48→u0h d' (u0f o+(q:Int))=u0h d (u0f o+(q:Int))):u0d d' o=u0d d o:=by
 have h1:u9x d' (u0f o+1) 47=u9x d (u0f o+1) 47:=by
  unfold u9x
  rw[if_pos (by omega),if_pos (by omega)]
  refine q0d _ _ _ (fun q _ hq=> ?_)
  have:=h (q+1) (by simp at hq;omega)
  rw[show u0f o+1+(q:Int)=u0f o+((q+1:Nat):Int) by omega]
  exact this
 have h2:u09 d' o=u09 d o:=by
  unfold u09 u36
  have:=h 0 (by omega)
  rw[show u0f o+((0:Nat):Int)=u0f o by omega] at this
  rw[this]
 unfold u0d
 rw[h1,h2]
def OnlyArea (a:Int) (d d' :u0k):Prop:= ∀j:Nat,¬(u0f a≤(j:Int)∧(j:Int)<u0f a+48)→u0h d' (j:Int)=u0h d (j:Int)
theorem OnlyArea.other {a o:Int} {d d' :u0k} (h:OnlyArea a d d') (ha:a=0∨a=1) (ho:o=1 - a):u0d d' o=u0d d o:=by
 refine u8o (fun q hq=> ?_)
 have hf:u0f o=1+o*48:=by unfold u0f;rw[if_pos (p4z.mpr (by omega))]
 have hfa:u0f a=1+a*48:=by unfold u0f;rw[if_pos (p4z.mpr ha)]
 obtain⟨j,hj⟩:∃j:Nat,u0f o+(q:Int)=(j:Int):=⟨(u0f o+(q:Int)).toNat,by rcases ha with rfl | rfl<;>omega⟩
 rw[hj]
 exact h j (by rcases ha with rfl | rfl<;>omega)
theorem OnlyArea.trans {a:Int} {d d' e:u0k} (h1:OnlyArea a d d') (h2:OnlyArea a d' e):OnlyArea a d e:=fun j hj=>(h2 j hj).trans (h1 j hj)
theorem OnlyArea.flush {a:Int} {d d' :u0k} (h:OnlyArea a d d') (hk:u1r d' =true):OnlyArea a d (flush d'):=fun j hj=>(u9r hk _).trans (h j hj)
theorem s54 {d x:u0k} {s at_:Int} {t:ByteArray} (h:u41 d s at_ t=some x) {j:Nat} (hj: ¬(s≤(j:Int)∧(j:Int)*64<s*64+at_+(t.size:Int))):u0h x (j:Int)=u0h d (j:Int):=by
 unfold u41 at h
 split at h
 ·rename_i hc
  simp only[Bool.and_eq_true,r0v,decide_eq_true_eq] at hc
  refine s8v h (Nat.mod_lt _ (by omega)) j (fun z=>hj ?_)
  omega
 ·cases h
theorem p04 {d x:u0k} {a:Int} {t:ByteArray} (h:t3y d a t=some x):OnlyArea a d x:=by
 have h0:=h
 unfold t3y at h
 split at h
 ·cases h
 ·rename_i hc
  simp only[not_or] at hc
  intro j hj
  refine s54 h (fun z=>hj ?_)
  omega
theorem q23 {d x:u0k} {a n:Int} (h:s7e d a n=some x):OnlyArea a d x:=by
 intro j hj
 refine s54 h (fun z=>hj ?_)
 rw[u3b] at z
 omega
theorem p5f {d y:u0k} {a:Int} {t:ByteArray} (hlen:d.1.length=97) (h:q3d d a t=some y):OnlyArea a d y:=by
 unfold q3d at h
 cases hb:t3y d a t with
 | none=>rw[hb] at h;cases h
 | some x=>
  rw[hb] at h
  simp only[Option.map_some,Option.some.injEq] at h
  obtain⟨z,hz,hz2,hz3⟩:=q4c (n:=s4b d a) hlen hb
  rw[hz] at h
  subst h
  exact(((p04 hb).flush (s28 hb).2.1).trans (q23 hz)).flush hz2
structure Mid (o:Int) (x:u0k):Prop where
 ok:u1r x=true
 len:x.1.length=97
 nil:x.2= []
 other:(u0d x o).2.2=true
theorem Mid.put {a o:Int} {x y:u0k} {t:ByteArray} (h:Mid o x) (ha:a=0∨a=1) (ho:o=1 - a) (hp:q3d x a t=some y):Mid o y:=by
 obtain⟨_,_,_,p1,p2,p3,_⟩:=p3s h.len hp
 exact⟨p1,p3,p2,by rw[(p5f h.len hp).other ha ho];exact h.other⟩
def r0u (a:Int):List ByteArray→u0k→Option u0k
 | [],x=>some x
 | t::l,x=>(q3d x a t).bind (r0u a l)
theorem q27 {a o:Int} (ha:a=0∨a=1) (ho:o=1 - a):∀ {l:List ByteArray} {x y:u0k},Mid o x→r0u a l x=some y→Mid o y
 | [],x,y,h,hy=>by cases hy;exact h
 | t::l,x,y,h,hy=>by
  unfold r0u at hy
  cases hp:q3d x a t with
  | none=>rw[hp] at hy;cases hy
  | some z=>
   rw[hp] at hy
   exact q27 ha ho (h.put ha ho hp) hy
theorem q7d {a o:Int} (ha:a=0∨a=1) (ho:o=1 - a) (jk:u0k) (list:List ByteArray) (hl:list.length≤1048576) (hs:∀t∈list,t.size≤1048576):∀(r i:Nat) (x:u0k),i+r=list.length→Mid o x→
 ∃q,u78 (list,jk,a,x,true,(i:Int))=some (.inl (jk,q))∧(match r0u a (list.drop i) x with
  | some y=>q=(y,true)
  | none=>q.2=false)
 | 0,i,x,hi,hm=>by
  have:i=list.length:=by omega
  subst this
  rw[t6x]
  simp only[u7r,u0b,Nat.lt_irrefl,decide_false,cond_false,List.drop_length,r0u,zOb]
  exact⟨_,rfl,rfl⟩
 | r+1,i,x,hi,hm=>by
  have h:i<list.length:=by omega
  have hw:=t3z hm.ok
  have hts:=hs list[i] (List.getElem_mem h)
  have hr:rdL Ty.str list i=list[i] :=y8k (t:=Ty.str) h
  rw[t6x,List.drop_eq_getElem_cons h]
  simp only[u7r,u0b,h,decide_true,cond_true,y7t h,zTn,hr,q7j x a list[i] (by omega) hts hm.len,zOb,r0u]
  rw[y7l (by omega)]
  cases hp:q3d x a list[i] with
  | none=>
   simp only[orD,Option.bind_none]
   rw[t6x]
   simp only[u7r,u0b]
   cases decide (i+1<list.length)<;>exact⟨_,rfl,rfl⟩
  | some y=>
   simp only[orD,zOb]
   exact q7d ha ho jk list hl hs r (i+1) y (by omega) (hm.put ha ho hp)
end
section
def u4p (d:u0k):Int:=1 - u0z d
theorem t4v (d:u0k):(u4p d=0∨u4p d=1)∧u0z d=1 - u4p d:=by
 unfold u4p
 have:=t2x d
 omega
def s1m (d:u0k):u0k:=flush (orD d (s7e d (u4p d) 0)).1
def s80 (d:u0k) (l:List ByteArray):Option u0k:=if u3s d then r0u (u4p d) l (s1m d) else none
def p1y (x:u0k):Option u0k:=u41 x 0 0 (t4t (IntKind.i64.wrap (u36 x 0+1)))
def s78 (d:u0k) (l:List ByteArray):Option u0k:=(s80 d l).map fun x=>flush (orD x (p1y x)).1
theorem q6t {d:u0k} (hl:u3s d=true) (a n:Int):∃z,s7e d a n=some z∧u1r z=true∧z.1.length=97:=by
 obtain⟨h1,h2,h3,_⟩:=u43 hl
 have ha:=t9h a
 have ho:=r1u (s:=u0f a) h1 h3 (by omega) (by omega) (u3b n)
 have:=u5x ho
 exact⟨_,ho,this.2.1,by rw[this.2.2];exact h2⟩
theorem q7b {d:u0k} (hl:u3s d=true):Mid (u0z d) (s1m d):=by
 obtain⟨z,hz,hz2,hz3⟩:=q6t hl (u4p d) 0
 obtain⟨a1,a2⟩:=t4v d
 obtain⟨h1,h2,h3,h4,h5⟩:=u43 hl
 obtain⟨f1,f2,f3⟩:=t5m hz2
 have e:s1m d=flush z:=by unfold s1m;rw[hz];rfl
 have hr:(u0d d (u0z d)).2.2=true:=by
  rcases t2x d with h | h<;>rw[h] <;>assumption
 rw[e]
 exact⟨f1,by rw[f3];exact hz3,f2,by rw[((q23 hz).flush hz2).other a1 a2];exact hr⟩
theorem p7l {x:u0k} {o:Int} (h:Mid o x):∃y,p1y x=some y∧u1r y=true:=by
 have ho:=r1u (s:=0) h.ok h.nil (by omega) (by rw[h.len];omega) (u3b (IntKind.i64.wrap (u36 x 0+1)))
 exact⟨_,ho,(u5x ho).2.1⟩
section
variable {d:u0k} {l:List ByteArray} (hd:o3n.wt d≤10000000) (hl:l.length≤1048576) (hs:∀t∈l,t.size≤1048576)
include hd hl hs
omit hd hl hs in
theorem p7p:IntKind.i64.wrap ((1:Int) - u0z d)=u4p d:=by
 unfold u4p
 have:=t2x d
 rw[y4y (by omega) (by omega)]
omit hd hl hs in
theorem p24 {x:u0k} (h:s80 d l=some x):u3s d=true∧Mid (u0z d) x:=by
 unfold s80 at h
 split at h
 ·rename_i hlo
  obtain⟨a1,a2⟩:=t4v d
  exact⟨hlo,q27 a1 a2 (q7b hlo) h⟩
 ·cases h
theorem q7i (hlo:u3s d=true):∃q,s0w (d,l)=some q∧(match s80 d l with
 | some y=>q=(y,true)
 | none=>q.2=false):=by
 obtain⟨z,hz,hz2,hz3⟩:=q6t hlo (u4p d) 0
 have hzw:=t3z hz2
 obtain⟨a1,a2⟩:=t4v d
 have e:flush z=s1m d:=by unfold s1m;rw[hz];rfl
 obtain⟨q,L,hq⟩:=q7d a1 a2 ([], []) l hl hs l.length 0 (s1m d) (by omega) (q7b hlo)
 have L:u78 (l,([], []),u4p d,s1m d,true,0)=_:=L
 rw[List.drop_zero] at hq
 refine⟨q,?_,by unfold s80;rw[hlo,if_pos rfl];exact hq⟩
 rw[q1y];unfold r0a
 simp only[s2w d (by unfold u0p;omega),p7p (d:=d),r9w d _ _ (by omega),zOb,hz,orD,t47 z (by omega),e,L]
omit hd hl hs in
theorem p1g (x:u0k) (hx:o3n.wt x≤10000000):s0x x=some (orD x (p1y x)):=by
 rw[q1z];unfold r0b
 have h1:∀n,t4h n=some (t4t n):=fun n=>by rw[r3q];rfl
 simp only[s7j x 0 (by unfold u0p;omega),h1,zOb,t7s x 0 0 (t4t (IntKind.i64.wrap (u36 x 0+1))) (by omega) (by rw[u3b];omega)]
 rfl
theorem q0w:t6s (d,l)=some (orD d (s78 d l)):=by
 rw[r7g];unfold s35 s78
 simp only[q2r d (by omega),u90 d (by unfold u0p;omega),zOb]
 cases hlo:u3s d with
 | false=>
  have:s80 d l=none:=by unfold s80;rw[hlo];rfl
  rw[this]
  rfl
 | true=>
  obtain⟨q,hq,hq2⟩:=q7i hd hl hs hlo
  simp only[Bool.not_true,cond_false,hq,zOb]
  cases hf:s80 d l with
  | none=>
   rw[hf] at hq2
   simp only at hq2
   simp only[hq2,Bool.not_false,cond_true]
   rfl
  | some x=>
   rw[hf] at hq2
   simp only at hq2
   subst hq2
   obtain⟨_,hm⟩:=p24 hf
   have hx:=t3z hm.ok
   obtain⟨y,hy,hy2⟩:=p7l hm
   have hyw:=t3z hy2
   simp only[orD,Bool.not_true,cond_false,p1g x (by omega),hy,zOb,t47 y (by omega),Option.map_some]
def u9p (d:u0k) (l:List ByteArray) (step:Int) (keep:List Int) (tear:Int):u0k:=
 match s80 d l with
 | none=>d
 | some x=>
  if step=0 then t85 (orD d (s7e d (u4p d) 0)).1 keep tear
  else if step=1 then x
  else if step=2 then t85 (orD x (p1y x)).1 keep tear
  else flush (orD x (p1y x)).1
end
end
section
def s3a (s:ByteArray) (i:Nat):UInt8:=s.data.toList.getD i 0
theorem u7h (a b:ByteArray) (i:Nat):s3a (a++b) i=if i<a.size then s3a a i else s3a b (i - a.size):=by
 unfold s3a
 have hs:a.size=a.data.toList.length:=by simp only[Array.length_toList];rfl
 rw[ByteArray.data_append,Array.toList_append,List.getD_eq_getElem?_getD,hs]
 split
 ·rename_i h
  rw[List.getElem?_append_left h,List.getD_eq_getElem?_getD]
 ·rename_i h
  rw[List.getElem?_append_right (Nat.le_of_not_lt h),List.getD_eq_getElem?_getD]
theorem u37 (a:ByteArray) (b e i:Nat):s3a (a.extract b e) i=if i<min e a.size - b then s3a a (b+i) else 0:=by
 unfold s3a
 have hd:(a.extract b e).data.toList=(a.data.toList.drop b).take (min e a.size - b):=by
  have hs:a.size=a.data.toList.length:=by simp only[Array.length_toList];rfl
  rw[ByteArray.data_extract]
  rw[Array.toList_extract,List.extract_eq_take_drop]
  apply List.ext_getElem?
  intro n
  rw[List.getElem?_take,List.getElem?_take,List.getElem?_drop]
  split<;>split<;>first | rfl | skip
  ·rename_i h1 h2
   rw[List.getElem?_eq_none (by omega)]
  ·rename_i h1 h2
   rw[List.getElem?_eq_none (by omega)]
 rw[hd,List.getD_eq_getElem?_getD,List.getElem?_take]
 split
 ·rw[List.getElem?_drop,List.getD_eq_getElem?_getD]
 ·rfl
theorem r7u {a b:ByteArray} (hs:a.size=b.size) (h:∀i,i<a.size→s3a a i=s3a b i):a=b:=by
 have ha:a.size=a.data.toList.length:=by simp only[Array.length_toList];rfl
 have hb:b.size=b.data.toList.length:=by simp only[Array.length_toList];rfl
 have:a.data.toList=b.data.toList:=by
  apply List.ext_getElem (by omega)
  intro i h1 h2
  have:=h i (by omega)
  unfold s3a at this
  rw[List.getD_eq_getElem?_getD,List.getD_eq_getElem?_getD,List.getElem?_eq_getElem h1,List.getElem?_eq_getElem h2] at this
  exact this
 apply ByteArray.ext
 apply Array.ext'
 exact this
theorem q5x {d x:u0k} {k:Int} {s:ByteArray} (h:u6d d k s=some x):u0h x k=(s,true):=by
 obtain⟨h1,h2⟩:=t45 h
 obtain⟨_,_,_,h4⟩:=q25.mp h1
 subst h2
 have:=(h4 (k,s) (by simp)).1
 have hk:0≤k∧k<(d.1.length:Int):=this
 unfold u0h
 simp only[s7w]
 rw[if_pos hk]
 simp
theorem q3r:∀ {f:Nat} {d x:u0k} {k at_:Nat} {t:ByteArray},q54 f d k at_ t=some x→t.size<f→at_<64→ ∀(j i:Nat),i<64→j<d.1.length→
 s3a (u0h x (j:Int)).1 i=if k*64+at_≤j*64+i∧j*64+i<k*64+at_+t.size then s3a t (j*64+i - (k*64+at_)) else s3a (u0h d (j:Int)).1 i
 | 0,d,x,k,at_,t,h,hf,_,j,i,_,_=>by omega
 | f+1,d,x,k,at_,t,h,hf,hat,j,i,hi,hj=>by
  rw[q54] at h
  split at h
  ·rename_i hz
   cases h
   rw[if_neg (by omega)]
  ·rename_i hz
   split at h
   ·rename_i hrd
    cases hw:u6d d (k:Int) ((u0h d (k:Int)).1.extract 0 at_++t.extract 0 (min t.size (64 - at_))++(u0h d (k:Int)).1.extract (at_+min t.size (64 - at_)) 64) with
    | none=>rw[hw] at h;cases h
    | some y=>
     rw[hw] at h
     simp only[zOb] at h
     obtain⟨n,hn⟩:∃n,n=min t.size (64 - at_):=⟨_,rfl⟩
     rw[←hn] at h hw
     have hyl:y.1.length=d.1.length:=by rw[(t45 hw).2]
     have hsz:(t.extract n t.size).size=t.size - n:=by rw[ByteArray.size_extract];omega
     have ih:=q3r h (by omega) (by omega) j i hi (by omega)
     rw[ih,hsz]
     by_cases hjk:j=k
     ·subst hjk
      rw[if_neg (by omega),q5x hw]
      simp only
      rw[u7h,u7h,u37,u37,u37]
      simp only[ByteArray.size_append,ByteArray.size_extract,hrd.2]
      by_cases h1:i<at_
      ·have e1:i<min at_ 64 - 0:=by omega
       rw[if_pos (by omega),if_pos e1,if_pos e1,if_neg (by omega),Nat.zero_add]
      ·by_cases h2:i<at_+n
       ·rw[if_pos (by omega),if_neg (by omega),if_pos (by omega),if_pos (by omega)]
        congr 1
        omega
       ·rw[if_neg (by omega),if_pos (by omega),if_neg (by omega)]
        congr 1
        omega
     ·have hfr:u0h y (j:Int)=u0h d (j:Int):=r1h hw (by omega)
      rw[hfr]
      by_cases h1:(k+1)*64+0≤j*64+i∧j*64+i<(k+1)*64+0+(t.size - n)
      ·rw[if_pos h1,if_pos (by omega),u37,if_pos (by omega)]
       congr 1
       omega
      ·rw[if_neg h1,if_neg (by omega)]
   ·cases h
end
section
theorem q76 (a:ByteArray):a.size=a.data.toList.length:=by simp only[Array.length_toList];rfl
theorem r3w {a:ByteArray} {i:Nat} (h:i<a.size):a.data.toList[i]? =some (s3a a i):=by
 unfold s3a
 rw[q76] at h
 rw[List.getD_eq_getElem?_getD,List.getElem?_eq_getElem h]
 rfl
theorem q0l:∀ {f i n:Nat} {l l' :List UInt8} {v k:Nat},s82 f i n l=some (v,k)→(∀q,q<k - i→l'[q]? =l[q]?)→s82 f i n l' =some (v,k)
 | 0,_,_,_,_,_,_,h,_=>by cases h
 | _+1,_,_, [],_,_,_,h,_=>by cases h
 | f+1,i,n,b::l,l',v,k,h,hl=>by
  have hk:=(q5u _ _ _ _ _ _ h).2.2
  have h0:=hl 0 (by omega)
  cases l' with
  | nil=>simp at h0
  | cons b' l' =>
   simp only[List.getElem?_cons_zero,Option.some.injEq] at h0
   subst h0
   simp only[s82] at h ⊢
   split at h
   ·rename_i h1
    rw[if_pos h1]
    exact h
   ·rename_i h1
    rw[if_neg h1]
    exact q0l h (fun q hq=>by have:=hl (q+1) (by omega);simpa using this)
theorem q5m {T T' :ByteArray} {at_:Int} (h:(u0v T at_).2.2=true) (hs:T'.size=T.size) (hb:∀q:Nat,(q:Int)<(u0v T at_).2.1→s3a T' q=s3a T q):u0v T' at_=u0v T at_:=by
 have hok:=t3g h
 unfold u0v at h hb hok ⊢
 split at h
 ·rename_i hc
  rw[if_pos hc] at hb hok
  rw[if_pos (by rw[hs];exact hc),if_pos hc]
  cases hv:s82 5 0 0 (T.data.toList.drop at_.toNat) with
  | none=>rw[hv] at h;cases h
  | some r=>
   obtain⟨v,k⟩:=r
   rw[hv] at hb hok
   simp only[q0k] at hb hok
   rw[q0l hv (fun q hq=>by
    have hlt:at_.toNat+q<T.size:=by omega
    rw[List.getElem?_drop,List.getElem?_drop,r3w (by omega),r3w hlt,hb (at_.toNat+q) (by omega)])]
 ·cases h
theorem r05 {T:ByteArray} {at_:Int} (h:(u0s T at_).2.2=true):0≤at_∧at_<(u0s T at_).2.1∧(u0s T at_).2.1≤T.size:=by
 have h2:=s73 h
 unfold u0s at h h2 ⊢
 split at h
 ·rename_i hc
  rw[if_pos hc] at h2
  rw[if_pos hc]
  have:=t3g hc.1
  simp only at h2 ⊢
  omega
 ·cases h
theorem r98 {T T' :ByteArray} {at_:Int} (h:(u0s T at_).2.2=true) (hs:T'.size=T.size) (hb:∀q:Nat,(q:Int)<(u0s T at_).2.1→s3a T' q=s3a T q):u0s T' at_=u0s T at_:=by
 have hn:=r05 h
 unfold u0s at h hb hn ⊢
 split at h
 ·rename_i hc
  rw[if_pos hc] at hb hn
  simp only at hb hn
  have hok:=t3g hc.1
  have e:u0v T' at_=u0v T at_:=q5m hc.1 hs (fun q hq=>hb q (by omega))
  rw[e,if_pos (by rw[hs];exact hc),if_pos hc]
  congr 1
  apply r7u
  ·rw[ByteArray.size_extract,ByteArray.size_extract,hs]
  ·intro i hi
   rw[ByteArray.size_extract] at hi
   rw[u37,u37,hs]
   split
   ·exact hb _ (by omega)
   ·rfl
 ·cases h
theorem q2x {T:ByteArray} :∀ {m:Nat} {at_:Int} {acc l:List ByteArray} {E:Int},u5t T m at_ acc=(l,E,true)→at_≤E
 | 0,at_,acc,l,E,h=>by unfold u5t at h;cases h;exact Int.le_refl _
 | m+1,at_,acc,l,E,h=>by
  unfold u5t at h
  split at h
  ·rename_i hc
   simp only[Bool.and_eq_true] at hc
   have h1:=(r05 hc.1).2.1
   have h2:=q2x h
   omega
  ·cases h
theorem s7d {T T' :ByteArray} (hs:T'.size=T.size):∀ {m:Nat} {at_:Int} {acc l:List ByteArray} {E:Int},u5t T m at_ acc=(l,E,true)→(∀q:Nat,(q:Int)<E→s3a T' q=s3a T q)→u5t T' m at_ acc=(l,E,true)
 | 0,at_,acc,l,E,h,_=>by unfold u5t at h ⊢;exact h
 | m+1,at_,acc,l,E,h,hb=>by
  unfold u5t at h ⊢
  split at h
  ·rename_i hc
   have hc' :=hc
   simp only[Bool.and_eq_true] at hc'
   have h2:=q2x h
   rw[r98 hc'.1 hs (fun q hq=>hb q (by omega)),if_pos hc]
   exact s7d hs h hb
  ·cases h
theorem r8g {T:ByteArray} {s:ByteArray} {nx:Int} :∀ {m:Nat} {at_:Int} {acc l:List ByteArray} {E:Int},u5t T m at_ acc=(l,E,true)→u0s T E=(s,nx,true)→s.size≠0→u5t T (m+1) at_ acc=(l++ [s],nx,true)
 | 0,at_,acc,l,E,h,hr,hne=>by
  unfold u5t at h
  cases h
  unfold u5t
  have:z7o s emp=false:=by
   have:=r6p (t:=s)
   rw[p6e] at this
   rw[this]
   simpa using hne
  rw[hr]
  simp only[this,Bool.not_false,Bool.and_self,if_true]
  rfl
 | m+1,at_,acc,l,E,h,hr,hne=>by
  unfold u5t at h
  split at h
  ·rename_i hc
   unfold u5t
   rw[if_pos hc]
   exact r8g h hr hne
  ·cases h
def u8s (l:List Int):List UInt8:=l.map fun n=>UInt8.ofNat n.toNat
theorem r5p:∀(f i acc n N:Nat) (r:List UInt8),0<f→n<128^f→acc+n*128^i=N→N≤1000000000→(t83 N).length=i+(t83 n).length→s82 f i acc (u8s (t83 n)++r)=some (N,i+(t83 n).length)
 | 0,i,acc,n,N,r,hf,_,_,_,_=>by omega
 | f+1,i,acc,n,N,r,_,hn,hN,hb,hl=>by
  by_cases h:n<128
  ·rw[s8a h] at hl ⊢
   have e:(UInt8.ofNat ((n:Int)).toNat).toNat=n:=by
    rw[zTn,UInt8.toNat_ofNat']
    omega
   simp only[u8s,List.map_cons,List.map_nil,List.cons_append,List.nil_append,s82,e,h,if_true,List.length_singleton] at hl ⊢
   rw[Nat.mod_eq_of_lt h,hN,if_pos ⟨hb,hl⟩]
  ·rw[r5o h] at hl ⊢
   have e:(UInt8.ofNat (((n % 128+128:Nat):Int)).toNat).toNat=n % 128+128:=by
    rw[zTn,UInt8.toNat_ofNat']
    omega
   have hh: ¬n % 128+128<128:=by omega
   simp only[u8s,List.map_cons,List.cons_append,s82,e,hh,if_false,List.length_cons] at hl ⊢
   have e2:(n % 128+128) % 128=n % 128:=by omega
   rw[e2]
   have:=r5p f (i+1) (acc+n % 128*128^i) (n / 128) N r (by rcases f with _ | f<;>simp at hn ⊢;omega) (by rw[Nat.pow_succ] at hn;omega) (by
    rw[←hN,Nat.pow_succ]
    have:n=n % 128+128*(n / 128):=by omega
    conv=>rhs;rw[this]
    rw[Nat.add_mul]
    have:n / 128*(128^i*128)=128*(n / 128)*128^i:=by rw[Nat.mul_comm (128^i) 128,←Nat.mul_assoc,Nat.mul_comm (n / 128) 128]
    omega) hb (by omega)
   show s82 f (i+1) (acc+n % 128*128^i) (u8s (t83 (n / 128))++r)=_
   rw[this]
   congr 2
   omega
end
section
theorem t8s (l:List Int):(y7g l).data.toList=u8s l:=by
 unfold y7g u8s
 simp
theorem r5h {T t:ByteArray} {E:Nat} (h0:t.size≠0) (h1:t.size≤3008) (hE:E+(u0x t).size≤T.size) (hb:∀q,q<(u0x t).size→s3a T (E+q)=s3a (u0x t) q):
 u0s T (E:Int)=(t,((E+(u0x t).size:Nat):Int),true):=by
 have hsz:(u0x t).size=(t83 t.size).length+t.size:=by unfold u0x;rw[ByteArray.size_append,u45]
 have hlist:(u0x t).data.toList=u8s (t83 t.size)++t.data.toList:=by
  unfold u0x
  rw[ByteArray.data_append,Array.toList_append,t8s]
 have hdrop:∃r,T.data.toList.drop E=u8s (t83 t.size)++r:=by
  refine⟨(T.data.toList.drop E).drop (u8s (t83 t.size)).length,?_⟩
  have:(T.data.toList.drop E).take (u8s (t83 t.size)).length=u8s (t83 t.size):=by
   apply List.ext_getElem?
   intro q
   rw[List.getElem?_take]
   split
   ·rename_i hq
    have hq' :q<(t83 t.size).length:=by simpa[u8s] using hq
    rw[List.getElem?_drop,r3w (by omega),hb q (by omega),←r3w (by omega),hlist,List.getElem?_append_left hq]
   ·rename_i hq
    rw[List.getElem?_eq_none (Nat.le_of_not_lt hq)]
  conv=>lhs;rw[←List.take_append_drop (u8s (t83 t.size)).length (T.data.toList.drop E)]
  rw[this]
 obtain⟨r,hr⟩:=hdrop
 have hv:=r5p 5 0 0 t.size t.size r (by omega) (by omega) (by simp) (by omega) (by omega)
 have hread:u0v T (E:Int)=((t.size:Int),(E:Int)+((t83 t.size).length:Int),true):=by
  unfold u0v
  rw[if_pos (by omega),zTn,hr,hv]
  simp[q0k]
 unfold u0s
 rw[hread]
 simp only
 rw[if_pos (by simp only[true_and];omega)]
 have e1:((E:Int)+((t83 t.size).length:Int)).toNat=E+(t83 t.size).length:=by omega
 have e2:((E:Int)+((t83 t.size).length:Int)+(t.size:Int)).toNat=E+(t83 t.size).length+t.size:=by omega
 rw[e1,e2]
 have et:T.extract (E+(t83 t.size).length) (E+(t83 t.size).length+t.size)=t:=by
  apply r7u
  ·rw[ByteArray.size_extract];omega
  ·intro i hi
   rw[ByteArray.size_extract] at hi
   rw[u37,if_pos (by omega)]
   have:=hb ((t83 t.size).length+i) (by omega)
   rw[show E+(t83 t.size).length+i=E+((t83 t.size).length+i) by omega,this]
   unfold u0x
   rw[u7h,if_neg (by rw[u45];omega),u45]
   congr 1
   omega
 rw[et]
 congr 2
 rw[hsz]
 omega
def o0y (d:u0k):Prop:= ∀k:Nat,k<97→(u0h d (k:Int)).2=true∧(u0h d (k:Int)).1.size=64
theorem s29 {d:u0k} (hk:u1r d=true) (hl:d.1.length=97):o0y d:=by
 intro k hlt
 obtain⟨k1,k2,k3,k4⟩:=q25.mp hk
 have hc:(0:Int)≤(k:Int)∧(k:Int)<(d.1.length:Int):=by omega
 unfold u0h
 rw[if_pos hc]
 refine⟨rfl,?_⟩
 cases hp:u9t d.2 (k:Int) with
 | none=>
  have hlt' :k<d.1.length:=by omega
  have e:rdL Ty.str d.1 k=d.1[k] :=y8k (t:=Ty.str) hlt'
  simp only[Option.getD_none,zTn]
  rw[e]
  exact k3 _ (List.getElem_mem hlt')
 | some s=>
  obtain⟨p,hp1,hp2⟩:=r1s hp
  simp only[Option.getD_some]
  rw[←hp2]
  exact(k4 p hp1).2
theorem q0c {d:u0k} {F:Nat} (h:∀q:Nat,q<47→(u0h d ((F+q:Nat):Int)).2=true∧(u0h d ((F+q:Nat):Int)).1.size=64):∀(m i:Nat) (acc:ByteArray),i+m≤47→
 ∃T,r5k d (F:Int) m i acc=(T,true)∧T.size=acc.size+64*m∧ ∀j,j<T.size→s3a T j=if j<acc.size then s3a acc j else s3a (u0h d ((F+i+(j - acc.size) / 64:Nat):Int)).1 ((j - acc.size) % 64)
 | 0,i,acc,_=>⟨acc,rfl,by omega,fun j hj=>by rw[if_pos hj]⟩
 | m+1,i,acc,hm=>by
  have hq:=h i (by omega)
  have e:(F:Int)+(i:Int)=((F+i:Nat):Int):=by omega
  obtain⟨T,t1,t2,t3⟩:=q0c h m (i+1) (acc++(u0h d ((F+i:Nat):Int)).1) (by omega)
  refine⟨T,?_,?_,fun j hj=> ?_⟩
  ·unfold r5k
   rw[e,if_pos hq.1]
   exact t1
  ·rw[t2,ByteArray.size_append,hq.2];omega
  ·rw[t3 j hj,ByteArray.size_append,hq.2,u7h]
   by_cases h1:j<acc.size
   ·rw[if_pos (by omega),if_pos h1,if_pos h1]
   ·rw[if_neg h1,if_neg h1]
    by_cases h2:j<acc.size+64
    ·rw[if_pos h2]
     have z1:(j - acc.size) / 64=0:=by omega
     have z2:(j - acc.size) % 64=j - acc.size:=by omega
     rw[z1,z2,Nat.add_zero]
    ·rw[if_neg h2]
     have z1:F+(i+1)+(j - (acc.size+64)) / 64=F+i+(j - acc.size) / 64:=by omega
     have z2:(j - (acc.size+64)) % 64=(j - acc.size) % 64:=by omega
     rw[z1,z2]
def s1n (a:Int):Nat:=(u0f a+1).toNat
def s27 (d:u0k) (a:Int):ByteArray:=(u9x d (u0f a+1) 47).1
theorem u5d {d:u0k} (hf:o0y d) {a:Int} (ha:a=0∨a=1):u9x d (u0f a+1) 47=(s27 d a,true)∧(s27 d a).size=3008∧ ∀j,j<3008→s3a (s27 d a) j=s3a (u0h d ((s1n a+j / 64:Nat):Int)).1 (j % 64):=by
 have hfa:u0f a=1+a*48:=by unfold u0f;rw[if_pos (p4z.mpr ha)]
 have hF:(u0f a+1:Int)=((s1n a:Nat):Int):=by unfold s1n;rcases ha with rfl | rfl<;>omega
 have hb:s1n a+47≤97:=by unfold s1n;rcases ha with rfl | rfl<;>omega
 obtain⟨T,t1,t2,t3⟩:=q0c (d:=d) (F:=s1n a) (fun q hq=>hf (s1n a+q) (by omega)) 47 0 emp (by omega)
 have he:emp.size=0:=rfl
 have hs:u9x d (u0f a+1) 47=(T,true):=by
  unfold u9x
  rw[if_pos (by omega),hF]
  exact t1
 have hT:s27 d a=T:=by unfold s27;rw[hs]
 rw[hT]
 rw[he] at t2 t3
 refine⟨hs,by omega,fun j hj=> ?_⟩
 rw[t3 j (by omega),if_neg (by omega),Nat.add_zero,Nat.sub_zero]
theorem u7k {d:u0k} (hf:o0y d) {a:Int} (ha:a=0∨a=1):u0d d a=u5t (s27 d a) (u09 d a).toNat 0 [] :=by
 have h:=(u5d hf ha).1
 have hi:p1d a=true:=p4z.mpr ha
 unfold u0d
 rw[h,hi]
 rfl
end
section
theorem q91 {a b:ByteArray} (h:a.data.toList=b.data.toList):a=b:=by
 apply ByteArray.ext
 exact Array.toList_inj.mp h
theorem r8h (a b:ByteArray):(a++b).data.toList=a.data.toList++b.data.toList:=by rw[ByteArray.data_append,Array.toList_append]
theorem t7b (a b c:ByteArray):a++b++c=a++(b++c):=q91 (by simp only[r8h,List.append_assoc])
theorem p23 (a:ByteArray):emp++a=a:=q91 (by rw[r8h];rfl)
theorem p2x (a:ByteArray):a++emp=a:=q91 (by rw[r8h];simp[emp])
theorem r1l (a:ByteArray):a.size=a.data.toList.length:=q76 a
def r4g (n:Int):ByteArray:=y7g (t83 n.toNat)
def p06 (b:Bool):ByteArray:=y7g [if b then 1 else 0]
def q0q {E:Type} (f:E→ByteArray) (l:List E):ByteArray:=l.foldl (fun s x=>s++f x) emp
def p1q (r:s22):ByteArray:=u0x r.1++u0x r.2
def wrT (w:WrT):ByteArray:=u0x w.1++(u0x w.2.1++p06 w.2.2)
def p11 (v:u14):ByteArray:=u0x v.1++(u0x v.2.1++(p06 v.2.2.1++r4g v.2.2.2))
def t4p (t:u0g):ByteArray:=
 r4g t.1++(r4g t.2.1++(r4g t.2.2.1++(r4g t.2.2.2.1++(r4g (t.2.2.2.2.1.length:Int)++(q0q p1q t.2.2.2.2.1++(r4g (t.2.2.2.2.2.1.length:Int)++(q0q wrT t.2.2.2.2.2.1++(p06 t.2.2.2.2.2.2.1++u0x t.2.2.2.2.2.2.2))))))))
def r6r (l:List u0g):ByteArray:=r4g (l.length:Int)++q0q t4p l
def t7y (b:u0i):ByteArray:=r4g b.2.2.2.1++(r4g b.2.2.2.2++(r4g (b.1.length:Int)++(q0q p11 b.1++(r6r b.2.1++r6r b.2.2.1))))
theorem r3h {E:Type} (f:E→ByteArray):∀(l:List E) (s:ByteArray),l.foldl (fun s x=>s++f x) s=s++q0q f l
 | [],s=>(p2x s).symm
 | x::l,s=>by
  rw[List.foldl_cons,r3h f l]
  unfold q0q
  rw[List.foldl_cons,r3h f l (emp++f x),p23,t7b]
  rfl
theorem q6r {E:Type} (f:E→ByteArray) (x:E) (l:List E):q0q f (x::l)=f x++q0q f l:=by
 unfold q0q
 rw[List.foldl_cons,r3h,p23]
 rfl
theorem q93 {E:Type} (f:E→ByteArray):q0q f [] =emp:=rfl
def t08 (T:ByteArray) (a:Nat) (s:ByteArray):Prop:= ∃r,T.data.toList.drop a=s.data.toList++r
theorem p73 {T:ByteArray} {a:Nat} {s u:ByteArray} :t08 T a (s++u)↔t08 T a s∧t08 T (a+s.size) u:=by
 unfold t08
 rw[r8h,r1l s]
 constructor
 ·rintro⟨r,h⟩
  refine⟨⟨u.data.toList++r,by rw[h,List.append_assoc]⟩,r,?_⟩
  rw[←List.drop_drop,h,List.append_assoc,List.drop_left]
 ·rintro⟨⟨r,h⟩,r',h'⟩
  rw[←List.drop_drop,h,List.drop_left] at h'
  exact⟨r',by rw[h,h',List.append_assoc]⟩
theorem r39 {T:ByteArray} {a:Nat} {s:ByteArray} (h:t08 T a s) (hs:s.size≠0):a+s.size≤T.size:=by
 obtain⟨r,h⟩:=h
 have:=congrArg List.length h
 rw[List.length_drop,List.length_append,←r1l,←r1l] at this
 omega
theorem p1t {a s b:ByteArray} :t08 (a++s++b) a.size s:=⟨b.data.toList,by rw[r8h,r8h,r1l,List.append_assoc,List.drop_left]⟩
theorem t8v (n:Int):(r4g n).size=(t83 n.toNat).length:=u45 _
theorem r4f (n:Nat):0<(t83 n).length:=by
 by_cases h:n<128
 ·rw[s8a h];simp
 ·rw[r5o h];simp
theorem r06 {T:ByteArray} {a:Nat} {n:Int} (h0:0≤n) (hn:n≤1000000000) (h:t08 T a (r4g n)):u0v T (a:Int)=(n,((a+(r4g n).size:Nat):Int),true):=by
 have hle:=r39 h (by rw[t8v];have:=r4f n.toNat;omega)
 obtain⟨r,h⟩:=h
 unfold r4g at h
 rw[t8s] at h
 have hv:=r5p 5 0 0 n.toNat n.toNat r (by omega) (by omega) (by simp) (by omega) (by omega)
 unfold u0v
 rw[if_pos (by omega),zTn,h,hv]
 simp only[q0k]
 rw[t8v]
 congr 1
 ·omega
 ·congr 1
  omega
theorem r7n {T:ByteArray} {a:Nat} {s:ByteArray} (hs:s.size≤20000) (h:t08 T a (u0x s)):u0s T (a:Int)=(s,((a+(u0x s).size:Nat):Int),true):=by
 have e:u0x s=r4g (s.size:Int)++s:=rfl
 rw[e] at h
 obtain⟨h1,h2⟩:=p73.mp h
 have hv:=r06 (by omega) (by omega) h1
 have hle1:=r39 h1 (by rw[t8v];have:=r4f (s.size:Int).toNat;omega)
 unfold u0s
 rw[hv]
 have hle:a+(r4g (s.size:Int)).size+s.size≤T.size:=by
  by_cases q:s.size=0
  ·omega
  ·exact r39 h2 q
 rw[if_pos (by simp only[true_and];omega)]
 have hx:T.extract (((a+(r4g (s.size:Int)).size:Nat):Int)).toNat ((((a+(r4g (s.size:Int)).size:Nat):Int)+(s.size:Int))).toNat=s:=by
  rw[zTn,show(((a+(r4g (s.size:Int)).size:Nat):Int)+(s.size:Int)).toNat=a+(r4g (s.size:Int)).size+s.size by omega]
  rw[r6h _ _ _ hle]
  obtain⟨r,hr⟩:=h2
  rw[hr,Nat.add_sub_cancel_left,r1l,List.take_left]
 simp only[hx]
 rw[e,ByteArray.size_append]
 congr 2
 omega
abbrev Cur:=Int×Bool
def u3w (s:ByteArray) (c:Cur):Int×Cur:=if c.2=true∨(u0v s c.1).2.2=false then(0,c.1,true) else((u0v s c.1).1,(u0v s c.1).2.1,false)
def u2l (s:ByteArray) (c:Cur):ByteArray×Cur:=if c.2=true∨(u0s s c.1).2.2=false then(emp,c.1,true) else((u0s s c.1).1,(u0s s c.1).2.1,false)
def t1b (s:ByteArray) (i:Nat):Nat:=(s.data.toList.getD i 0).toNat
def r93 (s:ByteArray) (c:Cur):Bool×Cur:=if c.2=true∨ ¬(0≤c.1∧c.1<(s.size:Int))∨1<t1b s c.1.toNat then(false,c.1,true) else(decide (t1b s c.1.toNat=1),c.1+1,false)
def u33 {E:Type} (f:Cur→E×Cur):Nat→Cur→List E→List E×Cur
 | 0,c,a=>(a,c)
 | n+1,c,a=>if c.2=true then(a,c) else u33 f n (f c).2 (a++ [(f c).1])
def p0f (s:ByteArray) (c:Cur):s22×Cur:=(((u2l s c).1,(u2l s (u2l s c).2).1),(u2l s (u2l s c).2).2)
def rWr (s:ByteArray) (c:Cur):WrT×Cur:=
 (((u2l s c).1,(u2l s (u2l s c).2).1,(r93 s (u2l s (u2l s c).2).2).1),(r93 s (u2l s (u2l s c).2).2).2)
def p0h (s:ByteArray) (c:Cur):u14×Cur:=
 let w:=rWr s c
 ((w.1.1,w.1.2.1,w.1.2.2,(u3w s w.2).1),(u3w s w.2).2)
def q2i (m:Nat) (s:ByteArray) (c:Cur):u0g×Cur:=
 let a:=u3w s c
 let b:=u3w s a.2
 let d:=u3w s b.2
 let e:=u3w s d.2
 let n:=u3w s e.2
 let rs:=u33 (p0f s) (min n.1.toNat m) n.2 []
 let k:=u3w s rs.2
 let ws:=u33 (rWr s) (min k.1.toNat m) k.2 []
 let o:=r93 s ws.2
 let nm:=u2l s o.2
 ((a.1,b.1,d.1,e.1,rs.1,ws.1,o.1,nm.1),nm.2)
theorem u7j {s:ByteArray} {c:Cur} (h:c.2=true):(u3w s c).2.2=true:=by unfold u3w;rw[if_pos (.inl h)]
theorem s17 {s:ByteArray} {c:Cur} (h:c.2=true):(u2l s c).2.2=true:=by unfold u2l;rw[if_pos (.inl h)]
theorem r35 {s:ByteArray} {c:Cur} (h:c.2=true):(r93 s c).2.2=true:=by unfold r93;rw[if_pos (.inl h)]
theorem t1m {E:Type} {f:Cur→E×Cur} {n:Nat} {c:Cur} {a:List E} (h:c.2=true):u33 f n c a=(a,c):=by
 cases n with
 | zero=>rfl
 | succ n=>simp only[u33];rw[if_pos h]
theorem q7v {E:Type} {f:Cur→E×Cur} :∀ {n:Nat} {c:Cur} {a:List E},(u33 f n c a).2.2=false→(u33 f n c a).1.length=a.length+n
 | 0,c,a,_=>rfl
 | n+1,c,a,h=>by
  simp only[u33] at h ⊢
  split at h
  ·rename_i q;rw[q] at h;cases h
  ·rename_i q
   rw[if_neg q,q7v h]
   simp;omega
theorem u44 {s:ByteArray} {a:Nat} {n:Int} (h0:0≤n) (hn:n≤1000000000) (h:t08 s a (r4g n)):u3w s ((a:Int),false)=(n,((a+(r4g n).size:Nat):Int),false):=by
 unfold u3w
 rw[r06 h0 hn h,if_neg (by simp)]
theorem t3f {s:ByteArray} {a:Nat} {x:ByteArray} (hx:x.size≤20000) (h:t08 s a (u0x x)):u2l s ((a:Int),false)=(x,((a+(u0x x).size:Nat):Int),false):=by
 unfold u2l
 rw[r7n hx h,if_neg (by simp)]
theorem u4n (b:Bool):(p06 b).size=1:=u45 _
theorem r1w {s:ByteArray} {a:Nat} {b:Bool} (h:t08 s a (p06 b)):r93 s ((a:Int),false)=(b,((a+1:Nat):Int),false):=by
 have hle:=r39 h (by rw[u4n];omega)
 rw[u4n] at hle
 obtain⟨r,hr⟩:=h
 unfold p06 at hr
 rw[t8s] at hr
 have hb:t1b s a=if b then 1 else 0:=by
  unfold t1b
  have:s.data.toList.getD a 0=(s.data.toList.drop a).getD 0 0:=by
   rw[List.getD_eq_getElem?_getD,List.getD_eq_getElem?_getD,List.getElem?_drop,Nat.add_zero]
  rw[this,hr]
  cases b<;>rfl
 unfold r93
 simp only[zTn,hb]
 rw[if_neg]
 ·cases b<;>simp
 ·rintro(q | q | q)
  ·cases q
  ·omega
  ·cases b<;>simp at q
theorem t6d {E:Type} {f:Cur→E×Cur} {g:E→ByteArray} {s:ByteArray} :∀ {l:List E} {a:Nat} {acc:List E},(∀x∈l,∀a:Nat,t08 s a (g x)→f ((a:Int),false)=(x,((a+(g x).size:Nat):Int),false))→
 t08 s a (q0q g l)→u33 f l.length ((a:Int),false) acc=(acc++l,((a+(q0q g l).size:Nat):Int),false)
 | [],a,acc,_,_=>by rw[q93];simp[u33,emp,ByteArray.size]
 | x::l,a,acc,hf,h=>by
  rw[q6r] at h ⊢
  obtain⟨h1,h2⟩:=p73.mp h
  have e:=hf x (by simp) a h1
  simp only[List.length_cons,u33]
  rw[if_neg (by simp),e]
  rw[t6d (l:=l) (fun y hy=>hf y (by simp[hy])) h2,ByteArray.size_append]
  simp[Nat.add_assoc]
theorem q9g {s:ByteArray} {a:Nat} {r:s22} (h1:r.1.size≤20000) (h2:r.2.size≤20000) (h:t08 s a (p1q r)):p0f s ((a:Int),false)=(r,((a+(p1q r).size:Nat):Int),false):=by
 obtain⟨k1,k2⟩:=p73.mp h
 unfold p0f
 rw[t3f h1 k1]
 simp only
 rw[t3f h2 k2]
 unfold p1q
 rw[ByteArray.size_append,Nat.add_assoc]
theorem q3f {s:ByteArray} {a:Nat} {w:WrT} (h1:w.1.size≤20000) (h2:w.2.1.size≤20000) (h:t08 s a (wrT w)):rWr s ((a:Int),false)=(w,((a+(wrT w).size:Nat):Int),false):=by
 obtain⟨k1,k2⟩:=p73.mp h
 obtain⟨k2,k3⟩:=p73.mp k2
 unfold rWr
 rw[t3f h1 k1]
 simp only
 rw[t3f h2 k2]
 simp only
 rw[r1w k3]
 unfold wrT
 rw[ByteArray.size_append,ByteArray.size_append,u4n,Nat.add_assoc,Nat.add_assoc]
theorem q9i {s:ByteArray} {a:Nat} {v:u14} (h1:v.1.size≤20000) (h2:v.2.1.size≤20000) (h3:0≤v.2.2.2∧v.2.2.2≤1000000000) (h:t08 s a (p11 v)):p0h s ((a:Int),false)=(v,((a+(p11 v).size:Nat):Int),false):=by
 have e:p11 v=wrT (v.1,v.2.1,v.2.2.1)++r4g v.2.2.2:=by unfold p11 wrT;simp only[t7b]
 rw[e] at h ⊢
 obtain⟨k1,k2⟩:=p73.mp h
 unfold p0h
 rw[q3f (w:=(v.1,v.2.1,v.2.2.1)) h1 h2 k1]
 simp only
 rw[u44 h3.1 h3.2 k2,ByteArray.size_append,Nat.add_assoc]
theorem TxnR.small {t:u0g} (h:TxnR t):(∀r∈t.2.2.2.2.1,r.1.size≤3∧r.2.size≤3)∧(∀w∈t.2.2.2.2.2.1,w.1.size≤3∧w.2.1.size≤12)∧t.2.2.2.2.2.2.2.size≤3∧t.2.2.2.2.2.1.length≤8∧0≤t.2.2.2.1∧t.2.2.2.1≤9999:=by
 obtain⟨w1,w2,w3⟩:=p6l.mp h.ws
 refine⟨fun r hr=> ?_,fun w hw=> ?_,?_,w3,?_⟩
 ·have:=h.rs r hr
  unfold u18 at this
  rw[Bool.and_eq_true,Bool.and_eq_true] at this
  exact⟨(u2o this.1).2,(u2o this.2.1).2⟩
 ·have:=w1 w hw
  unfold u19 at this
  rw[Bool.and_eq_true,Bool.and_eq_true,decide_eq_true_eq] at this
  exact⟨(u2o this.1).2,this.2.1⟩
 ·by_cases e:t.2.1=2
  ·exact(u2o (h.name e)).2
  ·rw[h.noname e];omega
 ·by_cases e:t.2.1=3
  ·have:=h.done e;have:=h.snap;omega
  ·rw[h.nocs e];omega
theorem q9h {s:ByteArray} {a:Nat} {t:u0g} {m:Nat} (hm:8≤m) (ht:TxnR t) (h:t08 s a (t4p t)):q2i m s ((a:Int),false)=(t,((a+(t4p t).size:Nat):Int),false):=by
 obtain⟨z1,z2,z3,z4,z5⟩:=ht.small
 have hi:=ht.id;have hst:=ht.st;have hsn:=ht.snap;have hrl:=ht.rlen
 unfold t4p at h ⊢
 obtain⟨k1,h⟩:=p73.mp h
 obtain⟨k2,h⟩:=p73.mp h
 obtain⟨k3,h⟩:=p73.mp h
 obtain⟨k4,h⟩:=p73.mp h
 obtain⟨k5,h⟩:=p73.mp h
 obtain⟨k6,h⟩:=p73.mp h
 obtain⟨k7,h⟩:=p73.mp h
 obtain⟨k8,h⟩:=p73.mp h
 obtain⟨k9,k10⟩:=p73.mp h
 unfold q2i
 rw[u44 (by omega) (by omega) k1]
 simp only
 rw[u44 (by omega) (by omega) k2]
 simp only
 rw[u44 (by omega) (by omega) k3]
 simp only
 rw[u44 (by omega) (by omega) k4]
 simp only
 rw[u44 (by omega) (by omega) k5]
 simp only
 rw[show min ((t.2.2.2.2.1.length:Int)).toNat m=t.2.2.2.2.1.length by omega,t6d (g:=p1q) (fun r hr a hs=>q9g (by have:=(z1 r hr).1;omega) (by have:=(z1 r hr).2;omega) hs) k6]
 simp only
 rw[u44 (by omega) (by omega) k7]
 simp only
 rw[show min ((t.2.2.2.2.2.1.length:Int)).toNat m=t.2.2.2.2.2.1.length by omega,t6d (g:=wrT) (fun w hw a hs=>q3f (by have:=(z2 w hw).1;omega) (by have:=(z2 w hw).2;omega) hs) k8]
 simp only
 rw[r1w k9]
 simp only
 rw[u4n] at k10
 rw[t3f (by omega) k10]
 simp only[List.nil_append,ByteArray.size_append,u4n]
 simp only[Nat.add_assoc]
end
end
end Go.Proofs.YtbkicjpdlchbgaaGreat.Ab
