import Derived.Test.YtbkicjpdlchbgaaGreatAbT1
import Derived.Test.YtbkicjpdlchbgaaGreatAbK2
import Derived.Test.YtbkicjpdlchbgaaGreatAbF4
import Derived.Test.YtbkicjpdlchbgaaGreatAbS2
namespace Go.Proofs.YtbkicjpdlchbgaaGreat.Ab
open Go
set_option linter.unusedVariables false
set_option linter.unusedSimpArgs false
set_option linter.unnecessarySimpa false
section
section
theorem p10 (l:List u0f) (n:Int):((List.range l.length).all fun i=>decide ((rdL u0z l i).1<n) && !((l.take i).any fun y=>decide (y.1=(rdL u0z l i).1)))=s9w (u3a l) n:=by
  rw [Bool.eq_iff_iff,List.all_eq_true,s5r]
  unfold u3a
  constructor
  · intro h
    constructor
    · intro x hx
      obtain ⟨t,ht,rfl⟩:=List.mem_map.mp hx
      obtain ⟨i,hi,rfl⟩:=List.getElem_of_mem ht
      have:=h i (List.mem_range.mpr hi)
      rw [Bool.and_eq_true,decide_eq_true_eq,y8k hi] at this
      exact this.1
    · rw [List.nodup_iff_pairwise_ne,List.pairwise_map,List.pairwise_iff_getElem]
      intro i j hi hj hij e
      have:=h j (List.mem_range.mpr hj)
      rw [Bool.and_eq_true,Bool.not_eq_true',y8k hj] at this
      have hm:l[i] ∈l.take j:=by
        rw [List.mem_iff_getElem]
        exact ⟨i,by simp; omega,by simp⟩
      have:=List.any_eq_false.mp this.2 _ hm
      simp only [decide_eq_true_eq] at this
      exact this e
  · rintro ⟨h1,h2⟩ i hi
    have hi:=List.mem_range.mp hi
    rw [Bool.and_eq_true,decide_eq_true_eq,y8k hi,Bool.not_eq_true']
    refine ⟨h1 _ (List.mem_map.mpr ⟨_,List.getElem_mem hi,rfl⟩),?_⟩
    rw [List.any_eq_false]
    intro y hy
    rw [List.mem_iff_getElem] at hy
    obtain ⟨j,hj,rfl⟩:=hy
    simp only [List.length_take] at hj
    rw [List.nodup_iff_pairwise_ne,List.pairwise_map,List.pairwise_iff_getElem] at h2
    simp only [List.getElem_take,decide_eq_true_eq]
    exact h2 j i (by omega) hi (by omega)
theorem s8z (l:List u0f) (n:Int) (hl:l.length≤1099511627776):u7q (l,n)=some (s9w (u3a l) n):=by
  have hsome:∀(m:List u0f) (t:u0f),m.length≤1099511627776→u34 (m,t)=some (m.any fun y=>decide (y.1=t.1)):=by
    intro m t hm
    have L:=Q.first (T:=u0z) (c:=u0f) (W:=u0t) (q:=t3g) (p:=fun y:u0f=>decide (y.1=t.1)) (fun x=>u5d x) m t (by omega) (fun x _=>by rw [r1k]; rfl)
    simp only [t6e,u8b,u48,u14,u57,u2k,L,zOb]
    rw [←r7l]
    by_cases h:u0m (fun y:u0f=>decide (y.1=t.1)) m<m.length
    · simp [h]
    · simp [h]
  have L:=t0p u77 l.length (fun i=>(l,n,l,(l.length:Int),i)) (fun i=>decide ((rdL u0z l i).1<n) && !((l.take i).any fun y=>decide (y.1=(rdL u0z l i).1))) (.inl ()) (.inr false)
    (by rw [t8p]; simp only [u7z,u0b,Nat.lt_irrefl,decide_false,cond_false])
    (fun i hi=>by
      have e1:(decide ((0:Int)≤0) && decide ((0:Int)≤(i:Int)) && decide ((i:Int)≤(l.length:Int)))=true:=by simp; omega
      have e2:(l.take i).drop ((0:Int)).toNat=l.take i:=by simp
      have e3:=hsome (l.take i) (rdL u0z l i) (by simp; omega)
      rw [t8p]; simp only [u7z,u0b,hi,decide_true,cond_true,y7t hi,zTn,y7l (show i<4611686018427387904 by omega),r4i (rdL u0z l i).1 n,e1]
      rw [e2,e3]
      cases decide ((rdL u0z l i).1<n)
      · rfl
      · simp only [Bool.not_true,cond_false,zOb,Bool.true_and]
        cases (l.take i).any fun y=>decide (y.1=(rdL u0z l i).1)<;>rfl)
  rw [p10] at L
  rw [r44]; unfold s2a
  simp only [L,zOb]
  cases s9w (u3a l) n<;>rfl
theorem s9s (b:u0i):p6z.wt b=(Ty.sl u0d).wt b.1+((Ty.sl u0z).wt b.2.1+((Ty.sl u0z).wt b.2.2.1+(0+0))):=rfl
theorem s96 {l:List u0f} {t:u0f} (h:t∈l):u0z.wt t≤(Ty.sl u0z).wt l:=by
  have h1:(Ty.sl u0z).wt l=l.length+(l.map u0z.wt).sum:=rfl
  have h2:=q1q (f:=u0z.wt) h
  omega
theorem gt3 (n:Nat):decide ((n:Int) >3)= !decide (n≤3):=by by_cases h:n≤3<;>simp [h] <;>omega
theorem gt4 (n:Nat):decide ((n:Int) >4)= !decide (n≤4):=by by_cases h:n≤4<;>simp [h] <;>omega
theorem q5o (t:u0f):t85 t=some (decide (t.2.1=2)):=by rw [r86]; rfl
theorem q6y (b:u0i) (hw:p6z.wt b≤u0l):s1t b=some (t0t b):=by
  have hb:u0l=1099511627776:=rfl
  have hbw:=s9s b
  have n1:=t3x (t:=u0d) b.1
  have n2:=t3x (t:=u0z) b.2.1
  have n3:=t3x (t:=u0z) b.2.2.1
  have L1:=t0p u8m b.1.length (fun i=>(b,b.1,(b.1.length:Int),i)) (fun i=>(fun v:u1v=>decide (v.2.2.2≤b.2.2.2.1)) (rdL u0d b.1 i)) (.inl b) (.inr false)
    (by rw [s6o]; simp only [t2p,u0b,Nat.lt_irrefl,decide_false,cond_false])
    (fun i hi=>by
      rw [s6o]; simp only [t2p,u0b,hi,decide_true,cond_true,y7t hi,zTn,y7l (show i<4611686018427387904 by omega),r4j (rdL u0d b.1 i).2.2.2 b.2.2.2.1]
      cases decide ((rdL u0d b.1 i).2.2.2≤b.2.2.2.1)<;>rfl)
  rw [t6u (t:=u0d) b.1 (fun v:u1v=>decide (v.2.2.2≤b.2.2.2.1))] at L1
  have L2:=t0p u61 b.2.1.length (fun i=>(b,b.2.1,(b.2.1.length:Int),i)) (fun i=>(fun t:u0f=>u5b t && (decide (t.2.1=3) && decide (t.2.2.2.1≤b.2.2.2.1))) (rdL u0z b.2.1 i) && (decide (i=0) || (fun x y:u0f=>decide (x.2.2.2.1<y.2.2.2.1)) (rdL u0z b.2.1 (i - 1)) (rdL u0z b.2.1 i))) (.inl b) (.inr false)
    (by rw [s3n]; simp only [t07,u0b,Nat.lt_irrefl,decide_false,cond_false])
    (fun i hi=>by
      have hm:rdL u0z b.2.1 i∈b.2.1:=by rw [y8k hi]; exact List.getElem_mem hi
      have ht:=s96 hm
      have hk:=t6n (rdL u0z b.2.1 i) (by omega)
      rw [s3n]; simp only [t07,u0b,hi,decide_true,cond_true,y7t hi,zTn,y7l (show i<4611686018427387904 by omega),r4j (rdL u0z b.2.1 i).2.2.2.1 b.2.2.2.1,t4v,q7k,zOb]
      rw [hk]
      simp only [zOb]
      generalize u5b (rdL u0z b.2.1 i)=b1
      generalize decide ((rdL u0z b.2.1 i).2.1=3)=b2
      generalize decide ((rdL u0z b.2.1 i).2.2.2.1≤b.2.2.2.1)=b3
      by_cases h0:i=0
      · subst h0; simp only [decide_true,Bool.not_true,cond_false,Bool.true_or,Bool.and_true]
        cases b1<;>cases b2<;>cases b3<;>rfl
      · simp only [h0,decide_false,Bool.not_false,cond_true,Bool.false_or,t06 (show i<4611686018427387904 by omega) h0,y7t (show i - 1<b.2.1.length by omega),zTn,r4i (rdL u0z b.2.1 (i - 1)).2.2.2.1 (rdL u0z b.2.1 i).2.2.2.1]
        generalize decide ((rdL u0z b.2.1 (i - 1)).2.2.2.1<(rdL u0z b.2.1 i).2.2.2.1)=b4
        cases b1<;>cases b2<;>cases b3<;>cases b4<;>rfl)
  rw [t8z (t:=u0z) b.2.1 (fun t:u0f=>u5b t && (decide (t.2.1=3) && decide (t.2.2.2.1≤b.2.2.2.1))) (fun x y:u0f=>decide (x.2.2.2.1<y.2.2.2.1))] at L2
  have L3:=t0p u62 b.2.2.1.length (fun i=>(b,b.2.2.1,(b.2.2.1.length:Int),i)) (fun i=>(fun t:u0f=>u5b t && (decide (t.2.1=2) && decide (t.2.2.1≤b.2.2.2.1))) (rdL u0z b.2.2.1 i) && (decide (i=0) || (fun x y:u0f=>y3c x.2.2.2.2.2.2.2 y.2.2.2.2.2.2.2) (rdL u0z b.2.2.1 (i - 1)) (rdL u0z b.2.2.1 i))) (.inl b) (.inr false)
    (by rw [s3o]; simp only [t08,u0b,Nat.lt_irrefl,decide_false,cond_false])
    (fun i hi=>by
      have hm:rdL u0z b.2.2.1 i∈b.2.2.1:=by rw [y8k hi]; exact List.getElem_mem hi
      have ht:=s96 hm
      have hk:=t6n (rdL u0z b.2.2.1 i) (by omega)
      rw [s3o]; simp only [t08,u0b,hi,decide_true,cond_true,y7t hi,zTn,y7l (show i<4611686018427387904 by omega),r4j (rdL u0z b.2.2.1 i).2.2.1 b.2.2.2.1,t4v,q5o,zOb]
      rw [hk]
      simp only [zOb]
      generalize u5b (rdL u0z b.2.2.1 i)=b1
      generalize decide ((rdL u0z b.2.2.1 i).2.1=2)=b2
      generalize decide ((rdL u0z b.2.2.1 i).2.2.1≤b.2.2.2.1)=b3
      by_cases h0:i=0
      · subst h0; simp only [decide_true,Bool.not_true,cond_false,Bool.true_or,Bool.and_true]
        cases b1<;>cases b2<;>cases b3<;>rfl
      · simp only [h0,decide_false,Bool.not_false,cond_true,Bool.false_or,t06 (show i<4611686018427387904 by omega) h0,y7t (show i - 1<b.2.2.1.length by omega),zTn]
        generalize y3c (rdL u0z b.2.2.1 (i - 1)).2.2.2.2.2.2.2 (rdL u0z b.2.2.1 i).2.2.2.2.2.2.2=b4
        cases b1<;>cases b2<;>cases b3<;>cases b4<;>rfl)
  rw [t8z (t:=u0z) b.2.2.1 (fun t:u0f=>u5b t && (decide (t.2.1=2) && decide (t.2.2.1≤b.2.2.2.1))) (fun x y:u0f=>y3c x.2.2.2.2.2.2.2 y.2.2.2.2.2.2.2)] at L3
  have hC:=q0o [b.2.1,b.2.2.1] (by simp only [List.flatten_cons,List.flatten_nil,List.append_nil,List.length_append]; omega) (by simp)
  have hf: [b.2.1,b.2.2.1].flatten=b.2.1++b.2.2.1:=by simp
  rw [hf] at hC
  have hI:=s8z (b.2.1++b.2.2.1) b.2.2.2.2 (by rw [List.length_append]; omega)
  have hV:=r57 b.1 (by omega)
  rw [q2l]; unfold r0d
  rw [hV]
  simp only [s68,p8k,gt3,zOb]
  unfold t0t q8r q3t
  generalize u4x b.1=c1
  generalize inB b.2.2.2.1 0 9999=c3
  generalize inB b.2.2.2.2 1 9999=c4
  generalize decide (b.2.1.length≤12)=c5
  generalize decide (b.2.2.1.length≤3)=c6
  generalize ha1:b.1.all (fun v:u1v=>decide (v.2.2.2≤b.2.2.2.1))=a1 at L1
  generalize ha2:b.2.1.all (fun t:u0f=>u5b t && (decide (t.2.1=3) && decide (t.2.2.2.1≤b.2.2.2.1)))=a2 at L2
  generalize ha3:r8z u0z (fun x y:u0f=>decide (x.2.2.2.1<y.2.2.2.1)) b.2.1=a3 at L2
  generalize ha4:b.2.2.1.all (fun t:u0f=>u5b t && (decide (t.2.1=2) && decide (t.2.2.1≤b.2.2.2.1)))=a4 at L3
  generalize ha5:r8z u0z (fun x y:u0f=>y3c x.2.2.2.2.2.2.2 y.2.2.2.2.2.2.2) b.2.2.1=a5 at L3
  generalize s9w (u3a (b.2.1++b.2.2.1)) b.2.2.2.2=a6 at hI
  have hR:((u8m (b,b.1,(b.1.length:Int),0)).bind fun r5=>match r5 with
      | .inl o6=>(u61 (o6,o6.2.1,(o6.2.1.length:Int),0)).bind fun r10=>match r10 with
        | .inl o11=>(u62 (o11,o11.2.2.1,(o11.2.2.1.length:Int),0)).bind fun r15=>match r15 with
          | .inl o16=>(u2f [o16.2.1,o16.2.2.1]).bind fun y17=>(u7q (y17,o16.2.2.2.2)).bind fun y18=>some y18
          | .inr z19=>some z19
        | .inr z20=>some z20
      | .inr z21=>some z21)=some (a1 && ((a2 && a3) && ((a4 && a5) && a6))):=by
    rw [L1]
    cases a1
    · rfl
    · simp only [cond_true,zOb,Bool.true_and]
      rw [L2]
      cases (a2 && a3)
      · rfl
      · simp only [cond_true,zOb,Bool.true_and]
        rw [L3]
        cases (a4 && a5)
        · rfl
        · simp only [cond_true,zOb,Bool.true_and]
          rw [hC]
          simp only [zOb]
          rw [hI]; rfl
  cases c1<;>cases c3<;>cases c4<;>cases c5<;>cases c6<;>simp only [Bool.not_true,Bool.not_false,cond_true,cond_false,zOb,Bool.false_and,Bool.and_false,Bool.true_and,Bool.and_true]
  exact hR
theorem q90 (l:List Int) (n:Int):((List.range l.length).all fun i=>((List.range i).all fun j=> !decide (rdL (Ty.int .i64) l j=rdL (Ty.int .i64) l i)) && decide (rdL (Ty.int .i64) l i<n))=s9w l n:=by
  rw [Bool.eq_iff_iff,List.all_eq_true,s5r]
  constructor
  · intro h
    constructor
    · intro x hx
      obtain ⟨i,hi,rfl⟩:=List.getElem_of_mem hx
      have:=h i (List.mem_range.mpr hi)
      rw [Bool.and_eq_true,decide_eq_true_eq,y8k (t:=Ty.int .i64) hi] at this
      exact this.2
    · rw [List.nodup_iff_pairwise_ne,List.pairwise_iff_getElem]
      intro i j hi hj hij e
      have:=h j (List.mem_range.mpr hj)
      rw [Bool.and_eq_true,List.all_eq_true] at this
      have:=this.1 i (List.mem_range.mpr hij)
      rw [y8k (t:=Ty.int .i64) hi,y8k (t:=Ty.int .i64) hj,Bool.not_eq_true',decide_eq_false_iff_not] at this
      exact this e
  · rintro ⟨h1,h2⟩ i hi
    have hi:=List.mem_range.mp hi
    rw [Bool.and_eq_true,decide_eq_true_eq,y8k (t:=Ty.int .i64) hi,List.all_eq_true]
    refine ⟨fun j hj=> ?_,h1 _ (List.getElem_mem hi)⟩
    have hj:=List.mem_range.mp hj
    rw [List.nodup_iff_pairwise_ne,List.pairwise_iff_getElem] at h2
    rw [y8k (t:=Ty.int .i64) (show j<l.length by omega),Bool.not_eq_true',decide_eq_false_iff_not]
    exact h2 j i (by omega) hi hj
theorem q4a (b:u0i) (l:List Int) (hl:l.length≤1099511627776):u4p (b,l,0)=some (bif s9w l b.2.2.2.2 then .inl () else .inr false):=by
  have inner:∀i:Nat,i<l.length→u66 (b,l,(i:Int),0)=some (bif (List.range i).all (fun j=> !decide (rdL (Ty.int .i64) l j=rdL (Ty.int .i64) l i)) then .inl (b,l,(i:Int)) else .inr false):=by
    intro i hi
    exact t0p u66 i (fun j=>(b,l,(i:Int),j)) (fun j=> !decide (rdL (Ty.int .i64) l j=rdL (Ty.int .i64) l i)) (.inl (b,l,(i:Int))) (.inr false)
      (by rw [s3u]; simp only [t1e,u0b,Nat.lt_irrefl,decide_false,cond_false])
      (fun j hj=>by
        rw [s3u]; simp only [t1e,u0b,hj,decide_true,cond_true,y7t hi,y7t (show j<l.length by omega),zTn,y7l (show j<4611686018427387904 by omega)]
        by_cases e:rdL (Ty.int .i64) l j=rdL (Ty.int .i64) l i
        · rw [decide_eq_true e]; rfl
        · rw [decide_eq_false e]; rfl)
  have L:=t0p u4p l.length (fun i=>(b,l,i)) (fun i=>((List.range i).all fun j=> !decide (rdL (Ty.int .i64) l j=rdL (Ty.int .i64) l i)) && decide (rdL (Ty.int .i64) l i<b.2.2.2.2)) (.inl ()) (.inr false)
    (by rw [s3t]; simp only [t1d,u0b,Nat.lt_irrefl,decide_false,cond_false])
    (fun i hi=>by
      rw [s3t]; simp only [t1d,u0b,hi,decide_true,cond_true]
      rw [inner i hi]
      cases (List.range i).all fun j=> !decide (rdL (Ty.int .i64) l j=rdL (Ty.int .i64) l i)
      · rfl
      · simp only [cond_true,zOb,y7t hi,zTn,y7l (show i<4611686018427387904 by omega),Bool.true_and]
        rw [r4i]
        cases decide (rdL (Ty.int .i64) l i<b.2.2.2.2)<;>rfl)
  rw [q90] at L
  exact L
theorem q8n (l:List u0f) {i:Nat} (h:i<l.length):u3a (l.take i)++ [(rdL u0z l i).1] =u3a (l.take (i+1)):=by
  rw [y8k h]; unfold u3a
  rw [List.take_add_one,List.getElem?_eq_getElem h,List.map_append]; rfl
theorem t3z (b:u0i) (hw:p6z.wt b≤549755813888):u45 b=some (t0t b):=by
  have hb:u0l=1099511627776:=rfl
  have hbw:=s9s b
  have n1:=t3x (t:=u0d) b.1
  have n2:=t3x (t:=u0z) b.2.1
  have n3:=t3x (t:=u0z) b.2.2.1
  have L1:=t0p u8o b.1.length (fun i=>(b,i)) (fun i=>(fun v:u1v=>decide (v.2.2.2≤b.2.2.2.1)) (rdL u0d b.1 i)) (.inl b) (.inr false)
    (by rw [s6r]; simp only [t2s,u0b,Nat.lt_irrefl,decide_false,cond_false])
    (fun i hi=>by
      rw [s6r]; simp only [t2s,u0b,hi,decide_true,cond_true,y7t hi,zTn,y7l (show i<4611686018427387904 by omega),r4j (rdL u0d b.1 i).2.2.2 b.2.2.2.1]
      cases decide ((rdL u0d b.1 i).2.2.2≤b.2.2.2.1)<;>rfl)
  rw [t6u (t:=u0d) b.1 (fun v:u1v=>decide (v.2.2.2≤b.2.2.2.1))] at L1
  have il:∀(l:List u0f) (i:Nat),i≤l.length→(u3a (l.take i)).length=i:=fun l i h=>by unfold u3a; simp; omega
  have L2:=t0p u4o b.2.1.length (fun i=>(b,u3a (b.2.1.take i.toNat),i)) (fun i=>(fun t:u0f=>u5b t && (decide (t.2.1=3) && decide (t.2.2.2.1≤b.2.2.2.1))) (rdL u0z b.2.1 i) && (decide (i=0) || (fun x y:u0f=>decide (x.2.2.2.1<y.2.2.2.1)) (rdL u0z b.2.1 (i - 1)) (rdL u0z b.2.1 i))) (.inl (b,u3a b.2.1)) (.inr false)
    (by rw [s3r]; simp only [t1b,u0b,Nat.lt_irrefl,decide_false,cond_false,zTn,List.take_length])
    (fun i hi=>by
      have hm:rdL u0z b.2.1 i∈b.2.1:=by rw [y8k hi]; exact List.getElem_mem hi
      have ht:=s96 hm
      have hk:=t2e (rdL u0z b.2.1 i) (by omega)
      rw [s3r]; simp only [t1b,u0b,hi,decide_true,cond_true,y7t hi,zTn,y7l (show i<4611686018427387904 by omega),r4j (rdL u0z b.2.1 i).2.2.2.1 b.2.2.2.1,t4v,zOb]
      rw [hk]
      have hc:Nat.ble ((u3a (b.2.1.take i)).length+ [(rdL u0z b.2.1 i).1].length) z7w=true:=u0r (by rw [il _ _ (by omega)]; simp; omega)
      simp only [zOb]
      rw [hc,q8n _ hi]
      generalize u5b (rdL u0z b.2.1 i)=b1
      generalize decide ((rdL u0z b.2.1 i).2.1=3)=b2
      generalize decide ((rdL u0z b.2.1 i).2.2.2.1≤b.2.2.2.1)=b3
      by_cases h0:i=0
      · subst h0; simp only [decide_true,Bool.not_true,cond_false,Bool.true_or,Bool.and_true]
        cases b1<;>cases b2<;>cases b3<;>rfl
      · simp only [h0,decide_false,Bool.not_false,cond_true,Bool.false_or,t06 (show i<4611686018427387904 by omega) h0,y7t (show i - 1<b.2.1.length by omega),zTn,r4i (rdL u0z b.2.1 (i - 1)).2.2.2.1 (rdL u0z b.2.1 i).2.2.2.1]
        generalize decide ((rdL u0z b.2.1 (i - 1)).2.2.2.1<(rdL u0z b.2.1 i).2.2.2.1)=b4
        cases b1<;>cases b2<;>cases b3<;>cases b4<;>rfl)
  rw [t8z (t:=u0z) b.2.1 (fun t:u0f=>u5b t && (decide (t.2.1=3) && decide (t.2.2.2.1≤b.2.2.2.1))) (fun x y:u0f=>decide (x.2.2.2.1<y.2.2.2.1))] at L2
  have L3:=t0p u65 b.2.2.1.length (fun i=>(b,u3a b.2.1++u3a (b.2.2.1.take i.toNat),i)) (fun i=>(fun t:u0f=>u5b t && (decide (t.2.1=2) && decide (t.2.2.1≤b.2.2.2.1))) (rdL u0z b.2.2.1 i) && (decide (i=0) || (fun x y:u0f=>y3c x.2.2.2.2.2.2.2 y.2.2.2.2.2.2.2) (rdL u0z b.2.2.1 (i - 1)) (rdL u0z b.2.2.1 i))) (.inl (b,u3a (b.2.1++b.2.2.1))) (.inr false)
    (by rw [s3s]; simp only [t1c,u0b,Nat.lt_irrefl,decide_false,cond_false,zTn,List.take_length]; unfold u3a; rw [List.map_append])
    (fun i hi=>by
      have hm:rdL u0z b.2.2.1 i∈b.2.2.1:=by rw [y8k hi]; exact List.getElem_mem hi
      have ht:=s96 hm
      have hk:=t2e (rdL u0z b.2.2.1 i) (by omega)
      rw [s3s]; simp only [t1c,u0b,hi,decide_true,cond_true,y7t hi,zTn,y7l (show i<4611686018427387904 by omega),r4j (rdL u0z b.2.2.1 i).2.2.1 b.2.2.2.1,t4v,zOb]
      rw [hk]
      have hz:(u3a b.2.1).length=b.2.1.length:=by unfold u3a; simp
      have hc:Nat.ble ((u3a b.2.1++u3a (b.2.2.1.take i)).length+ [(rdL u0z b.2.2.1 i).1].length) z7w=true:=u0r (by rw [List.length_append,il _ _ (by omega),hz]; simp; omega)
      simp only [zOb]
      rw [hc,List.append_assoc,q8n _ hi]
      generalize u5b (rdL u0z b.2.2.1 i)=b1
      generalize decide ((rdL u0z b.2.2.1 i).2.1=2)=b2
      generalize decide ((rdL u0z b.2.2.1 i).2.2.1≤b.2.2.2.1)=b3
      by_cases h0:i=0
      · subst h0; simp only [decide_true,Bool.not_true,cond_false,Bool.true_or,Bool.and_true]
        cases b1<;>cases b2<;>cases b3<;>rfl
      · simp only [h0,decide_false,Bool.not_false,cond_true,Bool.false_or,t06 (show i<4611686018427387904 by omega) h0,y7t (show i - 1<b.2.2.1.length by omega),zTn]
        generalize y3c (rdL u0z b.2.2.1 (i - 1)).2.2.2.2.2.2.2 (rdL u0z b.2.2.1 i).2.2.2.2.2.2.2=b4
        cases b1<;>cases b2<;>cases b3<;>cases b4<;>rfl)
  rw [t8z (t:=u0z) b.2.2.1 (fun t:u0f=>u5b t && (decide (t.2.1=2) && decide (t.2.2.1≤b.2.2.2.1))) (fun x y:u0f=>y3c x.2.2.2.2.2.2.2 y.2.2.2.2.2.2.2)] at L3
  have L2' :u4o (b, [],0)=_:=L2
  have e:u3a b.2.1++u3a (b.2.2.1.take (0:Int).toNat)=u3a b.2.1:=by simp [u3a]
  rw [e] at L3
  have hI:=q4a b (u3a (b.2.1++b.2.2.1)) (by unfold u3a; rw [List.length_map,List.length_append]; omega)
  have hV:=r58 b.1 (by omega)
  rw [q2w]; unfold r0o
  rw [hV]
  simp only [t92,p8k,gt3,zOb]
  unfold t0t q8r q3t
  generalize u4x b.1=c1
  generalize inB b.2.2.2.1 0 9999=c3
  generalize inB b.2.2.2.2 1 9999=c4
  generalize decide (b.2.1.length≤12)=c5
  generalize decide (b.2.2.1.length≤3)=c6
  generalize ha1:b.1.all (fun v:u1v=>decide (v.2.2.2≤b.2.2.2.1))=a1 at L1
  generalize ha2:b.2.1.all (fun t:u0f=>u5b t && (decide (t.2.1=3) && decide (t.2.2.2.1≤b.2.2.2.1)))=a2 at L2'
  generalize ha3:r8z u0z (fun x y:u0f=>decide (x.2.2.2.1<y.2.2.2.1)) b.2.1=a3 at L2'
  generalize ha4:b.2.2.1.all (fun t:u0f=>u5b t && (decide (t.2.1=2) && decide (t.2.2.1≤b.2.2.2.1)))=a4 at L3
  generalize ha5:r8z u0z (fun x y:u0f=>y3c x.2.2.2.2.2.2.2 y.2.2.2.2.2.2.2) b.2.2.1=a5 at L3
  generalize s9w (u3a (b.2.1++b.2.2.1)) b.2.2.2.2=a6 at hI
  have hR:((u8o (b,0)).bind fun r5=>match r5 with
      | .inl o6=>(u4o (o6, [],0)).bind fun r9=>match r9 with
        | .inl o10=>(u65 (o10.1,o10.2,0)).bind fun r13=>match r13 with
          | .inl o14=>(u4p (o14.1,o14.2,0)).bind fun r18=>match r18 with
            | .inl o19=>some true
            | .inr z20=>some z20
          | .inr z21=>some z21
        | .inr z22=>some z22
      | .inr z23=>some z23)=some (a1 && ((a2 && a3) && ((a4 && a5) && a6))):=by
    rw [L1]
    cases a1
    · rfl
    · simp only [cond_true,zOb,Bool.true_and]
      rw [L2']
      cases (a2 && a3)
      · rfl
      · simp only [cond_true,zOb,Bool.true_and]
        rw [L3]
        cases (a4 && a5)
        · rfl
        · simp only [cond_true,zOb,Bool.true_and]
          rw [hI]
          cases a6<;>rfl
  cases c1<;>cases c3<;>cases c4<;>cases c5<;>cases c6<;>simp only [Bool.not_true,Bool.not_false,cond_true,cond_false,zOb,Bool.false_and,Bool.and_false,Bool.true_and,Bool.and_true]
  exact hR
theorem q5f (e:u1p):p85.wt e=p6z.wt e.1+(Ty.sl u0z).wt e.2:=rfl
theorem s99 (e:u1p) (hw:p85.wt e≤u0l):u5w e=some (q9w e):=by
  have hb:u0l=1099511627776:=rfl
  have hew:=q5f e
  have hbw:=s9s e.1
  have n1:=t3x (t:=u0z) e.2
  have n2:=t3x (t:=u0z) e.1.2.1
  have n3:=t3x (t:=u0z) e.1.2.2.1
  have L:=t0p u9y e.2.length (fun i=>(e,e.2,(e.2.length:Int),i)) (fun i=>(fun t:u0f=>u5b t && (decide (t.2.1=1) && decide (t.2.2.1≤e.1.2.2.2.1))) (rdL u0z e.2 i) && (decide (i=0) || (fun x y:u0f=>decide (x.1<y.1)) (rdL u0z e.2 (i - 1)) (rdL u0z e.2 i))) (.inl ()) (.inr false)
    (by rw [s0u]; simp only [u9e,u0b,Nat.lt_irrefl,decide_false,cond_false])
    (fun i hi=>by
      have hm:rdL u0z e.2 i∈e.2:=by rw [y8k hi]; exact List.getElem_mem hi
      have ht:=s96 hm
      have hk:=t6n (rdL u0z e.2 i) (by omega)
      rw [s0u]; simp only [u9e,u0b,hi,decide_true,cond_true,y7t hi,zTn,y7l (show i<4611686018427387904 by omega),r4j (rdL u0z e.2 i).2.2.1 e.1.2.2.2.1,t4v,zOb]
      rw [hk]
      simp only [zOb]
      generalize u5b (rdL u0z e.2 i)=b1
      generalize decide ((rdL u0z e.2 i).2.1=1)=b2
      generalize decide ((rdL u0z e.2 i).2.2.1≤e.1.2.2.2.1)=b3
      by_cases h0:i=0
      · subst h0; simp only [decide_true,Bool.not_true,cond_false,Bool.true_or,Bool.and_true]
        cases b1<;>cases b2<;>cases b3<;>rfl
      · simp only [h0,decide_false,Bool.not_false,cond_true,Bool.false_or,t06 (show i<4611686018427387904 by omega) h0,y7t (show i - 1<e.2.length by omega),zTn,r4i (rdL u0z e.2 (i - 1)).1 (rdL u0z e.2 i).1]
        generalize decide ((rdL u0z e.2 (i - 1)).1<(rdL u0z e.2 i).1)=b4
        cases b1<;>cases b2<;>cases b3<;>cases b4<;>rfl)
  rw [t8z (t:=u0z) e.2 (fun t:u0f=>u5b t && (decide (t.2.1=1) && decide (t.2.2.1≤e.1.2.2.2.1))) (fun x y:u0f=>decide (x.1<y.1))] at L
  have hC:=q0o [e.1.2.1,e.1.2.2.1,e.2] (by simp only [List.flatten_cons,List.flatten_nil,List.append_nil,List.length_append]; omega) (by simp)
  have hf: [e.1.2.1,e.1.2.2.1,e.2].flatten=e.1.2.1++e.1.2.2.1++e.2:=by simp
  rw [hf] at hC
  have hI:=s8z (e.1.2.1++e.1.2.2.1++e.2) e.1.2.2.2.2 (by rw [List.length_append,List.length_append]; omega)
  have hB:=q6y e.1 (by omega)
  rw [r6l]; unfold s4q
  rw [hB]
  simp only [zOb,gt4]
  rw [hC]
  simp only [zOb]
  rw [hI]
  simp only [zOb]
  rw [L]
  unfold q9w q8q
  cases t0t e.1<;>cases decide (e.2.length≤4)<;>cases s9w (u3a (e.1.2.1++e.1.2.2.1++e.2)) e.1.2.2.2.2<;>try rfl
  all_goals
    cases e.2.all (fun t:u0f=>u5b t && (decide (t.2.1=1) && decide (t.2.2.1≤e.1.2.2.2.1)))<;>cases r8z u0z (fun x y:u0f=>decide (x.1<y.1)) e.2<;>rfl
theorem p3m {b:u0i} {o:List u0f} (hb:s9w (u3a (b.2.1++b.2.2.1)) b.2.2.2.2=true) (ho:r8z u0z (fun x y:u0f=>decide (x.1<y.1)) o=true):
    s9w (u3a (b.2.1++b.2.2.1++o)) b.2.2.2.2=o.all (fun t=>decide (t.1<b.2.2.2.2) && ((b.2.1.all fun x=> !decide (x.1=t.1)) && (b.2.2.1.all fun x=> !decide (x.1=t.1)))):=by
  rw [p9a (f:=fun t=>t.1)] at ho
  obtain ⟨h1,h2⟩:=s5r.mp hb
  rw [Bool.eq_iff_iff,s5r,List.all_eq_true]
  simp only [Bool.and_eq_true,decide_eq_true_eq,List.all_eq_true,Bool.not_eq_true',decide_eq_false_iff_not]
  unfold u3a at*
  constructor
  · rintro ⟨k1,k2⟩ t ht
    rw [List.map_append,List.nodup_append] at k2
    refine ⟨k1 _ (List.mem_map.mpr ⟨t,by simp [ht],rfl⟩),fun x hx=> ?_,fun x hx=> ?_⟩
    · exact k2.2.2 _ (List.mem_map.mpr ⟨x,by simp [hx],rfl⟩) _ (List.mem_map.mpr ⟨t,ht,rfl⟩)
    · exact k2.2.2 _ (List.mem_map.mpr ⟨x,by simp [hx],rfl⟩) _ (List.mem_map.mpr ⟨t,ht,rfl⟩)
  · intro k
    constructor
    · intro x hx
      obtain ⟨t,ht,rfl⟩:=List.mem_map.mp hx
      rcases List.mem_append.mp ht with q | q
      · exact h1 _ (List.mem_map.mpr ⟨t,q,rfl⟩)
      · exact (k t q).1
    · rw [List.map_append,List.nodup_append]
      refine ⟨h2,?_,?_⟩
      · rw [List.nodup_iff_pairwise_ne,List.pairwise_map]
        exact ho.imp fun {a b} q e=>by omega
      · intro a ha c hc e
        obtain ⟨x,hx,rfl⟩:=List.mem_map.mp ha
        obtain ⟨t,ht,rfl⟩:=List.mem_map.mp hc
        rcases List.mem_append.mp hx with q | q
        · exact (k t ht).2.1 x q e
        · exact (k t ht).2.2 x q e
theorem q1v (e:u1p) (hw:p85.wt e≤549755813888):t7a e=some (q9w e):=by
  have hb:u0l=1099511627776:=rfl
  have hew:=q5f e
  have hbw:=s9s e.1
  have n1:=t3x (t:=u0z) e.2
  have n2:=t3x (t:=u0z) e.1.2.1
  have n3:=t3x (t:=u0z) e.1.2.2.1
  have I1:∀(j:Int) (t:u0f),u40 (e,j,t,0)=some (bif (e.1.2.1.all fun x=> !decide (x.1=t.1)) then .inl (e,j,t) else .inr false):=fun j t=>by
    have L:=t0p u40 e.1.2.1.length (fun i=>(e,j,t,i)) (fun i=>(fun x:u0f=> !decide (x.1=t.1)) (rdL u0z e.1.2.1 i)) (.inl (e,j,t)) (.inr false)
      (by rw [t8r]; simp only [u71,u0b,Nat.lt_irrefl,decide_false,cond_false])
      (fun i hi=>by
        rw [t8r]; simp only [u71,u0b,hi,decide_true,cond_true,y7t hi,zTn,y7l (show i<4611686018427387904 by omega)]
        cases decide ((rdL u0z e.1.2.1 i).1=t.1)<;>rfl)
    rw [t6u (t:=u0z) e.1.2.1 (fun x:u0f=> !decide (x.1=t.1))] at L
    exact L
  have I2:∀(j:Int) (t:u0f),u3q (e,j,t,0)=some (bif (e.1.2.2.1.all fun x=> !decide (x.1=t.1)) then .inl (e,j) else .inr false):=fun j t=>by
    have L:=t0p u3q e.1.2.2.1.length (fun i=>(e,j,t,i)) (fun i=>(fun x:u0f=> !decide (x.1=t.1)) (rdL u0z e.1.2.2.1 i)) (.inl (e,j)) (.inr false)
      (by rw [t8s]; simp only [u72,u0b,Nat.lt_irrefl,decide_false,cond_false])
      (fun i hi=>by
        rw [t8s]; simp only [u72,u0b,hi,decide_true,cond_true,y7t hi,zTn,y7l (show i<4611686018427387904 by omega)]
        cases decide ((rdL u0z e.1.2.2.1 i).1=t.1)<;>rfl)
    rw [t6u (t:=u0z) e.1.2.2.1 (fun x:u0f=> !decide (x.1=t.1))] at L
    exact L
  have L:=t0p u4b e.2.length (fun i=>(e,i)) (fun i=>(fun t:u0f=>(u5b t && (decide (t.2.1=1) && decide (t.2.2.1≤e.1.2.2.2.1))) && (decide (t.1<e.1.2.2.2.2) && ((e.1.2.1.all fun x=> !decide (x.1=t.1)) && (e.1.2.2.1.all fun x=> !decide (x.1=t.1))))) (rdL u0z e.2 i) && (decide (i=0) || (fun x y:u0f=>decide (x.1<y.1)) (rdL u0z e.2 (i - 1)) (rdL u0z e.2 i))) (.inl ()) (.inr false)
    (by rw [s02]; simp only [u9m,u0b,Nat.lt_irrefl,decide_false,cond_false])
    (fun i hi=>by
      have hm:rdL u0z e.2 i∈e.2:=by rw [y8k hi]; exact List.getElem_mem hi
      have ht:=s96 hm
      have hk:=t2e (rdL u0z e.2 i) (by omega)
      have k1:=I1 (i:Int) (rdL u0z e.2 i)
      have k2:=I2 (i:Int) (rdL u0z e.2 i)
      rw [s02]; simp only [u9m,u0b,hi,decide_true,cond_true,y7t hi,zTn,y7l (show i<4611686018427387904 by omega),r4j (rdL u0z e.2 i).2.2.1 e.1.2.2.2.1,r4i (rdL u0z e.2 i).1 e.1.2.2.2.2,t4v,zOb]
      rw [hk,k1]
      simp only [zOb]
      generalize u5b (rdL u0z e.2 i)=b1
      generalize decide ((rdL u0z e.2 i).2.1=1)=b2
      generalize decide ((rdL u0z e.2 i).2.2.1≤e.1.2.2.2.1)=b3
      generalize decide ((rdL u0z e.2 i).1<e.1.2.2.2.2)=b5
      generalize (e.1.2.1.all fun x=> !decide (x.1=(rdL u0z e.2 i).1))=b6
      generalize (e.1.2.2.1.all fun x=> !decide (x.1=(rdL u0z e.2 i).1))=b7 at k2 ⊢
      have tail:((bif b6 then Sum.inl (e,(i:Int),rdL u0z e.2 i) else Sum.inr false:(u1p × Int × u0f) ⊕ Bool) |>fun r5=>(match r5 with
        | .inl o6=>(u3q (o6.1,o6.2.1,o6.2.2,0)).bind fun r7=>match r7 with
          | .inl o8=>u4b (o8.1,IntKind.i64.wrap (o8.2+1))
          | .inr z9=>some (.inr z9)
        | .inr z10=>some (.inr z10)))=bif b6 && b7 then u4b (e,((i+1:Nat):Int)) else some (.inr false):=by
        cases b6
        · rfl
        · simp only [cond_true]
          rw [k2]
          cases b7
          · rfl
          · simp only [cond_true,zOb,y7l (show i<4611686018427387904 by omega)]; rfl
      by_cases h0:i=0
      · subst h0; simp only [decide_true,Bool.not_true,cond_false,Bool.true_or,Bool.and_true]
        cases b1<;>cases b2<;>cases b3<;>cases b5<;>try rfl
        exact tail
      · simp only [h0,decide_false,Bool.not_false,cond_true,Bool.false_or,t06 (show i<4611686018427387904 by omega) h0,y7t (show i - 1<e.2.length by omega),zTn,r4i (rdL u0z e.2 (i - 1)).1 (rdL u0z e.2 i).1]
        generalize decide ((rdL u0z e.2 (i - 1)).1<(rdL u0z e.2 i).1)=b4
        cases b1<;>cases b2<;>cases b3<;>cases b5<;>cases b4<;>(first | rfl | (rw [Bool.and_false]; rfl) | (rw [Bool.and_true]; exact tail)))
  rw [t8z (t:=u0z) e.2 (fun t:u0f=>(u5b t && (decide (t.2.1=1) && decide (t.2.2.1≤e.1.2.2.2.1))) && (decide (t.1<e.1.2.2.2.2) && ((e.1.2.1.all fun x=> !decide (x.1=t.1)) && (e.1.2.2.1.all fun x=> !decide (x.1=t.1))))) (fun x y:u0f=>decide (x.1<y.1)),p1l] at L
  have hB:=t3z e.1 (by omega)
  rw [r6x]; unfold s41
  rw [hB]
  simp only [zOb,gt4]
  rw [L]
  unfold q9w q8q
  cases h1:t0t e.1
  · rfl
  · have hbi:s9w (u3a (e.1.2.1++e.1.2.2.1)) e.1.2.2.2.2=true:=by
      have:=q0y.mp h1
      exact s5r.mpr ⟨this.below,this.nodup⟩
    cases ha:r8z u0z (fun x y:u0f=>decide (x.1<y.1)) e.2
    · cases decide (e.2.length≤4)<;>simp
    · rw [p3m hbi ha]
      cases decide (e.2.length≤4)
      · rfl
      · simp only [Bool.not_true,cond_false,zOb,Bool.true_and,Bool.and_true]
        cases (e.2.all fun t:u0f=>u5b t && (decide (t.2.1=1) && decide (t.2.2.1≤e.1.2.2.2.1)))
        · rfl
        · simp only [Bool.true_and]
          cases (e.2.all fun t:u0f=>decide (t.1<e.1.2.2.2.2) && ((e.1.2.1.all fun x=> !decide (x.1=t.1)) && (e.1.2.2.1.all fun x=> !decide (x.1=t.1))))<;>rfl
end
section
theorem q02 {E:Type} (a:List E) (n:Nat) (h:n≤a.length) (z:List E):(a.take n++z).take n=a.take n:=by
  rw [List.take_append_of_le_length (by rw [List.length_take]; omega),List.take_take,Nat.min_self]
theorem t28 {E:Type} (p:E→Bool) (l:List E):(l.filter p).length≤l.length:=List.length_filter_le _ _
theorem q61 (l:List u0f) (c:Int) (hl:l.length≤8388608):u1j (l,c)=some (l.filter fun x=> !decide (x.2.2.2.1≤c)):=by
  have hq:∀x∈l,u5x (x,c)=some (decide (x.2.2.2.1≤c)):=fun x _=>by rw [r6q]; rfl
  have L:=Q.first (T:=u0z) (c:=Int) (W:=u05) (q:=u5x) (p:=fun x:u0f=>decide (x.2.2.2.1≤c)) (fun x=>u6w x) l c (by omega) hq
  rw [u7m]; unfold u20
  simp only [u7w,u29,L,zOb]
  by_cases hk:u0m (fun x:u0f=>decide (x.2.2.2.1≤c)) l<l.length
  · obtain ⟨a,e1,e2,e3⟩:=Q.delete (T:=u0z) (c:=Int) (W:=u00) (q:=u5x) (p:=fun x:u0f=>decide (x.2.2.2.1≤c)) (fun x=>u58 x) l c (by omega) hq hk
    have hn:=t28 (fun x:u0f=> !decide (x.2.2.2.1≤c)) l
    obtain ⟨n,hne⟩:∃n,n=(l.filter fun x:u0f=> !decide (x.2.2.2.1≤c)).length:=⟨_,rfl⟩
    rw [←hne] at e1 e3 hn
    have c1:decide (((u0m (fun x:u0f=>decide (x.2.2.2.1≤c)) l:Nat):Int)= -1)=false:=by simp
    have c2:decide ((0:Int)≤(n:Int))=true:=by simp
    have c3:decide ((n:Int)≤(a.length:Int))=true:=by simp; omega
    have c4:decide ((a.length:Int)≤(a.length:Int))=true:=by simp
    have hw:=y7l (i:=u0m (fun x:u0f=>decide (x.2.2.2.1≤c)) l) (by omega)
    simp only [if_pos hk,zOb,c1,cond_false,hw,e1,c2,c3,c4,Bool.and_self,cond_true,zTn,decide_true,Int.le_refl]
    have c5:decide ((n:Int)≤((a.take n++List.replicate (a.length - n) u0z.zero++a.drop (n+(a.length - n))).length:Int))=true:=by simp; omega
    have c6:(a.take n++List.replicate (a.length - n) u0z.zero++a.drop (n+(a.length - n))).take (n - (0:Int).toNat)=l.filter fun x:u0f=> !decide (x.2.2.2.1≤c):=by
      rw [List.append_assoc,Int.toNat_zero,Nat.sub_zero,q02 a n (by omega),e3]
    simp only [c5,Bool.and_self,cond_true,c6]
  · have hall:(l.filter fun x:u0f=> !decide (x.2.2.2.1≤c))=l:=by
      rw [List.filter_eq_self]
      intro x hx
      obtain ⟨i,hi,rfl⟩:=List.getElem_of_mem hx
      rw [u5u (p:=fun x:u0f=>decide (x.2.2.2.1≤c)) hi (by omega)]
      rfl
    simp only [if_neg hk,zOb,decide_true,cond_true,hall]
end
section
def u25 (b:u0i) (o:List u0f):u0i:=(u1d b.1 (t3a b o),b.2.1.filter (fun x=> !decide (x.2.2.2.1≤t3a b o)),b.2.2)
theorem q7a (b:u0i) (o:List u0f) (hb:fewB b) (ho:o.length≤4194304):s1v (b,o)=some (u25 b o):=by
  have h1:=q0p b hb
  have h2:=q64 b o ho
  have h3:=q61 b.2.1 (t3a b o) (by have:=hb.2.1.1; omega)
  have h4:=q4m b.1 (t3a b o) (by have:=hb.1; omega)
  rw [q2r]; unfold r0j u25
  simp only [h1,h2,h3,h4,zOb]
theorem s1l (b:u0i) (o:List u0f) (hb:fewB b) (ho:o.length≤4194304):t0f (b,o)=some (u25 b o):=by
  have h1:=t30 b hb
  have h2:=q65 b o ho
  have h4:=q4n b.1 (t3a b o) (by have:=hb.1; omega)
  have hl:=hb.2.1.1
  have L:=t52 t24 b.2.1 (fun a i=>(b,(([], [], [],0,0):u0i),(b.1,a,b.2.2),t3a b o,i)) (fun x=> !decide (x.2.2.2.1≤t3a b o)) (fun x=>x) (fun a=> .inl (b,(([], [], [],0,0):u0i),(b.1,a,b.2.2),t3a b o)) (by omega)
    (fun a _=>by rw [s6y]; simp only [t2x,u0b,Nat.lt_irrefl,decide_false,cond_false])
    (fun i hi a ha=>by
      have hc:=u6x b.2.1[i] (hb.2.1.2 _ (List.getElem_mem hi))
      rw [s6y]
      simp only [t2x,u0b,hi,decide_true,cond_true,y7t hi,zTn,y8k (t:=u0z) hi,hc,zOb,List.length_singleton,u0r (show a.length+1≤1099511627776 by omega)]
      rw [y7l (by omega)]
      by_cases h:b.2.1[i].2.2.2.1≤t3a b o
      · have h' : ¬b.2.1[i].2.2.2.1 >t3a b o:=Int.not_lt.mpr h
        simp [h,h']
      · have h' :b.2.1[i].2.2.2.1 >t3a b o:=Int.not_le.mp h
        simp [h,h'])
  rw [List.map_id'] at L
  rw [q3b]; unfold r03 u25
  simp only [h1,h2,zOb,L,h4]
end
section
def q5j (d x:u0f):u0f:=(x.1,x.2.1,x.2.2.1,x.2.2.2.1,x.2.2.2.2.1,x.2.2.2.2.2.1,(x.2.2.2.2.2.2.1 || ahead x d),x.2.2.2.2.2.2.2)
end
section
def q4w (b:u0i) (t:u0f):u0f:=(t.1,(3:Int),t.2.2.1,IntKind.i64.wrap (b.2.2.2.1+1),t.2.2.2.2.1,t.2.2.2.2.2.1,(t.2.2.2.2.2.2.1 || r1x t b.2.1),(⟨#[]⟩:ByteArray))
def s15 (b:u0i) (t:u0f):u0i:=
  (t33 b.1 t.2.2.2.2.2.1 (IntKind.i64.wrap (b.2.2.2.1+1)),b.2.1++ [q4w b t],(b.2.2.1.filter fun x=> !decide (x.1=t.1)).map (q5j (q4w b t)),IntKind.i64.wrap (b.2.2.2.1+1),y8h b.2.2.2.2 (IntKind.i64.wrap (t.1+1)))
end
section
def r5v (b:u0i) (t:u0f):u0i:=
  ((s15 b t).1,(s15 b t).2.1,(s15 b t).2.2.1,(s15 b t).2.2.2.1,if t.1≥b.2.2.2.2 then IntKind.i64.wrap (t.1+1) else b.2.2.2.2)
theorem q4k (b:u0i) (t:u0f) (b0:u0i) (v:List u1v) (p:List u0f) (c n:Int) (d:u0f) (hb:fewB b) (hd:r7j d):
    u4c (b,t,b0,(v,p, [],c,n),d,0)=some (.inl (t,b0,(v,p,(b.2.2.1.filter fun x=> !decide (x.1=t.1)).map (q5j d),c,n))):=by
  have hl:=hb.2.2.1
  exact t52 u4c b.2.2.1 (fun a i=>(b,t,b0,((v,p,a,c,n):u0i),d,i)) (fun x=> !decide (x.1=t.1)) (q5j d) (fun a=> .inl (t,b0,((v,p,a,c,n):u0i))) (by omega)
    (fun a _=>by rw [s08]; simp only [u9s,u0b,Nat.lt_irrefl,decide_false,cond_false])
    (fun i hi a ha=>by
      have h1:=u6x b.2.2.1[i] (hb.2.2.2 _ (List.getElem_mem hi))
      have h2:=u9c b.2.2.1[i] d (t9z (hb.2.2.2 _ (List.getElem_mem hi)).1) (t9z hd.2)
      rw [s08]
      simp only [u9s,u0b,hi,decide_true,cond_true,y7t hi,zTn,y8k (t:=u0z) hi,h1,h2,zOb,List.length_singleton,u0r (show a.length+1≤1099511627776 by omega)]
      rw [y7l (by omega)]
      cases decide (b.2.2.1[i].1=t.1) with
      | true=>rfl
      | false=>
        simp only [cond_false,Bool.not_false,cond_true]
        unfold q5j
        cases ahead b.2.2.1[i] d with
        | true=>simp
        | false=>simp)
end
section
theorem r3s (b:u0i) (t:u0f) (hb:fewB b) (ht:r7j t):u39 (b,t)=some (r5v b t):=by
  have h1:=t30 b hb
  have h2:=u6x t ht
  have h3:=r4w b.1 t.2.2.2.2.2.1 (IntKind.i64.wrap (b.2.2.2.1+1)) (by have:=hb.1; have:=ht.2; omega)
  have h5:=r2o t b.2.1 ht hb.2.1
  have hp:=hb.2.1.1
  have hc:∀d:u0f,Nat.ble (b.2.1.length+([d] :List u0f).length) z7w=true:=fun d=>u0r (by simp; omega)
  rw [r9m]; unfold s75 r5v s15 q4w
  simp only [h1,h2,h3,h5,zOb]
  cases ho:t.2.2.2.2.2.2.1 with
  | true=>
    have hd:r7j ((t.1,(3:Int),t.2.2.1,IntKind.i64.wrap (b.2.2.2.1+1),t.2.2.2.2.1,t.2.2.2.2.2.1,true,(⟨#[]⟩:ByteArray)):u0f):=ht
    have L:=fun p=>q4k b t ([], [], [],0,0) (t33 b.1 t.2.2.2.2.2.1 (IntKind.i64.wrap (b.2.2.2.1+1))) p (IntKind.i64.wrap (b.2.2.2.1+1)) b.2.2.2.2 _ hb hd
    simp only [cond_true,L,zOb,hc,Bool.true_or]
    by_cases h:t.1≥b.2.2.2.2<;>simp [h]
  | false=>
    have hd:r7j ((t.1,(3:Int),t.2.2.1,IntKind.i64.wrap (b.2.2.2.1+1),t.2.2.2.2.1,t.2.2.2.2.2.1,r1x t b.2.1,(⟨#[]⟩:ByteArray)):u0f):=ht
    have L:=fun p=>q4k b t ([], [], [],0,0) (t33 b.1 t.2.2.2.2.2.1 (IntKind.i64.wrap (b.2.2.2.1+1))) p (IntKind.i64.wrap (b.2.2.2.1+1)) b.2.2.2.2 _ hb hd
    simp only [cond_false,cond_true,h5,zOb,L,hc,Bool.false_or]
    by_cases h:t.1≥b.2.2.2.2<;>simp [h]
end
section
def smallB (b:u0i):Prop:=b.1.length≤1048576∧(b.2.1.length≤1048576∧ ∀t∈b.2.1,r7j t)∧b.2.2.1.length≤1048576∧ ∀t∈b.2.2.1,r7j t
theorem smallB.few {b:u0i} (h:smallB b):fewB b:=⟨by have:=h.1; omega,⟨by have:=h.2.1.1; omega,h.2.1.2⟩,⟨by have:=h.2.2.1; omega,h.2.2.2⟩⟩
end
section
def r1r (b:u0i):Bool:=decide ((b.2.1.length:Int)≥12) || (decide ((b.1.length:Int) >100) || decide (b.2.2.2.1≥9999))
theorem q5l (b:u0i):t47 b=some (r1r b):=by
  rw [r97]; unfold s8r r1r
  cases decide ((b.2.1.length:Int)≥12)<;>cases decide ((b.1.length:Int) >100)<;>rfl
theorem p0c (b:u0i) {n:ByteArray} {i:Nat} (hi:i<b.2.2.1.length) (hn:b.2.2.1[i].2.2.2.2.2.2.2=n):∃k:Nat,k<b.2.2.1.length∧u08 b n=(k:Int):=by
  have h:u0m (fun x:u0f=>z7o x.2.2.2.2.2.2.2 n) b.2.2.1<b.2.2.1.length:=by
    rcases Nat.lt_or_ge (u0m (fun x:u0f=>z7o x.2.2.2.2.2.2.2 n) b.2.2.1) b.2.2.1.length with q | q
    · exact q
    · have:=u5u (p:=fun x:u0f=>z7o x.2.2.2.2.2.2.2 n) hi (by omega)
      rw [y7f.mpr hn] at this
      cases this
  exact ⟨_,h,if_pos h⟩
end
section
def u09 (n i:Int):Int:=if i<n then n else i+1
def u8w (b:u0i) (t:u0f):u0f:=(t.1,(3:Int),t.2.2.1,b.2.2.2.1+1,t.2.2.2.2.1,t.2.2.2.2.2.1,(t.2.2.2.2.2.2.1 || r1x t b.2.1),(⟨#[]⟩:ByteArray))
def u1b (b:u0i) (t:u0f):u0i:=
  (t33 b.1 t.2.2.2.2.2.1 (b.2.2.2.1+1),b.2.1++ [u8w b t],(b.2.2.1.filter fun x=> !decide (x.1=t.1)).map (q5j (u8w b t)),b.2.2.2.1+1,u09 b.2.2.2.2 t.1)
def u3d (b:u0i) (t:u0f) (n:ByteArray):u0f:=(t.1,(2:Int),t.2.2.1,t.2.2.2.1,t.2.2.2.2.1,t.2.2.2.2.2.1,(t.2.2.2.2.2.2.1 || r1x t b.2.1),n)
def u1i (b:u0i) (t:u0f) (n:ByteArray):u0i:=
  (b.1,b.2.1,(b.2.2.1.filter fun x=>y3c x.2.2.2.2.2.2.2 n)++ [u3d b t n] ++(b.2.2.1.filter fun x=> !y3c x.2.2.2.2.2.2.2 n),b.2.2.2.1,u09 b.2.2.2.2 t.1)
def t81 (b:u0i) (n:ByteArray):u0i:=(b.1,b.2.1,(b.2.2.1.filter fun x=> !z7o x.2.2.2.2.2.2.2 n),b.2.2.2.1,b.2.2.2.2)
def p3w (n:Int):Prop:= -1000000≤n∧n≤1000000
theorem t8x {n:Int} (h:p3w n):IntKind.i64.wrap (n+1)=n+1:=by
  obtain ⟨h1,h2⟩:=h
  rw [y4y (by omega) (by omega)]
theorem q74 {b:u0i} {t:u0f} (hc:p3w b.2.2.2.1) (hi:p3w t.1):s15 b t=u1b b t:=by
  have e:q4w b t=u8w b t:=by unfold q4w u8w; rw [t8x hc]
  unfold s15 u1b
  rw [e,t8x hc,t8x hi]
  unfold y8h u09
  congr 4
  by_cases h:t.1<b.2.2.2.2
  · rw [if_pos h,if_neg (by omega)]
  · rw [if_neg h,if_pos (by omega)]
theorem r8f {b:u0i} {t:u0f} (hc:p3w b.2.2.2.1) (hi:p3w t.1):r5v b t=u1b b t:=by
  unfold r5v
  rw [q74 hc hi,t8x hi]
  unfold u1b u09
  congr 4
  by_cases h:t.1<b.2.2.2.2
  · rw [if_pos h,if_neg (by omega)]
  · rw [if_neg h,if_pos (by omega)]
def uq (l:List u0f):Prop:=l.Pairwise fun a b=>a.1≠b.1
theorem q1m {l:List u0f} :(u3a l).Nodup↔uq l:=by
  unfold u3a uq; rw [List.nodup_iff_pairwise_ne,List.pairwise_map]
theorem o00 {a b:List u0f} :uq (a++b)↔uq a∧uq b∧ ∀x∈a,∀y∈b,x.1≠y.1:=List.pairwise_append
theorem r8g {l:List u0f} (h:uq l) (p:u0f→Bool):uq (l.filter p):=List.Pairwise.filter p h
theorem p7q {l:List u0f} (f:u0f→u0f) (hf:∀x,(f x).1=x.1) (h:uq l):uq (l.map f):=by
  unfold uq; rw [List.pairwise_map]; simp only [hf]; exact h
theorem p2v {t:u0f} :uq [t] :=List.pairwise_singleton _ _
theorem p7r {l:List u0f} :uq l→ ∀x∈l,∀y∈l,x.1=y.1→x=y:=by
  induction l with
  | nil=>intro _ x hx; cases hx
  | cons z l ih=>
    intro h x hx y hy e
    have h' :=List.pairwise_cons.mp h
    rcases List.mem_cons.mp hx with rfl | hx' <;>rcases List.mem_cons.mp hy with rfl | hy'
    · rfl
    · exact absurd e (h'.1 y hy')
    · exact absurd e.symm (h'.1 x hx')
    · exact ih h'.2 x hx' y hy' e
theorem t6w {l:List u0f} {n:Int} :(∀x∈u3a l,x<n)↔ ∀t∈l,t.1<n:=by
  unfold u3a
  constructor
  · exact fun h t ht=>h _ (List.mem_map.mpr ⟨t,ht,rfl⟩)
  · intro h x hx
    obtain ⟨t,ht,rfl⟩:=List.mem_map.mp hx
    exact h t ht
theorem p67 {d x:u0f} (h:TxnR x) (hs:x.2.1=2):TxnR (q5j d x):=
  ⟨h.id,h.st,h.snap,h.rlen,h.ws,h.rs,h.done,h.nocs,h.name,h.noname,fun e=>by have e:x.2.1=1:=e; omega⟩
theorem q7f {b:u0i} {t:u0f} (ht:TxnR t) (hs:t.2.2.1≤b.2.2.2.1) (hc:b.2.2.2.1<9999):TxnR (u8w b t):=
  ⟨ht.id,⟨by show (1:Int)≤3; omega,by show (3:Int)≤3; omega⟩,ht.snap,ht.rlen,ht.ws,ht.rs,fun _=>⟨by show t.2.2.1+1≤b.2.2.2.1+1; omega,by show b.2.2.2.1+1≤9999; omega⟩,
    fun e=>absurd rfl e,fun e=>by have e:(3:Int)=2:=e; omega,fun _=>rfl,fun e=>by have e:(3:Int)=1:=e; omega⟩
theorem q3u {b:u0i} {t:u0f} {n:ByteArray} (ht:TxnR t) (hs:t.2.1≠3) (hn:u4d n=true):TxnR (u3d b t n):=
  ⟨ht.id,⟨by show (1:Int)≤2; omega,by show (2:Int)≤3; omega⟩,ht.snap,ht.rlen,ht.ws,ht.rs,fun e=>by have e:(2:Int)=3:=e; omega,
    fun _=>ht.nocs hs,fun _=>hn,fun e=>absurd rfl e,fun e=>by have e:(2:Int)=1:=e; omega⟩
theorem p4s {w:WrT} {c:Int} (h:u1q w=true) (h1:1≤c) (h2:c≤9999):s97 (w.1,w.2.1,w.2.2,c)=true:=by
  unfold u1q at h
  unfold s97
  simp only [Bool.and_eq_true,r29] at h ⊢
  exact ⟨h.1,h.2.1,h.2.2,h1,h2⟩
theorem p35 {l:List u1v} {ws:List WrT} {c:Int} (hl:u4x l=true) (hv:∀v∈l,v.2.2.2≤c) (hw:u2x ws=true) (h0:0≤c) (h9:c<9999) (hn:l.length≤112):
    u4x (t33 l ws (c+1))=true∧ ∀v∈t33 l ws (c+1),v.2.2.2≤c+1:=by
  obtain ⟨h1,h2,h3⟩:=p28.mp hl
  obtain ⟨w1,w2,w3⟩:=p47.mp hw
  refine ⟨p28.mpr ⟨fun v h=> ?_,r1y ws h2 (q6n hw) fun x hx w _ q=>by have:=hv x hx; have:vCs x=c+1:=q.2; unfold vCs at this; omega,by rw [r7x]; omega⟩,fun v h=> ?_⟩
  · rcases (t5f ws l (c+1)).mp h with h | ⟨w,hw,rfl⟩
    · exact h1 v h
    · exact p4s (w1 w hw) (by omega) (by omega)
  · rcases (t5f ws l (c+1)).mp h with h | ⟨w,hw,rfl⟩
    · have:=hv v h; omega
    · exact Int.le_refl _
theorem q5v {n i:Int} (h:i<n):u09 n i=n:=if_pos h
theorem u83 (n i:Int):n≤u09 n i∧i<u09 n i:=by unfold u09; split<;>omega
theorem q6h {b:u0i} {t:u0f} (hb:BaseR b) (ht:TxnR t) (hs:t.2.2.1≤b.2.2.2.1) (hc:b.2.2.2.1<9999) (hp:b.2.1.length<12) (hv:b.1.length≤112)
    (hid:∀x∈b.2.1,x.1≠t.1) (hn:t.1<9999):BaseR (u1b b t):=by
  have c0:=hb.cs.1
  obtain ⟨v1,v2⟩:=p35 hb.vs hb.vcs ht.ws c0 hc hv
  have hu:=q1m.mp hb.nodup
  have hbl:=t6w.mp hb.below
  obtain ⟨u1,u2,u3⟩:=o00.mp hu
  have hg:=u83 b.2.2.2.2 t.1
  have hnx:u09 b.2.2.2.2 t.1≤9999:=by have:=hb.next.2; unfold u09; split<;>omega
  refine ⟨v1,v2,⟨by show 0≤b.2.2.2.1+1; omega,by show b.2.2.2.1+1≤9999; omega⟩,⟨by show 1≤u09 b.2.2.2.2 t.1; have:=hb.next.1; omega,hnx⟩,?_,?_,?_,?_,?_,?_,?_,?_⟩
  · show (b.2.1++ [u8w b t]).length≤12
    simp only [List.length_append,List.length_singleton]; omega
  · intro x hx
    rcases List.mem_append.mp hx with hx | hx
    · obtain ⟨q1,q2,q3⟩:=hb.past x hx
      exact ⟨q1,q2,by show x.2.2.2.1≤b.2.2.2.1+1; omega⟩
    · rw [List.mem_singleton] at hx
      subst hx
      exact ⟨q7f ht hs hc,rfl,Int.le_refl _⟩
  · show (b.2.1++ [u8w b t]).Pairwise _
    rw [List.pairwise_append]
    refine ⟨hb.pasc,List.pairwise_singleton _ _,fun x hx y hy=> ?_⟩
    rw [List.mem_singleton] at hy
    subst hy
    have:=(hb.past x hx).2.2
    show x.2.2.2.1<b.2.2.2.1+1
    omega
  · show ((b.2.2.1.filter _).map _).length≤3
    rw [List.length_map]
    exact Nat.le_trans (List.length_filter_le _ _) hb.rlen
  · intro x hx
    obtain ⟨y,hy,rfl⟩:=List.mem_map.mp hx
    obtain ⟨q1,q2,q3⟩:=hb.ready y (List.mem_filter.mp hy).1
    exact ⟨p67 q1 q2,q2,by show y.2.2.1≤b.2.2.2.1+1; omega⟩
  · show ((b.2.2.1.filter _).map _).Pairwise _
    rw [List.pairwise_map]
    exact (List.Pairwise.filter _ hb.rasc)
  · rw [t6w]
    intro x hx
    show x.1<u09 b.2.2.2.2 t.1
    rcases List.mem_append.mp hx with hx | hx
    · rcases List.mem_append.mp hx with hx | hx
      · have:=hbl x (List.mem_append_left _ hx); omega
      · rw [List.mem_singleton] at hx; subst hx; exact hg.2
    · obtain ⟨y,hy,rfl⟩:=List.mem_map.mp hx
      have:=hbl y (List.mem_append_right _ (List.mem_filter.mp hy).1)
      show y.1<_
      omega
  · rw [q1m]
    refine o00.mpr ⟨o00.mpr ⟨u1,p2v,fun x hx y hy=> ?_⟩,p7q _ (fun _=>rfl) (r8g u2 _),fun x hx y hy=> ?_⟩
    · rw [List.mem_singleton] at hy; subst hy; exact hid x hx
    · obtain ⟨z,hz,rfl⟩:=List.mem_map.mp hy
      obtain ⟨z1,z2⟩:=List.mem_filter.mp hz
      show x.1≠z.1
      rcases List.mem_append.mp hx with hx | hx
      · exact u3 x hx z z1
      · rw [List.mem_singleton] at hx; subst hx
        intro e
        simp only [Bool.not_eq_true',decide_eq_false_iff_not] at z2
        exact z2 e.symm
theorem t3r {b:u0i} (hb:BaseR b) (o:List u0f):BaseR (u25 b o):=by
  obtain ⟨h1,h2,h3⟩:=p28.mp hb.vs
  have sv:=u6u b.1 (t3a b o)
  have sp:(b.2.1.filter fun x=> !decide (x.2.2.2.1≤t3a b o)).Sublist b.2.1:=List.filter_sublist
  have si:((b.2.1.filter fun x=> !decide (x.2.2.2.1≤t3a b o))++b.2.2.1).Sublist (b.2.1++b.2.2.1):=sp.append (List.Sublist.refl _)
  refine ⟨p28.mpr ⟨fun v h=>h1 v (sv.subset h),h2.sublist sv,Nat.le_trans sv.length_le h3⟩,fun v h=>hb.vcs v (sv.subset h),hb.cs,hb.next,Nat.le_trans sp.length_le hb.plen,
    fun t h=>hb.past t (sp.subset h),hb.pasc.sublist sp,hb.rlen,hb.ready,hb.rasc,?_,?_⟩
  · rw [t6w]
    intro x hx
    exact t6w.mp hb.below x (si.subset hx)
  · rw [q1m]
    exact List.Pairwise.sublist si (q1m.mp hb.nodup)
theorem s1r {b:u0i} {t:u0f} {n:ByteArray} (hb:BaseR b) (ht:TxnR t) (h3:t.2.1≠3) (hs:t.2.2.1≤b.2.2.2.1) (hk:u4d n=true) (hl:b.2.2.1.length<3)
    (hn:∀x∈b.2.2.1,x.2.2.2.2.2.2.2≠n) (hid:∀x∈b.2.1++b.2.2.1,x.1≠t.1) (h9:t.1<9999):BaseR (u1i b t n):=by
  have hu:=q1m.mp hb.nodup
  have hbl:=t6w.mp hb.below
  obtain ⟨u1,u2,u3⟩:=o00.mp hu
  have hg:=u83 b.2.2.2.2 t.1
  have hnx:u09 b.2.2.2.2 t.1≤9999:=by have:=hb.next.2; unfold u09; split<;>omega
  have mem:∀ {x:u0f},x∈(b.2.2.1.filter fun x=>y3c x.2.2.2.2.2.2.2 n)++ [u3d b t n] ++(b.2.2.1.filter fun x=> !y3c x.2.2.2.2.2.2.2 n)→x∈b.2.2.1∨x=u3d b t n:=fun {x} hx=>by
    rcases List.mem_append.mp hx with hx | hx
    · rcases List.mem_append.mp hx with hx | hx
      · exact .inl (List.mem_filter.mp hx).1
      · rw [List.mem_singleton] at hx; exact .inr hx
    · exact .inl (List.mem_filter.mp hx).1
  have len:∀(l:List u0f) (p:u0f→Bool),(l.filter p).length+(l.filter fun x=> !p x).length=l.length:=fun l p=>by
    induction l with
    | nil=>rfl
    | cons x l ih=>cases hp:p x<;>simp [List.filter_cons,hp] <;>omega
  refine ⟨hb.vs,hb.vcs,hb.cs,⟨by show 1≤u09 b.2.2.2.2 t.1; have:=hb.next.1; omega,hnx⟩,hb.plen,hb.past,hb.pasc,?_,?_,?_,?_,?_⟩
  · show ((b.2.2.1.filter fun x=>y3c x.2.2.2.2.2.2.2 n)++ [u3d b t n] ++(b.2.2.1.filter fun x=> !y3c x.2.2.2.2.2.2.2 n)).length≤3
    have:=len b.2.2.1 fun x=>y3c x.2.2.2.2.2.2.2 n
    simp only [List.length_append,List.length_singleton]
    omega
  · intro x hx
    rcases mem hx with hx | rfl
    · exact hb.ready x hx
    · exact ⟨q3u ht h3 hk,rfl,hs⟩
  · show ((b.2.2.1.filter fun x=>y3c x.2.2.2.2.2.2.2 n)++ [u3d b t n] ++(b.2.2.1.filter fun x=> !y3c x.2.2.2.2.2.2.2 n)).Pairwise _
    have up:∀y∈b.2.2.1,(!y3c y.2.2.2.2.2.2.2 n)=true→y3c n y.2.2.2.2.2.2.2=true:=fun y hy h=>by
      rcases s94 y.2.2.2.2.2.2.2 n with c | c | c
      · rw [c] at h; cases h
      · exact absurd c (hn y hy)
      · exact c
    rw [List.append_assoc,List.pairwise_append]
    refine ⟨List.Pairwise.filter _ hb.rasc,?_,?_⟩
    · rw [List.singleton_append,List.pairwise_cons]
      refine ⟨fun y hy=> ?_,List.Pairwise.filter _ hb.rasc⟩
      obtain ⟨y1,y2⟩:=List.mem_filter.mp hy
      exact up y y1 y2
    · intro x hx y hy
      obtain ⟨x1,x2⟩:=List.mem_filter.mp hx
      rcases List.mem_append.mp hy with hy | hy
      · rw [List.mem_singleton] at hy; subst hy; exact x2
      · obtain ⟨y1,y2⟩:=List.mem_filter.mp hy
        exact s6i x2 (up y y1 y2)
  · rw [t6w]
    intro x hx
    show x.1<u09 b.2.2.2.2 t.1
    rcases List.mem_append.mp hx with hx | hx
    · have:=hbl x (List.mem_append_left _ hx); omega
    · rcases mem hx with hx | rfl
      · have:=hbl x (List.mem_append_right _ hx); omega
      · exact hg.2
  · rw [q1m]
    refine o00.mpr ⟨u1,?_,fun x hx y hy=> ?_⟩
    · show uq ((b.2.2.1.filter fun x=>y3c x.2.2.2.2.2.2.2 n)++ [u3d b t n] ++(b.2.2.1.filter fun x=> !y3c x.2.2.2.2.2.2.2 n))
      rw [List.append_assoc]
      refine o00.mpr ⟨r8g u2 _,?_,fun x hx y hy=> ?_⟩
      · rw [List.singleton_append]
        refine List.pairwise_cons.mpr ⟨fun y hy=> ?_,r8g u2 _⟩
        exact (hid y (List.mem_append_right _ (List.mem_filter.mp hy).1)).symm
      · obtain ⟨x1,x2⟩:=List.mem_filter.mp hx
        rcases List.mem_append.mp hy with hy | hy
        · rw [List.mem_singleton] at hy; subst hy
          exact hid x (List.mem_append_right _ x1)
        · obtain ⟨y1,y2⟩:=List.mem_filter.mp hy
          intro e
          have:=p7r u2 x x1 y y1 e
          subst this
          rw [x2] at y2; cases y2
    · rcases mem hy with hy | rfl
      · exact u3 x hx y hy
      · exact hid x (List.mem_append_left _ hx)
theorem r7m {b:u0i} (hb:BaseR b) (n:ByteArray):BaseR (t81 b n):=by
  have sp:(b.2.2.1.filter fun x=> !z7o x.2.2.2.2.2.2.2 n).Sublist b.2.2.1:=List.filter_sublist
  have si:(b.2.1++(b.2.2.1.filter fun x=> !z7o x.2.2.2.2.2.2.2 n)).Sublist (b.2.1++b.2.2.1):=(List.Sublist.refl _).append sp
  refine ⟨hb.vs,hb.vcs,hb.cs,hb.next,hb.plen,hb.past,hb.pasc,Nat.le_trans sp.length_le hb.rlen,fun t h=>hb.ready t (sp.subset h),hb.rasc.sublist sp,?_,?_⟩
  · rw [t6w]
    intro x hx
    exact t6w.mp hb.below x (si.subset hx)
  · rw [q1m]
    exact List.Pairwise.sublist si (q1m.mp hb.nodup)
end
section
def p7h (id snap:Int):u0f:=(id,(1:Int),snap,(0:Int), [], [],false,(⟨#[]⟩:ByteArray))
def r1f (e:u1p):u1p:=((e.1.1,e.1.2.1,e.1.2.2.1,e.1.2.2.2.1,e.1.2.2.2.2+1),e.2++ [p7h e.1.2.2.2.2 e.1.2.2.2.1])
def r78 (e:u1p) (k:Nat) (t:u0f):u1p:=(e.1,e.2.set k t)
def u6f (e:u1p) (id:Int):List u0f:=e.2.filter fun x=> !decide (x.1=id)
def t2i (e:u1p) (id:Int):u1p:=(u25 e.1 (u6f e id),u6f e id)
def r6h (e:u1p) (t:u0f):u1p:=(u25 (u1b e.1 t) (u6f e t.1),u6f e t.1)
def p2f (e:u1p) (t:u0f) (n:ByteArray):u1p:=(u25 (u1i e.1 t n) (u6f e t.1),u6f e t.1)
def p9f (e:u1p) (t:u0f):u1p:=(u25 (u1b e.1 t) e.2,e.2)
def noE (e:u1p) (n:ByteArray):u1p:=(u25 (t81 e.1 n) e.2,e.2)
theorem EngR.uq {e:u1p} (h:EngR e):uq (e.1.2.1++e.1.2.2.1++e.2):=q1m.mp h.nodup
theorem EngR.bel {e:u1p} (h:EngR e):∀t∈e.1.2.1++e.1.2.2.1++e.2,t.1<e.1.2.2.2.2:=t6w.mp h.below
theorem EngR.apart {e:u1p} (h:EngR e):∀x∈e.1.2.1++e.1.2.2.1,∀y∈e.2,x.1≠y.1:=(o00.mp h.uq).2.2
theorem EngR.uqo {e:u1p} (h:EngR e):Ab.uq e.2:=(o00.mp h.uq).2.1
theorem r4l {e:u1p} {b:u0i} {o:List u0f} (h:EngR e) (hb:BaseR b) (ho:o.Sublist e.2) (hc:e.1.2.2.2.1≤b.2.2.2.1) (hn:e.1.2.2.2.2≤b.2.2.2.2) (hu:∀x∈b.2.1++b.2.2.1,∀y∈o,x.1≠y.1):EngR (b,o):=by
  refine ⟨hb,Nat.le_trans ho.length_le h.olen,fun t ht=> ?_,h.oasc.sublist ho,?_,?_⟩
  · obtain ⟨q1,q2,q3⟩:=h.open_ t (ho.subset ht)
    exact ⟨q1,q2,by show t.2.2.1≤b.2.2.2.1; omega⟩
  · rw [t6w]
    intro x hx
    rcases List.mem_append.mp hx with hx | hx
    · exact t6w.mp hb.below x hx
    · have:=h.bel x (List.mem_append_right _ (ho.subset hx))
      show x.1<b.2.2.2.2
      omega
  · rw [q1m]
    exact o00.mpr ⟨q1m.mp hb.nodup,List.Pairwise.sublist ho h.uqo,hu⟩
theorem t6p {b:u0i} {o:List u0f} {x:u0f} (h:x∈(u25 b o).2.1++(u25 b o).2.2.1):x∈b.2.1++b.2.2.1:=by
  rcases List.mem_append.mp h with h | h
  · exact List.mem_append_left _ (List.mem_filter.mp h).1
  · exact List.mem_append_right _ h
theorem u5i (e:u1p) (id:Int):(u6f e id).Sublist e.2:=List.filter_sublist
theorem r75 {e:u1p} {id:Int} {x:u0f} (h:x∈u6f e id):x.1≠id:=by
  have:=(List.mem_filter.mp h).2
  simpa using this
theorem p5k {e:u1p} (h:EngR e) (hl:e.2.length<4) (hn:e.1.2.2.2.2<9999):EngR (r1f e):=by
  have hb:=h.base
  have n1:=hb.next.1
  have hT:TxnR (p7h e.1.2.2.2.2 e.1.2.2.2.1):=
    ⟨⟨n1,by show e.1.2.2.2.2≤9999; omega⟩,⟨by show (1:Int)≤1; omega,by show (1:Int)≤3; omega⟩,hb.cs,Nat.zero_le _,rfl,fun r hr=>(by cases hr),fun e=>by have e:(1:Int)=3:=e; omega,fun _=>rfl,fun e=>by have e:(1:Int)=2:=e; omega,fun _=>rfl,fun _=>rfl⟩
  have hbel:=h.bel
  refine ⟨⟨hb.vs,hb.vcs,hb.cs,⟨by show 1≤e.1.2.2.2.2+1; omega,by show e.1.2.2.2.2+1≤9999; omega⟩,hb.plen,hb.past,hb.pasc,hb.rlen,hb.ready,hb.rasc,?_,hb.nodup⟩,?_,?_,?_,?_,?_⟩
  · rw [t6w]
    intro x hx
    have:=hbel x (List.mem_append_left _ hx)
    show x.1<e.1.2.2.2.2+1
    omega
  · show (e.2++ [_]).length≤4
    simp only [List.length_append,List.length_singleton]; omega
  · intro t ht
    rcases List.mem_append.mp ht with ht | ht
    · exact h.open_ t ht
    · rw [List.mem_singleton] at ht; subst ht
      exact ⟨hT,rfl,Int.le_refl _⟩
  · show (e.2++ [_]).Pairwise _
    rw [List.pairwise_append]
    refine ⟨h.oasc,List.pairwise_singleton _ _,fun x hx y hy=> ?_⟩
    rw [List.mem_singleton] at hy; subst hy
    exact hbel x (List.mem_append_right _ hx)
  · rw [t6w]
    intro x hx
    show x.1<e.1.2.2.2.2+1
    have hx:x∈e.1.2.1++e.1.2.2.1++(e.2++ [p7h e.1.2.2.2.2 e.1.2.2.2.1]):=hx
    rw [←List.append_assoc] at hx
    rcases List.mem_append.mp hx with hx | hx
    · have:=hbel x hx; omega
    · rw [List.mem_singleton] at hx; subst hx
      show e.1.2.2.2.2<_
      omega
  · rw [q1m]
    show uq (e.1.2.1++e.1.2.2.1++(e.2++ [p7h e.1.2.2.2.2 e.1.2.2.2.1]))
    rw [←List.append_assoc]
    refine o00.mpr ⟨h.uq,p2v,fun x hx y hy=> ?_⟩
    rw [List.mem_singleton] at hy; subst hy
    have:=hbel x hx
    show x.1≠e.1.2.2.2.2
    omega
theorem q5t {α β:Type} (f:α→β) (l:List α) (k:Nat) (a:α) (h:k<l.length) (ha:f a=f l[k]):(l.set k a).map f=l.map f:=by
  apply List.ext_getElem (by simp)
  intro i h1 h2
  simp only [List.getElem_map,List.getElem_set]
  split
  · rename_i e; subst e; exact ha
  · rfl
theorem q3v {α:Type} {l:List α} {k:Nat} {a x:α} (h:x∈l.set k a):x∈l∨x=a:=List.mem_or_eq_of_mem_set h
theorem q6e {e:u1p} (h:EngR e) {k:Nat} (hk:k<e.2.length) {t:u0f} (ht:TxnR t) (h1:t.1=e.2[k].1) (h2:t.2.1=1) (h3:t.2.2.1=e.2[k].2.2.1):EngR (r78 e k t):=by
  have hm:u3a (e.2.set k t)=u3a e.2:=q5t _ _ _ _ hk h1
  have hid:u3a (e.1.2.1++e.1.2.2.1++e.2.set k t)=u3a (e.1.2.1++e.1.2.2.1++e.2):=by
    have:∀a b:List u0f,u3a (a++b)=u3a a++u3a b:=fun a b=>by simp [u3a]
    rw [this,hm,←this]
  refine ⟨h.base,by show (e.2.set k t).length≤4; rw [List.length_set]; exact h.olen,fun x hx=> ?_,?_,?_,?_⟩
  · rcases q3v hx with hx | rfl
    · exact h.open_ x hx
    · have:=(h.open_ _ (List.getElem_mem hk)).2.2
      exact ⟨ht,h2,by rw [h3]; exact this⟩
  · have q:(u3a (e.2.set k t)).Pairwise fun a b=>a<b:=by
      rw [hm]; unfold u3a; rw [List.pairwise_map]; exact h.oasc
    unfold u3a at q
    rw [List.pairwise_map] at q
    exact q
  · show ∀x∈u3a (e.1.2.1++e.1.2.2.1++e.2.set k t),x<e.1.2.2.2.2
    rw [hid]; exact h.below
  · show (u3a (e.1.2.1++e.1.2.2.1++e.2.set k t)).Nodup
    rw [hid]; exact h.nodup
theorem p13 {e:u1p} (h:EngR e) (id:Int):EngR (t2i e id):=
  r4l h (t3r h.base _) (u5i e id) (Int.le_refl _) (Int.le_refl _) fun x hx y hy=>h.apart x (t6p hx) y ((u5i e id).subset hy)
theorem p52 {e:u1p} (h:EngR e):EngR (u25 e.1 e.2,e.2):=
  r4l h (t3r h.base _) (List.Sublist.refl _) (Int.le_refl _) (Int.le_refl _) fun x hx y hy=>h.apart x (t6p hx) y hy
theorem q3l {b:u0i} (h:r1r b=false):b.2.1.length<12∧b.1.length≤100∧b.2.2.2.1<9999:=by
  unfold r1r at h
  simp only [Bool.or_eq_false_iff,decide_eq_false_iff_not] at h
  obtain ⟨h1,h2,h3⟩:=h
  exact ⟨by omega,by omega,by omega⟩
theorem s0s {e:u1p} (h:EngR e) {t:u0f} (ht:t∈e.2∨t∈e.1.2.2.1) (hf:r1r e.1=false):BaseR (u1b e.1 t):=by
  obtain ⟨f1,f2,f3⟩:=q3l hf
  have hq:TxnR t∧t.2.2.1≤e.1.2.2.2.1:=by
    rcases ht with ht | ht
    · exact ⟨(h.open_ t ht).1,(h.open_ t ht).2.2⟩
    · exact ⟨(h.base.ready t ht).1,(h.base.ready t ht).2.2⟩
  have hlt:t.1<e.1.2.2.2.2:=by
    rcases ht with ht | ht
    · exact h.bel t (List.mem_append_right _ ht)
    · exact h.bel t (List.mem_append_left _ (List.mem_append_right _ ht))
  refine q6h h.base hq.1 hq.2 f3 f1 (by omega) (fun x hx=> ?_) (by have:=h.base.next.2; omega)
  rcases ht with ht | ht
  · exact h.apart x (List.mem_append_left _ hx) t ht
  · exact (o00.mp (o00.mp h.uq).1).2.2 x hx t ht
theorem s95 {b:u0i} {t x:u0f} (h:x∈(u1b b t).2.1++(u1b b t).2.2.1):x.1=t.1∨ ∃y∈b.2.1++b.2.2.1,y.1=x.1:=by
  rcases List.mem_append.mp h with h | h
  · rcases List.mem_append.mp h with h | h
    · exact .inr ⟨x,List.mem_append_left _ h,rfl⟩
    · rw [List.mem_singleton] at h; subst h; exact .inl rfl
  · obtain ⟨y,hy,rfl⟩:=List.mem_map.mp h
    exact .inr ⟨y,List.mem_append_right _ (List.mem_filter.mp hy).1,rfl⟩
theorem q8k {e:u1p} (h:EngR e) {t:u0f} (ht:t∈e.2) (hf:r1r e.1=false):EngR (r6h e t):=by
  have hg:=u83 e.1.2.2.2.2 t.1
  refine r4l h (t3r (s0s h (.inl ht) hf) _) (u5i e t.1) (by show e.1.2.2.2.1≤e.1.2.2.2.1+1; omega) hg.1 fun x hx y hy=> ?_
  rcases s95 (t6p hx) with q | ⟨z,hz,q⟩
  · rw [q]; exact (r75 hy).symm
  · rw [←q]; exact h.apart z hz y ((u5i e t.1).subset hy)
theorem p9g {e:u1p} (h:EngR e) {t:u0f} (ht:t∈e.1.2.2.1) (hf:r1r e.1=false):EngR (p9f e t):=by
  have hg:=u83 e.1.2.2.2.2 t.1
  refine r4l h (t3r (s0s h (.inr ht) hf) _) (List.Sublist.refl _) (by show e.1.2.2.2.1≤e.1.2.2.2.1+1; omega) hg.1 fun x hx y hy=> ?_
  rcases s95 (t6p hx) with q | ⟨z,hz,q⟩
  · rw [q]; exact h.apart t (List.mem_append_right _ ht) y hy
  · rw [←q]; exact h.apart z hz y hy
theorem o1i {e:u1p} (h:EngR e) (n:ByteArray):EngR (noE e n):=by
  refine r4l h (t3r (r7m h.base n) _) (List.Sublist.refl _) (Int.le_refl _) (Int.le_refl _) fun x hx y hy=> ?_
  rcases List.mem_append.mp (t6p hx) with hx | hx
  · exact h.apart x (List.mem_append_left _ hx) y hy
  · exact h.apart x (List.mem_append_right _ (List.mem_filter.mp hx).1) y hy
theorem p7n {e:u1p} (h:EngR e) {t:u0f} (ht:t∈e.2) {n:ByteArray} (hk:u4d n=true) (hl:e.1.2.2.1.length<3) (hn:∀x∈e.1.2.2.1,x.2.2.2.2.2.2.2≠n):EngR (p2f e t n):=by
  obtain ⟨q1,q2,q3⟩:=h.open_ t ht
  have hlt:=h.bel t (List.mem_append_right _ ht)
  have hg:=u83 e.1.2.2.2.2 t.1
  have hb:BaseR (u1i e.1 t n):=s1r h.base q1 (by omega) q3 hk hl hn (fun x hx=>h.apart x hx t ht) (by have:=h.base.next.2; omega)
  refine r4l h (t3r hb _) (u5i e t.1) (Int.le_refl _) hg.1 fun x hx y hy=> ?_
  have hy' :=(u5i e t.1).subset hy
  rcases List.mem_append.mp (t6p hx) with hx | hx
  · exact h.apart x (List.mem_append_left _ hx) y hy'
  · rcases List.mem_append.mp hx with hx | hx
    · rcases List.mem_append.mp hx with hx | hx
      · exact h.apart x (List.mem_append_right _ (List.mem_filter.mp hx).1) y hy'
      · rw [List.mem_singleton] at hx; subst hx; exact (r75 hy).symm
    · exact h.apart x (List.mem_append_right _ (List.mem_filter.mp hx).1) y hy'
end
section
def t7u (n:Nat):List Int:=if h:n<128 then [(n:Int)] else ((n % 128+128:Nat):Int)::t7u (n / 128)
termination_by n
decreasing_by omega
theorem s6n {n:Nat} (h:n<128):t7u n= [(n:Int)] :=by rw [t7u,dif_pos h]
theorem r3m {n:Nat} (h: ¬n<128):t7u n=((n % 128+128:Nat):Int)::t7u (n / 128):=by rw [t7u,dif_neg h]
theorem p4q (n:Nat):(t7u n).length≤n+1:=by
  induction n using Nat.strongRecOn with
  | _ n ih=>
    by_cases h:n<128
    · rw [s6n h]; simp
    · rw [r3m h]
      have:=ih (n / 128) (by omega)
      simp only [List.length_cons]; omega
theorem p4r {S:Type} {W:Int × List Int→Option ((Int × List Int) ⊕ S)}
    (hW:∀x,W x=(bif (decide (x.1 >(127:Int))) then (bif (Nat.ble (x.2.length+([(IntKind.u8.wrap (IntKind.i64.wrap ((Int.tmod x.1 (128:Int))+(128:Int))))] :List Int).length) z7w) then
      (W ((IntKind.i64.wrap (Int.tdiv x.1 (128:Int))),(x.2++([(IntKind.u8.wrap (IntKind.i64.wrap ((Int.tmod x.1 (128:Int))+(128:Int))))] :List Int)))) else none) else (some (.inl x)))):
    ∀(n:Nat) (acc:List Int),acc.length+n≤1000000000000→ ∃m:Nat,∃acc' :List Int,W ((n:Int),acc)=some (.inl ((m:Int),acc'))∧m<128∧acc' ++ [(m:Int)] =acc++t7u n∧acc'.length≤acc.length+n:=by
  intro n
  induction n using Nat.strongRecOn with
  | _ n ih=>
    intro acc hn
    rw [hW]
    by_cases h:n<128
    · have:decide ((n:Int) >(127:Int))=false:=by simp; omega
      simp only [this,cond_false]
      exact ⟨n,acc,rfl,h,by rw [s6n h],by omega⟩
    · have h1:decide ((n:Int) >(127:Int))=true:=by simp; omega
      have h2:Int.tmod (n:Int) (128:Int)=((n % 128:Nat):Int):=p2t n 128
      have h3:Int.tdiv (n:Int) (128:Int)=((n / 128:Nat):Int):=p7p n 128
      have h4:IntKind.u8.wrap (IntKind.i64.wrap (((n % 128:Nat):Int)+(128:Int)))=((n % 128+128:Nat):Int):=by
        rw [y4y (by omega) (by omega)]
        have:((n % 128:Nat):Int)+128=((n % 128+128:Nat):Int):=by simp
        rw [this,p59 (by omega)]
      simp only [h1,h2,h3,h4,cond_true,List.length_singleton,u0r (show acc.length+1≤1099511627776 by omega)]
      rw [y8b (by omega)]
      obtain ⟨m,acc',e1,e2,e3,e4⟩:=ih (n / 128) (by omega) (acc++ [((n % 128+128:Nat):Int)]) (by simp; omega)
      refine ⟨m,acc',e1,e2,?_,?_⟩
      · rw [e3,r3m h,List.append_assoc]; rfl
      · have:(acc++ [((n % 128+128:Nat):Int)]).length=acc.length+1:=by simp
        omega
theorem r7p (n:Nat) (hn:n≤100000000000):u1a (n:Int)=some (y7g (t7u n)):=by
  rw [q3d]; unfold r05
  obtain ⟨m,acc',e1,e2,e3,e4⟩:=p4r (W:=t25) (fun x=>r8j x) n [] (by simp; omega)
  have e4:acc'.length≤n:=by simpa using e4
  simp only [e1,zOb,List.length_singleton,u0r (show acc'.length+1≤1099511627776 by omega),cond_true]
  rw [p59 (by omega),e3]; rfl
def s7f:Nat→Nat→Nat→List UInt8→Option (Nat × Nat)
  | 0,_,_,_=>none
  | _+1,_,_, [] =>none
  | f+1,i,n,b::l=>
    if b.toNat<128 then (if n+b.toNat % 128*128^i≤1000000000∧(t7u (n+b.toNat % 128*128^i)).length=i+1 then some (n+b.toNat % 128*128^i,i+1) else none)
    else s7f f (i+1) (n+b.toNat % 128*128^i) l
def r8h (at_:Int) (r:Option (Nat × Nat)):Int × Int × Bool:=match r with
  | some (n,k)=>((n:Int),at_+(k:Int),true)
  | none=>(0,0,false)
def u0q (t:ByteArray) (at_:Int):Int × Int × Bool:=if 0≤at_∧at_≤t.size then r8h at_ (s7f 5 0 0 (t.data.toList.drop at_.toNat)) else (0,0,false)
theorem q3x:∀(f i n:Nat) (l:List UInt8) (v k:Nat),s7f f i n l=some (v,k)→v≤1000000000∧k≤i+l.length∧i<k
  | 0,_,_,_,_,_,h=>by cases h
  | _+1,_,_, [],_,_,h=>by cases h
  | f+1,i,n,b::l,v,k,h=>by
    simp only [s7f] at h
    split at h
    · split at h
      · rename_i h2
        simp only [Option.some.injEq,Prod.mk.injEq] at h
        obtain ⟨rfl,rfl⟩:=h
        exact ⟨h2.1,by simp,by omega⟩
      · cases h
    · have:=q3x f (i+1) _ l v k h
      simp only [List.length_cons]
      omega
theorem t2m {t:ByteArray} {at_:Int} (h:(u0q t at_).2.2=true):0≤(u0q t at_).1∧(u0q t at_).1≤1000000000∧0≤at_∧at_<(u0q t at_).2.1∧(u0q t at_).2.1≤t.size:=by
  unfold u0q at h ⊢
  split at h
  · rename_i hc
    rw [if_pos hc]
    cases hv:s7f 5 0 0 (t.data.toList.drop at_.toNat) with
    | none=>rw [hv] at h; cases h
    | some r=>
      obtain ⟨v,k⟩:=r
      have:=q3x 5 0 0 _ v k hv
      have hl:(t.data.toList.drop at_.toNat).length=t.size - at_.toNat:=by simp
      simp only [r8h]
      omega
  · cases h
theorem p7l (i:Nat) (h:i≤5):128^i≤34359738368:=by
  rcases i with _ | _ | _ | _ | _ | _ | i
  all_goals first | decide | omega
def q1n:List UInt8→Nat
  | [] =>0
  | b::l=>b.toNat % 128+128*q1n l
theorem p2w (l:List UInt8) (b:UInt8):q1n (l++ [b])=q1n l+b.toNat % 128*128^l.length:=by
  induction l with
  | nil=>simp [q1n]
  | cons x l ih=>
    simp only [List.cons_append,q1n,ih,List.length_cons,Nat.pow_succ]
    rw [Nat.mul_add]
    have:128*(b.toNat % 128*128^l.length)=b.toNat % 128*(128^l.length*128):=by
      rw [Nat.mul_comm 128,Nat.mul_assoc]
    omega
theorem p57 (l:List UInt8) (b:UInt8) (hl:∀x∈l,¬x.toNat<128) (hb:b.toNat<128) (h:(t7u (q1n (l++ [b]))).length=l.length+1):t7u (q1n (l++ [b]))=(l++ [b]).map fun x=>(x.toNat:Int):=by
  induction l with
  | nil=>
    have:q1n ([] ++ [b])=b.toNat:=by simp [q1n]; omega
    rw [this,s6n hb]; rfl
  | cons x l ih=>
    have hx:x.toNat<256:=UInt8.toNat_lt x
    have hx2:=hl x (by simp)
    simp only [List.cons_append,q1n] at h ⊢
    by_cases hs:x.toNat % 128+128*q1n (l++ [b])<128
    · rw [s6n hs] at h
      simp at h
    · rw [r3m hs] at h ⊢
      have e1:(x.toNat % 128+128*q1n (l++ [b])) / 128=q1n (l++ [b]):=by omega
      have e2:(x.toNat % 128+128*q1n (l++ [b])) % 128+128=x.toNat:=by omega
      rw [e1] at h ⊢
      rw [e2]
      simp only [List.length_cons,Nat.add_right_cancel_iff] at h
      rw [ih (fun y hy=>hl y (by simp [hy])) h]
      rfl
theorem p4j (l:List UInt8):y7g (l.map fun x=>(x.toNat:Int))=⟨l.toArray⟩:=by
  unfold y7g
  simp only [List.map_map]
  have:(l.map ((fun n=>UInt8.ofNat n.toNat) ∘fun b=>(b.toNat:Int)))=l:=by
    conv=>rhs; rw [←List.map_id l]
    apply List.map_congr_left
    intro b _
    simp
  rw [this]
theorem r4h (t:ByteArray) (a b:Nat) (h:b≤t.size):t.extract a b=⟨((t.data.toList.drop a).take (b - a)).toArray⟩:=by
  apply ByteArray.ext
  simp only [ByteArray.data_extract]
  apply Array.ext'
  simp [List.extract_eq_take_drop]
theorem p7b {q:Nat} (h:q≤1000000000):decide ((q:Int) >(1000000000:Int))=false:=by simp; omega
theorem p68 {q:Nat} (h: ¬q≤1000000000):decide ((q:Int) >(1000000000:Int))=true:=by simp; omega
theorem r3q (t:ByteArray) (at_:Int) (ht:t.size≤u0l):t41 (t,at_)=some (u0q t at_):=by
  unfold u0l at ht
  rw [r9j]; unfold s72 u0q
  simp only [t4u,q3m,zOb]
  by_cases h:0≤at_∧at_≤t.size
  · obtain ⟨p,rfl⟩:∃p:Nat,at_=p:=⟨at_.toNat,by omega⟩
    have hp:p≤t.size:=by omega
    rw [decide_eq_true h,if_pos h]
    have L:∀(f i:Nat),i+f=5→p+i≤t.size→(∀x∈(t.data.toList.drop p).take i,¬x.toNat<128)→q1n ((t.data.toList.drop p).take i)<128^i→
        ((t1w (t,(p:Int),((q1n ((t.data.toList.drop p).take i):Nat):Int),((128^i:Nat):Int),((p+i:Nat):Int))).bind fun r=>match r with
        | .inl o=>some ((0:Int),(0:Int),false)
        | .inr z=>some z)=some (r8h p (s7f f i (q1n ((t.data.toList.drop p).take i)) (t.data.toList.drop (p+i)))):=by
      intro f
      induction f with
      | zero=>
        intro i hi hpi hall hn
        have:i=5:=by omega
        subst this
        rw [s32]; simp only [t1l]
        have e1:decide (((p+5:Nat):Int)<IntKind.i64.wrap ((p:Int)+5))=false:=by rw [y4y (by omega) (by omega)]; simp
        rw [e1]
        cases decide (((p+5:Nat):Int)<(t.size:Int))<;>rfl
      | succ f ih=>
        intro i hi hpi hall hn
        have hi5:i<5:=by omega
        have hpw:=p7l i (by omega)
        rw [s32]; simp only [t1l]
        have e1:decide (((p+i:Nat):Int)<IntKind.i64.wrap ((p:Int)+5))=true:=by rw [y4y (by omega) (by omega)]; simp; omega
        by_cases hlt:p+i<t.size
        · have hd:t.data.toList.drop (p+i)=(t.data.toList[p+i]'(by simpa using hlt))::t.data.toList.drop (p+i+1):=List.drop_eq_getElem_cons (by simpa using hlt)
          have hb:(t.data.toList[p+i]'(by simpa using hlt)).toNat<256:=UInt8.toNat_lt _
          have htk:(t.data.toList.drop p).take (i+1)=(t.data.toList.drop p).take i++ [t.data.toList[p+i]'(by simpa using hlt)] :=by
            rw [List.take_succ_eq_append_getElem (by simp; omega)]
            simp
          have htl:((t.data.toList.drop p).take i).length=i:=by simp; omega
          have hvs:=p2w ((t.data.toList.drop p).take i) (t.data.toList[p+i]'(by simpa using hlt))
          rw [htl] at hvs
          rw [hd]
          generalize hc:(t.data.toList[p+i]'(by simpa using hlt))=c at hb htk hvs
          generalize hn' :q1n ((t.data.toList.drop p).take i)=n at hn hvs ⊢
          have e2:decide (((p+i:Nat):Int)<(t.size:Int))=true:=by simp; omega
          have t2:Int.tmod ((c.toNat:Nat):Int) (128:Int)=((c.toNat % 128:Nat):Int):=p2t _ 128
          have hm:c.toNat % 128*128^i≤127*34359738368:=Nat.mul_le_mul (by omega) hpw
          have w2:IntKind.i64.wrap (((c.toNat % 128:Nat):Int)*((128^i:Nat):Int))=((c.toNat % 128*128^i:Nat):Int):=by
            rw [←Int.natCast_mul]; exact y8b (by omega)
          have w3:IntKind.i64.wrap ((n:Int)+((c.toNat % 128*128^i:Nat):Int))=((n+c.toNat % 128*128^i:Nat):Int):=by
            rw [←Int.natCast_add]; exact y8b (by omega)
          have wp:IntKind.i64.wrap (((p+i:Nat):Int)+1)=((p+i+1:Nat):Int):=y7l (by omega)
          have ws:IntKind.i64.wrap (((128^i:Nat):Int)*128)=((128^(i+1):Nat):Int):=by
            rw [Nat.pow_succ,Int.natCast_mul]
            exact y4y (by omega) (by omega)
          simp only [e1,e2,cond_true,zOb,y7t hlt,zTn,p3h hlt,hc,y8b (show c.toNat≤4611686018427387904 by omega),t2,w2,w3,wp,ws,s7f]
          by_cases hc1:c.toNat<128
          · have e4:decide (((c.toNat:Nat):Int)<(128:Int))=true:=by simp; omega
            simp only [e4,cond_true,if_pos hc1]
            by_cases hv:n+c.toNat % 128*128^i≤1000000000
            · have e5:decide (((n+c.toNat % 128*128^i:Nat):Int) >(1000000000:Int))=false:=p7b hv
              have e6:(decide (0≤(p:Int)) && decide ((p:Int)≤((p+i+1:Nat):Int)) && decide (((p+i+1:Nat):Int)≤(t.size:Int)))=true:=by simp; omega
              simp only [e5,cond_false,r7p _ (show n+c.toNat % 128*128^i≤100000000000 by omega),zOb,e6,cond_true]
              have hx:t.extract p (p+i+1)=⟨((t.data.toList.drop p).take (i+1)).toArray⟩:=by
                rw [r4h t p (p+i+1) (by omega)]
                have:p+i+1 - p=i+1:=by omega
                rw [this]
              rw [hx]
              have hv' :n+c.toNat % 128*128^i=q1n ((t.data.toList.drop p).take i++ [c]):=hvs.symm
              by_cases hl:(t7u (n+c.toNat % 128*128^i)).length=i+1
              · rw [if_pos ⟨hv,hl⟩]
                have key:t7u (n+c.toNat % 128*128^i)=((t.data.toList.drop p).take (i+1)).map fun x=>(x.toNat:Int):=by
                  rw [hv',htk]
                  exact p57 _ c hall hc1 (by rw [←hv',hl,htl])
                rw [key,p4j,y6l]
                simp only [Bool.not_true,cond_false,zOb,r8h]
                simp [Int.add_assoc]
              · rw [if_neg (fun hh=>hl hh.2)]
                have hne:z7o (y7g (t7u (n+c.toNat % 128*128^i))) ⟨((t.data.toList.drop p).take (i+1)).toArray⟩=false:=by
                  rw [←Bool.not_eq_true,y7f]
                  intro hh
                  have:=congrArg ByteArray.size hh
                  rw [u4m] at this
                  apply hl
                  rw [this]
                  show ((t.data.toList.drop p).take (i+1)).toArray.size=_
                  simp; omega
                rw [hne]; rfl
            · have e5:decide (((n+c.toNat % 128*128^i:Nat):Int) >(1000000000:Int))=true:=p68 hv
              rw [if_neg (fun hh=>hv hh.1),e5]; rfl
          · have e4:decide (((c.toNat:Nat):Int)<(128:Int))=false:=by simp; omega
            simp only [e4,cond_false,if_neg hc1]
            have:=ih (i+1) (by omega) (by omega) (by
              rw [htk]
              intro x hx
              rcases List.mem_append.mp hx with hx | hx
              · exact hall x hx
              · simp at hx; rw [hx]; exact hc1) (by
              rw [htk,hvs]
              have:128^(i+1)=128^i*128:=Nat.pow_succ 128 i
              have h2:c.toNat % 128*128^i≤127*128^i:=Nat.mul_le_mul (by omega) (Nat.le_refl _)
              omega)
            rw [htk,hvs] at this
            exact this
        · have e2:decide (((p+i:Nat):Int)<(t.size:Int))=false:=by simp; omega
          have hd:t.data.toList.drop (p+i)= [] :=List.drop_eq_nil_of_le (by simp; omega)
          rw [hd]
          simp only [e2,zOb,cond_false,s7f]
          rfl
    exact L 5 0 rfl (by omega) (by simp) (by simp [q1n])
  · rw [decide_eq_false h,if_neg h]; rfl
end
section
def u0p (t:ByteArray) (at_:Int):ByteArray × Int × Bool:=
  if (u0q t at_).2.2=true∧(u0q t at_).1≤20000∧(u0q t at_).1≤(t.size:Int) - (u0q t at_).2.1 then
    (t.extract (u0q t at_).2.1.toNat ((u0q t at_).2.1+(u0q t at_).1).toNat,(u0q t at_).2.1+(u0q t at_).1,true)
  else (emp,0,false)
theorem s6f {t:ByteArray} {at_:Int} (h:(u0p t at_).2.2=true):0≤(u0p t at_).2.1∧(u0p t at_).2.1≤t.size:=by
  unfold u0p at h ⊢
  split at h
  · rename_i hc
    rw [if_pos hc]
    have:=t2m hc.1
    simp only
    omega
  · cases h
theorem p0h (t:ByteArray) (at_:Int) (ht:t.size≤u0l):
    (((bif (!(u0q t at_).2.2) then (some true) else (bif (decide ((u0q t at_).1 >(20000:Int))) then (some true) else (some (decide ((u0q t at_).1 >(IntKind.i64.wrap ((t.size:Int) - (u0q t at_).2.1))))))):Option Bool).bind fun j2=>
      (bif j2 then (some ((⟨#[]⟩:ByteArray),((0:Int),false))) else (bif (decide (0≤(u0q t at_).2.1) && decide ((u0q t at_).2.1≤(IntKind.i64.wrap ((u0q t at_).2.1+(u0q t at_).1))) && decide ((IntKind.i64.wrap ((u0q t at_).2.1+(u0q t at_).1))≤(t.size:Int))) then
        (some ((t.extract ((u0q t at_).2.1).toNat ((IntKind.i64.wrap ((u0q t at_).2.1+(u0q t at_).1))).toNat),((IntKind.i64.wrap ((u0q t at_).2.1+(u0q t at_).1)),true))) else none)))=some (u0p t at_):=by
  unfold u0l at ht
  unfold u0p
  cases ho:(u0q t at_).2.2 with
  | false=>rfl
  | true=>
    have hk:=t2m ho
    rw [y4y (n:=(t.size:Int) - (u0q t at_).2.1) (by omega) (by omega),y4y (n:=(u0q t at_).2.1+(u0q t at_).1) (by omega) (by omega)]
    by_cases h1:(u0q t at_).1 >20000
    · rw [if_neg (by omega),decide_eq_true h1]; rfl
    · rw [decide_eq_false h1]
      by_cases h2:(u0q t at_).1 >(t.size:Int) - (u0q t at_).2.1
      · rw [if_neg (by omega),decide_eq_true h2]; rfl
      · rw [if_pos ⟨rfl,by omega,by omega⟩,decide_eq_false h2]
        simp only [Bool.not_true,cond_false,zOb]
        rw [decide_eq_true (show 0≤(u0q t at_).2.1 by omega),decide_eq_true (show (u0q t at_).2.1≤(u0q t at_).2.1+(u0q t at_).1 by omega),decide_eq_true (show (u0q t at_).2.1+(u0q t at_).1≤(t.size:Int) by omega)]
        rfl
theorem s7j (t:ByteArray) (at_:Int) (ht:t.size≤u0l):t16 (t,at_)=some (u0p t at_):=by
  rw [r5f]; unfold s2k
  simp only [r3q t at_ ht,zOb]
  exact p0h t at_ ht
def r41 (t:ByteArray):Int:=((t.data.toList.getD 0 0).toNat:Int)
theorem q2g (t:ByteArray):0≤r41 t∧r41 t<256:=by
  unfold r41
  have:(t.data.toList.getD 0 0).toNat<256:=UInt8.toNat_lt _
  omega
def u3m (d:u0j) (s:Int):Int:=r41 (u0h d s).1
theorem p0b {d:u0j} {s:Int} (h:(u0h d s).2=false):(u0h d s).1=emp:=by
  unfold u0h at h ⊢
  split at h
  · cases h
  · rename_i hc; rw [if_neg hc]
theorem q9y (r:ByteArray × Bool) (h:r.2=false→r.1=emp):
    (((bif (!r.2) then (some true) else (some (z7o r.1 (⟨#[]⟩:ByteArray)))):Option Bool).bind fun j2=>(bif j2 then (some (0:Int)) else (bif (y4p (0:Int) r.1.size) then (some (IntKind.i64.wrap ((r.1.data.toList.getD ((0:Int)).toNat 0).toNat:Int))) else none)))=some (r41 r.1):=by
  obtain ⟨t,o⟩:=r
  cases o with
  | false=>
    have:t=emp:=h rfl
    subst this; rfl
  | true=>
    simp only [Bool.not_true,cond_false,zOb]
    by_cases he:t=emp
    · subst he
      have:z7o emp (⟨#[]⟩:ByteArray)=true:=y6l emp
      simp only [this,cond_true]; rfl
    · have h1:z7o t (⟨#[]⟩:ByteArray)=false:=by
        rw [←Bool.not_eq_true,y7f]; exact he
      have h2:t.size≠0:=by
        intro hz
        apply he
        apply ByteArray.ext
        apply Array.eq_empty_of_size_eq_zero
        exact hz
      have h3:y4p (0:Int) t.size=true:=by simp [y4p]; omega
      have hb:(t.data.toList.getD 0 0).toNat<256:=UInt8.toNat_lt _
      simp only [h1,cond_false,h3,cond_true,Int.toNat_zero]
      rw [y8b (by omega)]; rfl
theorem s5t (d:u0j) (s:Int) (hd:o1b.wt d≤u0l):t01 (d,s)=some (u3m d s):=by
  rw [r9x]; unfold s8h
  simp only [t6r d s hd,zOb]
  exact q9y _ (fun h=>p0b h)
def u0u (d:u0j):Int:=Int.tmod (u3m d 0) 2
theorem t2a (d:u0j):u0u d=0∨u0u d=1:=by
  have:=q2g (u0h d 0).1
  unfold u0u u3m
  have e:=Int.tmod_eq_emod_of_nonneg (b:=2) this.1
  rw [e]; omega
theorem s1f (d:u0j) (hd:o1b.wt d≤u0l):u85 d=some (u0u d):=by
  rw [r6v]; unfold s4z
  simp only [s5t d 0 hd,zOb]; rfl
def q91 (a:Int):Bool:=decide (a=0) || decide (a=1)
def u0e (a:Int):Int:=if q91 a then 1+a*48 else 0
theorem p3p {a:Int} :q91 a=true↔a=0∨a=1:=by simp [q91]
theorem t74 (a:Int):0≤u0e a∧u0e a≤49:=by
  unfold u0e
  split
  · rename_i h; have:=p3p.mp h; omega
  · omega
theorem s60 (a:Int):u0o (a,0,1)=some (q91 a):=by
  rw [t4u,q3m]
  congr 1
  rw [Bool.eq_iff_iff,p3p,decide_eq_true_iff]; omega
theorem t4c (a:Int):u4t a=some (u0e a):=by
  rw [r49]; unfold s2e u0e
  simp only [s60,zOb]
  cases h:q91 a with
  | false=>rfl
  | true=>
    have:=p3p.mp h
    simp only [Bool.not_true,cond_false,if_true]
    rw [y4y (n:=a*48) (by omega) (by omega),y4y (by omega) (by omega)]
def u03 (d:u0j) (a:Int):Int:=if q91 a then u3m d (u0e a) else 0
theorem r2v (d:u0j) (a:Int):0≤u03 d a∧u03 d a<256:=by
  unfold u03
  split
  · exact q2g _
  · omega
theorem t7y (d:u0j) (a:Int) (hd:o1b.wt d≤u0l):t0y (d,a)=some (u03 d a):=by
  rw [r9a]; unfold s7t u03
  simp only [s60,t4c,s5t d _ hd,zOb]
  cases q91 a<;>rfl
def u42 (t:ByteArray):Nat→Int→List ByteArray→List ByteArray × Int × Bool
  | 0,at_,acc=>(acc,at_,true)
  | m+1,at_,acc=>if (u0p t at_).2.2 && !z7o (u0p t at_).1 emp then u42 t m (u0p t at_).2.1 (acc++ [(u0p t at_).1]) else ([],0,false)
def u0c (d:u0j) (a:Int):List ByteArray × Int × Bool:=
  if q91 a && (u88 d (u0e a+1) 47).2 then u42 (u88 d (u0e a+1) 47).1 (u03 d a).toNat 0 [] else ([],0,false)
theorem q1i (d:u0j) (from_:Int):∀(m i:Nat) (acc:ByteArray),(r3i d from_ m i acc).1.size≤acc.size+m*o1b.wt d
  | 0,i,acc=>by simp [r3i]
  | m+1,i,acc=>by
    unfold r3i
    split
    · have h1:=q1i d from_ m (i+1) (acc++(u0h d (from_+(i:Int))).1)
      have h2:=r4o d (from_+(i:Int))
      rw [ByteArray.size_append] at h1
      have:(m+1)*o1b.wt d=m*o1b.wt d+o1b.wt d:=Nat.succ_mul _ _
      omega
    · show 0≤_; omega
theorem r4r (d:u0j) (from_ n:Int):(u88 d from_ n).1.size≤100*o1b.wt d:=by
  unfold u88
  split
  · have h:=q1i d from_ n.toNat 0 emp
    have h2:emp.size=0:=rfl
    have h3:n.toNat*o1b.wt d≤100*o1b.wt d:=Nat.mul_le_mul (by omega) (Nat.le_refl _)
    omega
  · show 0≤_; omega
theorem s1j (d:u0j) (a:Int) (hd:o1b.wt d≤1073741824):u5z (d,a)=some (u0c d a):=by
  have hb:o1b.wt d≤u0l:=by unfold u0l; omega
  have hf:=t74 a
  have hz:(u88 d (u0e a+1) 47).1.size≤u0l:=by have:=r4r d (u0e a+1) 47; unfold u0l; omega
  have hc:=r2v d a
  rw [r62]; unfold s46 u0c
  simp only [s60,t4c,zOb]
  rw [y4y (n:=u0e a+1) (by omega) (by omega)]
  simp only [r56 d (u0e a+1) 47 hd (by omega) (by omega),zOb]
  generalize u88 d (u0e a+1) 47=s at hz
  cases hs:s.2 with
  | false=>cases q91 a<;>rfl
  | true=>
    cases ha:q91 a with
    | false=>rfl
    | true=>
      have L:=s7b (fun x=>(u8a x).bind fun r=>match r with
          | .inl o=>some (o.1,o.2,true)
          | .inr z=>some z) (u03 d a).toNat (fun (p:List ByteArray × Int) i=>(a,d, [],s.1,p.1,p.2,i)) (fun i p=>u42 s.1 ((u03 d a).toNat - i) p.2 p.1) (fun i p=>p.1.length≤i)
        (fun p _=>by
          rw [t8v]; simp only [u75,t7y d a hb,zOb]
          rw [decide_eq_false (by omega)]
          simp only [cond_false,zOb,Nat.sub_self,u42])
        (fun i p hi hp=>by
          have e:(u03 d a).toNat - i=((u03 d a).toNat - (i+1))+1:=by omega
          rw [t8v]; simp only [u75,t7y d a hb,zOb]
          rw [decide_eq_true (by omega),e]
          simp only [cond_true,s7j s.1 p.2 hz,zOb,u42,p41]
          cases hr:(u0p s.1 p.2).2.2 with
          | false=>left; rfl
          | true=>
            cases hq:z7o (u0p s.1 p.2).1 emp with
            | true=>left; rfl
            | false=>
              right
              refine ⟨(p.1++ [(u0p s.1 p.2).1],(u0p s.1 p.2).2.1),by simp; omega,by simp,?_⟩
              simp only [Bool.not_true,cond_false,zOb,List.length_singleton,u0r (show p.1.length+1≤1099511627776 by omega),cond_true]
              rw [y7l (by omega)]) 0 ([],0) (by omega) (by simp)
      simp only [Bool.not_true,cond_false,zOb,Bool.and_self,if_true]
      exact L
def u0k (d:u0j):List ByteArray:=(u0c d (u0u d)).1
theorem q0x (t:ByteArray):∀(m:Nat) (at_:Int) (acc:List ByteArray),(u42 t m at_ acc).1.length≤acc.length+m
  | 0,at_,acc=>by simp [u42]
  | m+1,at_,acc=>by
    unfold u42
    split
    · have:=q0x t m (u0p t at_).2.1 (acc++ [(u0p t at_).1])
      simp at this; omega
    · simp
theorem q57 (d:u0j) (a:Int):(u0c d a).1.length<256:=by
  unfold u0c
  split
  · have h:=q0x (u88 d (u0e a+1) 47).1 (u03 d a).toNat 0 []
    have:=r2v d a
    simp at h; omega
  · simp
end
section
def u1h (d:u0j):Bool:=decide (1≤d.1.length∧d.1.length≤100) && decide (d.2.length≤60) && d.1.all (fun s=>decide (s.size=64)) && d.2.all (fun p=>s80 p.1 0 ((d.1.length:Int) - 1) && decide (p.2.size=64))
theorem p1m {α:Type} (l:List α) (p:α→Bool):l.any (fun x=> !p x)= !l.all p:=by
  induction l with
  | nil=>rfl
  | cons x l ih=>simp only [List.any_cons,List.all_cons,ih,Bool.not_and]
theorem s1h (d:u0j) (hd:o1b.wt d≤u0l):t0a d=some (u1h d):=by
  have h1:d.1.length≤u0l:=Nat.le_trans t9w hd
  have h2:d.2.length≤u0l:=Nat.le_trans s5p hd
  unfold u0l at h1 h2
  have L1:=s9q t20 d.1 (fun i=>(d,i)) (fun s=> !decide (s.size=64)) (.inr false) (.inl d)
    (by rw [s6t]; simp only [t2u,u0b,Nat.lt_irrefl,decide_false,cond_false])
    (fun i hi=>by
      rw [s6t]; simp only [t2u,u0b,hi,decide_true,cond_true,y7t hi,zTn,y8k (t:=Ty.str) hi]
      rw [y7l (by omega)]
      have:decide (((d.1[i]).size:Int)=(64:Int))=decide ((d.1[i]).size=64):=by simp only [decide_eq_decide]; omega
      rw [this])
  have L2:=s9q t21 d.2 (fun i=>(d,i)) (fun p=> !(s80 p.1 0 ((d.1.length:Int) - 1) && decide (p.2.size=64))) (.inr false) (.inl ())
    (by rw [s6u]; simp only [t2v,u0b,Nat.lt_irrefl,decide_false,cond_false])
    (fun i hi=>by
      rw [s6u]; simp only [t2v,u0b,hi,decide_true,cond_true,y7t hi,zTn,y8k (t:=p25) hi,t4u,zOb]
      rw [y7l (by omega),y4y (n:=(d.1.length:Int) - 1) (by omega) (by omega)]
      have:decide (((d.2[i]).2.size:Int)=(64:Int))=decide ((d.2[i]).2.size=64):=by simp only [decide_eq_decide]; omega
      rw [this]
      cases s80 (d.2[i]).1 0 ((d.1.length:Int) - 1)<;>rfl)
  rw [q20]; unfold r0s u1h
  simp only [t4u,q3m (a:=(d.1.length:Int)),L1,zOb]
  have e1:decide ((1:Int)≤(d.1.length:Int)∧(d.1.length:Int)≤100)=decide (1≤d.1.length∧d.1.length≤100):=by simp only [decide_eq_decide]; omega
  have e2:decide ((d.2.length:Int) >60)= !decide (d.2.length≤60):=by
    rw [←decide_not,decide_eq_decide]; omega
  rw [e1,e2,p1m]
  cases decide (1≤d.1.length∧d.1.length≤100) with
  | false=>rfl
  | true=>
    cases decide (d.2.length≤60) with
    | false=>rfl
    | true=>
      cases d.1.all (fun s=>decide (s.size=64)) with
      | false=>rfl
      | true=>
        simp only [Bool.not_true,cond_false,zOb,L2,p1m]
        cases d.2.all _<;>rfl
def u26 (d:u0j):Bool:=u1h d && decide (d.1.length=97) && decide (d.2.length=0) && (u0c d 0).2.2 && (u0c d 1).2.2
theorem q0s (d:u0j) (hd:o1b.wt d≤1073741824):t8i d=some (u26 d):=by
  have hb:o1b.wt d≤u0l:=by unfold u0l; omega
  rw [q48]; unfold r34 u26
  have hs:u53 ()=some 97:=by rw [t9y]; rfl
  simp only [s1h d hb,hs,s1j d _ hd,zOb]
  have e1:decide ((d.1.length:Int)=97)=decide (d.1.length=97):=by rw [decide_eq_decide]; omega
  have e2:decide ((d.2.length:Int) >0)= !decide (d.2.length=0):=by rw [←decide_not,decide_eq_decide]; omega
  rw [e1,e2]
  cases u1h d<;>cases decide (d.1.length=97)<;>cases decide (d.2.length=0)<;>cases (u0c d 0).2.2<;>cases (u0c d 1).2.2<;>rfl
end
section
theorem p5m (d:u0j):o1b.wt d=(d.1.length+(d.1.map ByteArray.size).sum)+(d.2.length+(d.2.map fun p=>0+p.2.size).sum):=rfl
theorem q1j {α:Type} {l:List α} {f:α→Nat} {k:Nat} (h:∀x∈l,f x≤k):(l.map f).sum≤l.length*k:=by
  induction l with
  | nil=>simp
  | cons x l ih=>
    have h1:=h x (List.mem_cons_self ..)
    have h2:=ih (fun y hy=>h y (List.mem_cons_of_mem _ hy))
    simp only [List.map_cons,List.sum_cons,List.length_cons,Nat.succ_mul]
    omega
theorem q03 {d:u0j} :u1h d=true↔(1≤d.1.length∧d.1.length≤100)∧d.2.length≤60∧(∀s∈d.1,s.size=64)∧ ∀p∈d.2,(0≤p.1∧p.1<(d.1.length:Int))∧p.2.size=64:=by
  unfold u1h
  simp only [Bool.and_eq_true,decide_eq_true_eq,List.all_eq_true,s80,and_assoc]
  constructor
  · rintro ⟨a,b,c,e,f⟩
    exact ⟨a,b,c,e,fun p hp=>by obtain ⟨x,y,z⟩:=f p hp; exact ⟨x,by omega,z⟩⟩
  · rintro ⟨a,b,c,e,f⟩
    exact ⟨a,b,c,e,fun p hp=>by obtain ⟨x,y,z⟩:=f p hp; exact ⟨x,by omega,z⟩⟩
theorem t27 {d:u0j} (h:u1h d=true):o1b.wt d≤11000:=by
  obtain ⟨h1,h2,h3,h4⟩:=q03.mp h
  have a1:=q1j (l:=d.1) (f:=ByteArray.size) (k:=64) (fun s hs=>by rw [h3 s hs]; exact Nat.le_refl _)
  have a2:=q1j (l:=d.2) (f:=fun p=>0+p.2.size) (k:=64) (fun p hp=>by rw [(h4 p hp).2]; exact Nat.le_refl _)
  rw [p5m]
  omega
theorem u9d (d:u0j) (hd:o1b.wt d≤u0l):u0x d=some d:=by
  have h1:d.1.length≤u0l:=Nat.le_trans t9w hd
  have h2:d.2.length≤u0l:=Nat.le_trans s5p hd
  unfold u0l at h1 h2
  rw [r9v]; unfold s8f
  have a1:Nat.ble (([] :List ByteArray).length+d.1.length) z7w=true:=u0r (by simp; omega)
  have a2:Nat.ble (([] :List p0x.den).length+d.2.length) z7w=true:=u0r (by simp; omega)
  simp only [a1,a2,cond_true,List.nil_append]
def u5k (d:u0j) (k:Int) (t:ByteArray):Option u0j:=if u1h (d.1,d.2++ [(k,t)]) then some (d.1,d.2++ [(k,t)]) else none
def orD (d:u0j):Option u0j→u0j × Bool
  | some x=>(x,true)
  | none=>(d,false)
theorem s9t (d:u0j) (k:Int) (t:ByteArray):u1h (d.1,d.2++ [(k,t)])=(u1h d && (s80 k 0 ((d.1.length:Int) - 1) && (decide (t.size=64) && !decide (60≤d.2.length)))):=by
  rw [Bool.eq_iff_iff]
  simp only [Bool.and_eq_true,Bool.not_eq_true',decide_eq_true_eq,decide_eq_false_iff_not]
  rw [q03,q03]
  simp only [List.length_append,List.length_singleton,List.mem_append,List.mem_singleton,s80,Bool.and_eq_true,decide_eq_true_eq]
  constructor
  · rintro ⟨a,b,c,e⟩
    have:=e (k,t) (.inr rfl)
    exact ⟨⟨a,by omega,c,fun p hp=>e p (.inl hp)⟩,⟨this.1.1,by have:=this.1.2; omega⟩,this.2,by omega⟩
  · rintro ⟨⟨a,b,c,e⟩,⟨f1,f2⟩,g,h⟩
    refine ⟨a,by omega,c,fun p hp=> ?_⟩
    rcases hp with hp | rfl
    · exact e p hp
    · exact ⟨⟨f1,by show k<(d.1.length:Int); omega⟩,g⟩
theorem r4z (d:u0j) (k:Int) (t:ByteArray) (hd:o1b.wt d≤1073741824) (ht:t.size≤1073741824):u8g (d,k,t)=some (orD d (u5k d k t)):=by
  have h2:d.2.length≤1073741824:=Nat.le_trans s5p hd
  have h1:d.1.length≤1073741824:=Nat.le_trans t9w hd
  have a:Nat.ble (d.2.length+([(k,t)] :List p0x.den).length) z7w=true:=u0r (by simp; omega)
  have w:IntKind.i64.wrap ((d.1.length:Int) - 1)=(d.1.length:Int) - 1:=y4y (by omega) (by omega)
  have e1:decide ((t.size:Int)=(64:Int))=decide (t.size=64):=by simp only [decide_eq_decide]; omega
  have e2:decide ((d.2.length:Int)≥(60:Int))=decide (60≤d.2.length):=by simp only [decide_eq_decide]; omega
  rw [r1n]; unfold t72
  simp only [u9d d (by unfold u0l; omega),s1h d (by unfold u0l; omega),zOb,a,cond_true,t4u,w,e1,e2]
  unfold u5k
  rw [s9t]
  cases u1h d<;>cases s80 k 0 ((d.1.length:Int) - 1)<;>cases decide (t.size=64)<;>cases decide (60≤d.2.length)<;>rfl
def q39:Nat→u0j→Nat→Nat→ByteArray→Option u0j
  | 0,d,_,_,_=>some d
  | f+1,d,k,at_,t=>if t.size=0 then some d else
    if (u0h d (k:Int)).2=true∧(u0h d (k:Int)).1.size=64 then
      (u5k d (k:Int) ((u0h d (k:Int)).1.extract 0 at_++t.extract 0 (min t.size (64 - at_))++(u0h d (k:Int)).1.extract (at_+min t.size (64 - at_)) 64)).bind fun x=>
        q39 f x (k+1) 0 (t.extract (min t.size (64 - at_)) t.size)
    else none
theorem q3z (f:Nat) (d:u0j) (k at_:Nat) {t:ByteArray} (h:t.size=0):q39 f d k at_ t=some d:=by
  cases f with
  | zero=>rfl
  | succ f=>rw [q39,if_pos h]
theorem t4a {d x:u0j} {k:Int} {t:ByteArray} (h:u5k d k t=some x):u1h x=true∧x=(d.1,d.2++ [(k,t)]):=by
  unfold u5k at h
  split at h
  · rename_i hk; cases h; exact ⟨hk,rfl⟩
  · cases h
theorem r4s {t:ByteArray} :z7o t ⟨#[]⟩=decide (t.size=0):=by
  rw [Bool.eq_iff_iff,y7f,decide_eq_true_eq]
  constructor
  · rintro rfl; rfl
  · intro h
    have:t.data= #[] :=by apply Array.eq_empty_of_size_eq_zero; exact h
    cases t; simp at this; rw [this]
theorem p2z (d0 jk:u0j) (sec at_:Nat) (t:ByteArray) (hsec:sec≤2000000000) (hat:at_≤6400) (ht:t.size≤1048576) (h0:o1b.wt d0≤1073741824):∀(f i:Nat) (out:u0j),i≤t.size→t.size - i<f→o1b.wt out≤1073741824→
    u3g ((sec:Int),(at_:Int),t,d0,jk,out,(i:Int))=some (match q39 f out (sec+(at_+i) / 64) ((at_+i) % 64) (t.extract i t.size) with
      | some x=> .inl (jk,x)
      | none=> .inr (d0,false))
  | 0,i,out,_,h,_=>by omega
  | f+1,i,out,hi,hf,ho=>by
    have hsz:(t.extract i t.size).size=t.size - i:=by simp only [ByteArray.size_extract]; omega
    have w0:IntKind.i64.wrap ((at_:Int)+(i:Int))=((at_+i:Nat):Int):=by rw [y4y (by omega) (by omega)]; omega
    have t1:Int.tdiv ((at_+i:Nat):Int) (64:Int)=(((at_+i) / 64:Nat):Int):=p7p (at_+i) 64
    have t2:Int.tmod ((at_+i:Nat):Int) (64:Int)=(((at_+i) % 64:Nat):Int):=p2t (at_+i) 64
    obtain ⟨q,hq⟩:∃q,q=(at_+i) / 64:=⟨_,rfl⟩
    obtain ⟨m,hm⟩:∃m,m=(at_+i) % 64:=⟨_,rfl⟩
    have w1:IntKind.i64.wrap ((q:Int))=(q:Int):=y4y (by omega) (by omega)
    have w2:IntKind.i64.wrap ((sec:Int)+(q:Int))=((sec+q:Nat):Int):=by rw [y4y (by omega) (by omega)]; omega
    have w3:IntKind.i64.wrap ((64:Int) - (m:Int))=((64 - m:Nat):Int):=by rw [y4y (by omega) (by omega)]; omega
    have w4:IntKind.i64.wrap ((t.size:Int) - (i:Int))=((t.size - i:Nat):Int):=by rw [y4y (by omega) (by omega)]; omega
    rw [s98]
    simp only [t18,w0,t1,t2,←hq,←hm,w1,w2,w3,w4,t6r out ((sec+q:Nat):Int) (by unfold u0l; omega),u9d d0 (by unfold u0l; omega),zOb,u0b]
    rw [q39,hsz]
    by_cases hz:i<t.size
    · have hz' : ¬t.size - i=0:=by omega
      simp only [hz,decide_true,cond_true,hz',if_false]
      generalize u0h out ((sec+q:Nat):Int)=r
      obtain ⟨old,rok⟩:=r
      cases rok with
      | false=>simp
      | true=>
        have e64:decide ((old.size:Int)=(64:Int))=decide (old.size=64):=by simp only [decide_eq_decide]; omega
        simp only [Bool.not_true,cond_false,zOb,e64]
        by_cases hs:old.size=64
        · obtain ⟨n,hn⟩:∃n,n=min (t.size - i) (64 - m):=⟨_,rfl⟩
          have z0:((0:Int)).toNat=0:=rfl
          have hm64:m<64:=by omega
          have body:∀N:Nat,N=n→IntKind.i64.wrap ((i:Int)+(N:Int))=((i+n:Nat):Int)∧IntKind.i64.wrap ((m:Int)+(N:Int))=((m+n:Nat):Int):=fun N hN=>by
            subst hN
            exact ⟨by rw [y4y (by omega) (by omega)]; omega,by rw [y4y (by omega) (by omega)]; omega⟩
          have c1:(decide ((0:Int)≤0) && decide ((0:Int)≤(m:Int)) && decide ((m:Int)≤((64:Nat):Int)))=true:=by simp; omega
          have c2:(decide ((0:Int)≤(i:Int)) && decide ((i:Int)≤((i+n:Nat):Int)) && decide (((i+n:Nat):Int)≤(t.size:Int)))=true:=by simp; omega
          have c3:decide ((old.extract 0 m).size+(t.extract i (i+n)).size≤140737488355328)=true:=by simp only [ByteArray.size_extract,decide_eq_true_eq]; omega
          have c4:(decide ((0:Int)≤((m+n:Nat):Int)) && decide (((m+n:Nat):Int)≤((64:Nat):Int)) && decide (((64:Nat):Int)≤((64:Nat):Int)))=true:=by simp; omega
          have c5:decide ((old.extract 0 m++t.extract i (i+n)).size+(old.extract (m+n) 64).size≤140737488355328)=true:=by simp only [ByteArray.size_append,ByteArray.size_extract,decide_eq_true_eq]; omega
          have hx1:(t.extract i t.size).extract 0 n=t.extract i (i+n):=by
            rw [ByteArray.extract_extract]; congr 1; omega
          have hx2:(t.extract i t.size).extract n (t.size - i)=t.extract (i+n) t.size:=by
            rw [ByteArray.extract_extract]; congr 1; omega
          have hw:=r4z out ((sec+q:Nat):Int) (old.extract 0 m++t.extract i (i+n)++old.extract (m+n) 64) ho (by simp only [ByteArray.size_append,ByteArray.size_extract]; omega)
          have ih:∀x:u0j,u1h x=true→u3g ((sec:Int),(at_:Int),t,d0,jk,x,((i+n:Nat):Int))=some (match q39 f x (sec+q+1) 0 (t.extract (i+n) t.size) with
              | some x=> .inl (jk,x)
              | none=> .inr (d0,false)):=fun x hx=>by
            have:=p2z d0 jk sec at_ t hsec hat ht h0 f (i+n) x (by omega) (by omega) (Nat.le_trans (t27 hx) (by omega))
            rw [this]
            by_cases he:i+n=t.size
            · have hsz2:(t.extract (i+n) t.size).size=0:=by simp only [ByteArray.size_extract]; omega
              rw [q3z _ _ _ _ hsz2,q3z _ _ _ _ hsz2]
            · have hn2:n=64 - m:=by omega
              have e1:sec+(at_+(i+n)) / 64=sec+q+1:=by omega
              have e2:(at_+(i+n)) % 64=0:=by omega
              rw [e1,e2]
          rw [←hn,hx1,hx2]
          simp only [hs,decide_true,Bool.not_true,cond_false,and_self,if_true]
          by_cases hb:t.size - i<64 - m
          · obtain ⟨b1,b2⟩:=body (t.size - i) (by omega)
            simp only [hb,decide_true,cond_true,b1,b2,zTn,z0,c3,c5]
            rw [c1,c2,c4]
            simp only [cond_true,hw,zOb]
            cases hx:u5k out ((sec+q:Nat):Int) (old.extract 0 m++t.extract i (i+n)++old.extract (m+n) 64) with
            | none=>simp [orD]
            | some x=>
              simp only [orD,Bool.not_true,cond_false,zOb]
              exact ih x (t4a hx).1
          · obtain ⟨b1,b2⟩:=body (64 - m) (by omega)
            simp only [hb,decide_false,cond_false,b1,b2,zTn,z0,c3,c5]
            rw [c1,c2,c4]
            simp only [cond_true,hw,zOb]
            cases hx:u5k out ((sec+q:Nat):Int) (old.extract 0 m++t.extract i (i+n)++old.extract (m+n) 64) with
            | none=>simp [orD]
            | some x=>
              simp only [orD,Bool.not_true,cond_false,zOb]
              exact ih x (t4a hx).1
        · simp [hs]
    · have hz' :t.size - i=0:=by omega
      simp only [hz,decide_false,cond_false,hz',if_true]
def u4h (d:u0j) (sector at_:Int) (t:ByteArray):Option u0j:=
  if s80 at_ 0 6400 && s80 sector 0 ((d.1.length:Int) - 1) && u1h d then q39 (t.size+1) d (sector.toNat+at_.toNat / 64) (at_.toNat % 64) t else none
theorem t6s (d:u0j) (sector at_:Int) (t:ByteArray) (hd:o1b.wt d≤1073741824) (ht:t.size≤1048576):u52 (d,sector,at_,t)=some (orD d (u4h d sector at_ t)):=by
  have h1:d.1.length≤1073741824:=Nat.le_trans t9w hd
  have w:IntKind.i64.wrap ((d.1.length:Int) - 1)=(d.1.length:Int) - 1:=y4y (by omega) (by omega)
  rw [r25]; unfold t9t u4h
  simp only [u9d d (by unfold u0l; omega),s1h d (by unfold u0l; omega),zOb,t4u,w]
  cases ha:s80 at_ 0 6400 with
  | false=>rfl
  | true=>
    cases hs:s80 sector 0 ((d.1.length:Int) - 1) with
    | false=>rfl
    | true=>
      cases hk:u1h d with
      | false=>rfl
      | true=>
        simp only [s80,Bool.and_eq_true,decide_eq_true_eq] at ha hs
        obtain ⟨s,rfl⟩:∃s:Nat,sector=(s:Int):=⟨sector.toNat,by omega⟩
        obtain ⟨a,rfl⟩:∃a:Nat,at_=(a:Int):=⟨at_.toNat,by omega⟩
        have L:=p2z d ([], []) s a t (by omega) (by omega) ht hd (t.size+1) 0 d (by omega) (by omega) hd
        have L:u3g ((s:Int),(a:Int),t,d,([], []),d,0)=_:=L
        have e:t.extract 0 t.size=t:=ByteArray.extract_zero_size
        simp only [Bool.not_true,cond_false,zOb,L,Bool.and_self,if_true,zTn,Nat.add_zero,e]
        cases q39 (t.size+1) d (s+a / 64) (a % 64) t<;>rfl
end
section
def t7k (s:List ByteArray) (p:Int × ByteArray):List ByteArray:=s.set p.1.toNat p.2
def flush (d:u0j):u0j:=if u1h d then (d.2.foldl t7k d.1, []) else d
theorem r3j (s:List ByteArray) (p:Int × ByteArray):(t7k s p).length=s.length:=by simp [t7k]
theorem s9v:∀(c:List (Int × ByteArray)) (s:List ByteArray),(c.foldl t7k s).length=s.length
  | [],s=>rfl
  | p::c,s=>by rw [List.foldl_cons,s9v c,r3j]
theorem q05:∀(c:List (Int × ByteArray)) (s:List ByteArray),(∀p∈c,p.2.size=64)→(∀x∈s,x.size=64)→ ∀x∈c.foldl t7k s,x.size=64
  | [],s,_,h=>h
  | p::c,s,hc,h=>by
    rw [List.foldl_cons]
    refine q05 c _ (fun q hq=>hc q (List.mem_cons_of_mem _ hq)) (fun x hx=> ?_)
    rcases List.mem_or_eq_of_mem_set hx with hx | rfl
    · exact h x hx
    · exact hc p (List.mem_cons_self ..)
theorem t4t {d:u0j} (h:u1h d=true):u1h (flush d)=true∧(flush d).2= [] ∧(flush d).1.length=d.1.length:=by
  unfold flush
  rw [if_pos h]
  obtain ⟨h1,h2,h3,h4⟩:=q03.mp h
  refine ⟨q03.mpr ⟨by rw [s9v]; exact h1,by simp,q05 _ _ (fun p hp=>(h4 p hp).2) h3,fun p hp=>by cases hp⟩,rfl,s9v _ _⟩
theorem t4d (d:u0j) (hd:o1b.wt d≤1073741824):u4u d=some (flush d):=by
  have h1:d.1.length≤1073741824:=Nat.le_trans t9w hd
  have h2:d.2.length≤1073741824:=Nat.le_trans s5p hd
  rw [r5b]; unfold s2g flush
  simp only [u9d d (by unfold u0l; omega),s1h d (by unfold u0l; omega),zOb]
  cases hk:u1h d with
  | false=>rfl
  | true=>
    obtain ⟨k1,k2,k3,k4⟩:=q03.mp hk
    have L:=t5b u79 d.2 (fun s i=>(d,([], []),(s,d.2),i)) t7k (fun s=> .inl (([], []),(s,d.2))) (fun _ s=>s.length=d.1.length)
      (fun s _=>by rw [t8t]; simp only [u73,u0b,Nat.lt_irrefl,decide_false,cond_false])
      (fun i hi s hs=>by
        refine ⟨by rw [r3j]; exact hs,?_⟩
        have hp:=(k4 d.2[i] (List.getElem_mem hi)).1
        have hg:y4p (d.2[i]).1 s.length=true:=by simp [y4p,hs,hp.1,hp.2]
        rw [t8t]; simp only [u73,u0b,hi,decide_true,cond_true,y7t hi,zTn,y8k (t:=p25) hi,hg]
        rw [y7l (by omega)]
        rfl) d.1 rfl
    simp only [Bool.not_true,cond_false,L,zOb,if_true]
def q7l (keep:List Int) (i:Nat):Bool:=decide (i<keep.length) && !decide (Int.tmod (rdL (Ty.int .i64) keep i) 2=0)
def r1u (keep:List Int):Nat→Int
  | 0=> -1
  | n+1=>if q7l keep n then (n:Int) else r1u keep n
def t7m (tear:Int):Nat:=(if Int.tmod tear 65<0 then Int.tmod tear 65+65 else Int.tmod tear 65).toNat
def r1i (d:u0j) (keep:List Int) (last:Int) (n:Nat) (s:List ByteArray) (i:Nat):List ByteArray:=
  if q7l keep i then
    (if (i:Int)=last then t7k s ((rdL p25 d.2 i).1,(rdL p25 d.2 i).2.extract 0 n++(rdL Ty.str s (rdL p25 d.2 i).1.toNat).extract n (rdL Ty.str s (rdL p25 d.2 i).1.toNat).size)
     else t7k s (rdL p25 d.2 i))
  else s
def t7w (d:u0j) (keep:List Int) (tear:Int):u0j:=
  if u1h d then ((List.range d.2.length).foldl (r1i d keep (r1u keep d.2.length) (t7m tear)) d.1, []) else d
theorem p4m (tear:Int):t7m tear≤64∧((t7m tear:Nat):Int)=(if Int.tmod tear 65<0 then Int.tmod tear 65+65 else Int.tmod tear 65):=by
  have h1:Int.tmod tear 65<65:=Int.tmod_lt_of_pos _ (by omega)
  have h2: -65<Int.tmod tear 65:=by
    have:=Int.lt_tmod_of_pos tear (show (0:Int)<65 by omega)
    exact this
  unfold t7m
  split<;>omega
section
variable {d:u0j} (hk:u1h d=true) (keep:List Int)
include hk in
include hk in
include hk
end
end
section
theorem r6b (t:ByteArray):∀(m:Nat) (at_:Int) (acc:List ByteArray),0≤at_∧at_≤t.size→0≤(u42 t m at_ acc).2.1∧(u42 t m at_ acc).2.1≤t.size
  | 0,at_,acc,h=>h
  | m+1,at_,acc,h=>by
    unfold u42
    split
    · rename_i hc
      simp only [Bool.and_eq_true] at hc
      exact r6b t m _ _ (s6f hc.1)
    · simp
theorem s93 (d:u0j) (a:Int):0≤(u0c d a).2.1∧(u0c d a).2.1≤(100*o1b.wt d:Nat):=by
  unfold u0c
  split
  · have h1:=r6b (u88 d (u0e a+1) 47).1 (u03 d a).toNat 0 [] (by simp)
    have h2:=r4r d (u0e a+1) 47
    omega
  · simp only [Int.le_refl,true_and]
    omega
def u0s (t:ByteArray):ByteArray:=y7g (t7u t.size)++t
theorem s6j (t:ByteArray):t.size≤(u0s t).size∧(u0s t).size≤2*t.size+1:=by
  unfold u0s
  rw [ByteArray.size_append,u4m]
  have:=p4q t.size
  omega
def t26 (d:u0j) (a:Int) (t:ByteArray):Option u0j:=
  if (u0c d a).2.2=false∨t.size=0∨3008<t.size∨255≤u03 d a∨3008<(u0c d a).2.1+((u0s t).size:Int) then none
  else u4h d (u0e a+1) (u0c d a).2.1 (u0s t)
theorem q7m (d:u0j) (a:Int) (t:ByteArray) (hd:o1b.wt d≤10000000) (ht:t.size≤1048576):t7i (d,a,t)=some (orD d (t26 d a t)):=by
  have hr:=s93 d a
  have hs:=s6j t
  have ha:=t74 a
  rw [r7b]; unfold s5g t26
  simp only [s1j d a (by omega),u9d d (by unfold u0l; omega),t7y d a (by unfold u0l; omega),r7p t.size (by omega),t4c,zOb,r4s]
  have e1:decide ((t.size:Int) >(3008:Int))=decide (3008<t.size):=by simp only [decide_eq_decide]; omega
  have w1:IntKind.i64.wrap ((3008:Int) - (u0c d a).2.1)=3008 - (u0c d a).2.1:=y4y (by omega) (by omega)
  have w2:IntKind.i64.wrap (u0e a+1)=u0e a+1:=y4y (by omega) (by omega)
  rw [e1]
  cases h1:(u0c d a).2.2 with
  | false=>simp [orD]
  | true=>
    by_cases h2:t.size=0
    · simp [h2,orD]
    · by_cases h3:3008<t.size
      · simp [h2,h3,orD]
      · by_cases h4:255≤u03 d a
        · have:decide (u03 d a≥255)=true:=by simpa using h4
          simp [h2,h3,h4,orD]
        · have e4:decide (u03 d a≥255)=false:=by simp; omega
          have c:decide ((y7g (t7u t.size)).size+t.size≤140737488355328)=true:=by
            have h5:(u0s t).size=(y7g (t7u t.size)).size+t.size:=by unfold u0s; rw [ByteArray.size_append]
            simp; omega
          simp only [h2,h3,decide_false,Bool.not_true,cond_false,zOb,e4,c,cond_true,w1,w2]
          have hsz:y7g (t7u t.size)++t=u0s t:=rfl
          rw [hsz]
          by_cases h6:3008<(u0c d a).2.1+((u0s t).size:Int)
          · have:decide (((u0s t).size:Int) >3008 - (u0c d a).2.1)=true:=by simp; omega
            simp [this,h6,orD]
          · have:decide (((u0s t).size:Int) >3008 - (u0c d a).2.1)=false:=by simp; omega
            simp only [this,cond_false,t6s d (u0e a+1) (u0c d a).2.1 (u0s t) (by omega) (by omega),zOb]
            rw [if_neg (by simp [h2,h3,h6]; omega)]
def t3w (n:Int):ByteArray:=y7g [IntKind.u8.wrap n]
theorem u2t (n:Int):(t3w n).size=1:=by unfold t3w; rw [u4m]; rfl
def s5o (d:u0j) (a n:Int):Option u0j:=u4h d (u0e a) 0 (t3w n)
theorem r7q (d:u0j) (a n:Int) (hd:o1b.wt d≤1073741824):t3l (d,a,n)=some (orD d (s5o d a n)):=by
  rw [r7c]; unfold s5h
  have h1:t3m n=some (t3w n):=by rw [r1o]; rfl
  simp only [t4c,h1,zOb,t6s d (u0e a) 0 (t3w n) hd (by rw [u2t]; omega)]
  rfl
theorem p2y:∀ {f:Nat} {d x:u0j} {k at_:Nat} {t:ByteArray},q39 f d k at_ t=some x→(u1h d=true→u1h x=true)∧x.1=d.1∧(t.size≠0→0<f→u1h x=true)
  | 0,d,x,k,at_,t,h=>by cases h; exact ⟨id,rfl,fun _ h=>by omega⟩
  | f+1,d,x,k,at_,t,h=>by
    rw [q39] at h
    split at h
    · rename_i hz
      cases h; exact ⟨id,rfl,fun hne=>absurd hz hne⟩
    · split at h
      · cases hw:u5k d (k:Int) ((u0h d (k:Int)).1.extract 0 at_++t.extract 0 (min t.size (64 - at_))++(u0h d (k:Int)).1.extract (at_+min t.size (64 - at_)) 64) with
        | none=>rw [hw] at h; cases h
        | some y=>
          rw [hw] at h
          simp only [zOb] at h
          obtain ⟨k1,k2⟩:=t4a hw
          obtain ⟨i1,i2,_⟩:=p2y h
          exact ⟨fun _=>i1 k1,by rw [i2,k2],fun _ _=>i1 k1⟩
      · cases h
theorem u47 {d x:u0j} {s at_:Int} {t:ByteArray} (h:u4h d s at_ t=some x):u1h d=true∧u1h x=true∧x.1=d.1:=by
  unfold u4h at h
  split at h
  · rename_i hc
    simp only [Bool.and_eq_true] at hc
    obtain ⟨i1,i2,_⟩:=p2y h
    exact ⟨hc.2,i1 hc.2,i2⟩
  · cases h
theorem s1n {d x:u0j} {a:Int} {t:ByteArray} (h:t26 d a t=some x):u1h d=true∧u1h x=true∧x.1=d.1∧(u0c d a).2.2=true:=by
  unfold t26 at h
  split at h
  · cases h
  · rename_i hc
    have:=u47 h
    simp only [not_or] at hc
    exact ⟨this.1,this.2.1,this.2.2,by simpa using hc.1⟩
theorem s9z {d:u0j} (hk:u1h d=true) (h2:d.2= []) {s:Int} (h0:0≤s) (h1:s<(d.1.length:Int)) {b:ByteArray} (hb:b.size=1):
    u4h d s 0 b=some (d.1, [(s,b++(rdL Ty.str d.1 s.toNat).extract 1 64)]):=by
  obtain ⟨k1,k2,k3,k4⟩:=q03.mp hk
  have hlt:s.toNat<d.1.length:=by omega
  have hold:(rdL Ty.str d.1 s.toNat).size=64:=by
    have e:rdL Ty.str d.1 s.toNat=d.1[s.toNat] :=y8k (t:=Ty.str) hlt
    rw [e]
    exact k3 _ (List.getElem_mem hlt)
  have hs:((s.toNat:Nat):Int)=s:=by omega
  have hrd:u0h d s=(rdL Ty.str d.1 s.toNat,true):=by
    unfold u0h
    rw [if_pos ⟨h0,h1⟩,h2]
    rfl
  have c:(s80 0 0 6400 && s80 s 0 ((d.1.length:Int) - 1) && u1h d)=true:=by
    rw [hk]
    simp [s80]
    omega
  have e1:(rdL Ty.str d.1 s.toNat).extract 0 0=ByteArray.empty:=by
    apply ByteArray.ext
    simp
  have e2:b.extract 0 1=b:=by rw [←hb]; exact ByteArray.extract_zero_size
  have hw:u5k d s (b++(rdL Ty.str d.1 s.toNat).extract 1 64)=some (d.1, [(s,b++(rdL Ty.str d.1 s.toNat).extract 1 64)]):=by
    unfold u5k
    rw [s9t,hk,h2]
    have:s80 s 0 ((d.1.length:Int) - 1)=true:=by simp [s80]; omega
    rw [this]
    have hz:(b++(rdL Ty.str d.1 s.toNat).extract 1 64).size=64:=by
      rw [ByteArray.size_append,ByteArray.size_extract,hb,hold]; omega
    simp [hz]
  unfold u4h
  rw [if_pos c]
  have z:(0:Int).toNat=0:=rfl
  simp only [z,Nat.zero_div,Nat.zero_mod,Nat.add_zero,hb]
  rw [q39,if_neg (by omega)]
  rw [hs,hrd]
  simp only [hold,and_self,if_true,hb]
  have m1:min 1 (64 - 0)=1:=by decide
  rw [m1,e1,e2]
  have e3:ByteArray.empty++b++(rdL Ty.str d.1 s.toNat).extract (0+1) 64=b++(rdL Ty.str d.1 s.toNat).extract 1 64:=by
    rw [ByteArray.empty_append]
  rw [e3,hw]
  simp only [zOb]
  exact q3z _ _ _ _ (by rw [ByteArray.size_extract,hb]; decide)
end
section
def s2q (d:u0j) (a:Int):Int:=IntKind.i64.wrap (u03 d a+1)
def q1b (d:u0j) (a:Int) (t:ByteArray):Option u0j:=(t26 d a t).map fun x=>flush (orD (flush x) (s5o (flush x) a (s2q d a))).1
theorem q9p {d x:u0j} {a:Int} {t:ByteArray} (h:t26 d a t=some x):q91 a=true:=by
  have:=(s1n h).2.2.2
  unfold u0c at this
  split at this
  · rename_i hc
    simp only [Bool.and_eq_true] at hc
    exact hc.1
  · cases this
theorem q2i {d x:u0j} {a n:Int} {t:ByteArray} (hlen:d.1.length=97) (h:t26 d a t=some x):∃y,s5o (flush x) a n=some y∧u1h y=true∧y.1.length=97:=by
  obtain ⟨h1,h2,h3,_⟩:=s1n h
  obtain ⟨f1,f2,f3⟩:=t4t h2
  have hl:(flush x).1.length=97:=by rw [f3,h3]; exact hlen
  have ha:=t74 a
  have ho:=s9z (s:=u0e a) f1 f2 (by omega) (by rw [hl]; omega) (u2t n)
  have:=u47 ho
  exact ⟨_,ho,this.2.1,by rw [this.2.2]; exact hl⟩
theorem u4j {d:u0j} (h:u26 d=true):u1h d=true∧d.1.length=97∧d.2= [] ∧(u0c d 0).2.2=true∧(u0c d 1).2.2=true:=by
  unfold u26 at h
  simp only [Bool.and_eq_true,decide_eq_true_eq] at h
  obtain ⟨⟨⟨⟨a,b⟩,c⟩,e⟩,f⟩:=h
  exact ⟨a,b,List.length_eq_zero_iff.mp c,e,f⟩
theorem q5q (d:u0j) (a:Int) (t:ByteArray) (hd:o1b.wt d≤10000000) (ht:t.size≤1048576) (hlen:d.1.length=97):t6l (d,a,t)=some (orD d (q1b d a t)):=by
  rw [q3e]; unfold r06 q1b
  simp only [q7m d a t hd ht,zOb]
  cases hb:t26 d a t with
  | none=>rfl
  | some x=>
    have hx:=t27 (s1n hb).2.1
    have hf:=t27 (t4t (s1n hb).2.1).1
    obtain ⟨y,hy,hy2,_⟩:=q2i (n:=s2q d a) hlen hb
    have hyw:=t27 hy2
    simp only [orD,Bool.not_true,cond_false,t4d x (by omega),t7y d a (by unfold u0l; omega),zOb,r7q (flush x) a _ (by omega)]
    have hc:IntKind.i64.wrap (u03 d a+1)=s2q d a:=rfl
    rw [hc,hy]
    simp only [orD,t4d y (by omega),zOb,Option.map_some,hy]
theorem r8t (d:u0j) (a:Int) (t:ByteArray) (hd:o1b.wt d≤10000000) (ht:t.size≤1048576):t5u (d,a,t)=some (orD d (if u26 d then q1b d a t else none)):=by
  rw [r5d]; unfold s2i
  simp only [q0s d (by omega),s60,u9d d (by unfold u0l; omega),zOb]
  cases hl:u26 d with
  | false=>simp [orD]
  | true=>
    cases ha:q91 a with
    | false=>
      have hn:q1b d a t=none:=by
        unfold q1b
        cases hb:t26 d a t with
        | none=>rfl
        | some x=>rw [q9p hb] at ha; cases ha
      simp [hn,orD]
    | true=>
      simp only [Bool.not_true,cond_false,zOb,q5q d a t hd ht (u4j hl).2.1,if_true]
      cases q1b d a t<;>simp [orD]
def append_ (d:u0j) (t:ByteArray):Option u0j:=if u26 d then q1b d (u0u d) t else none
theorem s7g (d:u0j) (t:ByteArray) (hd:o1b.wt d≤10000000) (ht:t.size≤1048576):t14 (d,t)=some (orD d (append_ d t)):=by
  rw [r48]; unfold s2d append_
  simp only [s1f d (by unfold u0l; omega),zOb,r8t d _ t hd ht]
theorem p2l {d y:u0j} {a:Int} {t:ByteArray} (hlen:d.1.length=97) (h:q1b d a t=some y):∃x,t26 d a t=some x∧u1h x=true∧u1h y=true∧y.2= [] ∧y.1.length=97∧y=flush (orD (flush x) (s5o (flush x) a (s2q d a))).1:=by
  unfold q1b at h
  cases hb:t26 d a t with
  | none=>rw [hb] at h; cases h
  | some x=>
    rw [hb] at h
    simp only [Option.map_some,Option.some.injEq] at h
    obtain ⟨z,hz,hz2,hz3⟩:=q2i (n:=s2q d a) hlen hb
    rw [hz] at h
    simp only [orD] at h
    obtain ⟨f1,f2,f3⟩:=t4t hz2
    rw [←h]
    exact ⟨x,rfl,(s1n hb).2.1,f1,f2,by rw [f3]; exact hz3,by rw [hz]; rfl⟩
section
variable {d:u0j} {t:ByteArray} (hd:o1b.wt d≤10000000) (ht:t.size≤1048576)
include hd ht
end
end
section
theorem s9m {d x:u0j} {k:Int} {s:ByteArray} (h:u5k d k s=some x) {j:Int} (hj:j≠k):u0h x j=u0h d j:=by
  have:=(t4a h).2
  subst this
  have hne: ¬k=j:=fun z=>hj z.symm
  unfold u0h
  simp only [s58,hne,if_false]
theorem s67:∀ {f:Nat} {d x:u0j} {k at_:Nat} {t:ByteArray},q39 f d k at_ t=some x→at_<64→ ∀j:Nat,¬(k≤j∧j*64<k*64+at_+t.size)→u0h x (j:Int)=u0h d (j:Int)
  | 0,d,x,k,at_,t,h,_,j,_=>by cases h; rfl
  | f+1,d,x,k,at_,t,h,hat,j,hj=>by
    rw [q39] at h
    split at h
    · cases h; rfl
    · rename_i hz
      split at h
      · cases hw:u5k d (k:Int) ((u0h d (k:Int)).1.extract 0 at_++t.extract 0 (min t.size (64 - at_))++(u0h d (k:Int)).1.extract (at_+min t.size (64 - at_)) 64) with
        | none=>rw [hw] at h; cases h
        | some y=>
          rw [hw] at h
          simp only [zOb] at h
          have hne:j≠k:=fun z=>hj ⟨by omega,by omega⟩
          rw [←s9m hw (j:=(j:Int)) (by omega)]
          refine s67 h (by omega) j (fun z=>hj ?_)
          rw [ByteArray.size_extract] at z
          omega
      · cases h
theorem p2q {s:List ByteArray} {p:Int × ByteArray} {j:Int} (hp:0≤p.1) (hj0:0≤j) (hj:j.toNat<s.length):rdL Ty.str (t7k s p) j.toNat=if p.1=j then p.2 else rdL Ty.str s j.toNat:=by
  have h' :j.toNat<(s.set p.1.toNat p.2).length:=by rw [List.length_set]; exact hj
  have e1:rdL Ty.str (s.set p.1.toNat p.2) j.toNat=(s.set p.1.toNat p.2)[j.toNat] :=y8k (t:=Ty.str) h'
  have e2:rdL Ty.str s j.toNat=s[j.toNat] :=y8k (t:=Ty.str) hj
  show rdL Ty.str (s.set p.1.toNat p.2) j.toNat=_
  rw [e1,e2,List.getElem_set]
  by_cases e:p.1=j
  · rw [if_pos (by rw [e]),if_pos e]
  · rw [if_neg (by omega),if_neg e]
theorem q06 {j:Int} (hj0:0≤j) (z:ByteArray):∀(c:List (Int × ByteArray)) (s:List ByteArray) (t:Option ByteArray),(∀p∈c,0≤p.1)→j.toNat<s.length→rdL Ty.str s j.toNat=t.getD z→
    rdL Ty.str (c.foldl t7k s) j.toNat=(c.foldl (fun t p=>if p.1=j then some p.2 else t) t).getD z
  | [],s,t,_,_,h=>h
  | p::c,s,t,hc,hl,h=>by
    rw [List.foldl_cons,List.foldl_cons]
    refine q06 hj0 z c _ _ (fun q hq=>hc q (List.mem_cons_of_mem _ hq)) (by rw [r3j]; exact hl) ?_
    rw [p2q (hc p (List.mem_cons_self ..)) hj0 hl]
    split
    · rfl
    · exact h
theorem u8y {d:u0j} (hk:u1h d=true) (j:Int):u0h (flush d) j=u0h d j:=by
  obtain ⟨_,f2,f3⟩:=t4t hk
  obtain ⟨k1,k2,k3,k4⟩:=q03.mp hk
  unfold u0h
  rw [f3]
  split
  · rename_i hj
    have e1:u82 (flush d).2 j=none:=by rw [f2]; rfl
    rw [e1]
    have e2:(flush d).1=d.2.foldl t7k d.1:=by unfold flush; rw [if_pos hk]
    rw [e2]
    have:=q06 hj.1 (rdL Ty.str d.1 j.toNat) d.2 d.1 none (fun p hp=>(k4 p hp).1.1) (by omega) rfl
    show (rdL Ty.str (d.2.foldl t7k d.1) j.toNat,true)=_
    rw [this]
    rfl
  · rfl
theorem r77 {d d' :u0j} {from_:Int} :∀(m i:Nat) (acc:ByteArray),(∀q:Nat,i≤q→q<i+m→u0h d' (from_+(q:Int))=u0h d (from_+(q:Int)))→r3i d' from_ m i acc=r3i d from_ m i acc
  | 0,i,acc,h=>rfl
  | m+1,i,acc,h=>by
    unfold r3i
    rw [h i (by omega) (by omega)]
    split
    · exact r77 m (i+1) _ (fun q h1 h2=>h q (by omega) (by omega))
    · rfl
theorem u7t {d d' :u0j} {o:Int} (h:∀q:Nat,q<48→u0h d' (u0e o+(q:Int))=u0h d (u0e o+(q:Int))):u0c d' o=u0c d o:=by
  have h1:u88 d' (u0e o+1) 47=u88 d (u0e o+1) 47:=by
    unfold u88
    rw [if_pos (by omega),if_pos (by omega)]
    refine r77 _ _ _ (fun q _ hq=> ?_)
    have:=h (q+1) (by simp at hq; omega)
    rw [show u0e o+1+(q:Int)=u0e o+((q+1:Nat):Int) by omega]
    exact this
  have h2:u03 d' o=u03 d o:=by
    unfold u03 u3m
    have:=h 0 (by omega)
    rw [show u0e o+((0:Nat):Int)=u0e o by omega] at this
    rw [this]
  unfold u0c
  rw [h1,h2]
def OnlyArea (a:Int) (d d' :u0j):Prop:= ∀j:Nat,¬(u0e a≤(j:Int)∧(j:Int)<u0e a+48)→u0h d' (j:Int)=u0h d (j:Int)
theorem OnlyArea.other {a o:Int} {d d' :u0j} (h:OnlyArea a d d') (ha:a=0∨a=1) (ho:o=1 - a):u0c d' o=u0c d o:=by
  refine u7t (fun q hq=> ?_)
  have hf:u0e o=1+o*48:=by unfold u0e; rw [if_pos (p3p.mpr (by omega))]
  have hfa:u0e a=1+a*48:=by unfold u0e; rw [if_pos (p3p.mpr ha)]
  obtain ⟨j,hj⟩:∃j:Nat,u0e o+(q:Int)=(j:Int):=⟨(u0e o+(q:Int)).toNat,by rcases ha with rfl | rfl<;>omega⟩
  rw [hj]
  exact h j (by rcases ha with rfl | rfl<;>omega)
theorem OnlyArea.trans {a:Int} {d d' e:u0j} (h1:OnlyArea a d d') (h2:OnlyArea a d' e):OnlyArea a d e:=fun j hj=>(h2 j hj).trans (h1 j hj)
theorem OnlyArea.flush {a:Int} {d d' :u0j} (h:OnlyArea a d d') (hk:u1h d' =true):OnlyArea a d (flush d'):=fun j hj=>(u8y hk _).trans (h j hj)
theorem s4e {d x:u0j} {s at_:Int} {t:ByteArray} (h:u4h d s at_ t=some x) {j:Nat} (hj: ¬(s≤(j:Int)∧(j:Int)*64<s*64+at_+(t.size:Int))):u0h x (j:Int)=u0h d (j:Int):=by
  unfold u4h at h
  split at h
  · rename_i hc
    simp only [Bool.and_eq_true,s80,decide_eq_true_eq] at hc
    refine s67 h (Nat.mod_lt _ (by omega)) j (fun z=>hj ?_)
    omega
  · cases h
theorem q9q {d x:u0j} {a:Int} {t:ByteArray} (h:t26 d a t=some x):OnlyArea a d x:=by
  have h0:=h
  unfold t26 at h
  split at h
  · cases h
  · rename_i hc
    simp only [not_or] at hc
    intro j hj
    refine s4e h (fun z=>hj ?_)
    omega
theorem q00 {d x:u0j} {a n:Int} (h:s5o d a n=some x):OnlyArea a d x:=by
  intro j hj
  refine s4e h (fun z=>hj ?_)
  rw [u2t] at z
  omega
theorem p36 {d y:u0j} {a:Int} {t:ByteArray} (hlen:d.1.length=97) (h:q1b d a t=some y):OnlyArea a d y:=by
  unfold q1b at h
  cases hb:t26 d a t with
  | none=>rw [hb] at h; cases h
  | some x=>
    rw [hb] at h
    simp only [Option.map_some,Option.some.injEq] at h
    obtain ⟨z,hz,hz2,hz3⟩:=q2i (n:=s2q d a) hlen hb
    rw [hz] at h
    subst h
    exact (((q9q hb).flush (s1n hb).2.1).trans (q00 hz)).flush hz2
structure Mid (o:Int) (x:u0j):Prop where
  ok:u1h x=true
  len:x.1.length=97
  nil:x.2= []
  other:(u0c x o).2.2=true
theorem Mid.put {a o:Int} {x y:u0j} {t:ByteArray} (h:Mid o x) (ha:a=0∨a=1) (ho:o=1 - a) (hp:q1b x a t=some y):Mid o y:=by
  obtain ⟨_,_,_,p1,p2,p3,_⟩:=p2l h.len hp
  exact ⟨p1,p3,p2,by rw [(p36 h.len hp).other ha ho]; exact h.other⟩
def s8y (a:Int):List ByteArray→u0j→Option u0j
  | [],x=>some x
  | t::l,x=>(q1b x a t).bind (s8y a l)
theorem q04 {a o:Int} (ha:a=0∨a=1) (ho:o=1 - a):∀ {l:List ByteArray} {x y:u0j},Mid o x→s8y a l x=some y→Mid o y
  | [],x,y,h,hy=>by cases hy; exact h
  | t::l,x,y,h,hy=>by
    unfold s8y at hy
    cases hp:q1b x a t with
    | none=>rw [hp] at hy; cases hy
    | some z=>
      rw [hp] at hy
      exact q04 ha ho (h.put ha ho hp) hy
theorem q5i {a o:Int} (ha:a=0∨a=1) (ho:o=1 - a) (jk:u0j) (list:List ByteArray) (hl:list.length≤1048576) (hs:∀t∈list,t.size≤1048576):∀(r i:Nat) (x:u0j),i+r=list.length→Mid o x→
    ∃q,u7h (list,jk,a,x,true,(i:Int))=some (.inl (jk,q))∧(match s8y a (list.drop i) x with
      | some y=>q=(y,true)
      | none=>q.2=false)
  | 0,i,x,hi,hm=>by
    have:i=list.length:=by omega
    subst this
    rw [t5z]
    simp only [u60,u0b,Nat.lt_irrefl,decide_false,cond_false,List.drop_length,s8y,zOb]
    exact ⟨_,rfl,rfl⟩
  | r+1,i,x,hi,hm=>by
    have h:i<list.length:=by omega
    have hw:=t27 hm.ok
    have hts:=hs list[i] (List.getElem_mem h)
    have hr:rdL Ty.str list i=list[i] :=y8k (t:=Ty.str) h
    rw [t5z,List.drop_eq_getElem_cons h]
    simp only [u60,u0b,h,decide_true,cond_true,y7t h,zTn,hr,q5q x a list[i] (by omega) hts hm.len,zOb,s8y]
    rw [y7l (by omega)]
    cases hp:q1b x a list[i] with
    | none=>
      simp only [orD,Option.bind_none]
      rw [t5z]
      simp only [u60,u0b]
      cases decide (i+1<list.length)<;>exact ⟨_,rfl,rfl⟩
    | some y=>
      simp only [orD,zOb]
      exact q5i ha ho jk list hl hs r (i+1) y (by omega) (hm.put ha ho hp)
end
section
def u31 (d:u0j):Int:=1 - u0u d
theorem t32 (d:u0j):(u31 d=0∨u31 d=1)∧u0u d=1 - u31 d:=by
  unfold u31
  have:=t2a d
  omega
def t90 (d:u0j):u0j:=flush (orD d (s5o d (u31 d) 0)).1
def s7d (d:u0j) (l:List ByteArray):Option u0j:=if u26 d then s8y (u31 d) l (t90 d) else none
def p0o (x:u0j):Option u0j:=u4h x 0 0 (t3w (IntKind.i64.wrap (u3m x 0+1)))
def s6l (d:u0j) (l:List ByteArray):Option u0j:=(s7d d l).map fun x=>flush (orD x (p0o x)).1
theorem q4u {d:u0j} (hl:u26 d=true) (a n:Int):∃z,s5o d a n=some z∧u1h z=true∧z.1.length=97:=by
  obtain ⟨h1,h2,h3,_⟩:=u4j hl
  have ha:=t74 a
  have ho:=s9z (s:=u0e a) h1 h3 (by omega) (by omega) (u2t n)
  have:=u47 ho
  exact ⟨_,ho,this.2.1,by rw [this.2.2]; exact h2⟩
theorem q5g {d:u0j} (hl:u26 d=true):Mid (u0u d) (t90 d):=by
  obtain ⟨z,hz,hz2,hz3⟩:=q4u hl (u31 d) 0
  obtain ⟨a1,a2⟩:=t32 d
  obtain ⟨h1,h2,h3,h4,h5⟩:=u4j hl
  obtain ⟨f1,f2,f3⟩:=t4t hz2
  have e:t90 d=flush z:=by unfold t90; rw [hz]; rfl
  have hr:(u0c d (u0u d)).2.2=true:=by
    rcases t2a d with h | h<;>rw [h] <;>assumption
  rw [e]
  exact ⟨f1,by rw [f3]; exact hz3,f2,by rw [((q00 hz).flush hz2).other a1 a2]; exact hr⟩
theorem p54 {x:u0j} {o:Int} (h:Mid o x):∃y,p0o x=some y∧u1h y=true:=by
  have ho:=s9z (s:=0) h.ok h.nil (by omega) (by rw [h.len]; omega) (u2t (IntKind.i64.wrap (u3m x 0+1)))
  exact ⟨_,ho,(u47 ho).2.1⟩
section
variable {d:u0j} {l:List ByteArray} (hd:o1b.wt d≤10000000) (hl:l.length≤1048576) (hs:∀t∈l,t.size≤1048576)
include hd hl hs
omit hd hl hs in
theorem p58:IntKind.i64.wrap ((1:Int) - u0u d)=u31 d:=by
  unfold u31
  have:=t2a d
  rw [y4y (by omega) (by omega)]
omit hd hl hs in
theorem p1v {x:u0j} (h:s7d d l=some x):u26 d=true∧Mid (u0u d) x:=by
  unfold s7d at h
  split at h
  · rename_i hlo
    obtain ⟨a1,a2⟩:=t32 d
    exact ⟨hlo,q04 a1 a2 (q5g hlo) h⟩
  · cases h
theorem q5p (hlo:u26 d=true):∃q,t9f (d,l)=some q∧(match s7d d l with
    | some y=>q=(y,true)
    | none=>q.2=false):=by
  obtain ⟨z,hz,hz2,hz3⟩:=q4u hlo (u31 d) 0
  have hzw:=t27 hz2
  obtain ⟨a1,a2⟩:=t32 d
  have e:flush z=t90 d:=by unfold t90; rw [hz]; rfl
  obtain ⟨q,L,hq⟩:=q5i a1 a2 ([], []) l hl hs l.length 0 (t90 d) (by omega) (q5g hlo)
  have L:u7h (l,([], []),u31 d,t90 d,true,0)=_:=L
  rw [List.drop_zero] at hq
  refine ⟨q,?_,by unfold s7d; rw [hlo,if_pos rfl]; exact hq⟩
  rw [r9y]; unfold s8i
  simp only [s1f d (by unfold u0l; omega),p58 (d:=d),r7q d _ _ (by omega),zOb,hz,orD,t4d z (by omega),e,L]
omit hd hl hs in
theorem q94 (x:u0j) (hx:o1b.wt x≤10000000):t9g x=some (orD x (p0o x)):=by
  rw [r9z]; unfold s8j
  have h1:∀n,t3m n=some (t3w n):=fun n=>by rw [r1o]; rfl
  simp only [s5t x 0 (by unfold u0l; omega),h1,zOb,t6s x 0 0 (t3w (IntKind.i64.wrap (u3m x 0+1))) (by omega) (by rw [u2t]; omega)]
  rfl
theorem r8v:t5v (d,l)=some (orD d (s6l d l)):=by
  rw [r5g]; unfold s2l s6l
  simp only [q0s d (by omega),u9d d (by unfold u0l; omega),zOb]
  cases hlo:u26 d with
  | false=>
    have:s7d d l=none:=by unfold s7d; rw [hlo]; rfl
    rw [this]
    rfl
  | true=>
    obtain ⟨q,hq,hq2⟩:=q5p hd hl hs hlo
    simp only [Bool.not_true,cond_false,hq,zOb]
    cases hf:s7d d l with
    | none=>
      rw [hf] at hq2
      simp only at hq2
      simp only [hq2,Bool.not_false,cond_true]
      rfl
    | some x=>
      rw [hf] at hq2
      simp only at hq2
      subst hq2
      obtain ⟨_,hm⟩:=p1v hf
      have hx:=t27 hm.ok
      obtain ⟨y,hy,hy2⟩:=p54 hm
      have hyw:=t27 hy2
      simp only [orD,Bool.not_true,cond_false,q94 x (by omega),hy,zOb,t4d y (by omega),Option.map_some]
def u8v (d:u0j) (l:List ByteArray) (step:Int) (keep:List Int) (tear:Int):u0j:=
  match s7d d l with
  | none=>d
  | some x=>
    if step=0 then t7w (orD d (s5o d (u31 d) 0)).1 keep tear
    else if step=1 then x
    else if step=2 then t7w (orD x (p0o x)).1 keep tear
    else flush (orD x (p0o x)).1
end
end
section
def s1p (s:ByteArray) (i:Nat):UInt8:=s.data.toList.getD i 0
theorem u6q (a b:ByteArray) (i:Nat):s1p (a++b) i=if i<a.size then s1p a i else s1p b (i - a.size):=by
  unfold s1p
  have hs:a.size=a.data.toList.length:=by simp only [Array.length_toList]; rfl
  rw [ByteArray.data_append,Array.toList_append,List.getD_eq_getElem?_getD,hs]
  split
  · rename_i h
    rw [List.getElem?_append_left h,List.getD_eq_getElem?_getD]
  · rename_i h
    rw [List.getElem?_append_right (Nat.le_of_not_lt h),List.getD_eq_getElem?_getD]
theorem u3n (a:ByteArray) (b e i:Nat):s1p (a.extract b e) i=if i<min e a.size - b then s1p a (b+i) else 0:=by
  unfold s1p
  have hd:(a.extract b e).data.toList=(a.data.toList.drop b).take (min e a.size - b):=by
    have hs:a.size=a.data.toList.length:=by simp only [Array.length_toList]; rfl
    rw [ByteArray.data_extract]
    rw [Array.toList_extract,List.extract_eq_take_drop]
    apply List.ext_getElem?
    intro n
    rw [List.getElem?_take,List.getElem?_take,List.getElem?_drop]
    split<;>split<;>first | rfl | skip
    · rename_i h1 h2
      rw [List.getElem?_eq_none (by omega)]
    · rename_i h1 h2
      rw [List.getElem?_eq_none (by omega)]
  rw [hd,List.getD_eq_getElem?_getD,List.getElem?_take]
  split
  · rw [List.getElem?_drop,List.getD_eq_getElem?_getD]
  · rfl
theorem r5q {a b:ByteArray} (hs:a.size=b.size) (h:∀i,i<a.size→s1p a i=s1p b i):a=b:=by
  have ha:a.size=a.data.toList.length:=by simp only [Array.length_toList]; rfl
  have hb:b.size=b.data.toList.length:=by simp only [Array.length_toList]; rfl
  have:a.data.toList=b.data.toList:=by
    apply List.ext_getElem (by omega)
    intro i h1 h2
    have:=h i (by omega)
    unfold s1p at this
    rw [List.getD_eq_getElem?_getD,List.getD_eq_getElem?_getD,List.getElem?_eq_getElem h1,List.getElem?_eq_getElem h2] at this
    exact this
  apply ByteArray.ext
  apply Array.ext'
  exact this
theorem q30 {d x:u0j} {k:Int} {s:ByteArray} (h:u5k d k s=some x):u0h x k=(s,true):=by
  obtain ⟨h1,h2⟩:=t4a h
  obtain ⟨_,_,_,h4⟩:=q03.mp h1
  subst h2
  have:=(h4 (k,s) (by simp)).1
  have hk:0≤k∧k<(d.1.length:Int):=this
  unfold u0h
  simp only [s58]
  rw [if_pos hk]
  simp
theorem q1o:∀ {f:Nat} {d x:u0j} {k at_:Nat} {t:ByteArray},q39 f d k at_ t=some x→t.size<f→at_<64→ ∀(j i:Nat),i<64→j<d.1.length→
    s1p (u0h x (j:Int)).1 i=if k*64+at_≤j*64+i∧j*64+i<k*64+at_+t.size then s1p t (j*64+i - (k*64+at_)) else s1p (u0h d (j:Int)).1 i
  | 0,d,x,k,at_,t,h,hf,_,j,i,_,_=>by omega
  | f+1,d,x,k,at_,t,h,hf,hat,j,i,hi,hj=>by
    rw [q39] at h
    split at h
    · rename_i hz
      cases h
      rw [if_neg (by omega)]
    · rename_i hz
      split at h
      · rename_i hrd
        cases hw:u5k d (k:Int) ((u0h d (k:Int)).1.extract 0 at_++t.extract 0 (min t.size (64 - at_))++(u0h d (k:Int)).1.extract (at_+min t.size (64 - at_)) 64) with
        | none=>rw [hw] at h; cases h
        | some y=>
          rw [hw] at h
          simp only [zOb] at h
          obtain ⟨n,hn⟩:∃n,n=min t.size (64 - at_):=⟨_,rfl⟩
          rw [←hn] at h hw
          have hyl:y.1.length=d.1.length:=by rw [(t4a hw).2]
          have hsz:(t.extract n t.size).size=t.size - n:=by rw [ByteArray.size_extract]; omega
          have ih:=q1o h (by omega) (by omega) j i hi (by omega)
          rw [ih,hsz]
          by_cases hjk:j=k
          · subst hjk
            rw [if_neg (by omega),q30 hw]
            simp only
            rw [u6q,u6q,u3n,u3n,u3n]
            simp only [ByteArray.size_append,ByteArray.size_extract,hrd.2]
            by_cases h1:i<at_
            · have e1:i<min at_ 64 - 0:=by omega
              rw [if_pos (by omega),if_pos e1,if_pos e1,if_neg (by omega),Nat.zero_add]
            · by_cases h2:i<at_+n
              · rw [if_pos (by omega),if_neg (by omega),if_pos (by omega),if_pos (by omega)]
                congr 1
                omega
              · rw [if_neg (by omega),if_pos (by omega),if_neg (by omega)]
                congr 1
                omega
          · have hfr:u0h y (j:Int)=u0h d (j:Int):=s9m hw (by omega)
            rw [hfr]
            by_cases h1:(k+1)*64+0≤j*64+i∧j*64+i<(k+1)*64+0+(t.size - n)
            · rw [if_pos h1,if_pos (by omega),u3n,if_pos (by omega)]
              congr 1
              omega
            · rw [if_neg h1,if_neg (by omega)]
      · cases h
end
section
theorem q6f (a:ByteArray):a.size=a.data.toList.length:=by simp only [Array.length_toList]; rfl
theorem r1s {a:ByteArray} {i:Nat} (h:i<a.size):a.data.toList[i]? =some (s1p a i):=by
  unfold s1p
  rw [q6f] at h
  rw [List.getD_eq_getElem?_getD,List.getElem?_eq_getElem h]
  rfl
theorem r8i:∀ {f i n:Nat} {l l' :List UInt8} {v k:Nat},s7f f i n l=some (v,k)→(∀q,q<k - i→l'[q]? =l[q]?)→s7f f i n l' =some (v,k)
  | 0,_,_,_,_,_,_,h,_=>by cases h
  | _+1,_,_, [],_,_,_,h,_=>by cases h
  | f+1,i,n,b::l,l',v,k,h,hl=>by
    have hk:=(q3x _ _ _ _ _ _ h).2.2
    have h0:=hl 0 (by omega)
    cases l' with
    | nil=>simp at h0
    | cons b' l' =>
      simp only [List.getElem?_cons_zero,Option.some.injEq] at h0
      subst h0
      simp only [s7f] at h ⊢
      split at h
      · rename_i h1
        rw [if_pos h1]
        exact h
      · rename_i h1
        rw [if_neg h1]
        exact r8i h (fun q hq=>by have:=hl (q+1) (by omega); simpa using this)
theorem q3s {T T' :ByteArray} {at_:Int} (h:(u0q T at_).2.2=true) (hs:T'.size=T.size) (hb:∀q:Nat,(q:Int)<(u0q T at_).2.1→s1p T' q=s1p T q):u0q T' at_=u0q T at_:=by
  have hok:=t2m h
  unfold u0q at h hb hok ⊢
  split at h
  · rename_i hc
    rw [if_pos hc] at hb hok
    rw [if_pos (by rw [hs]; exact hc),if_pos hc]
    cases hv:s7f 5 0 0 (T.data.toList.drop at_.toNat) with
    | none=>rw [hv] at h; cases h
    | some r=>
      obtain ⟨v,k⟩:=r
      rw [hv] at hb hok
      simp only [r8h] at hb hok
      rw [r8i hv (fun q hq=>by
        have hlt:at_.toNat+q<T.size:=by omega
        rw [List.getElem?_drop,List.getElem?_drop,r1s (by omega),r1s hlt,hb (at_.toNat+q) (by omega)])]
  · cases h
theorem s9b {T:ByteArray} {at_:Int} (h:(u0p T at_).2.2=true):0≤at_∧at_<(u0p T at_).2.1∧(u0p T at_).2.1≤T.size:=by
  have h2:=s6f h
  unfold u0p at h h2 ⊢
  split at h
  · rename_i hc
    rw [if_pos hc] at h2
    rw [if_pos hc]
    have:=t2m hc.1
    simp only at h2 ⊢
    omega
  · cases h
theorem r73 {T T' :ByteArray} {at_:Int} (h:(u0p T at_).2.2=true) (hs:T'.size=T.size) (hb:∀q:Nat,(q:Int)<(u0p T at_).2.1→s1p T' q=s1p T q):u0p T' at_=u0p T at_:=by
  have hn:=s9b h
  unfold u0p at h hb hn ⊢
  split at h
  · rename_i hc
    rw [if_pos hc] at hb hn
    simp only at hb hn
    have hok:=t2m hc.1
    have e:u0q T' at_=u0q T at_:=q3s hc.1 hs (fun q hq=>hb q (by omega))
    rw [e,if_pos (by rw [hs]; exact hc),if_pos hc]
    congr 1
    apply r5q
    · rw [ByteArray.size_extract,ByteArray.size_extract,hs]
    · intro i hi
      rw [ByteArray.size_extract] at hi
      rw [u3n,u3n,hs]
      split
      · exact hb _ (by omega)
      · rfl
  · cases h
theorem q0w {T:ByteArray} :∀ {m:Nat} {at_:Int} {acc l:List ByteArray} {E:Int},u42 T m at_ acc=(l,E,true)→at_≤E
  | 0,at_,acc,l,E,h=>by unfold u42 at h; cases h; exact Int.le_refl _
  | m+1,at_,acc,l,E,h=>by
    unfold u42 at h
    split at h
    · rename_i hc
      simp only [Bool.and_eq_true] at hc
      have h1:=(s9b hc.1).2.1
      have h2:=q0w h
      omega
    · cases h
theorem s5n {T T' :ByteArray} (hs:T'.size=T.size):∀ {m:Nat} {at_:Int} {acc l:List ByteArray} {E:Int},u42 T m at_ acc=(l,E,true)→(∀q:Nat,(q:Int)<E→s1p T' q=s1p T q)→u42 T' m at_ acc=(l,E,true)
  | 0,at_,acc,l,E,h,_=>by unfold u42 at h ⊢; exact h
  | m+1,at_,acc,l,E,h,hb=>by
    unfold u42 at h ⊢
    split at h
    · rename_i hc
      have hc' :=hc
      simp only [Bool.and_eq_true] at hc'
      have h2:=q0w h
      rw [r73 hc'.1 hs (fun q hq=>hb q (by omega)),if_pos hc]
      exact s5n hs h hb
    · cases h
theorem r6c {T:ByteArray} {s:ByteArray} {nx:Int} :∀ {m:Nat} {at_:Int} {acc l:List ByteArray} {E:Int},u42 T m at_ acc=(l,E,true)→u0p T E=(s,nx,true)→s.size≠0→u42 T (m+1) at_ acc=(l++ [s],nx,true)
  | 0,at_,acc,l,E,h,hr,hne=>by
    unfold u42 at h
    cases h
    unfold u42
    have:z7o s emp=false:=by
      have:=r4s (t:=s)
      rw [p41] at this
      rw [this]
      simpa using hne
    rw [hr]
    simp only [this,Bool.not_false,Bool.and_self,if_true]
    rfl
  | m+1,at_,acc,l,E,h,hr,hne=>by
    unfold u42 at h
    split at h
    · rename_i hc
      unfold u42
      rw [if_pos hc]
      exact r6c h hr hne
    · cases h
def u8s (l:List Int):List UInt8:=l.map fun n=>UInt8.ofNat n.toNat
theorem r3n:∀(f i acc n N:Nat) (r:List UInt8),0<f→n<128^f→acc+n*128^i=N→N≤1000000000→(t7u N).length=i+(t7u n).length→s7f f i acc (u8s (t7u n)++r)=some (N,i+(t7u n).length)
  | 0,i,acc,n,N,r,hf,_,_,_,_=>by omega
  | f+1,i,acc,n,N,r,_,hn,hN,hb,hl=>by
    by_cases h:n<128
    · rw [s6n h] at hl ⊢
      have e:(UInt8.ofNat ((n:Int)).toNat).toNat=n:=by
        rw [zTn,UInt8.toNat_ofNat']
        omega
      simp only [u8s,List.map_cons,List.map_nil,List.cons_append,List.nil_append,s7f,e,h,if_true,List.length_singleton] at hl ⊢
      rw [Nat.mod_eq_of_lt h,hN,if_pos ⟨hb,hl⟩]
    · rw [r3m h] at hl ⊢
      have e:(UInt8.ofNat (((n % 128+128:Nat):Int)).toNat).toNat=n % 128+128:=by
        rw [zTn,UInt8.toNat_ofNat']
        omega
      have hh: ¬n % 128+128<128:=by omega
      simp only [u8s,List.map_cons,List.cons_append,s7f,e,hh,if_false,List.length_cons] at hl ⊢
      have e2:(n % 128+128) % 128=n % 128:=by omega
      rw [e2]
      have:=r3n f (i+1) (acc+n % 128*128^i) (n / 128) N r (by rcases f with _ | f<;>simp at hn ⊢; omega) (by rw [Nat.pow_succ] at hn; omega) (by
        rw [←hN,Nat.pow_succ]
        have:n=n % 128+128*(n / 128):=by omega
        conv=>rhs; rw [this]
        rw [Nat.add_mul]
        have:n / 128*(128^i*128)=128*(n / 128)*128^i:=by rw [Nat.mul_comm (128^i) 128,←Nat.mul_assoc,Nat.mul_comm (n / 128) 128]
        omega) hb (by omega)
      show s7f f (i+1) (acc+n % 128*128^i) (u8s (t7u (n / 128))++r)=_
      rw [this]
      congr 2
      omega
end
section
theorem t7l (l:List Int):(y7g l).data.toList=u8s l:=by
  unfold y7g u8s
  simp
theorem r3h {T t:ByteArray} {E:Nat} (h0:t.size≠0) (h1:t.size≤3008) (hE:E+(u0s t).size≤T.size) (hb:∀q,q<(u0s t).size→s1p T (E+q)=s1p (u0s t) q):
    u0p T (E:Int)=(t,((E+(u0s t).size:Nat):Int),true):=by
  have hsz:(u0s t).size=(t7u t.size).length+t.size:=by unfold u0s; rw [ByteArray.size_append,u4m]
  have hlist:(u0s t).data.toList=u8s (t7u t.size)++t.data.toList:=by
    unfold u0s
    rw [ByteArray.data_append,Array.toList_append,t7l]
  have hdrop:∃r,T.data.toList.drop E=u8s (t7u t.size)++r:=by
    refine ⟨(T.data.toList.drop E).drop (u8s (t7u t.size)).length,?_⟩
    have:(T.data.toList.drop E).take (u8s (t7u t.size)).length=u8s (t7u t.size):=by
      apply List.ext_getElem?
      intro q
      rw [List.getElem?_take]
      split
      · rename_i hq
        have hq' :q<(t7u t.size).length:=by simpa [u8s] using hq
        rw [List.getElem?_drop,r1s (by omega),hb q (by omega),←r1s (by omega),hlist,List.getElem?_append_left hq]
      · rename_i hq
        rw [List.getElem?_eq_none (Nat.le_of_not_lt hq)]
    conv=>lhs; rw [←List.take_append_drop (u8s (t7u t.size)).length (T.data.toList.drop E)]
    rw [this]
  obtain ⟨r,hr⟩:=hdrop
  have hv:=r3n 5 0 0 t.size t.size r (by omega) (by omega) (by simp) (by omega) (by omega)
  have hread:u0q T (E:Int)=((t.size:Int),(E:Int)+((t7u t.size).length:Int),true):=by
    unfold u0q
    rw [if_pos (by omega),zTn,hr,hv]
    simp [r8h]
  unfold u0p
  rw [hread]
  simp only
  rw [if_pos (by simp only [true_and]; omega)]
  have e1:((E:Int)+((t7u t.size).length:Int)).toNat=E+(t7u t.size).length:=by omega
  have e2:((E:Int)+((t7u t.size).length:Int)+(t.size:Int)).toNat=E+(t7u t.size).length+t.size:=by omega
  rw [e1,e2]
  have et:T.extract (E+(t7u t.size).length) (E+(t7u t.size).length+t.size)=t:=by
    apply r5q
    · rw [ByteArray.size_extract]; omega
    · intro i hi
      rw [ByteArray.size_extract] at hi
      rw [u3n,if_pos (by omega)]
      have:=hb ((t7u t.size).length+i) (by omega)
      rw [show E+(t7u t.size).length+i=E+((t7u t.size).length+i) by omega,this]
      unfold u0s
      rw [u6q,if_neg (by rw [u4m]; omega),u4m]
      congr 1
      omega
  rw [et]
  congr 2
  rw [hsz]
  omega
def p84 (d:u0j):Prop:= ∀k:Nat,k<97→(u0h d (k:Int)).2=true∧(u0h d (k:Int)).1.size=64
theorem s1o {d:u0j} (hk:u1h d=true) (hl:d.1.length=97):p84 d:=by
  intro k hlt
  obtain ⟨k1,k2,k3,k4⟩:=q03.mp hk
  have hc:(0:Int)≤(k:Int)∧(k:Int)<(d.1.length:Int):=by omega
  unfold u0h
  rw [if_pos hc]
  refine ⟨rfl,?_⟩
  cases hp:u82 d.2 (k:Int) with
  | none=>
    have hlt' :k<d.1.length:=by omega
    have e:rdL Ty.str d.1 k=d.1[k] :=y8k (t:=Ty.str) hlt'
    simp only [Option.getD_none,zTn]
    rw [e]
    exact k3 _ (List.getElem_mem hlt')
  | some s=>
    obtain ⟨p,hp1,hp2⟩:=s9y hp
    simp only [Option.getD_some]
    rw [←hp2]
    exact (k4 p hp1).2
theorem r76 {d:u0j} {F:Nat} (h:∀q:Nat,q<47→(u0h d ((F+q:Nat):Int)).2=true∧(u0h d ((F+q:Nat):Int)).1.size=64):∀(m i:Nat) (acc:ByteArray),i+m≤47→
    ∃T,r3i d (F:Int) m i acc=(T,true)∧T.size=acc.size+64*m∧ ∀j,j<T.size→s1p T j=if j<acc.size then s1p acc j else s1p (u0h d ((F+i+(j - acc.size) / 64:Nat):Int)).1 ((j - acc.size) % 64)
  | 0,i,acc,_=>⟨acc,rfl,by omega,fun j hj=>by rw [if_pos hj]⟩
  | m+1,i,acc,hm=>by
    have hq:=h i (by omega)
    have e:(F:Int)+(i:Int)=((F+i:Nat):Int):=by omega
    obtain ⟨T,t1,t2,t3⟩:=r76 h m (i+1) (acc++(u0h d ((F+i:Nat):Int)).1) (by omega)
    refine ⟨T,?_,?_,fun j hj=> ?_⟩
    · unfold r3i
      rw [e,if_pos hq.1]
      exact t1
    · rw [t2,ByteArray.size_append,hq.2]; omega
    · rw [t3 j hj,ByteArray.size_append,hq.2,u6q]
      by_cases h1:j<acc.size
      · rw [if_pos (by omega),if_pos h1,if_pos h1]
      · rw [if_neg h1,if_neg h1]
        by_cases h2:j<acc.size+64
        · rw [if_pos h2]
          have z1:(j - acc.size) / 64=0:=by omega
          have z2:(j - acc.size) % 64=j - acc.size:=by omega
          rw [z1,z2,Nat.add_zero]
        · rw [if_neg h2]
          have z1:F+(i+1)+(j - (acc.size+64)) / 64=F+i+(j - acc.size) / 64:=by omega
          have z2:(j - (acc.size+64)) % 64=(j - acc.size) % 64:=by omega
          rw [z1,z2]
def t91 (a:Int):Nat:=(u0e a+1).toNat
def s1m (d:u0j) (a:Int):ByteArray:=(u88 d (u0e a+1) 47).1
theorem u4r {d:u0j} (hf:p84 d) {a:Int} (ha:a=0∨a=1):u88 d (u0e a+1) 47=(s1m d a,true)∧(s1m d a).size=3008∧ ∀j,j<3008→s1p (s1m d a) j=s1p (u0h d ((t91 a+j / 64:Nat):Int)).1 (j % 64):=by
  have hfa:u0e a=1+a*48:=by unfold u0e; rw [if_pos (p3p.mpr ha)]
  have hF:(u0e a+1:Int)=((t91 a:Nat):Int):=by unfold t91; rcases ha with rfl | rfl<;>omega
  have hb:t91 a+47≤97:=by unfold t91; rcases ha with rfl | rfl<;>omega
  obtain ⟨T,t1,t2,t3⟩:=r76 (d:=d) (F:=t91 a) (fun q hq=>hf (t91 a+q) (by omega)) 47 0 emp (by omega)
  have he:emp.size=0:=rfl
  have hs:u88 d (u0e a+1) 47=(T,true):=by
    unfold u88
    rw [if_pos (by omega),hF]
    exact t1
  have hT:s1m d a=T:=by unfold s1m; rw [hs]
  rw [hT]
  rw [he] at t2 t3
  refine ⟨hs,by omega,fun j hj=> ?_⟩
  rw [t3 j (by omega),if_neg (by omega),Nat.add_zero,Nat.sub_zero]
theorem u6t {d:u0j} (hf:p84 d) {a:Int} (ha:a=0∨a=1):u0c d a=u42 (s1m d a) (u03 d a).toNat 0 [] :=by
  have h:=(u4r hf ha).1
  have hi:q91 a=true:=p3p.mpr ha
  unfold u0c
  rw [h,hi]
  rfl
end
section
theorem q8h {a b:ByteArray} (h:a.data.toList=b.data.toList):a=b:=by
  apply ByteArray.ext
  exact Array.toList_inj.mp h
theorem r6d (a b:ByteArray):(a++b).data.toList=a.data.toList++b.data.toList:=by rw [ByteArray.data_append,Array.toList_append]
theorem t6d (a b c:ByteArray):a++b++c=a++(b++c):=q8h (by simp only [r6d,List.append_assoc])
theorem p1u (a:ByteArray):emp++a=a:=q8h (by rw [r6d]; rfl)
theorem p1n (a:ByteArray):a++emp=a:=q8h (by rw [r6d]; simp [emp])
theorem s9r (a:ByteArray):a.size=a.data.toList.length:=q6f a
def r2h (n:Int):ByteArray:=y7g (t7u n.toNat)
def q9s (b:Bool):ByteArray:=y7g [if b then 1 else 0]
def r8o {E:Type} (f:E→ByteArray) (l:List E):ByteArray:=l.foldl (fun s x=>s++f x) emp
def p0e (r:t3u):ByteArray:=u0s r.1++u0s r.2
def wrT (w:WrT):ByteArray:=u0s w.1++(u0s w.2.1++q9s w.2.2)
def p0r (v:u1v):ByteArray:=u0s v.1++(u0s v.2.1++(q9s v.2.2.1++r2h v.2.2.2))
def t3s (t:u0f):ByteArray:=
  r2h t.1++(r2h t.2.1++(r2h t.2.2.1++(r2h t.2.2.2.1++(r2h (t.2.2.2.2.1.length:Int)++(r8o p0e t.2.2.2.2.1++(r2h (t.2.2.2.2.2.1.length:Int)++(r8o wrT t.2.2.2.2.2.1++(q9s t.2.2.2.2.2.2.1++u0s t.2.2.2.2.2.2.2))))))))
def r4u (l:List u0f):ByteArray:=r2h (l.length:Int)++r8o t3s l
def t6v (b:u0i):ByteArray:=r2h b.2.2.2.1++(r2h b.2.2.2.2++(r2h (b.1.length:Int)++(r8o p0r b.1++(r4u b.2.1++r4u b.2.2.1))))
theorem r1h {E:Type} (f:E→ByteArray):∀(l:List E) (s:ByteArray),l.foldl (fun s x=>s++f x) s=s++r8o f l
  | [],s=>(p1n s).symm
  | x::l,s=>by
    rw [List.foldl_cons,r1h f l]
    unfold r8o
    rw [List.foldl_cons,r1h f l (emp++f x),p1u,t6d]
    rfl
theorem q4s {E:Type} (f:E→ByteArray) (x:E) (l:List E):r8o f (x::l)=f x++r8o f l:=by
  unfold r8o
  rw [List.foldl_cons,r1h,p1u]
  rfl
theorem q8j {E:Type} (f:E→ByteArray):r8o f [] =emp:=rfl
def t0o (T:ByteArray) (a:Nat) (s:ByteArray):Prop:= ∃r,T.data.toList.drop a=s.data.toList++r
theorem p6l {T:ByteArray} {a:Nat} {s u:ByteArray} :t0o T a (s++u)↔t0o T a s∧t0o T (a+s.size) u:=by
  unfold t0o
  rw [r6d,s9r s]
  constructor
  · rintro ⟨r,h⟩
    refine ⟨⟨u.data.toList++r,by rw [h,List.append_assoc]⟩,r,?_⟩
    rw [←List.drop_drop,h,List.append_assoc,List.drop_left]
  · rintro ⟨⟨r,h⟩,r',h'⟩
    rw [←List.drop_drop,h,List.drop_left] at h'
    exact ⟨r',by rw [h,h',List.append_assoc]⟩
theorem r19 {T:ByteArray} {a:Nat} {s:ByteArray} (h:t0o T a s) (hs:s.size≠0):a+s.size≤T.size:=by
  obtain ⟨r,h⟩:=h
  have:=congrArg List.length h
  rw [List.length_drop,List.length_append,←s9r,←s9r] at this
  omega
theorem p0j {a s b:ByteArray} :t0o (a++s++b) a.size s:=⟨b.data.toList,by rw [r6d,r6d,s9r,List.append_assoc,List.drop_left]⟩
theorem t7n (n:Int):(r2h n).size=(t7u n.toNat).length:=u4m _
theorem r2g (n:Nat):0<(t7u n).length:=by
  by_cases h:n<128
  · rw [s6n h]; simp
  · rw [r3m h]; simp
theorem s9c {T:ByteArray} {a:Nat} {n:Int} (h0:0≤n) (hn:n≤1000000000) (h:t0o T a (r2h n)):u0q T (a:Int)=(n,((a+(r2h n).size:Nat):Int),true):=by
  have hle:=r19 h (by rw [t7n]; have:=r2g n.toNat; omega)
  obtain ⟨r,h⟩:=h
  unfold r2h at h
  rw [t7l] at h
  have hv:=r3n 5 0 0 n.toNat n.toNat r (by omega) (by omega) (by simp) (by omega) (by omega)
  unfold u0q
  rw [if_pos (by omega),zTn,h,hv]
  simp only [r8h]
  rw [t7n]
  congr 1
  · omega
  · congr 1
    omega
theorem r5l {T:ByteArray} {a:Nat} {s:ByteArray} (hs:s.size≤20000) (h:t0o T a (u0s s)):u0p T (a:Int)=(s,((a+(u0s s).size:Nat):Int),true):=by
  have e:u0s s=r2h (s.size:Int)++s:=rfl
  rw [e] at h
  obtain ⟨h1,h2⟩:=p6l.mp h
  have hv:=s9c (by omega) (by omega) h1
  have hle1:=r19 h1 (by rw [t7n]; have:=r2g (s.size:Int).toNat; omega)
  unfold u0p
  rw [hv]
  have hle:a+(r2h (s.size:Int)).size+s.size≤T.size:=by
    by_cases q:s.size=0
    · omega
    · exact r19 h2 q
  rw [if_pos (by simp only [true_and]; omega)]
  have hx:T.extract (((a+(r2h (s.size:Int)).size:Nat):Int)).toNat ((((a+(r2h (s.size:Int)).size:Nat):Int)+(s.size:Int))).toNat=s:=by
    rw [zTn,show (((a+(r2h (s.size:Int)).size:Nat):Int)+(s.size:Int)).toNat=a+(r2h (s.size:Int)).size+s.size by omega]
    rw [r4h _ _ _ hle]
    obtain ⟨r,hr⟩:=h2
    rw [hr,Nat.add_sub_cancel_left,s9r,List.take_left]
  simp only [hx]
  rw [e,ByteArray.size_append]
  congr 2
  omega
abbrev Cur:=Int × Bool
def u3e (s:ByteArray) (c:Cur):Int × Cur:=if c.2=true∨(u0q s c.1).2.2=false then (0,c.1,true) else ((u0q s c.1).1,(u0q s c.1).2.1,false)
def u2c (s:ByteArray) (c:Cur):ByteArray × Cur:=if c.2=true∨(u0p s c.1).2.2=false then (emp,c.1,true) else ((u0p s c.1).1,(u0p s c.1).2.1,false)
def t0u (s:ByteArray) (i:Nat):Nat:=(s.data.toList.getD i 0).toNat
def r7y (s:ByteArray) (c:Cur):Bool × Cur:=if c.2=true∨ ¬(0≤c.1∧c.1<(s.size:Int))∨1<t0u s c.1.toNat then (false,c.1,true) else (decide (t0u s c.1.toNat=1),c.1+1,false)
def u3j {E:Type} (f:Cur→E × Cur):Nat→Cur→List E→List E × Cur
  | 0,c,a=>(a,c)
  | n+1,c,a=>if c.2=true then (a,c) else u3j f n (f c).2 (a++ [(f c).1])
def q8y (s:ByteArray) (c:Cur):t3u × Cur:=(((u2c s c).1,(u2c s (u2c s c).2).1),(u2c s (u2c s c).2).2)
def rWr (s:ByteArray) (c:Cur):WrT × Cur:=
  (((u2c s c).1,(u2c s (u2c s c).2).1,(r7y s (u2c s (u2c s c).2).2).1),(r7y s (u2c s (u2c s c).2).2).2)
def q80 (s:ByteArray) (c:Cur):u1v × Cur:=
  let w:=rWr s c
  ((w.1.1,w.1.2.1,w.1.2.2,(u3e s w.2).1),(u3e s w.2).2)
def q0h (m:Nat) (s:ByteArray) (c:Cur):u0f × Cur:=
  let a:=u3e s c
  let b:=u3e s a.2
  let d:=u3e s b.2
  let e:=u3e s d.2
  let n:=u3e s e.2
  let rs:=u3j (q8y s) (min n.1.toNat m) n.2 []
  let k:=u3e s rs.2
  let ws:=u3j (rWr s) (min k.1.toNat m) k.2 []
  let o:=r7y s ws.2
  let nm:=u2c s o.2
  ((a.1,b.1,d.1,e.1,rs.1,ws.1,o.1,nm.1),nm.2)
theorem u6s {s:ByteArray} {c:Cur} (h:c.2=true):(u3e s c).2.2=true:=by unfold u3e; rw [if_pos (.inl h)]
theorem s0o {s:ByteArray} {c:Cur} (h:c.2=true):(u2c s c).2.2=true:=by unfold u2c; rw [if_pos (.inl h)]
theorem r1z {s:ByteArray} {c:Cur} (h:c.2=true):(r7y s c).2.2=true:=by unfold r7y; rw [if_pos (.inl h)]
theorem t04 {E:Type} {f:Cur→E × Cur} {n:Nat} {c:Cur} {a:List E} (h:c.2=true):u3j f n c a=(a,c):=by
  cases n with
  | zero=>rfl
  | succ n=>simp only [u3j]; rw [if_pos h]
theorem q53 {E:Type} {f:Cur→E × Cur} :∀ {n:Nat} {c:Cur} {a:List E},(u3j f n c a).2.2=false→(u3j f n c a).1.length=a.length+n
  | 0,c,a,_=>rfl
  | n+1,c,a,h=>by
    simp only [u3j] at h ⊢
    split at h
    · rename_i q; rw [q] at h; cases h
    · rename_i q
      rw [if_neg q,q53 h]
      simp; omega
theorem u4l {s:ByteArray} {a:Nat} {n:Int} (h0:0≤n) (hn:n≤1000000000) (h:t0o s a (r2h n)):u3e s ((a:Int),false)=(n,((a+(r2h n).size:Nat):Int),false):=by
  unfold u3e
  rw [s9c h0 hn h,if_neg (by simp)]
theorem t2l {s:ByteArray} {a:Nat} {x:ByteArray} (hx:x.size≤20000) (h:t0o s a (u0s x)):u2c s ((a:Int),false)=(x,((a+(u0s x).size:Nat):Int),false):=by
  unfold u2c
  rw [r5l hx h,if_neg (by simp)]
theorem u3z (b:Bool):(q9s b).size=1:=u4m _
theorem s92 {s:ByteArray} {a:Nat} {b:Bool} (h:t0o s a (q9s b)):r7y s ((a:Int),false)=(b,((a+1:Nat):Int),false):=by
  have hle:=r19 h (by rw [u3z]; omega)
  rw [u3z] at hle
  obtain ⟨r,hr⟩:=h
  unfold q9s at hr
  rw [t7l] at hr
  have hb:t0u s a=if b then 1 else 0:=by
    unfold t0u
    have:s.data.toList.getD a 0=(s.data.toList.drop a).getD 0 0:=by
      rw [List.getD_eq_getElem?_getD,List.getD_eq_getElem?_getD,List.getElem?_drop,Nat.add_zero]
    rw [this,hr]
    cases b<;>rfl
  unfold r7y
  simp only [zTn,hb]
  rw [if_neg]
  · cases b<;>simp
  · rintro (q | q | q)
    · cases q
    · omega
    · cases b<;>simp at q
theorem t5j {E:Type} {f:Cur→E × Cur} {g:E→ByteArray} {s:ByteArray} :∀ {l:List E} {a:Nat} {acc:List E},(∀x∈l,∀a:Nat,t0o s a (g x)→f ((a:Int),false)=(x,((a+(g x).size:Nat):Int),false))→
    t0o s a (r8o g l)→u3j f l.length ((a:Int),false) acc=(acc++l,((a+(r8o g l).size:Nat):Int),false)
  | [],a,acc,_,_=>by rw [q8j]; simp [u3j,emp,ByteArray.size]
  | x::l,a,acc,hf,h=>by
    rw [q4s] at h ⊢
    obtain ⟨h1,h2⟩:=p6l.mp h
    have e:=hf x (by simp) a h1
    simp only [List.length_cons,u3j]
    rw [if_neg (by simp),e]
    rw [t5j (l:=l) (fun y hy=>hf y (by simp [hy])) h2,ByteArray.size_append]
    simp [Nat.add_assoc]
theorem q7w {s:ByteArray} {a:Nat} {r:t3u} (h1:r.1.size≤20000) (h2:r.2.size≤20000) (h:t0o s a (p0e r)):q8y s ((a:Int),false)=(r,((a+(p0e r).size:Nat):Int),false):=by
  obtain ⟨k1,k2⟩:=p6l.mp h
  unfold q8y
  rw [t2l h1 k1]
  simp only
  rw [t2l h2 k2]
  unfold p0e
  rw [ByteArray.size_append,Nat.add_assoc]
theorem q1d {s:ByteArray} {a:Nat} {w:WrT} (h1:w.1.size≤20000) (h2:w.2.1.size≤20000) (h:t0o s a (wrT w)):rWr s ((a:Int),false)=(w,((a+(wrT w).size:Nat):Int),false):=by
  obtain ⟨k1,k2⟩:=p6l.mp h
  obtain ⟨k2,k3⟩:=p6l.mp k2
  unfold rWr
  rw [t2l h1 k1]
  simp only
  rw [t2l h2 k2]
  simp only
  rw [s92 k3]
  unfold wrT
  rw [ByteArray.size_append,ByteArray.size_append,u3z,Nat.add_assoc,Nat.add_assoc]
theorem q7y {s:ByteArray} {a:Nat} {v:u1v} (h1:v.1.size≤20000) (h2:v.2.1.size≤20000) (h3:0≤v.2.2.2∧v.2.2.2≤1000000000) (h:t0o s a (p0r v)):q80 s ((a:Int),false)=(v,((a+(p0r v).size:Nat):Int),false):=by
  have e:p0r v=wrT (v.1,v.2.1,v.2.2.1)++r2h v.2.2.2:=by unfold p0r wrT; simp only [t6d]
  rw [e] at h ⊢
  obtain ⟨k1,k2⟩:=p6l.mp h
  unfold q80
  rw [q1d (w:=(v.1,v.2.1,v.2.2.1)) h1 h2 k1]
  simp only
  rw [u4l h3.1 h3.2 k2,ByteArray.size_append,Nat.add_assoc]
theorem TxnR.small {t:u0f} (h:TxnR t):(∀r∈t.2.2.2.2.1,r.1.size≤3∧r.2.size≤3)∧(∀w∈t.2.2.2.2.2.1,w.1.size≤3∧w.2.1.size≤12)∧t.2.2.2.2.2.2.2.size≤3∧t.2.2.2.2.2.1.length≤8∧0≤t.2.2.2.1∧t.2.2.2.1≤9999:=by
  obtain ⟨w1,w2,w3⟩:=p47.mp h.ws
  refine ⟨fun r hr=> ?_,fun w hw=> ?_,?_,w3,?_⟩
  · have:=h.rs r hr
    unfold u1f at this
    rw [Bool.and_eq_true,Bool.and_eq_true] at this
    exact ⟨(u12 this.1).2,(u12 this.2.1).2⟩
  · have:=w1 w hw
    unfold u1q at this
    rw [Bool.and_eq_true,Bool.and_eq_true,decide_eq_true_eq] at this
    exact ⟨(u12 this.1).2,this.2.1⟩
  · by_cases e:t.2.1=2
    · exact (u12 (h.name e)).2
    · rw [h.noname e]; omega
  · by_cases e:t.2.1=3
    · have:=h.done e; have:=h.snap; omega
    · rw [h.nocs e]; omega
theorem q7x {s:ByteArray} {a:Nat} {t:u0f} {m:Nat} (hm:8≤m) (ht:TxnR t) (h:t0o s a (t3s t)):q0h m s ((a:Int),false)=(t,((a+(t3s t).size:Nat):Int),false):=by
  obtain ⟨z1,z2,z3,z4,z5⟩:=ht.small
  have hi:=ht.id; have hst:=ht.st; have hsn:=ht.snap; have hrl:=ht.rlen
  unfold t3s at h ⊢
  obtain ⟨k1,h⟩:=p6l.mp h
  obtain ⟨k2,h⟩:=p6l.mp h
  obtain ⟨k3,h⟩:=p6l.mp h
  obtain ⟨k4,h⟩:=p6l.mp h
  obtain ⟨k5,h⟩:=p6l.mp h
  obtain ⟨k6,h⟩:=p6l.mp h
  obtain ⟨k7,h⟩:=p6l.mp h
  obtain ⟨k8,h⟩:=p6l.mp h
  obtain ⟨k9,k10⟩:=p6l.mp h
  unfold q0h
  rw [u4l (by omega) (by omega) k1]
  simp only
  rw [u4l (by omega) (by omega) k2]
  simp only
  rw [u4l (by omega) (by omega) k3]
  simp only
  rw [u4l (by omega) (by omega) k4]
  simp only
  rw [u4l (by omega) (by omega) k5]
  simp only
  rw [show min ((t.2.2.2.2.1.length:Int)).toNat m=t.2.2.2.2.1.length by omega,t5j (g:=p0e) (fun r hr a hs=>q7w (by have:=(z1 r hr).1; omega) (by have:=(z1 r hr).2; omega) hs) k6]
  simp only
  rw [u4l (by omega) (by omega) k7]
  simp only
  rw [show min ((t.2.2.2.2.2.1.length:Int)).toNat m=t.2.2.2.2.2.1.length by omega,t5j (g:=wrT) (fun w hw a hs=>q1d (by have:=(z2 w hw).1; omega) (by have:=(z2 w hw).2; omega) hs) k8]
  simp only
  rw [s92 k9]
  simp only
  rw [u3z] at k10
  rw [t2l (by omega) k10]
  simp only [List.nil_append,ByteArray.size_append,u3z]
  simp only [Nat.add_assoc]
end
end
end Go.Proofs.YtbkicjpdlchbgaaGreat.Ab
