import Derived.Test.YtbkicjpdlchbgaaGreatAbStoreOkT1
import Derived.Test.YtbkicjpdlchbgaaGreatAbK2
import Derived.Test.YtbkicjpdlchbgaaGreatAbF4
import Derived.Test.YtbkicjpdlchbgaaGreatAbS2
namespace Go.Proofs.YtbkicjpdlchbgaaGreat.Ab
open Go
set_option linter.unusedVariables false
set_option linter.unusedSimpArgs false
set_option linter.unnecessarySimpa false
section
section
theorem p4r {l:List u14} {w:u14} (h:w∈l):w.1.size≤(Ty.sl u0b).wt l∧w.2.1.size≤(Ty.sl u0b).wt l:=by
 have h1:(Ty.sl u0b).wt l=l.length+(l.map u0b.wt).sum:=rfl
 have h2:=t8e (f:=u0b.wt) h
 have h3:u0b.wt w=w.1.size+(w.2.1.size+(0+0)):=rfl
 omega
theorem o33 (n:Nat):decide ((n:Int) >12)= !decide (n≤12):=by by_cases h:n≤12<;>simp[h] <;>omega
theorem o2q (n:Nat):decide ((n:Int)≤120)=decide (n≤120):=by simp;omega
theorem r98 (a b:Int):decide (a≥b)= !decide (a<b):=by
 by_cases h:a<b
 ·have: ¬a≥b:=by omega
  simp[h,this]
 ·have:a≥b:=by omega
  simp[h,this]
theorem r0l (a b:Int):decide (a >b)= !decide (a≤b):=by
 by_cases h:a≤b
 ·have: ¬a >b:=by omega
  simp[h,this]
 ·have:a >b:=by omega
  simp[h,this]
theorem o0k (a b:u14):∃r,u4h (a,b)=some r∧decide (r≥0)= !s1x a b:=by
 rw[t7f];unfold u94 s1x
 simp only[q6q,zOb]
 rcases r8t a.1 b.1 with h | h | h
 ·exact⟨-1,by simp[h],by simp[h]⟩
 ·simp only[h,u79,y6l,Bool.false_eq_true,if_false,if_true,decide_true,Bool.not_true,cond_false,p6c,zOb,Bool.false_or,Bool.true_and]
  refine⟨_,rfl,?_⟩
  by_cases h3:a.2.2.2<b.2.2.2
  ·simp[h3]
  ·by_cases h4:a.2.2.2 >b.2.2.2<;>simp[h3,h4]
 ·have e1:=r2f h
  have e2:z7o a.1 b.1=false:=p3i.mpr (fun e=>by rw[e,u79] at h;cases h)
  exact⟨1,by simp[e1,e2],by simp[e1,e2]⟩
theorem q16 (l:List u14) (hl:(Ty.sl u0b).wt l≤u0l):t5x l=some (u5y l):=by
 have hb:u0l=1099511627776:=rfl
 have hn:=t1x (t:=u0b) l
 have L:=u8e u7v l.length (fun i=>(l,l,(l.length:Int),i)) (fun i=>r5a (rdL u0b l i)&&(decide (i=0) || s1x (rdL u0b l (i - 1)) (rdL u0b l i))) (.inl l) (.inr false)
  (by rw[s0k];simp only[u7o,u0c,Nat.lt_irrefl,decide_false,cond_false])
  (fun i hi=>by
   have hm:rdL u0b l i∈l:=by rw[y8k hi];exact List.getElem_mem hi
   rw[s0k];simp only[u7o,u0c,hi,decide_true,cond_true,y7t hi,zTn,y7l (show i<4611686018427387904 by omega),t8q _ (Nat.le_trans (p4r hm).1 hl),r2i,zOb,t6n,t1i,o33]
   unfold r5a
   generalize t2a (rdL u0b l i).1=b1
   generalize decide ((rdL u0b l i).2.1.size≤12)=b2
   generalize decide ((rdL u0b l i).2.1.size=0)=b3
   generalize (rdL u0b l i).2.2.1=b4
   generalize inB (rdL u0b l i).2.2.2 1 9999=b5
   by_cases h0:i=0
   ·subst h0;simp only[decide_true,Bool.not_true,cond_false,Bool.true_or,Bool.and_true]
    cases b1<;>cases b2<;>cases b3<;>cases b4<;>cases b5<;>rfl
   ·obtain⟨r,hr,hr2⟩:=o0k (rdL u0b l (i - 1)) (rdL u0b l i)
    simp only[h0,decide_false,Bool.not_false,cond_true,Bool.false_or,t2j (show i<4611686018427387904 by omega) h0,y7t (show i - 1<l.length by omega),zTn,hr,hr2,zOb]
    cases s1x (rdL u0b l (i - 1)) (rdL u0b l i)<;>cases b1<;>cases b2<;>cases b3<;>cases b4<;>cases b5<;>rfl)
 rw[s19 (t:=u0b) l r5a s1x] at L
 rw[r8b];unfold s29
 simp only[L,zOb]
 unfold u5y
 cases l.all r5a
 ·rfl
 ·cases q44 u0b s1x l
  ·rfl
  ·simp only[Bool.true_and,cond_true]
   rw[o2q]
theorem q17 (l:List u14) (hl:(Ty.sl u0b).wt l≤u0l):t56 l=some (u5y l):=by
 have hb:u0l=1099511627776:=rfl
 have hn:=t1x (t:=u0b) l
 have L:=u8e u7z l.length (fun i=>(l,i)) (fun i=>r5a (rdL u0b l i)&&(decide (i=0) || s1x (rdL u0b l (i - 1)) (rdL u0b l i))) (.inl l) (.inr false)
  (by rw[s0o];simp only[u7s,u0c,Nat.lt_irrefl,decide_false,cond_false])
  (fun i hi=>by
   have hm:rdL u0b l i∈l:=by rw[y8k hi];exact List.getElem_mem hi
   rw[s0o];simp only[u7s,u0c,hi,decide_true,cond_true,y7t hi,zTn,y7l (show i<4611686018427387904 by omega),t8r _ (Nat.le_trans (p4r hm).1 hl),s3p,zOb,t6n,t1i,o33]
   unfold r5a s1x
   generalize t2a (rdL u0b l i).1=b1
   generalize decide ((rdL u0b l i).2.1.size≤12)=b2
   generalize decide ((rdL u0b l i).2.1.size=0)=b3
   generalize (rdL u0b l i).2.2.1=b4
   generalize inB (rdL u0b l i).2.2.2 1 9999=b5
   by_cases h0:i=0
   ·subst h0;simp only[decide_true,Bool.not_true,cond_false,Bool.true_or,Bool.and_true]
    cases b1<;>cases b2<;>cases b3<;>cases b4<;>cases b5<;>rfl
   ·simp only[h0,decide_false,Bool.not_false,cond_true,Bool.false_or,t2j (show i<4611686018427387904 by omega) h0,y7t (show i - 1<l.length by omega),zTn,zOb]
    rcases r8t (rdL u0b l (i - 1)).1 (rdL u0b l i).1 with h | h | h
    ·have e2:z7o (rdL u0b l (i - 1)).1 (rdL u0b l i).1=false:=p3i.mpr (fun e=>by rw[e,u79] at h;cases h)
     rw[h,e2]
     cases b1<;>cases b2<;>cases b3<;>cases b4<;>cases b5<;>rfl
    ·rw[h,u79,y6l]
     rw[r98]
     cases decide ((rdL u0b l (i - 1)).2.2.2<(rdL u0b l i).2.2.2)<;>cases b1<;>cases b2<;>cases b3<;>cases b4<;>cases b5<;>rfl
    ·have e1:=r2f h
     have e2:z7o (rdL u0b l (i - 1)).1 (rdL u0b l i).1=false:=p3i.mpr (fun e=>by rw[e,u79] at h;cases h)
     rw[e1,e2]
     cases b1<;>cases b2<;>cases b3<;>cases b4<;>cases b5<;>rfl)
 rw[s19 (t:=u0b) l r5a s1x] at L
 rw[r8l];unfold s3j
 simp only[L,zOb]
 unfold u5y
 cases l.all r5a
 ·rfl
 ·cases q44 u0b s1x l
  ·rfl
  ·simp only[Bool.true_and,cond_true]
   rw[o2q]
theorem p79 (n:Nat) (hn:n≤1099511627776):u89 ((),(n:Int))=some [] :=by
 rw[s8r];unfold t5q
 have e0:IntKind.i64.wrap ((0:Int) - (0:Int))=0:=by rw[y4y (by omega) (by omega)];rfl
 have e1:IntKind.i64.wrap ((n:Int) - 0)=(n:Int):=by rw[y4y (by omega) (by omega)];omega
 have e2:decide ((n:Int)<0)=false:=decide_eq_false (by omega)
 simp only[e0,e1,e2,cond_false]
 by_cases h:n=0
 ·subst h;simp
 ·have e3:decide ((n:Int) >0)=true:=by simp;omega
  have e4:(decide ((1:Int)≤(n:Int))&&decide ((n:Int)≤1099511627776))=true:=by simp;omega
  simp only[e3,e4,cond_true]
  simp
theorem q6r (ls:List (List u0i)) (h:ls.flatten.length≤1099511627776) (hn:ls.length≤1099511627776):u22 ls=some ls.flatten:=by
 have fl:∀(i:Nat),i≤ls.length→(ls.take i).flatten.length≤ls.flatten.length:=fun i _=>by
  have:=List.take_append_drop i ls
  have h2:ls.flatten=(ls.take i).flatten++(ls.drop i).flatten:=by rw[←List.flatten_append,this]
  rw[h2,List.length_append];omega
 have st:∀(i:Nat) (hi:i<ls.length),(ls.take (i+1)).flatten=(ls.take i).flatten++ls[i] :=fun i hi=>by
  rw[List.take_add_one,List.getElem?_eq_getElem hi,List.flatten_append];simp
 have L1:=s5l u2h ls.length (fun(n:Nat) i=>(ls,(n:Int),ls,(ls.length:Int),i)) (fun _ _=> .inl (ls,(ls.flatten.length:Int))) (fun i n=>n=(ls.take i).flatten.length)
  (fun n hP=>by
   rw[List.take_length] at hP;subst hP
   rw[t1y];simp only[u31,u0c,Nat.lt_irrefl,decide_false,cond_false])
  (fun i n hi hP=> .inr ⟨(ls.take (i+1)).flatten.length,rfl,rfl,by
   have h1:=fl (i+1) (by omega)
   have h2:(ls.take (i+1)).flatten.length=n+ls[i].length:=by rw[st i hi,List.length_append,hP]
   have e1:IntKind.i64.wrap ((n:Int)+((ls[i].length:Nat):Int))=((n+ls[i].length:Nat):Int):=by rw[y4y (by omega) (by omega)];omega
   have e2:decide (((n+ls[i].length:Nat):Int)<0)=false:=by simp;omega
   rw[t1y];simp only[u31,u0c,hi,decide_true,cond_true,y7t hi,zTn,y8k (t:=Ty.sl u0o) hi,y7l (show i<4611686018427387904 by omega),h2]
   rw[e1,e2];rfl⟩) 0 0 (by omega) rfl
 have L2:=s5l u18 ls.length (fun(a:List u0i) i=>(a,ls,(ls.length:Int),i)) (fun _ _=> .inl ls.flatten) (fun i a=>a=(ls.take i).flatten)
  (fun a hP=>by
   rw[List.take_length] at hP;subst hP
   rw[t0d];simp only[u3g,u0c,Nat.lt_irrefl,decide_false,cond_false])
  (fun i a hi hP=> .inr ⟨(ls.take (i+1)).flatten,rfl,rfl,by
   have h1:=fl (i+1) (by omega)
   have h2:(ls.take (i+1)).flatten.length=a.length+ls[i].length:=by rw[st i hi,List.length_append,hP]
   rw[t0d];simp only[u3g,u0c,hi,decide_true,cond_true,y7t hi,zTn,y8k (t:=Ty.sl u0o) hi,y7l (show i<4611686018427387904 by omega)]
   rw[u1w (show a.length+ls[i].length≤1099511627776 by omega),st i hi,hP];rfl⟩) 0 [] (by omega) rfl
 rw[s3m];unfold t36
 have L1' :u2h (ls,(0:Int),ls,(ls.length:Int),0)=some (.inl (ls,(ls.flatten.length:Int))):=L1
 have L2' :u18 ([],ls,(ls.length:Int),0)=some (.inl ls.flatten):=L2
 simp only[L1',zOb,p79 _ h,L2']
end
section
theorem p66 (l:List u0i) (n:Int):((List.range l.length).all fun i=>decide ((rdL u0o l i).1<n)&& !((l.take i).any fun y=>decide (y.1=(rdL u0o l i).1)))=r45 (u6a l) n:=by
 rw[Bool.eq_iff_iff,List.all_eq_true,r0m]
 unfold u6a
 constructor
 ·intro h
  constructor
  ·intro x hx
   obtain⟨t,ht,rfl⟩:=List.mem_map.mp hx
   obtain⟨i,hi,rfl⟩:=List.getElem_of_mem ht
   have:=h i (List.mem_range.mpr hi)
   rw[Bool.and_eq_true,decide_eq_true_eq,y8k hi] at this
   exact this.1
  ·rw[List.nodup_iff_pairwise_ne,List.pairwise_map,List.pairwise_iff_getElem]
   intro i j hi hj hij e
   have:=h j (List.mem_range.mpr hj)
   rw[Bool.and_eq_true,Bool.not_eq_true',y8k hj] at this
   have hm:l[i] ∈l.take j:=by
    rw[List.mem_iff_getElem]
    exact⟨i,by simp;omega,by simp⟩
   have:=List.any_eq_false.mp this.2 _ hm
   simp only[decide_eq_true_eq] at this
   exact this e
 ·rintro⟨h1,h2⟩ i hi
  have hi:=List.mem_range.mp hi
  rw[Bool.and_eq_true,decide_eq_true_eq,y8k hi,Bool.not_eq_true']
  refine⟨h1 _ (List.mem_map.mpr ⟨_,List.getElem_mem hi,rfl⟩),?_⟩
  rw[List.any_eq_false]
  intro y hy
  rw[List.mem_iff_getElem] at hy
  obtain⟨j,hj,rfl⟩:=hy
  simp only[List.length_take] at hj
  rw[List.nodup_iff_pairwise_ne,List.pairwise_map,List.pairwise_iff_getElem] at h2
  simp only[List.getElem_take,decide_eq_true_eq]
  exact h2 j i (by omega) hi (by omega)
theorem r4e (l:List u0i) (n:Int) (hl:l.length≤1099511627776):u80 (l,n)=some (r45 (u6a l) n):=by
 have hsome:∀(m:List u0i) (t:u0i),m.length≤1099511627776→u47 (m,t)=some (m.any fun y=>decide (y.1=t.1)):=by
  intro m t hm
  have L:=Q.first (T:=u0o) (c:=u0i) (W:=u0w) (q:=t5a) (p:=fun y:u0i=>decide (y.1=t.1)) (fun x=>u6e x) m t (by omega) (fun x _=>by rw[r6z];rfl)
  simp only[t8g,u9o,u59,u2n,u69,u28,L,zOb]
  rw[←q3t]
  by_cases h:u1n (fun y:u0i=>decide (y.1=t.1)) m<m.length
  ·simp[h]
  ·simp[h]
 have L:=u8e u9k l.length (fun i=>(l,n,l,(l.length:Int),i)) (fun i=>decide ((rdL u0o l i).1<n)&& !((l.take i).any fun y=>decide (y.1=(rdL u0o l i).1))) (.inl ()) (.inr false)
  (by rw[s11];simp only[u9d,u0c,Nat.lt_irrefl,decide_false,cond_false])
  (fun i hi=>by
   have e1:(decide ((0:Int)≤0)&&decide ((0:Int)≤(i:Int))&&decide ((i:Int)≤(l.length:Int)))=true:=by simp;omega
   have e2:(l.take i).drop ((0:Int)).toNat=l.take i:=by simp
   have e3:=hsome (l.take i) (rdL u0o l i) (by simp;omega)
   rw[s11];simp only[u9d,u0c,hi,decide_true,cond_true,y7t hi,zTn,y7l (show i<4611686018427387904 by omega),r98 (rdL u0o l i).1 n,e1]
   rw[e2,e3]
   cases decide ((rdL u0o l i).1<n)
   ·rfl
   ·simp only[Bool.not_true,cond_false,zOb,Bool.true_and]
    cases (l.take i).any fun y=>decide (y.1=(rdL u0o l i).1)<;>rfl)
 rw[p66] at L
 rw[q02];unfold s6o
 simp only[L,zOb]
 cases r45 (u6a l) n<;>rfl
theorem s5o (b:u0j):q43.wt b=(Ty.sl u0b).wt b.1+((Ty.sl u0o).wt b.2.1+((Ty.sl u0o).wt b.2.2.1+(0+0))):=rfl
theorem r1n {l:List u0i} {t:u0i} (h:t∈l):u0o.wt t≤(Ty.sl u0o).wt l:=by
 have h1:(Ty.sl u0o).wt l=l.length+(l.map u0o.wt).sum:=rfl
 have h2:=t8e (f:=u0o.wt) h
 omega
theorem gt3 (n:Nat):decide ((n:Int) >3)= !decide (n≤3):=by by_cases h:n≤3<;>simp[h] <;>omega
theorem gt4 (n:Nat):decide ((n:Int) >4)= !decide (n≤4):=by by_cases h:n≤4<;>simp[h] <;>omega
theorem r99 (t:u0i):t6u t=some (decide (t.2.1=2)):=by rw[q5o];rfl
theorem u7l (b:u0j) (hw:q43.wt b≤u0l):u2e b=some (u5m b):=by
 have hb:u0l=1099511627776:=rfl
 have hbw:=s5o b
 have n1:=t1x (t:=u0b) b.1
 have n2:=t1x (t:=u0o) b.2.1
 have n3:=t1x (t:=u0o) b.2.2.1
 have L1:=u8e u9x b.1.length (fun i=>(b,b.1,(b.1.length:Int),i)) (fun i=>(fun v:u14=>decide (v.2.2.2≤b.2.2.2.1)) (rdL u0b b.1 i)) (.inl b) (.inr false)
  (by rw[r1q];simp only[t4f,u0c,Nat.lt_irrefl,decide_false,cond_false])
  (fun i hi=>by
   rw[r1q];simp only[t4f,u0c,hi,decide_true,cond_true,y7t hi,zTn,y7l (show i<4611686018427387904 by omega),r0l (rdL u0b b.1 i).2.2.2 b.2.2.2.1]
   cases decide ((rdL u0b b.1 i).2.2.2≤b.2.2.2.1)<;>rfl)
 rw[t41 (t:=u0b) b.1 (fun v:u14=>decide (v.2.2.2≤b.2.2.2.1))] at L1
 have L2:=u8e u8f b.2.1.length (fun i=>(b,b.2.1,(b.2.1.length:Int),i)) (fun i=>(fun t:u0i=>u49 t&&(decide (t.2.1=3)&&decide (t.2.2.2.1≤b.2.2.2.1))) (rdL u0o b.2.1 i)&&(decide (i=0) || (fun x y:u0i=>decide (x.2.2.2.1<y.2.2.2.1)) (rdL u0o b.2.1 (i - 1)) (rdL u0o b.2.1 i))) (.inl b) (.inr false)
  (by rw[s7v];simp only[t2k,u0c,Nat.lt_irrefl,decide_false,cond_false])
  (fun i hi=>by
   have hm:rdL u0o b.2.1 i∈b.2.1:=by rw[y8k hi];exact List.getElem_mem hi
   have ht:=r1n hm
   have hk:=t8s (rdL u0o b.2.1 i) (by omega)
   rw[s7v];simp only[t2k,u0c,hi,decide_true,cond_true,y7t hi,zTn,y7l (show i<4611686018427387904 by omega),r0l (rdL u0o b.2.1 i).2.2.2.1 b.2.2.2.1,t6n,q3x,zOb]
   rw[hk]
   simp only[zOb]
   generalize u49 (rdL u0o b.2.1 i)=b1
   generalize decide ((rdL u0o b.2.1 i).2.1=3)=b2
   generalize decide ((rdL u0o b.2.1 i).2.2.2.1≤b.2.2.2.1)=b3
   by_cases h0:i=0
   ·subst h0;simp only[decide_true,Bool.not_true,cond_false,Bool.true_or,Bool.and_true]
    cases b1<;>cases b2<;>cases b3<;>rfl
   ·simp only[h0,decide_false,Bool.not_false,cond_true,Bool.false_or,t2j (show i<4611686018427387904 by omega) h0,y7t (show i - 1<b.2.1.length by omega),zTn,r98 (rdL u0o b.2.1 (i - 1)).2.2.2.1 (rdL u0o b.2.1 i).2.2.2.1]
    generalize decide ((rdL u0o b.2.1 (i - 1)).2.2.2.1<(rdL u0o b.2.1 i).2.2.2.1)=b4
    cases b1<;>cases b2<;>cases b3<;>cases b4<;>rfl)
 rw[s19 (t:=u0o) b.2.1 (fun t:u0i=>u49 t&&(decide (t.2.1=3)&&decide (t.2.2.2.1≤b.2.2.2.1))) (fun x y:u0i=>decide (x.2.2.2.1<y.2.2.2.1))] at L2
 have L3:=u8e u8g b.2.2.1.length (fun i=>(b,b.2.2.1,(b.2.2.1.length:Int),i)) (fun i=>(fun t:u0i=>u49 t&&(decide (t.2.1=2)&&decide (t.2.2.1≤b.2.2.2.1))) (rdL u0o b.2.2.1 i)&&(decide (i=0) || (fun x y:u0i=>y3c x.2.2.2.2.2.2.2 y.2.2.2.2.2.2.2) (rdL u0o b.2.2.1 (i - 1)) (rdL u0o b.2.2.1 i))) (.inl b) (.inr false)
  (by rw[s7w];simp only[t2l,u0c,Nat.lt_irrefl,decide_false,cond_false])
  (fun i hi=>by
   have hm:rdL u0o b.2.2.1 i∈b.2.2.1:=by rw[y8k hi];exact List.getElem_mem hi
   have ht:=r1n hm
   have hk:=t8s (rdL u0o b.2.2.1 i) (by omega)
   rw[s7w];simp only[t2l,u0c,hi,decide_true,cond_true,y7t hi,zTn,y7l (show i<4611686018427387904 by omega),r0l (rdL u0o b.2.2.1 i).2.2.1 b.2.2.2.1,t6n,r99,zOb]
   rw[hk]
   simp only[zOb]
   generalize u49 (rdL u0o b.2.2.1 i)=b1
   generalize decide ((rdL u0o b.2.2.1 i).2.1=2)=b2
   generalize decide ((rdL u0o b.2.2.1 i).2.2.1≤b.2.2.2.1)=b3
   by_cases h0:i=0
   ·subst h0;simp only[decide_true,Bool.not_true,cond_false,Bool.true_or,Bool.and_true]
    cases b1<;>cases b2<;>cases b3<;>rfl
   ·simp only[h0,decide_false,Bool.not_false,cond_true,Bool.false_or,t2j (show i<4611686018427387904 by omega) h0,y7t (show i - 1<b.2.2.1.length by omega),zTn]
    generalize y3c (rdL u0o b.2.2.1 (i - 1)).2.2.2.2.2.2.2 (rdL u0o b.2.2.1 i).2.2.2.2.2.2.2=b4
    cases b1<;>cases b2<;>cases b3<;>cases b4<;>rfl)
 rw[s19 (t:=u0o) b.2.2.1 (fun t:u0i=>u49 t&&(decide (t.2.1=2)&&decide (t.2.2.1≤b.2.2.2.1))) (fun x y:u0i=>y3c x.2.2.2.2.2.2.2 y.2.2.2.2.2.2.2)] at L3
 have hC:=q6r [b.2.1,b.2.2.1] (by simp only[List.flatten_cons,List.flatten_nil,List.append_nil,List.length_append];omega) (by simp)
 have hf: [b.2.1,b.2.2.1].flatten=b.2.1++b.2.2.1:=by simp
 rw[hf] at hC
 have hI:=r4e (b.2.1++b.2.2.1) b.2.2.2.2 (by rw[List.length_append];omega)
 have hV:=q16 b.1 (by omega)
 rw[q8k];unfold r5l
 rw[hV]
 simp only[r2i,o33,gt3,zOb]
 unfold u5m p4d q9x
 generalize u5y b.1=c1
 generalize inB b.2.2.2.1 0 9999=c3
 generalize inB b.2.2.2.2 1 9999=c4
 generalize decide (b.2.1.length≤12)=c5
 generalize decide (b.2.2.1.length≤3)=c6
 generalize ha1:b.1.all (fun v:u14=>decide (v.2.2.2≤b.2.2.2.1))=a1 at L1
 generalize ha2:b.2.1.all (fun t:u0i=>u49 t&&(decide (t.2.1=3)&&decide (t.2.2.2.1≤b.2.2.2.1)))=a2 at L2
 generalize ha3:q44 u0o (fun x y:u0i=>decide (x.2.2.2.1<y.2.2.2.1)) b.2.1=a3 at L2
 generalize ha4:b.2.2.1.all (fun t:u0i=>u49 t&&(decide (t.2.1=2)&&decide (t.2.2.1≤b.2.2.2.1)))=a4 at L3
 generalize ha5:q44 u0o (fun x y:u0i=>y3c x.2.2.2.2.2.2.2 y.2.2.2.2.2.2.2) b.2.2.1=a5 at L3
 generalize r45 (u6a (b.2.1++b.2.2.1)) b.2.2.2.2=a6 at hI
 have hR:((u9x (b,b.1,(b.1.length:Int),0)).bind fun r5=>match r5 with
  | .inl o6=>(u8f (o6,o6.2.1,(o6.2.1.length:Int),0)).bind fun r10=>match r10 with
   | .inl o11=>(u8g (o11,o11.2.2.1,(o11.2.2.1.length:Int),0)).bind fun r15=>match r15 with
    | .inl o16=>(u22 [o16.2.1,o16.2.2.1]).bind fun y17=>(u80 (y17,o16.2.2.2.2)).bind fun y18=>some y18
    | .inr z19=>some z19
   | .inr z20=>some z20
  | .inr z21=>some z21)=some (a1&&((a2&&a3)&&((a4&&a5)&&a6))):=by
  rw[L1]
  cases a1
  ·rfl
  ·simp only[cond_true,zOb,Bool.true_and]
   rw[L2]
   cases (a2&&a3)
   ·rfl
   ·simp only[cond_true,zOb,Bool.true_and]
    rw[L3]
    cases (a4&&a5)
    ·rfl
    ·simp only[cond_true,zOb,Bool.true_and]
     rw[hC]
     simp only[zOb]
     rw[hI];rfl
 cases c1<;>cases c3<;>cases c4<;>cases c5<;>cases c6<;>simp only[Bool.not_true,Bool.not_false,cond_true,cond_false,zOb,Bool.false_and,Bool.and_false,Bool.true_and,Bool.and_true]
 exact hR
theorem p5g (l:List Int) (n:Int):((List.range l.length).all fun i=>((List.range i).all fun j=> !decide (rdL (Ty.int .i64) l j=rdL (Ty.int .i64) l i))&&decide (rdL (Ty.int .i64) l i<n))=r45 l n:=by
 rw[Bool.eq_iff_iff,List.all_eq_true,r0m]
 constructor
 ·intro h
  constructor
  ·intro x hx
   obtain⟨i,hi,rfl⟩:=List.getElem_of_mem hx
   have:=h i (List.mem_range.mpr hi)
   rw[Bool.and_eq_true,decide_eq_true_eq,y8k (t:=Ty.int .i64) hi] at this
   exact this.2
  ·rw[List.nodup_iff_pairwise_ne,List.pairwise_iff_getElem]
   intro i j hi hj hij e
   have:=h j (List.mem_range.mpr hj)
   rw[Bool.and_eq_true,List.all_eq_true] at this
   have:=this.1 i (List.mem_range.mpr hij)
   rw[y8k (t:=Ty.int .i64) hi,y8k (t:=Ty.int .i64) hj,Bool.not_eq_true',decide_eq_false_iff_not] at this
   exact this e
 ·rintro⟨h1,h2⟩ i hi
  have hi:=List.mem_range.mp hi
  rw[Bool.and_eq_true,decide_eq_true_eq,y8k (t:=Ty.int .i64) hi,List.all_eq_true]
  refine⟨fun j hj=> ?_,h1 _ (List.getElem_mem hi)⟩
  have hj:=List.mem_range.mp hj
  rw[List.nodup_iff_pairwise_ne,List.pairwise_iff_getElem] at h2
  rw[y8k (t:=Ty.int .i64) (show j<l.length by omega),Bool.not_eq_true',decide_eq_false_iff_not]
  exact h2 j i (by omega) hi hj
theorem q95 (b:u0j) (l:List Int) (hl:l.length≤1099511627776):u5r (b,l,0)=some (bif r45 l b.2.2.2.2 then .inl () else .inr false):=by
 have inner:∀i:Nat,i<l.length→u8l (b,l,(i:Int),0)=some (bif (List.range i).all (fun j=> !decide (rdL (Ty.int .i64) l j=rdL (Ty.int .i64) l i)) then .inl (b,l,(i:Int)) else .inr false):=by
  intro i hi
  exact u8e u8l i (fun j=>(b,l,(i:Int),j)) (fun j=> !decide (rdL (Ty.int .i64) l j=rdL (Ty.int .i64) l i)) (.inl (b,l,(i:Int))) (.inr false)
   (by rw[s78];simp only[t2x,u0c,Nat.lt_irrefl,decide_false,cond_false])
   (fun j hj=>by
    rw[s78];simp only[t2x,u0c,hj,decide_true,cond_true,y7t hi,y7t (show j<l.length by omega),zTn,y7l (show j<4611686018427387904 by omega)]
    by_cases e:rdL (Ty.int .i64) l j=rdL (Ty.int .i64) l i
    ·rw[decide_eq_true e];rfl
    ·rw[decide_eq_false e];rfl)
 have L:=u8e u5r l.length (fun i=>(b,l,i)) (fun i=>((List.range i).all fun j=> !decide (rdL (Ty.int .i64) l j=rdL (Ty.int .i64) l i))&&decide (rdL (Ty.int .i64) l i<b.2.2.2.2)) (.inl ()) (.inr false)
  (by rw[s77];simp only[t2w,u0c,Nat.lt_irrefl,decide_false,cond_false])
  (fun i hi=>by
   rw[s77];simp only[t2w,u0c,hi,decide_true,cond_true]
   rw[inner i hi]
   cases (List.range i).all fun j=> !decide (rdL (Ty.int .i64) l j=rdL (Ty.int .i64) l i)
   ·rfl
   ·simp only[cond_true,zOb,y7t hi,zTn,y7l (show i<4611686018427387904 by omega),Bool.true_and]
    rw[r98]
    cases decide (rdL (Ty.int .i64) l i<b.2.2.2.2)<;>rfl)
 rw[p5g] at L
 exact L
theorem p33 (l:List u0i) {i:Nat} (h:i<l.length):u6a (l.take i)++ [(rdL u0o l i).1] =u6a (l.take (i+1)):=by
 rw[y8k h];unfold u6a
 rw[List.take_add_one,List.getElem?_eq_getElem h,List.map_append];rfl
theorem t5r (b:u0j) (hw:q43.wt b≤549755813888):u57 b=some (u5m b):=by
 have hb:u0l=1099511627776:=rfl
 have hbw:=s5o b
 have n1:=t1x (t:=u0b) b.1
 have n2:=t1x (t:=u0o) b.2.1
 have n3:=t1x (t:=u0o) b.2.2.1
 have L1:=u8e u93 b.1.length (fun i=>(b,i)) (fun i=>(fun v:u14=>decide (v.2.2.2≤b.2.2.2.1)) (rdL u0b b.1 i)) (.inl b) (.inr false)
  (by rw[r1w];simp only[t4l,u0c,Nat.lt_irrefl,decide_false,cond_false])
  (fun i hi=>by
   rw[r1w];simp only[t4l,u0c,hi,decide_true,cond_true,y7t hi,zTn,y7l (show i<4611686018427387904 by omega),r0l (rdL u0b b.1 i).2.2.2 b.2.2.2.1]
   cases decide ((rdL u0b b.1 i).2.2.2≤b.2.2.2.1)<;>rfl)
 rw[t41 (t:=u0b) b.1 (fun v:u14=>decide (v.2.2.2≤b.2.2.2.1))] at L1
 have il:∀(l:List u0i) (i:Nat),i≤l.length→(u6a (l.take i)).length=i:=fun l i h=>by unfold u6a;simp;omega
 have L2:=u8e u5q b.2.1.length (fun i=>(b,u6a (b.2.1.take i.toNat),i)) (fun i=>(fun t:u0i=>u49 t&&(decide (t.2.1=3)&&decide (t.2.2.2.1≤b.2.2.2.1))) (rdL u0o b.2.1 i)&&(decide (i=0) || (fun x y:u0i=>decide (x.2.2.2.1<y.2.2.2.1)) (rdL u0o b.2.1 (i - 1)) (rdL u0o b.2.1 i))) (.inl (b,u6a b.2.1)) (.inr false)
  (by rw[s75];simp only[t2u,u0c,Nat.lt_irrefl,decide_false,cond_false,zTn,List.take_length])
  (fun i hi=>by
   have hm:rdL u0o b.2.1 i∈b.2.1:=by rw[y8k hi];exact List.getElem_mem hi
   have ht:=r1n hm
   have hk:=t8t (rdL u0o b.2.1 i) (by omega)
   rw[s75];simp only[t2u,u0c,hi,decide_true,cond_true,y7t hi,zTn,y7l (show i<4611686018427387904 by omega),r0l (rdL u0o b.2.1 i).2.2.2.1 b.2.2.2.1,t6n,zOb]
   rw[hk]
   have hc:Nat.ble ((u6a (b.2.1.take i)).length+ [(rdL u0o b.2.1 i).1].length) z7w=true:=u1w (by rw[il _ _ (by omega)];simp;omega)
   simp only[zOb]
   rw[hc,p33 _ hi]
   generalize u49 (rdL u0o b.2.1 i)=b1
   generalize decide ((rdL u0o b.2.1 i).2.1=3)=b2
   generalize decide ((rdL u0o b.2.1 i).2.2.2.1≤b.2.2.2.1)=b3
   by_cases h0:i=0
   ·subst h0;simp only[decide_true,Bool.not_true,cond_false,Bool.true_or,Bool.and_true]
    cases b1<;>cases b2<;>cases b3<;>rfl
   ·simp only[h0,decide_false,Bool.not_false,cond_true,Bool.false_or,t2j (show i<4611686018427387904 by omega) h0,y7t (show i - 1<b.2.1.length by omega),zTn,r98 (rdL u0o b.2.1 (i - 1)).2.2.2.1 (rdL u0o b.2.1 i).2.2.2.1]
    generalize decide ((rdL u0o b.2.1 (i - 1)).2.2.2.1<(rdL u0o b.2.1 i).2.2.2.1)=b4
    cases b1<;>cases b2<;>cases b3<;>cases b4<;>rfl)
 rw[s19 (t:=u0o) b.2.1 (fun t:u0i=>u49 t&&(decide (t.2.1=3)&&decide (t.2.2.2.1≤b.2.2.2.1))) (fun x y:u0i=>decide (x.2.2.2.1<y.2.2.2.1))] at L2
 have L3:=u8e u8k b.2.2.1.length (fun i=>(b,u6a b.2.1++u6a (b.2.2.1.take i.toNat),i)) (fun i=>(fun t:u0i=>u49 t&&(decide (t.2.1=2)&&decide (t.2.2.1≤b.2.2.2.1))) (rdL u0o b.2.2.1 i)&&(decide (i=0) || (fun x y:u0i=>y3c x.2.2.2.2.2.2.2 y.2.2.2.2.2.2.2) (rdL u0o b.2.2.1 (i - 1)) (rdL u0o b.2.2.1 i))) (.inl (b,u6a (b.2.1++b.2.2.1))) (.inr false)
  (by rw[s76];simp only[t2v,u0c,Nat.lt_irrefl,decide_false,cond_false,zTn,List.take_length];unfold u6a;rw[List.map_append])
  (fun i hi=>by
   have hm:rdL u0o b.2.2.1 i∈b.2.2.1:=by rw[y8k hi];exact List.getElem_mem hi
   have ht:=r1n hm
   have hk:=t8t (rdL u0o b.2.2.1 i) (by omega)
   rw[s76];simp only[t2v,u0c,hi,decide_true,cond_true,y7t hi,zTn,y7l (show i<4611686018427387904 by omega),r0l (rdL u0o b.2.2.1 i).2.2.1 b.2.2.2.1,t6n,zOb]
   rw[hk]
   have hz:(u6a b.2.1).length=b.2.1.length:=by unfold u6a;simp
   have hc:Nat.ble ((u6a b.2.1++u6a (b.2.2.1.take i)).length+ [(rdL u0o b.2.2.1 i).1].length) z7w=true:=u1w (by rw[List.length_append,il _ _ (by omega),hz];simp;omega)
   simp only[zOb]
   rw[hc,List.append_assoc,p33 _ hi]
   generalize u49 (rdL u0o b.2.2.1 i)=b1
   generalize decide ((rdL u0o b.2.2.1 i).2.1=2)=b2
   generalize decide ((rdL u0o b.2.2.1 i).2.2.1≤b.2.2.2.1)=b3
   by_cases h0:i=0
   ·subst h0;simp only[decide_true,Bool.not_true,cond_false,Bool.true_or,Bool.and_true]
    cases b1<;>cases b2<;>cases b3<;>rfl
   ·simp only[h0,decide_false,Bool.not_false,cond_true,Bool.false_or,t2j (show i<4611686018427387904 by omega) h0,y7t (show i - 1<b.2.2.1.length by omega),zTn]
    generalize y3c (rdL u0o b.2.2.1 (i - 1)).2.2.2.2.2.2.2 (rdL u0o b.2.2.1 i).2.2.2.2.2.2.2=b4
    cases b1<;>cases b2<;>cases b3<;>cases b4<;>rfl)
 rw[s19 (t:=u0o) b.2.2.1 (fun t:u0i=>u49 t&&(decide (t.2.1=2)&&decide (t.2.2.1≤b.2.2.2.1))) (fun x y:u0i=>y3c x.2.2.2.2.2.2.2 y.2.2.2.2.2.2.2)] at L3
 have L2' :u5q (b, [],0)=_:=L2
 have e:u6a b.2.1++u6a (b.2.2.1.take (0:Int).toNat)=u6a b.2.1:=by simp[u6a]
 rw[e] at L3
 have hI:=q95 b (u6a (b.2.1++b.2.2.1)) (by unfold u6a;rw[List.length_map,List.length_append];omega)
 have hV:=q17 b.1 (by omega)
 rw[q88];unfold r6b
 rw[hV]
 simp only[s3p,o33,gt3,zOb]
 unfold u5m p4d q9x
 generalize u5y b.1=c1
 generalize inB b.2.2.2.1 0 9999=c3
 generalize inB b.2.2.2.2 1 9999=c4
 generalize decide (b.2.1.length≤12)=c5
 generalize decide (b.2.2.1.length≤3)=c6
 generalize ha1:b.1.all (fun v:u14=>decide (v.2.2.2≤b.2.2.2.1))=a1 at L1
 generalize ha2:b.2.1.all (fun t:u0i=>u49 t&&(decide (t.2.1=3)&&decide (t.2.2.2.1≤b.2.2.2.1)))=a2 at L2'
 generalize ha3:q44 u0o (fun x y:u0i=>decide (x.2.2.2.1<y.2.2.2.1)) b.2.1=a3 at L2'
 generalize ha4:b.2.2.1.all (fun t:u0i=>u49 t&&(decide (t.2.1=2)&&decide (t.2.2.1≤b.2.2.2.1)))=a4 at L3
 generalize ha5:q44 u0o (fun x y:u0i=>y3c x.2.2.2.2.2.2.2 y.2.2.2.2.2.2.2) b.2.2.1=a5 at L3
 generalize r45 (u6a (b.2.1++b.2.2.1)) b.2.2.2.2=a6 at hI
 have hR:((u93 (b,0)).bind fun r5=>match r5 with
  | .inl o6=>(u5q (o6, [],0)).bind fun r9=>match r9 with
   | .inl o10=>(u8k (o10.1,o10.2,0)).bind fun r13=>match r13 with
    | .inl o14=>(u5r (o14.1,o14.2,0)).bind fun r18=>match r18 with
     | .inl o19=>some true
     | .inr z20=>some z20
    | .inr z21=>some z21
   | .inr z22=>some z22
  | .inr z23=>some z23)=some (a1&&((a2&&a3)&&((a4&&a5)&&a6))):=by
  rw[L1]
  cases a1
  ·rfl
  ·simp only[cond_true,zOb,Bool.true_and]
   rw[L2']
   cases (a2&&a3)
   ·rfl
   ·simp only[cond_true,zOb,Bool.true_and]
    rw[L3]
    cases (a4&&a5)
    ·rfl
    ·simp only[cond_true,zOb,Bool.true_and]
     rw[hI]
     cases a6<;>rfl
 cases c1<;>cases c3<;>cases c4<;>cases c5<;>cases c6<;>simp only[Bool.not_true,Bool.not_false,cond_true,cond_false,zOb,Bool.false_and,Bool.and_false,Bool.true_and,Bool.and_true]
 exact hR
theorem p6y (e:s5h):s5m.wt e=q43.wt e.1+(Ty.sl u0o).wt e.2:=rfl
theorem q72 (e:s5h) (hw:s5m.wt e≤u0l):t9l e=some (q9k e):=by
 have hb:u0l=1099511627776:=rfl
 have hew:=p6y e
 have hbw:=s5o e.1
 have n1:=t1x (t:=u0o) e.2
 have n2:=t1x (t:=u0o) e.1.2.1
 have n3:=t1x (t:=u0o) e.1.2.2.1
 have L:=u8e t02 e.2.length (fun i=>(e,e.2,(e.2.length:Int),i)) (fun i=>(fun t:u0i=>u49 t&&(decide (t.2.1=1)&&decide (t.2.2.1≤e.1.2.2.2.1))) (rdL u0o e.2 i)&&(decide (i=0) || (fun x y:u0i=>decide (x.1<y.1)) (rdL u0o e.2 (i - 1)) (rdL u0o e.2 i))) (.inl ()) (.inr false)
  (by rw[s4s];simp only[t0f,u0c,Nat.lt_irrefl,decide_false,cond_false])
  (fun i hi=>by
   have hm:rdL u0o e.2 i∈e.2:=by rw[y8k hi];exact List.getElem_mem hi
   have ht:=r1n hm
   have hk:=t8s (rdL u0o e.2 i) (by omega)
   rw[s4s];simp only[t0f,u0c,hi,decide_true,cond_true,y7t hi,zTn,y7l (show i<4611686018427387904 by omega),r0l (rdL u0o e.2 i).2.2.1 e.1.2.2.2.1,t6n,zOb]
   rw[hk]
   simp only[zOb]
   generalize u49 (rdL u0o e.2 i)=b1
   generalize decide ((rdL u0o e.2 i).2.1=1)=b2
   generalize decide ((rdL u0o e.2 i).2.2.1≤e.1.2.2.2.1)=b3
   by_cases h0:i=0
   ·subst h0;simp only[decide_true,Bool.not_true,cond_false,Bool.true_or,Bool.and_true]
    cases b1<;>cases b2<;>cases b3<;>rfl
   ·simp only[h0,decide_false,Bool.not_false,cond_true,Bool.false_or,t2j (show i<4611686018427387904 by omega) h0,y7t (show i - 1<e.2.length by omega),zTn,r98 (rdL u0o e.2 (i - 1)).1 (rdL u0o e.2 i).1]
    generalize decide ((rdL u0o e.2 (i - 1)).1<(rdL u0o e.2 i).1)=b4
    cases b1<;>cases b2<;>cases b3<;>cases b4<;>rfl)
 rw[s19 (t:=u0o) e.2 (fun t:u0i=>u49 t&&(decide (t.2.1=1)&&decide (t.2.2.1≤e.1.2.2.2.1))) (fun x y:u0i=>decide (x.1<y.1))] at L
 have hC:=q6r [e.1.2.1,e.1.2.2.1,e.2] (by simp only[List.flatten_cons,List.flatten_nil,List.append_nil,List.length_append];omega) (by simp)
 have hf: [e.1.2.1,e.1.2.2.1,e.2].flatten=e.1.2.1++e.1.2.2.1++e.2:=by simp
 rw[hf] at hC
 have hI:=r4e (e.1.2.1++e.1.2.2.1++e.2) e.1.2.2.2.2 (by rw[List.length_append,List.length_append];omega)
 have hB:=u7l e.1 (by omega)
 rw[q2o];unfold s89
 rw[hB]
 simp only[zOb,gt4]
 rw[hC]
 simp only[zOb]
 rw[hI]
 simp only[zOb]
 rw[L]
 unfold q9k p4a
 cases u5m e.1<;>cases decide (e.2.length≤4)<;>cases r45 (u6a (e.1.2.1++e.1.2.2.1++e.2)) e.1.2.2.2.2<;>try rfl
 all_goals
  cases e.2.all (fun t:u0i=>u49 t&&(decide (t.2.1=1)&&decide (t.2.2.1≤e.1.2.2.2.1)))<;>cases q44 u0o (fun x y:u0i=>decide (x.1<y.1)) e.2<;>rfl
theorem p8l {b:u0j} {o:List u0i} (hb:r45 (u6a (b.2.1++b.2.2.1)) b.2.2.2.2=true) (ho:q44 u0o (fun x y:u0i=>decide (x.1<y.1)) o=true):
 r45 (u6a (b.2.1++b.2.2.1++o)) b.2.2.2.2=o.all (fun t=>decide (t.1<b.2.2.2.2)&&((b.2.1.all fun x=> !decide (x.1=t.1))&&(b.2.2.1.all fun x=> !decide (x.1=t.1)))):=by
 rw[o4v (f:=fun t=>t.1)] at ho
 obtain⟨h1,h2⟩:=r0m.mp hb
 rw[Bool.eq_iff_iff,r0m,List.all_eq_true]
 simp only[Bool.and_eq_true,decide_eq_true_eq,List.all_eq_true,Bool.not_eq_true',decide_eq_false_iff_not]
 unfold u6a at*
 constructor
 ·rintro⟨k1,k2⟩ t ht
  rw[List.map_append,List.nodup_append] at k2
  refine⟨k1 _ (List.mem_map.mpr ⟨t,by simp[ht],rfl⟩),fun x hx=> ?_,fun x hx=> ?_⟩
  ·exact k2.2.2 _ (List.mem_map.mpr ⟨x,by simp[hx],rfl⟩) _ (List.mem_map.mpr ⟨t,ht,rfl⟩)
  ·exact k2.2.2 _ (List.mem_map.mpr ⟨x,by simp[hx],rfl⟩) _ (List.mem_map.mpr ⟨t,ht,rfl⟩)
 ·intro k
  constructor
  ·intro x hx
   obtain⟨t,ht,rfl⟩:=List.mem_map.mp hx
   rcases List.mem_append.mp ht with q | q
   ·exact h1 _ (List.mem_map.mpr ⟨t,q,rfl⟩)
   ·exact(k t q).1
  ·rw[List.map_append,List.nodup_append]
   refine⟨h2,?_,?_⟩
   ·rw[List.nodup_iff_pairwise_ne,List.pairwise_map]
    exact ho.imp fun {a b} q e=>by omega
   ·intro a ha c hc e
    obtain⟨x,hx,rfl⟩:=List.mem_map.mp ha
    obtain⟨t,ht,rfl⟩:=List.mem_map.mp hc
    rcases List.mem_append.mp hx with q | q
    ·exact(k t ht).2.1 x q e
    ·exact(k t ht).2.2 x q e
theorem q73 (e:s5h) (hw:s5m.wt e≤549755813888):t96 e=some (q9k e):=by
 have hb:u0l=1099511627776:=rfl
 have hew:=p6y e
 have hbw:=s5o e.1
 have n1:=t1x (t:=u0o) e.2
 have n2:=t1x (t:=u0o) e.1.2.1
 have n3:=t1x (t:=u0o) e.1.2.2.1
 have I1:∀(j:Int) (t:u0i),u55 (e,j,t,0)=some (bif (e.1.2.1.all fun x=> !decide (x.1=t.1)) then .inl (e,j,t) else .inr false):=fun j t=>by
  have L:=u8e u55 e.1.2.1.length (fun i=>(e,j,t,i)) (fun i=>(fun x:u0i=> !decide (x.1=t.1)) (rdL u0o e.1.2.1 i)) (.inl (e,j,t)) (.inr false)
   (by rw[s13];simp only[u9f,u0c,Nat.lt_irrefl,decide_false,cond_false])
   (fun i hi=>by
    rw[s13];simp only[u9f,u0c,hi,decide_true,cond_true,y7t hi,zTn,y7l (show i<4611686018427387904 by omega)]
    cases decide ((rdL u0o e.1.2.1 i).1=t.1)<;>rfl)
  rw[t41 (t:=u0o) e.1.2.1 (fun x:u0i=> !decide (x.1=t.1))] at L
  exact L
 have I2:∀(j:Int) (t:u0i),u4o (e,j,t,0)=some (bif (e.1.2.2.1.all fun x=> !decide (x.1=t.1)) then .inl (e,j) else .inr false):=fun j t=>by
  have L:=u8e u4o e.1.2.2.1.length (fun i=>(e,j,t,i)) (fun i=>(fun x:u0i=> !decide (x.1=t.1)) (rdL u0o e.1.2.2.1 i)) (.inl (e,j)) (.inr false)
   (by rw[s14];simp only[u9g,u0c,Nat.lt_irrefl,decide_false,cond_false])
   (fun i hi=>by
    rw[s14];simp only[u9g,u0c,hi,decide_true,cond_true,y7t hi,zTn,y7l (show i<4611686018427387904 by omega)]
    cases decide ((rdL u0o e.1.2.2.1 i).1=t.1)<;>rfl)
  rw[t41 (t:=u0o) e.1.2.2.1 (fun x:u0i=> !decide (x.1=t.1))] at L
  exact L
 have L:=u8e u5d e.2.length (fun i=>(e,i)) (fun i=>(fun t:u0i=>(u49 t&&(decide (t.2.1=1)&&decide (t.2.2.1≤e.1.2.2.2.1)))&&(decide (t.1<e.1.2.2.2.2)&&((e.1.2.1.all fun x=> !decide (x.1=t.1))&&(e.1.2.2.1.all fun x=> !decide (x.1=t.1))))) (rdL u0o e.2 i)&&(decide (i=0) || (fun x y:u0i=>decide (x.1<y.1)) (rdL u0o e.2 (i - 1)) (rdL u0o e.2 i))) (.inl ()) (.inr false)
  (by rw[s42];simp only[t0p,u0c,Nat.lt_irrefl,decide_false,cond_false])
  (fun i hi=>by
   have hm:rdL u0o e.2 i∈e.2:=by rw[y8k hi];exact List.getElem_mem hi
   have ht:=r1n hm
   have hk:=t8t (rdL u0o e.2 i) (by omega)
   have k1:=I1 (i:Int) (rdL u0o e.2 i)
   have k2:=I2 (i:Int) (rdL u0o e.2 i)
   rw[s42];simp only[t0p,u0c,hi,decide_true,cond_true,y7t hi,zTn,y7l (show i<4611686018427387904 by omega),r0l (rdL u0o e.2 i).2.2.1 e.1.2.2.2.1,r98 (rdL u0o e.2 i).1 e.1.2.2.2.2,t6n,zOb]
   rw[hk,k1]
   simp only[zOb]
   generalize u49 (rdL u0o e.2 i)=b1
   generalize decide ((rdL u0o e.2 i).2.1=1)=b2
   generalize decide ((rdL u0o e.2 i).2.2.1≤e.1.2.2.2.1)=b3
   generalize decide ((rdL u0o e.2 i).1<e.1.2.2.2.2)=b5
   generalize (e.1.2.1.all fun x=> !decide (x.1=(rdL u0o e.2 i).1))=b6
   generalize (e.1.2.2.1.all fun x=> !decide (x.1=(rdL u0o e.2 i).1))=b7 at k2 ⊢
   have tail:((bif b6 then Sum.inl (e,(i:Int),rdL u0o e.2 i) else Sum.inr false:(s5h×Int×u0i)⊕Bool) |>fun r5=>(match r5 with
    | .inl o6=>(u4o (o6.1,o6.2.1,o6.2.2,0)).bind fun r7=>match r7 with
     | .inl o8=>u5d (o8.1,IntKind.i64.wrap (o8.2+1))
     | .inr z9=>some (.inr z9)
    | .inr z10=>some (.inr z10)))=bif b6&&b7 then u5d (e,((i+1:Nat):Int)) else some (.inr false):=by
    cases b6
    ·rfl
    ·simp only[cond_true]
     rw[k2]
     cases b7
     ·rfl
     ·simp only[cond_true,zOb,y7l (show i<4611686018427387904 by omega)];rfl
   by_cases h0:i=0
   ·subst h0;simp only[decide_true,Bool.not_true,cond_false,Bool.true_or,Bool.and_true]
    cases b1<;>cases b2<;>cases b3<;>cases b5<;>try rfl
    exact tail
   ·simp only[h0,decide_false,Bool.not_false,cond_true,Bool.false_or,t2j (show i<4611686018427387904 by omega) h0,y7t (show i - 1<e.2.length by omega),zTn,r98 (rdL u0o e.2 (i - 1)).1 (rdL u0o e.2 i).1]
    generalize decide ((rdL u0o e.2 (i - 1)).1<(rdL u0o e.2 i).1)=b4
    cases b1<;>cases b2<;>cases b3<;>cases b5<;>cases b4<;>(first | rfl | (rw[Bool.and_false];rfl) | (rw[Bool.and_true];exact tail)))
 rw[s19 (t:=u0o) e.2 (fun t:u0i=>(u49 t&&(decide (t.2.1=1)&&decide (t.2.2.1≤e.1.2.2.2.1)))&&(decide (t.1<e.1.2.2.2.2)&&((e.1.2.1.all fun x=> !decide (x.1=t.1))&&(e.1.2.2.1.all fun x=> !decide (x.1=t.1))))) (fun x y:u0i=>decide (x.1<y.1)),p6s] at L
 have hB:=t5r e.1 (by omega)
 rw[q3e];unfold s9y
 rw[hB]
 simp only[zOb,gt4]
 rw[L]
 unfold q9k p4a
 cases h1:u5m e.1
 ·rfl
 ·have hbi:r45 (u6a (e.1.2.1++e.1.2.2.1)) e.1.2.2.2.2=true:=by
   have:=q62.mp h1
   exact r0m.mpr ⟨this.below,this.nodup⟩
  cases ha:q44 u0o (fun x y:u0i=>decide (x.1<y.1)) e.2
  ·cases decide (e.2.length≤4)<;>simp
  ·rw[p8l hbi ha]
   cases decide (e.2.length≤4)
   ·rfl
   ·simp only[Bool.not_true,cond_false,zOb,Bool.true_and,Bool.and_true]
    cases (e.2.all fun t:u0i=>u49 t&&(decide (t.2.1=1)&&decide (t.2.2.1≤e.1.2.2.2.1)))
    ·rfl
    ·simp only[Bool.true_and]
     cases (e.2.all fun t:u0i=>decide (t.1<e.1.2.2.2.2)&&((e.1.2.1.all fun x=> !decide (x.1=t.1))&&(e.1.2.2.1.all fun x=> !decide (x.1=t.1))))<;>rfl
end
section
theorem r74 {E:Type} (a:List E) (n:Nat) (h:n≤a.length) (z:List E):(a.take n++z).take n=a.take n:=by
 rw[List.take_append_of_le_length (by rw[List.length_take];omega),List.take_take,Nat.min_self]
theorem u96 {E:Type} (p:E→Bool) (l:List E):(l.filter p).length≤l.length:=List.length_filter_le _ _
theorem p2m (l:List u0i) (c:Int) (hl:l.length≤8388608):u12 (l,c)=some (l.filter fun x=> !decide (x.2.2.2.1≤c)):=by
 have hq:∀x∈l,u61 (x,c)=some (decide (x.2.2.2.1≤c)):=fun x _=>by rw[q2v];rfl
 have L:=Q.first (T:=u0o) (c:=Int) (W:=u1c) (q:=u61) (p:=fun x:u0i=>decide (x.2.2.2.1≤c)) (fun x=>u8b x) l c (by omega) hq
 rw[u8v];unfold u3t
 simp only[u87,u36,L,zOb]
 by_cases hk:u1n (fun x:u0i=>decide (x.2.2.2.1≤c)) l<l.length
 ·obtain⟨a,e1,e2,e3⟩:=Q.delete (T:=u0o) (c:=Int) (W:=u04) (q:=u61) (p:=fun x:u0i=>decide (x.2.2.2.1≤c)) (fun x=>u7b x) l c (by omega) hq hk
  have hn:=u96 (fun x:u0i=> !decide (x.2.2.2.1≤c)) l
  obtain⟨n,hne⟩:∃n,n=(l.filter fun x:u0i=> !decide (x.2.2.2.1≤c)).length:=⟨_,rfl⟩
  rw[←hne] at e1 e3 hn
  have c1:decide (((u1n (fun x:u0i=>decide (x.2.2.2.1≤c)) l:Nat):Int)= -1)=false:=by simp
  have c2:decide ((0:Int)≤(n:Int))=true:=by simp
  have c3:decide ((n:Int)≤(a.length:Int))=true:=by simp;omega
  have c4:decide ((a.length:Int)≤(a.length:Int))=true:=by simp
  have hw:=y7l (i:=u1n (fun x:u0i=>decide (x.2.2.2.1≤c)) l) (by omega)
  simp only[if_pos hk,zOb,c1,cond_false,hw,e1,c2,c3,c4,Bool.and_self,cond_true,zTn,decide_true,Int.le_refl]
  have c5:decide ((n:Int)≤((a.take n++List.replicate (a.length - n) u0o.zero++a.drop (n+(a.length - n))).length:Int))=true:=by simp;omega
  have c6:(a.take n++List.replicate (a.length - n) u0o.zero++a.drop (n+(a.length - n))).take (n - (0:Int).toNat)=l.filter fun x:u0i=> !decide (x.2.2.2.1≤c):=by
   rw[List.append_assoc,Int.toNat_zero,Nat.sub_zero,r74 a n (by omega),e3]
  simp only[c5,Bool.and_self,cond_true,c6]
 ·have hall:(l.filter fun x:u0i=> !decide (x.2.2.2.1≤c))=l:=by
   rw[List.filter_eq_self]
   intro x hx
   obtain⟨i,hi,rfl⟩:=List.getElem_of_mem hx
   rw[t5t (p:=fun x:u0i=>decide (x.2.2.2.1≤c)) hi (by omega)]
   rfl
  simp only[if_neg hk,zOb,decide_true,cond_true,hall]
end
section
def u4b (b:u0j) (o:List u0i):u0j:=(u2x b.1 (t45 b o),b.2.1.filter (fun x=> !decide (x.2.2.2.1≤t45 b o)),b.2.2)
theorem t5s (b:u0j) (o:List u0i) (hb:p1f b) (ho:o.length≤4194304):u46 (b,o)=some (u4b b o):=by
 have h1:=t8o b hb
 have h2:=p2p b o ho
 have h3:=p2m b.2.1 (t45 b o) (by have:=hb.2.1.1;omega)
 have h4:=p0m b.1 (t45 b o) (by have:=hb.1;omega)
 rw[q8r];unfold r5s u4b
 simp only[h1,h2,h3,h4,zOb]
theorem q15 (b:u0j) (o:List u0i) (hb:p1f b) (ho:o.length≤4194304):t8m (b,o)=some (u4b b o):=by
 have h1:=t8p b hb
 have h2:=p2q b o ho
 have h4:=p0n b.1 (t45 b o) (by have:=hb.1;omega)
 have hl:=hb.2.1.1
 have L:=s22 t4z b.2.1 (fun a i=>(b,(([], [], [],0,0):u0j),(b.1,a,b.2.2),t45 b o,i)) (fun x=> !decide (x.2.2.2.1≤t45 b o)) (fun x=>x) (fun a=> .inl (b,(([], [], [],0,0):u0j),(b.1,a,b.2.2),t45 b o)) (by omega)
  (fun a _=>by rw[r12];simp only[t4p,u0c,Nat.lt_irrefl,decide_false,cond_false])
  (fun i hi a ha=>by
   have hc:=t7a b.2.1[i] (hb.2.1.2 _ (List.getElem_mem hi))
   rw[r12]
   simp only[t4p,u0c,hi,decide_true,cond_true,y7t hi,zTn,y8k (t:=u0o) hi,hc,zOb,List.length_singleton,u1w (show a.length+1≤1099511627776 by omega)]
   rw[y7l (by omega)]
   by_cases h:b.2.1[i].2.2.2.1≤t45 b o
   ·have h' : ¬b.2.1[i].2.2.2.1 >t45 b o:=Int.not_lt.mpr h
    simp[h,h']
   ·have h' :b.2.1[i].2.2.2.1 >t45 b o:=Int.not_le.mp h
    simp[h,h'])
 rw[List.map_id'] at L
 rw[q9f];unfold r6i u4b
 simp only[h1,h2,zOb,L,h4]
end
section
theorem p4y (l:List u0i) (c:u0i) (hl:l.length≤8388608):u1f (l,c)=some (l.filter fun x=> !decide (x.1=c.1)):=by
 have hq:∀x∈l,u5w (x,c)=some (decide (x.1=c.1)):=fun x _=>by rw[q0y];rfl
 have L:=Q.first (T:=u0o) (c:=u0i) (W:=u07) (q:=u5w) (p:=fun x:u0i=>decide (x.1=c.1)) (fun x=>u7e x) l c (by omega) hq
 rw[u73];unfold u3k
 simp only[u8y,u3w,L,zOb]
 by_cases hk:u1n (fun x:u0i=>decide (x.1=c.1)) l<l.length
 ·obtain⟨a,e1,e2,e3⟩:=Q.delete (T:=u0o) (c:=u0i) (W:=u00) (q:=u5w) (p:=fun x:u0i=>decide (x.1=c.1)) (fun x=>u68 x) l c (by omega) hq hk
  have hn:=u96 (fun x:u0i=> !decide (x.1=c.1)) l
  obtain⟨n,hne⟩:∃n,n=(l.filter fun x:u0i=> !decide (x.1=c.1)).length:=⟨_,rfl⟩
  rw[←hne] at e1 e3 hn
  have c1:decide (((u1n (fun x:u0i=>decide (x.1=c.1)) l:Nat):Int)= -1)=false:=by simp
  have c2:decide ((0:Int)≤(n:Int))=true:=by simp
  have c3:decide ((n:Int)≤(a.length:Int))=true:=by simp;omega
  have c4:decide ((a.length:Int)≤(a.length:Int))=true:=by simp
  have hw:=y7l (i:=u1n (fun x:u0i=>decide (x.1=c.1)) l) (by omega)
  simp only[if_pos hk,zOb,c1,cond_false,hw,e1,c2,c3,c4,Bool.and_self,cond_true,zTn,decide_true,Int.le_refl]
  have c5:decide ((n:Int)≤((a.take n++List.replicate (a.length - n) u0o.zero++a.drop (n+(a.length - n))).length:Int))=true:=by simp;omega
  have c6:(a.take n++List.replicate (a.length - n) u0o.zero++a.drop (n+(a.length - n))).take (n - (0:Int).toNat)=l.filter fun x:u0i=> !decide (x.1=c.1):=by
   rw[List.append_assoc,Int.toNat_zero,Nat.sub_zero,r74 a n (by omega),e3]
  simp only[c5,Bool.and_self,cond_true,c6]
 ·have hall:(l.filter fun x:u0i=> !decide (x.1=c.1))=l:=by
   rw[List.filter_eq_self]
   intro x hx
   obtain⟨i,hi,rfl⟩:=List.getElem_of_mem hx
   rw[t5t (p:=fun x:u0i=>decide (x.1=c.1)) hi (by omega)]
   rfl
  simp only[if_neg hk,zOb,decide_true,cond_true,hall]
def q1o (d x:u0i):u0i:=(x.1,x.2.1,x.2.2.1,x.2.2.2.1,x.2.2.2.2.1,x.2.2.2.2.2.1,(x.2.2.2.2.2.2.1 || ahead x d),x.2.2.2.2.2.2.2)
end
section
theorem p3w (t:u0i) (b0:u0j) (v:List u14) (p R:List u0i) (c n:Int) (d:u0i) (hR:p62 R) (hd:q93 d):
 u5p (t,b0,(v,p,R,c,n),d,(),(R.length:Int),0)=some (.inl (t,b0,(v,p,R.map (q1o d),c,n),d)):=by
 have hl:=hR.1
 have L:=q19 u5p R.length (fun(a:List u0i) i=>(t,b0,((v,p,a,c,n):u0j),d,(),(R.length:Int),i)) (fun i=>(R.take i).map (q1o d)++R.drop i) (.inl (t,b0,((v,p,R.map (q1o d),c,n):u0j),d))
  (by
   rw[s70]
   simp only[t2p,u0c,Nat.lt_irrefl,decide_false,cond_false,List.take_length,List.drop_length,List.append_nil])
  (fun i hi=>by
   have hm:((R.take i).map (q1o d)).length=i:=by simp;omega
   have hd1:R.drop i=R[i] ::R.drop (i+1):=List.drop_eq_getElem_cons hi
   have hal:i<((R.take i).map (q1o d)++R.drop i).length:=by simp;omega
   have hg:((R.take i).map (q1o d)++R.drop i)[i] =R[i] :=by
    rw[List.getElem_append_right (by omega),List.getElem_drop]
    congr 1
    omega
   have hset:∀y:u0i,((R.take i).map (q1o d)++R.drop i).set i y=(R.take i).map (q1o d)++y::R.drop (i+1):=fun y=>by
    rw[List.set_append_right _ _ (by omega),hm,Nat.sub_self,hd1,List.set_cons_zero]
   have hnx:(R.take (i+1)).map (q1o d)++R.drop (i+1)=(R.take i).map (q1o d)++q1o d R[i] ::R.drop (i+1):=by
    rw[List.take_succ_eq_append_getElem hi,List.map_append]
    simp
   have ha:=q6o R[i] d (p1e (hR.2 _ (List.getElem_mem hi)).1) (p1e hd.2)
   rw[s70]
   simp only[t2p,u0c,hi,decide_true,cond_true,y7t hal,zTn,y8k (t:=u0o) hal,hg,ha,zOb,hset]
   rw[y7l (by omega),hnx]
   unfold q1o
   cases h1:R[i].2.2.2.2.2.2.1 with
   | true=>simp
   | false=>simp)
 simpa using L
end
section
def q67 (b:u0j) (t:u0i):u0i:=(t.1,(3:Int),t.2.2.1,IntKind.i64.wrap (b.2.2.2.1+1),t.2.2.2.2.1,t.2.2.2.2.2.1,(t.2.2.2.2.2.2.1 || q34 t b.2.1),(⟨#[]⟩:ByteArray))
def t8n (b:u0j) (t:u0i):u0j:=
 (t4e b.1 t.2.2.2.2.2.1 (IntKind.i64.wrap (b.2.2.2.1+1)),b.2.1++ [q67 b t],(b.2.2.1.filter fun x=> !decide (x.1=t.1)).map (q1o (q67 b t)),IntKind.i64.wrap (b.2.2.2.1+1),y8h b.2.2.2.2 (IntKind.i64.wrap (t.1+1)))
theorem p0i (b:u0j) (t:u0i) (hb:p1f b) (ht:q93 t):t2b (b,t)=some (t8n b t):=by
 have h1:=t8o b hb
 have h2:=q1x t ht
 have h3:=q0l b.1 t.2.2.2.2.2.1 (IntKind.i64.wrap (b.2.2.2.1+1)) (by have:=hb.1;have:=ht.2;omega)
 have h4:=p4y b.2.2.1 t (by have:=hb.2.2.1;omega)
 have h5:=q6t t b.2.1 ht hb.2.1
 have hf:p62 (b.2.2.1.filter fun x=> !decide (x.1=t.1)):=⟨Nat.le_trans (u96 _ _) hb.2.2.1,fun x hx=>hb.2.2.2 x (List.mem_filter.mp hx).1⟩
 have hp:=hb.2.1.1
 have hc:∀d:u0i,Nat.ble (b.2.1.length+([d] :List u0i).length) z7w=true:=fun d=>u1w (by simp;omega)
 rw[q5g];unfold r27 t8n q67
 simp only[h1,h2,h3,h4,h5,zOb]
 cases ho:t.2.2.2.2.2.2.1 with
 | true=>
  have hd:q93 ((t.1,(3:Int),t.2.2.1,IntKind.i64.wrap (b.2.2.2.1+1),t.2.2.2.2.1,t.2.2.2.2.2.1,true,(⟨#[]⟩:ByteArray)):u0i):=ht
  have L:=p3w t ([], [], [],0,0) (t4e b.1 t.2.2.2.2.2.1 (IntKind.i64.wrap (b.2.2.2.1+1))) b.2.1 (b.2.2.1.filter fun x=> !decide (x.1=t.1)) (IntKind.i64.wrap (b.2.2.2.1+1)) b.2.2.2.2 _ hf hd
  simp only[cond_true,L,zOb,hc,Bool.true_or]
 | false=>
  have hd:q93 ((t.1,(3:Int),t.2.2.1,IntKind.i64.wrap (b.2.2.2.1+1),t.2.2.2.2.1,t.2.2.2.2.2.1,q34 t b.2.1,(⟨#[]⟩:ByteArray)):u0i):=ht
  have L:=p3w t ([], [], [],0,0) (t4e b.1 t.2.2.2.2.2.1 (IntKind.i64.wrap (b.2.2.2.1+1))) b.2.1 (b.2.2.1.filter fun x=> !decide (x.1=t.1)) (IntKind.i64.wrap (b.2.2.2.1+1)) b.2.2.2.2 _ hf hd
  simp only[cond_false,cond_true,h5,zOb,L,hc,Bool.false_or]
end
section
def q1t (b:u0j) (t:u0i):u0j:=
 ((t8n b t).1,(t8n b t).2.1,(t8n b t).2.2.1,(t8n b t).2.2.2.1,if t.1≥b.2.2.2.2 then IntKind.i64.wrap (t.1+1) else b.2.2.2.2)
theorem p0h (b:u0j) (t:u0i) (b0:u0j) (v:List u14) (p:List u0i) (c n:Int) (d:u0i) (hb:p1f b) (hd:q93 d):
 u5e (b,t,b0,(v,p, [],c,n),d,0)=some (.inl (t,b0,(v,p,(b.2.2.1.filter fun x=> !decide (x.1=t.1)).map (q1o d),c,n))):=by
 have hl:=hb.2.2.1
 exact s22 u5e b.2.2.1 (fun a i=>(b,t,b0,((v,p,a,c,n):u0j),d,i)) (fun x=> !decide (x.1=t.1)) (q1o d) (fun a=> .inl (t,b0,((v,p,a,c,n):u0j))) (by omega)
  (fun a _=>by rw[s47];simp only[t0u,u0c,Nat.lt_irrefl,decide_false,cond_false])
  (fun i hi a ha=>by
   have h1:=t7a b.2.2.1[i] (hb.2.2.2 _ (List.getElem_mem hi))
   have h2:=q6p b.2.2.1[i] d (p1e (hb.2.2.2 _ (List.getElem_mem hi)).1) (p1e hd.2)
   rw[s47]
   simp only[t0u,u0c,hi,decide_true,cond_true,y7t hi,zTn,y8k (t:=u0o) hi,h1,h2,zOb,List.length_singleton,u1w (show a.length+1≤1099511627776 by omega)]
   rw[y7l (by omega)]
   cases decide (b.2.2.1[i].1=t.1) with
   | true=>rfl
   | false=>
    simp only[cond_false,Bool.not_false,cond_true]
    unfold q1o
    cases ahead b.2.2.1[i] d with
    | true=>simp
    | false=>simp)
end
section
theorem p0j (b:u0j) (t:u0i) (hb:p1f b) (ht:q93 t):t2e (b,t)=some (q1t b t):=by
 have h1:=t8p b hb
 have h2:=t7a t ht
 have h3:=q0m b.1 t.2.2.2.2.2.1 (IntKind.i64.wrap (b.2.2.2.1+1)) (by have:=hb.1;have:=ht.2;omega)
 have h5:=q6u t b.2.1 ht hb.2.1
 have hp:=hb.2.1.1
 have hc:∀d:u0i,Nat.ble (b.2.1.length+([d] :List u0i).length) z7w=true:=fun d=>u1w (by simp;omega)
 rw[q59];unfold r3x q1t t8n q67
 simp only[h1,h2,h3,h5,zOb]
 cases ho:t.2.2.2.2.2.2.1 with
 | true=>
  have hd:q93 ((t.1,(3:Int),t.2.2.1,IntKind.i64.wrap (b.2.2.2.1+1),t.2.2.2.2.1,t.2.2.2.2.2.1,true,(⟨#[]⟩:ByteArray)):u0i):=ht
  have L:=fun p=>p0h b t ([], [], [],0,0) (t4e b.1 t.2.2.2.2.2.1 (IntKind.i64.wrap (b.2.2.2.1+1))) p (IntKind.i64.wrap (b.2.2.2.1+1)) b.2.2.2.2 _ hb hd
  simp only[cond_true,L,zOb,hc,Bool.true_or]
  by_cases h:t.1≥b.2.2.2.2<;>simp[h]
 | false=>
  have hd:q93 ((t.1,(3:Int),t.2.2.1,IntKind.i64.wrap (b.2.2.2.1+1),t.2.2.2.2.1,t.2.2.2.2.2.1,q34 t b.2.1,(⟨#[]⟩:ByteArray)):u0i):=ht
  have L:=fun p=>p0h b t ([], [], [],0,0) (t4e b.1 t.2.2.2.2.2.1 (IntKind.i64.wrap (b.2.2.2.1+1))) p (IntKind.i64.wrap (b.2.2.2.1+1)) b.2.2.2.2 _ hb hd
  simp only[cond_false,cond_true,h5,zOb,L,hc,Bool.false_or]
  by_cases h:t.1≥b.2.2.2.2<;>simp[h]
end
section
def smallB (b:u0j):Prop:=b.1.length≤1048576∧(b.2.1.length≤1048576∧ ∀t∈b.2.1,q93 t)∧b.2.2.1.length≤1048576∧ ∀t∈b.2.2.1,q93 t
theorem smallB.few {b:u0j} (h:smallB b):p1f b:=⟨by have:=h.1;omega,⟨by have:=h.2.1.1;omega,h.2.1.2⟩,⟨by have:=h.2.2.1;omega,h.2.2.2⟩⟩
end
section
def p5f (b:u0j):Bool:=decide ((b.2.1.length:Int)≥12) || (decide ((b.1.length:Int) >100) || decide (b.2.2.2.1≥9999))
end
section
def u10 (n i:Int):Int:=if i<n then n else i+1
def q2j (b:u0j) (t:u0i):u0i:=(t.1,(3:Int),t.2.2.1,b.2.2.2.1+1,t.2.2.2.2.1,t.2.2.2.2.2.1,(t.2.2.2.2.2.2.1 || q34 t b.2.1),(⟨#[]⟩:ByteArray))
def u2g (b:u0j) (t:u0i):u0j:=
 (t4e b.1 t.2.2.2.2.2.1 (b.2.2.2.1+1),b.2.1++ [q2j b t],(b.2.2.1.filter fun x=> !decide (x.1=t.1)).map (q1o (q2j b t)),b.2.2.2.1+1,u10 b.2.2.2.2 t.1)
def s4n (b:u0j) (t:u0i) (n:ByteArray):u0i:=(t.1,(2:Int),t.2.2.1,t.2.2.2.1,t.2.2.2.2.1,t.2.2.2.2.2.1,(t.2.2.2.2.2.2.1 || q34 t b.2.1),n)
def u99 (b:u0j) (t:u0i) (n:ByteArray):u0j:=
 (b.1,b.2.1,(b.2.2.1.filter fun x=>y3c x.2.2.2.2.2.2.2 n)++ [s4n b t n] ++(b.2.2.1.filter fun x=> !y3c x.2.2.2.2.2.2.2 n),b.2.2.2.1,u10 b.2.2.2.2 t.1)
def t43 (b:u0j) (n:ByteArray):u0j:=(b.1,b.2.1,(b.2.2.1.filter fun x=> !z7o x.2.2.2.2.2.2.2 n),b.2.2.2.1,b.2.2.2.2)
def p8t (n:Int):Prop:= -1000000≤n∧n≤1000000
theorem s17 {n:Int} (h:p8t n):IntKind.i64.wrap (n+1)=n+1:=by
 obtain⟨h1,h2⟩:=h
 rw[y4y (by omega) (by omega)]
theorem q4k {b:u0j} {t:u0i} (hc:p8t b.2.2.2.1) (hi:p8t t.1):t8n b t=u2g b t:=by
 have e:q67 b t=q2j b t:=by unfold q67 q2j;rw[s17 hc]
 unfold t8n u2g
 rw[e,s17 hc,s17 hi]
 unfold y8h u10
 congr 4
 by_cases h:t.1<b.2.2.2.2
 ·rw[if_pos h,if_neg (by omega)]
 ·rw[if_neg h,if_pos (by omega)]
theorem p3l {b:u0j} {t:u0i} (hc:p8t b.2.2.2.1) (hi:p8t t.1):q1t b t=u2g b t:=by
 unfold q1t
 rw[q4k hc hi,s17 hi]
 unfold u2g u10
 congr 4
 by_cases h:t.1<b.2.2.2.2
 ·rw[if_pos h,if_neg (by omega)]
 ·rw[if_neg h,if_pos (by omega)]
def uq (l:List u0i):Prop:=l.Pairwise fun a b=>a.1≠b.1
theorem p18 {l:List u0i} :(u6a l).Nodup↔uq l:=by
 unfold u6a uq;rw[List.nodup_iff_pairwise_ne,List.pairwise_map]
theorem o6i {a b:List u0i} :uq (a++b)↔uq a∧uq b∧ ∀x∈a,∀y∈b,x.1≠y.1:=List.pairwise_append
theorem q4m {l:List u0i} (h:uq l) (p:u0i→Bool):uq (l.filter p):=List.Pairwise.filter p h
theorem o25 {l:List u0i} (f:u0i→u0i) (hf:∀x,(f x).1=x.1) (h:uq l):uq (l.map f):=by
 unfold uq;rw[List.pairwise_map];simp only[hf];exact h
theorem o27 {t:u0i} :uq [t] :=List.pairwise_singleton _ _
theorem o26 {l:List u0i} :uq l→ ∀x∈l,∀y∈l,x.1=y.1→x=y:=by
 induction l with
 | nil=>intro _ x hx;cases hx
 | cons z l ih=>
  intro h x hx y hy e
  have h' :=List.pairwise_cons.mp h
  rcases List.mem_cons.mp hx with rfl | hx' <;>rcases List.mem_cons.mp hy with rfl | hy'
  ·rfl
  ·exact absurd e (h'.1 y hy')
  ·exact absurd e.symm (h'.1 x hx')
  ·exact ih h'.2 x hx' y hy' e
theorem r0g {l:List u0i} {n:Int} :(∀x∈u6a l,x<n)↔ ∀t∈l,t.1<n:=by
 unfold u6a
 constructor
 ·exact fun h t ht=>h _ (List.mem_map.mpr ⟨t,ht,rfl⟩)
 ·intro h x hx
  obtain⟨t,ht,rfl⟩:=List.mem_map.mp hx
  exact h t ht
theorem o2n {d x:u0i} (h:TxnR x) (hs:x.2.1=2):TxnR (q1o d x):=
 ⟨h.id,h.st,h.snap,h.rlen,h.ws,h.rs,h.done,h.nocs,h.name,h.noname,fun e=>by have e:x.2.1=1:=e;omega⟩
theorem o0l {b:u0j} {t:u0i} (ht:TxnR t) (hs:t.2.2.1≤b.2.2.2.1) (hc:b.2.2.2.1<9999):TxnR (q2j b t):=
 ⟨ht.id,⟨by show(1:Int)≤3;omega,by show(3:Int)≤3;omega⟩,ht.snap,ht.rlen,ht.ws,ht.rs,fun _=>⟨by show t.2.2.1+1≤b.2.2.2.1+1;omega,by show b.2.2.2.1+1≤9999;omega⟩,
   fun e=>absurd rfl e,fun e=>by have e:(3:Int)=2:=e;omega,fun _=>rfl,fun e=>by have e:(3:Int)=1:=e;omega⟩
theorem p88 {b:u0j} {t:u0i} {n:ByteArray} (ht:TxnR t) (hs:t.2.1≠3) (hn:t2a n=true):TxnR (s4n b t n):=
 ⟨ht.id,⟨by show(1:Int)≤2;omega,by show(2:Int)≤3;omega⟩,ht.snap,ht.rlen,ht.ws,ht.rs,fun e=>by have e:(2:Int)=3:=e;omega,
   fun _=>ht.nocs hs,fun _=>hn,fun e=>absurd rfl e,fun e=>by have e:(2:Int)=1:=e;omega⟩
theorem p9o {w:WrT} {c:Int} (h:u8c w=true) (h1:1≤c) (h2:c≤9999):r5a (w.1,w.2.1,w.2.2,c)=true:=by
 unfold u8c at h
 unfold r5a
 simp only[Bool.and_eq_true,r8p] at h ⊢
 exact⟨h.1,h.2.1,h.2.2,h1,h2⟩
theorem p81 {l:List u14} {ws:List WrT} {c:Int} (hl:u5y l=true) (hv:∀v∈l,v.2.2.2≤c) (hw:t1r ws=true) (h0:0≤c) (h9:c<9999) (hn:l.length≤112):
 u5y (t4e l ws (c+1))=true∧ ∀v∈t4e l ws (c+1),v.2.2.2≤c+1:=by
 obtain⟨h1,h2,h3⟩:=p76.mp hl
 obtain⟨w1,w2,w3⟩:=p96.mp hw
 refine⟨p76.mpr ⟨fun v h=> ?_,r7b ws h2 (p2c hw) fun x hx w _ q=>by have:=hv x hx;have:vCs x=c+1:=q.2;unfold vCs at this;omega,by rw[q36];omega⟩,fun v h=> ?_⟩
 ·rcases(t7i ws l (c+1)).mp h with h | ⟨w,hw,rfl⟩
  ·exact h1 v h
  ·exact p9o (w1 w hw) (by omega) (by omega)
 ·rcases(t7i ws l (c+1)).mp h with h | ⟨w,hw,rfl⟩
  ·have:=hv v h;omega
  ·exact Int.le_refl _
theorem p1q {n i:Int} (h:i<n):u10 n i=n:=if_pos h
theorem s1h (n i:Int):n≤u10 n i∧i<u10 n i:=by unfold u10;split<;>omega
theorem p14 {b:u0j} {t:u0i} (hb:BaseR b) (ht:TxnR t) (hs:t.2.2.1≤b.2.2.2.1) (hc:b.2.2.2.1<9999) (hp:b.2.1.length<12) (hv:b.1.length≤112)
 (hid:∀x∈b.2.1,x.1≠t.1) (hn:t.1<9999):BaseR (u2g b t):=by
 have c0:=hb.cs.1
 obtain⟨v1,v2⟩:=p81 hb.vs hb.vcs ht.ws c0 hc hv
 have hu:=p18.mp hb.nodup
 have hbl:=r0g.mp hb.below
 obtain⟨u1,u2,u3⟩:=o6i.mp hu
 have hg:=s1h b.2.2.2.2 t.1
 have hnx:u10 b.2.2.2.2 t.1≤9999:=by have:=hb.next.2;unfold u10;split<;>omega
 refine⟨v1,v2,⟨by show 0≤b.2.2.2.1+1;omega,by show b.2.2.2.1+1≤9999;omega⟩,⟨by show 1≤u10 b.2.2.2.2 t.1;have:=hb.next.1;omega,hnx⟩,?_,?_,?_,?_,?_,?_,?_,?_⟩
 ·show(b.2.1++ [q2j b t]).length≤12
  simp only[List.length_append,List.length_singleton];omega
 ·intro x hx
  rcases List.mem_append.mp hx with hx | hx
  ·obtain⟨q1,q2,q3⟩:=hb.past x hx
   exact⟨q1,q2,by show x.2.2.2.1≤b.2.2.2.1+1;omega⟩
  ·rw[List.mem_singleton] at hx
   subst hx
   exact⟨o0l ht hs hc,rfl,Int.le_refl _⟩
 ·show(b.2.1++ [q2j b t]).Pairwise _
  rw[List.pairwise_append]
  refine⟨hb.pasc,List.pairwise_singleton _ _,fun x hx y hy=> ?_⟩
  rw[List.mem_singleton] at hy
  subst hy
  have:=(hb.past x hx).2.2
  show x.2.2.2.1<b.2.2.2.1+1
  omega
 ·show((b.2.2.1.filter _).map _).length≤3
  rw[List.length_map]
  exact Nat.le_trans (List.length_filter_le _ _) hb.rlen
 ·intro x hx
  obtain⟨y,hy,rfl⟩:=List.mem_map.mp hx
  obtain⟨q1,q2,q3⟩:=hb.ready y (List.mem_filter.mp hy).1
  exact⟨o2n q1 q2,q2,by show y.2.2.1≤b.2.2.2.1+1;omega⟩
 ·show((b.2.2.1.filter _).map _).Pairwise _
  rw[List.pairwise_map]
  exact(List.Pairwise.filter _ hb.rasc)
 ·rw[r0g]
  intro x hx
  show x.1<u10 b.2.2.2.2 t.1
  rcases List.mem_append.mp hx with hx | hx
  ·rcases List.mem_append.mp hx with hx | hx
   ·have:=hbl x (List.mem_append_left _ hx);omega
   ·rw[List.mem_singleton] at hx;subst hx;exact hg.2
  ·obtain⟨y,hy,rfl⟩:=List.mem_map.mp hx
   have:=hbl y (List.mem_append_right _ (List.mem_filter.mp hy).1)
   show y.1<_
   omega
 ·rw[p18]
  refine o6i.mpr ⟨o6i.mpr ⟨u1,o27,fun x hx y hy=> ?_⟩,o25 _ (fun _=>rfl) (q4m u2 _),fun x hx y hy=> ?_⟩
  ·rw[List.mem_singleton] at hy;subst hy;exact hid x hx
  ·obtain⟨z,hz,rfl⟩:=List.mem_map.mp hy
   obtain⟨z1,z2⟩:=List.mem_filter.mp hz
   show x.1≠z.1
   rcases List.mem_append.mp hx with hx | hx
   ·exact u3 x hx z z1
   ·rw[List.mem_singleton] at hx;subst hx
    intro e
    simp only[Bool.not_eq_true',decide_eq_false_iff_not] at z2
    exact z2 e.symm
theorem r2g {b:u0j} (hb:BaseR b) (o:List u0i):BaseR (u4b b o):=by
 obtain⟨h1,h2,h3⟩:=p76.mp hb.vs
 have sv:=u8a b.1 (t45 b o)
 have sp:(b.2.1.filter fun x=> !decide (x.2.2.2.1≤t45 b o)).Sublist b.2.1:=List.filter_sublist
 have si:((b.2.1.filter fun x=> !decide (x.2.2.2.1≤t45 b o))++b.2.2.1).Sublist (b.2.1++b.2.2.1):=sp.append (List.Sublist.refl _)
 refine⟨p76.mpr ⟨fun v h=>h1 v (sv.subset h),h2.sublist sv,Nat.le_trans sv.length_le h3⟩,fun v h=>hb.vcs v (sv.subset h),hb.cs,hb.next,Nat.le_trans sp.length_le hb.plen,
  fun t h=>hb.past t (sp.subset h),hb.pasc.sublist sp,hb.rlen,hb.ready,hb.rasc,?_,?_⟩
 ·rw[r0g]
  intro x hx
  exact r0g.mp hb.below x (si.subset hx)
 ·rw[p18]
  exact List.Pairwise.sublist si (p18.mp hb.nodup)
theorem p3a {b:u0j} {t:u0i} {n:ByteArray} (hb:BaseR b) (ht:TxnR t) (h3:t.2.1≠3) (hs:t.2.2.1≤b.2.2.2.1) (hk:t2a n=true) (hl:b.2.2.1.length<3)
 (hn:∀x∈b.2.2.1,x.2.2.2.2.2.2.2≠n) (hid:∀x∈b.2.1++b.2.2.1,x.1≠t.1) (h9:t.1<9999):BaseR (u99 b t n):=by
 have hu:=p18.mp hb.nodup
 have hbl:=r0g.mp hb.below
 obtain⟨u1,u2,u3⟩:=o6i.mp hu
 have hg:=s1h b.2.2.2.2 t.1
 have hnx:u10 b.2.2.2.2 t.1≤9999:=by have:=hb.next.2;unfold u10;split<;>omega
 have mem:∀ {x:u0i},x∈(b.2.2.1.filter fun x=>y3c x.2.2.2.2.2.2.2 n)++ [s4n b t n] ++(b.2.2.1.filter fun x=> !y3c x.2.2.2.2.2.2.2 n)→x∈b.2.2.1∨x=s4n b t n:=fun {x} hx=>by
  rcases List.mem_append.mp hx with hx | hx
  ·rcases List.mem_append.mp hx with hx | hx
   ·exact .inl (List.mem_filter.mp hx).1
   ·rw[List.mem_singleton] at hx;exact .inr hx
  ·exact .inl (List.mem_filter.mp hx).1
 have len:∀(l:List u0i) (p:u0i→Bool),(l.filter p).length+(l.filter fun x=> !p x).length=l.length:=fun l p=>by
  induction l with
  | nil=>rfl
  | cons x l ih=>cases hp:p x<;>simp[List.filter_cons,hp] <;>omega
 refine⟨hb.vs,hb.vcs,hb.cs,⟨by show 1≤u10 b.2.2.2.2 t.1;have:=hb.next.1;omega,hnx⟩,hb.plen,hb.past,hb.pasc,?_,?_,?_,?_,?_⟩
 ·show((b.2.2.1.filter fun x=>y3c x.2.2.2.2.2.2.2 n)++ [s4n b t n] ++(b.2.2.1.filter fun x=> !y3c x.2.2.2.2.2.2.2 n)).length≤3
  have:=len b.2.2.1 fun x=>y3c x.2.2.2.2.2.2.2 n
  simp only[List.length_append,List.length_singleton]
  omega
 ·intro x hx
  rcases mem hx with hx | rfl
  ·exact hb.ready x hx
  ·exact⟨p88 ht h3 hk,rfl,hs⟩
 ·show((b.2.2.1.filter fun x=>y3c x.2.2.2.2.2.2.2 n)++ [s4n b t n] ++(b.2.2.1.filter fun x=> !y3c x.2.2.2.2.2.2.2 n)).Pairwise _
  have up:∀y∈b.2.2.1,(!y3c y.2.2.2.2.2.2.2 n)=true→y3c n y.2.2.2.2.2.2.2=true:=fun y hy h=>by
   rcases r8t y.2.2.2.2.2.2.2 n with c | c | c
   ·rw[c] at h;cases h
   ·exact absurd c (hn y hy)
   ·exact c
  rw[List.append_assoc,List.pairwise_append]
  refine⟨List.Pairwise.filter _ hb.rasc,?_,?_⟩
  ·rw[List.singleton_append,List.pairwise_cons]
   refine⟨fun y hy=> ?_,List.Pairwise.filter _ hb.rasc⟩
   obtain⟨y1,y2⟩:=List.mem_filter.mp hy
   exact up y y1 y2
  ·intro x hx y hy
   obtain⟨x1,x2⟩:=List.mem_filter.mp hx
   rcases List.mem_append.mp hy with hy | hy
   ·rw[List.mem_singleton] at hy;subst hy;exact x2
   ·obtain⟨y1,y2⟩:=List.mem_filter.mp hy
    exact r7h x2 (up y y1 y2)
 ·rw[r0g]
  intro x hx
  show x.1<u10 b.2.2.2.2 t.1
  rcases List.mem_append.mp hx with hx | hx
  ·have:=hbl x (List.mem_append_left _ hx);omega
  ·rcases mem hx with hx | rfl
   ·have:=hbl x (List.mem_append_right _ hx);omega
   ·exact hg.2
 ·rw[p18]
  refine o6i.mpr ⟨u1,?_,fun x hx y hy=> ?_⟩
  ·show uq ((b.2.2.1.filter fun x=>y3c x.2.2.2.2.2.2.2 n)++ [s4n b t n] ++(b.2.2.1.filter fun x=> !y3c x.2.2.2.2.2.2.2 n))
   rw[List.append_assoc]
   refine o6i.mpr ⟨q4m u2 _,?_,fun x hx y hy=> ?_⟩
   ·rw[List.singleton_append]
    refine List.pairwise_cons.mpr ⟨fun y hy=> ?_,q4m u2 _⟩
    exact(hid y (List.mem_append_right _ (List.mem_filter.mp hy).1)).symm
   ·obtain⟨x1,x2⟩:=List.mem_filter.mp hx
    rcases List.mem_append.mp hy with hy | hy
    ·rw[List.mem_singleton] at hy;subst hy
     exact hid x (List.mem_append_right _ x1)
    ·obtain⟨y1,y2⟩:=List.mem_filter.mp hy
     intro e
     have:=o26 u2 x x1 y y1 e
     subst this
     rw[x2] at y2;cases y2
  ·rcases mem hy with hy | rfl
   ·exact u3 x hx y hy
   ·exact hid x (List.mem_append_left _ hx)
theorem q3u {b:u0j} (hb:BaseR b) (n:ByteArray):BaseR (t43 b n):=by
 have sp:(b.2.2.1.filter fun x=> !z7o x.2.2.2.2.2.2.2 n).Sublist b.2.2.1:=List.filter_sublist
 have si:(b.2.1++(b.2.2.1.filter fun x=> !z7o x.2.2.2.2.2.2.2 n)).Sublist (b.2.1++b.2.2.1):=(List.Sublist.refl _).append sp
 refine⟨hb.vs,hb.vcs,hb.cs,hb.next,hb.plen,hb.past,hb.pasc,Nat.le_trans sp.length_le hb.rlen,fun t h=>hb.ready t (sp.subset h),hb.rasc.sublist sp,?_,?_⟩
 ·rw[r0g]
  intro x hx
  exact r0g.mp hb.below x (si.subset hx)
 ·rw[p18]
  exact List.Pairwise.sublist si (p18.mp hb.nodup)
end
section
def p4h (e:s5h) (id:Int):List u0i:=e.2.filter fun x=> !decide (x.1=id)
def o41 (e:s5h) (t:u0i):s5h:=(u4b (u2g e.1 t) e.2,e.2)
def noE (e:s5h) (n:ByteArray):s5h:=(u4b (t43 e.1 n) e.2,e.2)
theorem EngR.uq {e:s5h} (h:EngR e):uq (e.1.2.1++e.1.2.2.1++e.2):=p18.mp h.nodup
theorem EngR.bel {e:s5h} (h:EngR e):∀t∈e.1.2.1++e.1.2.2.1++e.2,t.1<e.1.2.2.2.2:=r0g.mp h.below
theorem EngR.apart {e:s5h} (h:EngR e):∀x∈e.1.2.1++e.1.2.2.1,∀y∈e.2,x.1≠y.1:=(o6i.mp h.uq).2.2
theorem EngR.uqo {e:s5h} (h:EngR e):Ab.uq e.2:=(o6i.mp h.uq).2.1
theorem p37 {e:s5h} {b:u0j} {o:List u0i} (h:EngR e) (hb:BaseR b) (ho:o.Sublist e.2) (hc:e.1.2.2.2.1≤b.2.2.2.1) (hn:e.1.2.2.2.2≤b.2.2.2.2) (hu:∀x∈b.2.1++b.2.2.1,∀y∈o,x.1≠y.1):EngR (b,o):=by
 refine⟨hb,Nat.le_trans ho.length_le h.olen,fun t ht=> ?_,h.oasc.sublist ho,?_,?_⟩
 ·obtain⟨q1,q2,q3⟩:=h.open_ t (ho.subset ht)
  exact⟨q1,q2,by show t.2.2.1≤b.2.2.2.1;omega⟩
 ·rw[r0g]
  intro x hx
  rcases List.mem_append.mp hx with hx | hx
  ·exact r0g.mp hb.below x hx
  ·have:=h.bel x (List.mem_append_right _ (ho.subset hx))
   show x.1<b.2.2.2.2
   omega
 ·rw[p18]
  exact o6i.mpr ⟨p18.mp hb.nodup,List.Pairwise.sublist ho h.uqo,hu⟩
theorem r8v {b:u0j} {o:List u0i} {x:u0i} (h:x∈(u4b b o).2.1++(u4b b o).2.2.1):x∈b.2.1++b.2.2.1:=by
 rcases List.mem_append.mp h with h | h
 ·exact List.mem_append_left _ (List.mem_filter.mp h).1
 ·exact List.mem_append_right _ h
theorem q1s (e:s5h) (id:Int):(p4h e id).Sublist e.2:=List.filter_sublist
theorem o0y {e:s5h} {id:Int} {x:u0i} (h:x∈p4h e id):x.1≠id:=by
 have:=(List.mem_filter.mp h).2
 simpa using this
theorem o06 {e:s5h} (h:EngR e):EngR (u4b e.1 e.2,e.2):=
 p37 h (r2g h.base _) (List.Sublist.refl _) (Int.le_refl _) (Int.le_refl _) fun x hx y hy=>h.apart x (r8v hx) y hy
theorem p32 {b:u0j} (h:p5f b=false):b.2.1.length<12∧b.1.length≤100∧b.2.2.2.1<9999:=by
 unfold p5f at h
 simp only[Bool.or_eq_false_iff,decide_eq_false_iff_not] at h
 obtain⟨h1,h2,h3⟩:=h
 exact⟨by omega,by omega,by omega⟩
theorem q7q {e:s5h} (h:EngR e) {t:u0i} (ht:t∈e.2∨t∈e.1.2.2.1) (hf:p5f e.1=false):BaseR (u2g e.1 t):=by
 obtain⟨f1,f2,f3⟩:=p32 hf
 have hq:TxnR t∧t.2.2.1≤e.1.2.2.2.1:=by
  rcases ht with ht | ht
  ·exact⟨(h.open_ t ht).1,(h.open_ t ht).2.2⟩
  ·exact⟨(h.base.ready t ht).1,(h.base.ready t ht).2.2⟩
 have hlt:t.1<e.1.2.2.2.2:=by
  rcases ht with ht | ht
  ·exact h.bel t (List.mem_append_right _ ht)
  ·exact h.bel t (List.mem_append_left _ (List.mem_append_right _ ht))
 refine p14 h.base hq.1 hq.2 f3 f1 (by omega) (fun x hx=> ?_) (by have:=h.base.next.2;omega)
 rcases ht with ht | ht
 ·exact h.apart x (List.mem_append_left _ hx) t ht
 ·exact(o6i.mp (o6i.mp h.uq).1).2.2 x hx t ht
theorem p3m {b:u0j} {t x:u0i} (h:x∈(u2g b t).2.1++(u2g b t).2.2.1):x.1=t.1∨ ∃y∈b.2.1++b.2.2.1,y.1=x.1:=by
 rcases List.mem_append.mp h with h | h
 ·rcases List.mem_append.mp h with h | h
  ·exact .inr ⟨x,List.mem_append_left _ h,rfl⟩
  ·rw[List.mem_singleton] at h;subst h;exact .inl rfl
 ·obtain⟨y,hy,rfl⟩:=List.mem_map.mp h
  exact .inr ⟨y,List.mem_append_right _ (List.mem_filter.mp hy).1,rfl⟩
theorem o42 {e:s5h} (h:EngR e) {t:u0i} (ht:t∈e.1.2.2.1) (hf:p5f e.1=false):EngR (o41 e t):=by
 have hg:=s1h e.1.2.2.2.2 t.1
 refine p37 h (r2g (q7q h (.inr ht) hf) _) (List.Sublist.refl _) (by show e.1.2.2.2.1≤e.1.2.2.2.1+1;omega) hg.1 fun x hx y hy=> ?_
 rcases p3m (r8v hx) with q | ⟨z,hz,q⟩
 ·rw[q];exact h.apart t (List.mem_append_right _ ht) y hy
 ·rw[←q];exact h.apart z hz y hy
theorem o61 {e:s5h} (h:EngR e) (n:ByteArray):EngR (noE e n):=by
 refine p37 h (r2g (q3u h.base n) _) (List.Sublist.refl _) (Int.le_refl _) (Int.le_refl _) fun x hx y hy=> ?_
 rcases List.mem_append.mp (r8v hx) with hx | hx
 ·exact h.apart x (List.mem_append_left _ hx) y hy
 ·exact h.apart x (List.mem_append_right _ (List.mem_filter.mp hx).1) y hy
end
section
def s0f (n:Nat):List Int:=if h:n<128 then[(n:Int)] else((n % 128+128:Nat):Int)::s0f (n / 128)
termination_by n
decreasing_by omega
theorem r1o {n:Nat} (h:n<128):s0f n= [(n:Int)] :=by rw[s0f,dif_pos h]
theorem r8y {n:Nat} (h: ¬n<128):s0f n=((n % 128+128:Nat):Int)::s0f (n / 128):=by rw[s0f,dif_neg h]
theorem p4p (n:Nat):(s0f n).length≤n+1:=by
 induction n using Nat.strongRecOn with
 | _ n ih=>
  by_cases h:n<128
  ·rw[r1o h];simp
  ·rw[r8y h]
   have:=ih (n / 128) (by omega)
   simp only[List.length_cons];omega
theorem p4q {S:Type} {W:Int×List Int→Option ((Int×List Int)⊕S)}
 (hW:∀x,W x=(bif (decide (x.1 >(127:Int))) then(bif (Nat.ble (x.2.length+([(IntKind.u8.wrap (IntKind.i64.wrap ((Int.tmod x.1 (128:Int))+(128:Int))))] :List Int).length) z7w) then
  (W ((IntKind.i64.wrap (Int.tdiv x.1 (128:Int))),(x.2++([(IntKind.u8.wrap (IntKind.i64.wrap ((Int.tmod x.1 (128:Int))+(128:Int))))] :List Int)))) else none) else(some (.inl x)))):
 ∀(n:Nat) (acc:List Int),acc.length+n≤1000000000000→ ∃m:Nat,∃acc' :List Int,W ((n:Int),acc)=some (.inl ((m:Int),acc'))∧m<128∧acc' ++ [(m:Int)] =acc++s0f n∧acc'.length≤acc.length+n:=by
 intro n
 induction n using Nat.strongRecOn with
 | _ n ih=>
  intro acc hn
  rw[hW]
  by_cases h:n<128
  ·have:decide ((n:Int) >(127:Int))=false:=by simp;omega
   simp only[this,cond_false]
   exact⟨n,acc,rfl,h,by rw[r1o h],by omega⟩
  ·have h1:decide ((n:Int) >(127:Int))=true:=by simp;omega
   have h2:Int.tmod (n:Int) (128:Int)=((n % 128:Nat):Int):=p7r n 128
   have h3:Int.tdiv (n:Int) (128:Int)=((n / 128:Nat):Int):=o4z n 128
   have h4:IntKind.u8.wrap (IntKind.i64.wrap (((n % 128:Nat):Int)+(128:Int)))=((n % 128+128:Nat):Int):=by
    rw[y4y (by omega) (by omega)]
    have:((n % 128:Nat):Int)+128=((n % 128+128:Nat):Int):=by simp
    rw[this,p9q (by omega)]
   simp only[h1,h2,h3,h4,cond_true,List.length_singleton,u1w (show acc.length+1≤1099511627776 by omega)]
   rw[y8b (by omega)]
   obtain⟨m,acc',e1,e2,e3,e4⟩:=ih (n / 128) (by omega) (acc++ [((n % 128+128:Nat):Int)]) (by simp;omega)
   refine⟨m,acc',e1,e2,?_,?_⟩
   ·rw[e3,r8y h,List.append_assoc];rfl
   ·have:(acc++ [((n % 128+128:Nat):Int)]).length=acc.length+1:=by simp
    omega
theorem p1k (n:Nat) (hn:n≤100000000000):u1u (n:Int)=some (y7g (s0f n)):=by
 rw[q9g];unfold r6j
 obtain⟨m,acc',e1,e2,e3,e4⟩:=p4q (W:=t40) (fun x=>q4u x) n [] (by simp;omega)
 have e4:acc'.length≤n:=by simpa using e4
 simp only[e1,zOb,List.length_singleton,u1w (show acc'.length+1≤1099511627776 by omega),cond_true]
 rw[p9q (by omega),e3];rfl
theorem s84 (n:Int):u84 n=some (if 0≤n∧n≤1000000000 then(y7g (s0f n.toNat),true) else(emp,false)):=by
 rw[q5k];unfold r3b
 simp only[t7p,s2a,zOb]
 by_cases h:0≤n∧n≤1000000000
 ·obtain⟨m,rfl⟩:∃m:Nat,n=m:=⟨n.toNat,by omega⟩
  obtain⟨k,acc',e1,e2,e3,e4⟩:=p4q (W:=t3f) (fun x=>q1i x) m [] (by simp;omega)
  have e4:acc'.length≤m:=by simpa using e4
  rw[decide_eq_true h,if_pos h]
  simp only[e1,zOb,Bool.not_true,cond_false,List.length_singleton,u1w (show acc'.length+1≤1099511627776 by omega),cond_true]
  rw[p9q (by omega),e3];rfl
 ·rw[decide_eq_false h,if_neg h];rfl
def s6a:Nat→Nat→Nat→List UInt8→Option (Nat×Nat)
 | 0,_,_,_=>none
 | _+1,_,_, [] =>none
 | f+1,i,n,b::l=>
  if b.toNat<128 then(if n+b.toNat % 128*128^i≤1000000000∧(s0f (n+b.toNat % 128*128^i)).length=i+1 then some (n+b.toNat % 128*128^i,i+1) else none)
  else s6a f (i+1) (n+b.toNat % 128*128^i) l
def r7p (at_:Int) (r:Option (Nat×Nat)):Int×Int×Bool:=match r with
 | some (n,k)=>((n:Int),at_+(k:Int),true)
 | none=>(0,0,false)
def u0n (t:ByteArray) (at_:Int):Int×Int×Bool:=if 0≤at_∧at_≤t.size then r7p at_ (s6a 5 0 0 (t.data.toList.drop at_.toNat)) else(0,0,false)
theorem q90:∀(f i n:Nat) (l:List UInt8) (v k:Nat),s6a f i n l=some (v,k)→v≤1000000000∧k≤i+l.length∧i<k
 | 0,_,_,_,_,_,h=>by cases h
 | _+1,_,_, [],_,_,h=>by cases h
 | f+1,i,n,b::l,v,k,h=>by
  simp only[s6a] at h
  split at h
  ·split at h
   ·rename_i h2
    simp only[Option.some.injEq,Prod.mk.injEq] at h
    obtain⟨rfl,rfl⟩:=h
    exact⟨h2.1,by simp,by omega⟩
   ·cases h
  ·have:=q90 f (i+1) _ l v k h
   simp only[List.length_cons]
   omega
theorem t4c {t:ByteArray} {at_:Int} (h:(u0n t at_).2.2=true):0≤(u0n t at_).1∧(u0n t at_).1≤1000000000∧0≤at_∧at_<(u0n t at_).2.1∧(u0n t at_).2.1≤t.size:=by
 unfold u0n at h ⊢
 split at h
 ·rename_i hc
  rw[if_pos hc]
  cases hv:s6a 5 0 0 (t.data.toList.drop at_.toNat) with
  | none=>rw[hv] at h;cases h
  | some r=>
   obtain⟨v,k⟩:=r
   have:=q90 5 0 0 _ v k hv
   have hl:(t.data.toList.drop at_.toNat).length=t.size - at_.toNat:=by simp
   simp only[r7p]
   omega
 ·cases h
theorem o20 (i:Nat) (h:i<5):(2:Int)^(min (IntKind.i64.wrap (7*(i:Int))).toNat IntKind.i64.bits)=((128^i:Nat):Int):=by
 rcases i with _ | _ | _ | _ | _ | i
 all_goals first | rfl | omega
theorem p92 (i:Nat) (h:i≤5):128^i≤34359738368:=by
 rcases i with _ | _ | _ | _ | _ | _ | i
 all_goals first | decide | omega
theorem r9c (t:ByteArray) (at_:Int) (ht:t.size≤u0l):t6s (t,at_)=some (u0n t at_):=by
 unfold u0l at ht
 rw[q5c];unfold r23 u0n
 simp only[t7p,s2a,zOb]
 by_cases h:0≤at_∧at_≤t.size
 ·obtain⟨p,rfl⟩:∃p:Nat,at_=p:=⟨at_.toNat,by omega⟩
  have hp:p≤t.size:=by omega
  rw[decide_eq_true h,if_pos h]
  have L:∀(f i n:Nat),i+f=5→n<128^i→p+i≤t.size→((t3b (t,(p:Int),(n:Int),(i:Int))).bind fun r=>match r with
   | .inl o=>some ((0:Int),(0:Int),false)
   | .inr z=>some z)=some (r7p p (s6a f i n (t.data.toList.drop (p+i)))):=by
   intro f
   induction f with
   | zero=>
    intro i n hi hn hpi
    have:i=5:=by omega
    subst this
    rw[s7y];simp only[t2n]
    rfl
   | succ f ih=>
    intro i n hi hn hpi
    have hi5:i<5:=by omega
    have hpw:=p92 i (by omega)
    rw[s7y];simp only[t2n]
    have w1:IntKind.i64.wrap ((p:Int)+(i:Int))=((p+i:Nat):Int):=by rw[y4y (by omega) (by omega)];simp
    have e1:decide ((i:Int)<(5:Int))=true:=by simp;omega
    by_cases hlt:p+i<t.size
    ·have hd:t.data.toList.drop (p+i)=(t.data.toList[p+i]'(by simpa using hlt))::t.data.toList.drop (p+i+1):=List.drop_eq_getElem_cons (by simpa using hlt)
     have hb:(t.data.toList[p+i]'(by simpa using hlt)).toNat<256:=UInt8.toNat_lt _
     rw[hd]
     generalize hc:(t.data.toList[p+i]'(by simpa using hlt))=c at hb
     have e2:decide (((p+i:Nat):Int)<(t.size:Int))=true:=by simp;omega
     have e3:decide (0≤IntKind.i64.wrap (7*(i:Int)))=true:=by rw[y4y (by omega) (by omega)];simp;omega
     have t2:Int.tmod ((c.toNat:Nat):Int) (128:Int)=((c.toNat % 128:Nat):Int):=p7r _ 128
     have hm:c.toNat % 128*128^i≤127*34359738368:=Nat.mul_le_mul (by omega) hpw
     have w2:IntKind.i64.wrap (((c.toNat % 128:Nat):Int)*((128^i:Nat):Int))=((c.toNat % 128*128^i:Nat):Int):=by
      rw[←Int.natCast_mul];exact y8b (by omega)
     have w3:IntKind.i64.wrap ((n:Int)+((c.toNat % 128*128^i:Nat):Int))=((n+c.toNat % 128*128^i:Nat):Int):=by
      rw[←Int.natCast_add];exact y8b (by omega)
     simp only[e1,cond_true,zOb,w1,e2,y7t hlt,e3,zTn,p30 hlt,hc,y8b (show c.toNat≤4611686018427387904 by omega),t2,o20 i hi5,w2,w3,s6a]
     by_cases hc1:c.toNat<128
     ·have e4:decide (((c.toNat:Nat):Int)<(128:Int))=true:=by simp;omega
      simp only[e4,cond_true,if_pos hc1,s84,zOb]
      have wi:IntKind.i64.wrap ((i:Int)+1)=((i+1:Nat):Int):=y7l (by omega)
      by_cases hv:n+c.toNat % 128*128^i≤1000000000
      ·rw[if_pos (show(0:Int)≤((n+c.toNat % 128*128^i:Nat):Int)∧((n+c.toNat % 128*128^i:Nat):Int)≤1000000000 by omega)]
       simp only[Bool.not_true,cond_false,zTn,u4j,wi,zOb]
       by_cases hl:(s0f (n+c.toNat % 128*128^i)).length=i+1
       ·rw[if_pos ⟨hv,hl⟩,hl]
        simp only[decide_true,Bool.not_true,cond_false,zOb,r7p]
        rw[y4y (by omega) (by omega)]
        simp[Int.add_assoc]
       ·rw[if_neg (fun hh=>hl hh.2)]
        rw[decide_eq_false (show ¬(((s0f (n+c.toNat % 128*128^i)).length:Nat):Int)=((i+1:Nat):Int) by omega)]
        rfl
      ·rw[if_neg (show ¬((0:Int)≤((n+c.toNat % 128*128^i:Nat):Int)∧((n+c.toNat % 128*128^i:Nat):Int)≤1000000000) by omega),if_neg (fun hh=>hv hh.1)]
       rfl
     ·have e4:decide (((c.toNat:Nat):Int)<(128:Int))=false:=by simp;omega
      simp only[e4,cond_false,if_neg hc1]
      rw[y7l (by omega)]
      have:=ih (i+1) (n+c.toNat % 128*128^i) (by omega) (by
       have:128^(i+1)=128^i*128:=Nat.pow_succ 128 i
       have h2:c.toNat % 128*128^i≤127*128^i:=Nat.mul_le_mul (by omega) (Nat.le_refl _)
       omega) (by omega)
      exact this
    ·have e2:decide (((p+i:Nat):Int)<(t.size:Int))=false:=by simp;omega
     have hd:t.data.toList.drop (p+i)= [] :=List.drop_eq_nil_of_le (by simp;omega)
     rw[hd]
     simp only[e1,cond_true,w1,e2,zOb,cond_false,s6a]
     rfl
  exact L 5 0 0 rfl (by decide) (by omega)
 ·rw[decide_eq_false h,if_neg h];rfl
def q7s:List UInt8→Nat
 | [] =>0
 | b::l=>b.toNat % 128+128*q7s l
theorem p7w (l:List UInt8) (b:UInt8):q7s (l++ [b])=q7s l+b.toNat % 128*128^l.length:=by
 induction l with
 | nil=>simp[q7s]
 | cons x l ih=>
  simp only[List.cons_append,q7s,ih,List.length_cons,Nat.pow_succ]
  rw[Nat.mul_add]
  have:128*(b.toNat % 128*128^l.length)=b.toNat % 128*(128^l.length*128):=by
   rw[Nat.mul_comm 128,Nat.mul_assoc]
  omega
theorem o1c (l:List UInt8) (b:UInt8) (hl:∀x∈l,¬x.toNat<128) (hb:b.toNat<128) (h:(s0f (q7s (l++ [b]))).length=l.length+1):s0f (q7s (l++ [b]))=(l++ [b]).map fun x=>(x.toNat:Int):=by
 induction l with
 | nil=>
  have:q7s ([] ++ [b])=b.toNat:=by simp[q7s];omega
  rw[this,r1o hb];rfl
 | cons x l ih=>
  have hx:x.toNat<256:=UInt8.toNat_lt x
  have hx2:=hl x (by simp)
  simp only[List.cons_append,q7s] at h ⊢
  by_cases hs:x.toNat % 128+128*q7s (l++ [b])<128
  ·rw[r1o hs] at h
   simp at h
  ·rw[r8y hs] at h ⊢
   have e1:(x.toNat % 128+128*q7s (l++ [b])) / 128=q7s (l++ [b]):=by omega
   have e2:(x.toNat % 128+128*q7s (l++ [b])) % 128+128=x.toNat:=by omega
   rw[e1] at h ⊢
   rw[e2]
   simp only[List.length_cons,Nat.add_right_cancel_iff] at h
   rw[ih (fun y hy=>hl y (by simp[hy])) h]
   rfl
theorem p9c (l:List UInt8):y7g (l.map fun x=>(x.toNat:Int))=⟨l.toArray⟩:=by
 unfold y7g
 simp only[List.map_map]
 have:(l.map ((fun n=>UInt8.ofNat n.toNat) ∘fun b=>(b.toNat:Int)))=l:=by
  conv=>rhs;rw[←List.map_id l]
  apply List.map_congr_left
  intro b _
  simp
 rw[this]
theorem r97 (t:ByteArray) (a b:Nat) (h:b≤t.size):t.extract a b=⟨((t.data.toList.drop a).take (b - a)).toArray⟩:=by
 apply ByteArray.ext
 simp only[ByteArray.data_extract]
 apply Array.ext'
 simp[List.extract_eq_take_drop]
theorem o2r {q:Nat} (h:q≤1000000000):decide ((q:Int) >(1000000000:Int))=false:=by simp;omega
theorem o2o {q:Nat} (h: ¬q≤1000000000):decide ((q:Int) >(1000000000:Int))=true:=by simp;omega
theorem r9d (t:ByteArray) (at_:Int) (ht:t.size≤u0l):t64 (t,at_)=some (u0n t at_):=by
 unfold u0l at ht
 rw[q55];unfold r3t u0n
 simp only[s5q,s2a,zOb]
 by_cases h:0≤at_∧at_≤t.size
 ·obtain⟨p,rfl⟩:∃p:Nat,at_=p:=⟨at_.toNat,by omega⟩
  have hp:p≤t.size:=by omega
  rw[decide_eq_true h,if_pos h]
  have L:∀(f i:Nat),i+f=5→p+i≤t.size→(∀x∈(t.data.toList.drop p).take i,¬x.toNat<128)→q7s ((t.data.toList.drop p).take i)<128^i→
   ((t3g (t,(p:Int),((q7s ((t.data.toList.drop p).take i):Nat):Int),((128^i:Nat):Int),((p+i:Nat):Int))).bind fun r=>match r with
   | .inl o=>some ((0:Int),(0:Int),false)
   | .inr z=>some z)=some (r7p p (s6a f i (q7s ((t.data.toList.drop p).take i)) (t.data.toList.drop (p+i)))):=by
   intro f
   induction f with
   | zero=>
    intro i hi hpi hall hn
    have:i=5:=by omega
    subst this
    rw[s8c];simp only[t21]
    have e1:decide (((p+5:Nat):Int)<IntKind.i64.wrap ((p:Int)+5))=false:=by rw[y4y (by omega) (by omega)];simp
    rw[e1]
    cases decide (((p+5:Nat):Int)<(t.size:Int))<;>rfl
   | succ f ih=>
    intro i hi hpi hall hn
    have hi5:i<5:=by omega
    have hpw:=p92 i (by omega)
    rw[s8c];simp only[t21]
    have e1:decide (((p+i:Nat):Int)<IntKind.i64.wrap ((p:Int)+5))=true:=by rw[y4y (by omega) (by omega)];simp;omega
    by_cases hlt:p+i<t.size
    ·have hd:t.data.toList.drop (p+i)=(t.data.toList[p+i]'(by simpa using hlt))::t.data.toList.drop (p+i+1):=List.drop_eq_getElem_cons (by simpa using hlt)
     have hb:(t.data.toList[p+i]'(by simpa using hlt)).toNat<256:=UInt8.toNat_lt _
     have htk:(t.data.toList.drop p).take (i+1)=(t.data.toList.drop p).take i++ [t.data.toList[p+i]'(by simpa using hlt)] :=by
      rw[List.take_succ_eq_append_getElem (by simp;omega)]
      simp
     have htl:((t.data.toList.drop p).take i).length=i:=by simp;omega
     have hvs:=p7w ((t.data.toList.drop p).take i) (t.data.toList[p+i]'(by simpa using hlt))
     rw[htl] at hvs
     rw[hd]
     generalize hc:(t.data.toList[p+i]'(by simpa using hlt))=c at hb htk hvs
     generalize hn' :q7s ((t.data.toList.drop p).take i)=n at hn hvs ⊢
     have e2:decide (((p+i:Nat):Int)<(t.size:Int))=true:=by simp;omega
     have t2:Int.tmod ((c.toNat:Nat):Int) (128:Int)=((c.toNat % 128:Nat):Int):=p7r _ 128
     have hm:c.toNat % 128*128^i≤127*34359738368:=Nat.mul_le_mul (by omega) hpw
     have w2:IntKind.i64.wrap (((c.toNat % 128:Nat):Int)*((128^i:Nat):Int))=((c.toNat % 128*128^i:Nat):Int):=by
      rw[←Int.natCast_mul];exact y8b (by omega)
     have w3:IntKind.i64.wrap ((n:Int)+((c.toNat % 128*128^i:Nat):Int))=((n+c.toNat % 128*128^i:Nat):Int):=by
      rw[←Int.natCast_add];exact y8b (by omega)
     have wp:IntKind.i64.wrap (((p+i:Nat):Int)+1)=((p+i+1:Nat):Int):=y7l (by omega)
     have ws:IntKind.i64.wrap (((128^i:Nat):Int)*128)=((128^(i+1):Nat):Int):=by
      rw[Nat.pow_succ,Int.natCast_mul]
      exact y4y (by omega) (by omega)
     simp only[e1,e2,cond_true,zOb,y7t hlt,zTn,p30 hlt,hc,y8b (show c.toNat≤4611686018427387904 by omega),t2,w2,w3,wp,ws,s6a]
     by_cases hc1:c.toNat<128
     ·have e4:decide (((c.toNat:Nat):Int)<(128:Int))=true:=by simp;omega
      simp only[e4,cond_true,if_pos hc1]
      by_cases hv:n+c.toNat % 128*128^i≤1000000000
      ·have e5:decide (((n+c.toNat % 128*128^i:Nat):Int) >(1000000000:Int))=false:=o2r hv
       have e6:(decide (0≤(p:Int))&&decide ((p:Int)≤((p+i+1:Nat):Int))&&decide (((p+i+1:Nat):Int)≤(t.size:Int)))=true:=by simp;omega
       simp only[e5,cond_false,p1k _ (show n+c.toNat % 128*128^i≤100000000000 by omega),zOb,e6,cond_true]
       have hx:t.extract p (p+i+1)=⟨((t.data.toList.drop p).take (i+1)).toArray⟩:=by
        rw[r97 t p (p+i+1) (by omega)]
        have:p+i+1 - p=i+1:=by omega
        rw[this]
       rw[hx]
       have hv' :n+c.toNat % 128*128^i=q7s ((t.data.toList.drop p).take i++ [c]):=hvs.symm
       by_cases hl:(s0f (n+c.toNat % 128*128^i)).length=i+1
       ·rw[if_pos ⟨hv,hl⟩]
        have key:s0f (n+c.toNat % 128*128^i)=((t.data.toList.drop p).take (i+1)).map fun x=>(x.toNat:Int):=by
         rw[hv',htk]
         exact o1c _ c hall hc1 (by rw[←hv',hl,htl])
        rw[key,p9c,y6l]
        simp only[Bool.not_true,cond_false,zOb,r7p]
        simp[Int.add_assoc]
       ·rw[if_neg (fun hh=>hl hh.2)]
        have hne:z7o (y7g (s0f (n+c.toNat % 128*128^i))) ⟨((t.data.toList.drop p).take (i+1)).toArray⟩=false:=by
         rw[←Bool.not_eq_true,y7f]
         intro hh
         have:=congrArg ByteArray.size hh
         rw[u4j] at this
         apply hl
         rw[this]
         show((t.data.toList.drop p).take (i+1)).toArray.size=_
         simp;omega
        rw[hne];rfl
      ·have e5:decide (((n+c.toNat % 128*128^i:Nat):Int) >(1000000000:Int))=true:=o2o hv
       rw[if_neg (fun hh=>hv hh.1),e5];rfl
     ·have e4:decide (((c.toNat:Nat):Int)<(128:Int))=false:=by simp;omega
      simp only[e4,cond_false,if_neg hc1]
      have:=ih (i+1) (by omega) (by omega) (by
       rw[htk]
       intro x hx
       rcases List.mem_append.mp hx with hx | hx
       ·exact hall x hx
       ·simp at hx;rw[hx];exact hc1) (by
       rw[htk,hvs]
       have:128^(i+1)=128^i*128:=Nat.pow_succ 128 i
       have h2:c.toNat % 128*128^i≤127*128^i:=Nat.mul_le_mul (by omega) (Nat.le_refl _)
       omega)
      rw[htk,hvs] at this
      exact this
    ·have e2:decide (((p+i:Nat):Int)<(t.size:Int))=false:=by simp;omega
     have hd:t.data.toList.drop (p+i)= [] :=List.drop_eq_nil_of_le (by simp;omega)
     rw[hd]
     simp only[e2,zOb,cond_false,s6a]
     rfl
  exact L 5 0 rfl (by omega) (by simp) (by simp[q7s])
 ·rw[decide_eq_false h,if_neg h];rfl
end
section
def u0m (t:ByteArray) (at_:Int):ByteArray×Int×Bool:=
 if(u0n t at_).2.2=true∧(u0n t at_).1≤20000∧(u0n t at_).1≤(t.size:Int) - (u0n t at_).2.1 then
  (t.extract (u0n t at_).2.1.toNat ((u0n t at_).2.1+(u0n t at_).1).toNat,(u0n t at_).2.1+(u0n t at_).1,true)
 else(emp,0,false)
theorem r1f {t:ByteArray} {at_:Int} (h:(u0m t at_).2.2=true):0≤(u0m t at_).2.1∧(u0m t at_).2.1≤t.size:=by
 unfold u0m at h ⊢
 split at h
 ·rename_i hc
  rw[if_pos hc]
  have:=t4c hc.1
  simp only
  omega
 ·cases h
theorem q7o (t:ByteArray) (at_:Int) (ht:t.size≤u0l):
 (((bif (!(u0n t at_).2.2) then(some true) else(bif (decide ((u0n t at_).1 >(20000:Int))) then(some true) else(some (decide ((u0n t at_).1 >(IntKind.i64.wrap ((t.size:Int) - (u0n t at_).2.1))))))):Option Bool).bind fun j2=>
  (bif j2 then(some ((⟨#[]⟩:ByteArray),((0:Int),false))) else(bif (decide (0≤(u0n t at_).2.1)&&decide ((u0n t at_).2.1≤(IntKind.i64.wrap ((u0n t at_).2.1+(u0n t at_).1)))&&decide ((IntKind.i64.wrap ((u0n t at_).2.1+(u0n t at_).1))≤(t.size:Int))) then
   (some ((t.extract ((u0n t at_).2.1).toNat ((IntKind.i64.wrap ((u0n t at_).2.1+(u0n t at_).1))).toNat),((IntKind.i64.wrap ((u0n t at_).2.1+(u0n t at_).1)),true))) else none)))=some (u0m t at_):=by
 unfold u0l at ht
 unfold u0m
 cases ho:(u0n t at_).2.2 with
 | false=>rfl
 | true=>
  have hk:=t4c ho
  rw[y4y (n:=(t.size:Int) - (u0n t at_).2.1) (by omega) (by omega),y4y (n:=(u0n t at_).2.1+(u0n t at_).1) (by omega) (by omega)]
  by_cases h1:(u0n t at_).1 >20000
  ·rw[if_neg (by omega),decide_eq_true h1];rfl
  ·rw[decide_eq_false h1]
   by_cases h2:(u0n t at_).1 >(t.size:Int) - (u0n t at_).2.1
   ·rw[if_neg (by omega),decide_eq_true h2];rfl
   ·rw[if_pos ⟨rfl,by omega,by omega⟩,decide_eq_false h2]
    simp only[Bool.not_true,cond_false,zOb]
    rw[decide_eq_true (show 0≤(u0n t at_).2.1 by omega),decide_eq_true (show(u0n t at_).2.1≤(u0n t at_).2.1+(u0n t at_).1 by omega),decide_eq_true (show(u0n t at_).2.1+(u0n t at_).1≤(t.size:Int) by omega)]
    rfl
theorem r2v (t:ByteArray) (at_:Int) (ht:t.size≤u0l):t3w (t,at_)=some (u0m t at_):=by
 rw[q1d];unfold s6y
 simp only[r9d t at_ ht,zOb]
 exact q7o t at_ ht
theorem r2u (t:ByteArray) (at_:Int) (ht:t.size≤u0l):t3o (t,at_)=some (u0m t at_):=by
 rw[q0v];unfold s6i
 simp only[r9c t at_ ht,zOb]
 exact q7o t at_ ht
def q0r (t:ByteArray):Int:=((t.data.toList.getD 0 0).toNat:Int)
theorem q8h (t:ByteArray):0≤q0r t∧q0r t<256:=by
 unfold q0r
 have:(t.data.toList.getD 0 0).toNat<256:=UInt8.toNat_lt _
 omega
def u44 (d:u0k) (s:Int):Int:=q0r (u0h d s).1
theorem q7h {d:u0k} {s:Int} (h:(u0h d s).2=false):(u0h d s).1=emp:=by
 unfold u0h at h ⊢
 split at h
 ·cases h
 ·rename_i hc;rw[if_neg hc]
theorem q68 (r:ByteArray×Bool) (h:r.2=false→r.1=emp):
 (((bif (!r.2) then(some true) else(some (z7o r.1 (⟨#[]⟩:ByteArray)))):Option Bool).bind fun j2=>(bif j2 then(some (0:Int)) else(bif (y4q (0:Int) r.1.size) then(some (IntKind.i64.wrap ((r.1.data.toList.getD ((0:Int)).toNat 0).toNat:Int))) else none)))=some (q0r r.1):=by
 obtain⟨t,o⟩:=r
 cases o with
 | false=>
  have:t=emp:=h rfl
  subst this;rfl
 | true=>
  simp only[Bool.not_true,cond_false,zOb]
  by_cases he:t=emp
  ·subst he
   have:z7o emp (⟨#[]⟩:ByteArray)=true:=y6l emp
   simp only[this,cond_true];rfl
  ·have h1:z7o t (⟨#[]⟩:ByteArray)=false:=by
    rw[←Bool.not_eq_true,y7f];exact he
   have h2:t.size≠0:=by
    intro hz
    apply he
    apply ByteArray.ext
    apply Array.eq_empty_of_size_eq_zero
    exact hz
   have h3:y4q (0:Int) t.size=true:=by simp[y4q];omega
   have hb:(t.data.toList.getD 0 0).toNat<256:=UInt8.toNat_lt _
   simp only[h1,cond_false,h3,cond_true,Int.toNat_zero]
   rw[y8b (by omega)];rfl
theorem r4d (d:u0k) (s:Int) (hd:q8c.wt d≤u0l):t3r (d,s)=some (u44 d s):=by
 rw[q01];unfold s6n
 simp only[s8v d s hd,zOb]
 exact q68 _ (fun h=>q7h h)
theorem q0a (d:u0k) (s:Int) (hd:q8c.wt d≤u0l):t67 (d,s)=some (u44 d s):=by
 rw[q6e];unfold r33
 simp only[s8w d s hd,zOb]
 exact q68 _ (fun h=>q7h h)
def u1d (d:u0k):Int:=Int.tmod (u44 d 0) 2
theorem r4z (d:u0k):u1d d=0∨u1d d=1:=by
 have:=q8h (u0h d 0).1
 unfold u1d u44
 have e:=Int.tmod_eq_emod_of_nonneg (b:=2) this.1
 rw[e];omega
theorem q7y (d:u0k) (hd:q8c.wt d≤u0l):t9i d=some (u1d d):=by
 rw[q2l];unfold s86
 simp only[r4d d 0 hd,zOb];rfl
theorem q7z (d:u0k) (hd:q8c.wt d≤u0l):t94 d=some (u1d d):=by
 rw[q3c];unfold s9w
 simp only[q0a d 0 hd,zOb];rfl
def p1j (a:Int):Bool:=decide (a=0) || decide (a=1)
def u0f (a:Int):Int:=if p1j a then 1+a*48 else 0
theorem p8o {a:Int} :p1j a=true↔a=0∨a=1:=by simp[p1j]
theorem r0d (a:Int):0≤u0f a∧u0f a≤49:=by
 unfold u0f
 split
 ·rename_i h;have:=p8o.mp h;omega
 ·omega
theorem r46 (a:Int):t5b a=some (p1j a):=by
 rw[q8s];unfold r5u p1j
 cases decide (a=0)<;>rfl
theorem r8q (a:Int):u03 (a,0,1)=some (p1j a):=by
 rw[s5q,s2a]
 congr 1
 rw[Bool.eq_iff_iff,p8o,decide_eq_true_iff];omega
theorem r2s (a:Int):t3n a=some (u0f a):=by
 rw[q0s];unfold s6g u0f
 simp only[r46,zOb]
 cases h:p1j a with
 | false=>rfl
 | true=>
  have:=p8o.mp h
  simp only[Bool.not_true,cond_false,if_true]
  rw[y4y (n:=a*48) (by omega) (by omega),y4y (by omega) (by omega)]
theorem r2t (a:Int):t3v a=some (u0f a):=by
 rw[q1b];unfold s6w u0f
 simp only[r8q,zOb]
 cases h:p1j a with
 | false=>rfl
 | true=>
  have:=p8o.mp h
  simp only[Bool.not_true,cond_false,if_true]
  rw[y4y (n:=a*48) (by omega) (by omega),y4y (by omega) (by omega)]
def u08 (d:u0k) (a:Int):Int:=if p1j a then u44 d (u0f a) else 0
theorem r17 (d:u0k) (a:Int):0≤u08 d a∧u08 d a<256:=by
 unfold u08
 split
 ·exact q8h _
 ·omega
theorem r88 (d:u0k) (a:Int) (hd:q8c.wt d≤u0l):s2b (d,a)=some (u08 d a):=by
 rw[q46];unfold r2x u08
 simp only[r46,r2s,r4d d _ hd,zOb]
 cases p1j a<;>rfl
theorem r89 (d:u0k) (a:Int) (hd:q8c.wt d≤u0l):s2l (d,a)=some (u08 d a):=by
 rw[q5z];unfold r3n u08
 simp only[r8q,r2t,q0a d _ hd,zOb]
 cases p1j a<;>rfl
def u5c (t:ByteArray):Nat→Int→List ByteArray→List ByteArray×Int×Bool
 | 0,at_,acc=>(acc,at_,true)
 | m+1,at_,acc=>if(u0m t at_).2.2&& !z7o (u0m t at_).1 emp then u5c t m (u0m t at_).2.1 (acc++ [(u0m t at_).1]) else([],0,false)
def u0e (d:u0k) (a:Int):List ByteArray×Int×Bool:=
 if p1j a&&(u6b d (u0f a+1) 47).2 then u5c (u6b d (u0f a+1) 47).1 (u08 d a).toNat 0 [] else([],0,false)
theorem q7m (d:u0k) (from_:Int):∀(m i:Nat) (acc:ByteArray),(r2r d from_ m i acc).1.size≤acc.size+m*q8c.wt d
 | 0,i,acc=>by simp[r2r]
 | m+1,i,acc=>by
  unfold r2r
  split
  ·have h1:=q7m d from_ m (i+1) (acc++(u0h d (from_+(i:Int))).1)
   have h2:=r1e d (from_+(i:Int))
   rw[ByteArray.size_append] at h1
   have:(m+1)*q8c.wt d=m*q8c.wt d+q8c.wt d:=Nat.succ_mul _ _
   omega
  ·show 0≤_;omega
theorem r1h (d:u0k) (from_ n:Int):(u6b d from_ n).1.size≤100*q8c.wt d:=by
 unfold u6b
 split
 ·have h:=q7m d from_ n.toNat 0 emp
  have h2:emp.size=0:=rfl
  have h3:n.toNat*q8c.wt d≤100*q8c.wt d:=Nat.mul_le_mul (by omega) (Nat.le_refl _)
  omega
 ·show 0≤_;omega
theorem r5g (d:u0k) (a:Int) (hd:q8c.wt d≤1073741824):t0a (d,a)=some (u0e d a):=by
 have hb:q8c.wt d≤u0l:=by unfold u0l;omega
 have hf:=r0d a
 have hz:(u6b d (u0f a+1) 47).1.size≤u0l:=by have:=r1h d (u0f a+1) 47;unfold u0l;omega
 have hc:=r17 d a
 rw[q2s];unfold s9d u0e
 simp only[r2s,zOb]
 rw[y4y (n:=u0f a+1) (by omega) (by omega)]
 simp only[q13 d (u0f a+1) 47 hd (by omega) (by omega),r46,zOb]
 generalize u6b d (u0f a+1) 47=s at hz
 cases hs:s.2 with
 | false=>cases p1j a<;>rfl
 | true=>
  cases ha:p1j a with
  | false=>rfl
  | true=>
   have L:=s5l (fun x=>(t04 x).bind fun r=>match r with
    | .inl o=>some (o.1,o.2,true)
    | .inr z=>some z) (u08 d a).toNat (fun(p:List ByteArray×Int) i=>(a,d,s.1,p.1,p.2,i)) (fun i p=>u5c s.1 ((u08 d a).toNat - i) p.2 p.1) (fun i p=>p.1.length≤i)
    (fun p _=>by
     rw[s4u];simp only[t0h,r88 d a hb,zOb]
     rw[decide_eq_false (by omega)]
     simp only[cond_false,zOb,Nat.sub_self,u5c])
    (fun i p hi hp=>by
     have e:(u08 d a).toNat - i=((u08 d a).toNat - (i+1))+1:=by omega
     rw[s4u];simp only[t0h,r88 d a hb,zOb]
     rw[decide_eq_true (by omega),e]
     simp only[cond_true,r2u s.1 p.2 hz,zOb,u5c,p6x]
     cases hr:(u0m s.1 p.2).2.2 with
     | false=>left;rfl
     | true=>
      cases hq:z7o (u0m s.1 p.2).1 emp with
      | true=>left;rfl
      | false=>
       right
       refine⟨(p.1++ [(u0m s.1 p.2).1],(u0m s.1 p.2).2.1),by simp;omega,by simp,?_⟩
       simp only[Bool.not_true,cond_false,zOb,List.length_singleton,u1w (show p.1.length+1≤1099511627776 by omega),cond_true]
       rw[y7l (by omega)]) 0 ([],0) (by omega) (by simp)
   simp only[Bool.not_true,cond_false,zOb,Bool.and_self,if_true]
   exact L
theorem r5h (d:u0k) (a:Int) (hd:q8c.wt d≤1073741824):t0c (d,a)=some (u0e d a):=by
 have hb:q8c.wt d≤u0l:=by unfold u0l;omega
 have hf:=r0d a
 have hz:(u6b d (u0f a+1) 47).1.size≤u0l:=by have:=r1h d (u0f a+1) 47;unfold u0l;omega
 have hc:=r17 d a
 rw[q3i];unfold s92 u0e
 simp only[r8q,r2t,zOb]
 rw[y4y (n:=u0f a+1) (by omega) (by omega)]
 simp only[q14 d (u0f a+1) 47 hd (by omega) (by omega),zOb]
 generalize u6b d (u0f a+1) 47=s at hz
 cases hs:s.2 with
 | false=>cases p1j a<;>rfl
 | true=>
  cases ha:p1j a with
  | false=>rfl
  | true=>
   have L:=s5l (fun x=>(u9n x).bind fun r=>match r with
    | .inl o=>some (o.1,o.2,true)
    | .inr z=>some z) (u08 d a).toNat (fun(p:List ByteArray×Int) i=>(a,d, [],s.1,p.1,p.2,i)) (fun i p=>u5c s.1 ((u08 d a).toNat - i) p.2 p.1) (fun i p=>p.1.length≤i)
    (fun p _=>by
     rw[s16];simp only[u9i,r89 d a hb,zOb]
     rw[decide_eq_false (by omega)]
     simp only[cond_false,zOb,Nat.sub_self,u5c])
    (fun i p hi hp=>by
     have e:(u08 d a).toNat - i=((u08 d a).toNat - (i+1))+1:=by omega
     rw[s16];simp only[u9i,r89 d a hb,zOb]
     rw[decide_eq_true (by omega),e]
     simp only[cond_true,r2v s.1 p.2 hz,zOb,u5c,p6x]
     cases hr:(u0m s.1 p.2).2.2 with
     | false=>left;rfl
     | true=>
      cases hq:z7o (u0m s.1 p.2).1 emp with
      | true=>left;rfl
      | false=>
       right
       refine⟨(p.1++ [(u0m s.1 p.2).1],(u0m s.1 p.2).2.1),by simp;omega,by simp,?_⟩
       simp only[Bool.not_true,cond_false,zOb,List.length_singleton,u1w (show p.1.length+1≤1099511627776 by omega),cond_true]
       rw[y7l (by omega)]) 0 ([],0) (by omega) (by simp)
   simp only[Bool.not_true,cond_false,zOb,Bool.and_self,if_true]
   exact L
def u0g (d:u0k):List ByteArray:=(u0e d (u1d d)).1
theorem q74 (d:u0k) (hd:q8c.wt d≤1073741824):t9n d=some (u0g d):=by
 rw[q2q];unfold s9b
 simp only[q7y d (show q8c.wt d≤u0l by unfold u0l;omega),r5g d _ hd,zOb];rfl
theorem q60 (t:ByteArray):∀(m:Nat) (at_:Int) (acc:List ByteArray),(u5c t m at_ acc).1.length≤acc.length+m
 | 0,at_,acc=>by simp[u5c]
 | m+1,at_,acc=>by
  unfold u5c
  split
  ·have:=q60 t m (u0m t at_).2.1 (acc++ [(u0m t at_).1])
   simp at this;omega
  ·simp
theorem p1x (d:u0k) (a:Int):(u0e d a).1.length<256:=by
 unfold u0e
 split
 ·have h:=q60 (u6b d (u0f a+1) 47).1 (u08 d a).toNat 0 []
  have:=r17 d a
  simp at h;omega
 ·simp
end
section
def u2m (d:u0k):Bool:=decide (1≤d.1.length∧d.1.length≤100)&&decide (d.2.length≤60)&&d.1.all (fun s=>decide (s.size=64))&&d.2.all (fun p=>r47 p.1 0 ((d.1.length:Int) - 1)&&decide (p.2.size=64))
theorem q8d {α:Type} (l:List α) (p:α→Bool):l.any (fun x=> !p x)= !l.all p:=by
 induction l with
 | nil=>rfl
 | cons x l ih=>simp only[List.any_cons,List.all_cons,ih,Bool.not_and]
theorem p2o (d:u0k) (hd:q8c.wt d≤u0l):s56 d=some (u2m d):=by
 have h1:d.1.length≤u0l:=Nat.le_trans r6w hd
 have h2:d.2.length≤u0l:=Nat.le_trans r6v hd
 unfold u0l at h1 h2
 have L1:=q18 t4w d.1 (fun i=>(d,i)) (fun s=> !decide (s.size=64)) (.inr false) (.inl d)
  (by rw[r1x];simp only[t4m,u0c,Nat.lt_irrefl,decide_false,cond_false])
  (fun i hi=>by
   rw[r1x];simp only[t4m,u0c,hi,decide_true,cond_true,y7t hi,zTn,y8k (t:=Ty.str) hi]
   rw[y7l (by omega)]
   have:decide (((d.1[i]).size:Int)=(64:Int))=decide ((d.1[i]).size=64):=by simp only[decide_eq_decide];omega
   rw[this])
 have L2:=q18 t4x d.2 (fun i=>(d,i)) (fun p=> !(r47 p.1 0 ((d.1.length:Int) - 1)&&decide (p.2.size=64))) (.inr false) (.inl ())
  (by rw[r1y];simp only[t4n,u0c,Nat.lt_irrefl,decide_false,cond_false])
  (fun i hi=>by
   rw[r1y];simp only[t4n,u0c,hi,decide_true,cond_true,y7t hi,zTn,y8k (t:=s5i) hi,s5q,zOb]
   rw[y7l (by omega),y4y (n:=(d.1.length:Int) - 1) (by omega) (by omega)]
   have:decide (((d.2[i]).2.size:Int)=(64:Int))=decide ((d.2[i]).2.size=64):=by simp only[decide_eq_decide];omega
   rw[this]
   cases r47 (d.2[i]).1 0 ((d.1.length:Int) - 1)<;>rfl)
 rw[q9a];unfold r6d u2m
 simp only[s5q,s2a (a:=(d.1.length:Int)),L1,zOb]
 have e1:decide ((1:Int)≤(d.1.length:Int)∧(d.1.length:Int)≤100)=decide (1≤d.1.length∧d.1.length≤100):=by simp only[decide_eq_decide];omega
 have e2:decide ((d.2.length:Int) >60)= !decide (d.2.length≤60):=by
  rw[←decide_not,decide_eq_decide];omega
 rw[e1,e2,q8d]
 cases decide (1≤d.1.length∧d.1.length≤100) with
 | false=>rfl
 | true=>
  cases decide (d.2.length≤60) with
  | false=>rfl
  | true=>
   cases d.1.all (fun s=>decide (s.size=64)) with
   | false=>rfl
   | true=>
    simp only[Bool.not_true,cond_false,zOb,L2,q8d]
    cases d.2.all _<;>rfl
theorem p2n (d:u0k) (hd:q8c.wt d≤u0l):s5s d=some (u2m d):=by
 have h1:d.1.length≤u0l:=Nat.le_trans r6w hd
 have h2:d.2.length≤u0l:=Nat.le_trans r6v hd
 unfold u0l at h1 h2
 have L1:=q18 t4q d.1 (fun i=>(d,d.1,(d.1.length:Int),i)) (fun s=> !decide (s.size=64)) (.inr false) (.inl d)
  (by rw[r1r];simp only[t4g,u0c,Nat.lt_irrefl,decide_false,cond_false])
  (fun i hi=>by
   rw[r1r];simp only[t4g,u0c,hi,decide_true,cond_true,y7t hi,zTn,y8k (t:=Ty.str) hi]
   rw[y7l (by omega)]
   have:decide (((d.1[i]).size:Int)=(64:Int))=decide ((d.1[i]).size=64):=by simp only[decide_eq_decide];omega
   rw[this])
 have L2:=q18 t4r d.2 (fun i=>(d,d.2,(d.2.length:Int),i)) (fun p=> !(r47 p.1 0 ((d.1.length:Int) - 1)&&decide (p.2.size=64))) (.inr false) (.inl d)
  (by rw[r1s];simp only[t4h,u0c,Nat.lt_irrefl,decide_false,cond_false])
  (fun i hi=>by
   rw[r1s];simp only[t4h,u0c,hi,decide_true,cond_true,y7t hi,zTn,y8k (t:=s5i) hi,t7p,zOb]
   rw[y7l (by omega),y4y (n:=(d.1.length:Int) - 1) (by omega) (by omega)]
   have:decide (((d.2[i]).2.size:Int)=(64:Int))=decide ((d.2[i]).2.size=64):=by simp only[decide_eq_decide];omega
   rw[this]
   cases r47 (d.2[i]).1 0 ((d.1.length:Int) - 1)<;>rfl)
 rw[q8m];unfold r5n u2m
 simp only[L1,zOb]
 have e1:decide ((1:Int)≤(d.1.length:Int)∧(d.1.length:Int)≤100)=decide (1≤d.1.length∧d.1.length≤100):=by simp only[decide_eq_decide];omega
 have e2:decide ((d.2.length:Int)≤60)=decide (d.2.length≤60):=by rw[decide_eq_decide];omega
 rw[q8d]
 cases d.1.all (fun s=>decide (s.size=64)) with
 | false=>simp
 | true=>
  simp only[Bool.not_true,cond_false,zOb,L2,q8d]
  cases d.2.all (fun p=>r47 p.1 0 ((d.1.length:Int) - 1)&&decide (p.2.size=64)) with
  | false=>simp
  | true=>
   simp only[Bool.not_true,cond_false,zOb,t7p,s2a (a:=(d.1.length:Int)),e1,e2]
   cases decide (1≤d.1.length∧d.1.length≤100)<;>cases decide (d.2.length≤60)<;>rfl
def u5i (d:u0k):Bool:=u2m d&&decide (d.1.length=97)&&decide (d.2.length=0)&&(u0e d 0).2.2&&(u0e d 1).2.2
theorem p40 (d:u0k) (hd:q8c.wt d≤1073741824):r09 d=some (u5i d):=by
 have hb:q8c.wt d≤u0l:=by unfold u0l;omega
 rw[p09];unfold r9v u5i
 have hs:t57 ()=some 97:=by rw[r8m];rfl
 simp only[p2o d hb,hs,r5h d _ hd,zOb]
 have e1:decide ((d.1.length:Int)=97)=decide (d.1.length=97):=by rw[decide_eq_decide];omega
 have e2:decide ((d.2.length:Int) >0)= !decide (d.2.length=0):=by rw[←decide_not,decide_eq_decide];omega
 rw[e1,e2]
 cases u2m d<;>cases decide (d.1.length=97)<;>cases decide (d.2.length=0)<;>cases (u0e d 0).2.2<;>cases (u0e d 1).2.2<;>rfl
theorem p4z (d:u0k) (hd:q8c.wt d≤1073741824):r07 d=some (u5i d):=by
 have hb:q8c.wt d≤u0l:=by unfold u0l;omega
 rw[p0x];unfold r9k u5i
 simp only[p2n d hb,r5g d _ hd,zOb]
 have e1:decide ((d.1.length:Int)=97)=decide (d.1.length=97):=by rw[decide_eq_decide];omega
 have e2:decide ((d.2.length:Int)=0)=decide (d.2.length=0):=by rw[decide_eq_decide];omega
 rw[e1,e2]
 cases u2m d<;>cases decide (d.1.length=97)<;>cases decide (d.2.length=0)<;>cases (u0e d 0).2.2<;>cases (u0e d 1).2.2<;>rfl
end
section
theorem q66 {d:u0k} :u2m d=true↔(1≤d.1.length∧d.1.length≤100)∧d.2.length≤60∧(∀s∈d.1,s.size=64)∧ ∀p∈d.2,(0≤p.1∧p.1<(d.1.length:Int))∧p.2.size=64:=by
 unfold u2m
 simp only[Bool.and_eq_true,decide_eq_true_eq,List.all_eq_true,r47,and_assoc]
 constructor
 ·rintro⟨a,b,c,e,f⟩
  exact⟨a,b,c,e,fun p hp=>by obtain⟨x,y,z⟩:=f p hp;exact⟨x,by omega,z⟩⟩
 ·rintro⟨a,b,c,e,f⟩
  exact⟨a,b,c,e,fun p hp=>by obtain⟨x,y,z⟩:=f p hp;exact⟨x,by omega,z⟩⟩
def t3x (d:u0k) (k:Int) (t:ByteArray):Option u0k:=if u2m (d.1,d.2++ [(k,t)]) then some (d.1,d.2++ [(k,t)]) else none
def orD (d:u0k):Option u0k→u0k×Bool
 | some x=>(x,true)
 | none=>(d,false)
theorem q2i (d:u0k) (k:Int) (t:ByteArray):u2m (d.1,d.2++ [(k,t)])=(u2m d&&(r47 k 0 ((d.1.length:Int) - 1)&&(decide (t.size=64)&& !decide (60≤d.2.length)))):=by
 rw[Bool.eq_iff_iff]
 simp only[Bool.and_eq_true,Bool.not_eq_true',decide_eq_true_eq,decide_eq_false_iff_not]
 rw[q66,q66]
 simp only[List.length_append,List.length_singleton,List.mem_append,List.mem_singleton,r47,Bool.and_eq_true,decide_eq_true_eq]
 constructor
 ·rintro⟨a,b,c,e⟩
  have:=e (k,t) (.inr rfl)
  exact⟨⟨a,by omega,c,fun p hp=>e p (.inl hp)⟩,⟨this.1.1,by have:=this.1.2;omega⟩,this.2,by omega⟩
 ·rintro⟨⟨a,b,c,e⟩,⟨f1,f2⟩,g,h⟩
  refine⟨a,by omega,c,fun p hp=> ?_⟩
  rcases hp with hp | rfl
  ·exact e p hp
  ·exact⟨⟨f1,by show k<(d.1.length:Int);omega⟩,g⟩
def p4s:Nat→u0k→Nat→Nat→ByteArray→Option u0k
 | 0,d,_,_,_=>some d
 | f+1,d,k,at_,t=>if t.size=0 then some d else
  if(u0h d (k:Int)).2=true∧(u0h d (k:Int)).1.size=64 then
   (t3x d (k:Int) ((u0h d (k:Int)).1.extract 0 at_++t.extract 0 (min t.size (64 - at_))++(u0h d (k:Int)).1.extract (at_+min t.size (64 - at_)) 64)).bind fun x=>
    p4s f x (k+1) 0 (t.extract (min t.size (64 - at_)) t.size)
  else none
theorem p9p (f:Nat) (d:u0k) (k at_:Nat) {t:ByteArray} (h:t.size=0):p4s f d k at_ t=some d:=by
 cases f with
 | zero=>rfl
 | succ f=>rw[p4s,if_pos h]
theorem s6b {d x:u0k} {k:Int} {t:ByteArray} (h:t3x d k t=some x):u2m x=true∧x=(d.1,d.2++ [(k,t)]):=by
 unfold t3x at h
 split at h
 ·rename_i hk;cases h;exact⟨hk,rfl⟩
 ·cases h
theorem p12 {t:ByteArray} :z7o t ⟨#[]⟩=decide (t.size=0):=by
 rw[Bool.eq_iff_iff,y7f,decide_eq_true_eq]
 constructor
 ·rintro rfl;rfl
 ·intro h
  have:t.data= #[] :=by apply Array.eq_empty_of_size_eq_zero;exact h
  cases t;simp at this;rw[this]
def t1p (d:u0k) (sector at_:Int) (t:ByteArray):Option u0k:=
 if r47 at_ 0 6400&&r47 sector 0 ((d.1.length:Int) - 1)&&u2m d then p4s (t.size+1) d (sector.toNat+at_.toNat / 64) (at_.toNat % 64) t else none
end
section
def s1w (s:List ByteArray) (p:Int×ByteArray):List ByteArray:=s.set p.1.toNat p.2
def u2d (d:u0k):u0k:=if u2m d then(d.2.foldl s1w d.1, []) else d
theorem q7n (s:List ByteArray) (p:Int×ByteArray):(s1w s p).length=s.length:=by simp[s1w]
theorem r44:∀(c:List (Int×ByteArray)) (s:List ByteArray),(c.foldl s1w s).length=s.length
 | [],s=>rfl
 | p::c,s=>by rw[List.foldl_cons,r44 c,q7n]
theorem q69:∀(c:List (Int×ByteArray)) (s:List ByteArray),(∀p∈c,p.2.size=64)→(∀x∈s,x.size=64)→ ∀x∈c.foldl s1w s,x.size=64
 | [],s,_,h=>h
 | p::c,s,hc,h=>by
  rw[List.foldl_cons]
  refine q69 c _ (fun q hq=>hc q (List.mem_cons_of_mem _ hq)) (fun x hx=> ?_)
  rcases List.mem_or_eq_of_mem_set hx with hx | rfl
  ·exact h x hx
  ·exact hc p (List.mem_cons_self ..)
theorem s03 {d:u0k} (h:u2m d=true):u2m (u2d d)=true∧(u2d d).2= [] ∧(u2d d).1.length=d.1.length:=by
 unfold u2d
 rw[if_pos h]
 obtain⟨h1,h2,h3,h4⟩:=q66.mp h
 refine⟨q66.mpr ⟨by rw[r44];exact h1,by simp,q69 _ _ (fun p hp=>(h4 p hp).2) h3,fun p hp=>by cases hp⟩,rfl,r44 _ _⟩
def p25 (keep:List Int) (i:Nat):Bool:=decide (i<keep.length)&& !decide (Int.tmod (rdL (Ty.int .i64) keep i) 2=0)
def r69 (keep:List Int):Nat→Int
 | 0=> -1
 | n+1=>if p25 keep n then(n:Int) else r69 keep n
def s0e (tear:Int):Nat:=(if Int.tmod tear 65<0 then Int.tmod tear 65+65 else Int.tmod tear 65).toNat
def r6u (d:u0k) (keep:List Int) (last:Int) (n:Nat) (s:List ByteArray) (i:Nat):List ByteArray:=
 if p25 keep i then
  (if(i:Int)=last then s1w s ((rdL s5i d.2 i).1,(rdL s5i d.2 i).2.extract 0 n++(rdL Ty.str s (rdL s5i d.2 i).1.toNat).extract n (rdL Ty.str s (rdL s5i d.2 i).1.toNat).size)
   else s1w s (rdL s5i d.2 i))
 else s
def s0q (d:u0k) (keep:List Int) (tear:Int):u0k:=
 if u2m d then((List.range d.2.length).foldl (r6u d keep (r69 keep d.2.length) (s0e tear)) d.1, []) else d
theorem p9g (tear:Int):s0e tear≤64∧((s0e tear:Nat):Int)=(if Int.tmod tear 65<0 then Int.tmod tear 65+65 else Int.tmod tear 65):=by
 have h1:Int.tmod tear 65<65:=Int.tmod_lt_of_pos _ (by omega)
 have h2: -65<Int.tmod tear 65:=by
  have:=Int.lt_tmod_of_pos tear (show(0:Int)<65 by omega)
  exact this
 unfold s0e
 split<;>omega
section
variable {d:u0k} (hk:u2m d=true) (keep:List Int)
include hk in
include hk in
include hk
end
end
section
theorem q2c (t:ByteArray):∀(m:Nat) (at_:Int) (acc:List ByteArray),0≤at_∧at_≤t.size→0≤(u5c t m at_ acc).2.1∧(u5c t m at_ acc).2.1≤t.size
 | 0,at_,acc,h=>h
 | m+1,at_,acc,h=>by
  unfold u5c
  split
  ·rename_i hc
   simp only[Bool.and_eq_true] at hc
   exact q2c t m _ _ (r1f hc.1)
  ·simp
theorem q39 (d:u0k) (a:Int):0≤(u0e d a).2.1∧(u0e d a).2.1≤(100*q8c.wt d:Nat):=by
 unfold u0e
 split
 ·have h1:=q2c (u6b d (u0f a+1) 47).1 (u08 d a).toNat 0 [] (by simp)
  have h2:=r1h d (u0f a+1) 47
  omega
 ·simp only[Int.le_refl,true_and]
  omega
def u09 (t:ByteArray):ByteArray:=y7g (s0f t.size)++t
theorem q0i (t:ByteArray):t.size≤(u09 t).size∧(u09 t).size≤2*t.size+1:=by
 unfold u09
 rw[ByteArray.size_append,u4j]
 have:=p4p t.size
 omega
def r0f (d:u0k) (a:Int) (t:ByteArray):Option u0k:=
 if(u0e d a).2.2=false∨t.size=0∨3008<t.size∨255≤u08 d a∨3008<(u0e d a).2.1+((u09 t).size:Int) then none
 else t1p d (u0f a+1) (u0e d a).2.1 (u09 t)
theorem p0d (t:ByteArray) (ht:t.size≤1048576):t3q t=some (if 20000<t.size then(emp,false) else(u09 t,true)):=by
 rw[q0x];unfold s6k
 have e1:decide ((t.size:Int) >(20000:Int))=decide (20000<t.size):=by simp only[decide_eq_decide];omega
 rw[e1]
 by_cases h:20000<t.size
 ·simp only[h,decide_true,cond_true,if_true];rfl
 ·have c:decide ((y7g (s0f t.size)).size+t.size≤140737488355328)=true:=by
   rw[u4j]
   have:=p4p t.size
   simp;omega
  have hv:(0:Int)≤(t.size:Int)∧(t.size:Int)≤1000000000:=by omega
  simp only[h,decide_false,cond_false,s84,if_pos hv,zOb,zTn,c,cond_true,if_false]
  rfl
def s02 (n:Int):ByteArray:=y7g [IntKind.u8.wrap n]
theorem u70 (n:Int):(s02 n).size=1:=by unfold s02;rw[u4j];rfl
def r95 (d:u0k) (a n:Int):Option u0k:=t1p d (u0f a) 0 (s02 n)
theorem p7z:∀ {f:Nat} {d x:u0k} {k at_:Nat} {t:ByteArray},p4s f d k at_ t=some x→(u2m d=true→u2m x=true)∧x.1=d.1∧(t.size≠0→0<f→u2m x=true)
 | 0,d,x,k,at_,t,h=>by cases h;exact⟨id,rfl,fun _ h=>by omega⟩
 | f+1,d,x,k,at_,t,h=>by
  rw[p4s] at h
  split at h
  ·rename_i hz
   cases h;exact⟨id,rfl,fun hne=>absurd hz hne⟩
  ·split at h
   ·cases hw:t3x d (k:Int) ((u0h d (k:Int)).1.extract 0 at_++t.extract 0 (min t.size (64 - at_))++(u0h d (k:Int)).1.extract (at_+min t.size (64 - at_)) 64) with
    | none=>rw[hw] at h;cases h
    | some y=>
     rw[hw] at h
     simp only[zOb] at h
     obtain⟨k1,k2⟩:=s6b hw
     obtain⟨i1,i2,_⟩:=p7z h
     exact⟨fun _=>i1 k1,by rw[i2,k2],fun _ _=>i1 k1⟩
   ·cases h
theorem t1q {d x:u0k} {s at_:Int} {t:ByteArray} (h:t1p d s at_ t=some x):u2m d=true∧u2m x=true∧x.1=d.1:=by
 unfold t1p at h
 split at h
 ·rename_i hc
  simp only[Bool.and_eq_true] at hc
  obtain⟨i1,i2,_⟩:=p7z h
  exact⟨hc.2,i1 hc.2,i2⟩
 ·cases h
theorem q8g {d x:u0k} {a:Int} {t:ByteArray} (h:r0f d a t=some x):u2m d=true∧u2m x=true∧x.1=d.1∧(u0e d a).2.2=true:=by
 unfold r0f at h
 split at h
 ·cases h
 ·rename_i hc
  have:=t1q h
  simp only[not_or] at hc
  exact⟨this.1,this.2.1,this.2.2,by simpa using hc.1⟩
theorem q33 {d:u0k} (hk:u2m d=true) (h2:d.2= []) {s:Int} (h0:0≤s) (h1:s<(d.1.length:Int)) {b:ByteArray} (hb:b.size=1):
 t1p d s 0 b=some (d.1, [(s,b++(rdL Ty.str d.1 s.toNat).extract 1 64)]):=by
 obtain⟨k1,k2,k3,k4⟩:=q66.mp hk
 have hlt:s.toNat<d.1.length:=by omega
 have hold:(rdL Ty.str d.1 s.toNat).size=64:=by
  have e:rdL Ty.str d.1 s.toNat=d.1[s.toNat] :=y8k (t:=Ty.str) hlt
  rw[e]
  exact k3 _ (List.getElem_mem hlt)
 have hs:((s.toNat:Nat):Int)=s:=by omega
 have hrd:u0h d s=(rdL Ty.str d.1 s.toNat,true):=by
  unfold u0h
  rw[if_pos ⟨h0,h1⟩,h2]
  rfl
 have c:(r47 0 0 6400&&r47 s 0 ((d.1.length:Int) - 1)&&u2m d)=true:=by
  rw[hk]
  simp[r47]
  omega
 have e1:(rdL Ty.str d.1 s.toNat).extract 0 0=ByteArray.empty:=by
  apply ByteArray.ext
  simp
 have e2:b.extract 0 1=b:=by rw[←hb];exact ByteArray.extract_zero_size
 have hw:t3x d s (b++(rdL Ty.str d.1 s.toNat).extract 1 64)=some (d.1, [(s,b++(rdL Ty.str d.1 s.toNat).extract 1 64)]):=by
  unfold t3x
  rw[q2i,hk,h2]
  have:r47 s 0 ((d.1.length:Int) - 1)=true:=by simp[r47];omega
  rw[this]
  have hz:(b++(rdL Ty.str d.1 s.toNat).extract 1 64).size=64:=by
   rw[ByteArray.size_append,ByteArray.size_extract,hb,hold];omega
  simp[hz]
 unfold t1p
 rw[if_pos c]
 have z:(0:Int).toNat=0:=rfl
 simp only[z,Nat.zero_div,Nat.zero_mod,Nat.add_zero,hb]
 rw[p4s,if_neg (by omega)]
 rw[hs,hrd]
 simp only[hold,and_self,if_true,hb]
 have m1:min 1 (64 - 0)=1:=by decide
 rw[m1,e1,e2]
 have e3:ByteArray.empty++b++(rdL Ty.str d.1 s.toNat).extract (0+1) 64=b++(rdL Ty.str d.1 s.toNat).extract 1 64:=by
  rw[ByteArray.empty_append]
 rw[e3,hw]
 simp only[zOb]
 exact p9p _ _ _ _ (by rw[ByteArray.size_extract,hb];decide)
end
section
def r6t (d:u0k) (a:Int):Int:=IntKind.i64.wrap (u08 d a+1)
def p82 (d:u0k) (a:Int) (t:ByteArray):Option u0k:=(r0f d a t).map fun x=>u2d (orD (u2d x) (r95 (u2d x) a (r6t d a))).1
theorem p8g {d x:u0k} {a n:Int} {t:ByteArray} (hlen:d.1.length=97) (h:r0f d a t=some x):∃y,r95 (u2d x) a n=some y∧u2m y=true∧y.1.length=97:=by
 obtain⟨h1,h2,h3,_⟩:=q8g h
 obtain⟨f1,f2,f3⟩:=s03 h2
 have hl:(u2d x).1.length=97:=by rw[f3,h3];exact hlen
 have ha:=r0d a
 have ho:=q33 (s:=u0f a) f1 f2 (by omega) (by rw[hl];omega) (u70 n)
 have:=t1q ho
 exact⟨_,ho,this.2.1,by rw[this.2.2];exact hl⟩
theorem u98 {d:u0k} (h:u5i d=true):u2m d=true∧d.1.length=97∧d.2= [] ∧(u0e d 0).2.2=true∧(u0e d 1).2.2=true:=by
 unfold u5i at h
 simp only[Bool.and_eq_true,decide_eq_true_eq] at h
 obtain⟨⟨⟨⟨a,b⟩,c⟩,e⟩,f⟩:=h
 exact⟨a,b,List.length_eq_zero_iff.mp c,e,f⟩
def append_ (d:u0k) (t:ByteArray):Option u0k:=if u5i d then p82 d (u1d d) t else none
theorem p93 {d y:u0k} {a:Int} {t:ByteArray} (hlen:d.1.length=97) (h:p82 d a t=some y):∃x,r0f d a t=some x∧u2m x=true∧u2m y=true∧y.2= [] ∧y.1.length=97∧y=u2d (orD (u2d x) (r95 (u2d x) a (r6t d a))).1:=by
 unfold p82 at h
 cases hb:r0f d a t with
 | none=>rw[hb] at h;cases h
 | some x=>
  rw[hb] at h
  simp only[Option.map_some,Option.some.injEq] at h
  obtain⟨z,hz,hz2,hz3⟩:=p8g (n:=r6t d a) hlen hb
  rw[hz] at h
  simp only[orD] at h
  obtain⟨f1,f2,f3⟩:=s03 hz2
  rw[←h]
  exact⟨x,rfl,(q8g hb).2.1,f1,f2,by rw[f3];exact hz3,by rw[hz];rfl⟩
section
variable {d:u0k} {t:ByteArray} (hd:q8c.wt d≤10000000) (ht:t.size≤1048576)
include hd ht
end
end
section
theorem r4x {d x:u0k} {k:Int} {s:ByteArray} (h:t3x d k s=some x) {j:Int} (hj:j≠k):u0h x j=u0h d j:=by
 have:=(s6b h).2
 subst this
 have hne: ¬k=j:=fun z=>hj z.symm
 unfold u0h
 simp only[r05,hne,if_false]
theorem r86:∀ {f:Nat} {d x:u0k} {k at_:Nat} {t:ByteArray},p4s f d k at_ t=some x→at_<64→ ∀j:Nat,¬(k≤j∧j*64<k*64+at_+t.size)→u0h x (j:Int)=u0h d (j:Int)
 | 0,d,x,k,at_,t,h,_,j,_=>by cases h;rfl
 | f+1,d,x,k,at_,t,h,hat,j,hj=>by
  rw[p4s] at h
  split at h
  ·cases h;rfl
  ·rename_i hz
   split at h
   ·cases hw:t3x d (k:Int) ((u0h d (k:Int)).1.extract 0 at_++t.extract 0 (min t.size (64 - at_))++(u0h d (k:Int)).1.extract (at_+min t.size (64 - at_)) 64) with
    | none=>rw[hw] at h;cases h
    | some y=>
     rw[hw] at h
     simp only[zOb] at h
     have hne:j≠k:=fun z=>hj ⟨by omega,by omega⟩
     rw[←r4x hw (j:=(j:Int)) (by omega)]
     refine r86 h (by omega) j (fun z=>hj ?_)
     rw[ByteArray.size_extract] at z
     omega
   ·cases h
theorem p7k {s:List ByteArray} {p:Int×ByteArray} {j:Int} (hp:0≤p.1) (hj0:0≤j) (hj:j.toNat<s.length):rdL Ty.str (s1w s p) j.toNat=if p.1=j then p.2 else rdL Ty.str s j.toNat:=by
 have h' :j.toNat<(s.set p.1.toNat p.2).length:=by rw[List.length_set];exact hj
 have e1:rdL Ty.str (s.set p.1.toNat p.2) j.toNat=(s.set p.1.toNat p.2)[j.toNat] :=y8k (t:=Ty.str) h'
 have e2:rdL Ty.str s j.toNat=s[j.toNat] :=y8k (t:=Ty.str) hj
 show rdL Ty.str (s.set p.1.toNat p.2) j.toNat=_
 rw[e1,e2,List.getElem_set]
 by_cases e:p.1=j
 ·rw[if_pos (by rw[e]),if_pos e]
 ·rw[if_neg (by omega),if_neg e]
theorem q7a {j:Int} (hj0:0≤j) (z:ByteArray):∀(c:List (Int×ByteArray)) (s:List ByteArray) (t:Option ByteArray),(∀p∈c,0≤p.1)→j.toNat<s.length→rdL Ty.str s j.toNat=t.getD z→
 rdL Ty.str (c.foldl s1w s) j.toNat=(c.foldl (fun t p=>if p.1=j then some p.2 else t) t).getD z
 | [],s,t,_,_,h=>h
 | p::c,s,t,hc,hl,h=>by
  rw[List.foldl_cons,List.foldl_cons]
  refine q7a hj0 z c _ _ (fun q hq=>hc q (List.mem_cons_of_mem _ hq)) (by rw[q7n];exact hl) ?_
  rw[p7k (hc p (List.mem_cons_self ..)) hj0 hl]
  split
  ·rfl
  ·exact h
theorem t3y {d:u0k} (hk:u2m d=true) (j:Int):u0h (u2d d) j=u0h d j:=by
 obtain⟨_,f2,f3⟩:=s03 hk
 obtain⟨k1,k2,k3,k4⟩:=q66.mp hk
 unfold u0h
 rw[f3]
 split
 ·rename_i hj
  have e1:u88 (u2d d).2 j=none:=by rw[f2];rfl
  rw[e1]
  have e2:(u2d d).1=d.2.foldl s1w d.1:=by unfold u2d;rw[if_pos hk]
  rw[e2]
  have:=q7a hj.1 (rdL Ty.str d.1 j.toNat) d.2 d.1 none (fun p hp=>(k4 p hp).1.1) (by omega) rfl
  show(rdL Ty.str (d.2.foldl s1w d.1) j.toNat,true)=_
  rw[this]
  rfl
 ·rfl
theorem q4h {d d' :u0k} {from_:Int} :∀(m i:Nat) (acc:ByteArray),(∀q:Nat,i≤q→q<i+m→u0h d' (from_+(q:Int))=u0h d (from_+(q:Int)))→r2r d' from_ m i acc=r2r d from_ m i acc
 | 0,i,acc,h=>rfl
 | m+1,i,acc,h=>by
  unfold r2r
  rw[h i (by omega) (by omega)]
  split
  ·exact q4h m (i+1) _ (fun q h1 h2=>h q (by omega) (by omega))
  ·rfl
theorem t2h {d d' :u0k} {o:Int} (h:∀q:Nat,q<48→u0h d' (u0f o+(q:Int))=u0h d (u0f o+(q:Int))):u0e d' o=u0e d o:=by
 have h1:u6b d' (u0f o+1) 47=u6b d (u0f o+1) 47:=by
  unfold u6b
  rw[if_pos (by omega),if_pos (by omega)]
  refine q4h _ _ _ (fun q _ hq=> ?_)
  have:=h (q+1) (by simp at hq;omega)
  rw[show u0f o+1+(q:Int)=u0f o+((q+1:Nat):Int) by omega]
  exact this
 have h2:u08 d' o=u08 d o:=by
  unfold u08 u44
  have:=h 0 (by omega)
  rw[show u0f o+((0:Nat):Int)=u0f o by omega] at this
  rw[this]
 unfold u0e
 rw[h1,h2]
def OnlyArea (a:Int) (d d' :u0k):Prop:= ∀j:Nat,¬(u0f a≤(j:Int)∧(j:Int)<u0f a+48)→u0h d' (j:Int)=u0h d (j:Int)
theorem OnlyArea.trans {a:Int} {d d' e:u0k} (h1:OnlyArea a d d') (h2:OnlyArea a d' e):OnlyArea a d e:=fun j hj=>(h2 j hj).trans (h1 j hj)
def p1g (a:Int):List ByteArray→u0k→Option u0k
 | [],x=>some x
 | t::l,x=>(p82 x a t).bind (p1g a l)
end
section
def u77 (d:u0k):Int:=1 - u1d d
theorem r2c (d:u0k):(u77 d=0∨u77 d=1)∧u1d d=1 - u77 d:=by
 unfold u77
 have:=r4z d
 omega
def r8o (d:u0k):u0k:=u2d (orD d (r95 d (u77 d) 0)).1
def q9l (d:u0k) (l:List ByteArray):Option u0k:=if u5i d then p1g (u77 d) l (r8o d) else none
def p9l (x:u0k):Option u0k:=t1p x 0 0 (s02 (IntKind.i64.wrap (u44 x 0+1)))
def r8u (d:u0k) (l:List ByteArray):Option u0k:=(q9l d l).map fun x=>u2d (orD x (p9l x)).1
section
variable {d:u0k} {l:List ByteArray} (hd:q8c.wt d≤10000000) (hl:l.length≤1048576) (hs:∀t∈l,t.size≤1048576)
include hd hl hs
def u95 (d:u0k) (l:List ByteArray) (step:Int) (keep:List Int) (tear:Int):u0k:=
 match q9l d l with
 | none=>d
 | some x=>
  if step=0 then s0q (orD d (r95 d (u77 d) 0)).1 keep tear
  else if step=1 then x
  else if step=2 then s0q (orD x (p9l x)).1 keep tear
  else u2d (orD x (p9l x)).1
end
end
section
def s8s (s:ByteArray) (i:Nat):UInt8:=s.data.toList.getD i 0
theorem u74 (a b:ByteArray) (i:Nat):s8s (a++b) i=if i<a.size then s8s a i else s8s b (i - a.size):=by
 unfold s8s
 have hs:a.size=a.data.toList.length:=by simp only[Array.length_toList];rfl
 rw[ByteArray.data_append,Array.toList_append,List.getD_eq_getElem?_getD,hs]
 split
 ·rename_i h
  rw[List.getElem?_append_left h,List.getD_eq_getElem?_getD]
 ·rename_i h
  rw[List.getElem?_append_right (Nat.le_of_not_lt h),List.getD_eq_getElem?_getD]
theorem u4d (a:ByteArray) (b e i:Nat):s8s (a.extract b e) i=if i<min e a.size - b then s8s a (b+i) else 0:=by
 unfold s8s
 have hd:(a.extract b e).data.toList=(a.data.toList.drop b).take (min e a.size - b):=by
  have hs:a.size=a.data.toList.length:=by simp only[Array.length_toList];rfl
  rw[ByteArray.data_extract]
  rw[Array.toList_extract,List.extract_eq_take_drop]
  apply List.ext_getElem?
  intro n
  rw[List.getElem?_take,List.getElem?_take,List.getElem?_drop]
  split<;>split<;>first | rfl | skip
  ·rename_i h1 h2
   rw[List.getElem?_eq_none (by omega)]
  ·rename_i h1 h2
   rw[List.getElem?_eq_none (by omega)]
 rw[hd,List.getD_eq_getElem?_getD,List.getElem?_take]
 split
 ·rw[List.getElem?_drop,List.getD_eq_getElem?_getD]
 ·rfl
theorem q1p {a b:ByteArray} (hs:a.size=b.size) (h:∀i,i<a.size→s8s a i=s8s b i):a=b:=by
 have ha:a.size=a.data.toList.length:=by simp only[Array.length_toList];rfl
 have hb:b.size=b.data.toList.length:=by simp only[Array.length_toList];rfl
 have:a.data.toList=b.data.toList:=by
  apply List.ext_getElem (by omega)
  intro i h1 h2
  have:=h i (by omega)
  unfold s8s at this
  rw[List.getD_eq_getElem?_getD,List.getD_eq_getElem?_getD,List.getElem?_eq_getElem h1,List.getElem?_eq_getElem h2] at this
  exact this
 apply ByteArray.ext
 apply Array.ext'
 exact this
theorem q91 {d x:u0k} {k:Int} {s:ByteArray} (h:t3x d k s=some x):u0h x k=(s,true):=by
 obtain⟨h1,h2⟩:=s6b h
 obtain⟨_,_,_,h4⟩:=q66.mp h1
 subst h2
 have:=(h4 (k,s) (by simp)).1
 have hk:0≤k∧k<(d.1.length:Int):=this
 unfold u0h
 simp only[r05]
 rw[if_pos hk]
 simp
theorem q7t:∀ {f:Nat} {d x:u0k} {k at_:Nat} {t:ByteArray},p4s f d k at_ t=some x→t.size<f→at_<64→ ∀(j i:Nat),i<64→j<d.1.length→
 s8s (u0h x (j:Int)).1 i=if k*64+at_≤j*64+i∧j*64+i<k*64+at_+t.size then s8s t (j*64+i - (k*64+at_)) else s8s (u0h d (j:Int)).1 i
 | 0,d,x,k,at_,t,h,hf,_,j,i,_,_=>by omega
 | f+1,d,x,k,at_,t,h,hf,hat,j,i,hi,hj=>by
  rw[p4s] at h
  split at h
  ·rename_i hz
   cases h
   rw[if_neg (by omega)]
  ·rename_i hz
   split at h
   ·rename_i hrd
    cases hw:t3x d (k:Int) ((u0h d (k:Int)).1.extract 0 at_++t.extract 0 (min t.size (64 - at_))++(u0h d (k:Int)).1.extract (at_+min t.size (64 - at_)) 64) with
    | none=>rw[hw] at h;cases h
    | some y=>
     rw[hw] at h
     simp only[zOb] at h
     obtain⟨n,hn⟩:∃n,n=min t.size (64 - at_):=⟨_,rfl⟩
     rw[←hn] at h hw
     have hyl:y.1.length=d.1.length:=by rw[(s6b hw).2]
     have hsz:(t.extract n t.size).size=t.size - n:=by rw[ByteArray.size_extract];omega
     have ih:=q7t h (by omega) (by omega) j i hi (by omega)
     rw[ih,hsz]
     by_cases hjk:j=k
     ·subst hjk
      rw[if_neg (by omega),q91 hw]
      simp only
      rw[u74,u74,u4d,u4d,u4d]
      simp only[ByteArray.size_append,ByteArray.size_extract,hrd.2]
      by_cases h1:i<at_
      ·have e1:i<min at_ 64 - 0:=by omega
       rw[if_pos (by omega),if_pos e1,if_pos e1,if_neg (by omega),Nat.zero_add]
      ·by_cases h2:i<at_+n
       ·rw[if_pos (by omega),if_neg (by omega),if_pos (by omega),if_pos (by omega)]
        congr 1
        omega
       ·rw[if_neg (by omega),if_pos (by omega),if_neg (by omega)]
        congr 1
        omega
     ·have hfr:u0h y (j:Int)=u0h d (j:Int):=r4x hw (by omega)
      rw[hfr]
      by_cases h1:(k+1)*64+0≤j*64+i∧j*64+i<(k+1)*64+0+(t.size - n)
      ·rw[if_pos h1,if_pos (by omega),u4d,if_pos (by omega)]
       congr 1
       omega
      ·rw[if_neg h1,if_neg (by omega)]
   ·cases h
end
section
theorem p11 (a:ByteArray):a.size=a.data.toList.length:=by simp only[Array.length_toList];rfl
theorem r68 {a:ByteArray} {i:Nat} (h:i<a.size):a.data.toList[i]? =some (s8s a i):=by
 unfold s8s
 rw[p11] at h
 rw[List.getD_eq_getElem?_getD,List.getElem?_eq_getElem h]
 rfl
theorem q4n:∀ {f i n:Nat} {l l' :List UInt8} {v k:Nat},s6a f i n l=some (v,k)→(∀q,q<k - i→l'[q]? =l[q]?)→s6a f i n l' =some (v,k)
 | 0,_,_,_,_,_,_,h,_=>by cases h
 | _+1,_,_, [],_,_,_,h,_=>by cases h
 | f+1,i,n,b::l,l',v,k,h,hl=>by
  have hk:=(q90 _ _ _ _ _ _ h).2.2
  have h0:=hl 0 (by omega)
  cases l' with
  | nil=>simp at h0
  | cons b' l' =>
   simp only[List.getElem?_cons_zero,Option.some.injEq] at h0
   subst h0
   simp only[s6a] at h ⊢
   split at h
   ·rename_i h1
    rw[if_pos h1]
    exact h
   ·rename_i h1
    rw[if_neg h1]
    exact q4n h (fun q hq=>by have:=hl (q+1) (by omega);simpa using this)
theorem q9w {T T' :ByteArray} {at_:Int} (h:(u0n T at_).2.2=true) (hs:T'.size=T.size) (hb:∀q:Nat,(q:Int)<(u0n T at_).2.1→s8s T' q=s8s T q):u0n T' at_=u0n T at_:=by
 have hok:=t4c h
 unfold u0n at h hb hok ⊢
 split at h
 ·rename_i hc
  rw[if_pos hc] at hb hok
  rw[if_pos (by rw[hs];exact hc),if_pos hc]
  cases hv:s6a 5 0 0 (T.data.toList.drop at_.toNat) with
  | none=>rw[hv] at h;cases h
  | some r=>
   obtain⟨v,k⟩:=r
   rw[hv] at hb hok
   simp only[r7p] at hb hok
   rw[q4n hv (fun q hq=>by
    have hlt:at_.toNat+q<T.size:=by omega
    rw[List.getElem?_drop,List.getElem?_drop,r68 (by omega),r68 hlt,hb (at_.toNat+q) (by omega)])]
 ·cases h
theorem r4o {T:ByteArray} {at_:Int} (h:(u0m T at_).2.2=true):0≤at_∧at_<(u0m T at_).2.1∧(u0m T at_).2.1≤T.size:=by
 have h2:=r1f h
 unfold u0m at h h2 ⊢
 split at h
 ·rename_i hc
  rw[if_pos hc] at h2
  rw[if_pos hc]
  have:=t4c hc.1
  simp only at h2 ⊢
  omega
 ·cases h
theorem q4a {T T' :ByteArray} {at_:Int} (h:(u0m T at_).2.2=true) (hs:T'.size=T.size) (hb:∀q:Nat,(q:Int)<(u0m T at_).2.1→s8s T' q=s8s T q):u0m T' at_=u0m T at_:=by
 have hn:=r4o h
 unfold u0m at h hb hn ⊢
 split at h
 ·rename_i hc
  rw[if_pos hc] at hb hn
  simp only at hb hn
  have hok:=t4c hc.1
  have e:u0n T' at_=u0n T at_:=q9w hc.1 hs (fun q hq=>hb q (by omega))
  rw[e,if_pos (by rw[hs];exact hc),if_pos hc]
  congr 1
  apply q1p
  ·rw[ByteArray.size_extract,ByteArray.size_extract,hs]
  ·intro i hi
   rw[ByteArray.size_extract] at hi
   rw[u4d,u4d,hs]
   split
   ·exact hb _ (by omega)
   ·rfl
 ·cases h
theorem q6z {T:ByteArray} :∀ {m:Nat} {at_:Int} {acc l:List ByteArray} {E:Int},u5c T m at_ acc=(l,E,true)→at_≤E
 | 0,at_,acc,l,E,h=>by unfold u5c at h;cases h;exact Int.le_refl _
 | m+1,at_,acc,l,E,h=>by
  unfold u5c at h
  split at h
  ·rename_i hc
   simp only[Bool.and_eq_true] at hc
   have h1:=(r4o hc.1).2.1
   have h2:=q6z h
   omega
  ·cases h
theorem r0e {T T' :ByteArray} (hs:T'.size=T.size):∀ {m:Nat} {at_:Int} {acc l:List ByteArray} {E:Int},u5c T m at_ acc=(l,E,true)→(∀q:Nat,(q:Int)<E→s8s T' q=s8s T q)→u5c T' m at_ acc=(l,E,true)
 | 0,at_,acc,l,E,h,_=>by unfold u5c at h ⊢;exact h
 | m+1,at_,acc,l,E,h,hb=>by
  unfold u5c at h ⊢
  split at h
  ·rename_i hc
   have hc' :=hc
   simp only[Bool.and_eq_true] at hc'
   have h2:=q6z h
   rw[q4a hc'.1 hs (fun q hq=>hb q (by omega)),if_pos hc]
   exact r0e hs h hb
  ·cases h
theorem q2d {T:ByteArray} {s:ByteArray} {nx:Int} :∀ {m:Nat} {at_:Int} {acc l:List ByteArray} {E:Int},u5c T m at_ acc=(l,E,true)→u0m T E=(s,nx,true)→s.size≠0→u5c T (m+1) at_ acc=(l++ [s],nx,true)
 | 0,at_,acc,l,E,h,hr,hne=>by
  unfold u5c at h
  cases h
  unfold u5c
  have:z7o s emp=false:=by
   have:=p12 (t:=s)
   rw[p6x] at this
   rw[this]
   simpa using hne
  rw[hr]
  simp only[this,Bool.not_false,Bool.and_self,if_true]
  rfl
 | m+1,at_,acc,l,E,h,hr,hne=>by
  unfold u5c at h
  split at h
  ·rename_i hc
   unfold u5c
   rw[if_pos hc]
   exact q2d h hr hne
  ·cases h
def u8s (l:List Int):List UInt8:=l.map fun n=>UInt8.ofNat n.toNat
theorem r8z:∀(f i acc n N:Nat) (r:List UInt8),0<f→n<128^f→acc+n*128^i=N→N≤1000000000→(s0f N).length=i+(s0f n).length→s6a f i acc (u8s (s0f n)++r)=some (N,i+(s0f n).length)
 | 0,i,acc,n,N,r,hf,_,_,_,_=>by omega
 | f+1,i,acc,n,N,r,_,hn,hN,hb,hl=>by
  by_cases h:n<128
  ·rw[r1o h] at hl ⊢
   have e:(UInt8.ofNat ((n:Int)).toNat).toNat=n:=by
    rw[zTn,UInt8.toNat_ofNat']
    omega
   simp only[u8s,List.map_cons,List.map_nil,List.cons_append,List.nil_append,s6a,e,h,if_true,List.length_singleton] at hl ⊢
   rw[Nat.mod_eq_of_lt h,hN,if_pos ⟨hb,hl⟩]
  ·rw[r8y h] at hl ⊢
   have e:(UInt8.ofNat (((n % 128+128:Nat):Int)).toNat).toNat=n % 128+128:=by
    rw[zTn,UInt8.toNat_ofNat']
    omega
   have hh: ¬n % 128+128<128:=by omega
   simp only[u8s,List.map_cons,List.cons_append,s6a,e,hh,if_false,List.length_cons] at hl ⊢
   have e2:(n % 128+128) % 128=n % 128:=by omega
   rw[e2]
   have:=r8z f (i+1) (acc+n % 128*128^i) (n / 128) N r (by rcases f with _ | f<;>simp at hn ⊢;omega) (by rw[Nat.pow_succ] at hn;omega) (by
    rw[←hN,Nat.pow_succ]
    have:n=n % 128+128*(n / 128):=by omega
    conv=>rhs;rw[this]
    rw[Nat.add_mul]
    have:n / 128*(128^i*128)=128*(n / 128)*128^i:=by rw[Nat.mul_comm (128^i) 128,←Nat.mul_assoc,Nat.mul_comm (n / 128) 128]
    omega) hb (by omega)
   show s6a f (i+1) (acc+n % 128*128^i) (u8s (s0f (n / 128))++r)=_
   rw[this]
   congr 2
   omega
end
section
theorem s4p (l:List Int):(y7g l).data.toList=u8s l:=by
 unfold y7g u8s
 simp
theorem r8s {T t:ByteArray} {E:Nat} (h0:t.size≠0) (h1:t.size≤3008) (hE:E+(u09 t).size≤T.size) (hb:∀q,q<(u09 t).size→s8s T (E+q)=s8s (u09 t) q):
 u0m T (E:Int)=(t,((E+(u09 t).size:Nat):Int),true):=by
 have hsz:(u09 t).size=(s0f t.size).length+t.size:=by unfold u09;rw[ByteArray.size_append,u4j]
 have hlist:(u09 t).data.toList=u8s (s0f t.size)++t.data.toList:=by
  unfold u09
  rw[ByteArray.data_append,Array.toList_append,s4p]
 have hdrop:∃r,T.data.toList.drop E=u8s (s0f t.size)++r:=by
  refine⟨(T.data.toList.drop E).drop (u8s (s0f t.size)).length,?_⟩
  have:(T.data.toList.drop E).take (u8s (s0f t.size)).length=u8s (s0f t.size):=by
   apply List.ext_getElem?
   intro q
   rw[List.getElem?_take]
   split
   ·rename_i hq
    have hq' :q<(s0f t.size).length:=by simpa[u8s] using hq
    rw[List.getElem?_drop,r68 (by omega),hb q (by omega),←r68 (by omega),hlist,List.getElem?_append_left hq]
   ·rename_i hq
    rw[List.getElem?_eq_none (Nat.le_of_not_lt hq)]
  conv=>lhs;rw[←List.take_append_drop (u8s (s0f t.size)).length (T.data.toList.drop E)]
  rw[this]
 obtain⟨r,hr⟩:=hdrop
 have hv:=r8z 5 0 0 t.size t.size r (by omega) (by omega) (by simp) (by omega) (by omega)
 have hread:u0n T (E:Int)=((t.size:Int),(E:Int)+((s0f t.size).length:Int),true):=by
  unfold u0n
  rw[if_pos (by omega),zTn,hr,hv]
  simp[r7p]
 unfold u0m
 rw[hread]
 simp only
 rw[if_pos (by simp only[true_and];omega)]
 have e1:((E:Int)+((s0f t.size).length:Int)).toNat=E+(s0f t.size).length:=by omega
 have e2:((E:Int)+((s0f t.size).length:Int)+(t.size:Int)).toNat=E+(s0f t.size).length+t.size:=by omega
 rw[e1,e2]
 have et:T.extract (E+(s0f t.size).length) (E+(s0f t.size).length+t.size)=t:=by
  apply q1p
  ·rw[ByteArray.size_extract];omega
  ·intro i hi
   rw[ByteArray.size_extract] at hi
   rw[u4d,if_pos (by omega)]
   have:=hb ((s0f t.size).length+i) (by omega)
   rw[show E+(s0f t.size).length+i=E+((s0f t.size).length+i) by omega,this]
   unfold u09
   rw[u74,if_neg (by rw[u4j];omega),u4j]
   congr 1
   omega
 rw[et]
 congr 2
 rw[hsz]
 omega
def o4s (d:u0k):Prop:= ∀k:Nat,k<97→(u0h d (k:Int)).2=true∧(u0h d (k:Int)).1.size=64
theorem r0k {d:u0k} (hk:u2m d=true) (hl:d.1.length=97):o4s d:=by
 intro k hlt
 obtain⟨k1,k2,k3,k4⟩:=q66.mp hk
 have hc:(0:Int)≤(k:Int)∧(k:Int)<(d.1.length:Int):=by omega
 unfold u0h
 rw[if_pos hc]
 refine⟨rfl,?_⟩
 cases hp:u88 d.2 (k:Int) with
 | none=>
  have hlt' :k<d.1.length:=by omega
  have e:rdL Ty.str d.1 k=d.1[k] :=y8k (t:=Ty.str) hlt'
  simp only[Option.getD_none,zTn]
  rw[e]
  exact k3 _ (List.getElem_mem hlt')
 | some s=>
  obtain⟨p,hp1,hp2⟩:=r48 hp
  simp only[Option.getD_some]
  rw[←hp2]
  exact(k4 p hp1).2
theorem q4g {d:u0k} {F:Nat} (h:∀q:Nat,q<47→(u0h d ((F+q:Nat):Int)).2=true∧(u0h d ((F+q:Nat):Int)).1.size=64):∀(m i:Nat) (acc:ByteArray),i+m≤47→
 ∃T,r2r d (F:Int) m i acc=(T,true)∧T.size=acc.size+64*m∧ ∀j,j<T.size→s8s T j=if j<acc.size then s8s acc j else s8s (u0h d ((F+i+(j - acc.size) / 64:Nat):Int)).1 ((j - acc.size) % 64)
 | 0,i,acc,_=>⟨acc,rfl,by omega,fun j hj=>by rw[if_pos hj]⟩
 | m+1,i,acc,hm=>by
  have hq:=h i (by omega)
  have e:(F:Int)+(i:Int)=((F+i:Nat):Int):=by omega
  obtain⟨T,t1,t2,t3⟩:=q4g h m (i+1) (acc++(u0h d ((F+i:Nat):Int)).1) (by omega)
  refine⟨T,?_,?_,fun j hj=> ?_⟩
  ·unfold r2r
   rw[e,if_pos hq.1]
   exact t1
  ·rw[t2,ByteArray.size_append,hq.2];omega
  ·rw[t3 j hj,ByteArray.size_append,hq.2,u74]
   by_cases h1:j<acc.size
   ·rw[if_pos (by omega),if_pos h1,if_pos h1]
   ·rw[if_neg h1,if_neg h1]
    by_cases h2:j<acc.size+64
    ·rw[if_pos h2]
     have z1:(j - acc.size) / 64=0:=by omega
     have z2:(j - acc.size) % 64=j - acc.size:=by omega
     rw[z1,z2,Nat.add_zero]
    ·rw[if_neg h2]
     have z1:F+(i+1)+(j - (acc.size+64)) / 64=F+i+(j - acc.size) / 64:=by omega
     have z2:(j - (acc.size+64)) % 64=(j - acc.size) % 64:=by omega
     rw[z1,z2]
def s3o (a:Int):Nat:=(u0f a+1).toNat
def s5n (d:u0k) (a:Int):ByteArray:=(u6b d (u0f a+1) 47).1
theorem u5s {d:u0k} (hf:o4s d) {a:Int} (ha:a=0∨a=1):u6b d (u0f a+1) 47=(s5n d a,true)∧(s5n d a).size=3008∧ ∀j,j<3008→s8s (s5n d a) j=s8s (u0h d ((s3o a+j / 64:Nat):Int)).1 (j % 64):=by
 have hfa:u0f a=1+a*48:=by unfold u0f;rw[if_pos (p8o.mpr ha)]
 have hF:(u0f a+1:Int)=((s3o a:Nat):Int):=by unfold s3o;rcases ha with rfl | rfl<;>omega
 have hb:s3o a+47≤97:=by unfold s3o;rcases ha with rfl | rfl<;>omega
 obtain⟨T,t1,t2,t3⟩:=q4g (d:=d) (F:=s3o a) (fun q hq=>hf (s3o a+q) (by omega)) 47 0 emp (by omega)
 have he:emp.size=0:=rfl
 have hs:u6b d (u0f a+1) 47=(T,true):=by
  unfold u6b
  rw[if_pos (by omega),hF]
  exact t1
 have hT:s5n d a=T:=by unfold s5n;rw[hs]
 rw[hT]
 rw[he] at t2 t3
 refine⟨hs,by omega,fun j hj=> ?_⟩
 rw[t3 j (by omega),if_neg (by omega),Nat.add_zero,Nat.sub_zero]
theorem t58 {d:u0k} (hf:o4s d) {a:Int} (ha:a=0∨a=1):u0e d a=u5c (s5n d a) (u08 d a).toNat 0 [] :=by
 have h:=(u5s hf ha).1
 have hi:p1j a=true:=p8o.mpr ha
 unfold u0e
 rw[h,hi]
 rfl
end
section
theorem p3y {a b:ByteArray} (h:a.data.toList=b.data.toList):a=b:=by
 apply ByteArray.ext
 exact Array.toList_inj.mp h
theorem q2e (a b:ByteArray):(a++b).data.toList=a.data.toList++b.data.toList:=by rw[ByteArray.data_append,Array.toList_append]
theorem u6k (a b c:ByteArray):a++b++c=a++(b++c):=p3y (by simp only[q2e,List.append_assoc])
theorem p2z (a:ByteArray):emp++a=a:=p3y (by rw[q2e];rfl)
theorem p2w (a:ByteArray):a++emp=a:=p3y (by rw[q2e];simp[emp])
theorem r40 (a:ByteArray):a.size=a.data.toList.length:=p11 a
def r1p (n:Int):ByteArray:=y7g (s0f n.toNat)
def p2x (b:Bool):ByteArray:=y7g [if b then 1 else 0]
def s8q {E:Type} (f:E→ByteArray) (l:List E):ByteArray:=l.foldl (fun s x=>s++f x) emp
def p2e (r:q6v):ByteArray:=u09 r.1++u09 r.2
def wrT (w:WrT):ByteArray:=u09 w.1++(u09 w.2.1++p2x w.2.2)
def p2a (v:u14):ByteArray:=u09 v.1++(u09 v.2.1++(p2x v.2.2.1++r1p v.2.2.2))
def u7a (t:u0i):ByteArray:=
 r1p t.1++(r1p t.2.1++(r1p t.2.2.1++(r1p t.2.2.2.1++(r1p (t.2.2.2.2.1.length:Int)++(s8q p2e t.2.2.2.2.1++(r1p (t.2.2.2.2.2.1.length:Int)++(s8q wrT t.2.2.2.2.2.1++(p2x t.2.2.2.2.2.2.1++u09 t.2.2.2.2.2.2.2))))))))
def s4q (l:List u0i):ByteArray:=r1p (l.length:Int)++s8q u7a l
def t7e (b:u0j):ByteArray:=r1p b.2.2.2.1++(r1p b.2.2.2.2++(r1p (b.1.length:Int)++(s8q p2a b.1++(s4q b.2.1++s4q b.2.2.1))))
theorem r6r {E:Type} (f:E→ByteArray):∀(l:List E) (s:ByteArray),l.foldl (fun s x=>s++f x) s=s++s8q f l
 | [],s=>(p2w s).symm
 | x::l,s=>by
  rw[List.foldl_cons,r6r f l]
  unfold s8q
  rw[List.foldl_cons,r6r f l (emp++f x),p2z,u6k]
  rfl
theorem t84 {E:Type} (f:E→ByteArray) (x:E) (l:List E):s8q f (x::l)=f x++s8q f l:=by
 unfold s8q
 rw[List.foldl_cons,r6r,p2z]
 rfl
theorem q8j {E:Type} (f:E→ByteArray):s8q f [] =emp:=rfl
def t16 (T:ByteArray) (a:Nat) (s:ByteArray):Prop:= ∃r,T.data.toList.drop a=s.data.toList++r
theorem o1u {T:ByteArray} {a:Nat} {s u:ByteArray} :t16 T a (s++u)↔t16 T a s∧t16 T (a+s.size) u:=by
 unfold t16
 rw[q2e,r40 s]
 constructor
 ·rintro⟨r,h⟩
  refine⟨⟨u.data.toList++r,by rw[h,List.append_assoc]⟩,r,?_⟩
  rw[←List.drop_drop,h,List.append_assoc,List.drop_left]
 ·rintro⟨⟨r,h⟩,r',h'⟩
  rw[←List.drop_drop,h,List.drop_left] at h'
  exact⟨r',by rw[h,h',List.append_assoc]⟩
theorem r7j {T:ByteArray} {a:Nat} {s:ByteArray} (h:t16 T a s) (hs:s.size≠0):a+s.size≤T.size:=by
 obtain⟨r,h⟩:=h
 have:=congrArg List.length h
 rw[List.length_drop,List.length_append,←r40,←r40] at this
 omega
theorem p5t {a s b:ByteArray} :t16 (a++s++b) a.size s:=⟨b.data.toList,by rw[q2e,q2e,r40,List.append_assoc,List.drop_left]⟩
theorem s0g (n:Int):(r1p n).size=(s0f n.toNat).length:=u4j _
theorem r7o (n:Nat):0<(s0f n).length:=by
 by_cases h:n<128
 ·rw[r1o h];simp
 ·rw[r8y h];simp
theorem r4p {T:ByteArray} {a:Nat} {n:Int} (h0:0≤n) (hn:n≤1000000000) (h:t16 T a (r1p n)):u0n T (a:Int)=(n,((a+(r1p n).size:Nat):Int),true):=by
 have hle:=r7j h (by rw[s0g];have:=r7o n.toNat;omega)
 obtain⟨r,h⟩:=h
 unfold r1p at h
 rw[s4p] at h
 have hv:=r8z 5 0 0 n.toNat n.toNat r (by omega) (by omega) (by simp) (by omega) (by omega)
 unfold u0n
 rw[if_pos (by omega),zTn,h,hv]
 simp only[r7p]
 rw[s0g]
 congr 1
 ·omega
 ·congr 1
  omega
theorem q1g {T:ByteArray} {a:Nat} {s:ByteArray} (hs:s.size≤20000) (h:t16 T a (u09 s)):u0m T (a:Int)=(s,((a+(u09 s).size:Nat):Int),true):=by
 have e:u09 s=r1p (s.size:Int)++s:=rfl
 rw[e] at h
 obtain⟨h1,h2⟩:=o1u.mp h
 have hv:=r4p (by omega) (by omega) h1
 have hle1:=r7j h1 (by rw[s0g];have:=r7o (s.size:Int).toNat;omega)
 unfold u0m
 rw[hv]
 have hle:a+(r1p (s.size:Int)).size+s.size≤T.size:=by
  by_cases q:s.size=0
  ·omega
  ·exact r7j h2 q
 rw[if_pos (by simp only[true_and];omega)]
 have hx:T.extract (((a+(r1p (s.size:Int)).size:Nat):Int)).toNat ((((a+(r1p (s.size:Int)).size:Nat):Int)+(s.size:Int))).toNat=s:=by
  rw[zTn,show(((a+(r1p (s.size:Int)).size:Nat):Int)+(s.size:Int)).toNat=a+(r1p (s.size:Int)).size+s.size by omega]
  rw[r97 _ _ _ hle]
  obtain⟨r,hr⟩:=h2
  rw[hr,Nat.add_sub_cancel_left,r40,List.take_left]
 simp only[hx]
 rw[e,ByteArray.size_append]
 congr 2
 omega
abbrev Cur:=Int×Bool
def u13 (s:ByteArray) (c:Cur):Int×Cur:=if c.2=true∨(u0n s c.1).2.2=false then(0,c.1,true) else((u0n s c.1).1,(u0n s c.1).2.1,false)
def u19 (s:ByteArray) (c:Cur):ByteArray×Cur:=if c.2=true∨(u0m s c.1).2.2=false then(emp,c.1,true) else((u0m s c.1).1,(u0m s c.1).2.1,false)
def u5n (s:ByteArray) (i:Nat):Nat:=(s.data.toList.getD i 0).toNat
def r7z (s:ByteArray) (c:Cur):Bool×Cur:=if c.2=true∨ ¬(0≤c.1∧c.1<(s.size:Int))∨1<u5n s c.1.toNat then(false,c.1,true) else(decide (u5n s c.1.toNat=1),c.1+1,false)
def u2a {E:Type} (f:Cur→E×Cur):Nat→Cur→List E→List E×Cur
 | 0,c,a=>(a,c)
 | n+1,c,a=>if c.2=true then(a,c) else u2a f n (f c).2 (a++ [(f c).1])
def q9t (s:ByteArray) (c:Cur):q6v×Cur:=(((u19 s c).1,(u19 s (u19 s c).2).1),(u19 s (u19 s c).2).2)
def rWr (s:ByteArray) (c:Cur):WrT×Cur:=
 (((u19 s c).1,(u19 s (u19 s c).2).1,(r7z s (u19 s (u19 s c).2).2).1),(r7z s (u19 s (u19 s c).2).2).2)
def q9v (s:ByteArray) (c:Cur):u14×Cur:=
 let w:=rWr s c
 ((w.1.1,w.1.2.1,w.1.2.2,(u13 s w.2).1),(u13 s w.2).2)
def q1r (m:Nat) (s:ByteArray) (c:Cur):u0i×Cur:=
 let a:=u13 s c
 let b:=u13 s a.2
 let d:=u13 s b.2
 let e:=u13 s d.2
 let n:=u13 s e.2
 let rs:=u2a (q9t s) (min n.1.toNat m) n.2 []
 let k:=u13 s rs.2
 let ws:=u2a (rWr s) (min k.1.toNat m) k.2 []
 let o:=r7z s ws.2
 let nm:=u19 s o.2
 ((a.1,b.1,d.1,e.1,rs.1,ws.1,o.1,nm.1),nm.2)
theorem u78 {s:ByteArray} {c:Cur} (h:c.2=true):(u13 s c).2.2=true:=by unfold u13;rw[if_pos (.inl h)]
theorem s4m {s:ByteArray} {c:Cur} (h:c.2=true):(u19 s c).2.2=true:=by unfold u19;rw[if_pos (.inl h)]
theorem r7d {s:ByteArray} {c:Cur} (h:c.2=true):(r7z s c).2.2=true:=by unfold r7z;rw[if_pos (.inl h)]
theorem t2f {E:Type} {f:Cur→E×Cur} {n:Nat} {c:Cur} {a:List E} (h:c.2=true):u2a f n c a=(a,c):=by
 cases n with
 | zero=>rfl
 | succ n=>simp only[u2a];rw[if_pos h]
theorem p1v {E:Type} {f:Cur→E×Cur} :∀ {n:Nat} {c:Cur} {a:List E},(u2a f n c a).2.2=false→(u2a f n c a).1.length=a.length+n
 | 0,c,a,_=>rfl
 | n+1,c,a,h=>by
  simp only[u2a] at h ⊢
  split at h
  ·rename_i q;rw[q] at h;cases h
  ·rename_i q
   rw[if_neg q,p1v h]
   simp;omega
theorem u5j {s:ByteArray} {a:Nat} {n:Int} (h0:0≤n) (hn:n≤1000000000) (h:t16 s a (r1p n)):u13 s ((a:Int),false)=(n,((a+(r1p n).size:Nat):Int),false):=by
 unfold u13
 rw[r4p h0 hn h,if_neg (by simp)]
theorem t4b {s:ByteArray} {a:Nat} {x:ByteArray} (hx:x.size≤20000) (h:t16 s a (u09 x)):u19 s ((a:Int),false)=(x,((a+(u09 x).size:Nat):Int),false):=by
 unfold u19
 rw[q1g hx h,if_neg (by simp)]
theorem u2o (b:Bool):(p2x b).size=1:=u4j _
theorem r49 {s:ByteArray} {a:Nat} {b:Bool} (h:t16 s a (p2x b)):r7z s ((a:Int),false)=(b,((a+1:Nat):Int),false):=by
 have hle:=r7j h (by rw[u2o];omega)
 rw[u2o] at hle
 obtain⟨r,hr⟩:=h
 unfold p2x at hr
 rw[s4p] at hr
 have hb:u5n s a=if b then 1 else 0:=by
  unfold u5n
  have:s.data.toList.getD a 0=(s.data.toList.drop a).getD 0 0:=by
   rw[List.getD_eq_getElem?_getD,List.getD_eq_getElem?_getD,List.getElem?_drop,Nat.add_zero]
  rw[this,hr]
  cases b<;>rfl
 unfold r7z
 simp only[zTn,hb]
 rw[if_neg]
 ·cases b<;>simp
 ·rintro(q | q | q)
  ·cases q
  ·omega
  ·cases b<;>simp at q
theorem t7m {E:Type} {f:Cur→E×Cur} {g:E→ByteArray} {s:ByteArray} :∀ {l:List E} {a:Nat} {acc:List E},(∀x∈l,∀a:Nat,t16 s a (g x)→f ((a:Int),false)=(x,((a+(g x).size:Nat):Int),false))→
 t16 s a (s8q g l)→u2a f l.length ((a:Int),false) acc=(acc++l,((a+(s8q g l).size:Nat):Int),false)
 | [],a,acc,_,_=>by rw[q8j];simp[u2a,emp,ByteArray.size]
 | x::l,a,acc,hf,h=>by
  rw[t84] at h ⊢
  obtain⟨h1,h2⟩:=o1u.mp h
  have e:=hf x (by simp) a h1
  simp only[List.length_cons,u2a]
  rw[if_neg (by simp),e]
  rw[t7m (l:=l) (fun y hy=>hf y (by simp[hy])) h2,ByteArray.size_append]
  simp[Nat.add_assoc]
theorem p3f {s:ByteArray} {a:Nat} {r:q6v} (h1:r.1.size≤20000) (h2:r.2.size≤20000) (h:t16 s a (p2e r)):q9t s ((a:Int),false)=(r,((a+(p2e r).size:Nat):Int),false):=by
 obtain⟨k1,k2⟩:=o1u.mp h
 unfold q9t
 rw[t4b h1 k1]
 simp only
 rw[t4b h2 k2]
 unfold p2e
 rw[ByteArray.size_append,Nat.add_assoc]
theorem q7f {s:ByteArray} {a:Nat} {w:WrT} (h1:w.1.size≤20000) (h2:w.2.1.size≤20000) (h:t16 s a (wrT w)):rWr s ((a:Int),false)=(w,((a+(wrT w).size:Nat):Int),false):=by
 obtain⟨k1,k2⟩:=o1u.mp h
 obtain⟨k2,k3⟩:=o1u.mp k2
 unfold rWr
 rw[t4b h1 k1]
 simp only
 rw[t4b h2 k2]
 simp only
 rw[r49 k3]
 unfold wrT
 rw[ByteArray.size_append,ByteArray.size_append,u2o,Nat.add_assoc,Nat.add_assoc]
theorem p3h {s:ByteArray} {a:Nat} {v:u14} (h1:v.1.size≤20000) (h2:v.2.1.size≤20000) (h3:0≤v.2.2.2∧v.2.2.2≤1000000000) (h:t16 s a (p2a v)):q9v s ((a:Int),false)=(v,((a+(p2a v).size:Nat):Int),false):=by
 have e:p2a v=wrT (v.1,v.2.1,v.2.2.1)++r1p v.2.2.2:=by unfold p2a wrT;simp only[u6k]
 rw[e] at h ⊢
 obtain⟨k1,k2⟩:=o1u.mp h
 unfold q9v
 rw[q7f (w:=(v.1,v.2.1,v.2.2.1)) h1 h2 k1]
 simp only
 rw[u5j h3.1 h3.2 k2,ByteArray.size_append,Nat.add_assoc]
theorem TxnR.small {t:u0i} (h:TxnR t):(∀r∈t.2.2.2.2.1,r.1.size≤3∧r.2.size≤3)∧(∀w∈t.2.2.2.2.2.1,w.1.size≤3∧w.2.1.size≤12)∧t.2.2.2.2.2.2.2.size≤3∧t.2.2.2.2.2.1.length≤8∧0≤t.2.2.2.1∧t.2.2.2.1≤9999:=by
 obtain⟨w1,w2,w3⟩:=p96.mp h.ws
 refine⟨fun r hr=> ?_,fun w hw=> ?_,?_,w3,?_⟩
 ·have:=h.rs r hr
  unfold t30 at this
  rw[Bool.and_eq_true,Bool.and_eq_true] at this
  exact⟨(u5u this.1).2,(u5u this.2.1).2⟩
 ·have:=w1 w hw
  unfold u8c at this
  rw[Bool.and_eq_true,Bool.and_eq_true,decide_eq_true_eq] at this
  exact⟨(u5u this.1).2,this.2.1⟩
 ·by_cases e:t.2.1=2
  ·exact(u5u (h.name e)).2
  ·rw[h.noname e];omega
 ·by_cases e:t.2.1=3
  ·have:=h.done e;have:=h.snap;omega
  ·rw[h.nocs e];omega
theorem p3g {s:ByteArray} {a:Nat} {t:u0i} {m:Nat} (hm:8≤m) (ht:TxnR t) (h:t16 s a (u7a t)):q1r m s ((a:Int),false)=(t,((a+(u7a t).size:Nat):Int),false):=by
 obtain⟨z1,z2,z3,z4,z5⟩:=ht.small
 have hi:=ht.id;have hst:=ht.st;have hsn:=ht.snap;have hrl:=ht.rlen
 unfold u7a at h ⊢
 obtain⟨k1,h⟩:=o1u.mp h
 obtain⟨k2,h⟩:=o1u.mp h
 obtain⟨k3,h⟩:=o1u.mp h
 obtain⟨k4,h⟩:=o1u.mp h
 obtain⟨k5,h⟩:=o1u.mp h
 obtain⟨k6,h⟩:=o1u.mp h
 obtain⟨k7,h⟩:=o1u.mp h
 obtain⟨k8,h⟩:=o1u.mp h
 obtain⟨k9,k10⟩:=o1u.mp h
 unfold q1r
 rw[u5j (by omega) (by omega) k1]
 simp only
 rw[u5j (by omega) (by omega) k2]
 simp only
 rw[u5j (by omega) (by omega) k3]
 simp only
 rw[u5j (by omega) (by omega) k4]
 simp only
 rw[u5j (by omega) (by omega) k5]
 simp only
 rw[show min ((t.2.2.2.2.1.length:Int)).toNat m=t.2.2.2.2.1.length by omega,t7m (g:=p2e) (fun r hr a hs=>p3f (by have:=(z1 r hr).1;omega) (by have:=(z1 r hr).2;omega) hs) k6]
 simp only
 rw[u5j (by omega) (by omega) k7]
 simp only
 rw[show min ((t.2.2.2.2.2.1.length:Int)).toNat m=t.2.2.2.2.2.1.length by omega,t7m (g:=wrT) (fun w hw a hs=>q7f (by have:=(z2 w hw).1;omega) (by have:=(z2 w hw).2;omega) hs) k8]
 simp only
 rw[r49 k9]
 simp only
 rw[u2o] at k10
 rw[t4b (by omega) k10]
 simp only[List.nil_append,ByteArray.size_append,u2o]
 simp only[Nat.add_assoc]
end
end
end Go.Proofs.YtbkicjpdlchbgaaGreat.Ab
