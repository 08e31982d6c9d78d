import Derived.Test.YtbkicjpdlchbgaaGreatAbPreparesT1
import Derived.Test.YtbkicjpdlchbgaaGreatAbK2
import Derived.Test.YtbkicjpdlchbgaaGreatAbF4
import Derived.Test.YtbkicjpdlchbgaaGreatAbS2
namespace Go.Proofs.YtbkicjpdlchbgaaGreat.Ab
open Go
set_option linter.unusedVariables false
set_option linter.unusedSimpArgs false
set_option linter.unnecessarySimpa false
section
section
theorem r0n {E:Type} (a:List E) (n:Nat) (h:n≤a.length) (z:List E):(a.take n++z).take n=a.take n:=by
 rw[List.take_append_of_le_length (by rw[List.length_take];omega),List.take_take,Nat.min_self]
theorem t00 {E:Type} (p:E→Bool) (l:List E):(l.filter p).length≤l.length:=List.length_filter_le _ _
theorem p0o (l:List u0d) (c:Int) (hl:l.length≤8388608):u10 (l,c)=some (l.filter fun x=> !decide (x.2.2.2.1≤c)):=by
 have hq:∀x∈l,u8r (x,c)=some (decide (x.2.2.2.1≤c)):=fun x _=>by rw[q0r];rfl
 have L:=Q.first (T:=u1u) (c:=Int) (W:=u1g) (q:=u8r) (p:=fun x:u0d=>decide (x.2.2.2.1≤c)) (fun x=>u94 x) l c (by omega) hq
 rw[t0u];unfold u4s
 simp only[t1a,u5c,L,zOb]
 by_cases hk:u0m (fun x:u0d=>decide (x.2.2.2.1≤c)) l<l.length
 ·obtain⟨a,e1,e2,e3⟩:=Q.delete (T:=u1u) (c:=Int) (W:=u06) (q:=u8r) (p:=fun x:u0d=>decide (x.2.2.2.1≤c)) (fun x=>u87 x) l c (by omega) hq hk
  have hn:=t00 (fun x:u0d=> !decide (x.2.2.2.1≤c)) l
  obtain⟨n,hne⟩:∃n,n=(l.filter fun x:u0d=> !decide (x.2.2.2.1≤c)).length:=⟨_,rfl⟩
  rw[←hne] at e1 e3 hn
  have c1:decide (((u0m (fun x:u0d=>decide (x.2.2.2.1≤c)) l:Nat):Int)= -1)=false:=by simp
  have c2:decide ((0:Int)≤(n:Int))=true:=by simp
  have c3:decide ((n:Int)≤(a.length:Int))=true:=by simp;omega
  have c4:decide ((a.length:Int)≤(a.length:Int))=true:=by simp
  have hw:=y7l (i:=u0m (fun x:u0d=>decide (x.2.2.2.1≤c)) l) (by omega)
  simp only[if_pos hk,zOb,c1,cond_false,hw,e1,c2,c3,c4,Bool.and_self,cond_true,zTn,decide_true,Int.le_refl]
  have c5:decide ((n:Int)≤((a.take n++List.replicate (a.length - n) u1u.zero++a.drop (n+(a.length - n))).length:Int))=true:=by simp;omega
  have c6:(a.take n++List.replicate (a.length - n) u1u.zero++a.drop (n+(a.length - n))).take (n - (0:Int).toNat)=l.filter fun x:u0d=> !decide (x.2.2.2.1≤c):=by
   rw[List.append_assoc,Int.toNat_zero,Nat.sub_zero,r0n a n (by omega),e3]
  simp only[c5,Bool.and_self,cond_true,c6]
 ·have hall:(l.filter fun x:u0d=> !decide (x.2.2.2.1≤c))=l:=by
   rw[List.filter_eq_self]
   intro x hx
   obtain⟨i,hi,rfl⟩:=List.getElem_of_mem hx
   rw[u7c (p:=fun x:u0d=>decide (x.2.2.2.1≤c)) hi (by omega)]
   rfl
  simp only[if_neg hk,zOb,decide_true,cond_true,hall]
end
section
def u5q (b:u0h) (o:List u0d):u0h:=(u15 b.1 (t6l b o),b.2.1.filter (fun x=> !decide (x.2.2.2.1≤t6l b o)),b.2.2)
theorem s0a (b:u0h) (o:List u0d) (hb:fewB b) (ho:o.length≤4194304):u5r (b,o)=some (u5q b o):=by
 have h1:=s26 b hb
 have h2:=p0r b o ho
 have h3:=p0o b.2.1 (t6l b o) (by have:=hb.2.1.1;omega)
 have h4:=q79 b.1 (t6l b o) (by have:=hb.1;omega)
 rw[q56];unfold r4i u5q
 simp only[h1,h2,h3,h4,zOb]
theorem s46 (b:u0h) (o:List u0d) (hb:fewB b) (ho:o.length≤4194304):t3l (b,o)=some (u5q b o):=by
 have h1:=t7e b hb
 have h2:=p0s b o ho
 have h4:=q8a b.1 (t6l b o) (by have:=hb.1;omega)
 have hl:=hb.2.1.1
 have L:=s1j t6e b.2.1 (fun a i=>(b,(([], [], [],0,0):u0h),(b.1,a,b.2.2),t6l b o,i)) (fun x=> !decide (x.2.2.2.1≤t6l b o)) (fun x=>x) (fun a=> .inl (b,(([], [], [],0,0):u0h),(b.1,a,b.2.2),t6l b o)) (by omega)
  (fun a _=>by rw[r0j];simp only[t57,u0b,Nat.lt_irrefl,decide_false,cond_false])
  (fun i hi a ha=>by
   have hc:=u95 b.2.1[i] (hb.2.1.2 _ (List.getElem_mem hi))
   rw[r0j]
   simp only[t57,u0b,hi,decide_true,cond_true,y7t hi,zTn,y8k (t:=u1u) hi,hc,zOb,List.length_singleton,u1q (show a.length+1≤1099511627776 by omega)]
   rw[y7l (by omega)]
   by_cases h:b.2.1[i].2.2.2.1≤t6l b o
   ·have h' : ¬b.2.1[i].2.2.2.1 >t6l b o:=Int.not_lt.mpr h
    simp[h,h']
   ·have h' :b.2.1[i].2.2.2.1 >t6l b o:=Int.not_le.mp h
    simp[h,h'])
 rw[List.map_id'] at L
 rw[q6o];unfold r40 u5q
 simp only[h1,h2,zOb,L,h4]
end
section
theorem p25 (l:List u0d) (c:u0d) (hl:l.length≤8388608):u1h (l,c)=some (l.filter fun x=> !decide (x.1=c.1)):=by
 have hq:∀x∈l,u7f (x,c)=some (decide (x.1=c.1)):=fun x _=>by rw[r81];rfl
 have L:=Q.first (T:=u1u) (c:=u0d) (W:=u1a) (q:=u7f) (p:=fun x:u0d=>decide (x.1=c.1)) (fun x=>u9b x) l c (by omega) hq
 rw[u9r];unfold u4e
 simp only[t0y,u4w,L,zOb]
 by_cases hk:u0m (fun x:u0d=>decide (x.1=c.1)) l<l.length
 ·obtain⟨a,e1,e2,e3⟩:=Q.delete (T:=u1u) (c:=u0d) (W:=u00) (q:=u7f) (p:=fun x:u0d=>decide (x.1=c.1)) (fun x=>u82 x) l c (by omega) hq hk
  have hn:=t00 (fun x:u0d=> !decide (x.1=c.1)) l
  obtain⟨n,hne⟩:∃n,n=(l.filter fun x:u0d=> !decide (x.1=c.1)).length:=⟨_,rfl⟩
  rw[←hne] at e1 e3 hn
  have c1:decide (((u0m (fun x:u0d=>decide (x.1=c.1)) l:Nat):Int)= -1)=false:=by simp
  have c2:decide ((0:Int)≤(n:Int))=true:=by simp
  have c3:decide ((n:Int)≤(a.length:Int))=true:=by simp;omega
  have c4:decide ((a.length:Int)≤(a.length:Int))=true:=by simp
  have hw:=y7l (i:=u0m (fun x:u0d=>decide (x.1=c.1)) l) (by omega)
  simp only[if_pos hk,zOb,c1,cond_false,hw,e1,c2,c3,c4,Bool.and_self,cond_true,zTn,decide_true,Int.le_refl]
  have c5:decide ((n:Int)≤((a.take n++List.replicate (a.length - n) u1u.zero++a.drop (n+(a.length - n))).length:Int))=true:=by simp;omega
  have c6:(a.take n++List.replicate (a.length - n) u1u.zero++a.drop (n+(a.length - n))).take (n - (0:Int).toNat)=l.filter fun x:u0d=> !decide (x.1=c.1):=by
   rw[List.append_assoc,Int.toNat_zero,Nat.sub_zero,r0n a n (by omega),e3]
  simp only[c5,Bool.and_self,cond_true,c6]
 ·have hall:(l.filter fun x:u0d=> !decide (x.1=c.1))=l:=by
   rw[List.filter_eq_self]
   intro x hx
   obtain⟨i,hi,rfl⟩:=List.getElem_of_mem hx
   rw[u7c (p:=fun x:u0d=>decide (x.1=c.1)) hi (by omega)]
   rfl
  simp only[if_neg hk,zOb,decide_true,cond_true,hall]
def r3y (d x:u0d):u0d:=(x.1,x.2.1,x.2.2.1,x.2.2.2.1,x.2.2.2.2.1,x.2.2.2.2.2.1,(x.2.2.2.2.2.2.1 || ahead x d),x.2.2.2.2.2.2.2)
end
section
theorem p13 (t:u0d) (b0:u0h) (v:List u2j) (p R:List u0d) (c n:Int) (d:u0d) (hR:r6u R) (hd:s76 d):
 u67 (t,b0,(v,p,R,c,n),d,(),(R.length:Int),0)=some (.inl (t,b0,(v,p,R.map (r3y d),c,n),d)):=by
 have hl:=hR.1
 have L:=r96 u67 R.length (fun(a:List u0d) i=>(t,b0,((v,p,a,c,n):u0h),d,(),(R.length:Int),i)) (fun i=>(R.take i).map (r3y d)++R.drop i) (.inl (t,b0,((v,p,R.map (r3y d),c,n):u0h),d))
  (by
   rw[s7a]
   simp only[t4f,u0b,Nat.lt_irrefl,decide_false,cond_false,List.take_length,List.drop_length,List.append_nil])
  (fun i hi=>by
   have hm:((R.take i).map (r3y d)).length=i:=by simp;omega
   have hd1:R.drop i=R[i] ::R.drop (i+1):=List.drop_eq_getElem_cons hi
   have hal:i<((R.take i).map (r3y d)++R.drop i).length:=by simp;omega
   have hg:((R.take i).map (r3y d)++R.drop i)[i] =R[i] :=by
    rw[List.getElem_append_right (by omega),List.getElem_drop]
    congr 1
    omega
   have hset:∀y:u0d,((R.take i).map (r3y d)++R.drop i).set i y=(R.take i).map (r3y d)++y::R.drop (i+1):=fun y=>by
    rw[List.set_append_right _ _ (by omega),hm,Nat.sub_self,hd1,List.set_cons_zero]
   have hnx:(R.take (i+1)).map (r3y d)++R.drop (i+1)=(R.take i).map (r3y d)++r3y d R[i] ::R.drop (i+1):=by
    rw[List.take_succ_eq_append_getElem hi,List.map_append]
    simp
   have ha:=t04 R[i] d (u77 (hR.2 _ (List.getElem_mem hi)).1) (u77 hd.2)
   rw[s7a]
   simp only[t4f,u0b,hi,decide_true,cond_true,y7t hal,zTn,y8k (t:=u1u) hal,hg,ha,zOb,hset]
   rw[y7l (by omega),hnx]
   unfold r3y
   cases h1:R[i].2.2.2.2.2.2.1 with
   | true=>simp
   | false=>simp)
 simpa using L
end
section
def q4r (b:u0h) (t:u0d):u0d:=(t.1,(3:Int),t.2.2.1,IntKind.i64.wrap (b.2.2.2.1+1),t.2.2.2.2.1,t.2.2.2.2.2.1,(t.2.2.2.2.2.2.1 || s78 t b.2.1),(⟨#[]⟩:ByteArray))
def t96 (b:u0h) (t:u0d):u0h:=
 (t5y b.1 t.2.2.2.2.2.1 (IntKind.i64.wrap (b.2.2.2.1+1)),b.2.1++ [q4r b t],(b.2.2.1.filter fun x=> !decide (x.1=t.1)).map (r3y (q4r b t)),IntKind.i64.wrap (b.2.2.2.1+1),y8h b.2.2.2.2 (IntKind.i64.wrap (t.1+1)))
theorem q76 (b:u0h) (t:u0d) (hb:fewB b) (ht:s76 t):t37 (b,t)=some (t96 b t):=by
 have h1:=s26 b hb
 have h2:=s8b t ht
 have h3:=r8n b.1 t.2.2.2.2.2.1 (IntKind.i64.wrap (b.2.2.2.1+1)) (by have:=hb.1;have:=ht.2;omega)
 have h4:=p25 b.2.2.1 t (by have:=hb.2.2.1;omega)
 have h5:=r58 t b.2.1 ht hb.2.1
 have hf:r6u (b.2.2.1.filter fun x=> !decide (x.1=t.1)):=⟨Nat.le_trans (t00 _ _) hb.2.2.1,fun x hx=>hb.2.2.2 x (List.mem_filter.mp hx).1⟩
 have hp:=hb.2.1.1
 have hc:∀d:u0d,Nat.ble (b.2.1.length+([d] :List u0d).length) z7w=true:=fun d=>u1q (by simp;omega)
 rw[q2q];unfold r1e t96 q4r
 simp only[h1,h2,h3,h4,h5,zOb]
 cases ho:t.2.2.2.2.2.2.1 with
 | true=>
  have hd:s76 ((t.1,(3:Int),t.2.2.1,IntKind.i64.wrap (b.2.2.2.1+1),t.2.2.2.2.1,t.2.2.2.2.2.1,true,(⟨#[]⟩:ByteArray)):u0d):=ht
  have L:=p13 t ([], [], [],0,0) (t5y b.1 t.2.2.2.2.2.1 (IntKind.i64.wrap (b.2.2.2.1+1))) b.2.1 (b.2.2.1.filter fun x=> !decide (x.1=t.1)) (IntKind.i64.wrap (b.2.2.2.1+1)) b.2.2.2.2 _ hf hd
  simp only[cond_true,L,zOb,hc,Bool.true_or]
 | false=>
  have hd:s76 ((t.1,(3:Int),t.2.2.1,IntKind.i64.wrap (b.2.2.2.1+1),t.2.2.2.2.1,t.2.2.2.2.2.1,s78 t b.2.1,(⟨#[]⟩:ByteArray)):u0d):=ht
  have L:=p13 t ([], [], [],0,0) (t5y b.1 t.2.2.2.2.2.1 (IntKind.i64.wrap (b.2.2.2.1+1))) b.2.1 (b.2.2.1.filter fun x=> !decide (x.1=t.1)) (IntKind.i64.wrap (b.2.2.2.1+1)) b.2.2.2.2 _ hf hd
  simp only[cond_false,cond_true,h5,zOb,L,hc,Bool.false_or]
end
section
def r9u (b:u0h) (t:u0d):u0h:=
 ((t96 b t).1,(t96 b t).2.1,(t96 b t).2.2.1,(t96 b t).2.2.2.1,if t.1≥b.2.2.2.2 then IntKind.i64.wrap (t.1+1) else b.2.2.2.2)
theorem q75 (b:u0h) (t:u0d) (b0:u0h) (v:List u2j) (p:List u0d) (c n:Int) (d:u0d) (hb:fewB b) (hd:s76 d):
 u6p (b,t,b0,(v,p, [],c,n),d,0)=some (.inl (t,b0,(v,p,(b.2.2.1.filter fun x=> !decide (x.1=t.1)).map (r3y d),c,n))):=by
 have hl:=hb.2.2.1
 exact s1j u6p b.2.2.1 (fun a i=>(b,t,b0,((v,p,a,c,n):u0h),d,i)) (fun x=> !decide (x.1=t.1)) (r3y d) (fun a=> .inl (t,b0,((v,p,a,c,n):u0h))) (by omega)
  (fun a _=>by rw[s4s];simp only[t21,u0b,Nat.lt_irrefl,decide_false,cond_false])
  (fun i hi a ha=>by
   have h1:=u95 b.2.2.1[i] (hb.2.2.2 _ (List.getElem_mem hi))
   have h2:=t2p b.2.2.1[i] d (u77 (hb.2.2.2 _ (List.getElem_mem hi)).1) (u77 hd.2)
   rw[s4s]
   simp only[t21,u0b,hi,decide_true,cond_true,y7t hi,zTn,y8k (t:=u1u) hi,h1,h2,zOb,List.length_singleton,u1q (show a.length+1≤1099511627776 by omega)]
   rw[y7l (by omega)]
   cases decide (b.2.2.1[i].1=t.1) with
   | true=>rfl
   | false=>
    simp only[cond_false,Bool.not_false,cond_true]
    unfold r3y
    cases ahead b.2.2.1[i] d with
    | true=>simp
    | false=>simp)
end
section
theorem r7i (b:u0h) (t:u0d) (hb:fewB b) (ht:s76 t):u6m (b,t)=some (r9u b t):=by
 have h1:=t7e b hb
 have h2:=u95 t ht
 have h3:=r8o b.1 t.2.2.2.2.2.1 (IntKind.i64.wrap (b.2.2.2.1+1)) (by have:=hb.1;have:=ht.2;omega)
 have h5:=r59 t b.2.1 ht hb.2.1
 have hp:=hb.2.1.1
 have hc:∀d:u0d,Nat.ble (b.2.1.length+([d] :List u0d).length) z7w=true:=fun d=>u1q (by simp;omega)
 rw[q29];unfold r1x r9u t96 q4r
 simp only[h1,h2,h3,h5,zOb]
 cases ho:t.2.2.2.2.2.2.1 with
 | true=>
  have hd:s76 ((t.1,(3:Int),t.2.2.1,IntKind.i64.wrap (b.2.2.2.1+1),t.2.2.2.2.1,t.2.2.2.2.2.1,true,(⟨#[]⟩:ByteArray)):u0d):=ht
  have L:=fun p=>q75 b t ([], [], [],0,0) (t5y b.1 t.2.2.2.2.2.1 (IntKind.i64.wrap (b.2.2.2.1+1))) p (IntKind.i64.wrap (b.2.2.2.1+1)) b.2.2.2.2 _ hb hd
  simp only[cond_true,L,zOb,hc,Bool.true_or]
  by_cases h:t.1≥b.2.2.2.2<;>simp[h]
 | false=>
  have hd:s76 ((t.1,(3:Int),t.2.2.1,IntKind.i64.wrap (b.2.2.2.1+1),t.2.2.2.2.1,t.2.2.2.2.2.1,s78 t b.2.1,(⟨#[]⟩:ByteArray)):u0d):=ht
  have L:=fun p=>q75 b t ([], [], [],0,0) (t5y b.1 t.2.2.2.2.2.1 (IntKind.i64.wrap (b.2.2.2.1+1))) p (IntKind.i64.wrap (b.2.2.2.1+1)) b.2.2.2.2 _ hb hd
  simp only[cond_false,cond_true,h5,zOb,L,hc,Bool.false_or]
  by_cases h:t.1≥b.2.2.2.2<;>simp[h]
end
section
def smallB (b:u0h):Prop:=b.1.length≤1048576∧(b.2.1.length≤1048576∧ ∀t∈b.2.1,s76 t)∧b.2.2.1.length≤1048576∧ ∀t∈b.2.2.1,s76 t
theorem smallB.few {b:u0h} (h:smallB b):fewB b:=⟨by have:=h.1;omega,⟨by have:=h.2.1.1;omega,h.2.1.2⟩,⟨by have:=h.2.2.1;omega,h.2.2.2⟩⟩
end
section
def s2n (b:u0h):Bool:=decide ((b.2.1.length:Int)≥12) || (decide ((b.1.length:Int) >100) || decide (b.2.2.2.1≥9999))
theorem q87 (b:u0h):t8h b=some (s2n b):=by
 rw[q3u];unfold r2r s2n
 cases decide ((b.2.1.length:Int)≥12)<;>cases decide ((b.1.length:Int) >100)<;>rfl
theorem q86 (b:u0h):s5k b=some (s2n b):=by
 rw[p04];unfold r99 s2n
 cases decide ((b.2.1.length:Int)≥12)<;>cases decide ((b.1.length:Int) >100)<;>rfl
theorem p32 (b:u0h) {n:ByteArray} {i:Nat} (hi:i<b.2.2.1.length) (hn:b.2.2.1[i].2.2.2.2.2.2.2=n):∃k:Nat,k<b.2.2.1.length∧u0q b n=(k:Int):=by
 have h:u0m (fun x:u0d=>z7o x.2.2.2.2.2.2.2 n) b.2.2.1<b.2.2.1.length:=by
  rcases Nat.lt_or_ge (u0m (fun x:u0d=>z7o x.2.2.2.2.2.2.2 n) b.2.2.1) b.2.2.1.length with q | q
  ·exact q
  ·have:=u7c (p:=fun x:u0d=>z7o x.2.2.2.2.2.2.2 n) hi (by omega)
   rw[y7f.mpr hn] at this
   cases this
 exact⟨_,h,if_pos h⟩
end
section
def u1l (n i:Int):Int:=if i<n then n else i+1
def t0s (b:u0h) (t:u0d):u0d:=(t.1,(3:Int),t.2.2.1,b.2.2.2.1+1,t.2.2.2.2.1,t.2.2.2.2.2.1,(t.2.2.2.2.2.2.1 || s78 t b.2.1),(⟨#[]⟩:ByteArray))
def u1k (b:u0h) (t:u0d):u0h:=
 (t5y b.1 t.2.2.2.2.2.1 (b.2.2.2.1+1),b.2.1++ [t0s b t],(b.2.2.1.filter fun x=> !decide (x.1=t.1)).map (r3y (t0s b t)),b.2.2.2.1+1,u1l b.2.2.2.2 t.1)
def u20 (b:u0h) (t:u0d) (n:ByteArray):u0d:=(t.1,(2:Int),t.2.2.1,t.2.2.2.1,t.2.2.2.2.1,t.2.2.2.2.2.1,(t.2.2.2.2.2.2.1 || s78 t b.2.1),n)
def u1r (b:u0h) (t:u0d) (n:ByteArray):u0h:=
 (b.1,b.2.1,(b.2.2.1.filter fun x=>y3c x.2.2.2.2.2.2.2 n)++ [u20 b t n] ++(b.2.2.1.filter fun x=> !y3c x.2.2.2.2.2.2.2 n),b.2.2.2.1,u1l b.2.2.2.2 t.1)
def t84 (b:u0h) (n:ByteArray):u0h:=(b.1,b.2.1,(b.2.2.1.filter fun x=> !z7o x.2.2.2.2.2.2.2 n),b.2.2.2.1,b.2.2.2.2)
def p6r (n:Int):Prop:= -1000000≤n∧n≤1000000
theorem t97 {n:Int} (h:p6r n):IntKind.i64.wrap (n+1)=n+1:=by
 obtain⟨h1,h2⟩:=h
 rw[y4y (by omega) (by omega)]
theorem q16 {b:u0h} {t:u0d} (hc:p6r b.2.2.2.1) (hi:p6r t.1):t96 b t=u1k b t:=by
 have e:q4r b t=t0s b t:=by unfold q4r t0s;rw[t97 hc]
 unfold t96 u1k
 rw[e,t97 hc,t97 hi]
 unfold y8h u1l
 congr 4
 by_cases h:t.1<b.2.2.2.2
 ·rw[if_pos h,if_neg (by omega)]
 ·rw[if_neg h,if_pos (by omega)]
theorem q17 {b:u0h} {t:u0d} (hc:p6r b.2.2.2.1) (hi:p6r t.1):r9u b t=u1k b t:=by
 unfold r9u
 rw[q16 hc hi,t97 hi]
 unfold u1k u1l
 congr 4
 by_cases h:t.1<b.2.2.2.2
 ·rw[if_pos h,if_neg (by omega)]
 ·rw[if_neg h,if_pos (by omega)]
def uq (l:List u0d):Prop:=l.Pairwise fun a b=>a.1≠b.1
theorem q48 {l:List u0d} :(u6f l).Nodup↔uq l:=by
 unfold u6f uq;rw[List.nodup_iff_pairwise_ne,List.pairwise_map]
theorem o5e {a b:List u0d} :uq (a++b)↔uq a∧uq b∧ ∀x∈a,∀y∈b,x.1≠y.1:=List.pairwise_append
theorem q18 {l:List u0d} (h:uq l) (p:u0d→Bool):uq (l.filter p):=List.Pairwise.filter p h
theorem o1f {l:List u0d} (f:u0d→u0d) (hf:∀x,(f x).1=x.1) (h:uq l):uq (l.map f):=by
 unfold uq;rw[List.pairwise_map];simp only[hf];exact h
theorem p6f {t:u0d} :uq [t] :=List.pairwise_singleton _ _
theorem o1g {l:List u0d} :uq l→ ∀x∈l,∀y∈l,x.1=y.1→x=y:=by
 induction l with
 | nil=>intro _ x hx;cases hx
 | cons z l ih=>
  intro h x hx y hy e
  have h' :=List.pairwise_cons.mp h
  rcases List.mem_cons.mp hx with rfl | hx' <;>rcases List.mem_cons.mp hy with rfl | hy'
  ·rfl
  ·exact absurd e (h'.1 y hy')
  ·exact absurd e.symm (h'.1 x hx')
  ·exact ih h'.2 x hx' y hy' e
theorem s0e {l:List u0d} {n:Int} :(∀x∈u6f l,x<n)↔ ∀t∈l,t.1<n:=by
 unfold u6f
 constructor
 ·exact fun h t ht=>h _ (List.mem_map.mpr ⟨t,ht,rfl⟩)
 ·intro h x hx
  obtain⟨t,ht,rfl⟩:=List.mem_map.mp hx
  exact h t ht
theorem o0z {d x:u0d} (h:TxnR x) (hs:x.2.1=2):TxnR (r3y d x):=
 ⟨h.id,h.st,h.snap,h.rlen,h.ws,h.rs,h.done,h.nocs,h.name,h.noname,fun e=>by have e:x.2.1=1:=e;omega⟩
theorem p02 {b:u0h} {t:u0d} (ht:TxnR t) (hs:t.2.2.1≤b.2.2.2.1) (hc:b.2.2.2.1<9999):TxnR (t0s b t):=
 ⟨ht.id,⟨by show(1:Int)≤3;omega,by show(3:Int)≤3;omega⟩,ht.snap,ht.rlen,ht.ws,ht.rs,fun _=>⟨by show t.2.2.1+1≤b.2.2.2.1+1;omega,by show b.2.2.2.1+1≤9999;omega⟩,
   fun e=>absurd rfl e,fun e=>by have e:(3:Int)=2:=e;omega,fun _=>rfl,fun e=>by have e:(3:Int)=1:=e;omega⟩
theorem q65 {b:u0h} {t:u0d} {n:ByteArray} (ht:TxnR t) (hs:t.2.1≠3) (hn:u78 n=true):TxnR (u20 b t n):=
 ⟨ht.id,⟨by show(1:Int)≤2;omega,by show(2:Int)≤3;omega⟩,ht.snap,ht.rlen,ht.ws,ht.rs,fun e=>by have e:(2:Int)=3:=e;omega,
   fun _=>ht.nocs hs,fun _=>hn,fun e=>absurd rfl e,fun e=>by have e:(2:Int)=1:=e;omega⟩
theorem p8e {w:WrT} {c:Int} (h:u52 w=true) (h1:1≤c) (h2:c≤9999):q2b (w.1,w.2.1,w.2.2,c)=true:=by
 unfold u52 at h
 unfold q2b
 simp only[Bool.and_eq_true,r6w] at h ⊢
 exact⟨h.1,h.2.1,h.2.2,h1,h2⟩
theorem p7t {l:List u2j} {ws:List WrT} {c:Int} (hl:t3p l=true) (hv:∀v∈l,v.2.2.2≤c) (hw:u7w ws=true) (h0:0≤c) (h9:c<9999) (hn:l.length≤112):
 t3p (t5y l ws (c+1))=true∧ ∀v∈t5y l ws (c+1),v.2.2.2≤c+1:=by
 obtain⟨h1,h2,h3⟩:=p6s.mp hl
 obtain⟨w1,w2,w3⟩:=p8y.mp hw
 refine⟨p6s.mpr ⟨fun v h=> ?_,r5v ws h2 (q96 hw) fun x hx w _ q=>by have:=hv x hx;have:vCs x=c+1:=q.2;unfold vCs at this;omega,by rw[q1u];omega⟩,fun v h=> ?_⟩
 ·rcases(t8q ws l (c+1)).mp h with h | ⟨w,hw,rfl⟩
  ·exact h1 v h
  ·exact p8e (w1 w hw) (by omega) (by omega)
 ·rcases(t8q ws l (c+1)).mp h with h | ⟨w,hw,rfl⟩
  ·have:=hv v h;omega
  ·exact Int.le_refl _
theorem q9i {n i:Int} (h:i<n):u1l n i=n:=if_pos h
theorem t2f (n i:Int):n≤u1l n i∧i<u1l n i:=by unfold u1l;split<;>omega
theorem q92 {b:u0h} {t:u0d} (hb:BaseR b) (ht:TxnR t) (hs:t.2.2.1≤b.2.2.2.1) (hc:b.2.2.2.1<9999) (hp:b.2.1.length<12) (hv:b.1.length≤112)
 (hid:∀x∈b.2.1,x.1≠t.1) (hn:t.1<9999):BaseR (u1k b t):=by
 have c0:=hb.cs.1
 obtain⟨v1,v2⟩:=p7t hb.vs hb.vcs ht.ws c0 hc hv
 have hu:=q48.mp hb.nodup
 have hbl:=s0e.mp hb.below
 obtain⟨u1,u2,u3⟩:=o5e.mp hu
 have hg:=t2f b.2.2.2.2 t.1
 have hnx:u1l b.2.2.2.2 t.1≤9999:=by have:=hb.next.2;unfold u1l;split<;>omega
 refine⟨v1,v2,⟨by show 0≤b.2.2.2.1+1;omega,by show b.2.2.2.1+1≤9999;omega⟩,⟨by show 1≤u1l b.2.2.2.2 t.1;have:=hb.next.1;omega,hnx⟩,?_,?_,?_,?_,?_,?_,?_,?_⟩
 ·show(b.2.1++ [t0s b t]).length≤12
  simp only[List.length_append,List.length_singleton];omega
 ·intro x hx
  rcases List.mem_append.mp hx with hx | hx
  ·obtain⟨q1,q2,q3⟩:=hb.past x hx
   exact⟨q1,q2,by show x.2.2.2.1≤b.2.2.2.1+1;omega⟩
  ·rw[List.mem_singleton] at hx
   subst hx
   exact⟨p02 ht hs hc,rfl,Int.le_refl _⟩
 ·show(b.2.1++ [t0s b t]).Pairwise _
  rw[List.pairwise_append]
  refine⟨hb.pasc,List.pairwise_singleton _ _,fun x hx y hy=> ?_⟩
  rw[List.mem_singleton] at hy
  subst hy
  have:=(hb.past x hx).2.2
  show x.2.2.2.1<b.2.2.2.1+1
  omega
 ·show((b.2.2.1.filter _).map _).length≤3
  rw[List.length_map]
  exact Nat.le_trans (List.length_filter_le _ _) hb.rlen
 ·intro x hx
  obtain⟨y,hy,rfl⟩:=List.mem_map.mp hx
  obtain⟨q1,q2,q3⟩:=hb.ready y (List.mem_filter.mp hy).1
  exact⟨o0z q1 q2,q2,by show y.2.2.1≤b.2.2.2.1+1;omega⟩
 ·show((b.2.2.1.filter _).map _).Pairwise _
  rw[List.pairwise_map]
  exact(List.Pairwise.filter _ hb.rasc)
 ·rw[s0e]
  intro x hx
  show x.1<u1l b.2.2.2.2 t.1
  rcases List.mem_append.mp hx with hx | hx
  ·rcases List.mem_append.mp hx with hx | hx
   ·have:=hbl x (List.mem_append_left _ hx);omega
   ·rw[List.mem_singleton] at hx;subst hx;exact hg.2
  ·obtain⟨y,hy,rfl⟩:=List.mem_map.mp hx
   have:=hbl y (List.mem_append_right _ (List.mem_filter.mp hy).1)
   show y.1<_
   omega
 ·rw[q48]
  refine o5e.mpr ⟨o5e.mpr ⟨u1,p6f,fun x hx y hy=> ?_⟩,o1f _ (fun _=>rfl) (q18 u2 _),fun x hx y hy=> ?_⟩
  ·rw[List.mem_singleton] at hy;subst hy;exact hid x hx
  ·obtain⟨z,hz,rfl⟩:=List.mem_map.mp hy
   obtain⟨z1,z2⟩:=List.mem_filter.mp hz
   show x.1≠z.1
   rcases List.mem_append.mp hx with hx | hx
   ·exact u3 x hx z z1
   ·rw[List.mem_singleton] at hx;subst hx
    intro e
    simp only[Bool.not_eq_true',decide_eq_false_iff_not] at z2
    exact z2 e.symm
theorem t65 {b:u0h} (hb:BaseR b) (o:List u0d):BaseR (u5q b o):=by
 obtain⟨h1,h2,h3⟩:=p6s.mp hb.vs
 have sv:=u90 b.1 (t6l b o)
 have sp:(b.2.1.filter fun x=> !decide (x.2.2.2.1≤t6l b o)).Sublist b.2.1:=List.filter_sublist
 have si:((b.2.1.filter fun x=> !decide (x.2.2.2.1≤t6l b o))++b.2.2.1).Sublist (b.2.1++b.2.2.1):=sp.append (List.Sublist.refl _)
 refine⟨p6s.mpr ⟨fun v h=>h1 v (sv.subset h),h2.sublist sv,Nat.le_trans sv.length_le h3⟩,fun v h=>hb.vcs v (sv.subset h),hb.cs,hb.next,Nat.le_trans sp.length_le hb.plen,
  fun t h=>hb.past t (sp.subset h),hb.pasc.sublist sp,hb.rlen,hb.ready,hb.rasc,?_,?_⟩
 ·rw[s0e]
  intro x hx
  exact s0e.mp hb.below x (si.subset hx)
 ·rw[q48]
  exact List.Pairwise.sublist si (q48.mp hb.nodup)
theorem s5f {b:u0h} {t:u0d} {n:ByteArray} (hb:BaseR b) (ht:TxnR t) (h3:t.2.1≠3) (hs:t.2.2.1≤b.2.2.2.1) (hk:u78 n=true) (hl:b.2.2.1.length<3)
 (hn:∀x∈b.2.2.1,x.2.2.2.2.2.2.2≠n) (hid:∀x∈b.2.1++b.2.2.1,x.1≠t.1) (h9:t.1<9999):BaseR (u1r b t n):=by
 have hu:=q48.mp hb.nodup
 have hbl:=s0e.mp hb.below
 obtain⟨u1,u2,u3⟩:=o5e.mp hu
 have hg:=t2f b.2.2.2.2 t.1
 have hnx:u1l b.2.2.2.2 t.1≤9999:=by have:=hb.next.2;unfold u1l;split<;>omega
 have mem:∀ {x:u0d},x∈(b.2.2.1.filter fun x=>y3c x.2.2.2.2.2.2.2 n)++ [u20 b t n] ++(b.2.2.1.filter fun x=> !y3c x.2.2.2.2.2.2.2 n)→x∈b.2.2.1∨x=u20 b t n:=fun {x} hx=>by
  rcases List.mem_append.mp hx with hx | hx
  ·rcases List.mem_append.mp hx with hx | hx
   ·exact .inl (List.mem_filter.mp hx).1
   ·rw[List.mem_singleton] at hx;exact .inr hx
  ·exact .inl (List.mem_filter.mp hx).1
 have len:∀(l:List u0d) (p:u0d→Bool),(l.filter p).length+(l.filter fun x=> !p x).length=l.length:=fun l p=>by
  induction l with
  | nil=>rfl
  | cons x l ih=>cases hp:p x<;>simp[List.filter_cons,hp] <;>omega
 refine⟨hb.vs,hb.vcs,hb.cs,⟨by show 1≤u1l b.2.2.2.2 t.1;have:=hb.next.1;omega,hnx⟩,hb.plen,hb.past,hb.pasc,?_,?_,?_,?_,?_⟩
 ·show((b.2.2.1.filter fun x=>y3c x.2.2.2.2.2.2.2 n)++ [u20 b t n] ++(b.2.2.1.filter fun x=> !y3c x.2.2.2.2.2.2.2 n)).length≤3
  have:=len b.2.2.1 fun x=>y3c x.2.2.2.2.2.2.2 n
  simp only[List.length_append,List.length_singleton]
  omega
 ·intro x hx
  rcases mem hx with hx | rfl
  ·exact hb.ready x hx
  ·exact⟨q65 ht h3 hk,rfl,hs⟩
 ·show((b.2.2.1.filter fun x=>y3c x.2.2.2.2.2.2.2 n)++ [u20 b t n] ++(b.2.2.1.filter fun x=> !y3c x.2.2.2.2.2.2.2 n)).Pairwise _
  have up:∀y∈b.2.2.1,(!y3c y.2.2.2.2.2.2.2 n)=true→y3c n y.2.2.2.2.2.2.2=true:=fun y hy h=>by
   rcases r65 y.2.2.2.2.2.2.2 n with c | c | c
   ·rw[c] at h;cases h
   ·exact absurd c (hn y hy)
   ·exact c
  rw[List.append_assoc,List.pairwise_append]
  refine⟨List.Pairwise.filter _ hb.rasc,?_,?_⟩
  ·rw[List.singleton_append,List.pairwise_cons]
   refine⟨fun y hy=> ?_,List.Pairwise.filter _ hb.rasc⟩
   obtain⟨y1,y2⟩:=List.mem_filter.mp hy
   exact up y y1 y2
  ·intro x hx y hy
   obtain⟨x1,x2⟩:=List.mem_filter.mp hx
   rcases List.mem_append.mp hy with hy | hy
   ·rw[List.mem_singleton] at hy;subst hy;exact x2
   ·obtain⟨y1,y2⟩:=List.mem_filter.mp hy
    exact r3g x2 (up y y1 y2)
 ·rw[s0e]
  intro x hx
  show x.1<u1l b.2.2.2.2 t.1
  rcases List.mem_append.mp hx with hx | hx
  ·have:=hbl x (List.mem_append_left _ hx);omega
  ·rcases mem hx with hx | rfl
   ·have:=hbl x (List.mem_append_right _ hx);omega
   ·exact hg.2
 ·rw[q48]
  refine o5e.mpr ⟨u1,?_,fun x hx y hy=> ?_⟩
  ·show uq ((b.2.2.1.filter fun x=>y3c x.2.2.2.2.2.2.2 n)++ [u20 b t n] ++(b.2.2.1.filter fun x=> !y3c x.2.2.2.2.2.2.2 n))
   rw[List.append_assoc]
   refine o5e.mpr ⟨q18 u2 _,?_,fun x hx y hy=> ?_⟩
   ·rw[List.singleton_append]
    refine List.pairwise_cons.mpr ⟨fun y hy=> ?_,q18 u2 _⟩
    exact(hid y (List.mem_append_right _ (List.mem_filter.mp hy).1)).symm
   ·obtain⟨x1,x2⟩:=List.mem_filter.mp hx
    rcases List.mem_append.mp hy with hy | hy
    ·rw[List.mem_singleton] at hy;subst hy
     exact hid x (List.mem_append_right _ x1)
    ·obtain⟨y1,y2⟩:=List.mem_filter.mp hy
     intro e
     have:=o1g u2 x x1 y y1 e
     subst this
     rw[x2] at y2;cases y2
  ·rcases mem hy with hy | rfl
   ·exact u3 x hx y hy
   ·exact hid x (List.mem_append_left _ hx)
theorem r5p {b:u0h} (hb:BaseR b) (n:ByteArray):BaseR (t84 b n):=by
 have sp:(b.2.2.1.filter fun x=> !z7o x.2.2.2.2.2.2.2 n).Sublist b.2.2.1:=List.filter_sublist
 have si:(b.2.1++(b.2.2.1.filter fun x=> !z7o x.2.2.2.2.2.2.2 n)).Sublist (b.2.1++b.2.2.1):=(List.Sublist.refl _).append sp
 refine⟨hb.vs,hb.vcs,hb.cs,hb.next,hb.plen,hb.past,hb.pasc,Nat.le_trans sp.length_le hb.rlen,fun t h=>hb.ready t (sp.subset h),hb.rasc.sublist sp,?_,?_⟩
 ·rw[s0e]
  intro x hx
  exact s0e.mp hb.below x (si.subset hx)
 ·rw[q48]
  exact List.Pairwise.sublist si (q48.mp hb.nodup)
end
section
def o2l (id snap:Int):u0d:=(id,(1:Int),snap,(0:Int), [], [],false,(⟨#[]⟩:ByteArray))
def q0g (e:u1w):u1w:=((e.1.1,e.1.2.1,e.1.2.2.1,e.1.2.2.2.1,e.1.2.2.2.2+1),e.2++ [o2l e.1.2.2.2.2 e.1.2.2.2.1])
def p1s (e:u1w) (k:Nat) (t:u0d):u1w:=(e.1,e.2.set k t)
def t1u (e:u1w) (id:Int):List u0d:=e.2.filter fun x=> !decide (x.1=id)
def t5r (e:u1w) (id:Int):u1w:=(u5q e.1 (t1u e id),t1u e id)
def r3v (e:u1w) (t:u0d):u1w:=(u5q (u1k e.1 t) (t1u e t.1),t1u e t.1)
def r9i (e:u1w) (t:u0d) (n:ByteArray):u1w:=(u5q (u1r e.1 t n) (t1u e t.1),t1u e t.1)
def o1j (e:u1w) (t:u0d):u1w:=(u5q (u1k e.1 t) e.2,e.2)
def noE (e:u1w) (n:ByteArray):u1w:=(u5q (t84 e.1 n) e.2,e.2)
theorem EngR.uq {e:u1w} (h:EngR e):uq (e.1.2.1++e.1.2.2.1++e.2):=q48.mp h.nodup
theorem EngR.bel {e:u1w} (h:EngR e):∀t∈e.1.2.1++e.1.2.2.1++e.2,t.1<e.1.2.2.2.2:=s0e.mp h.below
theorem EngR.apart {e:u1w} (h:EngR e):∀x∈e.1.2.1++e.1.2.2.1,∀y∈e.2,x.1≠y.1:=(o5e.mp h.uq).2.2
theorem EngR.uqo {e:u1w} (h:EngR e):Ab.uq e.2:=(o5e.mp h.uq).2.1
theorem r79 {e:u1w} {b:u0h} {o:List u0d} (h:EngR e) (hb:BaseR b) (ho:o.Sublist e.2) (hc:e.1.2.2.2.1≤b.2.2.2.1) (hn:e.1.2.2.2.2≤b.2.2.2.2) (hu:∀x∈b.2.1++b.2.2.1,∀y∈o,x.1≠y.1):EngR (b,o):=by
 refine⟨hb,Nat.le_trans ho.length_le h.olen,fun t ht=> ?_,h.oasc.sublist ho,?_,?_⟩
 ·obtain⟨q1,q2,q3⟩:=h.open_ t (ho.subset ht)
  exact⟨q1,q2,by show t.2.2.1≤b.2.2.2.1;omega⟩
 ·rw[s0e]
  intro x hx
  rcases List.mem_append.mp hx with hx | hx
  ·exact s0e.mp hb.below x hx
  ·have:=h.bel x (List.mem_append_right _ (ho.subset hx))
   show x.1<b.2.2.2.2
   omega
 ·rw[q48]
  exact o5e.mpr ⟨q48.mp hb.nodup,List.Pairwise.sublist ho h.uqo,hu⟩
theorem t98 {b:u0h} {o:List u0d} {x:u0d} (h:x∈(u5q b o).2.1++(u5q b o).2.2.1):x∈b.2.1++b.2.2.1:=by
 rcases List.mem_append.mp h with h | h
 ·exact List.mem_append_left _ (List.mem_filter.mp h).1
 ·exact List.mem_append_right _ h
theorem u9y (e:u1w) (id:Int):(t1u e id).Sublist e.2:=List.filter_sublist
theorem q67 {e:u1w} {id:Int} {x:u0d} (h:x∈t1u e id):x.1≠id:=by
 have:=(List.mem_filter.mp h).2
 simpa using this
theorem p9d {e:u1w} (h:EngR e) (hl:e.2.length<4) (hn:e.1.2.2.2.2<9999):EngR (q0g e):=by
 have hb:=h.base
 have n1:=hb.next.1
 have hT:TxnR (o2l e.1.2.2.2.2 e.1.2.2.2.1):=
  ⟨⟨n1,by show e.1.2.2.2.2≤9999;omega⟩,⟨by show(1:Int)≤1;omega,by show(1:Int)≤3;omega⟩,hb.cs,Nat.zero_le _,rfl,fun r hr=>(by cases hr),fun e=>by have e:(1:Int)=3:=e;omega,fun _=>rfl,fun e=>by have e:(1:Int)=2:=e;omega,fun _=>rfl,fun _=>rfl⟩
 have hbel:=h.bel
 refine⟨⟨hb.vs,hb.vcs,hb.cs,⟨by show 1≤e.1.2.2.2.2+1;omega,by show e.1.2.2.2.2+1≤9999;omega⟩,hb.plen,hb.past,hb.pasc,hb.rlen,hb.ready,hb.rasc,?_,hb.nodup⟩,?_,?_,?_,?_,?_⟩
 ·rw[s0e]
  intro x hx
  have:=hbel x (List.mem_append_left _ hx)
  show x.1<e.1.2.2.2.2+1
  omega
 ·show(e.2++ [_]).length≤4
  simp only[List.length_append,List.length_singleton];omega
 ·intro t ht
  rcases List.mem_append.mp ht with ht | ht
  ·exact h.open_ t ht
  ·rw[List.mem_singleton] at ht;subst ht
   exact⟨hT,rfl,Int.le_refl _⟩
 ·show(e.2++ [_]).Pairwise _
  rw[List.pairwise_append]
  refine⟨h.oasc,List.pairwise_singleton _ _,fun x hx y hy=> ?_⟩
  rw[List.mem_singleton] at hy;subst hy
  exact hbel x (List.mem_append_right _ hx)
 ·rw[s0e]
  intro x hx
  show x.1<e.1.2.2.2.2+1
  have hx:x∈e.1.2.1++e.1.2.2.1++(e.2++ [o2l e.1.2.2.2.2 e.1.2.2.2.1]):=hx
  rw[←List.append_assoc] at hx
  rcases List.mem_append.mp hx with hx | hx
  ·have:=hbel x hx;omega
  ·rw[List.mem_singleton] at hx;subst hx
   show e.1.2.2.2.2<_
   omega
 ·rw[q48]
  show uq (e.1.2.1++e.1.2.2.1++(e.2++ [o2l e.1.2.2.2.2 e.1.2.2.2.1]))
  rw[←List.append_assoc]
  refine o5e.mpr ⟨h.uq,p6f,fun x hx y hy=> ?_⟩
  rw[List.mem_singleton] at hy;subst hy
  have:=hbel x hx
  show x.1≠e.1.2.2.2.2
  omega
theorem q9g {α β:Type} (f:α→β) (l:List α) (k:Nat) (a:α) (h:k<l.length) (ha:f a=f l[k]):(l.set k a).map f=l.map f:=by
 apply List.ext_getElem (by simp)
 intro i h1 h2
 simp only[List.getElem_map,List.getElem_set]
 split
 ·rename_i e;subst e;exact ha
 ·rfl
theorem q68 {α:Type} {l:List α} {k:Nat} {a x:α} (h:x∈l.set k a):x∈l∨x=a:=List.mem_or_eq_of_mem_set h
theorem q9z {e:u1w} (h:EngR e) {k:Nat} (hk:k<e.2.length) {t:u0d} (ht:TxnR t) (h1:t.1=e.2[k].1) (h2:t.2.1=1) (h3:t.2.2.1=e.2[k].2.2.1):EngR (p1s e k t):=by
 have hm:u6f (e.2.set k t)=u6f e.2:=q9g _ _ _ _ hk h1
 have hid:u6f (e.1.2.1++e.1.2.2.1++e.2.set k t)=u6f (e.1.2.1++e.1.2.2.1++e.2):=by
  have:∀a b:List u0d,u6f (a++b)=u6f a++u6f b:=fun a b=>by simp[u6f]
  rw[this,hm,←this]
 refine⟨h.base,by show(e.2.set k t).length≤4;rw[List.length_set];exact h.olen,fun x hx=> ?_,?_,?_,?_⟩
 ·rcases q68 hx with hx | rfl
  ·exact h.open_ x hx
  ·have:=(h.open_ _ (List.getElem_mem hk)).2.2
   exact⟨ht,h2,by rw[h3];exact this⟩
 ·have q:(u6f (e.2.set k t)).Pairwise fun a b=>a<b:=by
   rw[hm];unfold u6f;rw[List.pairwise_map];exact h.oasc
  unfold u6f at q
  rw[List.pairwise_map] at q
  exact q
 ·show ∀x∈u6f (e.1.2.1++e.1.2.2.1++e.2.set k t),x<e.1.2.2.2.2
  rw[hid];exact h.below
 ·show(u6f (e.1.2.1++e.1.2.2.1++e.2.set k t)).Nodup
  rw[hid];exact h.nodup
theorem p5n {e:u1w} (h:EngR e) (id:Int):EngR (t5r e id):=
 r79 h (t65 h.base _) (u9y e id) (Int.le_refl _) (Int.le_refl _) fun x hx y hy=>h.apart x (t98 hx) y ((u9y e id).subset hy)
theorem p9r {e:u1w} (h:EngR e):EngR (u5q e.1 e.2,e.2):=
 r79 h (t65 h.base _) (List.Sublist.refl _) (Int.le_refl _) (Int.le_refl _) fun x hx y hy=>h.apart x (t98 hx) y hy
theorem q6y {b:u0h} (h:s2n b=false):b.2.1.length<12∧b.1.length≤100∧b.2.2.2.1<9999:=by
 unfold s2n at h
 simp only[Bool.or_eq_false_iff,decide_eq_false_iff_not] at h
 obtain⟨h1,h2,h3⟩:=h
 exact⟨by omega,by omega,by omega⟩
theorem s4g {e:u1w} (h:EngR e) {t:u0d} (ht:t∈e.2∨t∈e.1.2.2.1) (hf:s2n e.1=false):BaseR (u1k e.1 t):=by
 obtain⟨f1,f2,f3⟩:=q6y hf
 have hq:TxnR t∧t.2.2.1≤e.1.2.2.2.1:=by
  rcases ht with ht | ht
  ·exact⟨(h.open_ t ht).1,(h.open_ t ht).2.2⟩
  ·exact⟨(h.base.ready t ht).1,(h.base.ready t ht).2.2⟩
 have hlt:t.1<e.1.2.2.2.2:=by
  rcases ht with ht | ht
  ·exact h.bel t (List.mem_append_right _ ht)
  ·exact h.bel t (List.mem_append_left _ (List.mem_append_right _ ht))
 refine q92 h.base hq.1 hq.2 f3 f1 (by omega) (fun x hx=> ?_) (by have:=h.base.next.2;omega)
 rcases ht with ht | ht
 ·exact h.apart x (List.mem_append_left _ hx) t ht
 ·exact(o5e.mp (o5e.mp h.uq).1).2.2 x hx t ht
theorem r36 {b:u0h} {t x:u0d} (h:x∈(u1k b t).2.1++(u1k b t).2.2.1):x.1=t.1∨ ∃y∈b.2.1++b.2.2.1,y.1=x.1:=by
 rcases List.mem_append.mp h with h | h
 ·rcases List.mem_append.mp h with h | h
  ·exact .inr ⟨x,List.mem_append_left _ h,rfl⟩
  ·rw[List.mem_singleton] at h;subst h;exact .inl rfl
 ·obtain⟨y,hy,rfl⟩:=List.mem_map.mp h
  exact .inr ⟨y,List.mem_append_right _ (List.mem_filter.mp hy).1,rfl⟩
theorem q5x {e:u1w} (h:EngR e) {t:u0d} (ht:t∈e.2) (hf:s2n e.1=false):EngR (r3v e t):=by
 have hg:=t2f e.1.2.2.2.2 t.1
 refine r79 h (t65 (s4g h (.inl ht) hf) _) (u9y e t.1) (by show e.1.2.2.2.1≤e.1.2.2.2.1+1;omega) hg.1 fun x hx y hy=> ?_
 rcases r36 (t98 hx) with q | ⟨z,hz,q⟩
 ·rw[q];exact(q67 hy).symm
 ·rw[←q];exact h.apart z hz y ((u9y e t.1).subset hy)
theorem o3m {e:u1w} (h:EngR e) {t:u0d} (ht:t∈e.1.2.2.1) (hf:s2n e.1=false):EngR (o1j e t):=by
 have hg:=t2f e.1.2.2.2.2 t.1
 refine r79 h (t65 (s4g h (.inr ht) hf) _) (List.Sublist.refl _) (by show e.1.2.2.2.1≤e.1.2.2.2.1+1;omega) hg.1 fun x hx y hy=> ?_
 rcases r36 (t98 hx) with q | ⟨z,hz,q⟩
 ·rw[q];exact h.apart t (List.mem_append_right _ ht) y hy
 ·rw[←q];exact h.apart z hz y hy
theorem o5b {e:u1w} (h:EngR e) (n:ByteArray):EngR (noE e n):=by
 refine r79 h (t65 (r5p h.base n) _) (List.Sublist.refl _) (Int.le_refl _) (Int.le_refl _) fun x hx y hy=> ?_
 rcases List.mem_append.mp (t98 hx) with hx | hx
 ·exact h.apart x (List.mem_append_left _ hx) y hy
 ·exact h.apart x (List.mem_append_right _ (List.mem_filter.mp hx).1) y hy
theorem p8v {e:u1w} (h:EngR e) {t:u0d} (ht:t∈e.2) {n:ByteArray} (hk:u78 n=true) (hl:e.1.2.2.1.length<3) (hn:∀x∈e.1.2.2.1,x.2.2.2.2.2.2.2≠n):EngR (r9i e t n):=by
 obtain⟨q1,q2,q3⟩:=h.open_ t ht
 have hlt:=h.bel t (List.mem_append_right _ ht)
 have hg:=t2f e.1.2.2.2.2 t.1
 have hb:BaseR (u1r e.1 t n):=s5f h.base q1 (by omega) q3 hk hl hn (fun x hx=>h.apart x hx t ht) (by have:=h.base.next.2;omega)
 refine r79 h (t65 hb _) (u9y e t.1) (Int.le_refl _) hg.1 fun x hx y hy=> ?_
 have hy' :=(u9y e t.1).subset hy
 rcases List.mem_append.mp (t98 hx) with hx | hx
 ·exact h.apart x (List.mem_append_left _ hx) y hy'
 ·rcases List.mem_append.mp hx with hx | hx
  ·rcases List.mem_append.mp hx with hx | hx
   ·exact h.apart x (List.mem_append_right _ (List.mem_filter.mp hx).1) y hy'
   ·rw[List.mem_singleton] at hx;subst hx;exact(q67 hy).symm
  ·exact h.apart x (List.mem_append_right _ (List.mem_filter.mp hx).1) y hy'
end
section
def s1a (n:Nat):List Int:=if h:n<128 then[(n:Int)] else((n % 128+128:Nat):Int)::s1a (n / 128)
termination_by n
decreasing_by omega
theorem r0a {n:Nat} (h:n<128):s1a n= [(n:Int)] :=by rw[s1a,dif_pos h]
theorem r69 {n:Nat} (h: ¬n<128):s1a n=((n % 128+128:Nat):Int)::s1a (n / 128):=by rw[s1a,dif_neg h]
theorem p8c (n:Nat):(s1a n).length≤n+1:=by
 induction n using Nat.strongRecOn with
 | _ n ih=>
  by_cases h:n<128
  ·rw[r0a h];simp
  ·rw[r69 h]
   have:=ih (n / 128) (by omega)
   simp only[List.length_cons];omega
theorem p8d {S:Type} {W:Int×List Int→Option ((Int×List Int)⊕S)}
 (hW:∀x,W x=(bif (decide (x.1 >(127:Int))) then(bif (Nat.ble (x.2.length+([(IntKind.u8.wrap (IntKind.i64.wrap ((Int.tmod x.1 (128:Int))+(128:Int))))] :List Int).length) z7w) then
  (W ((IntKind.i64.wrap (Int.tdiv x.1 (128:Int))),(x.2++([(IntKind.u8.wrap (IntKind.i64.wrap ((Int.tmod x.1 (128:Int))+(128:Int))))] :List Int)))) else none) else(some (.inl x)))):
 ∀(n:Nat) (acc:List Int),acc.length+n≤1000000000000→ ∃m:Nat,∃acc' :List Int,W ((n:Int),acc)=some (.inl ((m:Int),acc'))∧m<128∧acc' ++ [(m:Int)] =acc++s1a n∧acc'.length≤acc.length+n:=by
 intro n
 induction n using Nat.strongRecOn with
 | _ n ih=>
  intro acc hn
  rw[hW]
  by_cases h:n<128
  ·have:decide ((n:Int) >(127:Int))=false:=by simp;omega
   simp only[this,cond_false]
   exact⟨n,acc,rfl,h,by rw[r0a h],by omega⟩
  ·have h1:decide ((n:Int) >(127:Int))=true:=by simp;omega
   have h2:Int.tmod (n:Int) (128:Int)=((n % 128:Nat):Int):=p6e n 128
   have h3:Int.tdiv (n:Int) (128:Int)=((n / 128:Nat):Int):=o1e n 128
   have h4:IntKind.u8.wrap (IntKind.i64.wrap (((n % 128:Nat):Int)+(128:Int)))=((n % 128+128:Nat):Int):=by
    rw[y4y (by omega) (by omega)]
    have:((n % 128:Nat):Int)+128=((n % 128+128:Nat):Int):=by simp
    rw[this,p9y (by omega)]
   simp only[h1,h2,h3,h4,cond_true,List.length_singleton,u1q (show acc.length+1≤1099511627776 by omega)]
   rw[y8b (by omega)]
   obtain⟨m,acc',e1,e2,e3,e4⟩:=ih (n / 128) (by omega) (acc++ [((n % 128+128:Nat):Int)]) (by simp;omega)
   refine⟨m,acc',e1,e2,?_,?_⟩
   ·rw[e3,r69 h,List.append_assoc];rfl
   ·have:(acc++ [((n % 128+128:Nat):Int)]).length=acc.length+1:=by simp
    omega
theorem q1n (n:Nat) (hn:n≤100000000000):u1s (n:Int)=some (y7g (s1a n)):=by
 rw[q6q];unfold r42
 obtain⟨m,acc',e1,e2,e3,e4⟩:=p8d (W:=t6f) (fun x=>q2c x) n [] (by simp;omega)
 have e4:acc'.length≤n:=by simpa using e4
 simp only[e1,zOb,List.length_singleton,u1q (show acc'.length+1≤1099511627776 by omega),cond_true]
 rw[p9y (by omega),e3];rfl
def r03:Nat→Nat→Nat→List UInt8→Option (Nat×Nat)
 | 0,_,_,_=>none
 | _+1,_,_, [] =>none
 | f+1,i,n,b::l=>
  if b.toNat<128 then(if n+b.toNat % 128*128^i≤1000000000∧(s1a (n+b.toNat % 128*128^i)).length=i+1 then some (n+b.toNat % 128*128^i,i+1) else none)
  else r03 f (i+1) (n+b.toNat % 128*128^i) l
def q19 (at_:Int) (r:Option (Nat×Nat)):Int×Int×Bool:=match r with
 | some (n,k)=>((n:Int),at_+(k:Int),true)
 | none=>(0,0,false)
def u0t (t:ByteArray) (at_:Int):Int×Int×Bool:=if 0≤at_∧at_≤t.size then q19 at_ (r03 5 0 0 (t.data.toList.drop at_.toNat)) else(0,0,false)
theorem q7c:∀(f i n:Nat) (l:List UInt8) (v k:Nat),r03 f i n l=some (v,k)→v≤1000000000∧k≤i+l.length∧i<k
 | 0,_,_,_,_,_,h=>by cases h
 | _+1,_,_, [],_,_,h=>by cases h
 | f+1,i,n,b::l,v,k,h=>by
  simp only[r03] at h
  split at h
  ·split at h
   ·rename_i h2
    simp only[Option.some.injEq,Prod.mk.injEq] at h
    obtain⟨rfl,rfl⟩:=h
    exact⟨h2.1,by simp,by omega⟩
   ·cases h
  ·have:=q7c f (i+1) _ l v k h
   simp only[List.length_cons]
   omega
theorem t5v {t:ByteArray} {at_:Int} (h:(u0t t at_).2.2=true):0≤(u0t t at_).1∧(u0t t at_).1≤1000000000∧0≤at_∧at_<(u0t t at_).2.1∧(u0t t at_).2.1≤t.size:=by
 unfold u0t at h ⊢
 split at h
 ·rename_i hc
  rw[if_pos hc]
  cases hv:r03 5 0 0 (t.data.toList.drop at_.toNat) with
  | none=>rw[hv] at h;cases h
  | some r=>
   obtain⟨v,k⟩:=r
   have:=q7c 5 0 0 _ v k hv
   have hl:(t.data.toList.drop at_.toNat).length=t.size - at_.toNat:=by simp
   simp only[q19]
   omega
 ·cases h
theorem o1c (i:Nat) (h:i≤5):128^i≤34359738368:=by
 rcases i with _ | _ | _ | _ | _ | _ | i
 all_goals first | decide | omega
def q49:List UInt8→Nat
 | [] =>0
 | b::l=>b.toNat % 128+128*q49 l
theorem p6g (l:List UInt8) (b:UInt8):q49 (l++ [b])=q49 l+b.toNat % 128*128^l.length:=by
 induction l with
 | nil=>simp[q49]
 | cons x l ih=>
  simp only[List.cons_append,q49,ih,List.length_cons,Nat.pow_succ]
  rw[Nat.mul_add]
  have:128*(b.toNat % 128*128^l.length)=b.toNat % 128*(128^l.length*128):=by
   rw[Nat.mul_comm 128,Nat.mul_assoc]
  omega
theorem p9w (l:List UInt8) (b:UInt8) (hl:∀x∈l,¬x.toNat<128) (hb:b.toNat<128) (h:(s1a (q49 (l++ [b]))).length=l.length+1):s1a (q49 (l++ [b]))=(l++ [b]).map fun x=>(x.toNat:Int):=by
 induction l with
 | nil=>
  have:q49 ([] ++ [b])=b.toNat:=by simp[q49];omega
  rw[this,r0a hb];rfl
 | cons x l ih=>
  have hx:x.toNat<256:=UInt8.toNat_lt x
  have hx2:=hl x (by simp)
  simp only[List.cons_append,q49] at h ⊢
  by_cases hs:x.toNat % 128+128*q49 (l++ [b])<128
  ·rw[r0a hs] at h
   simp at h
  ·rw[r69 hs] at h ⊢
   have e1:(x.toNat % 128+128*q49 (l++ [b])) / 128=q49 (l++ [b]):=by omega
   have e2:(x.toNat % 128+128*q49 (l++ [b])) % 128+128=x.toNat:=by omega
   rw[e1] at h ⊢
   rw[e2]
   simp only[List.length_cons,Nat.add_right_cancel_iff] at h
   rw[ih (fun y hy=>hl y (by simp[hy])) h]
   rfl
theorem p75 (l:List UInt8):y7g (l.map fun x=>(x.toNat:Int))=⟨l.toArray⟩:=by
 unfold y7g
 simp only[List.map_map]
 have:(l.map ((fun n=>UInt8.ofNat n.toNat) ∘fun b=>(b.toNat:Int)))=l:=by
  conv=>rhs;rw[←List.map_id l]
  apply List.map_congr_left
  intro b _
  simp
 rw[this]
theorem r77 (t:ByteArray) (a b:Nat) (h:b≤t.size):t.extract a b=⟨((t.data.toList.drop a).take (b - a)).toArray⟩:=by
 apply ByteArray.ext
 simp only[ByteArray.data_extract]
 apply Array.ext'
 simp[List.extract_eq_take_drop]
theorem o02 {q:Nat} (h:q≤1000000000):decide ((q:Int) >(1000000000:Int))=false:=by simp;omega
theorem o00 {q:Nat} (h: ¬q≤1000000000):decide ((q:Int) >(1000000000:Int))=true:=by simp;omega
theorem r7g (t:ByteArray) (at_:Int) (ht:t.size≤u0p):t8c (t,at_)=some (u0t t at_):=by
 unfold u0p at ht
 rw[q26];unfold r1u u0t
 simp only[t76,q6z,zOb]
 by_cases h:0≤at_∧at_≤t.size
 ·obtain⟨p,rfl⟩:∃p:Nat,at_=p:=⟨at_.toNat,by omega⟩
  have hp:p≤t.size:=by omega
  rw[decide_eq_true h,if_pos h]
  have L:∀(f i:Nat),i+f=5→p+i≤t.size→(∀x∈(t.data.toList.drop p).take i,¬x.toNat<128)→q49 ((t.data.toList.drop p).take i)<128^i→
   ((t45 (t,(p:Int),((q49 ((t.data.toList.drop p).take i):Nat):Int),((128^i:Nat):Int),((p+i:Nat):Int))).bind fun r=>match r with
   | .inl o=>some ((0:Int),(0:Int),false)
   | .inr z=>some z)=some (q19 p (r03 f i (q49 ((t.data.toList.drop p).take i)) (t.data.toList.drop (p+i)))):=by
   intro f
   induction f with
   | zero=>
    intro i hi hpi hall hn
    have:i=5:=by omega
    subst this
    rw[s7p];simp only[t4t]
    have e1:decide (((p+5:Nat):Int)<IntKind.i64.wrap ((p:Int)+5))=false:=by rw[y4y (by omega) (by omega)];simp
    rw[e1]
    cases decide (((p+5:Nat):Int)<(t.size:Int))<;>rfl
   | succ f ih=>
    intro i hi hpi hall hn
    have hi5:i<5:=by omega
    have hpw:=o1c i (by omega)
    rw[s7p];simp only[t4t]
    have e1:decide (((p+i:Nat):Int)<IntKind.i64.wrap ((p:Int)+5))=true:=by rw[y4y (by omega) (by omega)];simp;omega
    by_cases hlt:p+i<t.size
    ·have hd:t.data.toList.drop (p+i)=(t.data.toList[p+i]'(by simpa using hlt))::t.data.toList.drop (p+i+1):=List.drop_eq_getElem_cons (by simpa using hlt)
     have hb:(t.data.toList[p+i]'(by simpa using hlt)).toNat<256:=UInt8.toNat_lt _
     have htk:(t.data.toList.drop p).take (i+1)=(t.data.toList.drop p).take i++ [t.data.toList[p+i]'(by simpa using hlt)] :=by
      rw[List.take_succ_eq_append_getElem (by simp;omega)]
      simp
     have htl:((t.data.toList.drop p).take i).length=i:=by simp;omega
     have hvs:=p6g ((t.data.toList.drop p).take i) (t.data.toList[p+i]'(by simpa using hlt))
     rw[htl] at hvs
     rw[hd]
     generalize hc:(t.data.toList[p+i]'(by simpa using hlt))=c at hb htk hvs
     generalize hn' :q49 ((t.data.toList.drop p).take i)=n at hn hvs ⊢
     have e2:decide (((p+i:Nat):Int)<(t.size:Int))=true:=by simp;omega
     have t2:Int.tmod ((c.toNat:Nat):Int) (128:Int)=((c.toNat % 128:Nat):Int):=p6e _ 128
     have hm:c.toNat % 128*128^i≤127*34359738368:=Nat.mul_le_mul (by omega) hpw
     have w2:IntKind.i64.wrap (((c.toNat % 128:Nat):Int)*((128^i:Nat):Int))=((c.toNat % 128*128^i:Nat):Int):=by
      rw[←Int.natCast_mul];exact y8b (by omega)
     have w3:IntKind.i64.wrap ((n:Int)+((c.toNat % 128*128^i:Nat):Int))=((n+c.toNat % 128*128^i:Nat):Int):=by
      rw[←Int.natCast_add];exact y8b (by omega)
     have wp:IntKind.i64.wrap (((p+i:Nat):Int)+1)=((p+i+1:Nat):Int):=y7l (by omega)
     have ws:IntKind.i64.wrap (((128^i:Nat):Int)*128)=((128^(i+1):Nat):Int):=by
      rw[Nat.pow_succ,Int.natCast_mul]
      exact y4y (by omega) (by omega)
     simp only[e1,e2,cond_true,zOb,y7t hlt,zTn,p66 hlt,hc,y8b (show c.toNat≤4611686018427387904 by omega),t2,w2,w3,wp,ws,r03]
     by_cases hc1:c.toNat<128
     ·have e4:decide (((c.toNat:Nat):Int)<(128:Int))=true:=by simp;omega
      simp only[e4,cond_true,if_pos hc1]
      by_cases hv:n+c.toNat % 128*128^i≤1000000000
      ·have e5:decide (((n+c.toNat % 128*128^i:Nat):Int) >(1000000000:Int))=false:=o02 hv
       have e6:(decide (0≤(p:Int))&&decide ((p:Int)≤((p+i+1:Nat):Int))&&decide (((p+i+1:Nat):Int)≤(t.size:Int)))=true:=by simp;omega
       simp only[e5,cond_false,q1n _ (show n+c.toNat % 128*128^i≤100000000000 by omega),zOb,e6,cond_true]
       have hx:t.extract p (p+i+1)=⟨((t.data.toList.drop p).take (i+1)).toArray⟩:=by
        rw[r77 t p (p+i+1) (by omega)]
        have:p+i+1 - p=i+1:=by omega
        rw[this]
       rw[hx]
       have hv' :n+c.toNat % 128*128^i=q49 ((t.data.toList.drop p).take i++ [c]):=hvs.symm
       by_cases hl:(s1a (n+c.toNat % 128*128^i)).length=i+1
       ·rw[if_pos ⟨hv,hl⟩]
        have key:s1a (n+c.toNat % 128*128^i)=((t.data.toList.drop p).take (i+1)).map fun x=>(x.toNat:Int):=by
         rw[hv',htk]
         exact p9w _ c hall hc1 (by rw[←hv',hl,htl])
        rw[key,p75,y6l]
        simp only[Bool.not_true,cond_false,zOb,q19]
        simp[Int.add_assoc]
       ·rw[if_neg (fun hh=>hl hh.2)]
        have hne:z7o (y7g (s1a (n+c.toNat % 128*128^i))) ⟨((t.data.toList.drop p).take (i+1)).toArray⟩=false:=by
         rw[←Bool.not_eq_true,y7f]
         intro hh
         have:=congrArg ByteArray.size hh
         rw[u60] at this
         apply hl
         rw[this]
         show((t.data.toList.drop p).take (i+1)).toArray.size=_
         simp;omega
        rw[hne];rfl
      ·have e5:decide (((n+c.toNat % 128*128^i:Nat):Int) >(1000000000:Int))=true:=o00 hv
       rw[if_neg (fun hh=>hv hh.1),e5];rfl
     ·have e4:decide (((c.toNat:Nat):Int)<(128:Int))=false:=by simp;omega
      simp only[e4,cond_false,if_neg hc1]
      have:=ih (i+1) (by omega) (by omega) (by
       rw[htk]
       intro x hx
       rcases List.mem_append.mp hx with hx | hx
       ·exact hall x hx
       ·simp at hx;rw[hx];exact hc1) (by
       rw[htk,hvs]
       have:128^(i+1)=128^i*128:=Nat.pow_succ 128 i
       have h2:c.toNat % 128*128^i≤127*128^i:=Nat.mul_le_mul (by omega) (Nat.le_refl _)
       omega)
      rw[htk,hvs] at this
      exact this
    ·have e2:decide (((p+i:Nat):Int)<(t.size:Int))=false:=by simp;omega
     have hd:t.data.toList.drop (p+i)= [] :=List.drop_eq_nil_of_le (by simp;omega)
     rw[hd]
     simp only[e2,zOb,cond_false,r03]
     rfl
  exact L 5 0 rfl (by omega) (by simp) (by simp[q49])
 ·rw[decide_eq_false h,if_neg h];rfl
end
section
def u0o (t:ByteArray) (at_:Int):ByteArray×Int×Bool:=
 if(u0t t at_).2.2=true∧(u0t t at_).1≤20000∧(u0t t at_).1≤(t.size:Int) - (u0t t at_).2.1 then
  (t.extract (u0t t at_).2.1.toNat ((u0t t at_).2.1+(u0t t at_).1).toNat,(u0t t at_).2.1+(u0t t at_).1,true)
 else(emp,0,false)
theorem s92 {t:ByteArray} {at_:Int} (h:(u0o t at_).2.2=true):0≤(u0o t at_).2.1∧(u0o t at_).2.1≤t.size:=by
 unfold u0o at h ⊢
 split at h
 ·rename_i hc
  rw[if_pos hc]
  have:=t5v hc.1
  simp only
  omega
 ·cases h
theorem p36 (t:ByteArray) (at_:Int) (ht:t.size≤u0p):
 (((bif (!(u0t t at_).2.2) then(some true) else(bif (decide ((u0t t at_).1 >(20000:Int))) then(some true) else(some (decide ((u0t t at_).1 >(IntKind.i64.wrap ((t.size:Int) - (u0t t at_).2.1))))))):Option Bool).bind fun j2=>
  (bif j2 then(some ((⟨#[]⟩:ByteArray),((0:Int),false))) else(bif (decide (0≤(u0t t at_).2.1)&&decide ((u0t t at_).2.1≤(IntKind.i64.wrap ((u0t t at_).2.1+(u0t t at_).1)))&&decide ((IntKind.i64.wrap ((u0t t at_).2.1+(u0t t at_).1))≤(t.size:Int))) then
   (some ((t.extract ((u0t t at_).2.1).toNat ((IntKind.i64.wrap ((u0t t at_).2.1+(u0t t at_).1))).toNat),((IntKind.i64.wrap ((u0t t at_).2.1+(u0t t at_).1)),true))) else none)))=some (u0o t at_):=by
 unfold u0p at ht
 unfold u0o
 cases ho:(u0t t at_).2.2 with
 | false=>rfl
 | true=>
  have hk:=t5v ho
  rw[y4y (n:=(t.size:Int) - (u0t t at_).2.1) (by omega) (by omega),y4y (n:=(u0t t at_).2.1+(u0t t at_).1) (by omega) (by omega)]
  by_cases h1:(u0t t at_).1 >20000
  ·rw[if_neg (by omega),decide_eq_true h1];rfl
  ·rw[decide_eq_false h1]
   by_cases h2:(u0t t at_).1 >(t.size:Int) - (u0t t at_).2.1
   ·rw[if_neg (by omega),decide_eq_true h2];rfl
   ·rw[if_pos ⟨rfl,by omega,by omega⟩,decide_eq_false h2]
    simp only[Bool.not_true,cond_false,zOb]
    rw[decide_eq_true (show 0≤(u0t t at_).2.1 by omega),decide_eq_true (show(u0t t at_).2.1≤(u0t t at_).2.1+(u0t t at_).1 by omega),decide_eq_true (show(u0t t at_).2.1+(u0t t at_).1≤(t.size:Int) by omega)]
    rfl
theorem r07 (t:ByteArray) (at_:Int) (ht:t.size≤u0p):t5f (t,at_)=some (u0o t at_):=by
 rw[r9c];unfold s58
 simp only[r7g t at_ ht,zOb]
 exact p36 t at_ ht
def r8w (t:ByteArray):Int:=((t.data.toList.getD 0 0).toNat:Int)
theorem q5v (t:ByteArray):0≤r8w t∧r8w t<256:=by
 unfold r8w
 have:(t.data.toList.getD 0 0).toNat<256:=UInt8.toNat_lt _
 omega
def u5x (d:u0j) (s:Int):Int:=r8w (u0g d s).1
theorem p30 {d:u0j} {s:Int} (h:(u0g d s).2=false):(u0g d s).1=emp:=by
 unfold u0g at h ⊢
 split at h
 ·cases h
 ·rename_i hc;rw[if_neg hc]
theorem p3n (r:ByteArray×Bool) (h:r.2=false→r.1=emp):
 (((bif (!r.2) then(some true) else(some (z7o r.1 (⟨#[]⟩:ByteArray)))):Option Bool).bind fun j2=>(bif j2 then(some (0:Int)) else(bif (y4q (0:Int) r.1.size) then(some (IntKind.i64.wrap ((r.1.data.toList.getD ((0:Int)).toNat 0).toNat:Int))) else none)))=some (r8w r.1):=by
 obtain⟨t,o⟩:=r
 cases o with
 | false=>
  have:t=emp:=h rfl
  subst this;rfl
 | true=>
  simp only[Bool.not_true,cond_false,zOb]
  by_cases he:t=emp
  ·subst he
   have:z7o emp (⟨#[]⟩:ByteArray)=true:=y6l emp
   simp only[this,cond_true];rfl
  ·have h1:z7o t (⟨#[]⟩:ByteArray)=false:=by
    rw[←Bool.not_eq_true,y7f];exact he
   have h2:t.size≠0:=by
    intro hz
    apply he
    apply ByteArray.ext
    apply Array.eq_empty_of_size_eq_zero
    exact hz
   have h3:y4q (0:Int) t.size=true:=by simp[y4q];omega
   have hb:(t.data.toList.getD 0 0).toNat<256:=UInt8.toNat_lt _
   simp only[h1,cond_false,h3,cond_true,Int.toNat_zero]
   rw[y8b (by omega)];rfl
theorem s9j (d:u0j) (s:Int) (hd:o5r.wt d≤u0p):t4b (d,s)=some (u5x d s):=by
 rw[q3k];unfold r2h
 simp only[t99 d s hd,zOb]
 exact p3n _ (fun h=>p30 h)
def u0y (d:u0j):Int:=Int.tmod (u5x d 0) 2
theorem t5i (d:u0j):u0y d=0∨u0y d=1:=by
 have:=q5v (u0g d 0).1
 unfold u0y u5x
 have e:=Int.tmod_eq_emod_of_nonneg (b:=2) this.1
 rw[e];omega
theorem s4y (d:u0j) (hd:o5r.wt d≤u0p):t2i d=some (u0y d):=by
 rw[q0u];unfold s8p
 simp only[s9j d 0 hd,zOb];rfl
def p3q (a:Int):Bool:=decide (a=0) || decide (a=1)
def u0e (a:Int):Int:=if p3q a then 1+a*48 else 0
theorem p7e {a:Int} :p3q a=true↔a=0∨a=1:=by simp[p3q]
theorem s1r (a:Int):0≤u0e a∧u0e a≤49:=by
 unfold u0e
 split
 ·rename_i h;have:=p7e.mp h;omega
 ·omega
theorem r0o (a:Int):u0n (a,0,1)=some (p3q a):=by
 rw[t76,q6z]
 congr 1
 rw[Bool.eq_iff_iff,p7e,decide_eq_true_iff];omega
theorem t7o (a:Int):u7h a=some (u0e a):=by
 rw[r86];unfold s52 u0e
 simp only[r0o,zOb]
 cases h:p3q a with
 | false=>rfl
 | true=>
  have:=p7e.mp h
  simp only[Bool.not_true,cond_false,if_true]
  rw[y4y (n:=a*48) (by omega) (by omega),y4y (by omega) (by omega)]
def u1c (d:u0j) (a:Int):Int:=if p3q a then u5x d (u0e a) else 0
theorem r6g (d:u0j) (a:Int):0≤u1c d a∧u1c d a<256:=by
 unfold u1c
 split
 ·exact q5v _
 ·omega
theorem s1h (d:u0j) (a:Int) (hd:o5r.wt d≤u0p):t38 (d,a)=some (u1c d a):=by
 rw[q2x];unfold r1l u1c
 simp only[r0o,t7o,s9j d _ hd,zOb]
 cases p3q a<;>rfl
def u7p (t:ByteArray):Nat→Int→List ByteArray→List ByteArray×Int×Bool
 | 0,at_,acc=>(acc,at_,true)
 | m+1,at_,acc=>if(u0o t at_).2.2&& !z7o (u0o t at_).1 emp then u7p t m (u0o t at_).2.1 (acc++ [(u0o t at_).1]) else([],0,false)
def u0c (d:u0j) (a:Int):List ByteArray×Int×Bool:=
 if p3q a&&(t2n d (u0e a+1) 47).2 then u7p (t2n d (u0e a+1) 47).1 (u1c d a).toNat 0 [] else([],0,false)
theorem q43 (d:u0j) (from_:Int):∀(m i:Nat) (acc:ByteArray),(r66 d from_ m i acc).1.size≤acc.size+m*o5r.wt d
 | 0,i,acc=>by simp[r66]
 | m+1,i,acc=>by
  unfold r66
  split
  ·have h1:=q43 d from_ m (i+1) (acc++(u0g d (from_+(i:Int))).1)
   have h2:=r8b d (from_+(i:Int))
   rw[ByteArray.size_append] at h1
   have:(m+1)*o5r.wt d=m*o5r.wt d+o5r.wt d:=Nat.succ_mul _ _
   omega
  ·show 0≤_;omega
theorem r8e (d:u0j) (from_ n:Int):(t2n d from_ n).1.size≤100*o5r.wt d:=by
 unfold t2n
 split
 ·have h:=q43 d from_ n.toNat 0 emp
  have h2:emp.size=0:=rfl
  have h3:n.toNat*o5r.wt d≤100*o5r.wt d:=Nat.mul_le_mul (by omega) (Nat.le_refl _)
  omega
 ·show 0≤_;omega
theorem s44 (d:u0j) (a:Int) (hd:o5r.wt d≤1073741824):u8v (d,a)=some (u0c d a):=by
 have hb:o5r.wt d≤u0p:=by unfold u0p;omega
 have hf:=s1r a
 have hz:(t2n d (u0e a+1) 47).1.size≤u0p:=by have:=r8e d (u0e a+1) 47;unfold u0p;omega
 have hc:=r6g d a
 rw[q01];unfold s8w u0c
 simp only[r0o,t7o,zOb]
 rw[y4y (n:=u0e a+1) (by omega) (by omega)]
 simp only[r93 d (u0e a+1) 47 hd (by omega) (by omega),zOb]
 generalize t2n d (u0e a+1) 47=s at hz
 cases hs:s.2 with
 | false=>cases p3q a<;>rfl
 | true=>
  cases ha:p3q a with
  | false=>rfl
  | true=>
   have L:=r3t (fun x=>(t1o x).bind fun r=>match r with
    | .inl o=>some (o.1,o.2,true)
    | .inr z=>some z) (u1c d a).toNat (fun(p:List ByteArray×Int) i=>(a,d, [],s.1,p.1,p.2,i)) (fun i p=>u7p s.1 ((u1c d a).toNat - i) p.2 p.1) (fun i p=>p.1.length≤i)
    (fun p _=>by
     rw[s2h];simp only[t1k,s1h d a hb,zOb]
     rw[decide_eq_false (by omega)]
     simp only[cond_false,zOb,Nat.sub_self,u7p])
    (fun i p hi hp=>by
     have e:(u1c d a).toNat - i=((u1c d a).toNat - (i+1))+1:=by omega
     rw[s2h];simp only[t1k,s1h d a hb,zOb]
     rw[decide_eq_true (by omega),e]
     simp only[cond_true,r07 s.1 p.2 hz,zOb,u7p,p8q]
     cases hr:(u0o s.1 p.2).2.2 with
     | false=>left;rfl
     | true=>
      cases hq:z7o (u0o s.1 p.2).1 emp with
      | true=>left;rfl
      | false=>
       right
       refine⟨(p.1++ [(u0o s.1 p.2).1],(u0o s.1 p.2).2.1),by simp;omega,by simp,?_⟩
       simp only[Bool.not_true,cond_false,zOb,List.length_singleton,u1q (show p.1.length+1≤1099511627776 by omega),cond_true]
       rw[y7l (by omega)]) 0 ([],0) (by omega) (by simp)
   simp only[Bool.not_true,cond_false,zOb,Bool.and_self,if_true]
   exact L
def u0k (d:u0j):List ByteArray:=(u0c d (u0y d)).1
theorem q4l (t:ByteArray):∀(m:Nat) (at_:Int) (acc:List ByteArray),(u7p t m at_ acc).1.length≤acc.length+m
 | 0,at_,acc=>by simp[u7p]
 | m+1,at_,acc=>by
  unfold u7p
  split
  ·have:=q4l t m (u0o t at_).2.1 (acc++ [(u0o t at_).1])
   simp at this;omega
  ·simp
theorem q9u (d:u0j) (a:Int):(u0c d a).1.length<256:=by
 unfold u0c
 split
 ·have h:=q4l (t2n d (u0e a+1) 47).1 (u1c d a).toNat 0 []
  have:=r6g d a
  simp at h;omega
 ·simp
end
section
def u1z (d:u0j):Bool:=decide (1≤d.1.length∧d.1.length≤100)&&decide (d.2.length≤60)&&d.1.all (fun s=>decide (s.size=64))&&d.2.all (fun p=>r21 p.1 0 ((d.1.length:Int) - 1)&&decide (p.2.size=64))
theorem p49 {α:Type} (l:List α) (p:α→Bool):l.any (fun x=> !p x)= !l.all p:=by
 induction l with
 | nil=>rfl
 | cons x l ih=>simp only[List.any_cons,List.all_cons,ih,Bool.not_and]
theorem s40 (d:u0j) (hd:o5r.wt d≤u0p):t3i d=some (u1z d):=by
 have h1:d.1.length≤u0p:=Nat.le_trans s3n hd
 have h2:d.2.length≤u0p:=Nat.le_trans s9h hd
 unfold u0p at h1 h2
 have L1:=s47 t6a d.1 (fun i=>(d,i)) (fun s=> !decide (s.size=64)) (.inr false) (.inl d)
  (by rw[r0e];simp only[t54,u0b,Nat.lt_irrefl,decide_false,cond_false])
  (fun i hi=>by
   rw[r0e];simp only[t54,u0b,hi,decide_true,cond_true,y7t hi,zTn,y8k (t:=Ty.str) hi]
   rw[y7l (by omega)]
   have:decide (((d.1[i]).size:Int)=(64:Int))=decide ((d.1[i]).size=64):=by simp only[decide_eq_decide];omega
   rw[this])
 have L2:=s47 t6b d.2 (fun i=>(d,i)) (fun p=> !(r21 p.1 0 ((d.1.length:Int) - 1)&&decide (p.2.size=64))) (.inr false) (.inl ())
  (by rw[r0f];simp only[t55,u0b,Nat.lt_irrefl,decide_false,cond_false])
  (fun i hi=>by
   rw[r0f];simp only[t55,u0b,hi,decide_true,cond_true,y7t hi,zTn,y8k (t:=p6o) hi,t76,zOb]
   rw[y7l (by omega),y4y (n:=(d.1.length:Int) - 1) (by omega) (by omega)]
   have:decide (((d.2[i]).2.size:Int)=(64:Int))=decide ((d.2[i]).2.size=64):=by simp only[decide_eq_decide];omega
   rw[this]
   cases r21 (d.2[i]).1 0 ((d.1.length:Int) - 1)<;>rfl)
 rw[q6d];unfold r4p u1z
 simp only[t76,q6z (a:=(d.1.length:Int)),L1,zOb]
 have e1:decide ((1:Int)≤(d.1.length:Int)∧(d.1.length:Int)≤100)=decide (1≤d.1.length∧d.1.length≤100):=by simp only[decide_eq_decide];omega
 have e2:decide ((d.2.length:Int) >60)= !decide (d.2.length≤60):=by
  rw[←decide_not,decide_eq_decide];omega
 rw[e1,e2,p49]
 cases decide (1≤d.1.length∧d.1.length≤100) with
 | false=>rfl
 | true=>
  cases decide (d.2.length≤60) with
  | false=>rfl
  | true=>
   cases d.1.all (fun s=>decide (s.size=64)) with
   | false=>rfl
   | true=>
    simp only[Bool.not_true,cond_false,zOb,L2,p49]
    cases d.2.all _<;>rfl
def u45 (d:u0j):Bool:=u1z d&&decide (d.1.length=97)&&decide (d.2.length=0)&&(u0c d 0).2.2&&(u0c d 1).2.2
theorem q4g (d:u0j) (hd:o5r.wt d≤1073741824):s15 d=some (u45 d):=by
 have hb:o5r.wt d≤u0p:=by unfold u0p;omega
 rw[q8v];unfold r7v u45
 have hs:u8y ()=some 97:=by rw[s3q];rfl
 simp only[s40 d hb,hs,s44 d _ hd,zOb]
 have e1:decide ((d.1.length:Int)=97)=decide (d.1.length=97):=by rw[decide_eq_decide];omega
 have e2:decide ((d.2.length:Int) >0)= !decide (d.2.length=0):=by rw[←decide_not,decide_eq_decide];omega
 rw[e1,e2]
 cases u1z d<;>cases decide (d.1.length=97)<;>cases decide (d.2.length=0)<;>cases (u0c d 0).2.2<;>cases (u0c d 1).2.2<;>rfl
end
section
theorem p9e (d:u0j):o5r.wt d=(d.1.length+(d.1.map ByteArray.size).sum)+(d.2.length+(d.2.map fun p=>0+p.2.size).sum):=rfl
theorem q45 {α:Type} {l:List α} {f:α→Nat} {k:Nat} (h:∀x∈l,f x≤k):(l.map f).sum≤l.length*k:=by
 induction l with
 | nil=>simp
 | cons x l ih=>
  have h1:=h x (List.mem_cons_self ..)
  have h2:=ih (fun y hy=>h y (List.mem_cons_of_mem _ hy))
  simp only[List.map_cons,List.sum_cons,List.length_cons,Nat.succ_mul]
  omega
theorem q4q {d:u0j} :u1z d=true↔(1≤d.1.length∧d.1.length≤100)∧d.2.length≤60∧(∀s∈d.1,s.size=64)∧ ∀p∈d.2,(0≤p.1∧p.1<(d.1.length:Int))∧p.2.size=64:=by
 unfold u1z
 simp only[Bool.and_eq_true,decide_eq_true_eq,List.all_eq_true,r21,and_assoc]
 constructor
 ·rintro⟨a,b,c,e,f⟩
  exact⟨a,b,c,e,fun p hp=>by obtain⟨x,y,z⟩:=f p hp;exact⟨x,by omega,z⟩⟩
 ·rintro⟨a,b,c,e,f⟩
  exact⟨a,b,c,e,fun p hp=>by obtain⟨x,y,z⟩:=f p hp;exact⟨x,by omega,z⟩⟩
theorem t6j {d:u0j} (h:u1z d=true):o5r.wt d≤11000:=by
 obtain⟨h1,h2,h3,h4⟩:=q4q.mp h
 have a1:=q45 (l:=d.1) (f:=ByteArray.size) (k:=64) (fun s hs=>by rw[h3 s hs];exact Nat.le_refl _)
 have a2:=q45 (l:=d.2) (f:=fun p=>0+p.2.size) (k:=64) (fun p hp=>by rw[(h4 p hp).2];exact Nat.le_refl _)
 rw[p9e]
 omega
theorem t2q (d:u0j) (hd:o5r.wt d≤u0p):u04 d=some d:=by
 have h1:d.1.length≤u0p:=Nat.le_trans s3n hd
 have h2:d.2.length≤u0p:=Nat.le_trans s9h hd
 unfold u0p at h1 h2
 rw[q3i];unfold r2f
 have a1:Nat.ble (([] :List ByteArray).length+d.1.length) z7w=true:=u1q (by simp;omega)
 have a2:Nat.ble (([] :List p4o.den).length+d.2.length) z7w=true:=u1q (by simp;omega)
 simp only[a1,a2,cond_true,List.nil_append]
def u8h (d:u0j) (k:Int) (t:ByteArray):Option u0j:=if u1z (d.1,d.2++ [(k,t)]) then some (d.1,d.2++ [(k,t)]) else none
def orD (d:u0j):Option u0j→u0j×Bool
 | some x=>(x,true)
 | none=>(d,false)
theorem r3w (d:u0j) (k:Int) (t:ByteArray):u1z (d.1,d.2++ [(k,t)])=(u1z d&&(r21 k 0 ((d.1.length:Int) - 1)&&(decide (t.size=64)&& !decide (60≤d.2.length)))):=by
 rw[Bool.eq_iff_iff]
 simp only[Bool.and_eq_true,Bool.not_eq_true',decide_eq_true_eq,decide_eq_false_iff_not]
 rw[q4q,q4q]
 simp only[List.length_append,List.length_singleton,List.mem_append,List.mem_singleton,r21,Bool.and_eq_true,decide_eq_true_eq]
 constructor
 ·rintro⟨a,b,c,e⟩
  have:=e (k,t) (.inr rfl)
  exact⟨⟨a,by omega,c,fun p hp=>e p (.inl hp)⟩,⟨this.1.1,by have:=this.1.2;omega⟩,this.2,by omega⟩
 ·rintro⟨⟨a,b,c,e⟩,⟨f1,f2⟩,g,h⟩
  refine⟨a,by omega,c,fun p hp=> ?_⟩
  rcases hp with hp | rfl
  ·exact e p hp
  ·exact⟨⟨f1,by show k<(d.1.length:Int);omega⟩,g⟩
theorem r8s (d:u0j) (k:Int) (t:ByteArray) (hd:o5r.wt d≤1073741824) (ht:t.size≤1073741824):t1s (d,k,t)=some (orD d (u8h d k t)):=by
 have h2:d.2.length≤1073741824:=Nat.le_trans s9h hd
 have h1:d.1.length≤1073741824:=Nat.le_trans s3n hd
 have a:Nat.ble (d.2.length+([(k,t)] :List p4o.den).length) z7w=true:=u1q (by simp;omega)
 have w:IntKind.i64.wrap ((d.1.length:Int) - 1)=(d.1.length:Int) - 1:=y4y (by omega) (by omega)
 have e1:decide ((t.size:Int)=(64:Int))=decide (t.size=64):=by simp only[decide_eq_decide];omega
 have e2:decide ((d.2.length:Int)≥(60:Int))=decide (60≤d.2.length):=by simp only[decide_eq_decide];omega
 rw[r5k];unfold s1p
 simp only[t2q d (by unfold u0p;omega),s40 d (by unfold u0p;omega),zOb,a,cond_true,t76,w,e1,e2]
 unfold u8h
 rw[r3w]
 cases u1z d<;>cases r21 k 0 ((d.1.length:Int) - 1)<;>cases decide (t.size=64)<;>cases decide (60≤d.2.length)<;>rfl
def q7m:Nat→u0j→Nat→Nat→ByteArray→Option u0j
 | 0,d,_,_,_=>some d
 | f+1,d,k,at_,t=>if t.size=0 then some d else
  if(u0g d (k:Int)).2=true∧(u0g d (k:Int)).1.size=64 then
   (u8h d (k:Int) ((u0g d (k:Int)).1.extract 0 at_++t.extract 0 (min t.size (64 - at_))++(u0g d (k:Int)).1.extract (at_+min t.size (64 - at_)) 64)).bind fun x=>
    q7m f x (k+1) 0 (t.extract (min t.size (64 - at_)) t.size)
  else none
theorem q7e (f:Nat) (d:u0j) (k at_:Nat) {t:ByteArray} (h:t.size=0):q7m f d k at_ t=some d:=by
 cases f with
 | zero=>rfl
 | succ f=>rw[q7m,if_pos h]
theorem t7m {d x:u0j} {k:Int} {t:ByteArray} (h:u8h d k t=some x):u1z x=true∧x=(d.1,d.2++ [(k,t)]):=by
 unfold u8h at h
 split at h
 ·rename_i hk;cases h;exact⟨hk,rfl⟩
 ·cases h
theorem r8f {t:ByteArray} :z7o t ⟨#[]⟩=decide (t.size=0):=by
 rw[Bool.eq_iff_iff,y7f,decide_eq_true_eq]
 constructor
 ·rintro rfl;rfl
 ·intro h
  have:t.data= #[] :=by apply Array.eq_empty_of_size_eq_zero;exact h
  cases t;simp at this;rw[this]
theorem p6j (d0 jk:u0j) (sec at_:Nat) (t:ByteArray) (hsec:sec≤2000000000) (hat:at_≤6400) (ht:t.size≤1048576) (h0:o5r.wt d0≤1073741824):∀(f i:Nat) (out:u0j),i≤t.size→t.size - i<f→o5r.wt out≤1073741824→
 u5k ((sec:Int),(at_:Int),t,d0,jk,out,(i:Int))=some (match q7m f out (sec+(at_+i) / 64) ((at_+i) % 64) (t.extract i t.size) with
  | some x=> .inl (jk,x)
  | none=> .inr (d0,false))
 | 0,i,out,_,h,_=>by omega
 | f+1,i,out,hi,hf,ho=>by
  have hsz:(t.extract i t.size).size=t.size - i:=by simp only[ByteArray.size_extract];omega
  have w0:IntKind.i64.wrap ((at_:Int)+(i:Int))=((at_+i:Nat):Int):=by rw[y4y (by omega) (by omega)];omega
  have t1:Int.tdiv ((at_+i:Nat):Int) (64:Int)=(((at_+i) / 64:Nat):Int):=o1e (at_+i) 64
  have t2:Int.tmod ((at_+i:Nat):Int) (64:Int)=(((at_+i) % 64:Nat):Int):=p6e (at_+i) 64
  obtain⟨q,hq⟩:∃q,q=(at_+i) / 64:=⟨_,rfl⟩
  obtain⟨m,hm⟩:∃m,m=(at_+i) % 64:=⟨_,rfl⟩
  have w1:IntKind.i64.wrap ((q:Int))=(q:Int):=y4y (by omega) (by omega)
  have w2:IntKind.i64.wrap ((sec:Int)+(q:Int))=((sec+q:Nat):Int):=by rw[y4y (by omega) (by omega)];omega
  have w3:IntKind.i64.wrap ((64:Int) - (m:Int))=((64 - m:Nat):Int):=by rw[y4y (by omega) (by omega)];omega
  have w4:IntKind.i64.wrap ((t.size:Int) - (i:Int))=((t.size - i:Nat):Int):=by rw[y4y (by omega) (by omega)];omega
  rw[r37]
  simp only[t5h,w0,t1,t2,←hq,←hm,w1,w2,w3,w4,t99 out ((sec+q:Nat):Int) (by unfold u0p;omega),t2q d0 (by unfold u0p;omega),zOb,u0b]
  rw[q7m,hsz]
  by_cases hz:i<t.size
  ·have hz' : ¬t.size - i=0:=by omega
   simp only[hz,decide_true,cond_true,hz',if_false]
   generalize u0g out ((sec+q:Nat):Int)=r
   obtain⟨old,rok⟩:=r
   cases rok with
   | false=>simp
   | true=>
    have e64:decide ((old.size:Int)=(64:Int))=decide (old.size=64):=by simp only[decide_eq_decide];omega
    simp only[Bool.not_true,cond_false,zOb,e64]
    by_cases hs:old.size=64
    ·obtain⟨n,hn⟩:∃n,n=min (t.size - i) (64 - m):=⟨_,rfl⟩
     have z0:((0:Int)).toNat=0:=rfl
     have hm64:m<64:=by omega
     have body:∀N:Nat,N=n→IntKind.i64.wrap ((i:Int)+(N:Int))=((i+n:Nat):Int)∧IntKind.i64.wrap ((m:Int)+(N:Int))=((m+n:Nat):Int):=fun N hN=>by
      subst hN
      exact⟨by rw[y4y (by omega) (by omega)];omega,by rw[y4y (by omega) (by omega)];omega⟩
     have c1:(decide ((0:Int)≤0)&&decide ((0:Int)≤(m:Int))&&decide ((m:Int)≤((64:Nat):Int)))=true:=by simp;omega
     have c2:(decide ((0:Int)≤(i:Int))&&decide ((i:Int)≤((i+n:Nat):Int))&&decide (((i+n:Nat):Int)≤(t.size:Int)))=true:=by simp;omega
     have c3:decide ((old.extract 0 m).size+(t.extract i (i+n)).size≤140737488355328)=true:=by simp only[ByteArray.size_extract,decide_eq_true_eq];omega
     have c4:(decide ((0:Int)≤((m+n:Nat):Int))&&decide (((m+n:Nat):Int)≤((64:Nat):Int))&&decide (((64:Nat):Int)≤((64:Nat):Int)))=true:=by simp;omega
     have c5:decide ((old.extract 0 m++t.extract i (i+n)).size+(old.extract (m+n) 64).size≤140737488355328)=true:=by simp only[ByteArray.size_append,ByteArray.size_extract,decide_eq_true_eq];omega
     have hx1:(t.extract i t.size).extract 0 n=t.extract i (i+n):=by
      rw[ByteArray.extract_extract];congr 1;omega
     have hx2:(t.extract i t.size).extract n (t.size - i)=t.extract (i+n) t.size:=by
      rw[ByteArray.extract_extract];congr 1;omega
     have hw:=r8s out ((sec+q:Nat):Int) (old.extract 0 m++t.extract i (i+n)++old.extract (m+n) 64) ho (by simp only[ByteArray.size_append,ByteArray.size_extract];omega)
     have ih:∀x:u0j,u1z x=true→u5k ((sec:Int),(at_:Int),t,d0,jk,x,((i+n:Nat):Int))=some (match q7m f x (sec+q+1) 0 (t.extract (i+n) t.size) with
      | some x=> .inl (jk,x)
      | none=> .inr (d0,false)):=fun x hx=>by
      have:=p6j d0 jk sec at_ t hsec hat ht h0 f (i+n) x (by omega) (by omega) (Nat.le_trans (t6j hx) (by omega))
      rw[this]
      by_cases he:i+n=t.size
      ·have hsz2:(t.extract (i+n) t.size).size=0:=by simp only[ByteArray.size_extract];omega
       rw[q7e _ _ _ _ hsz2,q7e _ _ _ _ hsz2]
      ·have hn2:n=64 - m:=by omega
       have e1:sec+(at_+(i+n)) / 64=sec+q+1:=by omega
       have e2:(at_+(i+n)) % 64=0:=by omega
       rw[e1,e2]
     rw[←hn,hx1,hx2]
     simp only[hs,decide_true,Bool.not_true,cond_false,and_self,if_true]
     by_cases hb:t.size - i<64 - m
     ·obtain⟨b1,b2⟩:=body (t.size - i) (by omega)
      simp only[hb,decide_true,cond_true,b1,b2,zTn,z0,c3,c5]
      rw[c1,c2,c4]
      simp only[cond_true,hw,zOb]
      cases hx:u8h out ((sec+q:Nat):Int) (old.extract 0 m++t.extract i (i+n)++old.extract (m+n) 64) with
      | none=>simp[orD]
      | some x=>
       simp only[orD,Bool.not_true,cond_false,zOb]
       exact ih x (t7m hx).1
     ·obtain⟨b1,b2⟩:=body (64 - m) (by omega)
      simp only[hb,decide_false,cond_false,b1,b2,zTn,z0,c3,c5]
      rw[c1,c2,c4]
      simp only[cond_true,hw,zOb]
      cases hx:u8h out ((sec+q:Nat):Int) (old.extract 0 m++t.extract i (i+n)++old.extract (m+n) 64) with
      | none=>simp[orD]
      | some x=>
       simp only[orD,Bool.not_true,cond_false,zOb]
       exact ih x (t7m hx).1
    ·simp[hs]
  ·have hz' :t.size - i=0:=by omega
   simp only[hz,decide_false,cond_false,hz',if_true]
def u6t (d:u0j) (sector at_:Int) (t:ByteArray):Option u0j:=
 if r21 at_ 0 6400&&r21 sector 0 ((d.1.length:Int) - 1)&&u1z d then q7m (t.size+1) d (sector.toNat+at_.toNat / 64) (at_.toNat % 64) t else none
theorem s0b (d:u0j) (sector at_:Int) (t:ByteArray) (hd:o5r.wt d≤1073741824) (ht:t.size≤1048576):u8x (d,sector,at_,t)=some (orD d (u6t d sector at_ t)):=by
 have h1:d.1.length≤1073741824:=Nat.le_trans s3n hd
 have w:IntKind.i64.wrap ((d.1.length:Int) - 1)=(d.1.length:Int) - 1:=y4y (by omega) (by omega)
 rw[r6r];unfold s3k u6t
 simp only[t2q d (by unfold u0p;omega),s40 d (by unfold u0p;omega),zOb,t76,w]
 cases ha:r21 at_ 0 6400 with
 | false=>rfl
 | true=>
  cases hs:r21 sector 0 ((d.1.length:Int) - 1) with
  | false=>rfl
  | true=>
   cases hk:u1z d with
   | false=>rfl
   | true=>
    simp only[r21,Bool.and_eq_true,decide_eq_true_eq] at ha hs
    obtain⟨s,rfl⟩:∃s:Nat,sector=(s:Int):=⟨sector.toNat,by omega⟩
    obtain⟨a,rfl⟩:∃a:Nat,at_=(a:Int):=⟨at_.toNat,by omega⟩
    have L:=p6j d ([], []) s a t (by omega) (by omega) ht hd (t.size+1) 0 d (by omega) (by omega) hd
    have L:u5k ((s:Int),(a:Int),t,d,([], []),d,0)=_:=L
    have e:t.extract 0 t.size=t:=ByteArray.extract_zero_size
    simp only[Bool.not_true,cond_false,zOb,L,Bool.and_self,if_true,zTn,Nat.add_zero,e]
    cases q7m (t.size+1) d (s+a / 64) (a % 64) t<;>rfl
end
section
def s00 (s:List ByteArray) (p:Int×ByteArray):List ByteArray:=s.set p.1.toNat p.2
def flush (d:u0j):u0j:=if u1z d then(d.2.foldl s00 d.1, []) else d
theorem r67 (s:List ByteArray) (p:Int×ByteArray):(s00 s p).length=s.length:=by simp[s00]
theorem r3z:∀(c:List (Int×ByteArray)) (s:List ByteArray),(c.foldl s00 s).length=s.length
 | [],s=>rfl
 | p::c,s=>by rw[List.foldl_cons,r3z c,r67]
theorem q4t:∀(c:List (Int×ByteArray)) (s:List ByteArray),(∀p∈c,p.2.size=64)→(∀x∈s,x.size=64)→ ∀x∈c.foldl s00 s,x.size=64
 | [],s,_,h=>h
 | p::c,s,hc,h=>by
  rw[List.foldl_cons]
  refine q4t c _ (fun q hq=>hc q (List.mem_cons_of_mem _ hq)) (fun x hx=> ?_)
  rcases List.mem_or_eq_of_mem_set hx with hx | rfl
  ·exact h x hx
  ·exact hc p (List.mem_cons_self ..)
theorem t75 {d:u0j} (h:u1z d=true):u1z (flush d)=true∧(flush d).2= [] ∧(flush d).1.length=d.1.length:=by
 unfold flush
 rw[if_pos h]
 obtain⟨h1,h2,h3,h4⟩:=q4q.mp h
 refine⟨q4q.mpr ⟨by rw[r3z];exact h1,by simp,q4t _ _ (fun p hp=>(h4 p hp).2) h3,fun p hp=>by cases hp⟩,rfl,r3z _ _⟩
theorem t7p (d:u0j) (hd:o5r.wt d≤1073741824):u7i d=some (flush d):=by
 have h1:d.1.length≤1073741824:=Nat.le_trans s3n hd
 have h2:d.2.length≤1073741824:=Nat.le_trans s9h hd
 rw[r88];unfold s54 flush
 simp only[t2q d (by unfold u0p;omega),s40 d (by unfold u0p;omega),zOb]
 cases hk:u1z d with
 | false=>rfl
 | true=>
  obtain⟨k1,k2,k3,k4⟩:=q4q.mp hk
  have L:=t59 t1n d.2 (fun s i=>(d,([], []),(s,d.2),i)) s00 (fun s=> .inl (([], []),(s,d.2))) (fun _ s=>s.length=d.1.length)
   (fun s _=>by rw[s2f];simp only[t1i,u0b,Nat.lt_irrefl,decide_false,cond_false])
   (fun i hi s hs=>by
    refine⟨by rw[r67];exact hs,?_⟩
    have hp:=(k4 d.2[i] (List.getElem_mem hi)).1
    have hg:y4q (d.2[i]).1 s.length=true:=by simp[y4q,hs,hp.1,hp.2]
    rw[s2f];simp only[t1i,u0b,hi,decide_true,cond_true,y7t hi,zTn,y8k (t:=p6o) hi,hg]
    rw[y7l (by omega)]
    rfl) d.1 rfl
  simp only[Bool.not_true,cond_false,L,zOb,if_true]
def p1a (keep:List Int) (i:Nat):Bool:=decide (i<keep.length)&& !decide (Int.tmod (rdL (Ty.int .i64) keep i) 2=0)
def r5s (keep:List Int):Nat→Int
 | 0=> -1
 | n+1=>if p1a keep n then(n:Int) else r5s keep n
def s02 (tear:Int):Nat:=(if Int.tmod tear 65<0 then Int.tmod tear 65+65 else Int.tmod tear 65).toNat
def r5e (d:u0j) (keep:List Int) (last:Int) (n:Nat) (s:List ByteArray) (i:Nat):List ByteArray:=
 if p1a keep i then
  (if(i:Int)=last then s00 s ((rdL p6o d.2 i).1,(rdL p6o d.2 i).2.extract 0 n++(rdL Ty.str s (rdL p6o d.2 i).1.toNat).extract n (rdL Ty.str s (rdL p6o d.2 i).1.toNat).size)
   else s00 s (rdL p6o d.2 i))
 else s
def s1c (d:u0j) (keep:List Int) (tear:Int):u0j:=
 if u1z d then((List.range d.2.length).foldl (r5e d keep (r5s keep d.2.length) (s02 tear)) d.1, []) else d
theorem p78 (tear:Int):s02 tear≤64∧((s02 tear:Nat):Int)=(if Int.tmod tear 65<0 then Int.tmod tear 65+65 else Int.tmod tear 65):=by
 have h1:Int.tmod tear 65<65:=Int.tmod_lt_of_pos _ (by omega)
 have h2: -65<Int.tmod tear 65:=by
  have:=Int.lt_tmod_of_pos tear (show(0:Int)<65 by omega)
  exact this
 unfold s02
 split<;>omega
section
variable {d:u0j} (hk:u1z d=true) (keep:List Int)
include hk in
include hk in
include hk
end
end
section
theorem q0c (t:ByteArray):∀(m:Nat) (at_:Int) (acc:List ByteArray),0≤at_∧at_≤t.size→0≤(u7p t m at_ acc).2.1∧(u7p t m at_ acc).2.1≤t.size
 | 0,at_,acc,h=>h
 | m+1,at_,acc,h=>by
  unfold u7p
  split
  ·rename_i hc
   simp only[Bool.and_eq_true] at hc
   exact q0c t m _ _ (s92 hc.1)
  ·simp
theorem r35 (d:u0j) (a:Int):0≤(u0c d a).2.1∧(u0c d a).2.1≤(100*o5r.wt d:Nat):=by
 unfold u0c
 split
 ·have h1:=q0c (t2n d (u0e a+1) 47).1 (u1c d a).toNat 0 [] (by simp)
  have h2:=r8e d (u0e a+1) 47
  omega
 ·simp only[Int.le_refl,true_and]
  omega
def u0x (t:ByteArray):ByteArray:=y7g (s1a t.size)++t
theorem s95 (t:ByteArray):t.size≤(u0x t).size∧(u0x t).size≤2*t.size+1:=by
 unfold u0x
 rw[ByteArray.size_append,u60]
 have:=p8c t.size
 omega
def t6i (d:u0j) (a:Int) (t:ByteArray):Option u0j:=
 if(u0c d a).2.2=false∨t.size=0∨3008<t.size∨255≤u1c d a∨3008<(u0c d a).2.1+((u0x t).size:Int) then none
 else u6t d (u0e a+1) (u0c d a).2.1 (u0x t)
theorem p1b (d:u0j) (a:Int) (t:ByteArray) (hd:o5r.wt d≤10000000) (ht:t.size≤1048576):s0y (d,a,t)=some (orD d (t6i d a t)):=by
 have hr:=r35 d a
 have hs:=s95 t
 have ha:=s1r a
 rw[q1a];unfold s86 t6i
 simp only[s44 d a (by omega),t2q d (by unfold u0p;omega),s1h d a (by unfold u0p;omega),q1n t.size (by omega),t7o,zOb,r8f]
 have e1:decide ((t.size:Int) >(3008:Int))=decide (3008<t.size):=by simp only[decide_eq_decide];omega
 have w1:IntKind.i64.wrap ((3008:Int) - (u0c d a).2.1)=3008 - (u0c d a).2.1:=y4y (by omega) (by omega)
 have w2:IntKind.i64.wrap (u0e a+1)=u0e a+1:=y4y (by omega) (by omega)
 rw[e1]
 cases h1:(u0c d a).2.2 with
 | false=>simp[orD]
 | true=>
  by_cases h2:t.size=0
  ·simp[h2,orD]
  ·by_cases h3:3008<t.size
   ·simp[h2,h3,orD]
   ·by_cases h4:255≤u1c d a
    ·have:decide (u1c d a≥255)=true:=by simpa using h4
     simp[h2,h3,h4,orD]
    ·have e4:decide (u1c d a≥255)=false:=by simp;omega
     have c:decide ((y7g (s1a t.size)).size+t.size≤140737488355328)=true:=by
      have h5:(u0x t).size=(y7g (s1a t.size)).size+t.size:=by unfold u0x;rw[ByteArray.size_append]
      simp;omega
     simp only[h2,h3,decide_false,Bool.not_true,cond_false,zOb,e4,c,cond_true,w1,w2]
     have hsz:y7g (s1a t.size)++t=u0x t:=rfl
     rw[hsz]
     by_cases h6:3008<(u0c d a).2.1+((u0x t).size:Int)
     ·have:decide (((u0x t).size:Int) >3008 - (u0c d a).2.1)=true:=by simp;omega
      simp[this,h6,orD]
     ·have:decide (((u0x t).size:Int) >3008 - (u0c d a).2.1)=false:=by simp;omega
      simp only[this,cond_false,s0b d (u0e a+1) (u0c d a).2.1 (u0x t) (by omega) (by omega),zOb]
      rw[if_neg (by simp[h2,h3,h6];omega)]
def t7b (n:Int):ByteArray:=y7g [IntKind.u8.wrap n]
theorem u4h (n:Int):(t7b n).size=1:=by unfold t7b;rw[u60];rfl
def s9g (d:u0j) (a n:Int):Option u0j:=u6t d (u0e a) 0 (t7b n)
theorem q1o (d:u0j) (a n:Int) (hd:o5r.wt d≤1073741824):t6z (d,a,n)=some (orD d (s9g d a n)):=by
 rw[q1b];unfold s87
 have h1:t60 n=some (t7b n):=by rw[r5l];rfl
 simp only[t7o,h1,zOb,s0b d (u0e a) 0 (t7b n) hd (by rw[u4h];omega)]
 rfl
theorem p6i:∀ {f:Nat} {d x:u0j} {k at_:Nat} {t:ByteArray},q7m f d k at_ t=some x→(u1z d=true→u1z x=true)∧x.1=d.1∧(t.size≠0→0<f→u1z x=true)
 | 0,d,x,k,at_,t,h=>by cases h;exact⟨id,rfl,fun _ h=>by omega⟩
 | f+1,d,x,k,at_,t,h=>by
  rw[q7m] at h
  split at h
  ·rename_i hz
   cases h;exact⟨id,rfl,fun hne=>absurd hz hne⟩
  ·split at h
   ·cases hw:u8h d (k:Int) ((u0g d (k:Int)).1.extract 0 at_++t.extract 0 (min t.size (64 - at_))++(u0g d (k:Int)).1.extract (at_+min t.size (64 - at_)) 64) with
    | none=>rw[hw] at h;cases h
    | some y=>
     rw[hw] at h
     simp only[zOb] at h
     obtain⟨k1,k2⟩:=t7m hw
     obtain⟨i1,i2,_⟩:=p6i h
     exact⟨fun _=>i1 k1,by rw[i2,k2],fun _ _=>i1 k1⟩
   ·cases h
theorem u7v {d x:u0j} {s at_:Int} {t:ByteArray} (h:u6t d s at_ t=some x):u1z d=true∧u1z x=true∧x.1=d.1:=by
 unfold u6t at h
 split at h
 ·rename_i hc
  simp only[Bool.and_eq_true] at hc
  obtain⟨i1,i2,_⟩:=p6i h
  exact⟨hc.2,i1 hc.2,i2⟩
 ·cases h
theorem s49 {d x:u0j} {a:Int} {t:ByteArray} (h:t6i d a t=some x):u1z d=true∧u1z x=true∧x.1=d.1∧(u0c d a).2.2=true:=by
 unfold t6i at h
 split at h
 ·cases h
 ·rename_i hc
  have:=u7v h
  simp only[not_or] at hc
  exact⟨this.1,this.2.1,this.2.2,by simpa using hc.1⟩
theorem r32 {d:u0j} (hk:u1z d=true) (h2:d.2= []) {s:Int} (h0:0≤s) (h1:s<(d.1.length:Int)) {b:ByteArray} (hb:b.size=1):
 u6t d s 0 b=some (d.1, [(s,b++(rdL Ty.str d.1 s.toNat).extract 1 64)]):=by
 obtain⟨k1,k2,k3,k4⟩:=q4q.mp hk
 have hlt:s.toNat<d.1.length:=by omega
 have hold:(rdL Ty.str d.1 s.toNat).size=64:=by
  have e:rdL Ty.str d.1 s.toNat=d.1[s.toNat] :=y8k (t:=Ty.str) hlt
  rw[e]
  exact k3 _ (List.getElem_mem hlt)
 have hs:((s.toNat:Nat):Int)=s:=by omega
 have hrd:u0g d s=(rdL Ty.str d.1 s.toNat,true):=by
  unfold u0g
  rw[if_pos ⟨h0,h1⟩,h2]
  rfl
 have c:(r21 0 0 6400&&r21 s 0 ((d.1.length:Int) - 1)&&u1z d)=true:=by
  rw[hk]
  simp[r21]
  omega
 have e1:(rdL Ty.str d.1 s.toNat).extract 0 0=ByteArray.empty:=by
  apply ByteArray.ext
  simp
 have e2:b.extract 0 1=b:=by rw[←hb];exact ByteArray.extract_zero_size
 have hw:u8h d s (b++(rdL Ty.str d.1 s.toNat).extract 1 64)=some (d.1, [(s,b++(rdL Ty.str d.1 s.toNat).extract 1 64)]):=by
  unfold u8h
  rw[r3w,hk,h2]
  have:r21 s 0 ((d.1.length:Int) - 1)=true:=by simp[r21];omega
  rw[this]
  have hz:(b++(rdL Ty.str d.1 s.toNat).extract 1 64).size=64:=by
   rw[ByteArray.size_append,ByteArray.size_extract,hb,hold];omega
  simp[hz]
 unfold u6t
 rw[if_pos c]
 have z:(0:Int).toNat=0:=rfl
 simp only[z,Nat.zero_div,Nat.zero_mod,Nat.add_zero,hb]
 rw[q7m,if_neg (by omega)]
 rw[hs,hrd]
 simp only[hold,and_self,if_true,hb]
 have m1:min 1 (64 - 0)=1:=by decide
 rw[m1,e1,e2]
 have e3:ByteArray.empty++b++(rdL Ty.str d.1 s.toNat).extract (0+1) 64=b++(rdL Ty.str d.1 s.toNat).extract 1 64:=by
  rw[ByteArray.empty_append]
 rw[e3,hw]
 simp only[zOb]
 exact q7e _ _ _ _ (by rw[ByteArray.size_extract,hb];decide)
end
section
def s6e (d:u0j) (a:Int):Int:=IntKind.i64.wrap (u1c d a+1)
def q4x (d:u0j) (a:Int) (t:ByteArray):Option u0j:=(t6i d a t).map fun x=>flush (orD (flush x) (s9g (flush x) a (s6e d a))).1
theorem p3f {d x:u0j} {a:Int} {t:ByteArray} (h:t6i d a t=some x):p3q a=true:=by
 have:=(s49 h).2.2.2
 unfold u0c at this
 split at this
 ·rename_i hc
  simp only[Bool.and_eq_true] at hc
  exact hc.1
 ·cases this
theorem q5y {d x:u0j} {a n:Int} {t:ByteArray} (hlen:d.1.length=97) (h:t6i d a t=some x):∃y,s9g (flush x) a n=some y∧u1z y=true∧y.1.length=97:=by
 obtain⟨h1,h2,h3,_⟩:=s49 h
 obtain⟨f1,f2,f3⟩:=t75 h2
 have hl:(flush x).1.length=97:=by rw[f3,h3];exact hlen
 have ha:=s1r a
 have ho:=r32 (s:=u0e a) f1 f2 (by omega) (by rw[hl];omega) (u4h n)
 have:=u7v ho
 exact⟨_,ho,this.2.1,by rw[this.2.2];exact hl⟩
theorem u6w {d:u0j} (h:u45 d=true):u1z d=true∧d.1.length=97∧d.2= [] ∧(u0c d 0).2.2=true∧(u0c d 1).2.2=true:=by
 unfold u45 at h
 simp only[Bool.and_eq_true,decide_eq_true_eq] at h
 obtain⟨⟨⟨⟨a,b⟩,c⟩,e⟩,f⟩:=h
 exact⟨a,b,List.length_eq_zero_iff.mp c,e,f⟩
theorem q9c (d:u0j) (a:Int) (t:ByteArray) (hd:o5r.wt d≤10000000) (ht:t.size≤1048576) (hlen:d.1.length=97):t95 (d,a,t)=some (orD d (q4x d a t)):=by
 rw[q6r];unfold r43 q4x
 simp only[p1b d a t hd ht,zOb]
 cases hb:t6i d a t with
 | none=>rfl
 | some x=>
  have hx:=t6j (s49 hb).2.1
  have hf:=t6j (t75 (s49 hb).2.1).1
  obtain⟨y,hy,hy2,_⟩:=q5y (n:=s6e d a) hlen hb
  have hyw:=t6j hy2
  simp only[orD,Bool.not_true,cond_false,t7p x (by omega),s1h d a (by unfold u0p;omega),zOb,q1o (flush x) a _ (by omega)]
  have hc:IntKind.i64.wrap (u1c d a+1)=s6e d a:=rfl
  rw[hc,hy]
  simp only[orD,t7p y (by omega),zOb,Option.map_some,hy]
theorem q2h (d:u0j) (a:Int) (t:ByteArray) (hd:o5r.wt d≤10000000) (ht:t.size≤1048576):t88 (d,a,t)=some (orD d (if u45 d then q4x d a t else none)):=by
 rw[r9a];unfold s56
 simp only[q4g d (by omega),r0o,t2q d (by unfold u0p;omega),zOb]
 cases hl:u45 d with
 | false=>simp[orD]
 | true=>
  cases ha:p3q a with
  | false=>
   have hn:q4x d a t=none:=by
    unfold q4x
    cases hb:t6i d a t with
    | none=>rfl
    | some x=>rw[p3f hb] at ha;cases ha
   simp[hn,orD]
  | true=>
   simp only[Bool.not_true,cond_false,zOb,q9c d a t hd ht (u6w hl).2.1,if_true]
   cases q4x d a t<;>simp[orD]
def append_ (d:u0j) (t:ByteArray):Option u0j:=if u45 d then q4x d (u0y d) t else none
theorem r04 (d:u0j) (t:ByteArray) (hd:o5r.wt d≤10000000) (ht:t.size≤1048576):t5d (d,t)=some (orD d (append_ d t)):=by
 rw[r85];unfold s51 append_
 simp only[s4y d (by unfold u0p;omega),zOb,q2h d _ t hd ht]
theorem p54 {d y:u0j} {a:Int} {t:ByteArray} (hlen:d.1.length=97) (h:q4x d a t=some y):∃x,t6i d a t=some x∧u1z x=true∧u1z y=true∧y.2= [] ∧y.1.length=97∧y=flush (orD (flush x) (s9g (flush x) a (s6e d a))).1:=by
 unfold q4x at h
 cases hb:t6i d a t with
 | none=>rw[hb] at h;cases h
 | some x=>
  rw[hb] at h
  simp only[Option.map_some,Option.some.injEq] at h
  obtain⟨z,hz,hz2,hz3⟩:=q5y (n:=s6e d a) hlen hb
  rw[hz] at h
  simp only[orD] at h
  obtain⟨f1,f2,f3⟩:=t75 hz2
  rw[←h]
  exact⟨x,rfl,(s49 hb).2.1,f1,f2,by rw[f3];exact hz3,by rw[hz];rfl⟩
section
variable {d:u0j} {t:ByteArray} (hd:o5r.wt d≤10000000) (ht:t.size≤1048576)
include hd ht
end
end
section
theorem r3q {d x:u0j} {k:Int} {s:ByteArray} (h:u8h d k s=some x) {j:Int} (hj:j≠k):u0g x j=u0g d j:=by
 have:=(t7m h).2
 subst this
 have hne: ¬k=j:=fun z=>hj z.symm
 unfold u0g
 simp only[s9w,hne,if_false]
theorem r0w:∀ {f:Nat} {d x:u0j} {k at_:Nat} {t:ByteArray},q7m f d k at_ t=some x→at_<64→ ∀j:Nat,¬(k≤j∧j*64<k*64+at_+t.size)→u0g x (j:Int)=u0g d (j:Int)
 | 0,d,x,k,at_,t,h,_,j,_=>by cases h;rfl
 | f+1,d,x,k,at_,t,h,hat,j,hj=>by
  rw[q7m] at h
  split at h
  ·cases h;rfl
  ·rename_i hz
   split at h
   ·cases hw:u8h d (k:Int) ((u0g d (k:Int)).1.extract 0 at_++t.extract 0 (min t.size (64 - at_))++(u0g d (k:Int)).1.extract (at_+min t.size (64 - at_)) 64) with
    | none=>rw[hw] at h;cases h
    | some y=>
     rw[hw] at h
     simp only[zOb] at h
     have hne:j≠k:=fun z=>hj ⟨by omega,by omega⟩
     rw[←r3q hw (j:=(j:Int)) (by omega)]
     refine r0w h (by omega) j (fun z=>hj ?_)
     rw[ByteArray.size_extract] at z
     omega
   ·cases h
theorem p6a {s:List ByteArray} {p:Int×ByteArray} {j:Int} (hp:0≤p.1) (hj0:0≤j) (hj:j.toNat<s.length):rdL Ty.str (s00 s p) j.toNat=if p.1=j then p.2 else rdL Ty.str s j.toNat:=by
 have h' :j.toNat<(s.set p.1.toNat p.2).length:=by rw[List.length_set];exact hj
 have e1:rdL Ty.str (s.set p.1.toNat p.2) j.toNat=(s.set p.1.toNat p.2)[j.toNat] :=y8k (t:=Ty.str) h'
 have e2:rdL Ty.str s j.toNat=s[j.toNat] :=y8k (t:=Ty.str) hj
 show rdL Ty.str (s.set p.1.toNat p.2) j.toNat=_
 rw[e1,e2,List.getElem_set]
 by_cases e:p.1=j
 ·rw[if_pos (by rw[e]),if_pos e]
 ·rw[if_neg (by omega),if_neg e]
theorem q4u {j:Int} (hj0:0≤j) (z:ByteArray):∀(c:List (Int×ByteArray)) (s:List ByteArray) (t:Option ByteArray),(∀p∈c,0≤p.1)→j.toNat<s.length→rdL Ty.str s j.toNat=t.getD z→
 rdL Ty.str (c.foldl s00 s) j.toNat=(c.foldl (fun t p=>if p.1=j then some p.2 else t) t).getD z
 | [],s,t,_,_,h=>h
 | p::c,s,t,hc,hl,h=>by
  rw[List.foldl_cons,List.foldl_cons]
  refine q4u hj0 z c _ _ (fun q hq=>hc q (List.mem_cons_of_mem _ hq)) (by rw[r67];exact hl) ?_
  rw[p6a (hc p (List.mem_cons_self ..)) hj0 hl]
  split
  ·rfl
  ·exact h
theorem t2b {d:u0j} (hk:u1z d=true) (j:Int):u0g (flush d) j=u0g d j:=by
 obtain⟨_,f2,f3⟩:=t75 hk
 obtain⟨k1,k2,k3,k4⟩:=q4q.mp hk
 unfold u0g
 rw[f3]
 split
 ·rename_i hj
  have e1:t2e (flush d).2 j=none:=by rw[f2];rfl
  rw[e1]
  have e2:(flush d).1=d.2.foldl s00 d.1:=by unfold flush;rw[if_pos hk]
  rw[e2]
  have:=q4u hj.1 (rdL Ty.str d.1 j.toNat) d.2 d.1 none (fun p hp=>(k4 p hp).1.1) (by omega) rfl
  show(rdL Ty.str (d.2.foldl s00 d.1) j.toNat,true)=_
  rw[this]
  rfl
 ·rfl
theorem q13 {d d' :u0j} {from_:Int} :∀(m i:Nat) (acc:ByteArray),(∀q:Nat,i≤q→q<i+m→u0g d' (from_+(q:Int))=u0g d (from_+(q:Int)))→r66 d' from_ m i acc=r66 d from_ m i acc
 | 0,i,acc,h=>rfl
 | m+1,i,acc,h=>by
  unfold r66
  rw[h i (by omega) (by omega)]
  split
  ·exact q13 m (i+1) _ (fun q h1 h2=>h q (by omega) (by omega))
  ·rfl
theorem t05 {d d' :u0j} {o:Int} (h:∀q:Nat,q<48→u0g d' (u0e o+(q:Int))=u0g d (u0e o+(q:Int))):u0c d' o=u0c d o:=by
 have h1:t2n d' (u0e o+1) 47=t2n d (u0e o+1) 47:=by
  unfold t2n
  rw[if_pos (by omega),if_pos (by omega)]
  refine q13 _ _ _ (fun q _ hq=> ?_)
  have:=h (q+1) (by simp at hq;omega)
  rw[show u0e o+1+(q:Int)=u0e o+((q+1:Nat):Int) by omega]
  exact this
 have h2:u1c d' o=u1c d o:=by
  unfold u1c u5x
  have:=h 0 (by omega)
  rw[show u0e o+((0:Nat):Int)=u0e o by omega] at this
  rw[this]
 unfold u0c
 rw[h1,h2]
def OnlyArea (a:Int) (d d' :u0j):Prop:= ∀j:Nat,¬(u0e a≤(j:Int)∧(j:Int)<u0e a+48)→u0g d' (j:Int)=u0g d (j:Int)
theorem OnlyArea.other {a o:Int} {d d' :u0j} (h:OnlyArea a d d') (ha:a=0∨a=1) (ho:o=1 - a):u0c d' o=u0c d o:=by
 refine t05 (fun q hq=> ?_)
 have hf:u0e o=1+o*48:=by unfold u0e;rw[if_pos (p7e.mpr (by omega))]
 have hfa:u0e a=1+a*48:=by unfold u0e;rw[if_pos (p7e.mpr ha)]
 obtain⟨j,hj⟩:∃j:Nat,u0e o+(q:Int)=(j:Int):=⟨(u0e o+(q:Int)).toNat,by rcases ha with rfl | rfl<;>omega⟩
 rw[hj]
 exact h j (by rcases ha with rfl | rfl<;>omega)
theorem OnlyArea.trans {a:Int} {d d' e:u0j} (h1:OnlyArea a d d') (h2:OnlyArea a d' e):OnlyArea a d e:=fun j hj=>(h2 j hj).trans (h1 j hj)
theorem OnlyArea.flush {a:Int} {d d' :u0j} (h:OnlyArea a d d') (hk:u1z d' =true):OnlyArea a d (flush d'):=fun j hj=>(t2b hk _).trans (h j hj)
theorem s71 {d x:u0j} {s at_:Int} {t:ByteArray} (h:u6t d s at_ t=some x) {j:Nat} (hj: ¬(s≤(j:Int)∧(j:Int)*64<s*64+at_+(t.size:Int))):u0g x (j:Int)=u0g d (j:Int):=by
 unfold u6t at h
 split at h
 ·rename_i hc
  simp only[Bool.and_eq_true,r21,decide_eq_true_eq] at hc
  refine r0w h (Nat.mod_lt _ (by omega)) j (fun z=>hj ?_)
  omega
 ·cases h
theorem p3g {d x:u0j} {a:Int} {t:ByteArray} (h:t6i d a t=some x):OnlyArea a d x:=by
 have h0:=h
 unfold t6i at h
 split at h
 ·cases h
 ·rename_i hc
  simp only[not_or] at hc
  intro j hj
  refine s71 h (fun z=>hj ?_)
  omega
theorem q4o {d x:u0j} {a n:Int} (h:s9g d a n=some x):OnlyArea a d x:=by
 intro j hj
 refine s71 h (fun z=>hj ?_)
 rw[u4h] at z
 omega
theorem p7v {d y:u0j} {a:Int} {t:ByteArray} (hlen:d.1.length=97) (h:q4x d a t=some y):OnlyArea a d y:=by
 unfold q4x at h
 cases hb:t6i d a t with
 | none=>rw[hb] at h;cases h
 | some x=>
  rw[hb] at h
  simp only[Option.map_some,Option.some.injEq] at h
  obtain⟨z,hz,hz2,hz3⟩:=q5y (n:=s6e d a) hlen hb
  rw[hz] at h
  subst h
  exact(((p3g hb).flush (s49 hb).2.1).trans (q4o hz)).flush hz2
structure Mid (o:Int) (x:u0j):Prop where
 ok:u1z x=true
 len:x.1.length=97
 nil:x.2= []
 other:(u0c x o).2.2=true
theorem Mid.put {a o:Int} {x y:u0j} {t:ByteArray} (h:Mid o x) (ha:a=0∨a=1) (ho:o=1 - a) (hp:q4x x a t=some y):Mid o y:=by
 obtain⟨_,_,_,p1,p2,p3,_⟩:=p54 h.len hp
 exact⟨p1,p3,p2,by rw[(p7v h.len hp).other ha ho];exact h.other⟩
def r20 (a:Int):List ByteArray→u0j→Option u0j
 | [],x=>some x
 | t::l,x=>(q4x x a t).bind (r20 a l)
theorem q4s {a o:Int} (ha:a=0∨a=1) (ho:o=1 - a):∀ {l:List ByteArray} {x y:u0j},Mid o x→r20 a l x=some y→Mid o y
 | [],x,y,h,hy=>by cases hy;exact h
 | t::l,x,y,h,hy=>by
  unfold r20 at hy
  cases hp:q4x x a t with
  | none=>rw[hp] at hy;cases hy
  | some z=>
   rw[hp] at hy
   exact q4s ha ho (h.put ha ho hp) hy
theorem q84 {a o:Int} (ha:a=0∨a=1) (ho:o=1 - a) (jk:u0j) (list:List ByteArray) (hl:list.length≤1048576) (hs:∀t∈list,t.size≤1048576):∀(r i:Nat) (x:u0j),i+r=list.length→Mid o x→
 ∃q,t0n (list,jk,a,x,true,(i:Int))=some (.inl (jk,q))∧(match r20 a (list.drop i) x with
  | some y=>q=(y,true)
  | none=>q.2=false)
 | 0,i,x,hi,hm=>by
  have:i=list.length:=by omega
  subst this
  rw[t9d]
  simp only[u98,u0b,Nat.lt_irrefl,decide_false,cond_false,List.drop_length,r20,zOb]
  exact⟨_,rfl,rfl⟩
 | r+1,i,x,hi,hm=>by
  have h:i<list.length:=by omega
  have hw:=t6j hm.ok
  have hts:=hs list[i] (List.getElem_mem h)
  have hr:rdL Ty.str list i=list[i] :=y8k (t:=Ty.str) h
  rw[t9d,List.drop_eq_getElem_cons h]
  simp only[u98,u0b,h,decide_true,cond_true,y7t h,zTn,hr,q9c x a list[i] (by omega) hts hm.len,zOb,r20]
  rw[y7l (by omega)]
  cases hp:q4x x a list[i] with
  | none=>
   simp only[orD,Option.bind_none]
   rw[t9d]
   simp only[u98,u0b]
   cases decide (i+1<list.length)<;>exact⟨_,rfl,rfl⟩
  | some y=>
   simp only[orD,zOb]
   exact q84 ha ho jk list hl hs r (i+1) y (by omega) (hm.put ha ho hp)
end
section
def u6h (d:u0j):Int:=1 - u0y d
theorem t7f (d:u0j):(u6h d=0∨u6h d=1)∧u0y d=1 - u6h d:=by
 unfold u6h
 have:=t5i d
 omega
def s3r (d:u0j):u0j:=flush (orD d (s9g d (u6h d) 0)).1
def r01 (d:u0j) (l:List ByteArray):Option u0j:=if u45 d then r20 (u6h d) l (s3r d) else none
def p4d (x:u0j):Option u0j:=u6t x 0 0 (t7b (IntKind.i64.wrap (u5x x 0+1)))
def s97 (d:u0j) (l:List ByteArray):Option u0j:=(r01 d l).map fun x=>flush (orD x (p4d x)).1
theorem q8g {d:u0j} (hl:u45 d=true) (a n:Int):∃z,s9g d a n=some z∧u1z z=true∧z.1.length=97:=by
 obtain⟨h1,h2,h3,_⟩:=u6w hl
 have ha:=s1r a
 have ho:=r32 (s:=u0e a) h1 h3 (by omega) (by omega) (u4h n)
 have:=u7v ho
 exact⟨_,ho,this.2.1,by rw[this.2.2];exact h2⟩
theorem q82 {d:u0j} (hl:u45 d=true):Mid (u0y d) (s3r d):=by
 obtain⟨z,hz,hz2,hz3⟩:=q8g hl (u6h d) 0
 obtain⟨a1,a2⟩:=t7f d
 obtain⟨h1,h2,h3,h4,h5⟩:=u6w hl
 obtain⟨f1,f2,f3⟩:=t75 hz2
 have e:s3r d=flush z:=by unfold s3r;rw[hz];rfl
 have hr:(u0c d (u0y d)).2.2=true:=by
  rcases t5i d with h | h<;>rw[h] <;>assumption
 rw[e]
 exact⟨f1,by rw[f3];exact hz3,f2,by rw[((q4o hz).flush hz2).other a1 a2];exact hr⟩
theorem p9t {x:u0j} {o:Int} (h:Mid o x):∃y,p4d x=some y∧u1z y=true:=by
 have ho:=r32 (s:=0) h.ok h.nil (by omega) (by rw[h.len];omega) (u4h (IntKind.i64.wrap (u5x x 0+1)))
 exact⟨_,ho,(u7v ho).2.1⟩
section
variable {d:u0j} {l:List ByteArray} (hd:o5r.wt d≤10000000) (hl:l.length≤1048576) (hs:∀t∈l,t.size≤1048576)
include hd hl hs
omit hd hl hs in
theorem p9x:IntKind.i64.wrap ((1:Int) - u0y d)=u6h d:=by
 unfold u6h
 have:=t5i d
 rw[y4y (by omega) (by omega)]
omit hd hl hs in
theorem p5h {x:u0j} (h:r01 d l=some x):u45 d=true∧Mid (u0y d) x:=by
 unfold r01 at h
 split at h
 ·rename_i hlo
  obtain⟨a1,a2⟩:=t7f d
  exact⟨hlo,q4s a1 a2 (q82 hlo) h⟩
 ·cases h
theorem q9b (hlo:u45 d=true):∃q,s21 (d,l)=some q∧(match r01 d l with
 | some y=>q=(y,true)
 | none=>q.2=false):=by
 obtain⟨z,hz,hz2,hz3⟩:=q8g hlo (u6h d) 0
 have hzw:=t6j hz2
 obtain⟨a1,a2⟩:=t7f d
 have e:flush z=s3r d:=by unfold s3r;rw[hz];rfl
 obtain⟨q,L,hq⟩:=q84 a1 a2 ([], []) l hl hs l.length 0 (s3r d) (by omega) (q82 hlo)
 have L:t0n (l,([], []),u6h d,s3r d,true,0)=_:=L
 rw[List.drop_zero] at hq
 refine⟨q,?_,by unfold r01;rw[hlo,if_pos rfl];exact hq⟩
 rw[q3l];unfold r2i
 simp only[s4y d (by unfold u0p;omega),p9x (d:=d),q1o d _ _ (by omega),zOb,hz,orD,t7p z (by omega),e,L]
omit hd hl hs in
theorem p3s (x:u0j) (hx:o5r.wt x≤10000000):s22 x=some (orD x (p4d x)):=by
 rw[q3m];unfold r2j
 have h1:∀n,t60 n=some (t7b n):=fun n=>by rw[r5l];rfl
 simp only[s9j x 0 (by unfold u0p;omega),h1,zOb,s0b x 0 0 (t7b (IntKind.i64.wrap (u5x x 0+1))) (by omega) (by rw[u4h];omega)]
 rfl
theorem q2i:t89 (d,l)=some (orD d (s97 d l)):=by
 rw[r9d];unfold s59 s97
 simp only[q4g d (by omega),t2q d (by unfold u0p;omega),zOb]
 cases hlo:u45 d with
 | false=>
  have:r01 d l=none:=by unfold r01;rw[hlo];rfl
  rw[this]
  rfl
 | true=>
  obtain⟨q,hq,hq2⟩:=q9b hd hl hs hlo
  simp only[Bool.not_true,cond_false,hq,zOb]
  cases hf:r01 d l with
  | none=>
   rw[hf] at hq2
   simp only at hq2
   simp only[hq2,Bool.not_false,cond_true]
   rfl
  | some x=>
   rw[hf] at hq2
   simp only at hq2
   subst hq2
   obtain⟨_,hm⟩:=p5h hf
   have hx:=t6j hm.ok
   obtain⟨y,hy,hy2⟩:=p9t hm
   have hyw:=t6j hy2
   simp only[orD,Bool.not_true,cond_false,p3s x (by omega),hy,zOb,t7p y (by omega),Option.map_some]
def t19 (d:u0j) (l:List ByteArray) (step:Int) (keep:List Int) (tear:Int):u0j:=
 match r01 d l with
 | none=>d
 | some x=>
  if step=0 then s1c (orD d (s9g d (u6h d) 0)).1 keep tear
  else if step=1 then x
  else if step=2 then s1c (orD x (p4d x)).1 keep tear
  else flush (orD x (p4d x)).1
end
end
section
def s5d (s:ByteArray) (i:Nat):UInt8:=s.data.toList.getD i 0
theorem u9v (a b:ByteArray) (i:Nat):s5d (a++b) i=if i<a.size then s5d a i else s5d b (i - a.size):=by
 unfold s5d
 have hs:a.size=a.data.toList.length:=by simp only[Array.length_toList];rfl
 rw[ByteArray.data_append,Array.toList_append,List.getD_eq_getElem?_getD,hs]
 split
 ·rename_i h
  rw[List.getElem?_append_left h,List.getD_eq_getElem?_getD]
 ·rename_i h
  rw[List.getElem?_append_right (Nat.le_of_not_lt h),List.getD_eq_getElem?_getD]
theorem u5y (a:ByteArray) (b e i:Nat):s5d (a.extract b e) i=if i<min e a.size - b then s5d a (b+i) else 0:=by
 unfold s5d
 have hd:(a.extract b e).data.toList=(a.data.toList.drop b).take (min e a.size - b):=by
  have hs:a.size=a.data.toList.length:=by simp only[Array.length_toList];rfl
  rw[ByteArray.data_extract]
  rw[Array.toList_extract,List.extract_eq_take_drop]
  apply List.ext_getElem?
  intro n
  rw[List.getElem?_take,List.getElem?_take,List.getElem?_drop]
  split<;>split<;>first | rfl | skip
  ·rename_i h1 h2
   rw[List.getElem?_eq_none (by omega)]
  ·rename_i h1 h2
   rw[List.getElem?_eq_none (by omega)]
 rw[hd,List.getD_eq_getElem?_getD,List.getElem?_take]
 split
 ·rw[List.getElem?_drop,List.getD_eq_getElem?_getD]
 ·rfl
theorem r9r {a b:ByteArray} (hs:a.size=b.size) (h:∀i,i<a.size→s5d a i=s5d b i):a=b:=by
 have ha:a.size=a.data.toList.length:=by simp only[Array.length_toList];rfl
 have hb:b.size=b.data.toList.length:=by simp only[Array.length_toList];rfl
 have:a.data.toList=b.data.toList:=by
  apply List.ext_getElem (by omega)
  intro i h1 h2
  have:=h i (by omega)
  unfold s5d at this
  rw[List.getD_eq_getElem?_getD,List.getD_eq_getElem?_getD,List.getElem?_eq_getElem h1,List.getElem?_eq_getElem h2] at this
  exact this
 apply ByteArray.ext
 apply Array.ext'
 exact this
theorem q7f {d x:u0j} {k:Int} {s:ByteArray} (h:u8h d k s=some x):u0g x k=(s,true):=by
 obtain⟨h1,h2⟩:=t7m h
 obtain⟨_,_,_,h4⟩:=q4q.mp h1
 subst h2
 have:=(h4 (k,s) (by simp)).1
 have hk:0≤k∧k<(d.1.length:Int):=this
 unfold u0g
 simp only[s9w]
 rw[if_pos hk]
 simp
theorem q5a:∀ {f:Nat} {d x:u0j} {k at_:Nat} {t:ByteArray},q7m f d k at_ t=some x→t.size<f→at_<64→ ∀(j i:Nat),i<64→j<d.1.length→
 s5d (u0g x (j:Int)).1 i=if k*64+at_≤j*64+i∧j*64+i<k*64+at_+t.size then s5d t (j*64+i - (k*64+at_)) else s5d (u0g d (j:Int)).1 i
 | 0,d,x,k,at_,t,h,hf,_,j,i,_,_=>by omega
 | f+1,d,x,k,at_,t,h,hf,hat,j,i,hi,hj=>by
  rw[q7m] at h
  split at h
  ·rename_i hz
   cases h
   rw[if_neg (by omega)]
  ·rename_i hz
   split at h
   ·rename_i hrd
    cases hw:u8h d (k:Int) ((u0g d (k:Int)).1.extract 0 at_++t.extract 0 (min t.size (64 - at_))++(u0g d (k:Int)).1.extract (at_+min t.size (64 - at_)) 64) with
    | none=>rw[hw] at h;cases h
    | some y=>
     rw[hw] at h
     simp only[zOb] at h
     obtain⟨n,hn⟩:∃n,n=min t.size (64 - at_):=⟨_,rfl⟩
     rw[←hn] at h hw
     have hyl:y.1.length=d.1.length:=by rw[(t7m hw).2]
     have hsz:(t.extract n t.size).size=t.size - n:=by rw[ByteArray.size_extract];omega
     have ih:=q5a h (by omega) (by omega) j i hi (by omega)
     rw[ih,hsz]
     by_cases hjk:j=k
     ·subst hjk
      rw[if_neg (by omega),q7f hw]
      simp only
      rw[u9v,u9v,u5y,u5y,u5y]
      simp only[ByteArray.size_append,ByteArray.size_extract,hrd.2]
      by_cases h1:i<at_
      ·have e1:i<min at_ 64 - 0:=by omega
       rw[if_pos (by omega),if_pos e1,if_pos e1,if_neg (by omega),Nat.zero_add]
      ·by_cases h2:i<at_+n
       ·rw[if_pos (by omega),if_neg (by omega),if_pos (by omega),if_pos (by omega)]
        congr 1
        omega
       ·rw[if_neg (by omega),if_pos (by omega),if_neg (by omega)]
        congr 1
        omega
     ·have hfr:u0g y (j:Int)=u0g d (j:Int):=r3q hw (by omega)
      rw[hfr]
      by_cases h1:(k+1)*64+0≤j*64+i∧j*64+i<(k+1)*64+0+(t.size - n)
      ·rw[if_pos h1,if_pos (by omega),u5y,if_pos (by omega)]
       congr 1
       omega
      ·rw[if_neg h1,if_neg (by omega)]
   ·cases h
end
section
theorem q90 (a:ByteArray):a.size=a.data.toList.length:=by simp only[Array.length_toList];rfl
theorem r5o {a:ByteArray} {i:Nat} (h:i<a.size):a.data.toList[i]? =some (s5d a i):=by
 unfold s5d
 rw[q90] at h
 rw[List.getD_eq_getElem?_getD,List.getElem?_eq_getElem h]
 rfl
theorem q2a:∀ {f i n:Nat} {l l' :List UInt8} {v k:Nat},r03 f i n l=some (v,k)→(∀q,q<k - i→l'[q]? =l[q]?)→r03 f i n l' =some (v,k)
 | 0,_,_,_,_,_,_,h,_=>by cases h
 | _+1,_,_, [],_,_,_,h,_=>by cases h
 | f+1,i,n,b::l,l',v,k,h,hl=>by
  have hk:=(q7c _ _ _ _ _ _ h).2.2
  have h0:=hl 0 (by omega)
  cases l' with
  | nil=>simp at h0
  | cons b' l' =>
   simp only[List.getElem?_cons_zero,Option.some.injEq] at h0
   subst h0
   simp only[r03] at h ⊢
   split at h
   ·rename_i h1
    rw[if_pos h1]
    exact h
   ·rename_i h1
    rw[if_neg h1]
    exact q2a h (fun q hq=>by have:=hl (q+1) (by omega);simpa using this)
theorem q64 {T T' :ByteArray} {at_:Int} (h:(u0t T at_).2.2=true) (hs:T'.size=T.size) (hb:∀q:Nat,(q:Int)<(u0t T at_).2.1→s5d T' q=s5d T q):u0t T' at_=u0t T at_:=by
 have hok:=t5v h
 unfold u0t at h hb hok ⊢
 split at h
 ·rename_i hc
  rw[if_pos hc] at hb hok
  rw[if_pos (by rw[hs];exact hc),if_pos hc]
  cases hv:r03 5 0 0 (T.data.toList.drop at_.toNat) with
  | none=>rw[hv] at h;cases h
  | some r=>
   obtain⟨v,k⟩:=r
   rw[hv] at hb hok
   simp only[q19] at hb hok
   rw[q2a hv (fun q hq=>by
    have hlt:at_.toNat+q<T.size:=by omega
    rw[List.getElem?_drop,List.getElem?_drop,r5o (by omega),r5o hlt,hb (at_.toNat+q) (by omega)])]
 ·cases h
theorem r3d {T:ByteArray} {at_:Int} (h:(u0o T at_).2.2=true):0≤at_∧at_<(u0o T at_).2.1∧(u0o T at_).2.1≤T.size:=by
 have h2:=s92 h
 unfold u0o at h h2 ⊢
 split at h
 ·rename_i hc
  rw[if_pos hc] at h2
  rw[if_pos hc]
  have:=t5v hc.1
  simp only at h2 ⊢
  omega
 ·cases h
theorem q10 {T T' :ByteArray} {at_:Int} (h:(u0o T at_).2.2=true) (hs:T'.size=T.size) (hb:∀q:Nat,(q:Int)<(u0o T at_).2.1→s5d T' q=s5d T q):u0o T' at_=u0o T at_:=by
 have hn:=r3d h
 unfold u0o at h hb hn ⊢
 split at h
 ·rename_i hc
  rw[if_pos hc] at hb hn
  simp only at hb hn
  have hok:=t5v hc.1
  have e:u0t T' at_=u0t T at_:=q64 hc.1 hs (fun q hq=>hb q (by omega))
  rw[e,if_pos (by rw[hs];exact hc),if_pos hc]
  congr 1
  apply r9r
  ·rw[ByteArray.size_extract,ByteArray.size_extract,hs]
  ·intro i hi
   rw[ByteArray.size_extract] at hi
   rw[u5y,u5y,hs]
   split
   ·exact hb _ (by omega)
   ·rfl
 ·cases h
theorem q4k {T:ByteArray} :∀ {m:Nat} {at_:Int} {acc l:List ByteArray} {E:Int},u7p T m at_ acc=(l,E,true)→at_≤E
 | 0,at_,acc,l,E,h=>by unfold u7p at h;cases h;exact Int.le_refl _
 | m+1,at_,acc,l,E,h=>by
  unfold u7p at h
  split at h
  ·rename_i hc
   simp only[Bool.and_eq_true] at hc
   have h1:=(r3d hc.1).2.1
   have h2:=q4k h
   omega
  ·cases h
theorem s9e {T T' :ByteArray} (hs:T'.size=T.size):∀ {m:Nat} {at_:Int} {acc l:List ByteArray} {E:Int},u7p T m at_ acc=(l,E,true)→(∀q:Nat,(q:Int)<E→s5d T' q=s5d T q)→u7p T' m at_ acc=(l,E,true)
 | 0,at_,acc,l,E,h,_=>by unfold u7p at h ⊢;exact h
 | m+1,at_,acc,l,E,h,hb=>by
  unfold u7p at h ⊢
  split at h
  ·rename_i hc
   have hc' :=hc
   simp only[Bool.and_eq_true] at hc'
   have h2:=q4k h
   rw[q10 hc'.1 hs (fun q hq=>hb q (by omega)),if_pos hc]
   exact s9e hs h hb
  ·cases h
theorem q0d {T:ByteArray} {s:ByteArray} {nx:Int} :∀ {m:Nat} {at_:Int} {acc l:List ByteArray} {E:Int},u7p T m at_ acc=(l,E,true)→u0o T E=(s,nx,true)→s.size≠0→u7p T (m+1) at_ acc=(l++ [s],nx,true)
 | 0,at_,acc,l,E,h,hr,hne=>by
  unfold u7p at h
  cases h
  unfold u7p
  have:z7o s emp=false:=by
   have:=r8f (t:=s)
   rw[p8q] at this
   rw[this]
   simpa using hne
  rw[hr]
  simp only[this,Bool.not_false,Bool.and_self,if_true]
  rfl
 | m+1,at_,acc,l,E,h,hr,hne=>by
  unfold u7p at h
  split at h
  ·rename_i hc
   unfold u7p
   rw[if_pos hc]
   exact q0d h hr hne
  ·cases h
def u8s (l:List Int):List UInt8:=l.map fun n=>UInt8.ofNat n.toNat
theorem r7a:∀(f i acc n N:Nat) (r:List UInt8),0<f→n<128^f→acc+n*128^i=N→N≤1000000000→(s1a N).length=i+(s1a n).length→r03 f i acc (u8s (s1a n)++r)=some (N,i+(s1a n).length)
 | 0,i,acc,n,N,r,hf,_,_,_,_=>by omega
 | f+1,i,acc,n,N,r,_,hn,hN,hb,hl=>by
  by_cases h:n<128
  ·rw[r0a h] at hl ⊢
   have e:(UInt8.ofNat ((n:Int)).toNat).toNat=n:=by
    rw[zTn,UInt8.toNat_ofNat']
    omega
   simp only[u8s,List.map_cons,List.map_nil,List.cons_append,List.nil_append,r03,e,h,if_true,List.length_singleton] at hl ⊢
   rw[Nat.mod_eq_of_lt h,hN,if_pos ⟨hb,hl⟩]
  ·rw[r69 h] at hl ⊢
   have e:(UInt8.ofNat (((n % 128+128:Nat):Int)).toNat).toNat=n % 128+128:=by
    rw[zTn,UInt8.toNat_ofNat']
    omega
   have hh: ¬n % 128+128<128:=by omega
   simp only[u8s,List.map_cons,List.cons_append,r03,e,hh,if_false,List.length_cons] at hl ⊢
   have e2:(n % 128+128) % 128=n % 128:=by omega
   rw[e2]
   have:=r7a f (i+1) (acc+n % 128*128^i) (n / 128) N r (by rcases f with _ | f<;>simp at hn ⊢;omega) (by rw[Nat.pow_succ] at hn;omega) (by
    rw[←hN,Nat.pow_succ]
    have:n=n % 128+128*(n / 128):=by omega
    conv=>rhs;rw[this]
    rw[Nat.add_mul]
    have:n / 128*(128^i*128)=128*(n / 128)*128^i:=by rw[Nat.mul_comm (128^i) 128,←Nat.mul_assoc,Nat.mul_comm (n / 128) 128]
    omega) hb (by omega)
   show r03 f (i+1) (acc+n % 128*128^i) (u8s (s1a (n / 128))++r)=_
   rw[this]
   congr 2
   omega
end
section
theorem s01 (l:List Int):(y7g l).data.toList=u8s l:=by
 unfold y7g u8s
 simp
theorem r63 {T t:ByteArray} {E:Nat} (h0:t.size≠0) (h1:t.size≤3008) (hE:E+(u0x t).size≤T.size) (hb:∀q,q<(u0x t).size→s5d T (E+q)=s5d (u0x t) q):
 u0o T (E:Int)=(t,((E+(u0x t).size:Nat):Int),true):=by
 have hsz:(u0x t).size=(s1a t.size).length+t.size:=by unfold u0x;rw[ByteArray.size_append,u60]
 have hlist:(u0x t).data.toList=u8s (s1a t.size)++t.data.toList:=by
  unfold u0x
  rw[ByteArray.data_append,Array.toList_append,s01]
 have hdrop:∃r,T.data.toList.drop E=u8s (s1a t.size)++r:=by
  refine⟨(T.data.toList.drop E).drop (u8s (s1a t.size)).length,?_⟩
  have:(T.data.toList.drop E).take (u8s (s1a t.size)).length=u8s (s1a t.size):=by
   apply List.ext_getElem?
   intro q
   rw[List.getElem?_take]
   split
   ·rename_i hq
    have hq' :q<(s1a t.size).length:=by simpa[u8s] using hq
    rw[List.getElem?_drop,r5o (by omega),hb q (by omega),←r5o (by omega),hlist,List.getElem?_append_left hq]
   ·rename_i hq
    rw[List.getElem?_eq_none (Nat.le_of_not_lt hq)]
  conv=>lhs;rw[←List.take_append_drop (u8s (s1a t.size)).length (T.data.toList.drop E)]
  rw[this]
 obtain⟨r,hr⟩:=hdrop
 have hv:=r7a 5 0 0 t.size t.size r (by omega) (by omega) (by simp) (by omega) (by omega)
 have hread:u0t T (E:Int)=((t.size:Int),(E:Int)+((s1a t.size).length:Int),true):=by
  unfold u0t
  rw[if_pos (by omega),zTn,hr,hv]
  simp[q19]
 unfold u0o
 rw[hread]
 simp only
 rw[if_pos (by simp only[true_and];omega)]
 have e1:((E:Int)+((s1a t.size).length:Int)).toNat=E+(s1a t.size).length:=by omega
 have e2:((E:Int)+((s1a t.size).length:Int)+(t.size:Int)).toNat=E+(s1a t.size).length+t.size:=by omega
 rw[e1,e2]
 have et:T.extract (E+(s1a t.size).length) (E+(s1a t.size).length+t.size)=t:=by
  apply r9r
  ·rw[ByteArray.size_extract];omega
  ·intro i hi
   rw[ByteArray.size_extract] at hi
   rw[u5y,if_pos (by omega)]
   have:=hb ((s1a t.size).length+i) (by omega)
   rw[show E+(s1a t.size).length+i=E+((s1a t.size).length+i) by omega,this]
   unfold u0x
   rw[u9v,if_neg (by rw[u60];omega),u60]
   congr 1
   omega
 rw[et]
 congr 2
 rw[hsz]
 omega
def o25 (d:u0j):Prop:= ∀k:Nat,k<97→(u0g d (k:Int)).2=true∧(u0g d (k:Int)).1.size=64
theorem s5c {d:u0j} (hk:u1z d=true) (hl:d.1.length=97):o25 d:=by
 intro k hlt
 obtain⟨k1,k2,k3,k4⟩:=q4q.mp hk
 have hc:(0:Int)≤(k:Int)∧(k:Int)<(d.1.length:Int):=by omega
 unfold u0g
 rw[if_pos hc]
 refine⟨rfl,?_⟩
 cases hp:t2e d.2 (k:Int) with
 | none=>
  have hlt' :k<d.1.length:=by omega
  have e:rdL Ty.str d.1 k=d.1[k] :=y8k (t:=Ty.str) hlt'
  simp only[Option.getD_none,zTn]
  rw[e]
  exact k3 _ (List.getElem_mem hlt')
 | some s=>
  obtain⟨p,hp1,hp2⟩:=r30 hp
  simp only[Option.getD_some]
  rw[←hp2]
  exact(k4 p hp1).2
theorem q12 {d:u0j} {F:Nat} (h:∀q:Nat,q<47→(u0g d ((F+q:Nat):Int)).2=true∧(u0g d ((F+q:Nat):Int)).1.size=64):∀(m i:Nat) (acc:ByteArray),i+m≤47→
 ∃T,r66 d (F:Int) m i acc=(T,true)∧T.size=acc.size+64*m∧ ∀j,j<T.size→s5d T j=if j<acc.size then s5d acc j else s5d (u0g d ((F+i+(j - acc.size) / 64:Nat):Int)).1 ((j - acc.size) % 64)
 | 0,i,acc,_=>⟨acc,rfl,by omega,fun j hj=>by rw[if_pos hj]⟩
 | m+1,i,acc,hm=>by
  have hq:=h i (by omega)
  have e:(F:Int)+(i:Int)=((F+i:Nat):Int):=by omega
  obtain⟨T,t1,t2,t3⟩:=q12 h m (i+1) (acc++(u0g d ((F+i:Nat):Int)).1) (by omega)
  refine⟨T,?_,?_,fun j hj=> ?_⟩
  ·unfold r66
   rw[e,if_pos hq.1]
   exact t1
  ·rw[t2,ByteArray.size_append,hq.2];omega
  ·rw[t3 j hj,ByteArray.size_append,hq.2,u9v]
   by_cases h1:j<acc.size
   ·rw[if_pos (by omega),if_pos h1,if_pos h1]
   ·rw[if_neg h1,if_neg h1]
    by_cases h2:j<acc.size+64
    ·rw[if_pos h2]
     have z1:(j - acc.size) / 64=0:=by omega
     have z2:(j - acc.size) % 64=j - acc.size:=by omega
     rw[z1,z2,Nat.add_zero]
    ·rw[if_neg h2]
     have z1:F+(i+1)+(j - (acc.size+64)) / 64=F+i+(j - acc.size) / 64:=by omega
     have z2:(j - (acc.size+64)) % 64=(j - acc.size) % 64:=by omega
     rw[z1,z2]
def s3s (a:Int):Nat:=(u0e a+1).toNat
def s48 (d:u0j) (a:Int):ByteArray:=(t2n d (u0e a+1) 47).1
theorem u7b {d:u0j} (hf:o25 d) {a:Int} (ha:a=0∨a=1):t2n d (u0e a+1) 47=(s48 d a,true)∧(s48 d a).size=3008∧ ∀j,j<3008→s5d (s48 d a) j=s5d (u0g d ((s3s a+j / 64:Nat):Int)).1 (j % 64):=by
 have hfa:u0e a=1+a*48:=by unfold u0e;rw[if_pos (p7e.mpr ha)]
 have hF:(u0e a+1:Int)=((s3s a:Nat):Int):=by unfold s3s;rcases ha with rfl | rfl<;>omega
 have hb:s3s a+47≤97:=by unfold s3s;rcases ha with rfl | rfl<;>omega
 obtain⟨T,t1,t2,t3⟩:=q12 (d:=d) (F:=s3s a) (fun q hq=>hf (s3s a+q) (by omega)) 47 0 emp (by omega)
 have he:emp.size=0:=rfl
 have hs:t2n d (u0e a+1) 47=(T,true):=by
  unfold t2n
  rw[if_pos (by omega),hF]
  exact t1
 have hT:s48 d a=T:=by unfold s48;rw[hs]
 rw[hT]
 rw[he] at t2 t3
 refine⟨hs,by omega,fun j hj=> ?_⟩
 rw[t3 j (by omega),if_neg (by omega),Nat.add_zero,Nat.sub_zero]
theorem u9x {d:u0j} (hf:o25 d) {a:Int} (ha:a=0∨a=1):u0c d a=u7p (s48 d a) (u1c d a).toNat 0 [] :=by
 have h:=(u7b hf ha).1
 have hi:p3q a=true:=p7e.mpr ha
 unfold u0c
 rw[h,hi]
 rfl
end
section
theorem p17 {a b:ByteArray} (h:a.data.toList=b.data.toList):a=b:=by
 apply ByteArray.ext
 exact Array.toList_inj.mp h
theorem q0e (a b:ByteArray):(a++b).data.toList=a.data.toList++b.data.toList:=by rw[ByteArray.data_append,Array.toList_append]
theorem t9v (a b c:ByteArray):a++b++c=a++(b++c):=p17 (by simp only[q0e,List.append_assoc])
theorem p5g (a:ByteArray):emp++a=a:=p17 (by rw[q0e];rfl)
theorem p5a (a:ByteArray):a++emp=a:=p17 (by rw[q0e];simp[emp])
theorem r3u (a:ByteArray):a.size=a.data.toList.length:=q90 a
def r55 (n:Int):ByteArray:=y7g (s1a n.toNat)
def p3i (b:Bool):ByteArray:=y7g [if b then 1 else 0]
def q2e {E:Type} (f:E→ByteArray) (l:List E):ByteArray:=l.foldl (fun s x=>s++f x) emp
def p34 (r:s28):ByteArray:=u0x r.1++u0x r.2
def wrT (w:WrT):ByteArray:=u0x w.1++(u0x w.2.1++p3i w.2.2)
def p4g (v:u2j):ByteArray:=u0x v.1++(u0x v.2.1++(p3i v.2.2.1++r55 v.2.2.2))
def t66 (t:u0d):ByteArray:=
 r55 t.1++(r55 t.2.1++(r55 t.2.2.1++(r55 t.2.2.2.1++(r55 (t.2.2.2.2.1.length:Int)++(q2e p34 t.2.2.2.2.1++(r55 (t.2.2.2.2.2.1.length:Int)++(q2e wrT t.2.2.2.2.2.1++(p3i t.2.2.2.2.2.2.1++u0x t.2.2.2.2.2.2.2))))))))
def r8h (l:List u0d):ByteArray:=r55 (l.length:Int)++q2e t66 l
def s0d (b:u0h):ByteArray:=r55 b.2.2.2.1++(r55 b.2.2.2.2++(r55 (b.1.length:Int)++(q2e p4g b.1++(r8h b.2.1++r8h b.2.2.1))))
theorem r5d {E:Type} (f:E→ByteArray):∀(l:List E) (s:ByteArray),l.foldl (fun s x=>s++f x) s=s++q2e f l
 | [],s=>(p5a s).symm
 | x::l,s=>by
  rw[List.foldl_cons,r5d f l]
  unfold q2e
  rw[List.foldl_cons,r5d f l (emp++f x),p5g,t9v]
  rfl
theorem q8e {E:Type} (f:E→ByteArray) (x:E) (l:List E):q2e f (x::l)=f x++q2e f l:=by
 unfold q2e
 rw[List.foldl_cons,r5d,p5g]
 rfl
theorem p2a {E:Type} (f:E→ByteArray):q2e f [] =emp:=rfl
def t3z (T:ByteArray) (a:Nat) (s:ByteArray):Prop:= ∃r,T.data.toList.drop a=s.data.toList++r
theorem o0g {T:ByteArray} {a:Nat} {s u:ByteArray} :t3z T a (s++u)↔t3z T a s∧t3z T (a+s.size) u:=by
 unfold t3z
 rw[q0e,r3u s]
 constructor
 ·rintro⟨r,h⟩
  refine⟨⟨u.data.toList++r,by rw[h,List.append_assoc]⟩,r,?_⟩
  rw[←List.drop_drop,h,List.append_assoc,List.drop_left]
 ·rintro⟨⟨r,h⟩,r',h'⟩
  rw[←List.drop_drop,h,List.drop_left] at h'
  exact⟨r',by rw[h,h',List.append_assoc]⟩
theorem r5z {T:ByteArray} {a:Nat} {s:ByteArray} (h:t3z T a s) (hs:s.size≠0):a+s.size≤T.size:=by
 obtain⟨r,h⟩:=h
 have:=congrArg List.length h
 rw[List.length_drop,List.length_append,←r3u,←r3u] at this
 omega
theorem p38 {a s b:ByteArray} :t3z (a++s++b) a.size s:=⟨b.data.toList,by rw[q0e,q0e,r3u,List.append_assoc,List.drop_left]⟩
theorem s03 (n:Int):(r55 n).size=(s1a n.toNat).length:=u60 _
theorem r54 (n:Nat):0<(s1a n).length:=by
 by_cases h:n<128
 ·rw[r0a h];simp
 ·rw[r69 h];simp
theorem r3e {T:ByteArray} {a:Nat} {n:Int} (h0:0≤n) (hn:n≤1000000000) (h:t3z T a (r55 n)):u0t T (a:Int)=(n,((a+(r55 n).size:Nat):Int),true):=by
 have hle:=r5z h (by rw[s03];have:=r54 n.toNat;omega)
 obtain⟨r,h⟩:=h
 unfold r55 at h
 rw[s01] at h
 have hv:=r7a 5 0 0 n.toNat n.toNat r (by omega) (by omega) (by simp) (by omega) (by omega)
 unfold u0t
 rw[if_pos (by omega),zTn,h,hv]
 simp only[q19]
 rw[s03]
 congr 1
 ·omega
 ·congr 1
  omega
theorem r9j {T:ByteArray} {a:Nat} {s:ByteArray} (hs:s.size≤20000) (h:t3z T a (u0x s)):u0o T (a:Int)=(s,((a+(u0x s).size:Nat):Int),true):=by
 have e:u0x s=r55 (s.size:Int)++s:=rfl
 rw[e] at h
 obtain⟨h1,h2⟩:=o0g.mp h
 have hv:=r3e (by omega) (by omega) h1
 have hle1:=r5z h1 (by rw[s03];have:=r54 (s.size:Int).toNat;omega)
 unfold u0o
 rw[hv]
 have hle:a+(r55 (s.size:Int)).size+s.size≤T.size:=by
  by_cases q:s.size=0
  ·omega
  ·exact r5z h2 q
 rw[if_pos (by simp only[true_and];omega)]
 have hx:T.extract (((a+(r55 (s.size:Int)).size:Nat):Int)).toNat ((((a+(r55 (s.size:Int)).size:Nat):Int)+(s.size:Int))).toNat=s:=by
  rw[zTn,show(((a+(r55 (s.size:Int)).size:Nat):Int)+(s.size:Int)).toNat=a+(r55 (s.size:Int)).size+s.size by omega]
  rw[r77 _ _ _ hle]
  obtain⟨r,hr⟩:=h2
  rw[hr,Nat.add_sub_cancel_left,r3u,List.take_left]
 simp only[hx]
 rw[e,ByteArray.size_append]
 congr 2
 omega
abbrev Cur:=Int×Bool
def u5i (s:ByteArray) (c:Cur):Int×Cur:=if c.2=true∨(u0t s c.1).2.2=false then(0,c.1,true) else((u0t s c.1).1,(u0t s c.1).2.1,false)
def u28 (s:ByteArray) (c:Cur):ByteArray×Cur:=if c.2=true∨(u0o s c.1).2.2=false then(emp,c.1,true) else((u0o s c.1).1,(u0o s c.1).2.1,false)
def t35 (s:ByteArray) (i:Nat):Nat:=(s.data.toList.getD i 0).toNat
def q1v (s:ByteArray) (c:Cur):Bool×Cur:=if c.2=true∨ ¬(0≤c.1∧c.1<(s.size:Int))∨1<t35 s c.1.toNat then(false,c.1,true) else(decide (t35 s c.1.toNat=1),c.1+1,false)
def u5t {E:Type} (f:Cur→E×Cur):Nat→Cur→List E→List E×Cur
 | 0,c,a=>(a,c)
 | n+1,c,a=>if c.2=true then(a,c) else u5t f n (f c).2 (a++ [(f c).1])
def p2n (s:ByteArray) (c:Cur):s28×Cur:=(((u28 s c).1,(u28 s (u28 s c).2).1),(u28 s (u28 s c).2).2)
def rWr (s:ByteArray) (c:Cur):WrT×Cur:=
 (((u28 s c).1,(u28 s (u28 s c).2).1,(q1v s (u28 s (u28 s c).2).2).1),(q1v s (u28 s (u28 s c).2).2).2)
def p2p (s:ByteArray) (c:Cur):u2j×Cur:=
 let w:=rWr s c
 ((w.1.1,w.1.2.1,w.1.2.2,(u5i s w.2).1),(u5i s w.2).2)
def q36 (m:Nat) (s:ByteArray) (c:Cur):u0d×Cur:=
 let a:=u5i s c
 let b:=u5i s a.2
 let d:=u5i s b.2
 let e:=u5i s d.2
 let n:=u5i s e.2
 let rs:=u5t (p2n s) (min n.1.toNat m) n.2 []
 let k:=u5i s rs.2
 let ws:=u5t (rWr s) (min k.1.toNat m) k.2 []
 let o:=q1v s ws.2
 let nm:=u28 s o.2
 ((a.1,b.1,d.1,e.1,rs.1,ws.1,o.1,nm.1),nm.2)
theorem u9w {s:ByteArray} {c:Cur} (h:c.2=true):(u5i s c).2.2=true:=by unfold u5i;rw[if_pos (.inl h)]
theorem s4c {s:ByteArray} {c:Cur} (h:c.2=true):(u28 s c).2.2=true:=by unfold u28;rw[if_pos (.inl h)]
theorem r5w {s:ByteArray} {c:Cur} (h:c.2=true):(q1v s c).2.2=true:=by unfold q1v;rw[if_pos (.inl h)]
theorem t4e {E:Type} {f:Cur→E×Cur} {n:Nat} {c:Cur} {a:List E} (h:c.2=true):u5t f n c a=(a,c):=by
 cases n with
 | zero=>rfl
 | succ n=>simp only[u5t];rw[if_pos h]
theorem q9q {E:Type} {f:Cur→E×Cur} :∀ {n:Nat} {c:Cur} {a:List E},(u5t f n c a).2.2=false→(u5t f n c a).1.length=a.length+n
 | 0,c,a,_=>rfl
 | n+1,c,a,h=>by
  simp only[u5t] at h ⊢
  split at h
  ·rename_i q;rw[q] at h;cases h
  ·rename_i q
   rw[if_neg q,q9q h]
   simp;omega
theorem u6z {s:ByteArray} {a:Nat} {n:Int} (h0:0≤n) (hn:n≤1000000000) (h:t3z s a (r55 n)):u5i s ((a:Int),false)=(n,((a+(r55 n).size:Nat):Int),false):=by
 unfold u5i
 rw[r3e h0 hn h,if_neg (by simp)]
theorem t5u {s:ByteArray} {a:Nat} {x:ByteArray} (hx:x.size≤20000) (h:t3z s a (u0x x)):u28 s ((a:Int),false)=(x,((a+(u0x x).size:Nat):Int),false):=by
 unfold u28
 rw[r9j hx h,if_neg (by simp)]
theorem u6e (b:Bool):(p3i b).size=1:=u60 _
theorem r34 {s:ByteArray} {a:Nat} {b:Bool} (h:t3z s a (p3i b)):q1v s ((a:Int),false)=(b,((a+1:Nat):Int),false):=by
 have hle:=r5z h (by rw[u6e];omega)
 rw[u6e] at hle
 obtain⟨r,hr⟩:=h
 unfold p3i at hr
 rw[s01] at hr
 have hb:t35 s a=if b then 1 else 0:=by
  unfold t35
  have:s.data.toList.getD a 0=(s.data.toList.drop a).getD 0 0:=by
   rw[List.getD_eq_getElem?_getD,List.getD_eq_getElem?_getD,List.getElem?_drop,Nat.add_zero]
  rw[this,hr]
  cases b<;>rfl
 unfold q1v
 simp only[zTn,hb]
 rw[if_neg]
 ·cases b<;>simp
 ·rintro(q | q | q)
  ·cases q
  ·omega
  ·cases b<;>simp at q
theorem t8x {E:Type} {f:Cur→E×Cur} {g:E→ByteArray} {s:ByteArray} :∀ {l:List E} {a:Nat} {acc:List E},(∀x∈l,∀a:Nat,t3z s a (g x)→f ((a:Int),false)=(x,((a+(g x).size:Nat):Int),false))→
 t3z s a (q2e g l)→u5t f l.length ((a:Int),false) acc=(acc++l,((a+(q2e g l).size:Nat):Int),false)
 | [],a,acc,_,_=>by rw[p2a];simp[u5t,emp,ByteArray.size]
 | x::l,a,acc,hf,h=>by
  rw[q8e] at h ⊢
  obtain⟨h1,h2⟩:=o0g.mp h
  have e:=hf x (by simp) a h1
  simp only[List.length_cons,u5t]
  rw[if_neg (by simp),e]
  rw[t8x (l:=l) (fun y hy=>hf y (by simp[hy])) h2,ByteArray.size_append]
  simp[Nat.add_assoc]
theorem p1l {s:ByteArray} {a:Nat} {r:s28} (h1:r.1.size≤20000) (h2:r.2.size≤20000) (h:t3z s a (p34 r)):p2n s ((a:Int),false)=(r,((a+(p34 r).size:Nat):Int),false):=by
 obtain⟨k1,k2⟩:=o0g.mp h
 unfold p2n
 rw[t5u h1 k1]
 simp only
 rw[t5u h2 k2]
 unfold p34
 rw[ByteArray.size_append,Nat.add_assoc]
theorem q4z {s:ByteArray} {a:Nat} {w:WrT} (h1:w.1.size≤20000) (h2:w.2.1.size≤20000) (h:t3z s a (wrT w)):rWr s ((a:Int),false)=(w,((a+(wrT w).size:Nat):Int),false):=by
 obtain⟨k1,k2⟩:=o0g.mp h
 obtain⟨k2,k3⟩:=o0g.mp k2
 unfold rWr
 rw[t5u h1 k1]
 simp only
 rw[t5u h2 k2]
 simp only
 rw[r34 k3]
 unfold wrT
 rw[ByteArray.size_append,ByteArray.size_append,u6e,Nat.add_assoc,Nat.add_assoc]
theorem p1n {s:ByteArray} {a:Nat} {v:u2j} (h1:v.1.size≤20000) (h2:v.2.1.size≤20000) (h3:0≤v.2.2.2∧v.2.2.2≤1000000000) (h:t3z s a (p4g v)):p2p s ((a:Int),false)=(v,((a+(p4g v).size:Nat):Int),false):=by
 have e:p4g v=wrT (v.1,v.2.1,v.2.2.1)++r55 v.2.2.2:=by unfold p4g wrT;simp only[t9v]
 rw[e] at h ⊢
 obtain⟨k1,k2⟩:=o0g.mp h
 unfold p2p
 rw[q4z (w:=(v.1,v.2.1,v.2.2.1)) h1 h2 k1]
 simp only
 rw[u6z h3.1 h3.2 k2,ByteArray.size_append,Nat.add_assoc]
theorem TxnR.small {t:u0d} (h:TxnR t):(∀r∈t.2.2.2.2.1,r.1.size≤3∧r.2.size≤3)∧(∀w∈t.2.2.2.2.2.1,w.1.size≤3∧w.2.1.size≤12)∧t.2.2.2.2.2.2.2.size≤3∧t.2.2.2.2.2.1.length≤8∧0≤t.2.2.2.1∧t.2.2.2.1≤9999:=by
 obtain⟨w1,w2,w3⟩:=p8y.mp h.ws
 refine⟨fun r hr=> ?_,fun w hw=> ?_,?_,w3,?_⟩
 ·have:=h.rs r hr
  unfold u5m at this
  rw[Bool.and_eq_true,Bool.and_eq_true] at this
  exact⟨(u3e this.1).2,(u3e this.2.1).2⟩
 ·have:=w1 w hw
  unfold u52 at this
  rw[Bool.and_eq_true,Bool.and_eq_true,decide_eq_true_eq] at this
  exact⟨(u3e this.1).2,this.2.1⟩
 ·by_cases e:t.2.1=2
  ·exact(u3e (h.name e)).2
  ·rw[h.noname e];omega
 ·by_cases e:t.2.1=3
  ·have:=h.done e;have:=h.snap;omega
  ·rw[h.nocs e];omega
theorem p1m {s:ByteArray} {a:Nat} {t:u0d} {m:Nat} (hm:8≤m) (ht:TxnR t) (h:t3z s a (t66 t)):q36 m s ((a:Int),false)=(t,((a+(t66 t).size:Nat):Int),false):=by
 obtain⟨z1,z2,z3,z4,z5⟩:=ht.small
 have hi:=ht.id;have hst:=ht.st;have hsn:=ht.snap;have hrl:=ht.rlen
 unfold t66 at h ⊢
 obtain⟨k1,h⟩:=o0g.mp h
 obtain⟨k2,h⟩:=o0g.mp h
 obtain⟨k3,h⟩:=o0g.mp h
 obtain⟨k4,h⟩:=o0g.mp h
 obtain⟨k5,h⟩:=o0g.mp h
 obtain⟨k6,h⟩:=o0g.mp h
 obtain⟨k7,h⟩:=o0g.mp h
 obtain⟨k8,h⟩:=o0g.mp h
 obtain⟨k9,k10⟩:=o0g.mp h
 unfold q36
 rw[u6z (by omega) (by omega) k1]
 simp only
 rw[u6z (by omega) (by omega) k2]
 simp only
 rw[u6z (by omega) (by omega) k3]
 simp only
 rw[u6z (by omega) (by omega) k4]
 simp only
 rw[u6z (by omega) (by omega) k5]
 simp only
 rw[show min ((t.2.2.2.2.1.length:Int)).toNat m=t.2.2.2.2.1.length by omega,t8x (g:=p34) (fun r hr a hs=>p1l (by have:=(z1 r hr).1;omega) (by have:=(z1 r hr).2;omega) hs) k6]
 simp only
 rw[u6z (by omega) (by omega) k7]
 simp only
 rw[show min ((t.2.2.2.2.2.1.length:Int)).toNat m=t.2.2.2.2.2.1.length by omega,t8x (g:=wrT) (fun w hw a hs=>q4z (by have:=(z2 w hw).1;omega) (by have:=(z2 w hw).2;omega) hs) k8]
 simp only
 rw[r34 k9]
 simp only
 rw[u6e] at k10
 rw[t5u (by omega) k10]
 simp only[List.nil_append,ByteArray.size_append,u6e]
 simp only[Nat.add_assoc]
end
section
def t01 (m:Nat) (s:ByteArray) (c:Cur):u0d×Cur:=((q36 m s c).1,(q36 m s c).2.1,(q36 m s c).2.2 || !t7l (q36 m s c).1)
def t5z (m k:Nat) (s:ByteArray) (c:Cur):List u0d×Cur:=u5t (t01 m s) (min (u5i s c).1.toNat k) (u5i s c).2 []
structure Lim where
 t:Nat
 v:Nat
 p:Nat
 r:Nat
def s79 (m:Lim) (s:ByteArray) (c:Cur):u0h×Cur:=
 let a:=u5i s c
 let b:=u5i s a.2
 let n:=u5i s b.2
 let vs:=u5t (p2p s) (min n.1.toNat m.v) n.2 []
 let ps:=t5z m.t m.p s vs.2
 let rs:=t5z m.t m.r s ps.2
 ((vs.1,ps.1,rs.1,a.1,b.1),rs.2)
theorem p5t {m:Nat} {s:ByteArray} {c:Cur} (h:c.2=true):(t01 m s c).2.2=true:=by
 have:(q36 m s c).2.2=true:=by
  unfold q36
  have h1:=u9w (s:=s) h
  have h2:=u9w (s:=s) h1
  have h3:=u9w (s:=s) h2
  have h4:=u9w (s:=s) h3
  have h5:=u9w (s:=s) h4
  simp only
  rw[t4e h5]
  have h6:=u9w (s:=s) h5
  simp only
  rw[t4e h6]
  exact s4c (r5w h6)
 unfold t01
 simp only[this,Bool.true_or]
theorem r0r {E:Type} {f:Cur→E×Cur} {n k:Nat} {c:Cur} (hk:k≤n):(u5t f n c []).2.2=true∨k≤(u5t f n c []).1.length:=by
 cases h:(u5t f n c []).2.2 with
 | true=>exact .inl rfl
 | false=>rw[q9q h];exact .inr (by simp;exact hk)
theorem q9j {m m' :Nat} (hm:9≤m) (hm' :9≤m') {s:ByteArray} {c:Cur} (h:(t01 m s c).2.2=false):t01 m' s c=t01 m s c:=by
 have hb:(q36 m s c).2.2=false∧t7l (q36 m s c).1=true:=by
  unfold t01 at h
  simp only[Bool.or_eq_false_iff,Bool.not_eq_false'] at h
  exact h
 have hR:=r52.mp hb.2
 have hw:=(p8y.mp hR.ws).2.2
 suffices e:q36 m' s c=q36 m s c by unfold t01;rw[e]
 have b1:=hb.1
 have hr:=hR.rlen
 unfold q36 at b1 hr hw ⊢
 simp only at b1 hr hw ⊢
 generalize hn:u5i s (u5i s (u5i s (u5i s (u5i s c).2).2).2).2=n at b1 hr hw ⊢
 have k1:n.1.toNat≤8∨(u5t (p2n s) (min n.1.toNat m) n.2 []).2.2=true:=by
  rcases Nat.lt_or_ge 8 n.1.toNat with q | q
  ·rcases r0r (f:=p2n s) (n:=min n.1.toNat m) (k:=9) (c:=n.2) (by omega) with z | z
   ·exact .inr z
   ·omega
  ·exact .inl q
 have k1:n.1.toNat≤8:=k1.resolve_right fun k1=>by
  have h1:=u9w (s:=s) k1
  rw[t4e h1] at b1
  rw[s4c (r5w h1)] at b1
  cases b1
 have e1:min n.1.toNat m=min n.1.toNat m' :=by omega
 rw[e1] at b1 hw ⊢
 generalize hk:u5i s (u5t (p2n s) (min n.1.toNat m') n.2 []).2=k at b1 hw ⊢
 have k2:k.1.toNat≤8∨(u5t (rWr s) (min k.1.toNat m) k.2 []).2.2=true:=by
  rcases Nat.lt_or_ge 8 k.1.toNat with q | q
  ·rcases r0r (f:=rWr s) (n:=min k.1.toNat m) (k:=9) (c:=k.2) (by omega) with z | z
   ·exact .inr z
   ·omega
  ·exact .inl q
 have k2:k.1.toNat≤8:=k2.resolve_right fun k2=>by
  rw[s4c (r5w k2)] at b1
  cases b1
 have e2:min k.1.toNat m=min k.1.toNat m' :=by omega
 rw[e2]
theorem q1w {E:Type} {f g:Cur→E×Cur} (hf:∀c,(f c).2.2=false→g c=f c) (hfb:∀c,c.2=true→(f c).2.2=true):∀ {n:Nat} {c:Cur} {a:List E},(u5t f n c a).2.2=false→u5t g n c a=u5t f n c a
 | 0,c,a,_=>rfl
 | n+1,c,a,h=>by
  simp only[u5t] at h ⊢
  split at h
  ·rename_i q;rw[q] at h;cases h
  ·rename_i q
   rw[if_neg q,if_neg q]
   have:(f c).2.2=false:=by
    cases z:(f c).2.2 with
    | false=>rfl
    | true=>rw[t4e z] at h;rw[z] at h;cases h
   rw[hf c this]
   exact q1w hf hfb h
def t8r (m:Lim) (s:ByteArray) (c:Cur):u0h×Cur:=((s79 m s c).1,(s79 m s c).2.1,(s79 m s c).2.2 || !t7a (s79 m s c).1)
def Lim.ok (m:Lim):Prop:=9≤m.t∧121≤m.v∧13≤m.p∧4≤m.r
theorem s90 {m k:Nat} {s:ByteArray} {c:Cur} (h:c.2=true):(t5z m k s c).2.2=true:=by
 unfold t5z;rw[t4e (u9w h)];exact u9w h
theorem q9s {m m' k k' N:Nat} (hm:9≤m) (hm' :9≤m') (hk:N<k) (hk' :N<k') {s:ByteArray} {c:Cur} (h:(t5z m k s c).2.2=false) (hl:(t5z m k s c).1.length≤N):t5z m' k' s c=t5z m k s c:=by
 unfold t5z at h hl ⊢
 have q:(u5i s c).1.toNat≤N:=by
  rcases Nat.lt_or_ge N (u5i s c).1.toNat with q | q
  ·rcases r0r (f:=t01 m s) (n:=min (u5i s c).1.toNat k) (k:=N+1) (c:=(u5i s c).2) (by omega) with z | z
   ·rw[z] at h;cases h
   ·omega
  ·exact q
 have e:min (u5i s c).1.toNat k=min (u5i s c).1.toNat k' :=by omega
 rw[e] at h ⊢
 exact q1w (fun c hc=>q9j hm hm' hc) (fun c hc=>p5t hc) h
theorem p3t {m m' :Lim} (hm:m.ok) (hm' :m'.ok) {s:ByteArray} {c:Cur} (h:(t8r m s c).2.2=false):t8r m' s c=t8r m s c:=by
 obtain⟨a1,a2,a3,a4⟩:=hm
 obtain⟨b1,b2,b3,b4⟩:=hm'
 have hb:(s79 m s c).2.2=false∧t7a (s79 m s c).1=true:=by
  unfold t8r at h
  simp only[Bool.or_eq_false_iff,Bool.not_eq_false'] at h
  exact h
 have hR:=q4m.mp hb.2
 have v1:=(p6s.mp hR.vs).2.2
 have v2:=hR.plen
 have v3:=hR.rlen
 have h0:=hb.1
 suffices e:s79 m' s c=s79 m s c by unfold t8r;rw[e]
 unfold s79 at h0 v1 v2 v3 ⊢
 simp only at h0 v1 v2 v3 ⊢
 generalize hn:u5i s (u5i s (u5i s c).2).2=n at h0 v1 v2 v3 ⊢
 have k1:n.1.toNat≤120:=by
  rcases Nat.lt_or_ge 120 n.1.toNat with q | q
  ·rcases r0r (f:=p2p s) (n:=min n.1.toNat m.v) (k:=121) (c:=n.2) (by omega) with z | z
   ·exfalso
    rw[s90 (s90 z)] at h0
    cases h0
   ·omega
  ·exact q
 have e1:min n.1.toNat m.v=min n.1.toNat m'.v:=by omega
 rw[e1] at h0 v2 v3 ⊢
 generalize hv:u5t (p2p s) (min n.1.toNat m'.v) n.2 [] =vs at h0 v2 v3 ⊢
 have hp:(t5z m.t m.p s vs.2).2.2=false:=by
  cases z:(t5z m.t m.p s vs.2).2.2 with
  | false=>rfl
  | true=>rw[s90 z] at h0;cases h0
 rw[q9s (N:=12) a1 b1 (by omega) (by omega) hp v2]
 rw[q9s (N:=3) a1 b1 (by omega) (by omega) h0 v3]
theorem s9x {s:ByteArray} {a:Nat} {t:u0d} {m:Nat} (hm:8≤m) (ht:TxnR t) (h:t3z s a (t66 t)):t01 m s ((a:Int),false)=(t,((a+(t66 t).size:Nat):Int),false):=by
 unfold t01
 rw[p1m hm ht h]
 simp only[r52.mpr ht,Bool.not_true,Bool.or_false]
theorem r8a {s:ByteArray} {a:Nat} {l:List u0d} {m k:Nat} (hm:8≤m) (hk:l.length≤k) (hl:l.length≤1000000000) (ht:∀t∈l,TxnR t) (h:t3z s a (r8h l)):t5z m k s ((a:Int),false)=(l,((a+(r8h l).size:Nat):Int),false):=by
 unfold r8h at h ⊢
 obtain⟨k1,k2⟩:=o0g.mp h
 unfold t5z
 rw[u6z (by omega) (by omega) k1]
 simp only
 rw[show min ((l.length:Int)).toNat k=l.length by omega,t8x (g:=t66) (fun t h a hs=>s9x hm (ht t h) hs) k2]
 rw[ByteArray.size_append,List.nil_append,Nat.add_assoc]
theorem s5u {v:u2j} (h:q2b v=true):v.1.size≤3∧v.2.1.size≤12∧1≤v.2.2.2∧v.2.2.2≤9999:=by
 unfold q2b at h
 simp only[Bool.and_eq_true,decide_eq_true_eq,r6w] at h
 exact⟨(u3e h.1).2,h.2.1,h.2.2.2⟩
theorem q9p {s:ByteArray} {a:Nat} {b:u0h} {m:Lim} (hm:m.ok) (hb:BaseR b) (h:t3z s a (s0d b)):s79 m s ((a:Int),false)=(b,((a+(s0d b).size:Nat):Int),false):=by
 obtain⟨a1,a2,a3,a4⟩:=hm
 obtain⟨v1,v2,v3⟩:=p6s.mp hb.vs
 have hc:=hb.cs;have hx:=hb.next;have hp:=hb.plen;have hr:=hb.rlen
 unfold s0d at h ⊢
 obtain⟨k1,h⟩:=o0g.mp h
 obtain⟨k2,h⟩:=o0g.mp h
 obtain⟨k3,h⟩:=o0g.mp h
 obtain⟨k4,h⟩:=o0g.mp h
 obtain⟨k5,k6⟩:=o0g.mp h
 unfold s79
 rw[u6z (by omega) (by omega) k1]
 simp only
 rw[u6z (by omega) (by omega) k2]
 simp only
 rw[u6z (by omega) (by omega) k3]
 simp only
 rw[show min ((b.1.length:Int)).toNat m.v=b.1.length by omega,t8x (g:=p4g) (fun v hv a hs=>by
  have:=s5u (v1 v hv)
  exact p1n (by omega) (by omega) (by omega) hs) k4]
 simp only
 rw[r8a (by omega) (by omega) (by omega) (fun t ht=>(hb.past t ht).1) k5]
 simp only
 rw[r8a (by omega) (by omega) (by omega) (fun t ht=>(hb.ready t ht).1) k6]
 simp only[List.nil_append,ByteArray.size_append,Nat.add_assoc]
theorem q94 {n:Nat} (h:n<16384):(s1a n).length≤2:=by
 by_cases q:n<128
 ·rw[r0a q];simp
 ·rw[r69 q,r0a (by omega)];simp
theorem u4o {n:Int} (h:n<16384):(r55 n).size≤2:=by rw[s03];exact q94 (by omega)
theorem u14 {s:ByteArray} (h:s.size<16384):(u0x s).size≤s.size+2:=by
 unfold u0x
 rw[ByteArray.size_append,u60]
 have:=q94 h
 omega
theorem s1s {E:Type} {f:E→ByteArray} {k:Nat} :∀ {l:List E},(∀x∈l,(f x).size≤k)→(q2e f l).size≤l.length*k
 | [],_=>by rw[p2a];simp[emp,ByteArray.size]
 | x::l,h=>by
  rw[q8e,ByteArray.size_append,List.length_cons,Nat.succ_mul]
  have h1:=h x (by simp)
  have h2:=s1s (l:=l) (fun y hy=>h y (by simp[hy]))
  omega
theorem s4h {t:u0d} (h:TxnR t):(t66 t).size≤300:=by
 obtain⟨z1,z2,z3,z4,z5⟩:=h.small
 have hi:=h.id;have hst:=h.st;have hsn:=h.snap;have hrl:=h.rlen
 have r1:(q2e p34 t.2.2.2.2.1).size≤t.2.2.2.2.1.length*10:=s1s fun r hr=>by
  have:=z1 r hr
  have q1:=u14 (s:=r.1) (by omega)
  have q2:=u14 (s:=r.2) (by omega)
  unfold p34;rw[ByteArray.size_append];omega
 have r2:(q2e wrT t.2.2.2.2.2.1).size≤t.2.2.2.2.2.1.length*20:=s1s fun w hw=>by
  have:=z2 w hw
  have q1:=u14 (s:=w.1) (by omega)
  have q2:=u14 (s:=w.2.1) (by omega)
  unfold wrT;rw[ByteArray.size_append,ByteArray.size_append,u6e];omega
 have v1:=u4o (n:=t.1) (by omega)
 have v2:=u4o (n:=t.2.1) (by omega)
 have v3:=u4o (n:=t.2.2.1) (by omega)
 have v4:=u4o (n:=t.2.2.2.1) (by omega)
 have v5:=u4o (n:=(t.2.2.2.2.1.length:Int)) (by omega)
 have v6:=u4o (n:=(t.2.2.2.2.2.1.length:Int)) (by omega)
 have v7:=u14 (s:=t.2.2.2.2.2.2.2) (by omega)
 unfold t66
 simp only[ByteArray.size_append,u6e]
 omega
theorem r0v {l:List u0d} (hl:l.length<16384) (h:∀t∈l,TxnR t):(r8h l).size≤2+l.length*300:=by
 unfold r8h
 rw[ByteArray.size_append]
 have v1:=u4o (n:=(l.length:Int)) (by omega)
 have v2:=s1s (f:=t66) (k:=300) (l:=l) (fun t ht=>s4h (h t ht))
 omega
theorem q7d {v:u2j} (h:q2b v=true):(p4g v).size≤22:=by
 have:=s5u h
 have q1:=u14 (s:=v.1) (by omega)
 have q2:=u14 (s:=v.2.1) (by omega)
 have q3:=u4o (n:=v.2.2.2) (by omega)
 unfold p4g
 simp only[ByteArray.size_append,u6e]
 omega
theorem q4n {b:u0h} (hb:BaseR b):(s0d b).size≤10+b.1.length*22+b.2.1.length*300+b.2.2.1.length*300:=by
 obtain⟨v1,v2,v3⟩:=p6s.mp hb.vs
 have hc:=hb.cs;have hx:=hb.next;have hp:=hb.plen;have hr:=hb.rlen
 have q1:=u4o (n:=b.2.2.2.1) (by omega)
 have q2:=u4o (n:=b.2.2.2.2) (by omega)
 have q3:=u4o (n:=(b.1.length:Int)) (by omega)
 have q4:=s1s (f:=p4g) (k:=22) (l:=b.1) (fun v hv=>q7d (v1 v hv))
 have q5:=r0v (l:=b.2.1) (by omega) (fun t ht=>(hb.past t ht).1)
 have q6:=r0v (l:=b.2.2.1) (by omega) (fun t ht=>(hb.ready t ht).1)
 unfold s0d
 simp only[ByteArray.size_append]
 omega
end
section
def o1i (a b:Int):Int:=IntKind.u32.wrap ((BitVec.ofInt IntKind.u32.bits a^^^BitVec.ofInt IntKind.u32.bits b).toNat:Int)
def p6d (x:Int):Int:=bif decide (Int.tmod x 2=1) then o1i (IntKind.u32.wrap (Int.tdiv x 2)) 3558460437 else IntKind.u32.wrap (Int.tdiv x 2)
def q15:Nat→Int→Int
 | 0,x=>x
 | n+1,x=>q15 n (p6d x)
def p1u (x:Int) (b:UInt8):Int:=q15 8 (o1i x (IntKind.u32.wrap (b.toNat:Int)))
def p9q (t:ByteArray):Int:=t.data.toList.foldl p1u 4294967295
def p9o (x:Int) (k:Nat):Int:=IntKind.u8.wrap (Int.fdiv x (2^k))
def o2j (x:Int):ByteArray:=y7g [p9o x 24,p9o x 16,p9o x 8,IntKind.u8.wrap x]
def r02 (t:ByteArray):ByteArray:=t++o2j (p9q t)
def p2s (t:ByteArray):ByteArray×Bool:=if t.size≤20000 then(r02 t,true) else(emp,false)
def t8j (t:ByteArray):Option ByteArray:=if 4≤t.size∧t.size - 4≤20000∧r02 (t.extract 0 (t.size - 4))=t then some (t.extract 0 (t.size - 4)) else none
theorem p5k (x:Int):(o2j x).size=4:=u60 _
theorem q42 (t:ByteArray):(r02 t).size=t.size+4:=by unfold r02;rw[ByteArray.size_append,p5k]
theorem r53 {t:ByteArray} (h:t.size≤20000):t8j (r02 t)=some t:=by
 have hs:=q42 t
 have e:(r02 t).extract 0 ((r02 t).size - 4)=t:=by
  rw[hs,Nat.add_sub_cancel]
  exact ByteArray.extract_append_eq_left rfl
 unfold t8j
 rw[e,if_pos ⟨by omega,by omega,rfl⟩]
abbrev s27:=Int×u0d×ByteArray×Bool×u0h
def u66:u0d:=(0,0,0,0, [], [],false,emp)
def u3o:u0h:=([], [], [],0,0)
def noT (t:u0d):Bool:=decide (t.1=0)&&(decide (t.2.1=0)&&(decide (t.2.2.1=0)&&(decide (t.2.2.2.1=0)&&(decide (t.2.2.2.2.1.length=0)&&(decide (t.2.2.2.2.2.1.length=0)&&(!t.2.2.2.2.2.2.1&&decide (t.2.2.2.2.2.2.2.size=0)))))))
def noB (b:u0h):Bool:=decide (b.1.length=0)&&(decide (b.2.1.length=0)&&(decide (b.2.2.1.length=0)&&(decide (b.2.2.2.1=0)&&decide (b.2.2.2.2=0))))
def t3o (r:s27):Bool:=
 if r.1=1 then t7l r.2.1&&(decide (r.2.1.2.1=3)&&(decide (r.2.2.1.size=0)&&(!r.2.2.2.1&&noB r.2.2.2.2)))
 else if r.1=2 then t7l r.2.1&&(decide (r.2.1.2.1=2)&&(decide (r.2.2.1.size=0)&&(!r.2.2.2.1&&noB r.2.2.2.2)))
 else if r.1=3 then noT r.2.1&&(u78 r.2.2.1&&noB r.2.2.2.2)
 else if r.1=4 then noT r.2.1&&(decide (r.2.2.1.size=0)&&(!r.2.2.2.1&&t7a r.2.2.2.2))
 else false
def s93 (r:s27):ByteArray:=y7g [IntKind.u8.wrap r.1] ++(if r.1=3 then u0x r.2.2.1++p3i r.2.2.2.1 else if r.1=4 then s0d r.2.2.2.2 else t66 r.2.1)
def u1i (r:s27):ByteArray×Bool:=if t3o r=true then p2s (s93 r) else(emp,false)
theorem p74 {s:ByteArray} (h:s.size=0):s=emp:=p17 (by
 rw[r3u] at h
 rw[List.length_eq_zero_iff.mp h];rfl)
theorem p5r {t:u0d} :noT t=true↔t=u66:=by
 unfold noT u66
 simp only[Bool.and_eq_true,decide_eq_true_eq,Bool.not_eq_true']
 constructor
 ·rintro⟨h1,h2,h3,h4,h5,h6,h7,h8⟩
  obtain⟨t1,t2,t3,t4,t5,t6,t7,t8⟩:=t
  simp only at h1 h2 h3 h4 h5 h6 h7 h8
  rw[h1,h2,h3,h4,List.length_eq_zero_iff.mp h5,List.length_eq_zero_iff.mp h6,h7,p74 h8]
 ·rintro rfl
  exact⟨rfl,rfl,rfl,rfl,rfl,rfl,rfl,rfl⟩
theorem p1h {b:u0h} :noB b=true↔b=u3o:=by
 unfold noB u3o
 simp only[Bool.and_eq_true,decide_eq_true_eq]
 constructor
 ·rintro⟨h1,h2,h3,h4,h5⟩
  obtain⟨t1,t2,t3,t4,t5⟩:=b
  simp only at h1 h2 h3 h4 h5
  rw[h4,h5,List.length_eq_zero_iff.mp h1,List.length_eq_zero_iff.mp h2,List.length_eq_zero_iff.mp h3]
 ·rintro rfl
  exact⟨rfl,rfl,rfl,rfl,rfl⟩
inductive RecR:s27→Prop where
 | thr (t:u0d) (h:TxnR t) (hs:t.2.1=3):RecR (1,t,emp,false,u3o)
 | rdy (t:u0d) (h:TxnR t) (hs:t.2.1=2):RecR (2,t,emp,false,u3o)
 | fin (n:ByteArray) (y:Bool) (h:u78 n=true):RecR (3,u66,n,y,u3o)
 | bas (b:u0h) (h:BaseR b):RecR (4,u66,emp,false,b)
theorem p8w {r:s27} :t3o r=true↔RecR r:=by
 obtain⟨k,t,n,y,b⟩:=r
 unfold t3o
 simp only
 constructor
 ·intro h
  split at h
  ·rename_i e
   simp only[Bool.and_eq_true,decide_eq_true_eq,Bool.not_eq_true',r52,p1h] at h
   obtain⟨h1,h2,h3,h4,h5⟩:=h
   rw[e,p74 h3,h4,h5];exact .thr t h1 h2
  ·split at h
   ·rename_i _ e
    simp only[Bool.and_eq_true,decide_eq_true_eq,Bool.not_eq_true',r52,p1h] at h
    obtain⟨h1,h2,h3,h4,h5⟩:=h
    rw[e,p74 h3,h4,h5];exact .rdy t h1 h2
   ·split at h
    ·rename_i _ _ e
     simp only[Bool.and_eq_true,p5r,p1h] at h
     obtain⟨h1,h2,h3⟩:=h
     rw[e,h1,h3];exact .fin n y h2
    ·split at h
     ·rename_i _ _ _ e
      simp only[Bool.and_eq_true,decide_eq_true_eq,Bool.not_eq_true',p5r,q4m] at h
      obtain⟨h1,h2,h3,h4⟩:=h
      rw[e,h1,p74 h2,h3];exact .bas b h4
     ·cases h
 ·intro h
  cases h with
  | thr t h hs=>simp[r52.mpr h,hs,p1h.mpr rfl,emp,ByteArray.size]
  | rdy t h hs=>simp[r52.mpr h,hs,p1h.mpr rfl,emp,ByteArray.size]
  | fin n y h=>simp[h,p1h.mpr rfl,p5r.mpr rfl]
  | bas b h=>simp[q4m.mpr h,p5r.mpr rfl,emp,ByteArray.size]
theorem s4e {r:s27} (h:RecR r):2≤(s93 r).size∧(s93 r).size≤10000:=by
 have h1:∀n:Int,(y7g [n]).size=1:=fun n=>u60 _
 cases h with
 | thr t h hs=>
  have:=s4h h
  have q:1≤(t66 t).size:=by
   unfold t66;rw[ByteArray.size_append,s03];have:=r54 t.1.toNat;omega
  show 2≤(y7g _++t66 t).size∧(y7g _++t66 t).size≤10000
  rw[ByteArray.size_append,h1];omega
 | rdy t h hs=>
  have:=s4h h
  have q:1≤(t66 t).size:=by
   unfold t66;rw[ByteArray.size_append,s03];have:=r54 t.1.toNat;omega
  show 2≤(y7g _++t66 t).size∧(y7g _++t66 t).size≤10000
  rw[ByteArray.size_append,h1];omega
 | fin n y h=>
  have:=u3e h
  have q:=u14 (s:=n) (by omega)
  show 2≤(y7g _++(u0x n++p3i y)).size∧(y7g _++(u0x n++p3i y)).size≤10000
  have:=(s95 n).1
  rw[ByteArray.size_append,ByteArray.size_append,h1,u6e];omega
 | bas b h=>
  have:=q4n h
  have a1:=(p6s.mp h.vs).2.2
  have a2:=h.plen
  have a3:=h.rlen
  have q:1≤(s0d b).size:=by
   unfold s0d;rw[ByteArray.size_append,s03];have:=r54 b.2.2.2.1.toNat;omega
  show 2≤(y7g _++s0d b).size∧(y7g _++s0d b).size≤10000
  rw[ByteArray.size_append,h1];omega
theorem t2m {r:s27} (h:RecR r):u1i r=(r02 (s93 r),true):=by
 unfold u1i p2s
 rw[if_pos (p8w.mpr h),if_pos (by have:=(s4e h).2;omega)]
def o3g:Lim:=⟨9,121,13,4⟩
theorem p5o:o3g.ok:=⟨by decide,by decide,by decide,by decide⟩
def t63 (s:ByteArray):s27×Bool:=
 if t35 s 0=3 then((3,u66,(u28 s (1,false)).1,(q1v s (u28 s (1,false)).2).1,u3o),(q1v s (u28 s (1,false)).2).2.2)
 else if t35 s 0=4 then((4,u66,emp,false,(t8r o3g s (1,false)).1),(t8r o3g s (1,false)).2.2)
 else(((t35 s 0:Int),(t01 9 s (1,false)).1,emp,false,u3o),(t01 9 s (1,false)).2.2)
def u57 (t:ByteArray):Option s27:=
 match t8j t with
 | none=>none
 | some s=>if s.size=0 then none else if(t63 s).2=true∨u1i (t63 s).1≠(t,true) then none else some (t63 s).1
theorem q5w {k:Nat} (h:k<256) (s:ByteArray):t35 (y7g [IntKind.u8.wrap (k:Int)] ++s) 0=k:=by
 unfold t35
 rw[q0e,s01]
 have:IntKind.u8.wrap (k:Int)=(k:Int):=p9y h
 rw[this]
 show(UInt8.ofNat ((k:Int)).toNat).toNat=k
 rw[zTn]
 simp
 omega
theorem r0s {r:s27} (h:RecR r):t63 (s93 r)=(r,false):=by
 have st:∀(x:Int) (s:ByteArray),t3z (y7g [x] ++s) 1 s:=fun x s=>by
  have:=p38 (a:=y7g [x]) (s:=s) (b:=emp)
  rw[p5a,u60] at this
  exact this
 cases h with
 | thr t h hs=>
  have e:s93 (1,t,emp,false,u3o)=y7g [IntKind.u8.wrap ((1:Nat):Int)] ++t66 t:=rfl
  rw[e]
  unfold t63
  rw[q5w (by omega),if_neg (by omega),if_neg (by omega)]
  have q:=s9x (m:=9) (by omega) h (st (IntKind.u8.wrap ((1:Nat):Int)) (t66 t))
  have q:t01 9 (y7g [IntKind.u8.wrap ((1:Nat):Int)] ++t66 t) (1,false)=_:=q
  rw[q];rfl
 | rdy t h hs=>
  have e:s93 (2,t,emp,false,u3o)=y7g [IntKind.u8.wrap ((2:Nat):Int)] ++t66 t:=rfl
  rw[e]
  unfold t63
  rw[q5w (by omega),if_neg (by omega),if_neg (by omega)]
  have q:=s9x (m:=9) (by omega) h (st (IntKind.u8.wrap ((2:Nat):Int)) (t66 t))
  have q:t01 9 (y7g [IntKind.u8.wrap ((2:Nat):Int)] ++t66 t) (1,false)=_:=q
  rw[q];rfl
 | fin n y h=>
  have e:s93 (3,u66,n,y,u3o)=y7g [IntKind.u8.wrap ((3:Nat):Int)] ++(u0x n++p3i y):=rfl
  rw[e]
  unfold t63
  rw[q5w (by omega),if_pos rfl]
  obtain⟨k1,k2⟩:=o0g.mp (st (IntKind.u8.wrap ((3:Nat):Int)) (u0x n++p3i y))
  have q1:=t5u (by have:=u3e h;omega) k1
  have q1:u28 (y7g [IntKind.u8.wrap ((3:Nat):Int)] ++(u0x n++p3i y)) (1,false)=_:=q1
  rw[q1]
  simp only
  rw[r34 k2]
 | bas b h=>
  have e:s93 (4,u66,emp,false,b)=y7g [IntKind.u8.wrap ((4:Nat):Int)] ++s0d b:=rfl
  rw[e]
  unfold t63
  rw[q5w (by omega),if_neg (by omega),if_pos rfl]
  have q:=q9p p5o h (st (IntKind.u8.wrap ((4:Nat):Int)) (s0d b))
  have q:s79 o3g (y7g [IntKind.u8.wrap ((4:Nat):Int)] ++s0d b) (1,false)=_:=q
  unfold t8r
  rw[q]
  simp only[q4m.mpr h,Bool.not_true,Bool.or_false]
theorem s91 {r:s27} (h:RecR r):u57 (r02 (s93 r))=some r:=by
 have hs:=s4e h
 unfold u57
 rw[r53 (by omega)]
 simp only
 rw[if_neg (by omega),r0s h]
 simp only
 rw[t2m h,if_neg (by simp)]
theorem r5x {t:ByteArray} {r:s27} (h:u57 t=some r):RecR r∧t=r02 (s93 r):=by
 unfold u57 at h
 split at h
 ·cases h
 ·rename_i s hs
  split at h
  ·cases h
  ·split at h
   ·cases h
   ·rename_i hc
    simp only[not_or,ne_eq,Decidable.not_not] at hc
    have e:=Option.some.inj h
    rw[e] at hc
    have hr:t3o r=true:=by
     cases q:t3o r with
     | true=>rfl
     | false=>
      have:=hc.2
      unfold u1i at this
      rw[if_neg (by simp[q])] at this
      simp at this
    have hR:=p8w.mp hr
    refine⟨hR,?_⟩
    have:=hc.2
    rw[t2m hR] at this
    exact(Prod.mk.inj this).1.symm
def u2x (b:u0h) (r:s27):Option u0h:=
 if r.1=1 then(if r.2.1.2.2.2.1=b.2.2.2.1+1 then some (u1k b r.2.1) else none)
 else if r.1=2 then(if b.2.2.1.length<3∧u0q b r.2.1.2.2.2.2.2.2.2<0 then some (u1r b r.2.1 r.2.1.2.2.2.2.2.2.2) else none)
 else if r.1=3 then(if u0q b r.2.2.1<0 then none else if r.2.2.2.1=true then some (u1k b (rdL u1u b.2.2.1 (u0q b r.2.2.1).toNat)) else some (t84 b r.2.2.1))
 else some r.2.2.2.2
def u9g (b:u0h) (r:s27):Option u0h:=
 if t7a b=true∧t3o r=true then(match u2x b r with
  | none=>none
  | some x=>if t7a (u5q x [])=true then some (u5q x []) else none)
 else none
def p0c:u0h:=([], [], [],0,1)
def s0m:u0h→List ByteArray→Option u0h
 | b, [] =>some b
 | b,t::l=>match u57 t with
  | none=>none
  | some r=>match u9g b r with
   | none=>none
   | some x=>s0m x l
def t3w (l:List ByteArray):Option u0h:=s0m p0c l
theorem p3w (b:u0h):∀(l m:List ByteArray),s0m b (l++m)=(s0m b l).bind fun x=>s0m x m:=by
 intro l
 induction l generalizing b with
 | nil=>intro m;rfl
 | cons t l ih=>
  intro m
  simp only[List.cons_append,s0m]
  cases u57 t with
  | none=>rfl
  | some r=>
   simp only
   cases u9g b r with
   | none=>rfl
   | some x=>exact ih x m
end
section
theorem o49 (n:Nat):decide ((n:Int)=0)=decide (n=0):=by simp
theorem p7n (t:u0d):t61 t=some (noT t):=by
 rw[q1f];unfold s9b noT
 simp only[o49,s5b]
 cases decide (t.1=0)<;>cases decide (t.2.1=0)<;>cases decide (t.2.2.1=0)<;>cases decide (t.2.2.2.1=0)<;>cases decide (t.2.2.2.2.1.length=0)<;>cases decide (t.2.2.2.2.2.1.length=0)<;>cases t.2.2.2.2.2.2.1<;>rfl
theorem p7l (b:u0h):t9a b=some (noB b):=by
 rw[r9e];unfold s6a noB
 simp only[o49]
 cases decide (b.1.length=0)<;>cases decide (b.2.1.length=0)<;>cases decide (b.2.2.1.length=0)<;>cases decide (b.2.2.2.1=0)<;>cases decide (b.2.2.2.2=0)<;>rfl
theorem q41 (r:s27):o27.wt r=0+(u1u.wt r.2.1+(r.2.2.1.size+(0+o0t.wt r.2.2.2.2))):=rfl
theorem r39 (r:s27) (hw:o27.wt r≤549755813888):t6v r=some (t3o r):=by
 have hb:u0p=1099511627776:=rfl
 have hr:=q41 r
 have k1:=t5o r.2.1 (by omega)
 have k2:=t7d r.2.2.2.2 (by omega)
 have k3:=t5m r.2.2.1 (by omega)
 rw[q03];unfold s8y
 simp only[k1,k2,k3,s3t,p7n,p7l,zOb,s5b]
 unfold t3o
 generalize t7l r.2.1=c1
 generalize t7a r.2.2.2.2=c2
 generalize u78 r.2.2.1=c3
 generalize noT r.2.1=c4
 generalize noB r.2.2.2.2=c5
 generalize decide (r.2.2.1.size=0)=c6
 generalize r.2.2.2.1=c9
 by_cases h1:r.1=1
 ·simp only[h1,show inB 1 1 4=true from rfl,decide_true,cond_true,if_true]
  generalize decide (r.2.1.2.1=3)=c7
  generalize decide (r.2.1.2.1=2)=c8
  cases c1<;>cases c5<;>cases c6<;>cases c7<;>cases c8<;>cases c9<;>rfl
 ·by_cases h2:r.1=2
  ·simp only[h2,show inB 2 1 4=true from rfl,decide_true,cond_true,if_true]
   generalize decide (r.2.1.2.1=3)=c7
   generalize decide (r.2.1.2.1=2)=c8
   cases c1<;>cases c5<;>cases c6<;>cases c7<;>cases c8<;>cases c9<;>rfl
  ·by_cases h3:r.1=3
   ·simp only[h3,show inB 3 1 4=true from rfl,decide_true,cond_true,if_true]
    cases c3<;>cases c4<;>cases c5<;>cases c9<;>rfl
   ·by_cases h4:r.1=4
    ·simp only[h4,show inB 4 1 4=true from rfl,decide_true,cond_true,if_true]
     cases c2<;>cases c4<;>cases c6<;>cases c9<;>rfl
    ·have:inB r.1 1 4=false:=by
      cases h:inB r.1 1 4
      ·rfl
      ·have:=r6w.mp h;omega
     simp only[h1,h2,h3,h4,this,decide_false,cond_false,if_false,Bool.not_false,cond_true]
end
end
end Go.Proofs.YtbkicjpdlchbgaaGreat.Ab
