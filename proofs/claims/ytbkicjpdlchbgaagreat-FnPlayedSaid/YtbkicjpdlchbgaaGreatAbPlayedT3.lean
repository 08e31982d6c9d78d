import Derived.Test.YtbkicjpdlchbgaaGreatAbPlayedT2
import Derived.Test.YtbkicjpdlchbgaaGreatAbK2
import Derived.Test.YtbkicjpdlchbgaaGreatAbF4
import Derived.Test.YtbkicjpdlchbgaaGreatAbS2
namespace Go.Proofs.YtbkicjpdlchbgaaGreat.Ab
open Go
set_option linter.unusedVariables false
set_option linter.unusedSimpArgs false
set_option linter.unnecessarySimpa false
section
section
def u8h (m:Nat) (s:ByteArray) (c:Cur):u0g×Cur:=((q2i m s c).1,(q2i m s c).2.1,(q2i m s c).2.2 || !u8j (q2i m s c).1)
def t3j (m k:Nat) (s:ByteArray) (c:Cur):List u0g×Cur:=u33 (u8h m s) (min (u3w s c).1.toNat k) (u3w s c).2 []
structure Lim where
 t:Nat
 v:Nat
 p:Nat
 r:Nat
def s58 (m:Lim) (s:ByteArray) (c:Cur):u0i×Cur:=
 let a:=u3w s c
 let b:=u3w s a.2
 let n:=u3w s b.2
 let vs:=u33 (p0h s) (min n.1.toNat m.v) n.2 []
 let ps:=t3j m.t m.p s vs.2
 let rs:=t3j m.t m.r s ps.2
 ((vs.1,ps.1,rs.1,a.1,b.1),rs.2)
theorem p3h {m:Nat} {s:ByteArray} {c:Cur} (h:c.2=true):(u8h m s c).2.2=true:=by
 have:(q2i m s c).2.2=true:=by
  unfold q2i
  have h1:=u7j (s:=s) h
  have h2:=u7j (s:=s) h1
  have h3:=u7j (s:=s) h2
  have h4:=u7j (s:=s) h3
  have h5:=u7j (s:=s) h4
  simp only
  rw[t1m h5]
  have h6:=u7j (s:=s) h5
  simp only
  rw[t1m h6]
  exact s17 (r35 h6)
 unfold u8h
 simp only[this,Bool.true_or]
theorem s8q {E:Type} {f:Cur→E×Cur} {n k:Nat} {c:Cur} (hk:k≤n):(u33 f n c []).2.2=true∨k≤(u33 f n c []).1.length:=by
 cases h:(u33 f n c []).2.2 with
 | true=>exact .inl rfl
 | false=>rw[q7v h];exact .inr (by simp;exact hk)
theorem q7q {m m' :Nat} (hm:9≤m) (hm' :9≤m') {s:ByteArray} {c:Cur} (h:(u8h m s c).2.2=false):u8h m' s c=u8h m s c:=by
 have hb:(q2i m s c).2.2=false∧u8j (q2i m s c).1=true:=by
  unfold u8h at h
  simp only[Bool.or_eq_false_iff,Bool.not_eq_false'] at h
  exact h
 have hR:=r4d.mp hb.2
 have hw:=(p6l.mp hR.ws).2.2
 suffices e:q2i m' s c=q2i m s c by unfold u8h;rw[e]
 have b1:=hb.1
 have hr:=hR.rlen
 unfold q2i at b1 hr hw ⊢
 simp only at b1 hr hw ⊢
 generalize hn:u3w s (u3w s (u3w s (u3w s (u3w s c).2).2).2).2=n at b1 hr hw ⊢
 have k1:n.1.toNat≤8∨(u33 (p0f s) (min n.1.toNat m) n.2 []).2.2=true:=by
  rcases Nat.lt_or_ge 8 n.1.toNat with q | q
  ·rcases s8q (f:=p0f s) (n:=min n.1.toNat m) (k:=9) (c:=n.2) (by omega) with z | z
   ·exact .inr z
   ·omega
  ·exact .inl q
 have k1:n.1.toNat≤8:=k1.resolve_right fun k1=>by
  have h1:=u7j (s:=s) k1
  rw[t1m h1] at b1
  rw[s17 (r35 h1)] at b1
  cases b1
 have e1:min n.1.toNat m=min n.1.toNat m' :=by omega
 rw[e1] at b1 hw ⊢
 generalize hk:u3w s (u33 (p0f s) (min n.1.toNat m') n.2 []).2=k at b1 hw ⊢
 have k2:k.1.toNat≤8∨(u33 (rWr s) (min k.1.toNat m) k.2 []).2.2=true:=by
  rcases Nat.lt_or_ge 8 k.1.toNat with q | q
  ·rcases s8q (f:=rWr s) (n:=min k.1.toNat m) (k:=9) (c:=k.2) (by omega) with z | z
   ·exact .inr z
   ·omega
  ·exact .inl q
 have k2:k.1.toNat≤8:=k2.resolve_right fun k2=>by
  rw[s17 (r35 k2)] at b1
  cases b1
 have e2:min k.1.toNat m=min k.1.toNat m' :=by omega
 rw[e2]
theorem r94 {E:Type} {f g:Cur→E×Cur} (hf:∀c,(f c).2.2=false→g c=f c) (hfb:∀c,c.2=true→(f c).2.2=true):∀ {n:Nat} {c:Cur} {a:List E},(u33 f n c a).2.2=false→u33 g n c a=u33 f n c a
 | 0,c,a,_=>rfl
 | n+1,c,a,h=>by
  simp only[u33] at h ⊢
  split at h
  ·rename_i q;rw[q] at h;cases h
  ·rename_i q
   rw[if_neg q,if_neg q]
   have:(f c).2.2=false:=by
    cases z:(f c).2.2 with
    | false=>rfl
    | true=>rw[t1m z] at h;rw[z] at h;cases h
   rw[hf c this]
   exact r94 hf hfb h
def t6a (m:Lim) (s:ByteArray) (c:Cur):u0i×Cur:=((s58 m s c).1,(s58 m s c).2.1,(s58 m s c).2.2 || !u6l (s58 m s c).1)
def Lim.ok (m:Lim):Prop:=9≤m.t∧121≤m.v∧13≤m.p∧4≤m.r
theorem s71 {m k:Nat} {s:ByteArray} {c:Cur} (h:c.2=true):(t3j m k s c).2.2=true:=by
 unfold t3j;rw[t1m (u7j h)];exact u7j h
theorem q7x {m m' k k' N:Nat} (hm:9≤m) (hm' :9≤m') (hk:N<k) (hk' :N<k') {s:ByteArray} {c:Cur} (h:(t3j m k s c).2.2=false) (hl:(t3j m k s c).1.length≤N):t3j m' k' s c=t3j m k s c:=by
 unfold t3j at h hl ⊢
 have q:(u3w s c).1.toNat≤N:=by
  rcases Nat.lt_or_ge N (u3w s c).1.toNat with q | q
  ·rcases s8q (f:=u8h m s) (n:=min (u3w s c).1.toNat k) (k:=N+1) (c:=(u3w s c).2) (by omega) with z | z
   ·rw[z] at h;cases h
   ·omega
  ·exact q
 have e:min (u3w s c).1.toNat k=min (u3w s c).1.toNat k' :=by omega
 rw[e] at h ⊢
 exact r94 (fun c hc=>q7q hm hm' hc) (fun c hc=>p3h hc) h
theorem p1h {m m' :Lim} (hm:m.ok) (hm' :m'.ok) {s:ByteArray} {c:Cur} (h:(t6a m s c).2.2=false):t6a m' s c=t6a m s c:=by
 obtain⟨a1,a2,a3,a4⟩:=hm
 obtain⟨b1,b2,b3,b4⟩:=hm'
 have hb:(s58 m s c).2.2=false∧u6l (s58 m s c).1=true:=by
  unfold t6a at h
  simp only[Bool.or_eq_false_iff,Bool.not_eq_false'] at h
  exact h
 have hR:=q21.mp hb.2
 have v1:=(p4f.mp hR.vs).2.2
 have v2:=hR.plen
 have v3:=hR.rlen
 have h0:=hb.1
 suffices e:s58 m' s c=s58 m s c by unfold t6a;rw[e]
 unfold s58 at h0 v1 v2 v3 ⊢
 simp only at h0 v1 v2 v3 ⊢
 generalize hn:u3w s (u3w s (u3w s c).2).2=n at h0 v1 v2 v3 ⊢
 have k1:n.1.toNat≤120:=by
  rcases Nat.lt_or_ge 120 n.1.toNat with q | q
  ·rcases s8q (f:=p0h s) (n:=min n.1.toNat m.v) (k:=121) (c:=n.2) (by omega) with z | z
   ·exfalso
    rw[s71 (s71 z)] at h0
    cases h0
   ·omega
  ·exact q
 have e1:min n.1.toNat m.v=min n.1.toNat m'.v:=by omega
 rw[e1] at h0 v2 v3 ⊢
 generalize hv:u33 (p0h s) (min n.1.toNat m'.v) n.2 [] =vs at h0 v2 v3 ⊢
 have hp:(t3j m.t m.p s vs.2).2.2=false:=by
  cases z:(t3j m.t m.p s vs.2).2.2 with
  | false=>rfl
  | true=>rw[s71 z] at h0;cases h0
 rw[q7x (N:=12) a1 b1 (by omega) (by omega) hp v2]
 rw[q7x (N:=3) a1 b1 (by omega) (by omega) h0 v3]
theorem s7x {s:ByteArray} {a:Nat} {t:u0g} {m:Nat} (hm:8≤m) (ht:TxnR t) (h:t08 s a (t4p t)):u8h m s ((a:Int),false)=(t,((a+(t4p t).size:Nat):Int),false):=by
 unfold u8h
 rw[q9h hm ht h]
 simp only[r4d.mpr ht,Bool.not_true,Bool.or_false]
theorem r6k {s:ByteArray} {a:Nat} {l:List u0g} {m k:Nat} (hm:8≤m) (hk:l.length≤k) (hl:l.length≤1000000000) (ht:∀t∈l,TxnR t) (h:t08 s a (r6r l)):t3j m k s ((a:Int),false)=(l,((a+(r6r l).size:Nat):Int),false):=by
 unfold r6r at h ⊢
 obtain⟨k1,k2⟩:=p73.mp h
 unfold t3j
 rw[u44 (by omega) (by omega) k1]
 simp only
 rw[show min ((l.length:Int)).toNat k=l.length by omega,t6d (g:=t4p) (fun t h a hs=>s7x hm (ht t h) hs) k2]
 rw[ByteArray.size_append,List.nil_append,Nat.add_assoc]
theorem s3p {v:u14} (h:r12 v=true):v.1.size≤3∧v.2.1.size≤12∧1≤v.2.2.2∧v.2.2.2≤9999:=by
 unfold r12 at h
 simp only[Bool.and_eq_true,decide_eq_true_eq,r5b] at h
 exact⟨(u2o h.1).2,h.2.1,h.2.2.2⟩
theorem q7u {s:ByteArray} {a:Nat} {b:u0i} {m:Lim} (hm:m.ok) (hb:BaseR b) (h:t08 s a (t7y b)):s58 m s ((a:Int),false)=(b,((a+(t7y b).size:Nat):Int),false):=by
 obtain⟨a1,a2,a3,a4⟩:=hm
 obtain⟨v1,v2,v3⟩:=p4f.mp hb.vs
 have hc:=hb.cs;have hx:=hb.next;have hp:=hb.plen;have hr:=hb.rlen
 unfold t7y at h ⊢
 obtain⟨k1,h⟩:=p73.mp h
 obtain⟨k2,h⟩:=p73.mp h
 obtain⟨k3,h⟩:=p73.mp h
 obtain⟨k4,h⟩:=p73.mp h
 obtain⟨k5,k6⟩:=p73.mp h
 unfold s58
 rw[u44 (by omega) (by omega) k1]
 simp only
 rw[u44 (by omega) (by omega) k2]
 simp only
 rw[u44 (by omega) (by omega) k3]
 simp only
 rw[show min ((b.1.length:Int)).toNat m.v=b.1.length by omega,t6d (g:=p11) (fun v hv a hs=>by
  have:=s3p (v1 v hv)
  exact q9i (by omega) (by omega) (by omega) hs) k4]
 simp only
 rw[r6k (by omega) (by omega) (by omega) (fun t ht=>(hb.past t ht).1) k5]
 simp only
 rw[r6k (by omega) (by omega) (by omega) (fun t ht=>(hb.ready t ht).1) k6]
 simp only[List.nil_append,ByteArray.size_append,Nat.add_assoc]
theorem q8b {n:Nat} (h:n<16384):(t83 n).length≤2:=by
 by_cases q:n<128
 ·rw[s8a q];simp
 ·rw[r5o q,s8a (by omega)];simp
theorem u3g {n:Int} (h:n<16384):(r4g n).size≤2:=by rw[t8v];exact q8b (by omega)
theorem u1w {s:ByteArray} (h:s.size<16384):(u0x s).size≤s.size+2:=by
 unfold u0x
 rw[ByteArray.size_append,u45]
 have:=q8b h
 omega
theorem t9i {E:Type} {f:E→ByteArray} {k:Nat} :∀ {l:List E},(∀x∈l,(f x).size≤k)→(q0q f l).size≤l.length*k
 | [],_=>by rw[q93];simp[emp,ByteArray.size]
 | x::l,h=>by
  rw[q6r,ByteArray.size_append,List.length_cons,Nat.succ_mul]
  have h1:=h x (by simp)
  have h2:=t9i (l:=l) (fun y hy=>h y (by simp[hy]))
  omega
theorem s2c {t:u0g} (h:TxnR t):(t4p t).size≤300:=by
 obtain⟨z1,z2,z3,z4,z5⟩:=h.small
 have hi:=h.id;have hst:=h.st;have hsn:=h.snap;have hrl:=h.rlen
 have r1:(q0q p1q t.2.2.2.2.1).size≤t.2.2.2.2.1.length*10:=t9i fun r hr=>by
  have:=z1 r hr
  have q1:=u1w (s:=r.1) (by omega)
  have q2:=u1w (s:=r.2) (by omega)
  unfold p1q;rw[ByteArray.size_append];omega
 have r2:(q0q wrT t.2.2.2.2.2.1).size≤t.2.2.2.2.2.1.length*20:=t9i fun w hw=>by
  have:=z2 w hw
  have q1:=u1w (s:=w.1) (by omega)
  have q2:=u1w (s:=w.2.1) (by omega)
  unfold wrT;rw[ByteArray.size_append,ByteArray.size_append,u4n];omega
 have v1:=u3g (n:=t.1) (by omega)
 have v2:=u3g (n:=t.2.1) (by omega)
 have v3:=u3g (n:=t.2.2.1) (by omega)
 have v4:=u3g (n:=t.2.2.2.1) (by omega)
 have v5:=u3g (n:=(t.2.2.2.2.1.length:Int)) (by omega)
 have v6:=u3g (n:=(t.2.2.2.2.2.1.length:Int)) (by omega)
 have v7:=u1w (s:=t.2.2.2.2.2.2.2) (by omega)
 unfold t4p
 simp only[ByteArray.size_append,u4n]
 omega
theorem s8u {l:List u0g} (hl:l.length<16384) (h:∀t∈l,TxnR t):(r6r l).size≤2+l.length*300:=by
 unfold r6r
 rw[ByteArray.size_append]
 have v1:=u3g (n:=(l.length:Int)) (by omega)
 have v2:=t9i (f:=t4p) (k:=300) (l:=l) (fun t ht=>s2c (h t ht))
 omega
theorem q5v {v:u14} (h:r12 v=true):(p11 v).size≤22:=by
 have:=s3p h
 have q1:=u1w (s:=v.1) (by omega)
 have q2:=u1w (s:=v.2.1) (by omega)
 have q3:=u3g (n:=v.2.2.2) (by omega)
 unfold p11
 simp only[ByteArray.size_append,u4n]
 omega
theorem q22 {b:u0i} (hb:BaseR b):(t7y b).size≤10+b.1.length*22+b.2.1.length*300+b.2.2.1.length*300:=by
 obtain⟨v1,v2,v3⟩:=p4f.mp hb.vs
 have hc:=hb.cs;have hx:=hb.next;have hp:=hb.plen;have hr:=hb.rlen
 have q1:=u3g (n:=b.2.2.2.1) (by omega)
 have q2:=u3g (n:=b.2.2.2.2) (by omega)
 have q3:=u3g (n:=(b.1.length:Int)) (by omega)
 have q4:=t9i (f:=p11) (k:=22) (l:=b.1) (fun v hv=>q5v (v1 v hv))
 have q5:=s8u (l:=b.2.1) (by omega) (fun t ht=>(hb.past t ht).1)
 have q6:=s8u (l:=b.2.2.1) (by omega) (fun t ht=>(hb.ready t ht).1)
 unfold t7y
 simp only[ByteArray.size_append]
 omega
end
section
def p9c (a b:Int):Int:=IntKind.u32.wrap ((BitVec.ofInt IntKind.u32.bits a^^^BitVec.ofInt IntKind.u32.bits b).toNat:Int)
def p3z (x:Int):Int:=bif decide (Int.tmod x 2=1) then p9c (IntKind.u32.wrap (Int.tdiv x 2)) 3558460437 else IntKind.u32.wrap (Int.tdiv x 2)
def q0f:Nat→Int→Int
 | 0,x=>x
 | n+1,x=>q0f n (p3z x)
def q9n (x:Int) (b:UInt8):Int:=q0f 8 (p9c x (IntKind.u32.wrap (b.toNat:Int)))
def p7i (t:ByteArray):Int:=t.data.toList.foldl q9n 4294967295
def p7g (x:Int) (k:Nat):Int:=IntKind.u8.wrap (Int.fdiv x (2^k))
def o0a (x:Int):ByteArray:=y7g [p7g x 24,p7g x 16,p7g x 8,IntKind.u8.wrap x]
def s81 (t:ByteArray):ByteArray:=t++o0a (p7i t)
def p0j (t:ByteArray):ByteArray×Bool:=if t.size≤20000 then(s81 t,true) else(emp,false)
def t53 (t:ByteArray):Option ByteArray:=if 4≤t.size∧t.size - 4≤20000∧s81 (t.extract 0 (t.size - 4))=t then some (t.extract 0 (t.size - 4)) else none
theorem p27 (x:Int):(o0a x).size=4:=u45 _
theorem q3i (t:ByteArray):(s81 t).size=t.size+4:=by unfold s81;rw[ByteArray.size_append,p27]
theorem r4e {t:ByteArray} (h:t.size≤20000):t53 (s81 t)=some t:=by
 have hs:=q3i t
 have e:(s81 t).extract 0 ((s81 t).size - 4)=t:=by
  rw[hs,Nat.add_sub_cancel]
  exact ByteArray.extract_append_eq_left rfl
 unfold t53
 rw[e,if_pos ⟨by omega,by omega,rfl⟩]
abbrev t89:=Int×u0g×ByteArray×Bool×u0i
def u5y:u0g:=(0,0,0,0, [], [],false,emp)
def u2s:u0i:=([], [], [],0,0)
def noT (t:u0g):Bool:=decide (t.1=0)&&(decide (t.2.1=0)&&(decide (t.2.2.1=0)&&(decide (t.2.2.2.1=0)&&(decide (t.2.2.2.2.1.length=0)&&(decide (t.2.2.2.2.2.1.length=0)&&(!t.2.2.2.2.2.2.1&&decide (t.2.2.2.2.2.2.2.size=0)))))))
def noB (b:u0i):Bool:=decide (b.1.length=0)&&(decide (b.2.1.length=0)&&(decide (b.2.2.1.length=0)&&(decide (b.2.2.2.1=0)&&decide (b.2.2.2.2=0))))
def u46 (r:t89):Bool:=
 if r.1=1 then u8j r.2.1&&(decide (r.2.1.2.1=3)&&(decide (r.2.2.1.size=0)&&(!r.2.2.2.1&&noB r.2.2.2.2)))
 else if r.1=2 then u8j r.2.1&&(decide (r.2.1.2.1=2)&&(decide (r.2.2.1.size=0)&&(!r.2.2.2.1&&noB r.2.2.2.2)))
 else if r.1=3 then noT r.2.1&&(u48 r.2.2.1&&noB r.2.2.2.2)
 else if r.1=4 then noT r.2.1&&(decide (r.2.2.1.size=0)&&(!r.2.2.2.1&&u6l r.2.2.2.2))
 else false
def s75 (r:t89):ByteArray:=y7g [IntKind.u8.wrap r.1] ++(if r.1=3 then u0x r.2.2.1++p06 r.2.2.2.1 else if r.1=4 then t7y r.2.2.2.2 else t4p r.2.1)
def u1d (r:t89):ByteArray×Bool:=if u46 r=true then p0j (s75 r) else(emp,false)
theorem p5o {s:ByteArray} (h:s.size=0):s=emp:=q91 (by
 rw[r1l] at h
 rw[List.length_eq_zero_iff.mp h];rfl)
theorem p3f {t:u0g} :noT t=true↔t=u5y:=by
 unfold noT u5y
 simp only[Bool.and_eq_true,decide_eq_true_eq,Bool.not_eq_true']
 constructor
 ·rintro⟨h1,h2,h3,h4,h5,h6,h7,h8⟩
  obtain⟨t1,t2,t3,t4,t5,t6,t7,t8⟩:=t
  simp only at h1 h2 h3 h4 h5 h6 h7 h8
  rw[h1,h2,h3,h4,List.length_eq_zero_iff.mp h5,List.length_eq_zero_iff.mp h6,h7,p5o h8]
 ·rintro rfl
  exact⟨rfl,rfl,rfl,rfl,rfl,rfl,rfl,rfl⟩
theorem q9b {b:u0i} :noB b=true↔b=u2s:=by
 unfold noB u2s
 simp only[Bool.and_eq_true,decide_eq_true_eq]
 constructor
 ·rintro⟨h1,h2,h3,h4,h5⟩
  obtain⟨t1,t2,t3,t4,t5⟩:=b
  simp only at h1 h2 h3 h4 h5
  rw[h4,h5,List.length_eq_zero_iff.mp h1,List.length_eq_zero_iff.mp h2,List.length_eq_zero_iff.mp h3]
 ·rintro rfl
  exact⟨rfl,rfl,rfl,rfl,rfl⟩
inductive RecR:t89→Prop where
 | thr (t:u0g) (h:TxnR t) (hs:t.2.1=3):RecR (1,t,emp,false,u2s)
 | rdy (t:u0g) (h:TxnR t) (hs:t.2.1=2):RecR (2,t,emp,false,u2s)
 | fin (n:ByteArray) (y:Bool) (h:u48 n=true):RecR (3,u5y,n,y,u2s)
 | bas (b:u0i) (h:BaseR b):RecR (4,u5y,emp,false,b)
theorem p6k {r:t89} :u46 r=true↔RecR r:=by
 obtain⟨k,t,n,y,b⟩:=r
 unfold u46
 simp only
 constructor
 ·intro h
  split at h
  ·rename_i e
   simp only[Bool.and_eq_true,decide_eq_true_eq,Bool.not_eq_true',r4d,q9b] at h
   obtain⟨h1,h2,h3,h4,h5⟩:=h
   rw[e,p5o h3,h4,h5];exact .thr t h1 h2
  ·split at h
   ·rename_i _ e
    simp only[Bool.and_eq_true,decide_eq_true_eq,Bool.not_eq_true',r4d,q9b] at h
    obtain⟨h1,h2,h3,h4,h5⟩:=h
    rw[e,p5o h3,h4,h5];exact .rdy t h1 h2
   ·split at h
    ·rename_i _ _ e
     simp only[Bool.and_eq_true,p3f,q9b] at h
     obtain⟨h1,h2,h3⟩:=h
     rw[e,h1,h3];exact .fin n y h2
    ·split at h
     ·rename_i _ _ _ e
      simp only[Bool.and_eq_true,decide_eq_true_eq,Bool.not_eq_true',p3f,q21] at h
      obtain⟨h1,h2,h3,h4⟩:=h
      rw[e,h1,p5o h2,h3];exact .bas b h4
     ·cases h
 ·intro h
  cases h with
  | thr t h hs=>simp[r4d.mpr h,hs,q9b.mpr rfl,emp,ByteArray.size]
  | rdy t h hs=>simp[r4d.mpr h,hs,q9b.mpr rfl,emp,ByteArray.size]
  | fin n y h=>simp[h,q9b.mpr rfl,p3f.mpr rfl]
  | bas b h=>simp[q21.mpr h,p3f.mpr rfl,emp,ByteArray.size]
theorem s19 {r:t89} (h:RecR r):2≤(s75 r).size∧(s75 r).size≤10000:=by
 have h1:∀n:Int,(y7g [n]).size=1:=fun n=>u45 _
 cases h with
 | thr t h hs=>
  have:=s2c h
  have q:1≤(t4p t).size:=by
   unfold t4p;rw[ByteArray.size_append,t8v];have:=r4f t.1.toNat;omega
  show 2≤(y7g _++t4p t).size∧(y7g _++t4p t).size≤10000
  rw[ByteArray.size_append,h1];omega
 | rdy t h hs=>
  have:=s2c h
  have q:1≤(t4p t).size:=by
   unfold t4p;rw[ByteArray.size_append,t8v];have:=r4f t.1.toNat;omega
  show 2≤(y7g _++t4p t).size∧(y7g _++t4p t).size≤10000
  rw[ByteArray.size_append,h1];omega
 | fin n y h=>
  have:=u2o h
  have q:=u1w (s:=n) (by omega)
  show 2≤(y7g _++(u0x n++p06 y)).size∧(y7g _++(u0x n++p06 y)).size≤10000
  have:=(s76 n).1
  rw[ByteArray.size_append,ByteArray.size_append,h1,u4n];omega
 | bas b h=>
  have:=q22 h
  have a1:=(p4f.mp h.vs).2.2
  have a2:=h.plen
  have a3:=h.rlen
  have q:1≤(t7y b).size:=by
   unfold t7y;rw[ByteArray.size_append,t8v];have:=r4f b.2.2.2.1.toNat;omega
  show 2≤(y7g _++t7y b).size∧(y7g _++t7y b).size≤10000
  rw[ByteArray.size_append,h1];omega
theorem u9w {r:t89} (h:RecR r):u1d r=(s81 (s75 r),true):=by
 unfold u1d p0j
 rw[if_pos (p6k.mpr h),if_pos (by have:=(s19 h).2;omega)]
def o08:Lim:=⟨9,121,13,4⟩
theorem p3c:o08.ok:=⟨by decide,by decide,by decide,by decide⟩
def t4n (s:ByteArray):t89×Bool:=
 if t1b s 0=3 then((3,u5y,(u2l s (1,false)).1,(r93 s (u2l s (1,false)).2).1,u2s),(r93 s (u2l s (1,false)).2).2.2)
 else if t1b s 0=4 then((4,u5y,emp,false,(t6a o08 s (1,false)).1),(t6a o08 s (1,false)).2.2)
 else(((t1b s 0:Int),(u8h 9 s (1,false)).1,emp,false,u2s),(u8h 9 s (1,false)).2.2)
def u4e (t:ByteArray):Option t89:=
 match t53 t with
 | none=>none
 | some s=>if s.size=0 then none else if(t4n s).2=true∨u1d (t4n s).1≠(t,true) then none else some (t4n s).1
theorem q4b {k:Nat} (h:k<256) (s:ByteArray):t1b (y7g [IntKind.u8.wrap (k:Int)] ++s) 0=k:=by
 unfold t1b
 rw[r8h,t8s]
 have:IntKind.u8.wrap (k:Int)=(k:Int):=p7q h
 rw[this]
 show(UInt8.ofNat ((k:Int)).toNat).toNat=k
 rw[zTn]
 simp
 omega
theorem s8r {r:t89} (h:RecR r):t4n (s75 r)=(r,false):=by
 have st:∀(x:Int) (s:ByteArray),t08 (y7g [x] ++s) 1 s:=fun x s=>by
  have:=p1t (a:=y7g [x]) (s:=s) (b:=emp)
  rw[p2x,u45] at this
  exact this
 cases h with
 | thr t h hs=>
  have e:s75 (1,t,emp,false,u2s)=y7g [IntKind.u8.wrap ((1:Nat):Int)] ++t4p t:=rfl
  rw[e]
  unfold t4n
  rw[q4b (by omega),if_neg (by omega),if_neg (by omega)]
  have q:=s7x (m:=9) (by omega) h (st (IntKind.u8.wrap ((1:Nat):Int)) (t4p t))
  have q:u8h 9 (y7g [IntKind.u8.wrap ((1:Nat):Int)] ++t4p t) (1,false)=_:=q
  rw[q];rfl
 | rdy t h hs=>
  have e:s75 (2,t,emp,false,u2s)=y7g [IntKind.u8.wrap ((2:Nat):Int)] ++t4p t:=rfl
  rw[e]
  unfold t4n
  rw[q4b (by omega),if_neg (by omega),if_neg (by omega)]
  have q:=s7x (m:=9) (by omega) h (st (IntKind.u8.wrap ((2:Nat):Int)) (t4p t))
  have q:u8h 9 (y7g [IntKind.u8.wrap ((2:Nat):Int)] ++t4p t) (1,false)=_:=q
  rw[q];rfl
 | fin n y h=>
  have e:s75 (3,u5y,n,y,u2s)=y7g [IntKind.u8.wrap ((3:Nat):Int)] ++(u0x n++p06 y):=rfl
  rw[e]
  unfold t4n
  rw[q4b (by omega),if_pos rfl]
  obtain⟨k1,k2⟩:=p73.mp (st (IntKind.u8.wrap ((3:Nat):Int)) (u0x n++p06 y))
  have q1:=t3f (by have:=u2o h;omega) k1
  have q1:u2l (y7g [IntKind.u8.wrap ((3:Nat):Int)] ++(u0x n++p06 y)) (1,false)=_:=q1
  rw[q1]
  simp only
  rw[r1w k2]
 | bas b h=>
  have e:s75 (4,u5y,emp,false,b)=y7g [IntKind.u8.wrap ((4:Nat):Int)] ++t7y b:=rfl
  rw[e]
  unfold t4n
  rw[q4b (by omega),if_neg (by omega),if_pos rfl]
  have q:=q7u p3c h (st (IntKind.u8.wrap ((4:Nat):Int)) (t7y b))
  have q:s58 o08 (y7g [IntKind.u8.wrap ((4:Nat):Int)] ++t7y b) (1,false)=_:=q
  unfold t6a
  rw[q]
  simp only[q21.mpr h,Bool.not_true,Bool.or_false]
theorem s72 {r:t89} (h:RecR r):u4e (s81 (s75 r))=some r:=by
 have hs:=s19 h
 unfold u4e
 rw[r4e (by omega)]
 simp only
 rw[if_neg (by omega),s8r h]
 simp only
 rw[u9w h,if_neg (by simp)]
theorem r36 {t:ByteArray} {r:t89} (h:u4e t=some r):RecR r∧t=s81 (s75 r):=by
 unfold u4e at h
 split at h
 ·cases h
 ·rename_i s hs
  split at h
  ·cases h
  ·split at h
   ·cases h
   ·rename_i hc
    simp only[not_or,ne_eq,Decidable.not_not] at hc
    have e:=Option.some.inj h
    rw[e] at hc
    have hr:u46 r=true:=by
     cases q:u46 r with
     | true=>rfl
     | false=>
      have:=hc.2
      unfold u1d at this
      rw[if_neg (by simp[q])] at this
      simp at this
    have hR:=p6k.mp hr
    refine⟨hR,?_⟩
    have:=hc.2
    rw[u9w hR] at this
    exact(Prod.mk.inj this).1.symm
def u1h (b:u0i) (r:t89):Option u0i:=
 if r.1=1 then(if r.2.1.2.2.2.1=b.2.2.2.1+1 then some (u0m b r.2.1) else none)
 else if r.1=2 then(if b.2.2.1.length<3∧u0n b r.2.1.2.2.2.2.2.2.2<0 then some (u1o b r.2.1 r.2.1.2.2.2.2.2.2.2) else none)
 else if r.1=3 then(if u0n b r.2.2.1<0 then none else if r.2.2.2.1=true then some (u0m b (rdL u1f b.2.2.1 (u0n b r.2.2.1).toNat)) else some (t2y b r.2.2.1))
 else some r.2.2.2.2
def u4s (b:u0i) (r:t89):Option u0i:=
 if u6l b=true∧u46 r=true then(match u1h b r with
  | none=>none
  | some x=>if u6l (u1t x [])=true then some (u1t x []) else none)
 else none
def q8f:u0i:=([], [], [],0,1)
def t78:u0i→List ByteArray→Option u0i
 | b, [] =>some b
 | b,t::l=>match u4e t with
  | none=>none
  | some r=>match u4s b r with
   | none=>none
   | some x=>t78 x l
def t05 (l:List ByteArray):Option u0i:=t78 q8f l
theorem p1k (b:u0i):∀(l m:List ByteArray),t78 b (l++m)=(t78 b l).bind fun x=>t78 x m:=by
 intro l
 induction l generalizing b with
 | nil=>intro m;rfl
 | cons t l ih=>
  intro m
  simp only[List.cons_append,t78]
  cases u4e t with
  | none=>rfl
  | some r=>
   simp only
   cases u4s b r with
   | none=>rfl
   | some x=>exact ih x m
end
section
theorem o0d (n:Nat):decide ((n:Int)=0)=decide (n=0):=by simp
theorem p49 (t:u0g):t8d t=some (noT t):=by
 rw[r8v];unfold s6m noT
 simp only[o0d,t2n]
 cases decide (t.1=0)<;>cases decide (t.2.1=0)<;>cases decide (t.2.2.1=0)<;>cases decide (t.2.2.2.1=0)<;>cases decide (t.2.2.2.2.1.length=0)<;>cases decide (t.2.2.2.2.2.1.length=0)<;>cases t.2.2.2.2.2.2.1<;>rfl
theorem p5a (t:u0g):t4l t=some (noT t):=by
 rw[r9j];unfold s7b noT
 simp only[o0d,t2n]
 cases decide (t.1=0)<;>cases decide (t.2.1=0)<;>cases decide (t.2.2.1=0)<;>cases decide (t.2.2.2.1=0)<;>cases decide (t.2.2.2.2.1.length=0)<;>cases decide (t.2.2.2.2.2.1.length=0)<;>cases t.2.2.2.2.2.2.1<;>rfl
theorem p46 (b:u0i):t6p b=some (noB b):=by
 rw[r66];unfold s3v noB
 simp only[o0d]
 cases decide (b.1.length=0)<;>cases decide (b.2.1.length=0)<;>cases decide (b.2.2.1.length=0)<;>cases decide (b.2.2.2.1=0)<;>rfl
theorem p47 (b:u0i):t6u b=some (noB b):=by
 rw[r7i];unfold s37 noB
 simp only[o0d]
 cases decide (b.1.length=0)<;>cases decide (b.2.1.length=0)<;>cases decide (b.2.2.1.length=0)<;>cases decide (b.2.2.2.1=0)<;>cases decide (b.2.2.2.2=0)<;>rfl
theorem q0a (r:t89):o00.wt r=0+(u1f.wt r.2.1+(r.2.2.1.size+(0+p8j.wt r.2.2.2.2))):=rfl
theorem q30 (r:t89) (hw:o00.wt r≤549755813888):t8b r=some (u46 r):=by
 have hb:u0p=1099511627776:=rfl
 have hr:=q0a r
 have k1:=r4n r.2.1 (by omega)
 have k2:=t2u r.2.2.2.2 (by omega)
 have k3:=t7o r.2.2.1 (by omega)
 rw[r8q];unfold s6i
 rw[p49,p46]
 simp only[k1,k2,k3,r9u,r6i,zOb,t2n]
 unfold u46
 generalize u8j r.2.1=c1
 generalize u6l r.2.2.2.2=c2
 generalize u48 r.2.2.1=c3
 generalize noT r.2.1=c4
 generalize noB r.2.2.2.2=c5
 generalize decide (r.2.2.1.size=0)=c6
 generalize decide (r.2.1.2.1=3)=c7
 generalize decide (r.2.1.2.1=2)=c8
 generalize r.2.2.2.1=c9
 by_cases h1:r.1=1
 ·simp only[h1,decide_true,cond_true,if_true]
  cases c1<;>cases c5<;>cases c6<;>cases c7<;>cases c9<;>rfl
 ·by_cases h2:r.1=2
  ·simp only[h2,decide_true,cond_true,if_true]
   cases c1<;>cases c5<;>cases c6<;>cases c8<;>cases c9<;>rfl
  ·by_cases h3:r.1=3
   ·simp only[h3,decide_true,cond_true,if_true]
    cases c3<;>cases c4<;>cases c5<;>cases c9<;>rfl
   ·by_cases h4:r.1=4
    ·simp only[h4,decide_true,cond_true,if_true]
     cases c2<;>cases c4<;>cases c6<;>cases c9<;>rfl
    ·simp only[h1,h2,h3,h4,decide_false,cond_false,if_false]
theorem r2a (r:t89) (hw:o00.wt r≤549755813888):t4c r=some (u46 r):=by
 have hb:u0p=1099511627776:=rfl
 have hr:=q0a r
 have k1:=t25 r.2.1 (by omega)
 have k2:=t4u r.2.2.2.2 (by omega)
 have k3:=t23 r.2.2.1 (by omega)
 rw[r89];unfold s60
 simp only[k1,k2,k3,s1o,p5a,p47,zOb,t2n]
 unfold u46
 generalize u8j r.2.1=c1
 generalize u6l r.2.2.2.2=c2
 generalize u48 r.2.2.1=c3
 generalize noT r.2.1=c4
 generalize noB r.2.2.2.2=c5
 generalize decide (r.2.2.1.size=0)=c6
 generalize r.2.2.2.1=c9
 by_cases h1:r.1=1
 ·simp only[h1,show inB 1 1 4=true from rfl,decide_true,cond_true,if_true]
  generalize decide (r.2.1.2.1=3)=c7
  generalize decide (r.2.1.2.1=2)=c8
  cases c1<;>cases c5<;>cases c6<;>cases c7<;>cases c8<;>cases c9<;>rfl
 ·by_cases h2:r.1=2
  ·simp only[h2,show inB 2 1 4=true from rfl,decide_true,cond_true,if_true]
   generalize decide (r.2.1.2.1=3)=c7
   generalize decide (r.2.1.2.1=2)=c8
   cases c1<;>cases c5<;>cases c6<;>cases c7<;>cases c8<;>cases c9<;>rfl
  ·by_cases h3:r.1=3
   ·simp only[h3,show inB 3 1 4=true from rfl,decide_true,cond_true,if_true]
    cases c3<;>cases c4<;>cases c5<;>cases c9<;>rfl
   ·by_cases h4:r.1=4
    ·simp only[h4,show inB 4 1 4=true from rfl,decide_true,cond_true,if_true]
     cases c2<;>cases c4<;>cases c6<;>cases c9<;>rfl
    ·have:inB r.1 1 4=false:=by
      cases h:inB r.1 1 4
      ·rfl
      ·have:=r5b.mp h;omega
     simp only[h1,h2,h3,h4,this,decide_false,cond_false,if_false,Bool.not_false,cond_true]
end
section
theorem r3g {α:Type} {P:Prop} [Decidable P] {a b:α} (h:P):(bif decide P then a else b)=a:=by rw[decide_eq_true h];rfl
theorem q8z {α:Type} {n:Nat} {a b:α} (h:n≤1099511627776):(bif Nat.ble n z7w then a else b)=a:=by rw[u04 h];rfl
theorem u4i {n:Int} (h0:0≤n) (h1:n≤1000000000):u1j n=some (r4g n):=by
 obtain⟨m,rfl⟩:∃m:Nat,n=m:=⟨n.toNat,by omega⟩
 rw[r9v m (by omega)];rfl
theorem t24 {s:ByteArray} (h:s.size≤10000):u2e s=some (u0x s):=by
 rw[r9i];unfold s7a
 rw[u4i (by omega) (by omega)]
 simp only[zOb]
 have:=u3g (n:=(s.size:Int)) (by omega)
 rw[r3g (by omega)];rfl
theorem r7s (b:Bool):t0y b=some (p06 b):=by
 rw[q46];unfold r26
 cases b<;>rfl
theorem q7y {r:s22} (h:r.1.size≤100∧r.2.size≤100):(p1q r).size≤204:=by
 have q1:=u1w (s:=r.1) (by omega)
 have q2:=u1w (s:=r.2) (by omega)
 unfold p1q;rw[ByteArray.size_append];omega
theorem r7t {E:Type} (f:E→ByteArray) (l:List E) (s:ByteArray):l.foldl (fun s x=>s++f x) s=s++q0q f l:=r3h f l s
theorem s6d (t:u0g) (ht:u1f.wt t≤549755813888):t5x t=some (if u8j t=true then(t4p t,true) else(emp,false)):=by
 have hb:u0p=1099511627776:=rfl
 rw[q1q];unfold s91
 rw[t25 t (by omega)]
 simp only[zOb]
 cases hc:u8j t
 ·rfl
 ·have h:=r4d.mp hc
  obtain⟨z1,z2,z3,z4,z5⟩:=h.small
  have hi:=h.id;have hst:=h.st;have hsn:=h.snap;have hrl:=h.rlen
  have v1:=u3g (n:=t.1) (by omega)
  have v2:=u3g (n:=t.2.1) (by omega)
  have v3:=u3g (n:=t.2.2.1) (by omega)
  have v4:=u3g (n:=t.2.2.2.1) (by omega)
  have v5:=u3g (n:=(t.2.2.2.2.1.length:Int)) (by omega)
  have v6:=u3g (n:=(t.2.2.2.2.2.1.length:Int)) (by omega)
  have v7:=u1w (s:=t.2.2.2.2.2.2.2) (by omega)
  have L1:∀A:ByteArray,A.size≤1000→u77 (t,A,0)=some (.inl (t,A++q0q p1q t.2.2.2.2.1)):=fun A hA=>by
   have:=t4r u77 t.2.2.2.2.1 (fun(A:ByteArray) i=>(t,A,i)) (fun A r=>A++p1q r) (fun A=> .inl (t,A)) (fun i A=>A.size≤1000+i*204)
    (fun A _=>by rw[s5z];simp only[t2a,u0b,Nat.lt_irrefl,decide_false,cond_false])
    (fun i hi A hP=>by
     have hr:=z1 _ (List.getElem_mem hi)
     have hs:=q7y (r:=t.2.2.2.2.1[i]) (by omega)
     have hs' :=hs
     unfold p1q at hs'
     rw[ByteArray.size_append] at hs'
     refine⟨by rw[ByteArray.size_append,Nat.succ_mul];omega,?_⟩
     rw[s5z];simp only[t2a,u0b,hi,decide_true,cond_true,y7t hi,zTn,y8k (t:=u9o) hi,y7l (show i<4611686018427387904 by omega)]
     rw[t24 (by omega),t24 (by omega)]
     simp only[zOb]
     rw[r3g (by omega),r3g (by rw[ByteArray.size_append];omega),t7b];rfl) A (by omega)
   rw[r7t] at this
   exact this
  have L2:∀A:ByteArray,A.size≤10000→u6j (t,A,0)=some (.inl (t,A++q0q wrT t.2.2.2.2.2.1)):=fun A hA=>by
   have:=t4r u6j t.2.2.2.2.2.1 (fun(A:ByteArray) i=>(t,A,i)) (fun A r=>A++wrT r) (fun A=> .inl (t,A)) (fun i A=>A.size≤10000+i*304)
    (fun A _=>by rw[s2s];simp only[t0g,u0b,Nat.lt_irrefl,decide_false,cond_false])
    (fun i hi A hP=>by
     have hr:=z2 _ (List.getElem_mem hi)
     have q1:=u1w (s:=(t.2.2.2.2.2.1[i]).1) (by omega)
     have q2:=u1w (s:=(t.2.2.2.2.2.1[i]).2.1) (by omega)
     have q3:=u4n (t.2.2.2.2.2.1[i]).2.2
     refine⟨by unfold wrT;simp only[ByteArray.size_append,Nat.succ_mul];omega,?_⟩
     rw[s2s];simp only[t0g,u0b,hi,decide_true,cond_true,y7t hi,zTn,y8k (t:=u12) hi,y7l (show i<4611686018427387904 by omega)]
     rw[t24 (by omega),t24 (by omega),r7s]
     simp only[zOb]
     rw[r3g (by omega),r3g (by rw[ByteArray.size_append];omega),r3g (by simp only[ByteArray.size_append];omega),t7b,t7b];rfl) A (by omega)
   rw[r7t] at this
   exact this
  have n1:(q0q p1q t.2.2.2.2.1).size≤t.2.2.2.2.1.length*204:=t9i fun r hr=>q7y (by have:=z1 r hr;omega)
  have n2:(q0q wrT t.2.2.2.2.2.1).size≤t.2.2.2.2.2.1.length*304:=t9i fun w hw=>by
   have:=z2 w hw
   have q1:=u1w (s:=w.1) (by omega)
   have q2:=u1w (s:=w.2.1) (by omega)
   unfold wrT;rw[ByteArray.size_append,ByteArray.size_append,u4n];omega
  simp only[Bool.not_true,cond_false,if_true]
  rw[u4i (n:=t.1) (by omega) (by omega),u4i (n:=t.2.1) (by omega) (by omega),u4i (n:=t.2.2.1) (by omega) (by omega),u4i (n:=t.2.2.2.1) (by omega) (by omega),u4i (n:=(t.2.2.2.2.1.length:Int)) (by omega) (by omega)]
  simp only[zOb]
  rw[r3g (by omega),r3g (by simp only[ByteArray.size_append];omega),r3g (by simp only[ByteArray.size_append];omega),r3g (by simp only[ByteArray.size_append];omega),L1 _ (by simp only[ByteArray.size_append];omega)]
  simp only[zOb]
  rw[u4i (n:=(t.2.2.2.2.2.1.length:Int)) (by omega) (by omega)]
  simp only[zOb]
  rw[r3g (by simp only[ByteArray.size_append];omega),L2 _ (by simp only[ByteArray.size_append];omega)]
  simp only[zOb]
  rw[r7s,t24 (by omega)]
  simp only[zOb]
  rw[r3g (by simp only[ByteArray.size_append,u4n];omega),r3g (by simp only[ByteArray.size_append,u4n];omega)]
  unfold t4p
  simp only[t7b]
theorem p7m {l:List u0g} {t:u0g} (h:t∈l) (hl:(Ty.sl u1f).wt l≤549755813888):u1f.wt t≤549755813888:=Nat.le_trans (r5n h) hl
theorem q6m (l:List u0g) (hl:(Ty.sl u1f).wt l≤549755813888) (hn:l.length≤10000) (h:∀t∈l,TxnR t):t5z l=some (r6r l):=by
 have v1:=u3g (n:=(l.length:Int)) (by omega)
 have L:u8a (l,r4g (l.length:Int),0)=some (.inl (r4g (l.length:Int)++q0q t4p l)):=by
  have:=t4r u8a l (fun(A:ByteArray) i=>(l,A,i)) (fun A r=>A++t4p r) (fun A=> .inl A) (fun i A=>A.size≤2+i*300)
   (fun A _=>by rw[s53];simp only[t2e,u0b,Nat.lt_irrefl,decide_false,cond_false])
   (fun i hi A hP=>by
    have hm:=List.getElem_mem hi
    have hr:=s2c (h _ hm)
    refine⟨by rw[ByteArray.size_append,Nat.succ_mul];omega,?_⟩
    rw[s53];simp only[t2e,u0b,hi,decide_true,cond_true,y7t hi,zTn,y8k (t:=u1f) hi,y7l (show i<4611686018427387904 by omega)]
    rw[s6d _ (p7m hm hl),if_pos (r4d.mpr (h _ hm))]
    simp only[zOb]
    rw[r3g (by omega)]) (r4g (l.length:Int)) (by omega)
  rw[r7t] at this
  exact this
 rw[q15];unfold r0h
 rw[u4i (by omega) (by omega)]
 simp only[zOb]
 rw[L];rfl
theorem q3u (b:u0i) (hw:p8j.wt b≤549755813888):t8e b=some (if u6l b=true then(t7y b,true) else(emp,false)):=by
 have hbw:=r4r b
 rw[r80];unfold s6r
 rw[t4u b hw]
 simp only[zOb]
 cases hc:u6l b
 ·rfl
 ·have h:=q21.mp hc
  obtain⟨w1,w2,w3⟩:=p4f.mp h.vs
  have hcs:=h.cs;have hx:=h.next;have hp:=h.plen;have hr:=h.rlen
  have q1:=u3g (n:=b.2.2.2.1) (by omega)
  have q2:=u3g (n:=b.2.2.2.2) (by omega)
  have q3:=u3g (n:=(b.1.length:Int)) (by omega)
  have q4:=t9i (f:=p11) (k:=22) (l:=b.1) (fun v hv=>q5v (w1 v hv))
  have q5:=s8u (l:=b.2.1) (by omega) (fun t ht=>(h.past t ht).1)
  have q6:=s8u (l:=b.2.2.1) (by omega) (fun t ht=>(h.ready t ht).1)
  have L:∀A:ByteArray,A.size≤1000→u6f (b,A,0)=some (.inl (b,A++q0q p11 b.1)):=fun A hA=>by
   have:=t4r u6f b.1 (fun(A:ByteArray) i=>(b,A,i)) (fun A r=>A++p11 r) (fun A=> .inl (b,A)) (fun i A=>A.size≤1000+i*22)
    (fun A _=>by rw[s2i];simp only[u96,u0b,Nat.lt_irrefl,decide_false,cond_false])
    (fun i hi A hP=>by
     have hm:=w1 _ (List.getElem_mem hi)
     have hr:=q5v hm
     have hv:=s3p hm
     have s1:=u1w (s:=(b.1[i]).1) (by omega)
     have s2:=u1w (s:=(b.1[i]).2.1) (by omega)
     have s3:=u4n (b.1[i]).2.2.1
     have s4:=u3g (n:=(b.1[i]).2.2.2) (by omega)
     refine⟨by rw[ByteArray.size_append,Nat.succ_mul];omega,?_⟩
     rw[s2i];simp only[u96,u0b,hi,decide_true,cond_true,y7t hi,zTn,y8k (t:=u0c) hi,y7l (show i<4611686018427387904 by omega)]
     rw[t24 (by omega),t24 (by omega),r7s,u4i (by omega) (by omega)]
     simp only[zOb]
     rw[r3g (by omega),r3g (by simp only[ByteArray.size_append];omega),r3g (by simp only[ByteArray.size_append];omega),r3g (by simp only[ByteArray.size_append];omega)]
     unfold p11
     simp only[t7b]) A (by omega)
   rw[r7t] at this
   exact this
  simp only[Bool.not_true,cond_false,if_true]
  rw[u4i (n:=b.2.2.2.1) (by omega) (by omega),u4i (n:=b.2.2.2.2) (by omega) (by omega),u4i (n:=(b.1.length:Int)) (by omega) (by omega)]
  simp only[zOb]
  rw[r3g (by omega),r3g (by simp only[ByteArray.size_append];omega),L _ (by simp only[ByteArray.size_append];omega)]
  simp only[zOb]
  rw[q6m b.2.1 (by omega) (by omega) (fun t ht=>(h.past t ht).1),q6m b.2.2.1 (by omega) (by omega) (fun t ht=>(h.ready t ht).1)]
  simp only[zOb]
  rw[r3g (by simp only[ByteArray.size_append];omega),r3g (by simp only[ByteArray.size_append];omega)]
  unfold t7y
  simp only[t7b]
end
section
theorem p5r {W:Int×ByteArray×Int×Int→Option ((Int×ByteArray×Int)⊕Unit)}
 (hW:∀x,W x=(bif decide (x.2.2.2<(8:Int)) then(bif decide (Int.tmod x.1 (2:Int)=(1:Int)) then W (IntKind.u32.wrap ((BitVec.ofInt IntKind.u32.bits (IntKind.u32.wrap (Int.tdiv x.1 (2:Int)))^^^BitVec.ofInt IntKind.u32.bits (3558460437:Int)).toNat:Int),x.2.1,x.2.2.1,IntKind.i64.wrap (x.2.2.2+(1:Int)))
  else W (IntKind.u32.wrap (Int.tdiv x.1 (2:Int)),x.2.1,x.2.2.1,IntKind.i64.wrap (x.2.2.2+(1:Int)))) else some (.inl (x.1,x.2.1,x.2.2.1)))) (t:ByteArray) (k:Int):
 ∀(n:Nat) (x:Int) (i:Nat),i+n=8→W (x,t,k,(i:Int))=some (.inl (q0f n x,t,k)):=by
 intro n
 induction n with
 | zero=>
  intro x i hi
  have:i=8:=by omega
  subst this
  rw[hW];rfl
 | succ n ih=>
  intro x i hi
  rw[hW]
  simp only
  rw[r3g (by omega),y7l (by omega),ih _ (i+1) (by omega),ih _ (i+1) (by omega)]
  rw[show q0f (n+1) x=q0f n (p3z x) from rfl]
  unfold p3z p9c
  cases decide (Int.tmod x 2=1)<;>rfl
theorem p5s (f:Int→UInt8→Int) (t:ByteArray) {W:Int×ByteArray×Int→Option (Int⊕Unit)} (ht:t.size≤1099511627776)
 (hend:∀x,W (x,t,(t.size:Int))=some (.inl x))
 (hstep:∀(i:Nat),i<t.size→ ∀x,W (x,t,(i:Int))=W (f x (t.data.toList.getD i 0),t,((i+1:Nat):Int))) (x:Int):W (x,t,0)=some (.inl (t.data.toList.foldl f x)):=by
 have e:t.size=t.data.toList.length:=r1l t
 exact t4r W t.data.toList (fun x i=>(x,t,i)) f (fun x=> .inl x) (fun _ _=>True) (fun x _=>by rw[←e];exact hend x)
  (fun i hi x _=>⟨trivial,by
   rw[hstep i (by rw[e];exact hi) x]
   congr 2
   rw[List.getD_eq_getElem?_getD,List.getElem?_eq_getElem hi];rfl⟩) x trivial
theorem r5u (x:Int) (t:ByteArray) (ht:t.size≤1099511627776):s0s (x,t)=some (t.data.toList.foldl q9n x):=by
 have L:=p5s q9n t (W:=t2i) ht
  (fun x=>by rw[s5v];simp only[t16,u0b,Nat.lt_irrefl,decide_false,cond_false])
  (fun i hi x=>by
   rw[s5v];simp only[t16,u0b,hi,decide_true,cond_true,y7t hi,zTn]
   have:=p5r (W:=t2j) (fun x=>r7o x) t (i:Int) 8 (p9c x (IntKind.u32.wrap ((t.data.toList.getD i 0).toNat:Int))) 0 rfl
   unfold p9c at this
   rw[show((0:Nat):Int)=0 from rfl] at this
   rw[this]
   simp only[zOb,y7l (show i<4611686018427387904 by omega)]
   rfl) x
 rw[q1m];unfold s9x
 simp only[L,zOb]
theorem s23 (t:ByteArray) (ht:t.size≤1099511627776):t4d t=some (p0j t):=by
 rw[q4x];unfold r2x p0j
 have e1:decide ((t.size:Int) >20000)= !decide (t.size≤20000):=by by_cases h:t.size≤20000<;>simp[h] <;>omega
 rw[e1,r6g];unfold s63
 rw[r5u _ _ ht]
 simp only[zOb]
 rw[r0r];unfold s96
 simp only[zOb]
 by_cases h:t.size≤20000
 ·rw[decide_eq_true h,if_pos h]
  simp only[Bool.not_true,cond_false]
  rw[r3g (by rw[u45];simp;omega)]
  rfl
 ·rw[decide_eq_false h,if_neg h];rfl
theorem t7f (k:Int):(y7g [k]).size=1:=u45 _
theorem u9b (r:t89) (hw:o00.wt r≤549755813888):u2r r=some (u1d r):=by
 have hr:=q0a r
 rw[r43];unfold s1b u1d
 rw[r2a r hw]
 simp only[zOb]
 cases hc:u46 r
 ·rfl
 ·have h:=p6k.mp hc
  have hz:=s19 h
  simp only[Bool.not_true,cond_false,if_true]
  cases h with
  | thr t h hs=>
   have:=s2c h
   have ht:=s6d t (by have:u1f.wt t≤o00.wt (1,t,emp,false,u2s):=by rw[hr];simp only;omega
                      omega)
   rw[if_pos (r4d.mpr h)] at ht
   simp only[Int.reduceEq,decide_true,decide_false,cond_true,cond_false]
   rw[ht]
   simp only[zOb]
   rw[r3g (by rw[t7f];omega),s23 _ (by rw[ByteArray.size_append,t7f];omega)]
   rfl
  | rdy t h hs=>
   have:=s2c h
   have ht:=s6d t (by have:u1f.wt t≤o00.wt (2,t,emp,false,u2s):=by rw[hr];simp only;omega
                      omega)
   rw[if_pos (r4d.mpr h)] at ht
   simp only[Int.reduceEq,decide_true,decide_false,cond_true,cond_false]
   rw[ht]
   simp only[zOb]
   rw[r3g (by rw[t7f];omega),s23 _ (by rw[ByteArray.size_append,t7f];omega)]
   rfl
  | fin n y h=>
   have:=u2o h
   have q:=u1w (s:=n) (by omega)
   simp only[Int.reduceEq,decide_true,decide_false,cond_true,cond_false]
   rw[t24 (by omega)]
   simp only[zOb]
   rw[r3g (by rw[t7f];omega),r7s]
   simp only[zOb]
   rw[r3g (by simp only[ByteArray.size_append,t7f,u4n];omega),s23 _ (by simp only[ByteArray.size_append,t7f,u4n];omega),t7b]
   rfl
  | bas b h=>
   have:=q22 h
   have a1:=(p4f.mp h.vs).2.2
   have a2:=h.plen
   have a3:=h.rlen
   have ht:=q3u b (by have:p8j.wt b≤o00.wt (4,u5y,emp,false,b):=by rw[hr];simp only;omega
                      omega)
   rw[if_pos (q21.mpr h)] at ht
   simp only[Int.reduceEq,decide_true,decide_false,cond_true,cond_false]
   rw[ht]
   simp only[zOb]
   rw[r3g (by rw[t7f];omega),s23 _ (by rw[ByteArray.size_append,t7f];omega)]
   rfl
end
section
def inT (s:ByteArray) (c:Cur):Prop:=0≤c.1∧c.1≤(s.size:Int)
def bad (c:Cur) (k:Int):Int:=if c.2=true then k else 0
theorem u34 {s:ByteArray} {c:Cur} (h:inT s c):inT s (u3w s c).2∧0≤(u3w s c).1∧(u3w s c).1≤1000000000∧c.1+1≤(u3w s c).2.1+bad (u3w s c).2 1:=by
 unfold u3w
 split
 ·refine⟨h,by simp,by simp,?_⟩
  simp only[bad,if_true];omega
 ·rename_i q
  simp only[not_or,Bool.not_eq_true,Bool.not_eq_false] at q
  have:=t3g q.2
  refine⟨⟨?_,?_⟩,?_,?_,?_⟩
  ·simp only;omega
  ·simp only;omega
  ·simp only;omega
  ·simp only;omega
  ·simp only[bad,Bool.false_eq_true,if_false];omega
theorem q2k {t:ByteArray} {a:Int} (h:(u0s t a).2.2=true):a+1+((u0s t a).1.size:Int)≤(u0s t a).2.1∧0≤a:=by
 unfold u0s at h ⊢
 split at h
 ·rename_i hc
  rw[if_pos hc]
  have:=t3g hc.1
  simp only[ByteArray.size_extract]
  omega
 ·cases h
theorem u8i {s:ByteArray} {c:Cur} (h:inT s c):inT s (u2l s c).2∧c.1+1+((u2l s c).1.size:Int)≤(u2l s c).2.1+bad (u2l s c).2 1:=by
 unfold u2l
 split
 ·refine⟨h,?_⟩
  simp only[bad,if_true,emp,ByteArray.size];simp
 ·rename_i q
  simp only[not_or,Bool.not_eq_true,Bool.not_eq_false] at q
  have h1:=s73 q.2
  have h2:=q2k q.2
  refine⟨⟨?_,?_⟩,?_⟩
  ·simp only;omega
  ·simp only;omega
  ·simp only[bad,Bool.false_eq_true,if_false];omega
theorem p0e {s:ByteArray} {c:Cur} (h:inT s c):inT s (r93 s c).2∧c.1+1≤(r93 s c).2.1+bad (r93 s c).2 1:=by
 unfold r93
 split
 ·refine⟨h,?_⟩
  simp only[bad,if_true];omega
 ·rename_i q
  simp only[not_or,Decidable.not_not] at q
  unfold inT
  simp only[bad,Bool.false_eq_true,if_false];omega
theorem u8c (c:Cur) {k:Int} (hk:0≤k):0≤bad c k∧bad c k≤k:=by unfold bad;split<;>omega
theorem r3f {c c' :Cur} (h:c.2=true→c'.2=true) {k:Int} (hk:0≤k):bad c k≤bad c' k:=by
 unfold bad
 by_cases q:c.2=true
 ·rw[if_pos q,if_pos (h q)];omega
 ·rw[if_neg q];split<;>omega
def p6w {E:Type} (w:E→Nat) (k:Int) (s:ByteArray) (f:Cur→E×Cur):Prop:= ∀c,inT s c→inT s (f c).2∧c.1+1+(w (f c).1:Int)≤(f c).2.1+bad (f c).2 k
theorem t6c {E:Type} {w:E→Nat} {k:Int} {s:ByteArray} {f:Cur→E×Cur} (hk:0≤k) (hf:p6w w k s f):∀(n:Nat) (c:Cur) (a:List E),inT s c→
 inT s (u33 f n c a).2∧c.1+((u33 f n c a).1.length+((u33 f n c a).1.map w).sum:Nat)≤(u33 f n c a).2.1+(a.length+(a.map w).sum:Nat)+bad (u33 f n c a).2 k
 | 0,c,a,h=>⟨h,by have:=u8c (u33 f 0 c a).2 hk;simp only[u33] at*;omega⟩
 | n+1,c,a,h=>by
  simp only[u33]
  split
  ·exact⟨h,by have:=u8c c hk;simp only;omega⟩
  ·obtain⟨h1,h2⟩:=hf c h
   obtain⟨h3,h4⟩:=t6c hk hf n (f c).2 (a++ [(f c).1]) h1
   refine⟨h3,?_⟩
   have e1:(a++ [(f c).1]).length=a.length+1:=by simp
   have e2:((a++ [(f c).1]).map w).sum=(a.map w).sum+w (f c).1:=by simp
   rw[e1,e2] at h4
   have hm:bad (f c).2 k≤bad (u33 f n (f c).2 (a++ [(f c).1])).2 k∧(bad (f c).2 k≠0→u33 f n (f c).2 (a++ [(f c).1])=(a++ [(f c).1],(f c).2)):=by
    by_cases q:(f c).2.2=true
    ·rw[t1m q];exact⟨Int.le_refl _,fun _=>rfl⟩
    ·have:bad (f c).2 k=0:=by unfold bad;rw[if_neg q]
     rw[this];exact⟨(u8c _ hk).1,fun h=>absurd rfl h⟩
   by_cases z:bad (f c).2 k=0
   ·omega
   ·have e:=hm.2 z
    rw[e]
    simp only[e1,e2]
    omega
theorem r95 (s:ByteArray):p6w u9o.wt 2 s (p0f s):=fun c h=>by
 obtain⟨h1,h2⟩:=u8i h
 obtain⟨h3,h4⟩:=u8i h1
 have b1:=r3f (c:=(u2l s c).2) (c' :=(u2l s (u2l s c).2).2) s17 (k:=1) (by omega)
 have b2:bad (u2l s (u2l s c).2).2 2=2*bad (u2l s (u2l s c).2).2 1:=by unfold bad;split<;>omega
 refine⟨h3,?_⟩
 have e:u9o.wt (p0f s c).1=(u2l s c).1.size+(u2l s (u2l s c).2).1.size:=rfl
 have e2:(p0f s c).2=(u2l s (u2l s c).2).2:=rfl
 rw[e,e2];omega
theorem r7w (s:ByteArray):p6w u12.wt 3 s (rWr s):=fun c h=>by
 obtain⟨h1,h2⟩:=u8i h
 obtain⟨h3,h4⟩:=u8i h1
 obtain⟨h5,h6⟩:=p0e h3
 have b1:=r3f (c:=(u2l s c).2) (c' :=(u2l s (u2l s c).2).2) s17 (k:=1) (by omega)
 have b2:=r3f (c:=(u2l s (u2l s c).2).2) (c' :=(r93 s (u2l s (u2l s c).2).2).2) r35 (k:=1) (by omega)
 have b3:bad (r93 s (u2l s (u2l s c).2).2).2 3=3*bad (r93 s (u2l s (u2l s c).2).2).2 1:=by unfold bad;split<;>omega
 refine⟨h5,?_⟩
 have e:u12.wt (rWr s c).1=(u2l s c).1.size+((u2l s (u2l s c).2).1.size+0):=rfl
 have e2:(rWr s c).2=(r93 s (u2l s (u2l s c).2).2).2:=rfl
 rw[e,e2];omega
theorem r96 (s:ByteArray):p6w u0c.wt 4 s (p0h s):=fun c h=>by
 obtain⟨h1,h2⟩:=r7w s c h
 obtain⟨h3,h4,h5,h6⟩:=u34 h1
 have b1:=r3f (c:=(rWr s c).2) (c' :=(u3w s (rWr s c).2).2) u7j (k:=3) (by omega)
 have b3:bad (u3w s (rWr s c).2).2 4=bad (u3w s (rWr s c).2).2 1+bad (u3w s (rWr s c).2).2 3:=by unfold bad;split<;>omega
 refine⟨h3,?_⟩
 have e:u0c.wt (p0h s c).1=u12.wt (rWr s c).1:=rfl
 have e2:(p0h s c).2=(u3w s (rWr s c).2).2:=rfl
 rw[e,e2];omega
theorem q7w (m:Nat) (s:ByteArray):p6w u1f.wt 20 s (q2i m s):=fun c h=>by
 unfold q2i
 simp only
 obtain⟨a1,a2,a3,a4⟩:=u34 h
 generalize hA:u3w s c=A at a1 a2 a3 a4 ⊢
 obtain⟨b1,b2,b3,b4⟩:=u34 a1
 have mB:A.2.2=true→(u3w s A.2).2.2=true:=u7j
 generalize hB:u3w s A.2=B at b1 b2 b3 b4 mB ⊢
 obtain⟨d1,d2,d3,d4⟩:=u34 b1
 have mD:B.2.2=true→(u3w s B.2).2.2=true:=u7j
 generalize hD:u3w s B.2=D at d1 d2 d3 d4 mD ⊢
 obtain⟨e1,e2,e3,e4⟩:=u34 d1
 have mE:D.2.2=true→(u3w s D.2).2.2=true:=u7j
 generalize hE:u3w s D.2=E at e1 e2 e3 e4 mE ⊢
 obtain⟨f1,f2,f3,f4⟩:=u34 e1
 have mF:E.2.2=true→(u3w s E.2).2.2=true:=u7j
 generalize hF:u3w s E.2=F at f1 f2 f3 f4 mF ⊢
 obtain⟨g1,g2⟩:=t6c (by omega) (r95 s) (min F.1.toNat m) F.2 [] f1
 have mG:F.2.2=true→(u33 (p0f s) (min F.1.toNat m) F.2 []).2.2=true:=fun q=>by rw[t1m q];exact q
 generalize hG:u33 (p0f s) (min F.1.toNat m) F.2 [] =G at g1 g2 mG ⊢
 obtain⟨k1,k2,k3,k4⟩:=u34 g1
 have mK:G.2.2=true→(u3w s G.2).2.2=true:=u7j
 generalize hK:u3w s G.2=K at k1 k2 k3 k4 mK ⊢
 obtain⟨l1,l2⟩:=t6c (by omega) (r7w s) (min K.1.toNat m) K.2 [] k1
 have mL:K.2.2=true→(u33 (rWr s) (min K.1.toNat m) K.2 []).2.2=true:=fun q=>by rw[t1m q];exact q
 generalize hL:u33 (rWr s) (min K.1.toNat m) K.2 [] =L at l1 l2 mL ⊢
 obtain⟨o1,o2⟩:=p0e l1
 have mO:L.2.2=true→(r93 s L.2).2.2=true:=r35
 generalize hO:r93 s L.2=O at o1 o2 mO ⊢
 obtain⟨p1,p2⟩:=u8i o1
 have mP:O.2.2=true→(u2l s O.2).2.2=true:=s17
 generalize hP:u2l s O.2=P at p1 p2 mP ⊢
 refine⟨p1,?_⟩
 have e:u1f.wt (A.1,B.1,D.1,E.1,G.1,L.1,O.1,P.1)=0+(0+(0+(0+((Ty.sl u9o).wt G.1+((Ty.sl u12).wt L.1+(0+P.1.size)))))):=rfl
 have eG:(Ty.sl u9o).wt G.1=G.1.length+(G.1.map u9o.wt).sum:=rfl
 have eL:(Ty.sl u12).wt L.1=L.1.length+(L.1.map u12.wt).sum:=rfl
 simp only[List.length_nil,List.map_nil,List.sum_nil] at g2 l2
 rw[e,eG,eL]
 by_cases q:P.2.2=true
 ·have:bad P.2 20=20:=by unfold bad;rw[if_pos q]
  rw[this]
  have t1:=(u8c A.2 (k:=1) (by omega)).2
  have t2:=(u8c B.2 (k:=1) (by omega)).2
  have t3:=(u8c D.2 (k:=1) (by omega)).2
  have t4:=(u8c E.2 (k:=1) (by omega)).2
  have t5:=(u8c F.2 (k:=1) (by omega)).2
  have t6:=(u8c G.2 (k:=2) (by omega)).2
  have t7:=(u8c K.2 (k:=1) (by omega)).2
  have t8:=(u8c L.2 (k:=3) (by omega)).2
  have t9:=(u8c O.2 (k:=1) (by omega)).2
  have t10:=(u8c P.2 (k:=1) (by omega)).2
  omega
 ·have zP:P.2.2=false:=by simpa using q
  have z:∀ {x y:Cur},(x.2=true→y.2=true)→y.2=false→x.2=false:=fun {x y} i j=>by
   cases w:x.2
   ·rfl
   ·rw[i w] at j;cases j
  have zO:=z mP zP
  have zL:=z mO zO
  have zK:=z mL zL
  have zG:=z mK zK
  have zF:=z mG zG
  have zE:=z mF zF
  have zD:=z mE zE
  have zB:=z mD zD
  have zA:=z mB zB
  simp only[bad,zP,zO,zL,zK,zG,zF,zE,zD,zB,zA,Bool.false_eq_true,if_false] at*
  omega
theorem r5g (m:Nat) (s:ByteArray):p6w u1f.wt 20 s (u8h m s):=fun c h=>by
 obtain⟨h1,h2⟩:=q7w m s c h
 refine⟨h1,?_⟩
 have:bad (q2i m s c).2 20≤bad (u8h m s c).2 20:=r3f (fun q=>by unfold u8h;simp only[q,Bool.true_or]) (by omega)
 have e1:(u8h m s c).1=(q2i m s c).1:=rfl
 have e2:(u8h m s c).2.1=(q2i m s c).2.1:=rfl
 rw[e1,e2];omega
end
section
theorem gt1 (n:Nat):decide ((n:Int) >1)=decide (1<n):=by simp;omega
theorem eq1 (n:Nat):decide ((n:Int)=1)=decide (n=1):=by simp;omega
theorem r9l {E X R U:Type} {s:ByteArray} (W:X→Option (R⊕U)) (mk:Cur→List E→Int→X) (res:Cur→List E→R) (f:Cur→E×Cur) (N:Nat)
 (hf:∀c,inT s c→inT s (f c).2)
 (hend:∀c a (i:Nat),(N≤i∨c.2=true)→W (mk c a (i:Int))=some (.inl (res c a)))
 (hstep:∀c a (i:Nat),i<N→c.2=false→inT s c→a.length≤i→W (mk c a (i:Int))=W (mk (f c).2 (a++ [(f c).1]) ((i+1:Nat):Int))):
 ∀(k i:Nat) c a,i+k=N→inT s c→a.length≤i→W (mk c a (i:Int))=some (.inl (res (u33 f k c a).2 (u33 f k c a).1)):=by
 intro k
 induction k with
 | zero=>intro i c a hi hc ha;exact hend c a i (.inl (by omega))
 | succ k ih=>
  intro i c a hi hc ha
  simp only[u33]
  split
  ·rename_i q;exact hend c a i (.inr q)
  ·rename_i q
   rw[hstep c a i (by omega) (by simpa using q) hc ha,ih (i+1) _ _ (by omega) (hf c hc) (by simp;omega)]
theorem q83 {E:Type} {w:E→Nat} {k:Int} {s:ByteArray} {f:Cur→E×Cur} (h:p6w w k s f):∀c,inT s c→inT s (f c).2:=fun c hc=>(h c hc).1
end
section
theorem p0g {m k:Nat} {s:ByteArray} {c:Cur} (h:inT s c):inT s (t3j m k s c).2∧c.1+((Ty.sl u1f).wt (t3j m k s c).1:Nat)≤(t3j m k s c).2.1+20+1:=by
 obtain⟨h1,h2,h3,h4⟩:=u34 h
 obtain⟨g1,g2⟩:=t6c (by omega) (r5g m s) (min (u3w s c).1.toNat k) (u3w s c).2 [] h1
 refine⟨g1,?_⟩
 have e:(Ty.sl u1f).wt (t3j m k s c).1=(t3j m k s c).1.length+((t3j m k s c).1.map u1f.wt).sum:=rfl
 rw[e]
 have t1:=(u8c (u3w s c).2 (k:=1) (by omega)).2
 have t2:=(u8c (u33 (u8h m s) (min (u3w s c).1.toNat k) (u3w s c).2 []).2 (k:=20) (by omega)).2
 unfold t3j
 simp only[List.length_nil,List.map_nil,List.sum_nil] at g2
 omega
theorem p0d (m:Lim) {s:ByteArray} {c:Cur} (h:inT s c):inT s (s58 m s c).2∧(p8j.wt (s58 m s c).1:Int)≤(s.size:Int)+100:=by
 unfold s58
 simp only
 obtain⟨a1,a2,a3,a4⟩:=u34 h
 obtain⟨b1,b2,b3,b4⟩:=u34 a1
 obtain⟨d1,d2,d3,d4⟩:=u34 b1
 obtain⟨g1,g2⟩:=t6c (by omega) (r96 s) (min (u3w s (u3w s (u3w s c).2).2).1.toNat m.v) (u3w s (u3w s (u3w s c).2).2).2 [] d1
 obtain⟨p1,p2⟩:=p0g (m:=m.t) (k:=m.p) g1
 obtain⟨q1,q2⟩:=p0g (m:=m.t) (k:=m.r) p1
 refine⟨q1,?_⟩
 have t1:=(u8c (u33 (p0h s) (min (u3w s (u3w s (u3w s c).2).2).1.toNat m.v) (u3w s (u3w s (u3w s c).2).2).2 []).2 (k:=4) (by omega)).2
 have u1:=(u8c (u3w s c).2 (k:=1) (by omega)).2
 have u2:=(u8c (u3w s (u3w s c).2).2 (k:=1) (by omega)).2
 have u3:=(u8c (u3w s (u3w s (u3w s c).2).2).2 (k:=1) (by omega)).2
 generalize u33 (p0h s) (min (u3w s (u3w s (u3w s c).2).2).1.toNat m.v) (u3w s (u3w s (u3w s c).2).2).2 [] =vs at*
 simp only[List.length_nil,List.map_nil,List.sum_nil] at g2
 have e:=r4r (vs.1,(t3j m.t m.p s vs.2).1,(t3j m.t m.r s (t3j m.t m.p s vs.2).2).1,(u3w s c).1,(u3w s (u3w s c).2).1)
 simp only at e
 have eV:(Ty.sl u0c).wt vs.1=vs.1.length+(vs.1.map u0c.wt).sum:=rfl
 unfold inT at q1 h
 rw[e,eV]
 omega
end
section
theorem t31 {s:ByteArray} (c:Cur) (hs:s.size≤u0p):u16 (s,c)=some ((u3w s c).1,s,(u3w s c).2):=by
 rw[q48];unfold r28 u3w
 simp only[r5s s c.1 hs,zOb]
 cases h1:c.2
 ·cases h2:(u0v s c.1).2.2<;>simp
 ·simp
theorem t6e {s:ByteArray} (c:Cur) (hs:s.size≤u0p):u1n (s,c)=some ((u2l s c).1,s,(u2l s c).2):=by
 rw[r1o];unfold t7w u2l
 simp only[s88 s c.1 hs,zOb]
 cases h1:c.2
 ·cases h2:(u0s s c.1).2.2
  ·simp[emp]
  ·simp
 ·simp[emp]
theorem r3u {s:ByteArray} {c:Cur} (hc:inT s c) (hs:s.size≤u0p):u4z (s,c)=some ((r93 s c).1,s,(r93 s c).2):=by
 have hb:u0p=1099511627776:=rfl
 unfold inT at hc
 obtain⟨k,hk⟩:∃k:Nat,c.1=k:=⟨c.1.toNat,by omega⟩
 rw[r47];unfold s1f r93
 simp only[hk]
 cases h1:c.2
 ·by_cases h2:k<s.size
  ·have e1:decide ((k:Int)≥(s.size:Int))=false:=decide_eq_false (by omega)
   have e3:IntKind.i64.wrap ((k:Int)+1)=(k:Int)+1:=y4y (by omega) (by omega)
   have e5:IntKind.i64.wrap ((k:Int)+1 - 1)=k:=by rw[y4y (by omega) (by omega)];omega
   rw[e1,e3,e5]
   simp only[cond_false,zOb,y7t h2,cond_true,zTn,gt1,eq1]
   rw[show(s.data.toList.getD k 0).toNat=t1b s k from rfl]
   by_cases h3:1<t1b s k
   ·simp[h3]
   ·have h3' :t1b s k≤1:=by omega
    simp[h3,h3',h2]
  ·have e1:decide ((k:Int)≥(s.size:Int))=true:=decide_eq_true (by omega)
   rw[e1]
   simp only[cond_false,zOb,cond_true]
   rw[if_pos (.inr (.inl (by omega)))]
 ·simp
theorem r8l {n k:Int} {i:Nat} {c:Cur} (h:min n.toNat k.toNat≤i∨c.2=true):((bif decide ((i:Int)<n) then(bif decide ((i:Int)<k) then some (!c.2) else some false) else some false:Option Bool))=some false:=by
 rcases h with h | h
 ·by_cases q:(i:Int)<n
  ·rw[decide_eq_true q,decide_eq_false (show ¬(i:Int)<k by omega)];rfl
  ·rw[decide_eq_false q];rfl
 ·rw[h];cases decide ((i:Int)<n)<;>cases decide ((i:Int)<k)<;>rfl
theorem r4t {n k:Int} {i:Nat} {c:Cur} (h:i<min n.toNat k.toNat) (hc:c.2=false):((bif decide ((i:Int)<n) then(bif decide ((i:Int)<k) then some (!c.2) else some false) else some false:Option Bool))=some true:=by
 rw[decide_eq_true (show(i:Int)<n by omega),decide_eq_true (show(i:Int)<k by omega),hc];rfl
theorem p3u {s:ByteArray} (hs:s.size≤u0p) (z t:u0g) (n:Int) {c:Cur} (hc:inT s c) (ht:t.2.2.2.2.1= []):
 u73 (z,(s,c),t,n,0)=some (.inl (z,(s,(u33 (p0f s) (min n.toNat 10) c []).2),(t.1,t.2.1,t.2.2.1,t.2.2.2.1,(u33 (p0f s) (min n.toNat 10) c []).1,t.2.2.2.2.2))):=by
 have L:=r9l (s:=s) u73 (fun(c:Cur) (a:List s22) i=>(z,(s,c),((t.1,t.2.1,t.2.2.1,t.2.2.2.1,a,t.2.2.2.2.2):u0g),n,i))
  (fun(c:Cur) (a:List s22)=>(z,(s,c),((t.1,t.2.1,t.2.2.1,t.2.2.2.1,a,t.2.2.2.2.2):u0g))) (p0f s) (min n.toNat 10) (q83 (r95 s))
  (fun c a i h=>by rw[s5s];simp only[t14];rw[r8l (k:=10) h];rfl)
  (fun c a i h hc2 hin ha=>by
   rw[s5s];simp only[t14];rw[r4t (k:=10) h hc2]
   simp only[zOb,cond_true]
   rw[t6e c hs]
   simp only[zOb]
   rw[t6e _ hs]
   simp only[zOb]
   rw[q8z (by simp;omega),y7l (by omega)]
   rfl) (min n.toNat 10) 0 c [] (by omega) hc (by simp)
 obtain⟨t1,t2,t3,t4,t5,t6⟩:=t
 simp only at ht
 subst ht
 exact L
theorem p52 {s:ByteArray} (hs:s.size≤u0p) (z t:u0g) (n:Int) {c:Cur} (hc:inT s c) (ht:t.2.2.2.2.2.1= []):
 u6h (z,(s,c),t,n,0)=some (.inl (z,(s,(u33 (rWr s) (min n.toNat 10) c []).2),(t.1,t.2.1,t.2.2.1,t.2.2.2.1,t.2.2.2.2.1,(u33 (rWr s) (min n.toNat 10) c []).1,t.2.2.2.2.2.2))):=by
 have L:=r9l (s:=s) u6h (fun(c:Cur) (a:List WrT) i=>(z,(s,c),((t.1,t.2.1,t.2.2.1,t.2.2.2.1,t.2.2.2.2.1,a,t.2.2.2.2.2.2):u0g),n,i))
  (fun(c:Cur) (a:List WrT)=>(z,(s,c),((t.1,t.2.1,t.2.2.1,t.2.2.2.1,t.2.2.2.2.1,a,t.2.2.2.2.2.2):u0g))) (rWr s) (min n.toNat 10) (q83 (r7w s))
  (fun c a i h=>by rw[s2o];simp only[t0c];rw[r8l (k:=10) h];rfl)
  (fun c a i h hc2 hin ha=>by
   rw[s2o];simp only[t0c];rw[r4t (k:=10) h hc2]
   simp only[zOb,cond_true]
   rw[t6e c hs]
   simp only[zOb]
   rw[t6e _ hs]
   simp only[zOb]
   rw[r3u (u8i (u8i hin).1).1 hs]
   simp only[zOb]
   rw[q8z (by simp;omega),y7l (by omega)]
   rfl) (min n.toNat 10) 0 c [] (by omega) hc (by simp)
 obtain⟨t1,t2,t3,t4,t5,t6,t7⟩:=t
 simp only at ht
 subst ht
 exact L
theorem p0o {s:ByteArray} (hs:s.size≤1048576) {a:Int} (hc:inT s (a,false)):
 t5v (s,a)=some (if(u8h 10 s (a,false)).2.2=true then(u5y,0,false) else((u8h 10 s (a,false)).1,(u8h 10 s (a,false)).2.1,true)):=by
 have hb:u0p=1099511627776:=rfl
 have hs' :s.size≤u0p:=by omega
 have hw:=q7w 10 s (a,false) hc
 have hin:=hc
 unfold inT at hin
 simp only at hin
 have hwt:u1f.wt (q2i 10 s (a,false)).1≤u0p:=by
  have h1:=hw.1
  unfold inT at h1
  have:=(u8c (q2i 10 s (a,false)).2 (k:=20) (by omega)).2
  have:=hw.2
  simp only at this
  omega
 have hk:=t25 _ hwt
 rw[q1j];unfold s9u
 unfold u8h
 unfold q2i at hk ⊢
 simp only at hk ⊢
 rw[t31 _ hs']
 simp only[zOb]
 have i1:=(u34 hc).1
 rw[t31 _ hs']
 simp only[zOb]
 have i2:=(u34 i1).1
 rw[t31 _ hs']
 simp only[zOb]
 have i3:=(u34 i2).1
 rw[t31 _ hs']
 simp only[zOb]
 have i4:=(u34 i3).1
 rw[t31 _ hs']
 simp only[zOb]
 have i5:=(u34 i4).1
 rw[p3u hs' _ _ _ i5 rfl]
 simp only[zOb]
 have i6:=(t6c (by omega) (r95 s) (min (u3w s (u3w s (u3w s (u3w s (u3w s (a,false)).2).2).2).2).1.toNat 10) (u3w s (u3w s (u3w s (u3w s (u3w s (a,false)).2).2).2).2).2 [] i5).1
 rw[t31 _ hs']
 simp only[zOb]
 have i7:=(u34 i6).1
 rw[p52 hs' _ _ _ i7 rfl]
 simp only[zOb]
 rw[r3u (t6c (by omega) (r7w s) _ _ [] i7).1 hs']
 simp only[zOb]
 rw[t6e _ hs']
 simp only[zOb]
 rw[hk]
 simp only[zOb]
 generalize u2l s _=z
 generalize u8j _=o
 cases h:z.2.2<;>cases o<;>simp[u5y,emp]
theorem q8a {s:ByteArray} (hs:s.size≤1048576) (m:Nat) (hm:m≤1000) {c:Cur} (hc:inT s c):
 ∃(l:List u0g) (c' :Cur),u89 ((s,c),(m:Int))=some (l,s,c')∧inT s c' ∧c'.2=(t3j 10 (m+1) s c).2.2∧c.1+((Ty.sl u1f).wt l:Nat)≤c'.1+22∧(c'.2=false→(l,c')=t3j 10 (m+1) s c):=by
 have hb:u0p=1099511627776:=rfl
 obtain⟨h1,h2,h3,h4⟩:=u34 hc
 rw[r3t];unfold t9g t3j
 simp only
 rw[t31 c (by omega)]
 simp only[zOb]
 generalize u3w s c=y at h1 h2 h3 h4 ⊢
 have key:∀(k i:Nat) (d:Cur) (a:List u0g),i+k=min y.1.toNat (m+1)→inT s d→a.length≤i→y.2.1+((a.length+(a.map u1f.wt).sum:Nat):Int)≤d.1+bad d 20→
  ∃(r:((ByteArray×Cur)×List u0g)⊕((ByteArray×Cur)×List u0g)) (l:List u0g) (c' :Cur),u4m ((s,d),(m:Int),a,y.1,(i:Int))=some r∧(r= .inl ((s,c'),l)∨r= .inr ((s,c'),l))∧inT s c' ∧c'.2=(u33 (u8h 10 s) k d a).2.2∧
   y.2.1+((l.length+(l.map u1f.wt).sum:Nat):Int)≤c'.1+bad c' 20∧(c'.2=false→(l,c')=u33 (u8h 10 s) k d a):=by
  intro k
  induction k with
  | zero=>
   intro i d a hi hd ha hw
   refine⟨_,a,d,?_, .inl rfl,hd,rfl,hw,fun _=>rfl⟩
   rw[u6c];simp only[u3h]
   have:(bif decide ((i:Int)<y.1) then(bif decide ((i:Int)≤(m:Int)) then some (!d.2) else some false) else some false:Option Bool)=some false:=by
    by_cases q:(i:Int)<y.1
    ·rw[decide_eq_true q,decide_eq_false (show ¬(i:Int)≤m by omega)];rfl
    ·rw[decide_eq_false q];rfl
   rw[this];rfl
  | succ k ih=>
   intro i d a hi hd ha hw
   by_cases q:d.2=true
   ·refine⟨_,a,d,?_, .inl rfl,hd,by rw[t1m q],hw,fun z=>by rw[q] at z;cases z⟩
    rw[u6c];simp only[u3h]
    have:(bif decide ((i:Int)<y.1) then(bif decide ((i:Int)≤(m:Int)) then some (!d.2) else some false) else some false:Option Bool)=some false:=by
     rw[q];cases decide ((i:Int)<y.1)<;>cases decide ((i:Int)≤(m:Int))<;>rfl
    rw[this];rfl
   ·have q' :d.2=false:=by simpa using q
    have ed:d=(d.1,false):=by rw[←q']
    have hx:=p0o hs (a:=d.1) (by rw[←ed];exact hd)
    rw[←ed] at hx
    have he:=r5g 10 s d hd
    have hbd:bad d 20=0:=by unfold bad;rw[if_neg q]
    have c1:(bif decide ((i:Int)<y.1) then(bif decide ((i:Int)≤(m:Int)) then some (!d.2) else some false) else some false:Option Bool)=some true:=by
     rw[decide_eq_true (show(i:Int)<y.1 by omega),decide_eq_true (show(i:Int)≤m by omega),q'];rfl
    simp only[u33]
    rw[if_neg q]
    cases z:(u8h 10 s d).2.2
    ·rw[if_neg (by rw[z];simp)] at hx
     have hbz:bad (u8h 10 s d).2 20=0:=by unfold bad;rw[if_neg (by rw[z];simp)]
     obtain⟨r,l,c',e1,e2,e3,e4,e5,e6⟩:=ih (i+1) (u8h 10 s d).2 (a++ [(u8h 10 s d).1]) (by omega) he.1 (by simp;omega) (by
      have:=he.2
      rw[hbd] at hw
      rw[hbz] at this ⊢
      simp only[List.length_append,List.length_singleton,List.map_append,List.map_cons,List.map_nil,List.sum_append,List.sum_cons,List.sum_nil]
      omega)
     refine⟨r,l,c',?_,e2,e3,e4,e5,e6⟩
     rw[←e1,u6c];simp only[u3h]
     rw[c1]
     simp only[zOb,cond_true]
     rw[hx]
     simp only[zOb,Bool.not_true,cond_false]
     rw[q8z (by simp;omega),y7l (by omega),q']
     have:(u8h 10 s d).2=((u8h 10 s d).2.1,false):=by rw[←z]
     rw[this]
    ·rw[if_pos z] at hx
     refine⟨_,a,(d.1,true),?_, .inr rfl,hd,by rw[t1m z,z],?_,fun w=>by cases w⟩
     ·rw[u6c];simp only[u3h]
      rw[c1]
      simp only[zOb,cond_true]
      rw[hx]
      rfl
     ·rw[hbd] at hw
      have:bad ((d.1,true):Cur) 20=20:=rfl
      rw[this];simp only;omega
 have hb0:0≤bad y.2 20:=(u8c _ (by omega)).1
 obtain⟨r,l,c',e1,e2,e3,e4,e5,e6⟩:=key (min y.1.toNat (m+1)) 0 y.2 [] (by omega) h1 (by simp) (by simp only[List.length_nil,List.map_nil,List.sum_nil];omega)
 have e1' :u4m ((s,y.2),(m:Int), [],y.1,0)=some r:=e1
 refine⟨l,c',?_,e3,e4,?_,e6⟩
 ·rw[e1']
  rcases e2 with e2 | e2<;>rw[e2] <;>rfl
 ·have e:(Ty.sl u1f).wt l=l.length+(l.map u1f.wt).sum:=rfl
  rw[e]
  have t1:=(u8c y.2 (k:=1) (by omega)).2
  have t2:=(u8c c' (k:=20) (by omega)).2
  omega
def p42:Lim:=⟨10,130,13,4⟩
theorem p7a:p42.ok:=⟨by decide,by decide,by decide,by decide⟩
theorem p34 {s:ByteArray} (hs:s.size≤u0p) (z b:u0i) (n:Int) {c:Cur} (hc:inT s c) (ht:b.1= []):
 u6g (z,(s,c),b,n,0)=some (.inl (z,(s,(u33 (p0h s) (min n.toNat 130) c []).2),((u33 (p0h s) (min n.toNat 130) c []).1,b.2))):=by
 have L:=r9l (s:=s) u6g (fun(c:Cur) (a:List u14) i=>(z,(s,c),((a,b.2):u0i),n,i))
  (fun(c:Cur) (a:List u14)=>(z,(s,c),((a,b.2):u0i))) (p0h s) (min n.toNat 130) (q83 (r96 s))
  (fun c a i h=>by rw[s2n];simp only[t0b];rw[r8l (k:=130) h];rfl)
  (fun c a i h hc2 hin ha=>by
   rw[s2n];simp only[t0b];rw[r4t (k:=130) h hc2]
   simp only[zOb,cond_true]
   rw[t6e c hs]
   simp only[zOb]
   rw[t6e _ hs]
   simp only[zOb]
   rw[r3u (u8i (u8i hin).1).1 hs]
   simp only[zOb]
   rw[t31 _ hs]
   simp only[zOb]
   rw[q8z (by simp;omega),y7l (by omega)]
   rfl) (min n.toNat 130) 0 c [] (by omega) hc (by simp)
 obtain⟨b1,b2⟩:=b
 simp only at ht
 subst ht
 exact L
theorem p2y {s:ByteArray} (hs:s.size≤1048576) {a:Int} (hc:inT s (a,false)):
 t8j (s,a)=some (if(t6a p42 s (a,false)).2.2=true then(u2s,0,false) else((t6a p42 s (a,false)).1,(t6a p42 s (a,false)).2.1,true)):=by
 have hb:u0p=1099511627776:=rfl
 have hs' :s.size≤u0p:=by omega
 have hw:=p0d p42 (s:=s) hc
 have hk:=t4u (s58 p42 s (a,false)).1 (by have:=hw.2;omega)
 rw[r88];unfold s6z
 unfold t6a
 unfold s58 at hk ⊢
 simp only at hk ⊢
 rw[t31 _ hs']
 simp only[zOb]
 have i1:=(u34 hc).1
 rw[t31 _ hs']
 simp only[zOb]
 have i2:=(u34 i1).1
 rw[t31 _ hs']
 simp only[zOb]
 have i3:=(u34 i2).1
 rw[p34 hs' _ _ _ i3 rfl]
 simp only[zOb]
 have i4f:=t6c (by omega) (r96 s) (min (u3w s (u3w s (u3w s (a,false)).2).2).1.toNat 130) (u3w s (u3w s (u3w s (a,false)).2).2).2 [] i3
 rw[show p42.v=130 from rfl,show p42.t=10 from rfl,show p42.p=12+1 from rfl,show p42.r=3+1 from rfl] at hk ⊢
 generalize hvs:u33 (p0h s) (min (u3w s (u3w s (u3w s (a,false)).2).2).1.toNat 130) (u3w s (u3w s (u3w s (a,false)).2).2).2 [] =vs at hk i4f ⊢
 obtain⟨i4,i4w⟩:=i4f
 obtain⟨l1,d1,e1,e2,e3,e4,e5⟩:=q8a hs 12 (by omega) i4
 obtain⟨l2,d2,f1,f2,f3,f4,f5⟩:=q8a hs 3 (by omega) e2
 rw[show((12:Nat):Int)=12 from rfl] at e1
 rw[show((3:Nat):Int)=3 from rfl] at f1
 rw[e1]
 simp only[zOb]
 rw[f1]
 simp only[zOb]
 cases z:d2.2
 ·have z1:d1.2=false:=by
   cases w:d1.2
   ·rfl
   ·have:(t3j 10 (3+1) s d1).2.2=true:=s71 w
    rw[←f3,z] at this;cases this
  have g1:=e5 z1
  have g2:=f5 z
  rw[←g1]
  rw[←g1] at hk
  simp only at hk ⊢
  rw[←g2]
  rw[←g2] at hk
  simp only at hk ⊢
  rw[hk]
  simp only[zOb,z,cond_false,Bool.false_or]
  generalize u6l _=o
  cases o<;>simp[u2s]
 ·have zz:(t3j 10 (3+1) s (t3j 10 (12+1) s vs.2).2).2.2=true:=by
   cases w:d1.2
   ·have g1:=e5 w
    rw[←g1]
    show(t3j 10 (3+1) s d1).2.2=true
    rw[←f3];exact z
   ·exact s71 (by rw[←e3];exact w)
  rw[zz]
  simp[u2s]
theorem q74 {t:ByteArray} (h:4≤t.size):s81 (t.extract 0 (t.size - 4))=t↔t.extract (t.size - 4) t.size=o0a (p7i (t.extract 0 (t.size - 4))):=by
 have e:t.extract 0 (t.size - 4)++t.extract (t.size - 4) t.size=t:=by
  rw[ByteArray.extract_append_extract,Nat.zero_min,Nat.max_eq_right (by omega)]
  exact ByteArray.extract_zero_size
 unfold s81
 constructor
 ·intro q
  have:=e.trans q.symm
  exact ByteArray.append_right_inj (t.extract 0 (t.size - 4)) |>.mp this
 ·intro q;rw[←q,e]
theorem p00 (t:ByteArray) (ht:t.size≤1099511627776):t91 t=some (p7i t):=by
 rw[r6g];unfold s63
 rw[r5u _ _ ht];rfl
theorem p2d (x:Int):t5y x=some (o0a x):=by
 rw[r0r];rfl
theorem q34 (t:ByteArray) (ht:t.size≤u0p):t8l t=some (match t53 t with
 | some s=>(s,true)
 | none=>(emp,false)):=by
 have hb:u0p=1099511627776:=rfl
 rw[r9c];unfold s64 t53
 rw[y4y (n:=(t.size:Int) - 4) (by omega) (by omega)]
 by_cases h4:t.size<4
 ·rw[decide_eq_true (show(t.size:Int) - 4<0 by omega),if_neg (by omega)];rfl
 ·rw[decide_eq_false (show ¬(t.size:Int) - 4<0 by omega)]
  have c1:(decide ((0:Int)≤0)&&decide ((0:Int)≤(t.size:Int) - 4)&&decide ((t.size:Int) - 4≤(t.size:Int)))=true:=by simp;omega
  have c2:(decide ((0:Int)≤(t.size:Int) - 4)&&decide ((t.size:Int) - 4≤(t.size:Int))&&decide ((t.size:Int)≤(t.size:Int)))=true:=by simp;omega
  have e1:((t.size:Int) - 4).toNat=t.size - 4:=by omega
  rw[c1,c2,e1,show((0:Int)).toNat=0 from rfl,zTn]
  have hz:(t.extract 0 (t.size - 4)).size=t.size - 4:=by simp
  simp only[cond_false,cond_true]
  by_cases h5:t.size - 4≤20000
  ·rw[decide_eq_false (show ¬(t.size:Int) - 4 >20000 by omega),p00 _ (by rw[hz];omega)]
   simp only[zOb,cond_false]
   rw[p2d]
   simp only[zOb]
   by_cases h6:s81 (t.extract 0 (t.size - 4))=t
   ·rw[if_pos ⟨by omega,h5,h6⟩,(q74 (by omega)).mp h6,y6l];rfl
   ·rw[if_neg (fun q=>h6 q.2.2),q9m.mpr (mt (q74 (t:=t) (by omega)).mpr h6)];rfl
  ·rw[decide_eq_true (show(t.size:Int) - 4 >20000 by omega),if_neg (fun q=>h5 q.2.1)];rfl
end
section
def noR:t89:=(0,u5y,emp,false,u2s)
def s18 (t:ByteArray):t89×Bool:=match u4e t with
 | some r=>(r,true)
 | none=>(noR,false)
theorem p5k {t:ByteArray} {r:t89} (h:u1d r=(t,true)):u4e t=some r:=by
 have hr:u46 r=true:=by
  cases q:u46 r with
  | true=>rfl
  | false=>
   unfold u1d at h
   rw[if_neg (by simp[q])] at h
   simp at h
 have hR:=p6k.mp hr
 rw[u9w hR] at h
 rw[←(Prod.mk.inj h).1]
 exact s72 hR
theorem p5j {t s:ByteArray} {r:t89} (hu:t53 t=some s) (h:u4e t=some r):RecR r∧s=s75 r∧u1d r=(t,true):=by
 obtain⟨h1,h2⟩:=r36 h
 have hs:=s19 h1
 have:=r4e (t:=s75 r) (by omega)
 rw[←h2,hu] at this
 exact⟨h1,Option.some.inj this,by rw[u9w h1,←h2]⟩
theorem q5d {t s:ByteArray} {r' :t89} {b:Bool} (hu:t53 t=some s) (hr:∀r,RecR r→s=s75 r→r' =r∧b=false):
 (((bif b then some true else(bif (!(u1d r').2) then some true else some (!z7o (u1d r').1 t))):Option Bool).bind fun j=>bif j then some (noR,false) else some (r',true))=some (s18 t):=by
 unfold s18
 cases h:u4e t with
 | some r=>
  obtain⟨h1,h2,h3⟩:=p5j hu h
  obtain⟨e1,e2⟩:=hr r h1 h2
  subst e1
  rw[e2,h3]
  simp only[cond_false,Bool.not_true,y6l,zOb]
 | none=>
  cases b
  ·cases h2:(u1d r').2
   ·rfl
   ·have:z7o (u1d r').1 t=false:=by
     rw[q9m]
     intro e
     have:=p5k (t:=t) (r:=r') (by rw[←e,←h2])
     rw[h] at this;cases this
    rw[this];rfl
  ·rfl
theorem p4q (s:ByteArray):((s.data.toList.getD 0 0).toNat:Int)=(t1b s 0:Int):=rfl
theorem p21 (s:ByteArray) (i:Nat):t1b s i<256:=by unfold t1b;exact UInt8.toNat_lt _
theorem q5s {t s:ByteArray} (h:t53 t=some s):s.size≤20000:=by
 unfold t53 at h
 split at h
 ·rename_i q
  have:=Option.some.inj h
  rw[←this];simp;omega
 ·cases h
theorem o3r (k:Nat):decide ((k:Int)=3)=decide (k=3):=by simp;omega
theorem o3s (k:Nat):decide ((k:Int)=4)=decide (k=4):=by simp;omega
theorem q51:u1f.wt u5y=0:=rfl
theorem q50:p8j.wt u2s=0:=rfl
theorem p5b (m:Nat) {s:ByteArray} (hs:s.size≤20000) (h1:1≤s.size):u1f.wt (u8h m s (1,false)).1≤30000:=by
 have h:=r5g m s (1,false) ⟨by simp,by simp;omega⟩
 have h2:=h.1
 unfold inT at h2
 have:=(u8c (u8h m s (1,false)).2 (k:=20) (by omega)).2
 have:=h.2
 simp only at this
 omega
theorem p3g (m:Lim) {s:ByteArray} (hs:s.size≤20000) (h1:1≤s.size):p8j.wt (t6a m s (1,false)).1≤30000:=by
 have h:=p0d m (s:=s) (c:=(1,false)) ⟨by simp,by simp;omega⟩
 have e:(t6a m s (1,false)).1=(s58 m s (1,false)).1:=rfl
 rw[e];have:=h.2;omega
theorem r78 (t:ByteArray) (ht:t.size≤u0p):t41 t=some (s18 t):=by
 have hb:u0p=1099511627776:=rfl
 rw[r41];unfold s09
 rw[q34 t ht]
 simp only[zOb]
 cases hu:t53 t with
 | none=>
  unfold s18 u4e
  rw[hu];rfl
 | some s=>
  have hs:=q5s hu
  simp only[t2n]
  by_cases h0:s.size=0
  ·unfold s18 u4e
   rw[hu]
   simp only
   rw[if_pos h0,decide_eq_true h0];rfl
  ·have hin:inT s (1,false):=⟨by simp,by simp;omega⟩
   rw[decide_eq_false h0]
   simp only[Bool.not_true,cond_false,zOb]
   rw[show y4q (0:Int) s.size=true from y7t (i:=0) (by omega)]
   simp only[cond_true,show((0:Int)).toNat=0 from rfl,p4q]
   rw[y4y (n:=(t1b s 0:Int)) (by omega) (by have:=p21 s 0;omega),o3r,o3s]
   by_cases h3:t1b s 0=3
   ·rw[decide_eq_true h3,t6e _ (by omega)]
    simp only[cond_true,zOb]
    rw[r3u (u8i hin).1 (by omega)]
    simp only[zOb]
    have hf:=(u8i hin).2
    have hg:=(u8i hin).1
    unfold inT at hg
    have:=(u8c (u2l s (1,false)).2 (k:=1) (by omega)).2
    simp only at hf
    have hk:=u9b ((t1b s 0:Int),u5y,(u2l s (1,false)).1,(r93 s (u2l s (1,false)).2).1,u2s) (by rw[q0a];simp only[q51,q50];omega)
    rw[show((0:Int),(0:Int),(0:Int),(0:Int),([] :List s22),([] :List WrT),false,(⟨#[]⟩:ByteArray))=u5y from rfl]
    rw[show(([] :List u14),([] :List u0g),([] :List u0g),(0:Int),(0:Int))=u2s from rfl]
    rw[hk]
    simp only[zOb]
    refine q5d hu (b:=false) fun r h1 h2=> ?_
    have:=s8r h1
    rw[←h2] at this
    unfold t4n at this
    rw[if_pos h3] at this
    rw[h3]
    exact⟨(Prod.mk.inj this).1,rfl⟩
   ·rw[decide_eq_false h3]
    by_cases h4:t1b s 0=4
    ·rw[decide_eq_true h4,p2y (by omega) hin]
     simp only[cond_true,cond_false,zOb]
     generalize hy:(if(t6a p42 s (1,false)).2.2=true then(u2s,(0:Int),false) else((t6a p42 s (1,false)).1,(t6a p42 s (1,false)).2.1,true))=y
     have hyw:p8j.wt y.1≤30000:=by
      rw[←hy]
      split
      ·rw[q50];omega
      ·exact p3g p42 hs (by omega)
     have hk:=u9b ((t1b s 0:Int),u5y,emp,false,y.1) (by rw[q0a];simp only[q51];simp only[emp,ByteArray.size];simp;omega)
     rw[show((0:Int),(0:Int),(0:Int),(0:Int),([] :List s22),([] :List WrT),false,(⟨#[]⟩:ByteArray))=u5y from rfl]
     rw[show(([] :List u14),([] :List u0g),([] :List u0g),(0:Int),(0:Int))=u2s from rfl]
     rw[show((⟨#[]⟩:ByteArray))=emp from rfl]
     rw[hk]
     simp only[zOb]
     refine q5d hu (b:=false) fun r h1 h2=> ?_
     have:=s8r h1
     rw[←h2] at this
     unfold t4n at this
     rw[if_neg h3,if_pos h4] at this
     have hl:=p1h p3c p7a (Prod.mk.inj this).2
     rw[hl,if_neg (by rw[(Prod.mk.inj this).2];simp)] at hy
     rw[h4,←hy]
     exact⟨(Prod.mk.inj this).1,rfl⟩
    ·rw[decide_eq_false h4,p0o (by omega) hin]
     simp only[cond_true,cond_false,zOb]
     generalize hy:(if(u8h 10 s (1,false)).2.2=true then(u5y,(0:Int),false) else((u8h 10 s (1,false)).1,(u8h 10 s (1,false)).2.1,true))=y
     have hyw:u1f.wt y.1≤30000:=by
      rw[←hy]
      split
      ·rw[q51];omega
      ·exact p5b 10 hs (by omega)
     have hk:=u9b ((t1b s 0:Int),y.1,emp,false,u2s) (by rw[q0a];simp only[q50];simp only[emp,ByteArray.size];simp;omega)
     rw[show((0:Int),(0:Int),(0:Int),(0:Int),([] :List s22),([] :List WrT),false,(⟨#[]⟩:ByteArray))=u5y from rfl]
     rw[show(([] :List u14),([] :List u0g),([] :List u0g),(0:Int),(0:Int))=u2s from rfl]
     rw[show((⟨#[]⟩:ByteArray))=emp from rfl]
     rw[hk]
     simp only[zOb]
     refine q5d hu (b:=false) fun r h1 h2=> ?_
     have:=s8r h1
     rw[←h2] at this
     unfold t4n at this
     rw[if_neg h3,if_neg h4] at this
     have hl:=q7q (m:=9) (m' :=10) (by omega) (by omega) (Prod.mk.inj this).2
     rw[hl,if_neg (by rw[(Prod.mk.inj this).2];simp)] at hy
     rw[←hy]
     exact⟨(Prod.mk.inj this).1,rfl⟩
end
section
theorem q8o (l:List u0g) (c:ByteArray) (hl:l.length≤8388608):u1q (l,c)=some (l.filter fun x=> !z7o x.2.2.2.2.2.2.2 c):=by
 have hq:∀x∈l,u5e (x,c)=some (z7o x.2.2.2.2.2.2.2 c):=fun x _=>by rw[r61];rfl
 have L:=Q.first (T:=u1f) (c:=ByteArray) (W:=u06) (q:=u5e) (p:=fun x:u0g=>z7o x.2.2.2.2.2.2.2 c) (fun x=>u6x x) l c (by omega) hq
 rw[u7e];unfold u28
 simp only[u8e,u3k,L,zOb]
 by_cases hk:u0q (fun x:u0g=>z7o x.2.2.2.2.2.2.2 c) l<l.length
 ·obtain⟨a,e1,e2,e3⟩:=Q.delete (T:=u1f) (c:=ByteArray) (W:=u00) (q:=u5e) (p:=fun x:u0g=>z7o x.2.2.2.2.2.2.2 c) (fun x=>u6t x) l c (by omega) hq hk
  have hn:=u9q (fun x:u0g=> !z7o x.2.2.2.2.2.2.2 c) l
  obtain⟨n,hne⟩:∃n,n=(l.filter fun x:u0g=> !z7o x.2.2.2.2.2.2.2 c).length:=⟨_,rfl⟩
  rw[←hne] at e1 e3 hn
  have c1:decide (((u0q (fun x:u0g=>z7o x.2.2.2.2.2.2.2 c) l:Nat):Int)= -1)=false:=by simp
  have c2:decide ((0:Int)≤(n:Int))=true:=by simp
  have c3:decide ((n:Int)≤(a.length:Int))=true:=by simp;omega
  have c4:decide ((a.length:Int)≤(a.length:Int))=true:=by simp
  have hw:=y7l (i:=u0q (fun x:u0g=>z7o x.2.2.2.2.2.2.2 c) l) (by omega)
  simp only[if_pos hk,zOb,c1,cond_false,hw,e1,c2,c3,c4,Bool.and_self,cond_true,zTn,decide_true,Int.le_refl]
  have c5:decide ((n:Int)≤((a.take n++List.replicate (a.length - n) u1f.zero++a.drop (n+(a.length - n))).length:Int))=true:=by simp;omega
  have c6:(a.take n++List.replicate (a.length - n) u1f.zero++a.drop (n+(a.length - n))).take (n - (0:Int).toNat)=l.filter fun x:u0g=> !z7o x.2.2.2.2.2.2.2 c:=by
   rw[List.append_assoc,Int.toNat_zero,Nat.sub_zero,r4v a n (by omega),e3]
  simp only[c5,Bool.and_self,cond_true,c6]
 ·have hall:(l.filter fun x:u0g=> !z7o x.2.2.2.2.2.2.2 c)=l:=by
   rw[List.filter_eq_self]
   intro x hx
   obtain⟨i,hi,rfl⟩:=List.getElem_of_mem hx
   rw[u8l (p:=fun x:u0g=>z7o x.2.2.2.2.2.2.2 c) hi (by omega)]
   rfl
  simp only[if_neg hk,zOb,decide_true,cond_true,hall]
theorem q58 (b:u0i) (n:ByteArray) (hb:fewB b):t5o (b,n)=some (t2y b n):=by
 rw[q0y];unfold s89
 simp only
 rw[t7n b hb]
 simp only[zOb]
 rw[q8o _ _ (by have:=hb.2.2.1;omega)]
 rfl
theorem r5q (b:u0i) (n:ByteArray) (hb:fewB b):t5s (b,n)=some (t2y b n):=by
 obtain⟨hb1,hb2,hb3⟩:=hb
 have L:=s03 u71 b.2.2.1 (fun(a:List u0g) i=>(n,b,u2s,((b.1,b.2.1,a,b.2.2.2):u0i),i)) (fun x:u0g=> !z7o x.2.2.2.2.2.2.2 n) (fun x=>x) (fun a=> .inl (u2s,((b.1,b.2.1,a,b.2.2.2):u0i))) (by have:=hb3.1;omega)
  (fun a _=>by rw[s5o];simp only[t1z,u0b,Nat.lt_irrefl,decide_false,cond_false])
  (fun i hi a ha=>by
   have hm:=List.getElem_mem hi
   have:=hb3.1
   rw[s5o];simp only[t1z,u0b,hi,decide_true,cond_true,y7t hi,zTn,y8k (t:=u1f) hi,y7l (show i<4611686018427387904 by omega)]
   rw[u7n _ (hb3.2 _ hm)]
   simp only[zOb]
   rw[q8z (by simp;omega)])
 rw[List.map_id'] at L
 rw[q1d];unfold s9o
 simp only
 rw[t22 b ⟨hb1,hb2,hb3⟩]
 simp only[zOb]
 have L' :u71 (n,b,(([], [], [],0,0):u0i),((b.1,b.2.1, [],b.2.2.2):u0i),0)=_:=L
 rw[L']
 rfl
theorem p3a {n i:Int} :y8h n (i+1)=u1a n i:=by
 unfold y8h u1a
 by_cases h:i<n
 ·rw[if_pos h,if_neg (by omega)]
 ·rw[if_neg h,if_pos (by omega)]
theorem p3k (p:u0g→Bool) (l:List u0g):∀(a:List u0g×List u0g),l.foldl (fun a x=>if p x=true then(a.1++ [x],a.2) else(a.1,a.2++ [x])) a=(a.1++l.filter p,a.2++l.filter fun x=> !p x):=by
 induction l with
 | nil=>intro a;simp
 | cons x l ih=>
  intro a
  rw[List.foldl_cons,ih]
  cases h:p x<;>simp[h]
theorem q98 (p q:u0g→Bool) (l:List u0g) (d:u0g) (hl:l.length≤4194304):(l.filter p).length+ [d].length≤1099511627776∧(l.filter p++ [d]).length+(l.filter q).length≤1099511627776∧(l.filter p++ [d]).length≤8000000:=by
 have f1:=u9q p l
 have f2:=u9q q l
 rw[List.length_append,List.length_singleton]
 omega
theorem q3h (b z:u0i) (t d:u0g) (n:ByteArray) (hb:fewB b):u4a (n,t,z,b,d, [], [],(),(b.2.2.1.length:Int),0)=
 some (.inl (t,z,b,d,b.2.2.1.filter (fun x=>y3c x.2.2.2.2.2.2.2 n),b.2.2.1.filter fun x=> !y3c x.2.2.2.2.2.2.2 n)):=by
 have hl:=hb.2.2.1
 have L:=t4r u4a b.2.2.1 (fun(a:List u0g×List u0g) i=>(n,t,z,b,d,a.1,a.2,(),(b.2.2.1.length:Int),i)) (fun a x=>if y3c x.2.2.2.2.2.2.2 n=true then(a.1++ [x],a.2) else(a.1,a.2++ [x]))
  (fun a=> .inl (t,z,b,d,a.1,a.2)) (fun i a=>a.1.length≤i∧a.2.length≤i)
  (fun a _=>by rw[t95];simp only[u8r,u0b,Nat.lt_irrefl,decide_false,cond_false])
  (fun i hi a ha=>by
   rw[t95];simp only[u8r,u0b,hi,decide_true,cond_true,y7t hi,zTn,y8k (t:=u1f) hi,y7l (show i<4611686018427387904 by omega)]
   cases y3c (b.2.2.1[i]).2.2.2.2.2.2.2 n
   ·simp only[Bool.false_eq_true,if_false,cond_false]
    refine⟨⟨by omega,by simp;omega⟩,?_⟩
    rw[q8z (by simp;omega)]
   ·simp only[if_true,cond_true]
    refine⟨⟨by simp;omega,by omega⟩,?_⟩
    rw[q8z (by simp;omega)]) ([], []) ⟨by simp,by simp⟩
 rw[p3k (fun x=>y3c x.2.2.2.2.2.2.2 n)] at L
 simpa using L
theorem q0u (b:u0i) (t:u0g) (n:ByteArray) (hb:fewB b) (ht:r4l t) (hi:p4e t.1):t6n (b,t,n)=some (u1o b t n):=by
 have hl:=hb.2.2.1
 rw[r62];unfold s3s
 simp only
 rw[t7n b hb]
 simp only[zOb]
 rw[r71 t ht]
 simp only[zOb]
 rw[q2s t b.2.1 ht hb.2.1]
 simp only[zOb]
 rw[q3h _ _ _ _ _ hb,q3h _ _ _ _ _ hb]
 simp only[zOb,t54 hi,p3a]
 have pl:=fun d=>q98 (fun x:u0g=>y3c x.2.2.2.2.2.2.2 n) (fun x:u0g=> !y3c x.2.2.2.2.2.2.2 n) b.2.2.1 d hl
 rw[q8z (pl _).1,q8z (pl _).2.1,q8z (pl _).1,q8z (pl _).2.1]
 unfold u1o u3r
 cases t.2.2.2.2.2.2.1<;>rfl
theorem r99 (b z:u0i) (t d:u0g) (n:ByteArray) (hb:fewB b):u4c (n,b,t,z,((b.1,b.2.1, [],b.2.2.2):u0i),d,0)=
 some (.inl (n,b,t,z,((b.1,b.2.1,b.2.2.1.filter (fun x=>y3c x.2.2.2.2.2.2.2 n),b.2.2.2):u0i),d)):=by
 have hl:=hb.2.2.1
 have L:=s03 u4c b.2.2.1 (fun(a:List u0g) i=>(n,b,t,z,((b.1,b.2.1,a,b.2.2.2):u0i),d,i)) (fun x:u0g=>y3c x.2.2.2.2.2.2.2 n) (fun x=>x) (fun a=> .inl (n,b,t,z,((b.1,b.2.1,a,b.2.2.2):u0i),d)) (by omega)
  (fun a _=>by rw[s0b];simp only[u8y,u0b,Nat.lt_irrefl,decide_false,cond_false])
  (fun i hi a ha=>by
   have hm:=List.getElem_mem hi
   rw[s0b];simp only[u8y,u0b,hi,decide_true,cond_true,y7t hi,zTn,y8k (t:=u1f) hi,y7l (show i<4611686018427387904 by omega)]
   rw[u7n _ (hb.2.2.2 _ hm)]
   simp only[zOb]
   rw[q8z (by simp;omega)])
 rw[List.map_id'] at L
 exact L
theorem r6n (b z:u0i) (t:u0g) (n:ByteArray) (hb:fewB b) (pre:List u0g) (hp:pre.length≤8000000):u3x (n,b,t,z,((b.1,b.2.1,pre,b.2.2.2):u0i),0)=
 some (.inl (t,z,((b.1,b.2.1,pre++b.2.2.1.filter (fun x=> !y3c x.2.2.2.2.2.2.2 n),b.2.2.2):u0i))):=by
 have hl:=hb.2.2.1
 have L:=s03 u3x b.2.2.1 (fun(a:List u0g) i=>(n,b,t,z,((b.1,b.2.1,pre++a,b.2.2.2):u0i),i)) (fun x:u0g=> !y3c x.2.2.2.2.2.2.2 n) (fun x=>x) (fun a=> .inl (t,z,((b.1,b.2.1,pre++a,b.2.2.2):u0i))) (by omega)
  (fun a _=>by rw[t8y];simp only[u63,u0b,Nat.lt_irrefl,decide_false,cond_false])
  (fun i hi a ha=>by
   have hm:=List.getElem_mem hi
   rw[t8y];simp only[u63,u0b,hi,decide_true,cond_true,y7t hi,zTn,y8k (t:=u1f) hi,y7l (show i<4611686018427387904 by omega)]
   rw[u7n _ (hb.2.2.2 _ hm)]
   simp only[zOb]
   rw[q8z (by simp;omega),List.append_assoc])
 rw[List.map_id',List.append_nil] at L
 exact L
theorem s86 (b:u0i) (t:u0g) (n:ByteArray) (hb:fewB b) (ht:r4l t) (hi:p4e t.1):u4h (b,t,n)=some (u1o b t n):=by
 have hl:=hb.2.2.1
 have pl:=fun d=>q98 (fun x:u0g=>y3c x.2.2.2.2.2.2.2 n) (fun x:u0g=> !y3c x.2.2.2.2.2.2.2 n) b.2.2.1 d hl
 rw[r7c];unfold s31
 simp only
 rw[t22 b hb]
 simp only[zOb]
 rw[u7n t ht]
 simp only[zOb]
 rw[r4m t b.2.1 ht hb.2.1]
 simp only[zOb]
 rw[r99 _ _ _ _ _ hb,r99 _ _ _ _ _ hb]
 simp only[zOb]
 rw[q8z (pl _).1,q8z (pl _).1,r6n _ _ _ _ hb _ (pl _).2.2,r6n _ _ _ _ hb _ (pl _).2.2]
 simp only[zOb,t54 hi]
 have key:∀(o:Bool),(bif decide (t.1≥b.2.2.2.2) then some ((b.1,b.2.1,(b.2.2.1.filter fun x=>y3c x.2.2.2.2.2.2.2 n)++ [((t.1,(2:Int),t.2.2.1,t.2.2.2.1,t.2.2.2.2.1,t.2.2.2.2.2.1,o,n):u0g)] ++(b.2.2.1.filter fun x=> !y3c x.2.2.2.2.2.2.2 n),b.2.2.2.1,t.1+1):u0i)
  else some (b.1,b.2.1,(b.2.2.1.filter fun x=>y3c x.2.2.2.2.2.2.2 n)++ [((t.1,(2:Int),t.2.2.1,t.2.2.2.1,t.2.2.2.2.1,t.2.2.2.2.2.1,o,n):u0g)] ++(b.2.2.1.filter fun x=> !y3c x.2.2.2.2.2.2.2 n),b.2.2.2))=
  some (b.1,b.2.1,(b.2.2.1.filter fun x=>y3c x.2.2.2.2.2.2.2 n)++ [((t.1,(2:Int),t.2.2.1,t.2.2.2.1,t.2.2.2.2.1,t.2.2.2.2.2.1,o,n):u0g)] ++(b.2.2.1.filter fun x=> !y3c x.2.2.2.2.2.2.2 n),b.2.2.2.1,u1a b.2.2.2.2 t.1):=fun o=>by
  unfold u1a
  by_cases h:t.1<b.2.2.2.2
  ·rw[decide_eq_false (by omega),if_pos h];rfl
  ·rw[decide_eq_true (by omega),if_neg h];rfl
 unfold u1o u3r
 cases t.2.2.2.2.2.2.1
 ·exact key _
 ·exact key _
end
section
def SameLog (d e:u0k):Prop:=u3s e=true∧u0z e=u0z d∧u0d e 0=u0d d 0∧u0d e 1=u0d d 1
theorem u6m {a:Int} (ha:a=0∨a=1):u0f a=1+a*48∧(s1n a:Int)=2+a*48:=by
 have hfa:u0f a=1+a*48:=by unfold u0f;rw[if_pos (p4z.mpr ha)]
 refine⟨hfa,?_⟩
 unfold s1n
 rcases ha with rfl | rfl<;>omega
theorem r30 {e:u0k} (h1:u1r e=true) (h2:e.1.length=97) (h3:e.2= []) (h4:(u0d e 0).2.2=true) (h5:(u0d e 1).2.2=true):u3s e=true:=by
 unfold u3s
 rw[h1,h4,h5]
 simp[h2,h3]
theorem s0h {d e:u0k} (h:u0h e 0=u0h d 0):u0z e=u0z d:=by
 unfold u0z u36
 rw[h]
theorem p67 {d e:u0k} (hl:u3s d=true) {a:Int} (ha:a=0∨a=1) (h1:u1r e=true) (h2:e.1.length=97) (h3:e.2= [])
 (h4:∀k:Nat,k<97→ ¬(s1n a≤k∧k<s1n a+47)→u0h e (k:Int)=u0h d (k:Int))
 (h5:∀j:Nat,(j:Int)<(u0d d a).2.1→j<3008→s3a (s27 e a) j=s3a (s27 d a) j):SameLog d e:=by
 obtain⟨d1,d2,d3,d4,d5⟩:=u43 hl
 have fd:=s29 d1 d2
 have fe:=s29 h1 h2
 obtain⟨f1,f2⟩:=u6m ha
 have hact:u0z e=u0z d:=s0h (h4 0 (by omega) (by omega))
 have hcnt:u09 e a=u09 d a:=by
  unfold u09 u36
  have hk:u0f a=(((u0f a).toNat:Nat):Int):=by rcases ha with rfl | rfl<;>omega
  have:=h4 (u0f a).toNat (by rcases ha with rfl | rfl<;>omega) (by rcases ha with rfl | rfl<;>omega)
  rw[←hk] at this
  rw[this]
 have hra:u0d e a=u0d d a:=by
  have hda:=u7k fd ha
  have hok:(u0d d a).2.2=true:=by rcases ha with rfl | rfl<;>assumption
  rw[u7k fe ha,hcnt]
  obtain⟨l,E,r⟩:∃l E,u0d d a=(l,E,true):=⟨_,_,by rw[←hok]⟩
  rw[r] at h5 ⊢
  rw[r] at hda
  have hsz:(s27 e a).size=(s27 d a).size:=by rw[(u5d fe ha).2.1,(u5d fd ha).2.1]
  have hat:=r8f (s27 d a) (u09 d a).toNat 0 [] (by simp)
  rw[←hda] at hat
  refine s7d hsz hda.symm (fun q hq=>h5 q hq ?_)
  have:=(u5d fd ha).2.1
  simp only at hat
  omega
 have hro:u0d e (1 - a)=u0d d (1 - a):=by
  refine u8o (fun q hq=> ?_)
  have ho:=(u6m (a:=1 - a) (by omega)).1
  obtain⟨j,hj⟩:∃j:Nat,u0f (1 - a)+(q:Int)=(j:Int):=⟨(u0f (1 - a)+(q:Int)).toNat,by rcases ha with rfl | rfl<;>omega⟩
  rw[hj]
  exact h4 j (by rcases ha with rfl | rfl<;>omega) (by rcases ha with rfl | rfl<;>omega)
 have both:u0d e 0=u0d d 0∧u0d e 1=u0d d 1:=by
  rcases ha with rfl | rfl
  ·exact⟨hra,by simpa using hro⟩
  ·exact⟨by simpa using hro,hra⟩
 exact⟨r30 h1 h2 h3 (by rw[both.1];exact d4) (by rw[both.2];exact d5),hact,both.1,both.2⟩
theorem q39 {d x:u0k} {a:Int} {t:ByteArray} (h:t3y d a t=some x):∃E:Nat,(u0d d a).2.1=(E:Int)∧E+(u0x t).size≤3008∧q54 ((u0x t).size+1) d (s1n a+E / 64) (E % 64) (u0x t)=some x∧t.size≠0∧t.size≤3008∧u09 d a<255:=by
 have hat:=r1x d a
 unfold t3y at h
 split at h
 ·cases h
 ·rename_i hc
  simp only[not_or] at hc
  unfold u41 at h
  split at h
  ·exact⟨(u0d d a).2.1.toNat,by omega,by omega,h,hc.2.1,by omega,by omega⟩
  ·cases h
theorem q9j {d:u0k} (h:d.2= []) {k:Nat} (hk:k<d.1.length):u0h d (k:Int)=(rdL Ty.str d.1 k,true):=by
 unfold u0h
 rw[if_pos (by omega),h,zTn]
 rfl
theorem SameLog.refl {d:u0k} (h:u3s d=true):SameLog d d:=⟨h,rfl,rfl,rfl⟩
theorem SameLog.trans {d e f:u0k} (h1:SameLog d e) (h2:SameLog e f):SameLog d f:=⟨h2.1,h2.2.1.trans h1.2.1,h2.2.2.1.trans h1.2.2.1,h2.2.2.2.trans h1.2.2.2⟩
end
section
theorem q84 {d x:u0k} {a:Int} {t:ByteArray} (hl:u3s d=true) (ha:a=0∨a=1) (h:t3y d a t=some x):
 SameLog d (flush x)∧ ∀E:Nat,(u0d d a).2.1=(E:Int)→ ∀q,q<(u0x t).size→s3a (s27 (flush x) a) (E+q)=s3a (u0x t) q:=by
 obtain⟨d1,d2,d3,d4,d5⟩:=u43 hl
 obtain⟨_,x1,x2,_⟩:=s28 h
 obtain⟨E,e1,e2,e3,_⟩:=q39 h
 obtain⟨c1,c2,c3⟩:=t5m x1
 have hxl:x.1.length=97:=by rw[x2];exact d2
 have hcl:(flush x).1.length=97:=by rw[c3];exact hxl
 obtain⟨f1,f2⟩:=u6m ha
 have fd:=s29 d1 d2
 have fe:=s29 c1 hcl
 have hb97:s1n a+47≤97:=by rcases ha with rfl | rfl<;>omega
 have hbytes:=fun j i (hi:i<64) (hj:j<97)=>q3r e3 (by omega) (Nat.mod_lt _ (by omega)) j i hi (by omega)
 refine⟨p67 hl ha c1 hcl c2 (fun k hk hn=> ?_) (fun j hj hj2=> ?_),fun E' hE' q hq=> ?_⟩
 ·rw[u9r x1]
  exact s8v e3 (Nat.mod_lt _ (by omega)) k (fun z=>hn ⟨by omega,by omega⟩)
 ·rw[(u5d fe ha).2.2 j hj2,(u5d fd ha).2.2 j hj2,u9r x1,hbytes _ _ (Nat.mod_lt _ (by omega)) (by omega),if_neg (by omega)]
 ·have hEE:E' =E:=by omega
  subst hEE
  rw[(u5d fe ha).2.2 (E' +q) (by omega),u9r x1,hbytes _ _ (Nat.mod_lt _ (by omega)) (by omega),if_pos (by omega)]
  congr 1
  omega
theorem r4s (t:ByteArray):r60 t=((s3a t 0).toNat:Int):=rfl
theorem r8m (n:Int) (r:ByteArray) (h0:0≤n) (h1:n<256):r60 (t4t n++r)=n:=by
 rw[r4s,u7h,if_pos (by rw[u3b];omega)]
 unfold t4t s3a
 rw[t8s]
 have w:IntKind.u8.wrap n=n:=by rw[p38];omega
 rw[w]
 simp only[u8s,List.map_cons,List.map_nil,List.getD_cons_zero]
 rw[UInt8.toNat_ofNat']
 omega
theorem p3r {d y:u0k} {a:Int} {t:ByteArray} (hl:u3s d=true) (ha:a=0∨a=1) (h:q3d d a t=some y):
 u3s y=true∧u0z y=u0z d∧u0d y (1 - a)=u0d d (1 - a)∧u09 y a=u09 d a+1∧u0d y a=((u0d d a).1++ [t],(u0d d a).2.1+((u0x t).size:Int),true):=by
 obtain⟨d1,d2,d3,d4,d5⟩:=u43 hl
 obtain⟨x,hx,x1,y1,y2,y3,hy⟩:=p3s d2 h
 obtain⟨s1,s2⟩:=q84 hl ha hx
 obtain⟨E,e1,e2,e3,e4,e5,e6⟩:=q39 hx
 obtain⟨c1,c2,c3⟩:=t5m x1
 have hxl:(flush x).1.length=97:=(u43 s1.1).2.1
 obtain⟨f1,f2⟩:=u6m ha
 have hcl:=r4u d a
 have hc1:s4b d a=u09 d a+1:=by unfold s4b;exact y4y (by omega) (by omega)
 have hob:=r1u (s:=u0f a) c1 c2 (by omega) (by rw[hxl];rcases ha with rfl | rfl<;>omega) (u3b (s4b d a))
 have hcz:s7e (flush x) a (s4b d a)=some ((flush x).1, [(u0f a,t4t (s4b d a)++(rdL Ty.str (flush x).1 (u0f a).toNat).extract 1 64)]):=hob
 have hz1:=(u5x hob).2.1
 rw[hcz] at hy
 simp only[orD] at hy
 have hrd:∀j:Int,u0h y j=if j=u0f a then(t4t (s4b d a)++(rdL Ty.str (flush x).1 (u0f a).toNat).extract 1 64,true) else u0h (flush x) j:=fun j=>by
  rw[hy,u9r hz1]
  by_cases e:j=u0f a
  ·rw[if_pos e,e]
   unfold u0h
   rw[if_pos (by show _∧_<((flush x).1.length:Int);rw[hxl];rcases ha with rfl | rfl<;>omega)]
   simp[u9t]
  ·rw[if_neg e]
   have hne: ¬u0f a=j:=fun z=>e z.symm
   unfold u0h
   simp only[u9t,List.foldl_cons,List.foldl_nil,hne,if_false,c2]
 have fy:=s29 y1 y3
 have fx:=s29 c1 hxl
 have fd:=s29 d1 d2
 have hcnt:u09 y a=u09 d a+1:=by
  unfold u09 at hc1 ⊢
  rw[p4z.mpr ha,if_pos rfl] at*
  unfold u36 at*
  rw[hrd,if_pos rfl]
  simp only
  have:u09 d a=r60 (u0h d (u0f a)).1:=by unfold u09 u36;rw[p4z.mpr ha,if_pos rfl]
  rw[hc1]
  exact r8m _ _ (by omega) (by omega)
 have hareaT:∀j,j<3008→s3a (s27 y a) j=s3a (s27 (flush x) a) j:=fun j hj=>by
  rw[(u5d fy ha).2.2 j hj,(u5d fx ha).2.2 j hj,hrd,if_neg (by rcases ha with rfl | rfl<;>omega)]
 have hother:u0d y (1 - a)=u0d (flush x) (1 - a):=by
  refine u8o (fun q hq=> ?_)
  have ho:=(u6m (a:=1 - a) (by omega)).1
  rw[hrd,if_neg (by rcases ha with rfl | rfl<;>omega)]
 have hother2:u0d (flush x) (1 - a)=u0d d (1 - a):=by
  rcases ha with rfl | rfl
  ·exact s1.2.2.2
  ·exact s1.2.2.1
 have hact:u0z y=u0z d:=by
  rw[←s1.2.1]
  exact s0h (by rw[hrd,if_neg (by rcases ha with rfl | rfl<;>omega)])
 have hok:(u0d d a).2.2=true:=by rcases ha with rfl | rfl<;>assumption
 have hda:u5t (s27 d a) (u09 d a).toNat 0 [] =((u0d d a).1,(E:Int),true):=by
  rw[←u7k fd ha,←e1,←hok]
 have hfx:u5t (s27 (flush x) a) (u09 (flush x) a).toNat 0 [] =((u0d d a).1,(E:Int),true):=by
  have:u0d (flush x) a=u0d d a:=by
   rcases ha with rfl | rfl
   ·exact s1.2.2.1
   ·exact s1.2.2.2
  rw[←u7k fx ha,this,←e1,←hok]
 have hcx:u09 (flush x) a=u09 d a:=by
  unfold u09 u36
  have hk:u0f a=(((u0f a).toNat:Nat):Int):=by rcases ha with rfl | rfl<;>omega
  have h2:=s8v e3 (Nat.mod_lt _ (by omega)) (u0f a).toNat (by rcases ha with rfl | rfl<;>omega)
  rw[←hk] at h2
  rw[u9r x1,h2]
 have hsz:(s27 y a).size=(s27 (flush x) a).size:=by rw[(u5d fy ha).2.1,(u5d fx ha).2.1]
 have hra:u0d y a=((u0d d a).1++ [t],(u0d d a).2.1+((u0x t).size:Int),true):=by
  rw[u7k fy ha,hcnt,e1]
  have hm:(u09 d a+1).toNat=(u09 d a).toNat+1:=by omega
  rw[hm]
  have hloc:=s7d hsz hfx (fun q hq=>hareaT q (by omega))
  rw[hcx] at hloc
  have hrs:=r5h (T:=s27 y a) (E:=E) e4 e5 (by rw[(u5d fy ha).2.1];exact e2) (fun q hq=>by rw[hareaT _ (by omega)];exact s2 E e1 q hq)
  have:=r8g hloc hrs e4
  rw[this]
  congr 2
 have hlog:u3s y=true:=by
  rw[hother2] at hother
  refine r30 y1 y3 y2 ?_ ?_
  ·rcases ha with rfl | rfl
   ·rw[hra]
   ·have:u0d y 0=u0d d 0:=by simpa using hother
    rw[this];exact d4
  ·rcases ha with rfl | rfl
   ·have:u0d y 1=u0d d 1:=by simpa using hother
    rw[this];exact d5
   ·rw[hra]
 exact⟨hlog,hact,hother.trans hother2,hcnt,hra⟩
end
section
theorem p3t {d:u0k} (hk:u1r d=true) {k:Nat} (hlt:k<d.1.length):(u0h d (k:Int)).2=true∧(u0h d (k:Int)).1.size=64:=by
 obtain⟨k1,k2,k3,k4⟩:=q25.mp hk
 have hc:(0:Int)≤(k:Int)∧(k:Int)<(d.1.length:Int):=by omega
 unfold u0h
 rw[if_pos hc]
 refine⟨rfl,?_⟩
 cases hp:u9t d.2 (k:Int) with
 | none=>
  have e:rdL Ty.str d.1 k=d.1[k] :=y8k (t:=Ty.str) hlt
  simp only[Option.getD_none,zTn]
  rw[e]
  exact k3 _ (List.getElem_mem hlt)
 | some s=>
  obtain⟨p,hp1,hp2⟩:=r1s hp
  simp only[Option.getD_some]
  rw[←hp2]
  exact(k4 p hp1).2
theorem q8c:∀(f:Nat) {d:u0k} {k at_:Nat} {t:ByteArray},u1r d=true→at_<64→k*64+at_+t.size≤d.1.length*64→d.2.length+(at_+t.size+63) / 64≤60→ ∃x,q54 f d k at_ t=some x
 | 0,d,k,at_,t,_,_,_,_=>⟨d,rfl⟩
 | f+1,d,k,at_,t,hk,hat,h1,h2=>by
  rw[q54]
  by_cases hz:t.size=0
  ·exact⟨d,by rw[if_pos hz]⟩
  ·have hr:=p3t hk (k:=k) (by omega)
   rw[if_neg hz,if_pos hr]
   have hsz:((u0h d (k:Int)).1.extract 0 at_++t.extract 0 (min t.size (64 - at_))++(u0h d (k:Int)).1.extract (at_+min t.size (64 - at_)) 64).size=64:=by
    simp only[ByteArray.size_append,ByteArray.size_extract,hr.2];omega
   have hin:r0v (k:Int) 0 ((d.1.length:Int) - 1)=true:=by simp[r0v];omega
   have hok:u1r (d.1,d.2++ [((k:Int),(u0h d (k:Int)).1.extract 0 at_++t.extract 0 (min t.size (64 - at_))++(u0h d (k:Int)).1.extract (at_+min t.size (64 - at_)) 64)])=true:=by
    rw[r1m,hk,hin,hsz]
    simp;omega
   have hw:u6d d (k:Int) ((u0h d (k:Int)).1.extract 0 at_++t.extract 0 (min t.size (64 - at_))++(u0h d (k:Int)).1.extract (at_+min t.size (64 - at_)) 64)=some (d.1,d.2++ [((k:Int),(u0h d (k:Int)).1.extract 0 at_++t.extract 0 (min t.size (64 - at_))++(u0h d (k:Int)).1.extract (at_+min t.size (64 - at_)) 64)]):=by
    unfold u6d
    rw[if_pos hok]
   rw[hw]
   simp only[zOb]
   have hs2:(t.extract (min t.size (64 - at_)) t.size).size=t.size - min t.size (64 - at_):=by rw[ByteArray.size_extract];omega
   refine q8c f hok (by omega) ?_ ?_
   ·rw[hs2];show _≤d.1.length*64;omega
   ·rw[hs2];simp only[List.length_append,List.length_singleton];omega
theorem p05 {d:u0k} {a:Int} {t:ByteArray} (hl:u3s d=true) (ha:a=0∨a=1) (h0:t.size≠0) (h1:t.size≤3008) (h2:u09 d a<255) (h3:(u0d d a).2.1+((u0x t).size:Int)≤3008):∃x,t3y d a t=some x:=by
 obtain⟨d1,d2,d3,d4,d5⟩:=u43 hl
 obtain⟨f1,f2⟩:=u6m ha
 have hat:=r1x d a
 have hok:(u0d d a).2.2=true:=by rcases ha with rfl | rfl<;>assumption
 have hsp:=s76 t
 unfold t3y
 rw[if_neg (by rw[hok];simp only[Bool.true_eq_false,false_or];omega)]
 unfold u41
 have hc:(r0v (u0d d a).2.1 0 6400&&r0v (u0f a+1) 0 ((d.1.length:Int) - 1)&&u1r d)=true:=by
  rw[d1,d2]
  simp only[r0v,Bool.and_eq_true,decide_eq_true_eq,and_true]
  rcases ha with rfl | rfl<;>omega
 rw[if_pos hc]
 refine q8c _ d1 (Nat.mod_lt _ (by omega)) ?_ ?_
 ·rw[d2]
  rcases ha with rfl | rfl<;>omega
 ·rw[d3]
  simp only[List.length_nil]
  omega
theorem p5h {d:u0k} {a:Int} {t:ByteArray} (hl:u3s d=true) (ha:a=0∨a=1) (h0:t.size≠0) (h1:t.size≤3008) (h2:u09 d a<255) (h3:(u0d d a).2.1+((u0x t).size:Int)≤3008):∃y,q3d d a t=some y:=by
 obtain⟨x,hx⟩:=p05 hl ha h0 h1 h2 h3
 unfold q3d
 rw[hx]
 exact⟨_,rfl⟩
def p1s (l:List ByteArray):Nat:=(l.map fun t=>(u0x t).size).sum
theorem q7c {a:Int} (ha:a=0∨a=1):∀ {l:List ByteArray} {x:u0k},u3s x=true→u09 x a+(l.length:Int)≤255→(u0d x a).2.1+(p1s l:Int)≤3008→(∀t∈l,t.size≠0∧t.size≤3008)→
 ∃y,r0u a l x=some y∧u3s y=true∧u0z y=u0z x∧u0d y (1 - a)=u0d x (1 - a)∧(u0d y a).1=(u0d x a).1++l
 | [],x,hl,_,_,_=>⟨x,rfl,hl,rfl,rfl,by simp⟩
 | t::l,x,hl,hc,hr,ht=>by
  have h0:=ht t (List.mem_cons_self ..)
  have hs:p1s (t::l)=(u0x t).size+p1s l:=by simp[p1s]
  simp only[List.length_cons] at hc
  obtain⟨y,hy⟩:=p5h hl ha h0.1 h0.2 (by omega) (by omega)
  obtain⟨p1,p2,p3,p4,p5⟩:=p3r hl ha hy
  obtain⟨z,z1,z2,z3,z4,z5⟩:=q7c ha (l:=l) p1 (by omega) (by rw[p5];simp only;omega) (fun t h=>ht t (List.mem_cons_of_mem _ h))
  refine⟨z,?_,z2,z3.trans p2,z4.trans p3,?_⟩
  ·unfold r0u;rw[hy];exact z1
  ·rw[z5,p5];simp
theorem p07 {d:u0k} (hl:u3s d=true) {a n:Int} (ha:a=0∨a=1):∃z r,s7e d a n=some z∧u1r z=true∧z.1=d.1∧z.2= [(u0f a,t4t n++r)] ∧ ∀j:Int,u0h (flush z) j=if j=u0f a then(t4t n++r,true) else u0h d j:=by
 obtain⟨d1,d2,d3,d4,d5⟩:=u43 hl
 obtain⟨f1,f2⟩:=u6m ha
 have hob:=r1u (s:=u0f a) d1 d3 (by omega) (by rw[d2];rcases ha with rfl | rfl<;>omega) (u3b n)
 have hz1:=(u5x hob).2.1
 refine⟨_,_,hob,hz1,rfl,rfl,fun j=> ?_⟩
 rw[u9r hz1]
 by_cases e:j=u0f a
 ·rw[if_pos e,e]
  unfold u0h
  rw[if_pos (by show _∧_<(d.1.length:Int);rw[d2];rcases ha with rfl | rfl<;>omega)]
  simp[u9t]
 ·rw[if_neg e]
  have hne: ¬u0f a=j:=fun z=>e z.symm
  unfold u0h
  simp only[u9t,List.foldl_cons,List.foldl_nil,hne,if_false,d3]
theorem r9m {d:u0k} (hl:u3s d=true):u3s (s1m d)=true∧u0z (s1m d)=u0z d∧u0d (s1m d) (u0z d)=u0d d (u0z d)∧u0d (s1m d) (u4p d)=([],0,true)∧u09 (s1m d) (u4p d)=0:=by
 obtain⟨a1,a2⟩:=t4v d
 obtain⟨z,r,hz,hz1,hz2,hz3,hrd⟩:=p07 hl (n:=0) a1
 obtain⟨d1,d2,d3,d4,d5⟩:=u43 hl
 have e:s1m d=flush z:=by unfold s1m;rw[hz];rfl
 obtain⟨c1,c2,c3⟩:=t5m hz1
 have hlen:(flush z).1.length=97:=by rw[c3,hz2];exact d2
 obtain⟨f1,f2⟩:=u6m a1
 rw[e]
 have hcnt:u09 (flush z) (u4p d)=0:=by
  unfold u09 u36
  rw[p4z.mpr a1,if_pos rfl,hrd,if_pos rfl]
  exact r8m 0 r (by omega) (by omega)
 have ho:u0d (flush z) (u4p d)=([],0,true):=by
  rw[u7k (s29 c1 hlen) a1,hcnt]
  rfl
 have hother:u0d (flush z) (1 - u4p d)=u0d d (1 - u4p d):=by
  refine u8o (fun q hq=> ?_)
  have ho:=(u6m (a:=1 - u4p d) (by omega)).1
  rw[hrd,if_neg (by omega)]
 rw[←a2] at hother
 have hact:u0z (flush z)=u0z d:=s0h (by rw[hrd,if_neg (by omega)])
 have hok:(u0d d (u0z d)).2.2=true:=by rcases t2x d with q | q<;>rw[q] <;>assumption
 refine⟨r30 c1 hlen c2 ?_ ?_,hact,hother,ho,hcnt⟩
 ·rcases a1 with q | q
  ·rw[q] at ho;rw[ho]
  ·have q2:u0z d=0:=by omega
   rw[q2] at hother hok
   rw[hother];exact hok
 ·rcases a1 with q | q
  ·have q2:u0z d=1:=by omega
   rw[q2] at hother hok
   rw[hother];exact hok
  ·rw[q] at ho;rw[ho]
end
section
theorem q6u {z:u0k} {s:Int} {b:ByteArray} (hk:u1r z=true) (hz:z.2= [(s,b++(rdL Ty.str z.1 s.toNat).extract 1 64)]) (hb:b.size=1) (keep:List Int) (tear:Int):
 (q86 keep 0=false→t85 z keep tear=(z.1, []))∧(q86 keep 0=true→1≤t8t tear→t85 z keep tear=flush z)∧(t85 z keep tear=(z.1, [])∨t85 z keep tear=flush z):=by
 obtain⟨k1,k2,k3,k4⟩:=q25.mp hk
 have hs:=(k4 (s,b++(rdL Ty.str z.1 s.toNat).extract 1 64) (by rw[hz];simp)).1
 have hlt:s.toNat<z.1.length:=by
  have h1:0≤s:=hs.1
  have h2:s<(z.1.length:Int):=hs.2
  omega
 have ht:=(p5t tear).1
 have eo:rdL Ty.str z.1 s.toNat=z.1[s.toNat] :=y8k (t:=Ty.str) hlt
 have hold:(rdL Ty.str z.1 s.toNat).size=64:=by rw[eo];exact k3 _ (List.getElem_mem hlt)
 have hlen:z.2.length=1:=by rw[hz];rfl
 have h0:rdL p4c z.2 0=(s,b++(rdL Ty.str z.1 s.toNat).extract 1 64):=by rw[hz];rfl
 have hc:t85 z keep tear=(r3i z keep (r3z keep 1) (t8t tear) z.1 0, []):=by
  unfold t85
  rw[if_pos hk,hlen]
  rfl
 have hfl:flush z=(t8q z.1 (s,b++(rdL Ty.str z.1 s.toNat).extract 1 64), []):=by
  unfold flush
  rw[if_pos hk,hz]
  rfl
 have hno:q86 keep 0=false→t85 z keep tear=(z.1, []):=fun h=>by
  rw[hc]
  unfold r3i
  rw[h,if_neg (by simp)]
 have hyes:q86 keep 0=true→t85 z keep tear=(t8q z.1 (s,(b++(rdL Ty.str z.1 s.toNat).extract 1 64).extract 0 (t8t tear)++(rdL Ty.str z.1 s.toNat).extract (t8t tear) 64), []):=fun h=>by
  have hlast:r3z keep 1=0:=by
   show(if q86 keep 0 then((0:Nat):Int) else r3z keep 0)=0
   rw[if_pos h];rfl
  rw[hc]
  unfold r3i
  rw[h,if_pos rfl,hlast,if_pos (by rfl),h0]
  simp only[hold]
 have hfull:q86 keep 0=true→1≤t8t tear→t85 z keep tear=flush z:=fun h h1=>by
  rw[hyes h,hfl]
  congr 2
  congr 1
  apply r7u
  ·simp only[ByteArray.size_append,ByteArray.size_extract,hold,hb];omega
  ·intro i hi
   simp only[ByteArray.size_append,ByteArray.size_extract,hold,hb] at hi
   rw[u7h,u37,u37]
   simp only[ByteArray.size_append,ByteArray.size_extract,hold,hb]
   by_cases h2:i<t8t tear
   ·rw[if_pos (by omega),if_pos (by omega),Nat.zero_add]
   ·rw[if_neg (by omega),if_pos (by omega),u7h,if_neg (by omega),u37,hb,hold,if_pos (by omega)]
    congr 1
    omega
 refine⟨hno,hfull,?_⟩
 cases h:q86 keep 0 with
 | false=>exact .inl (hno h)
 | true=>
  by_cases h1:1≤t8t tear
  ·exact .inr (hfull h h1)
  ·left
   have ht0:t8t tear=0:=by omega
   rw[hyes h,ht0]
   congr 1
   have e1:(b++(rdL Ty.str z.1 s.toNat).extract 1 64).extract 0 0++(rdL Ty.str z.1 s.toNat).extract 0 64=rdL Ty.str z.1 s.toNat:=by
    apply r7u
    ·simp only[ByteArray.size_append,ByteArray.size_extract,hold,hb];omega
    ·intro i hi
     simp only[ByteArray.size_append,ByteArray.size_extract,hold,hb] at hi
     rw[u7h,if_neg (by rw[ByteArray.size_extract];omega),u37,hold,if_pos (by rw[ByteArray.size_extract];omega)]
     congr 1
     rw[ByteArray.size_extract]
     omega
   rw[e1]
   unfold t8q
   show z.1.set s.toNat (rdL Ty.str z.1 s.toNat)=z.1
   rw[eo]
   exact List.set_getElem_self hlt
theorem q80 {d:u0k} (hl:u3s d=true) {a n:Int} (ha:a=0∨a=1) (keep:List Int) (tear:Int):∃z,s7e d a n=some z∧
 (q86 keep 0=false→t85 z keep tear=d)∧(q86 keep 0=true→1≤t8t tear→t85 z keep tear=flush z)∧(t85 z keep tear=d∨t85 z keep tear=flush z):=by
 obtain⟨d1,d2,d3,d4,d5⟩:=u43 hl
 obtain⟨f1,f2⟩:=u6m ha
 have hob:=r1u (s:=u0f a) d1 d3 (by omega) (by rw[d2];rcases ha with rfl | rfl<;>omega) (u3b n)
 have hz1:=(u5x hob).2.1
 have hd:(d.1,([] :List (Int×ByteArray)))=d:=by rw[←d3]
 obtain⟨c1,c2,c3⟩:=q6u hz1 rfl (u3b n) keep tear
 rw[hd] at c1 c3
 exact⟨_,hob,c1,c2,c3⟩
theorem q24 {x:u0k} (hl:u3s x=true) (keep:List Int) (tear:Int):∃z,p1y x=some z∧u1r z=true∧(∀j:Int,u0h (flush z) j=if j=0 then(t4t (IntKind.i64.wrap (u36 x 0+1))++(rdL Ty.str x.1 0).extract 1 64,true) else u0h x j)∧(flush z).1.length=97∧
 (q86 keep 0=false→t85 z keep tear=x)∧(q86 keep 0=true→1≤t8t tear→t85 z keep tear=flush z)∧(t85 z keep tear=x∨t85 z keep tear=flush z):=by
 obtain⟨d1,d2,d3,d4,d5⟩:=u43 hl
 have hob:=r1u (s:=0) d1 d3 (by omega) (by rw[d2];omega) (u3b (IntKind.i64.wrap (u36 x 0+1)))
 have hz1:=(u5x hob).2.1
 have hd:(x.1,([] :List (Int×ByteArray)))=x:=by rw[←d3]
 obtain⟨c1,c2,c3⟩:=q6u hz1 rfl (u3b (IntKind.i64.wrap (u36 x 0+1))) keep tear
 rw[hd] at c1 c3
 refine⟨_,hob,hz1,fun j=> ?_,by rw[(t5m hz1).2.2];exact d2,c1,c2,c3⟩
 rw[u9r hz1]
 by_cases e:j=0
 ·rw[if_pos e,e]
  unfold u0h
  rw[if_pos (by show _∧_<(x.1.length:Int);rw[d2];omega)]
  simp[u9t]
 ·rw[if_neg e]
  have hne: ¬(0:Int)=j:=fun z=>e z.symm
  unfold u0h
  simp only[u9t,List.foldl_cons,List.foldl_nil,hne,if_false,d3]
theorem p5w {x z:u0k} (hl:u3s x=true) (hz1:u1r z=true) (hlen:(flush z).1.length=97) (hrd:∀j:Int,u0h (flush z) j=if j=0 then(t4t (IntKind.i64.wrap (u36 x 0+1))++(rdL Ty.str x.1 0).extract 1 64,true) else u0h x j):
 u3s (flush z)=true∧u0z (flush z)=1 - u0z x∧u0d (flush z) 0=u0d x 0∧u0d (flush z) 1=u0d x 1:=by
 obtain⟨d1,d2,d3,d4,d5⟩:=u43 hl
 obtain⟨c1,c2,c3⟩:=t5m hz1
 have r0:u0d (flush z) 0=u0d x 0:=u8o (fun q hq=>by
  have:=(u6m (a:=0) (.inl rfl)).1
  rw[hrd,if_neg (by omega)])
 have r1:u0d (flush z) 1=u0d x 1:=u8o (fun q hq=>by
  have:=(u6m (a:=1) (.inr rfl)).1
  rw[hrd,if_neg (by omega)])
 have hb:=q4a (u0h x 0).1
 refine⟨r30 c1 hlen c2 (by rw[r0];exact d4) (by rw[r1];exact d5),?_,r0,r1⟩
 unfold u0z u36
 rw[hrd,if_pos rfl]
 have w:IntKind.i64.wrap (u36 x 0+1)=u36 x 0+1:=by unfold u36;exact y4y (by omega) (by omega)
 have e:r60 (t4t (IntKind.i64.wrap (u36 x 0+1))++(rdL Ty.str x.1 0).extract 1 64)=(u36 x 0+1) % 256:=by
  rw[w,r4s,u7h,if_pos (by rw[u3b];omega)]
  unfold t4t s3a
  rw[t8s,p38]
  simp only[u8s,List.map_cons,List.map_nil,List.getD_cons_zero]
  rw[UInt8.toNat_ofNat']
  omega
 show Int.tmod (r60 _) 2=_
 rw[e]
 have hf:u36 x 0=r60 (u0h x 0).1:=rfl
 rw[hf]
 generalize r60 (u0h x 0).1=n at*
 obtain⟨m,rfl⟩:∃m:Nat,n=(m:Int):=⟨n.toNat,by omega⟩
 have t1:Int.tmod (m:Int) 2=((m % 2:Nat):Int):=p30 m 2
 have t2:Int.tmod (((m:Int)+1) % 256) 2=((((m+1) % 256) % 2:Nat):Int):=by
  have:((m:Int)+1) % 256=(((m+1) % 256:Nat):Int):=by omega
  rw[this]
  exact p30 ((m+1) % 256) 2
 rw[t1,t2]
 omega
end
section
theorem p02 {d y:u0k} {t:ByteArray} (h:append_ d t=some y):u3s d=true∧u3s y=true∧u0l y=u0l d++ [t] :=by
 unfold append_ at h
 split at h
 ·rename_i hl
  obtain⟨p1,p2,p3,p4,p5⟩:=p3r hl (t2x d) h
  refine⟨hl,p1,?_⟩
  unfold u0l
  rw[p2,p5]
 ·cases h
theorem p4u {d:u0k} {l:List ByteArray} (hl:u3s d=true) (hn:l.length≤255) (hr:p1s l≤3008) (ht:∀t∈l,t.size≠0∧t.size≤3008):
 ∃x,s80 d l=some x∧u3s x=true∧u0z x=u0z d∧u0l x=u0l d∧(u0d x (u4p d)).1=l:=by
 obtain⟨a1,a2⟩:=t4v d
 obtain⟨f1,f2,f3,f4,f5⟩:=r9m hl
 obtain⟨y,y1,y2,y3,y4,y5⟩:=q7c a1 (l:=l) f1 (by rw[f5];omega) (by rw[f4];simp only;omega) ht
 rw[←a2] at y4
 refine⟨y,by unfold s80;rw[hl,if_pos rfl];exact y1,y2,y3.trans f2,?_,by rw[y5,f4];simp⟩
 unfold u0l
 rw[y3.trans f2,y4,f3]
theorem p09 {d x:u0k} {l:List ByteArray} (hx:s80 d l=some x) (h1:u3s x=true) (h2:u0z x=u0z d) (h3:u0l x=u0l d) (h4:(u0d x (u4p d)).1=l) (hl:u3s d=true):
 ∃y,s78 d l=some y∧u3s y=true∧u0l y=l∧ ∀(step:Int) (keep:List Int) (tear:Int),
  (step=0→u3s (u9p d l step keep tear)=true∧u0l (u9p d l step keep tear)=u0l d)∧(step=1→u9p d l step keep tear=x)∧
  (step≠0→step≠1→step≠2→u9p d l step keep tear=y)∧
  (step=2→(q86 keep 0=false→u9p d l step keep tear=x)∧(q86 keep 0=true→1≤t8t tear→u9p d l step keep tear=y)∧(u9p d l step keep tear=x∨u9p d l step keep tear=y)):=by
 obtain⟨a1,a2⟩:=t4v d
 obtain⟨z,hz,hz1,hrd,hlen,_⟩:=q24 h1 [] 0
 obtain⟨t1,t2,t3,t4⟩:=p5w h1 hz1 hlen hrd
 have hsw:s78 d l=some (flush z):=by unfold s78;rw[hx];simp only[Option.map_some,hz,orD]
 have htx:u0l (flush z)=l:=by
  have ho:u0z (flush z)=u4p d:=by rw[t2,h2];rfl
  unfold u0l
  rw[ho,←h4]
  rcases a1 with q | q<;>rw[q]
  ·rw[t3]
  ·rw[t4]
 refine⟨flush z,hsw,t1,htx,fun step keep tear=> ?_⟩
 obtain⟨c,hc,c1,c2,c3⟩:=q80 hl (n:=0) a1 keep tear
 obtain⟨z',hz',_,_,_,g1,g2,g3⟩:=q24 h1 keep tear
 rw[hz] at hz'
 cases hz'
 have e0:∀st,u9p d l st keep tear=(if st=0 then t85 c keep tear else if st=1 then x else if st=2 then t85 z keep tear else flush z):=fun st=>by
  unfold u9p
  rw[hx]
  simp only[hc,orD,hz]
 have hf0:flush c=s1m d:=by unfold s1m;rw[hc];rfl
 obtain⟨f1,f2,f3,f4,f5⟩:=r9m hl
 have htx0:u0l (s1m d)=u0l d:=by unfold u0l;rw[f2,f3]
 refine⟨fun s0=> ?_,fun s1=> ?_,fun n0 n1 n2=> ?_,fun s2=> ?_⟩
 ·rw[e0,if_pos s0]
  rcases c3 with q | q
  ·rw[q];exact⟨hl,rfl⟩
  ·rw[q,hf0];exact⟨f1,htx0⟩
 ·rw[e0,if_neg (by omega),if_pos s1]
 ·rw[e0,if_neg n0,if_neg n1,if_neg n2]
 ·have e:u9p d l step keep tear=t85 z keep tear:=by rw[e0,if_neg (by omega),if_neg (by omega),if_pos s2]
  rw[e]
  exact⟨g1,g2,g3⟩
end
section
structure Like0 (b e:u0i):Prop where
 vs:b.1=u1k e.1 e.2.2.2.1
 past:b.2.1= []
 ready:b.2.2.1=e.2.2.1
 cs:b.2.2.2.1=e.2.2.2.1
theorem p3i (b:u0i):∀(o:List u0g),t32 b o≤b.2.2.2.1:=by
 intro o
 have key:∀(o:List u0g) (m:Int),o.foldl (fun m t=>if t.2.2.1<m then t.2.2.1 else m) m≤m:=by
  intro o
  induction o with
  | nil=>intro m;exact Int.le_refl _
  | cons t o ih=>
   intro m
   rw[List.foldl_cons]
   refine Int.le_trans (ih _) ?_
   split<;>omega
 exact key o _
theorem p1i (b:u0i):t32 b [] =b.2.2.2.1:=rfl
theorem Like0.tidy {b e:u0i} (h:Like0 b e) (he:BaseR e) (o:List u0g):Like0 b (u1t e o):=
 ⟨by rw[h.vs];exact(r4c (p4f.mp he.vs).2.1 (p3i e o)).symm,h.past,h.ready,h.cs⟩
theorem t3h {x:u0i} (hp:∀t∈x.2.1,t.2.2.2.1≤x.2.2.2.1):u1t x [] =(u1k x.1 x.2.2.2.1, [],x.2.2):=by
 unfold u1t
 rw[p1i]
 congr 2
 rw[List.filter_eq_nil_iff]
 intro t ht
 simp[hp t ht]
theorem Like0.self {b e:u0i} (h:Like0 b e) (he:BaseR e):u1t b [] =b:=by
 rw[t3h (by rw[h.past];intro t ht;cases ht)]
 obtain⟨b1,b2,b3⟩:=b
 have h1:=h.vs
 have h2:=h.past
 have h4:=h.cs
 simp only at h1 h2 h4
 rw[h4,h1,h2,r4c (p4f.mp he.vs).2.1 (Int.le_refl _)]
theorem p1b {d d' x:u0g} (h1:d.1=d'.1) (h2:d.2.1=d'.2.1) (h3:d.2.2.1=d'.2.2.1) (h4:d.2.2.2.1=d'.2.2.2.1) (h5:d.2.2.2.2.2.1=d'.2.2.2.2.2.1):r1p d x=r1p d' x:=by
 have:ahead x d=ahead x d' :=by unfold ahead r0o r92;rw[h1,h2,h3,h4,h5]
 unfold r1p;rw[this]
theorem Like0.vlen {b e:u0i} (h:Like0 b e):b.1.length≤e.1.length:=by rw[h.vs];exact(u53 _ _).length_le
theorem r6q {b e:u0i} {t u:u0g} (h:Like0 b e) (he:BaseR e) (hb:BaseR b) (hc:e.2.2.2.1<9999) (hv:e.1.length≤100) (hu:TxnR u) (h9:u.1<9999) (hs:u.2.2.1≤e.2.2.2.1)
 (h1:u.1=t.1) (h3:u.2.2.1=t.2.2.1) (h5:u.2.2.2.2.2.1=t.2.2.2.2.2.1):
 u6l (u1t (u0m b u) [])=true∧Like0 (u1t (u0m b u) []) (u0m e t):=by
 have hR:BaseR (u0m b u):=q0i hb hu (by rw[h.cs];exact hs) (by rw[h.cs];exact hc) (by rw[h.past];simp) (by have:=h.vlen;omega) (by rw[h.past];intro x hx;cases hx) h9
 refine⟨q21.mpr (t00 hR _),?_⟩
 rw[t3h (fun x hx=>(hR.past x hx).2.2)]
 obtain⟨v1,v2,v3⟩:=p4f.mp he.vs
 refine⟨?_,rfl,?_,?_⟩
 ·show u1k (t1d b.1 u.2.2.2.2.2.1 (b.2.2.2.1+1)) (b.2.2.2.1+1)=u1k (t1d e.1 t.2.2.2.2.2.1 (e.2.2.2.1+1)) (e.2.2.2.1+1)
  rw[h.cs,h.vs,h5]
  exact p0n v2 (h5 ▸ q0n hu.ws) fun x hx=>by have:=he.vcs x hx;unfold vCs;omega
 ·show(b.2.2.1.filter fun x=> !decide (x.1=u.1)).map (r1p (u7c b u))=(e.2.2.1.filter fun x=> !decide (x.1=t.1)).map (r1p (u7c e t))
  rw[h.ready,h1]
  refine List.map_congr_left fun x _=>p1b h1 rfl h3 ?_ h5
  show b.2.2.2.1+1=e.2.2.2.1+1
  rw[h.cs]
 ·show b.2.2.2.1+1=e.2.2.2.1+1
  rw[h.cs]
theorem p7e {b:u0i} {n:ByteArray} :u0n b n<0↔ ∀x∈b.2.2.1,x.2.2.2.2.2.2.2≠n:=by
 unfold u0n
 constructor
 ·intro h x hx e
  obtain⟨i,hi,rfl⟩:=List.getElem_of_mem hx
  obtain⟨k,hk,hr⟩:=p1o b hi e
  unfold u0n at hr
  rw[hr] at h;omega
 ·intro h
  split
  ·rename_i q
   have:=u7g q
   exact absurd (y7f.mp this) (h _ (List.getElem_mem q))
  ·omega
theorem t44 {b:u0i} {n:ByteArray} (h: ¬u0n b n<0):∃(k:Nat) (hk:k<b.2.2.1.length),u0n b n=(k:Int)∧b.2.2.1[k].2.2.2.2.2.2.2=n:=by
 unfold u0n at h ⊢
 split at h
 ·rename_i q
  rw[if_pos q]
  exact⟨_,q,rfl,y7f.mp (u7g q)⟩
 ·omega
theorem s74 {b e:u0i} (h:b.2.2.1=e.2.2.1) (n:ByteArray):u0n b n=u0n e n:=by unfold u0n;rw[h]
theorem q2h {b e:u0i} {t:u0g} (h:Like0 b e) (he:BaseR e) (hb:BaseR b) (hc:e.2.2.2.1<9999) (hv:e.1.length≤100) (ht:TxnR t) (h9:t.1<9999) (hs:t.2.2.1≤e.2.2.2.1):
 ∃x,u4s b (1,u7c e t,emp,false,u2s)=some x∧BaseR x∧Like0 x (u0m e t):=by
 have hD:=q81 (b:=e) ht hs hc
 obtain⟨k1,k2⟩:=r6q (t:=t) (u:=u7c e t) h he hb hc hv hD h9 hs rfl rfl rfl
 refine⟨_,?_,q21.mp k1,k2⟩
 unfold u4s
 rw[if_pos ⟨q21.mpr hb,p6k.mpr (.thr _ hD rfl)⟩]
 have e1:u1h b (1,u7c e t,emp,false,u2s)=some (u0m b (u7c e t)):=by
  unfold u1h
  rw[if_pos rfl,if_pos (by show e.2.2.2.1+1=b.2.2.2.1+1;rw[h.cs])]
 rw[e1]
 simp only
 rw[if_pos k1]
theorem p1l {b e:u0i} {n:ByteArray} {k:Nat} (h:Like0 b e) (he:BaseR e) (hb:BaseR b) (hc:e.2.2.2.1<9999) (hv:e.1.length≤100) (hn:u48 n=true) (hk:k<e.2.2.1.length) (hr:u0n e n=(k:Int)):
 ∃x,u4s b (3,u5y,n,true,u2s)=some x∧BaseR x∧Like0 x (u0m e e.2.2.1[k]):=by
 obtain⟨q1,q2,q3⟩:=he.ready _ (List.getElem_mem hk)
 have h9:e.2.2.1[k].1<9999:=by
  have:=t7z.mp he.below _ (List.mem_append_right e.2.1 (List.getElem_mem hk))
  have:=he.next.2;omega
 obtain⟨k1,k2⟩:=r6q (t:=e.2.2.1[k]) (u:=e.2.2.1[k]) h he hb hc hv q1 h9 q3 rfl rfl rfl
 refine⟨_,?_,q21.mp k1,k2⟩
 unfold u4s
 rw[if_pos ⟨q21.mpr hb,p6k.mpr (.fin _ _ hn)⟩]
 have e1:u1h b (3,u5y,n,true,u2s)=some (u0m b e.2.2.1[k]):=by
  unfold u1h
  simp only
  rw[if_neg (by decide),if_neg (by decide),if_pos trivial,s74 h.ready,hr,if_neg (by omega),if_pos trivial,zTn]
  congr 2
  rw[h.ready]
  exact y8k (t:=u1f) hk
 rw[e1]
 simp only
 rw[if_pos k1]
theorem p3m {b e:u0i} {n:ByteArray} {k:Nat} (h:Like0 b e) (he:BaseR e) (hb:BaseR b) (hn:u48 n=true) (hk:k<e.2.2.1.length) (hr:u0n e n=(k:Int)):
 ∃x,u4s b (3,u5y,n,false,u2s)=some x∧BaseR x∧Like0 x (t2y e n):=by
 have hR:=r9q hb n
 refine⟨u1t (t2y b n) [],?_,t00 hR _,?_⟩
 ·unfold u4s
  rw[if_pos ⟨q21.mpr hb,p6k.mpr (.fin _ _ hn)⟩]
  have e1:u1h b (3,u5y,n,false,u2s)=some (t2y b n):=by
   unfold u1h
   simp only
   rw[if_neg (by decide),if_neg (by decide),if_pos trivial,s74 h.ready,hr,if_neg (by omega),if_neg (by decide)]
  rw[e1]
  simp only
  rw[if_pos (q21.mpr (t00 hR _))]
 ·rw[t3h (fun x hx=>(hR.past x hx).2.2)]
  refine⟨?_,rfl,?_,h.cs⟩
  ·show u1k b.1 b.2.2.2.1=u1k e.1 e.2.2.2.1
   rw[h.cs,h.vs]
   exact r4c (p4f.mp he.vs).2.1 (Int.le_refl _)
  ·show b.2.2.1.filter _=e.2.2.1.filter _
   rw[h.ready]
theorem q7t {b e:u0i} {t:u0g} {n:ByteArray} (h:Like0 b e) (he:BaseR e) (hb:BaseR b) (ht:TxnR t) (h3:t.2.1≠3) (hn:u48 n=true) (hs:t.2.2.1≤e.2.2.2.1) (hl:e.2.2.1.length<3)
 (hx:∀x∈e.2.2.1,x.2.2.2.2.2.2.2≠n) (hid:∀x∈e.2.2.1,x.1≠t.1) (h9:t.1<9999):
 ∃x,u4s b (2,u3r e t n,emp,false,u2s)=some x∧BaseR x∧Like0 x (u1o e t n):=by
 have hD:=q5o (b:=e) ht h3 hn
 have hrr:u3r b (u3r e t n) n=u3r e t n:=by
  have:s7y (u3r e t n) b.2.1=false:=by rw[h.past];rfl
  unfold u3r at this ⊢
  rw[this,Bool.or_false]
 have hR:BaseR (u1o b (u3r e t n) n):=s3b hb hD (by show(2:Int)≠3;omega) (by rw[h.cs];exact hs) hn (by rw[h.ready];exact hl) (by rw[h.ready];exact hx) (by
  rw[h.past,h.ready];exact hid) h9
 refine⟨u1t (u1o b (u3r e t n) n) [],?_,t00 hR _,?_⟩
 ·unfold u4s
  rw[if_pos ⟨q21.mpr hb,p6k.mpr (.rdy _ hD rfl)⟩]
  have e1:u1h b (2,u3r e t n,emp,false,u2s)=some (u1o b (u3r e t n) n):=by
   unfold u1h
   simp only
   have hcond:b.2.2.1.length<3∧u0n b (u3r e t n).2.2.2.2.2.2.2<0:=⟨by rw[h.ready];exact hl,by rw[s74 h.ready];exact p7e.mpr hx⟩
   rw[if_neg (by decide),if_pos trivial,if_pos hcond]
   rfl
  rw[e1]
  simp only
  rw[if_pos (q21.mpr (t00 hR _))]
 ·rw[t3h (fun x hx=>(hR.past x hx).2.2)]
  refine⟨?_,rfl,?_,h.cs⟩
  ·show u1k b.1 b.2.2.2.1=u1k e.1 e.2.2.2.1
   rw[h.cs,h.vs]
   exact r4c (p4f.mp he.vs).2.1 (Int.le_refl _)
  ·show(b.2.2.1.filter _)++ [u3r b (u3r e t n) n] ++(b.2.2.1.filter _)=(e.2.2.1.filter _)++ [u3r e t n] ++(e.2.2.1.filter _)
   rw[h.ready,hrr]
theorem q97:BaseR q8f:=by
 refine⟨rfl,fun v h=>(by cases h),⟨Int.le_refl _,by decide⟩,⟨by decide,by decide⟩,by decide,fun t h=>(by cases h),List.Pairwise.nil,by decide,fun t h=>(by cases h),List.Pairwise.nil,fun x h=>(by cases h),List.Pairwise.nil⟩
theorem q9e {b:u0i} (hb:BaseR b) (hs:u1t b [] =b):u4s q8f (4,u5y,emp,false,b)=some b:=by
 unfold u4s
 rw[if_pos ⟨q21.mpr q97,p6k.mpr (.bas b hb)⟩]
 have e1:u1h q8f (4,u5y,emp,false,b)=some b:=by
  unfold u1h
  simp only
  rw[if_neg (by decide),if_neg (by decide),if_neg (by decide)]
 rw[e1]
 simp only
 rw[hs,if_pos (q21.mpr hb)]
theorem q3m {d y:u0k} {t:ByteArray} (h:s78 d [t] =some y):u3s d=true∧u3s y=true∧u0l y= [t] :=by
 obtain⟨x,hx⟩:∃x,s80 d [t] =some x:=by
  cases q:s80 d [t] with
  | none=>unfold s78 at h;rw[q] at h;cases h
  | some x=>exact⟨x,rfl⟩
 have hl:u3s d=true:=by
  unfold s80 at hx
  split at hx
  ·assumption
  ·cases hx
 obtain⟨a1,a2⟩:=t4v d
 obtain⟨f1,f2,f3,f4,f5⟩:=r9m hl
 have hp:∃z,q3d (s1m d) (u4p d) t=some z:=by
  unfold s80 at hx
  rw[if_pos hl] at hx
  cases q:q3d (s1m d) (u4p d) t with
  | none=>simp only[r0u,q] at hx;cases hx
  | some z=>exact⟨z,rfl⟩
 obtain⟨z,hz⟩:=hp
 obtain⟨w,hw,_⟩:=p3s (u43 f1).2.1 hz
 obtain⟨E,hE,g1,g2,g3,g4,g5⟩:=q39 hw
 obtain⟨x',x1,x2,x3,x4,x5⟩:=p4u (l:= [t]) hl (by simp) (by simp[p1s];omega) (fun u hu=>by simp at hu;subst hu;exact⟨g3,g4⟩)
 rw[hx] at x1
 cases x1
 obtain⟨y',y1,y2,y3,_⟩:=p09 hx x2 x3 x4 x5 hl
 rw[h] at y1
 cases y1
 exact⟨hl,y2,y3⟩
def p15 (d:u0k):Option u0k:=match t05 (u0l d) with
 | none=>none
 | some b=>if(u1d (4,u5y,emp,false,b)).2=true then s78 d [(u1d (4,u5y,emp,false,b)).1] else none
def t2z (d:u0k) (r:t89):Option u0k:=
 if(u1d r).2=true then(match append_ d (u1d r).1 with
  | some y=>some y
  | none=>match p15 d with
   | none=>none
   | some z=>append_ z (u1d r).1)
 else none
theorem q90 {d y:u0k} {b:u0i} (hp:t05 (u0l d)=some b) (hb:BaseR b) (hs:u1t b [] =b) (h:p15 d=some y):u3s d=true∧u3s y=true∧t05 (u0l y)=some b:=by
 unfold p15 at h
 rw[hp] at h
 simp only at h
 rw[u9w (.bas b hb),if_pos rfl] at h
 obtain⟨h1,h2,h3⟩:=q3m h
 refine⟨h1,h2,?_⟩
 rw[h3]
 unfold t05
 simp only[t78]
 rw[s72 (.bas b hb)]
 simp only
 rw[q9e hb hs]
theorem r7v {d y:u0k} {b x:u0i} {r:t89} (hp:t05 (u0l d)=some b) (hb:BaseR b) (hs:u1t b [] =b) (hr:RecR r) (hx:u4s b r=some x) (h:t2z d r=some y):u3s y=true∧t05 (u0l y)=some x:=by
 have step:∀ {d y:u0k},t05 (u0l d)=some b→append_ d (s81 (s75 r))=some y→u3s y=true∧t05 (u0l y)=some x:=by
  intro d y hp h
  obtain⟨h1,h2,h3⟩:=p02 h
  refine⟨h2,?_⟩
  rw[h3]
  unfold t05 at hp ⊢
  rw[p1k,hp]
  simp only[zOb,t78]
  rw[s72 hr]
  simp only
  rw[hx]
 unfold t2z at h
 rw[u9w hr,if_pos rfl] at h
 simp only at h
 cases q:append_ d (s81 (s75 r)) with
 | some z=>
  rw[q] at h
  cases h
  exact step hp q
 | none=>
  rw[q] at h
  simp only at h
  cases a:p15 d with
  | none=>rw[a] at h;cases h
  | some z=>
   rw[a] at h
   obtain⟨_,_,z3⟩:=q90 hp hb hs a
   exact step z3 h
end
section
def p66 (x:u0g):Bool:=decide (x.2.1=2) || decide (x.2.1=3)
def p16 (t:u0g) (l:List u0g):Bool:=l.any fun x=>p66 x&&ahead x t
def r8i (t:u0g) (l:List u0g):Bool:=l.any fun x=> !decide (x.1=t.1)&&((decide (x.2.1=2) || (decide (x.2.1=3)&&decide (x.2.2.2.1 >t.2.2.1)))&&r31 x.2.2.2.2.2.1 t.2.2.2.2.2.1)
def q4e (f:u0g→Bool) (t:u0g) (l:List u0g):Bool:=
 (p16 t l&&s7y t l) || (l.any (fun x=>p66 x&&(x.2.2.2.2.2.2.1&&ahead t x)) ||
  l.any fun p=>decide (p.2.1=2)&&(ahead p t&&(ahead t p || l.any fun x=>decide (x.2.1=2)&&(f x&&ahead x p))))
def r6f (t:u0g) (l:List u0g):Bool:=q4e (fun x=> !decide (x.1=t.1)) t l
def r6m (f:u0g→Bool) (t:u0g) (l:List u0g):Bool:=
 q4e f t l || ((p16 t l&&l.any fun x=>decide (x.2.1=2)&&ahead t x) || l.any fun x=>(decide (x.2.1=2)&&ahead t x)&&l.any fun y=>decide (y.2.1=2)&&(!decide (y.1=t.1)&&ahead x y))
def t8o (t:u0g) (l:List u0g):Bool:=r6m (fun x=> !decide (x.1=t.1)) t l
theorem t56 {a b:u0g} :ahead a b=true↔a.1≠b.1∧ ¬(a.2.1=3∧a.2.2.2.1≤b.2.2.1)∧ ¬(b.2.1=3∧b.2.2.2.1≤a.2.2.1)∧s79 a.2.2.2.2.1 b.2.2.2.2.2.1=true:=by
 unfold ahead r0o r92
 simp only[Bool.and_eq_true,Bool.not_eq_true',Bool.and_eq_false_iff,decide_eq_false_iff_not,not_and,and_assoc]
 constructor
 ·rintro⟨h1,h2,h3,h4⟩
  exact⟨h1,fun e=>h2.resolve_left (fun q=>q e),fun e=>h3.resolve_left (fun q=>q e),h4⟩
 ·rintro⟨h1,h2,h3,h4⟩
  refine⟨h1,?_,?_,h4⟩
  ·by_cases e:a.2.1=3
   ·exact .inr (h2 e)
   ·exact .inl e
  ·by_cases e:b.2.1=3
   ·exact .inr (h3 e)
   ·exact .inl e
structure SameC (x y:u0g):Prop where
 id:x.1=y.1
 st:x.2.1=y.2.1
 snap:x.2.2.1=y.2.2.1
 cs:x.2.2.2.1=y.2.2.2.1
 rs:x.2.2.2.2.1=y.2.2.2.2.1
 ws:x.2.2.2.2.2.1=y.2.2.2.2.2.1
theorem SameC.refl (x:u0g):SameC x x:=⟨rfl,rfl,rfl,rfl,rfl,rfl⟩
theorem SameC.symm {x y:u0g} (h:SameC x y):SameC y x:=⟨h.id.symm,h.st.symm,h.snap.symm,h.cs.symm,h.rs.symm,h.ws.symm⟩
theorem SameC.ahead {x x' y y' :u0g} (h:SameC x x') (k:SameC y y'):Ab.ahead x y=Ab.ahead x' y' :=by
 unfold Ab.ahead r0o r92
 rw[h.id,h.st,h.snap,h.cs,h.rs,k.id,k.st,k.snap,k.cs,k.ws]
theorem q7e (d x:u0g):SameC (r1p d x) x:=⟨rfl,rfl,rfl,rfl,rfl,rfl⟩
theorem q2w {b:u0i} {t d y:u0g} (hd:SameC d (u7c b t)) (ht:t.2.1≠3) (hy:y.2.2.1≤b.2.2.2.1):ahead d y=ahead t y∧ahead y d=ahead y t:=by
 have h1:ahead d y=ahead (u7c b t) y:=hd.ahead (SameC.refl y)
 have h2:ahead y d=ahead y (u7c b t):=(SameC.refl y).ahead hd
 rw[h1,h2]
 constructor
 ·apply Bool.eq_iff_iff.mpr
  rw[t56,t56]
  refine and_congr_right fun _=>and_congr ?_ (and_congr Iff.rfl Iff.rfl)
  constructor
  ·exact fun _ q=>ht q.1
  ·rintro _ ⟨_,q⟩
   have q:b.2.2.2.1+1≤y.2.2.1:=q
   omega
 ·apply Bool.eq_iff_iff.mpr
  rw[t56,t56]
  refine and_congr_right fun _=>and_congr Iff.rfl (and_congr ?_ Iff.rfl)
  constructor
  ·exact fun _ q=>ht q.1
  ·rintro _ ⟨_,q⟩
   have q:b.2.2.2.1+1≤y.2.2.1:=q
   omega
theorem q3c (a b:List WrT):r31 a b=r31 b a:=by
 unfold r31
 apply Bool.eq_iff_iff.mpr
 simp only[List.any_eq_true]
 constructor
 ·rintro⟨x,hx,y,hy,h⟩;exact⟨y,hy,x,hx,by rw[q3k];exact h⟩
 ·rintro⟨x,hx,y,hy,h⟩;exact⟨y,hy,x,hx,by rw[q3k];exact h⟩
structure Ser (H:List u0g) (e:u2b):Prop where
 eng:EngR e
 st:∀x∈H,x.2.1=3
 snap:∀x∈H,x.2.2.1<x.2.2.2.1∧x.2.2.2.1≤e.1.2.2.2.1
 asc:H.Pairwise fun x y=>x.2.2.2.1<y.2.2.2.1
 uqh:uq (H++(e.1.2.2.1++e.2))
 bel:∀x∈H,x.1<e.1.2.2.2.2
 pin:∀x∈e.1.2.1,∃y∈H,SameC x y
 cov:∀y∈H,∀o∈e.2,o.2.2.1<y.2.2.2.1→ ∃x∈e.1.2.1,SameC x y
 outp:∀x∈e.1.2.1,∀y∈H,ahead x y=true→y.2.2.2.1<x.2.2.2.1→x.2.2.2.2.2.2.1=true
 outr:∀p∈e.1.2.2.1,∀y∈H,ahead p y=true→p.2.2.2.2.2.2.1=true
 no3:∀x∈H,∀y∈H,∀z∈H,ahead x y=true→ahead y z=true→z.2.2.2.1<y.2.2.2.1→z.2.2.2.1≤x.2.2.2.1→False
 noA:∀x∈H,∀p∈e.1.2.2.1,∀z∈H,ahead x p=true→ahead p z=true→z.2.2.2.1≤x.2.2.2.1→False
 noB:∀p∈e.1.2.2.1,∀y∈H,∀z∈H,ahead p y=true→ahead y z=true→z.2.2.2.1<y.2.2.2.1→False
 noD:∀p∈e.1.2.2.1,∀q∈e.1.2.2.1,∀z∈H,ahead p q=true→ahead q z=true→False
 noE:∀p∈e.1.2.2.1,∀q∈e.1.2.2.1,∀r∈e.1.2.2.1,ahead p q=true→ahead q r=true→False
 ww:∀x∈H,∀y∈H,x.2.2.2.1<y.2.2.2.1→r31 x.2.2.2.2.2.1 y.2.2.2.2.2.1=true→x.2.2.2.1≤y.2.2.1
 wr:∀p∈e.1.2.2.1,∀y∈H,r31 y.2.2.2.2.2.1 p.2.2.2.2.2.1=true→y.2.2.2.1≤p.2.2.1
 rr:∀p∈e.1.2.2.1,∀q∈e.1.2.2.1,p.1≠q.1→r31 p.2.2.2.2.2.1 q.2.2.2.2.2.1=true→False
def q9k (c:Int) (t:u0g):u0g:=(t.1,(3:Int),t.2.2.1,c,t.2.2.2.2.1,t.2.2.2.2.2.1,t.2.2.2.2.2.2.1,(⟨#[]⟩:ByteArray))
theorem p5l (b:u0i) (t:u0g):SameC (q9k (b.2.2.2.1+1) t) (u7c b t):=⟨rfl,rfl,rfl,rfl,rfl,rfl⟩
theorem Ser.opens {H:List u0g} {e e' :u2b} (h:Ser H e) (hR:EngR e') (h1:e'.1.2.1=e.1.2.1) (h2:e'.1.2.2.1=e.1.2.2.1) (h3:e'.1.2.2.2.1=e.1.2.2.2.1) (h4:e.1.2.2.2.2≤e'.1.2.2.2.2)
 (ho:∀o∈e'.2,(∃p∈e.2,p.1=o.1∧p.2.2.1=o.2.2.1)∨(e.1.2.2.2.2≤o.1∧o.2.2.1=e.1.2.2.2.1)):Ser H e' :=by
 obtain⟨u1,u2,u3⟩:=o3a.mp h.uqh
 refine⟨hR,h.st,by rw[h3];exact h.snap,h.asc,?_,fun x hx=>by have:=h.bel x hx;omega,by rw[h1];exact h.pin,?_,by rw[h1];exact h.outp,by rw[h2];exact h.outr,h.no3,by rw[h2];exact h.noA,by rw[h2];exact h.noB,by rw[h2];exact h.noD,by rw[h2];exact h.noE,h.ww,by rw[h2];exact h.wr,by rw[h2];exact h.rr⟩
 ·have hu:=hR.uq
  rw[List.append_assoc] at hu
  refine o3a.mpr ⟨u1,(o3a.mp hu).2.1,fun x hx y hy=> ?_⟩
  rcases List.mem_append.mp hy with hy | hy
  ·rw[h2] at hy;exact u3 x hx y (List.mem_append_left _ hy)
  ·rcases ho y hy with ⟨p,hp,e1,_⟩ | ⟨e1,_⟩
   ·rw[←e1];exact u3 x hx p (List.mem_append_right _ hp)
   ·have:=h.bel x hx;omega
 ·intro y hy o ho' hlt
  rw[h1]
  rcases ho o ho' with ⟨p,hp,_,e2⟩ | ⟨_,e2⟩
  ·exact h.cov y hy p hp (by omega)
  ·have:=(h.snap y hy).2;omega
theorem q9d (b:u0i):∀(o:List u0g),∀t∈o,t32 b o≤t.2.2.1:=by
 have le:∀(o:List u0g) (m:Int),o.foldl (fun m t=>if t.2.2.1<m then t.2.2.1 else m) m≤m:=by
  intro o
  induction o with
  | nil=>intro m;exact Int.le_refl _
  | cons t o ih=>
   intro m
   rw[List.foldl_cons]
   refine Int.le_trans (ih _) ?_
   split<;>omega
 have key:∀(o:List u0g) (m:Int),∀t∈o,o.foldl (fun m t=>if t.2.2.1<m then t.2.2.1 else m) m≤t.2.2.1:=by
  intro o
  induction o with
  | nil=>intro m t ht;cases ht
  | cons x o ih=>
   intro m t ht
   rw[List.foldl_cons]
   rcases List.mem_cons.mp ht with rfl | ht
   ·refine Int.le_trans (le o _) ?_
    split<;>omega
   ·exact ih _ t ht
 exact fun o t ht=>key o _ t ht
theorem Ser.tidy {H:List u0g} {e:u2b} (h:Ser H e):Ser H (u1t e.1 e.2,e.2):=by
 have sub:∀x∈(u1t e.1 e.2).2.1,x∈e.1.2.1:=fun x hx=>(List.mem_filter.mp hx).1
 refine⟨p7j h.eng,h.st,h.snap,h.asc,h.uqh,h.bel,fun x hx=>h.pin x (sub x hx),?_,fun x hx=>h.outp x (sub x hx),h.outr,h.no3,h.noA,h.noB,h.noD,h.noE,h.ww,h.wr,h.rr⟩
 intro y hy o ho hlt
 obtain⟨x,hx,hs⟩:=h.cov y hy o ho hlt
 refine⟨x,List.mem_filter.mpr ⟨hx,?_⟩,hs⟩
 have:=q9d e.1 e.2 o ho
 have:=hs.cs
 simp only[Bool.not_eq_true',decide_eq_false_iff_not]
 omega
structure Passed (t:u0g) (P R:List u0g):Prop where
 nb:∀x∈P++R,x.1≠t.1→(x.2.1=2∨(x.2.1=3∧x.2.2.2.1 >t.2.2.1))→r31 x.2.2.2.2.2.1 t.2.2.2.2.2.1=true→False
 d1:∀x∈P++R,∀y∈P,ahead x t=true→ahead t y=true→False
 d2:∀x∈P++R,x.2.2.2.2.2.2.1=true→ahead t x=true→False
 d3:∀p∈R,ahead p t=true→ahead t p=true→False
 d4:∀p∈R,∀x∈R,ahead p t=true→ahead x p=true→x.1≠t.1→False
theorem Ser.inPast {H:List u0g} {e:u2b} (h:Ser H e) {t:u0g} (ht:t∈e.2) {y:u0g} (hy:y∈H) (ha:ahead t y=true∨ahead y t=true):∃x∈e.1.2.1,SameC x y:=by
 refine h.cov y hy t ht ?_
 have hs:=h.st y hy
 rcases ha with ha | ha
 ·have:=(t56.mp ha).2.2.1
  exact Int.not_le.mp fun q=>this ⟨hs,q⟩
 ·have:=(t56.mp ha).2.1
  exact Int.not_le.mp fun q=>this ⟨hs,q⟩
theorem Ser.commit {H:List u0g} {e:u2b} (h:Ser H e) {t:u0g} (ht:t∈e.2) (hf:r3v e.1=false) (hp:Passed t e.1.2.1 e.1.2.2.1):Ser (H++ [q9k (e.1.2.2.2.1+1) t]) (u0m e.1 t,t8p e t.1):=by
 have hE:=h.eng
 obtain⟨tR,t1,ts⟩:=hE.open_ t ht
 have t3:t.2.1≠3:=by omega
 have hsame:=p5l e.1 t
 have hgn:=u9u e.1.2.2.2.2 t.1
 have hHs:∀y∈H,y.2.2.1≤e.1.2.2.2.1:=fun y hy=>by have:=h.snap y hy;omega
 have hRs:∀y∈e.1.2.2.1,y.2.2.1≤e.1.2.2.2.1:=fun y hy=>(hE.base.ready y hy).2.2
 have hPs:∀y∈e.1.2.1,y.2.2.1≤e.1.2.2.2.1:=fun y hy=>by obtain⟨z,hz,q⟩:=h.pin y hy;rw[q.snap];exact hHs z hz
 have aL:∀y:u0g,y.2.2.1≤e.1.2.2.2.1→ahead (q9k (e.1.2.2.2.1+1) t) y=ahead t y:=fun y hy=>(q2w hsame t3 hy).1
 have aR:∀y:u0g,y.2.2.1≤e.1.2.2.2.1→ahead y (q9k (e.1.2.2.2.1+1) t)=ahead y t:=fun y hy=>(q2w hsame t3 hy).2
 have self:∀x:u0g,ahead x x=false:=fun x=>by
  cases q:ahead x x with
  | false=>rfl
  | true=>exact absurd rfl (t56.mp q).1
 have inP:∀y∈H,ahead y t=true→ ∃x∈e.1.2.1,ahead x t=true:=fun y hy q=>by
  obtain⟨x,hx,hs⟩:=h.inPast ht hy (.inr q)
  exact⟨x,hx,by rw[hs.ahead (SameC.refl t)];exact q⟩
 have outP:∀y∈H,ahead t y=true→ ∃x∈e.1.2.1,SameC x y∧ahead t x=true:=fun y hy q=>by
  obtain⟨x,hx,hs⟩:=h.inPast ht hy (.inl q)
  exact⟨x,hx,hs,by rw[(SameC.refl t).ahead hs];exact q⟩
 have ready' :∀p∈(u0m e.1 t).2.2.1,∃q∈e.1.2.2.1,p=r1p (u7c e.1 t) q:=fun p hp=>by
  obtain⟨q,hq,rfl⟩:=List.mem_map.mp hp
  exact⟨q,(List.mem_filter.mp hq).1,rfl⟩
 have snoc:∀ {x:u0g},x∈H++ [q9k (e.1.2.2.2.1+1) t] →x∈H∨x=q9k (e.1.2.2.2.1+1) t:=fun {x} hx=>by
  rcases List.mem_append.mp hx with hx | hx
  ·exact .inl hx
  ·exact .inr (List.mem_singleton.mp hx)
 have csN:(q9k (e.1.2.2.2.1+1) t).2.2.2.1=e.1.2.2.2.1+1:=rfl
 have fl:∀(q y:u0g),ahead (r1p (u7c e.1 t) q) y=ahead q y:=fun q y=>(q7e _ q).ahead (SameC.refl y)
 have fr:∀(q y:u0g),ahead y (r1p (u7c e.1 t) q)=ahead y q:=fun q y=>(SameC.refl y).ahead (q7e _ q)
 obtain⟨u1,u2,u3⟩:=o3a.mp h.uqh
 obtain⟨u4,u5,u6⟩:=o3a.mp u2
 have hEc:=q94 hE ht hf
 have hE' :EngR (u0m e.1 t,t8p e t.1):=r6j hE (s2b hE (.inl ht) hf) (u7l e t.1) (by show e.1.2.2.2.1≤e.1.2.2.2.1+1;omega) hgn.1 fun x hx y hy=>by
  rcases r1z hx with q | ⟨z,hz,q⟩
  ·rw[q];exact(q5p hy).symm
  ·rw[←q];exact hE.apart z hz y ((u7l e t.1).subset hy)
 refine⟨hE',?_,?_,?_,?_,?_,?_,?_,?_,?_,?_,?_,?_,?_,?_,?_,?_,?_⟩
 ·-- st
  intro x hx
  rcases snoc hx with hx | rfl
  ·exact h.st x hx
  ·rfl
 ·-- snap
  intro x hx
  show x.2.2.1<x.2.2.2.1∧x.2.2.2.1≤e.1.2.2.2.1+1
  rcases snoc hx with hx | rfl
  ·have:=h.snap x hx;omega
  ·show t.2.2.1<e.1.2.2.2.1+1∧e.1.2.2.2.1+1≤e.1.2.2.2.1+1
   omega
 ·-- asc
  rw[List.pairwise_append]
  refine⟨h.asc,List.pairwise_singleton _ _,fun x hx y hy=> ?_⟩
  rw[List.mem_singleton] at hy;subst hy
  have:=(h.snap x hx).2
  show x.2.2.2.1<e.1.2.2.2.1+1
  omega
 ·-- uq
  have hu:=hE'.uq
  rw[List.append_assoc] at hu
  obtain⟨k1,k2,k3⟩:=o3a.mp hu
  refine o3a.mpr ⟨o3a.mpr ⟨u1,p32,fun x hx y hy=> ?_⟩,k2,fun x hx y hy=> ?_⟩
  ·rw[List.mem_singleton] at hy;subst hy
   exact u3 x hx t (List.mem_append_right _ ht)
  ·rcases snoc hx with hx | rfl
   ·rcases List.mem_append.mp hy with hy | hy
    ·obtain⟨q,hq,rfl⟩:=ready' y hy
     exact u3 x hx q (List.mem_append_left _ hq)
    ·exact u3 x hx y (List.mem_append_right _ ((u7l e t.1).subset hy))
   ·exact k3 (u7c e.1 t) (by show _∈e.1.2.1++ [u7c e.1 t];simp) y hy
 ·-- below
  intro x hx
  show x.1<u1a e.1.2.2.2.2 t.1
  rcases snoc hx with hx | rfl
  ·have:=h.bel x hx;omega
  ·exact hgn.2
 ·-- pin
  intro x hx
  rcases List.mem_append.mp hx with hx | hx
  ·obtain⟨y,hy,q⟩:=h.pin x hx
   exact⟨y,List.mem_append_left _ hy,q⟩
  ·rw[List.mem_singleton] at hx;subst hx
   exact⟨_,List.mem_append_right _ (List.mem_singleton.mpr rfl),hsame.symm⟩
 ·-- cov
  intro y hy o ho hlt
  rcases snoc hy with hy | rfl
  ·obtain⟨x,hx,q⟩:=h.cov y hy o ((u7l e t.1).subset ho) hlt
   exact⟨x,List.mem_append_left _ hx,q⟩
  ·exact⟨u7c e.1 t,List.mem_append_right _ (List.mem_singleton.mpr rfl),hsame.symm⟩
 ·-- outp
  intro x hx y hy ha hlt
  rcases List.mem_append.mp hx with hx | hx
  ·rcases snoc hy with hy | rfl
   ·exact h.outp x hx y hy ha hlt
   ·obtain⟨z,hz,q⟩:=h.pin x hx
    have:=(h.snap z hz).2
    have:=q.cs
    have hlt:e.1.2.2.2.1+1<x.2.2.2.1:=hlt
    omega
  ·rw[List.mem_singleton] at hx;subst hx
   rcases snoc hy with hy | rfl
   ·have q:ahead t y=true:=by
     rw[hsame.symm.ahead (SameC.refl y),aL y (hHs y hy)] at ha;exact ha
    obtain⟨z,hz,hs,hz2⟩:=outP y hy q
    show(t.2.2.2.2.2.2.1 || s7y t e.1.2.1)=true
    have:s7y t e.1.2.1=true:=List.any_eq_true.mpr ⟨z,hz,by rw[(hE.base.past z hz).2.1,hz2];rfl⟩
    rw[this,Bool.or_true]
   ·rw[hsame.symm.ahead (SameC.refl _),self] at ha;cases ha
 ·-- outr
  intro p hp' y hy ha
  obtain⟨q,hq,rfl⟩:=ready' p hp'
  rw[fl] at ha
  show(q.2.2.2.2.2.2.1 || ahead q (u7c e.1 t))=true
  rcases snoc hy with hy | rfl
  ·rw[h.outr q hq y hy ha];rfl
  ·rw[(SameC.refl q).ahead hsame] at ha
   rw[ha,Bool.or_true]
 ·-- no3
  intro x hx y hy z hz q1 q2 l1 l2
  rcases snoc hz with hz | rfl
  ·rcases snoc hy with hy | rfl
   ·rcases snoc hx with hx | rfl
    ·exact h.no3 x hx y hy z hz q1 q2 l1 l2
    ·-- it reads ahead of y,which is Out
     rw[aL y (hHs y hy)] at q1
     obtain⟨w,hw,hs,hw2⟩:=outP y hy q1
     refine hp.d2 w (List.mem_append_left _ hw) (h.outp w hw z hz ?_ (by rw[hs.cs];exact l1)) hw2
     rw[hs.ahead (SameC.refl z)];exact q2
   ·rw[aL z (hHs z hz)] at q2
    obtain⟨w,hw,_,hw2⟩:=outP z hz q2
    rcases snoc hx with hx | rfl
    ·rw[aR x (hHs x hx)] at q1
     obtain⟨v,hv,hv2⟩:=inP x hx q1
     exact hp.d1 v (List.mem_append_left _ hv) w hw hv2 hw2
    ·rw[self] at q1;cases q1
  ·rcases snoc hy with hy | rfl
   ·have:=(h.snap y hy).2
    rw[csN] at l1
    omega
   ·rw[self] at q2;cases q2
 ·-- noA
  intro x hx p hp' z hz q1 q2 l
  obtain⟨q,hq,rfl⟩:=ready' p hp'
  rw[fr] at q1;rw[fl] at q2
  rcases snoc hz with hz | rfl
  ·rcases snoc hx with hx | rfl
   ·exact h.noA x hx q hq z hz q1 q2 l
   ·rw[aL q (hRs q hq)] at q1
    exact hp.d2 q (List.mem_append_right _ hq) (h.outr q hq z hz q2) q1
  ·rcases snoc hx with hx | rfl
   ·have:=(h.snap x hx).2
    rw[csN] at l
    omega
   ·rw[aL q (hRs q hq)] at q1
    rw[aR q (hRs q hq)] at q2
    exact hp.d3 q hq q2 q1
 ·-- noB
  intro p hp' y hy z hz q1 q2 l
  obtain⟨q,hq,rfl⟩:=ready' p hp'
  rw[fl] at q1
  rcases snoc hz with hz | rfl
  ·rcases snoc hy with hy | rfl
   ·exact h.noB q hq y hy z hz q1 q2 l
   ·rw[aR q (hRs q hq)] at q1
    rw[aL z (hHs z hz)] at q2
    obtain⟨w,hw,_,hw2⟩:=outP z hz q2
    exact hp.d1 q (List.mem_append_right _ hq) w hw q1 hw2
  ·rcases snoc hy with hy | rfl
   ·have:=(h.snap y hy).2
    rw[csN] at l
    omega
   ·rw[self] at q2;cases q2
 ·-- noD
  intro p hp' p2 hp2 z hz q1 q2
  obtain⟨q,hq,rfl⟩:=ready' p hp'
  obtain⟨r,hr,rfl⟩:=ready' p2 hp2
  rw[fl,fr] at q1;rw[fl] at q2
  rcases snoc hz with hz | rfl
  ·exact h.noD q hq r hr z hz q1 q2
  ·rw[aR r (hRs r hr)] at q2
   exact hp.d4 r hr q hq q2 q1 (hE.apart q (List.mem_append_right _ hq) t ht)
 ·-- noE
  intro p hp' p2 hp2 p3 hp3 q1 q2
  obtain⟨q,hq,rfl⟩:=ready' p hp'
  obtain⟨r,hr,rfl⟩:=ready' p2 hp2
  obtain⟨s,hs,rfl⟩:=ready' p3 hp3
  rw[fl,fr] at q1;rw[fl,fr] at q2
  exact h.noE q hq r hr s hs q1 q2
 ·-- ww
  intro x hx y hy l m
  rcases snoc hy with hy | rfl
  ·rcases snoc hx with hx | rfl
   ·exact h.ww x hx y hy l m
   ·have:=(h.snap y hy).2
    rw[csN] at l
    omega
  ·rcases snoc hx with hx | rfl
   ·show x.2.2.2.1≤t.2.2.1
    apply Int.not_lt.mp
    intro hlt
    obtain⟨w,hw,hs⟩:=h.cov x hx t ht hlt
    refine hp.nb w (List.mem_append_left _ hw) (hE.apart w (List.mem_append_left _ hw) t ht) (.inr ⟨(hE.base.past w hw).2.1,by rw[hs.cs];exact hlt⟩) ?_
    rw[hs.ws];exact m
   ·rw[csN] at l;omega
 ·-- wr
  intro p hp' y hy m
  obtain⟨q,hq,rfl⟩:=ready' p hp'
  show y.2.2.2.1≤q.2.2.1
  rcases snoc hy with hy | rfl
  ·exact h.wr q hq y hy m
  ·exfalso
   refine hp.nb q (List.mem_append_right _ hq) (hE.apart q (List.mem_append_right _ hq) t ht) (.inl (hE.base.ready q hq).2.1) ?_
   rw[q3c];exact m
 ·-- rr
  intro p hp' p2 hp2 hne m
  obtain⟨q,hq,rfl⟩:=ready' p hp'
  obtain⟨r,hr,rfl⟩:=ready' p2 hp2
  exact h.rr q hq r hr hne m
end
section
abbrev u1v:=u2b×u0k
def q53:t89:=(0,u5y,emp,false,u2s)
def t1c (o:List u0g) (id:Int):Int:=if u0q (fun x:u0g=>decide (x.1=id)) o<o.length then((u0q (fun x:u0g=>decide (x.1=id)) o:Nat):Int) else -1
def u3a (e:u2b) (id:Int):u0g:=rdL u1f e.2 (t1c e.2 id).toNat
def t77 (e:u2b):List u0g:=e.1.2.1++e.1.2.2.1
def r1r (e:u2b) (id:Int):Int:=
 if t1c e.2 id<0 then 1 else if r8i (u3a e id) (t77 e)=true then 4 else if r6f (u3a e id) (t77 e)=true then 5 else if r3v e.1=true then 3 else 0
def u4o (e:u2b) (id:Int):u2b×t89×Int:=
 if r1r e id=1 then(e,q53,1) else if r1r e id=0 then(r8k e (u3a e id),(1,u7c e.1 (u3a e id),emp,false,u2s),0) else(t9u e id,q53,r1r e id)
def s8p (e:u2b) (id:Int):Int:=
 if r1r e id≠0 then r1r e id else if t8o (u3a e id) (t77 e)=true then 5 else if 3≤e.1.2.2.1.length then 3 else 0
def t6m (e:u2b) (id:Int) (n:ByteArray):u2b×t89×Int:=
 if t1c e.2 id<0 then(e,q53,1) else if u48 n=false then(e,q53,2) else if 0≤u0n e.1 n then(e,q53,6)
 else if s8p e id=0 then(p3n e (u3a e id) n,(2,u3r e.1 (u3a e id) n,emp,false,u2s),0) else(t9u e id,q53,s8p e id)
def r49 (e:u2b) (n:ByteArray) (yes:Bool):u2b×t89×Int:=
 if u0n e.1 n<0 then(e,q53,1) else if yes=true∧r3v e.1=true then(e,q53,3)
 else if yes=true then(o1e e (rdL u1f e.1.2.2.1 (u0n e.1 n).toNat),(3,u5y,n,true,u2s),0) else(noE e n,(3,u5y,n,false,u2s),0)
def r9z (e:u2b) (id:Int):u2b×Int:=if t1c e.2 id<0 then(e,1) else(t9u e id,0)
def s1h (e:u2b):u2b×Int×Int:=if e.2.length<4∧e.1.2.2.2.2<9999 then(p6d e,e.1.2.2.2.2,0) else(e,0,3)
def o0c (l:List s22) (r:s22):Bool:=l.any fun x=>z7o x.1 r.1&&z7o x.2 r.2
def o26 (t:u0g) (r:s22):u0g:=(t.1,t.2.1,t.2.2.1,t.2.2.2.1,t.2.2.2.2.1++ [r],t.2.2.2.2.2)
def t87 (t:u0g) (r:s22):u0g×Bool:=if o0c t.2.2.2.2.1 r=true then(t,true) else if t.2.2.2.2.1.length<8 then(o26 t r,true) else(t,false)
def o1b (t:u0g) (l:List WrT):u0g:=(t.1,t.2.1,t.2.2.1,t.2.2.2.1,t.2.2.2.2.1,l,t.2.2.2.2.2.2)
def s55 (t:u0g) (w:WrT):u0g×Bool:=if(q0r t.2.2.2.2.2.1 w).length≤8 then(o1b t (q0r t.2.2.2.2.2.1 w),true) else(t,false)
def t86 (e:u2b) (id:Int) (r:s22) (right:Bool):u2b×Int:=
 if t1c e.2 id<0 then(e,1) else if right=false then(e,2) else if(t87 (u3a e id) r).2=true then(q9l e (t1c e.2 id).toNat (t87 (u3a e id) r).1,0) else(e,3)
def p0b (e:u2b) (id:Int) (w:WrT):u2b×Int:=
 if t1c e.2 id<0 then(e,1) else if u19 w=false then(e,2) else if(s55 (u3a e id) w).2=true then(q9l e (t1c e.2 id).toNat (s55 (u3a e id) w).1,0) else(e,3)
theorem u1z {e:u2b} {id:Int} (h: ¬t1c e.2 id<0):∃(k:Nat) (hk:k<e.2.length),t1c e.2 id=(k:Int)∧u3a e id=e.2[k] ∧e.2[k].1=id:=by
 unfold u3a
 unfold t1c at h ⊢
 split at h
 ·rename_i q
  rw[if_pos q]
  refine⟨_,q,rfl,?_,?_⟩
  ·rw[zTn];exact y8k (t:=u1f) q
  ·simpa using u7g q
 ·omega
theorem r5c {e:u2b} {id:Int} (h:r1r e id=0): ¬t1c e.2 id<0∧r8i (u3a e id) (t77 e)=false∧r6f (u3a e id) (t77 e)=false∧r3v e.1=false:=by
 unfold r1r at h
 split at h
 ·omega
 ·rename_i h1
  split at h
  ·omega
  ·rename_i h2
   split at h
   ·omega
   ·rename_i h3
    split at h
    ·omega
    ·rename_i h4
     exact⟨h1,by simpa using h2,by simpa using h3,by simpa using h4⟩
theorem p8l {t:u0g} {r:s22} (h:TxnR t) (hr:u18 r=true) (hl:t.2.2.2.2.1.length<8):TxnR (o26 t r):=
 ⟨h.id,h.st,h.snap,by show(t.2.2.2.2.1++ [r]).length≤8;simp only[List.length_append,List.length_singleton];omega,h.ws,fun x hx=>by
   rcases List.mem_append.mp hx with hx | hx
   ·exact h.rs x hx
   ·rw[List.mem_singleton] at hx;subst hx;exact hr,h.done,h.nocs,h.name,h.noname,h.out⟩
theorem p7d {t:u0g} {r:s22} (h:TxnR t) (hr:u18 r=true):TxnR (t87 t r).1∧(t87 t r).1.1=t.1∧(t87 t r).1.2.1=t.2.1∧(t87 t r).1.2.2.1=t.2.2.1∧(t87 t r).1.2.2.2.2.2.1=t.2.2.2.2.2.1:=by
 unfold t87
 split
 ·exact⟨h,rfl,rfl,rfl,rfl⟩
 ·split
  ·rename_i q;exact⟨p8l h hr q,rfl,rfl,rfl,rfl⟩
  ·exact⟨h,rfl,rfl,rfl,rfl⟩
theorem q9f {l:List WrT} {w:WrT} (h:u2i l=true) (hw:u19 w=true) (hl:(q0r l w).length≤8):u2i (q0r l w)=true:=by
 obtain⟨h1,h2,h3⟩:=p6l.mp h
 refine p6l.mpr ⟨fun x hx=> ?_,?_,hl⟩
 ·rcases r34 hx with hx | rfl
  ·exact h1 x hx
  ·exact hw
 ·unfold q0r
  rw[List.append_assoc,List.pairwise_append]
  refine⟨List.Pairwise.filter _ h2,?_,?_⟩
  ·rw[List.singleton_append,List.pairwise_cons]
   refine⟨fun y hy=> ?_,List.Pairwise.filter _ h2⟩
   have:=(List.mem_filter.mp hy).2
   rw[q7g] at this
   exact this
  ·intro x hx y hy
   have h4:=(List.mem_filter.mp hx).2
   rcases List.mem_append.mp hy with hy | hy
   ·rw[List.mem_singleton] at hy;subst hy;exact h4
   ·have h5:=(List.mem_filter.mp hy).2
    rw[q7g] at h5
    exact r08 h4 h5
theorem p87 {t:u0g} {l:List WrT} (h:TxnR t) (hl:u2i l=true):TxnR (o1b t l):=
 ⟨h.id,h.st,h.snap,h.rlen,hl,h.rs,h.done,h.nocs,h.name,h.noname,h.out⟩
theorem p51 {t:u0g} {w:WrT} (h:TxnR t) (hw:u19 w=true):TxnR (s55 t w).1∧(s55 t w).1.1=t.1∧(s55 t w).1.2.1=t.2.1∧(s55 t w).1.2.2.1=t.2.2.1∧(s55 t w).1.2.2.2.2.1=t.2.2.2.2.1:=by
 unfold s55
 split
 ·rename_i q;exact⟨p87 h (q9f h.ws hw q),rfl,rfl,rfl,rfl⟩
 ·exact⟨h,rfl,rfl,rfl,rfl⟩
theorem p8v {e:u2b} (h:EngR e) {id:Int} {r:s22} {right:Bool} (hr:right=true→u18 r=true):EngR (t86 e id r right).1:=by
 unfold t86
 split
 ·exact h
 ·rename_i q
  split
  ·exact h
  ·rename_i hb
   split
   ·obtain⟨k,hk,e1,e2,e3⟩:=u1z q
    obtain⟨o1,o2,o3⟩:=h.open_ _ (List.getElem_mem hk)
    rw[e1,zTn,e2]
    obtain⟨r1,r2,r3,r4,r5⟩:=p7d o1 (hr (by simpa using hb))
    exact q75 h hk r1 r2 (r3.trans o2) r4
   ·exact h
theorem o1a {e:u2b} (h:EngR e) {id:Int} {w:WrT} :EngR (p0b e id w).1:=by
 unfold p0b
 split
 ·exact h
 ·rename_i q
  split
  ·exact h
  ·rename_i hb
   split
   ·obtain⟨k,hk,e1,e2,e3⟩:=u1z q
    obtain⟨o1,o2,o3⟩:=h.open_ _ (List.getElem_mem hk)
    rw[e1,zTn,e2]
    obtain⟨r1,r2,r3,r4,r5⟩:=p51 (w:=w) o1 (by simpa using hb)
    exact q75 h hk r1 r2 (r3.trans o2) r4
   ·exact h
theorem p4p {e:u2b} (h:EngR e):EngR (s1h e).1:=by
 unfold s1h
 split
 ·rename_i q;exact p62 h q.1 q.2
 ·exact h
structure Sync (s:u1v) (b:u0i):Prop where
 eng:EngR s.1
 log:u3s s.2=true
 play:t05 (u0l s.2)=some b
 right:BaseR b
 like:Like0 b s.1.1
theorem Like0.of {b e e' :u0i} (h:Like0 b e) (h1:e'.1=e.1) (h2:e'.2.2.1=e.2.2.1) (h3:e'.2.2.2.1=e.2.2.2.1):Like0 b e' :=
 ⟨by rw[h1,h3];exact h.vs,h.past,by rw[h2];exact h.ready,by rw[h3];exact h.cs⟩
theorem Sync.opens {s:u1v} {b:u0i} {e:u2b} (h:Sync s b) (he:EngR e) (h1:e.1.1=s.1.1.1) (h2:e.1.2.2.1=s.1.1.2.2.1) (h3:e.1.2.2.2.1=s.1.1.2.2.2.1):Sync (e,s.2) b:=
 ⟨he,h.log,h.play,h.right,h.like.of h1 h2 h3⟩
theorem Sync.leave {s:u1v} {b:u0i} (h:Sync s b) (id:Int):Sync (t9u s.1 id,s.2) b:=
 ⟨p69 h.eng id,h.log,h.play,h.right,h.like.tidy h.eng.base _⟩
theorem Sync.own {s:u1v} {b:u0i} (h:Sync s b):u1t b [] =b:=h.like.self h.eng.base
def t4o (s:u1v) (id:Int):u1v×Int:=
 if(u4o s.1 id).2.2=0 then(match t2z s.2 (u4o s.1 id).2.1 with
  | some d=>(((u4o s.1 id).1,d),0)
  | none=>((t9u s.1 id,s.2),3))
 else(((u4o s.1 id).1,s.2),(u4o s.1 id).2.2)
def s77 (s:u1v) (id:Int) (n:ByteArray):u1v×Int:=
 if(t6m s.1 id n).2.2=0 then(match t2z s.2 (t6m s.1 id n).2.1 with
  | some d=>(((t6m s.1 id n).1,d),0)
  | none=>((t9u s.1 id,s.2),3))
 else(((t6m s.1 id n).1,s.2),(t6m s.1 id n).2.2)
def q0e (s:u1v) (n:ByteArray) (yes:Bool):u1v×Int:=
 if(r49 s.1 n yes).2.2=0 then(match t2z s.2 (r49 s.1 n yes).2.1 with
  | some d=>(((r49 s.1 n yes).1,d),0)
  | none=>(s,3))
 else(s,(r49 s.1 n yes).2.2)
def p4v (s:u1v):u1v×Bool:=match p15 s.2 with
 | some d=>((s.1,d),true)
 | none=>(s,false)
theorem Sync.commit {s:u1v} {b:u0i} (h:Sync s b) (id:Int):∃b',Sync (t4o s id).1 b' ∧(b' =b∨((t4o s id).2=0∧r1r s.1 id=0∧u4s b (1,u7c s.1.1 (u3a s.1 id),emp,false,u2s)=some b')):=by
 have hE:=h.eng
 unfold t4o
 by_cases c0:(u4o s.1 id).2.2=0
 ·rw[if_pos c0]
  have j0:r1r s.1 id=0:=by
   unfold u4o at c0
   split at c0
   ·cases c0
   ·split at c0
    ·assumption
    ·exact c0
  have ec:u4o s.1 id=(r8k s.1 (u3a s.1 id),(1,u7c s.1.1 (u3a s.1 id),emp,false,u2s),0):=by
   unfold u4o;rw[if_neg (by omega),if_pos j0]
  obtain⟨h1,h2,h3,h4⟩:=r5c j0
  obtain⟨k,hk,e1,e2,e3⟩:=u1z h1
  have ht:u3a s.1 id∈s.1.2:=by rw[e2];exact List.getElem_mem hk
  obtain⟨f1,f2,f3⟩:=q5e h4
  obtain⟨tR,t1,ts⟩:=hE.open_ _ ht
  have h9:(u3a s.1 id).1<9999:=by have:=hE.bel _ (List.mem_append_right _ ht);have:=hE.base.next.2;omega
  obtain⟨x,p1,p2,p3⟩:=q2h (t:=u3a s.1 id) h.like hE.base h.right f3 f2 tR h9 ts
  rw[ec]
  simp only
  cases hk2:t2z s.2 (1,u7c s.1.1 (u3a s.1 id),emp,false,u2s) with
  | none=>exact⟨b,h.leave id, .inl rfl⟩
  | some d=>
   obtain⟨l1,l2⟩:=r7v h.play h.right h.own (.thr _ (q81 tR ts f3) rfl) p1 hk2
   have hR:=q94 hE ht h4
   exact⟨x,⟨hR,l1,l2,p2,p3.tidy (s2b hE (.inl ht) h4) _⟩, .inr ⟨rfl,j0,p1⟩⟩
 ·rw[if_neg c0]
  refine⟨b,?_, .inl rfl⟩
  unfold u4o
  split
  ·exact h
  ·split
   ·rename_i q1 q2
    exfalso;apply c0
    unfold u4o;rw[if_neg q1,if_pos q2]
   ·exact h.leave id
theorem p85 {e:u2b} {id:Int} (h:s8p e id=0):r1r e id=0∧t8o (u3a e id) (t77 e)=false∧e.1.2.2.1.length<3:=by
 unfold s8p at h
 split at h
 ·rename_i q;exact absurd h q
 ·rename_i q
  split at h
  ·omega
  ·rename_i q2
   split at h
   ·omega
   ·exact⟨by omega,by simpa using q2,by omega⟩
theorem p3o {e:u2b} {id:Int} {n:ByteArray} (h:(t6m e id n).2.2=0): ¬t1c e.2 id<0∧u48 n=true∧u0n e.1 n<0∧s8p e id=0∧t6m e id n=(p3n e (u3a e id) n,(2,u3r e.1 (u3a e id) n,emp,false,u2s),0):=by
 unfold t6m at h ⊢
 split at h
 ·cases h
 ·rename_i q1
  split at h
  ·cases h
  ·rename_i q2
   split at h
   ·cases h
   ·rename_i q3
    split at h
    ·rename_i q4
     exact⟨q1,by simpa using q2,by omega,q4,by rw[if_neg q1,if_neg q2,if_neg q3,if_pos q4]⟩
    ·rename_i q4
     exact absurd h q4
theorem Sync.prep {s:u1v} {b:u0i} (h:Sync s b) (id:Int) (n:ByteArray):∃b',Sync (s77 s id n).1 b' ∧(b' =b∨((s77 s id n).2=0∧(t6m s.1 id n).2.2=0∧u4s b (2,u3r s.1.1 (u3a s.1 id) n,emp,false,u2s)=some b')):=by
 have hE:=h.eng
 unfold s77
 by_cases c0:(t6m s.1 id n).2.2=0
 ·rw[if_pos c0]
  obtain⟨h1,hn,hr,hc,ec⟩:=p3o c0
  obtain⟨j0,rd,rl⟩:=p85 hc
  obtain⟨k,hk,e1,e2,e3⟩:=u1z h1
  have ht:u3a s.1 id∈s.1.2:=by rw[e2];exact List.getElem_mem hk
  obtain⟨tR,t1,ts⟩:=hE.open_ _ ht
  have h9:(u3a s.1 id).1<9999:=by have:=hE.bel _ (List.mem_append_right _ ht);have:=hE.base.next.2;omega
  have hnn:=p7e.mp hr
  obtain⟨x,p1,p2,p3⟩:=q7t (t:=u3a s.1 id) (n:=n) h.like hE.base h.right tR (by omega) hn ts rl hnn (fun x hx=>hE.apart x (List.mem_append_right _ hx) _ ht) h9
  rw[ec]
  simp only
  cases hk2:t2z s.2 (2,u3r s.1.1 (u3a s.1 id) n,emp,false,u2s) with
  | none=>exact⟨b,h.leave id, .inl rfl⟩
  | some d=>
   obtain⟨l1,l2⟩:=r7v h.play h.right h.own (.rdy _ (q5o tR (by omega) hn) rfl) p1 hk2
   have hB:BaseR (u1o s.1.1 (u3a s.1 id) n):=s3b hE.base tR (by omega) ts hn rl hnn (fun x hx=>hE.apart x hx _ ht) h9
   exact⟨x,⟨p86 hE ht hn rl hnn,l1,l2,p2,p3.tidy hB _⟩, .inr ⟨by trivial,by trivial,p1⟩⟩
 ·rw[if_neg c0]
  refine⟨b,?_, .inl rfl⟩
  unfold t6m
  split
  ·exact h
  ·split
   ·exact h
   ·split
    ·exact h
    ·split
     ·rename_i q1 q2 q3 q4
      exfalso;apply c0
      unfold t6m;rw[if_neg q1,if_neg q2,if_neg q3,if_pos q4]
     ·exact h.leave id
theorem Sync.fin {s:u1v} {b:u0i} (h:Sync s b) (n:ByteArray) (yes:Bool):∃b',Sync (q0e s n yes).1 b' ∧(b' =b∨((q0e s n yes).2=0∧(r49 s.1 n yes).2.2=0∧u4s b (3,u5y,n,yes,u2s)=some b')):=by
 have hE:=h.eng
 unfold q0e
 by_cases c0:(r49 s.1 n yes).2.2=0
 ·rw[if_pos c0]
  unfold r49 at c0
  split at c0
  ·cases c0
  ·rename_i q1
   split at c0
   ·cases c0
   ·rename_i q2
    obtain⟨k,hk,r1,r2⟩:=t44 q1
    obtain⟨tR,t2,ts⟩:=hE.base.ready _ (List.getElem_mem hk)
    have hn:u48 n=true:=by rw[←r2];exact tR.name t2
    cases yes with
    | true=>
     have hf:r3v s.1.1=false:=by simpa using q2
     obtain⟨f1,f2,f3⟩:=q5e hf
     have ec:r49 s.1 n true=(o1e s.1 s.1.1.2.2.1[k],(3,u5y,n,true,u2s),0):=by
      unfold r49;rw[if_neg q1,if_neg q2,if_pos rfl,r1,zTn,y8k (t:=u1f) hk]
     obtain⟨x,p1,p2,p3⟩:=p1l h.like hE.base h.right f3 f2 hn hk r1
     rw[ec]
     simp only
     cases hk2:t2z s.2 (3,u5y,n,true,u2s) with
     | none=>exact⟨b,h, .inl rfl⟩
     | some d=>
      obtain⟨l1,l2⟩:=r7v h.play h.right h.own (.fin n true hn) p1 hk2
      exact⟨x,⟨o1f hE (List.getElem_mem hk) hf,l1,l2,p2,p3.tidy (s2b hE (.inr (List.getElem_mem hk)) hf) _⟩, .inr ⟨by trivial,by trivial,p1⟩⟩
    | false=>
     have ec:r49 s.1 n false=(noE s.1 n,(3,u5y,n,false,u2s),0):=by
      unfold r49;rw[if_neg q1,if_neg q2,if_neg (by decide)]
     obtain⟨x,p1,p2,p3⟩:=p3m h.like hE.base h.right hn hk r1
     rw[ec]
     simp only
     cases hk2:t2z s.2 (3,u5y,n,false,u2s) with
     | none=>exact⟨b,h, .inl rfl⟩
     | some d=>
      obtain⟨l1,l2⟩:=r7v h.play h.right h.own (.fin n false hn) p1 hk2
      exact⟨x,⟨o3u hE n,l1,l2,p2,p3.tidy (r9q hE.base n) _⟩, .inr ⟨by trivial,by trivial,p1⟩⟩
 ·rw[if_neg c0]
  exact⟨b,h, .inl rfl⟩
theorem Sync.fix {s:u1v} {b:u0i} (h:Sync s b):Sync (p4v s).1 b:=by
 unfold p4v
 cases ha:p15 s.2 with
 | none=>exact h
 | some d=>
  obtain⟨_,l1,l2⟩:=q90 h.play h.right h.own ha
  exact⟨h.eng,l1,l2,h.right,h.like⟩
end
section
theorem r4q (x:u0g):ahead x x=false:=by
 cases q:ahead x x with
 | false=>rfl
 | true=>exact absurd rfl (t56.mp q).1
structure PassedR (t:u0g) (P R:List u0g):Prop extends Passed t P R where
 e1:∀x∈P++R,∀y∈R,ahead x t=true→ahead t y=true→False
 e2:∀x∈R,∀y∈R,ahead t x=true→ahead x y=true→y.1≠t.1→False
theorem Ser.ready {H:List u0g} {e:u2b} (h:Ser H e) {t:u0g} {n:ByteArray} (ht:t∈e.2) (hk:u48 n=true) (hl:e.1.2.2.1.length<3) (hn:∀x∈e.1.2.2.1,x.2.2.2.2.2.2.2≠n) (hp:PassedR t e.1.2.1 e.1.2.2.1):
 Ser H (u1o e.1 t n,t8p e t.1):=by
 have hE:=h.eng
 obtain⟨tR,t1,ts⟩:=hE.open_ t ht
 have t3:t.2.1≠3:=by omega
 have hgn:=u9u e.1.2.2.2.2 t.1
 have hHs:∀y∈H,y.2.2.1≤e.1.2.2.2.1:=fun y hy=>by have:=h.snap y hy;omega
 have hRs:∀y∈e.1.2.2.1,y.2.2.1≤e.1.2.2.2.1:=fun y hy=>(hE.base.ready y hy).2.2
 have aL:∀y:u0g,ahead (u3r e.1 t n) y=ahead t y:=fun y=>by
  apply Bool.eq_iff_iff.mpr
  rw[t56,t56]
  refine and_congr_right fun _=>and_congr ⟨fun _ q=>t3 q.1,fun _ q=> ?_⟩ Iff.rfl
  have q:(2:Int)=3:=q.1
  omega
 have aR:∀y:u0g,ahead y (u3r e.1 t n)=ahead y t:=fun y=>by
  apply Bool.eq_iff_iff.mpr
  rw[t56,t56]
  refine and_congr_right fun _=>and_congr Iff.rfl (and_congr ⟨fun _ q=>t3 q.1,fun _ q=> ?_⟩ Iff.rfl)
  have q:(2:Int)=3:=q.1
  omega
 have inP:∀y∈H,ahead y t=true→ ∃x∈e.1.2.1,ahead x t=true:=fun y hy q=>by
  obtain⟨x,hx,hs⟩:=h.inPast ht hy (.inr q)
  exact⟨x,hx,by rw[hs.ahead (SameC.refl t)];exact q⟩
 have outP:∀y∈H,ahead t y=true→ ∃x∈e.1.2.1,SameC x y∧ahead t x=true:=fun y hy q=>by
  obtain⟨x,hx,hs⟩:=h.inPast ht hy (.inl q)
  exact⟨x,hx,hs,by rw[(SameC.refl t).ahead hs];exact q⟩
 have ready' :∀ {p:u0g},p∈(u1o e.1 t n).2.2.1→p∈e.1.2.2.1∨p=u3r e.1 t n:=fun {x} hx=>by
  rcases List.mem_append.mp hx with hx | hx
  ·rcases List.mem_append.mp hx with hx | hx
   ·exact .inl (List.mem_filter.mp hx).1
   ·rw[List.mem_singleton] at hx;exact .inr hx
  ·exact .inl (List.mem_filter.mp hx).1
 obtain⟨u1,u2,u3⟩:=o3a.mp h.uqh
 have hB:BaseR (u1o e.1 t n):=s3b hE.base tR t3 ts hk hl hn (fun x hx=>hE.apart x hx t ht) (by have:=hE.bel t (List.mem_append_right _ ht);have:=hE.base.next.2;omega)
 have hE' :EngR (u1o e.1 t n,t8p e t.1):=r6j hE hB (u7l e t.1) (Int.le_refl _) hgn.1 fun x hx y hy=>by
  have hy' :=(u7l e t.1).subset hy
  rcases List.mem_append.mp hx with hx | hx
  ·exact hE.apart x (List.mem_append_left _ hx) y hy'
  ·rcases ready' hx with hx | rfl
   ·exact hE.apart x (List.mem_append_right _ hx) y hy'
   ·exact(q5p hy).symm
 have apart:∀q∈e.1.2.2.1,q.1≠t.1:=fun q hq=>hE.apart q (List.mem_append_right _ hq) t ht
 refine⟨hE',h.st,h.snap,h.asc,?_,?_,h.pin,?_,h.outp,?_,h.no3,?_,?_,?_,?_,h.ww,?_,?_⟩
 ·-- uq
  have hu:=hE'.uq
  rw[List.append_assoc] at hu
  obtain⟨k1,k2,k3⟩:=o3a.mp hu
  refine o3a.mpr ⟨u1,k2,fun x hx y hy=> ?_⟩
  rcases List.mem_append.mp hy with hy | hy
  ·rcases ready' hy with hy | rfl
   ·exact u3 x hx y (List.mem_append_left _ hy)
   ·exact u3 x hx t (List.mem_append_right _ ht)
  ·exact u3 x hx y (List.mem_append_right _ ((u7l e t.1).subset hy))
 ·intro x hx
  have:=h.bel x hx
  show x.1<u1a e.1.2.2.2.2 t.1
  omega
 ·exact fun y hy o ho=>h.cov y hy o ((u7l e t.1).subset ho)
 ·-- outr
  intro p hp' y hy ha
  rcases ready' hp' with hp' | rfl
  ·exact h.outr p hp' y hy ha
  ·rw[aL] at ha
   obtain⟨z,hz,_,hz2⟩:=outP y hy ha
   show(t.2.2.2.2.2.2.1 || s7y t e.1.2.1)=true
   have:s7y t e.1.2.1=true:=List.any_eq_true.mpr ⟨z,hz,by rw[(hE.base.past z hz).2.1,hz2];rfl⟩
   rw[this,Bool.or_true]
 ·-- noA
  intro x hx p hp' z hz q1 q2 l
  rcases ready' hp' with hp' | rfl
  ·exact h.noA x hx p hp' z hz q1 q2 l
  ·rw[aR] at q1;rw[aL] at q2
   obtain⟨v,hv,hv2⟩:=inP x hx q1
   obtain⟨w,hw,_,hw2⟩:=outP z hz q2
   exact hp.d1 v (List.mem_append_left _ hv) w hw hv2 hw2
 ·-- noB
  intro p hp' y hy z hz q1 q2 l
  rcases ready' hp' with hp' | rfl
  ·exact h.noB p hp' y hy z hz q1 q2 l
  ·rw[aL] at q1
   obtain⟨w,hw,hs,hw2⟩:=outP y hy q1
   refine hp.d2 w (List.mem_append_left _ hw) (h.outp w hw z hz ?_ (by rw[hs.cs];exact l)) hw2
   rw[hs.ahead (SameC.refl z)];exact q2
 ·-- noD
  intro p hp' q hq z hz q1 q2
  rcases ready' hp' with hp' | rfl
  ·rcases ready' hq with hq | rfl
   ·exact h.noD p hp' q hq z hz q1 q2
   ·rw[aR] at q1;rw[aL] at q2
    obtain⟨w,hw,_,hw2⟩:=outP z hz q2
    exact hp.d1 p (List.mem_append_right _ hp') w hw q1 hw2
  ·rcases ready' hq with hq | rfl
   ·rw[aL] at q1
    exact hp.d2 q (List.mem_append_right _ hq) (h.outr q hq z hz q2) q1
   ·rw[r4q] at q1;cases q1
 ·-- noE
  intro p hp' q hq r hr q1 q2
  rcases ready' hq with hq | rfl
  ·rcases ready' hp' with hp' | rfl
   ·rcases ready' hr with hr | rfl
    ·exact h.noE p hp' q hq r hr q1 q2
    ·rw[aR] at q2
     exact hp.d4 q hq p hp' q2 q1 (apart p hp')
   ·rw[aL] at q1
    rcases ready' hr with hr | rfl
    ·exact hp.e2 q hq r hr q1 q2 (apart r hr)
    ·rw[aR] at q2
     exact hp.d3 q hq q2 q1
  ·rw[aR] at q1;rw[aL] at q2
   rcases ready' hp' with hp' | rfl
   ·rcases ready' hr with hr | rfl
    ·exact hp.e1 p (List.mem_append_right _ hp') r hr q1 q2
    ·rw[aR,r4q] at q2;cases q2
   ·rw[aL,r4q] at q1;cases q1
 ·-- wr
  intro p hp' y hy m
  rcases ready' hp' with hp' | rfl
  ·exact h.wr p hp' y hy m
  ·show y.2.2.2.1≤t.2.2.1
   apply Int.not_lt.mp
   intro hlt
   obtain⟨w,hw,hs⟩:=h.cov y hy t ht hlt
   refine hp.nb w (List.mem_append_left _ hw) (hE.apart w (List.mem_append_left _ hw) t ht) (.inr ⟨(hE.base.past w hw).2.1,by rw[hs.cs];exact hlt⟩) ?_
   rw[hs.ws];exact m
 ·-- rr
  intro p hp' q hq hne m
  rcases ready' hp' with hp' | rfl
  ·rcases ready' hq with hq | rfl
   ·exact h.rr p hp' q hq hne m
   ·exact hp.nb p (List.mem_append_right _ hp') (apart p hp') (.inl (hE.base.ready p hp').2.1) m
  ·rcases ready' hq with hq | rfl
   ·refine hp.nb q (List.mem_append_right _ hq) (apart q hq) (.inl (hE.base.ready q hq).2.1) ?_
    rw[q3c];exact m
   ·exact hne rfl
end
end
end Go.Proofs.YtbkicjpdlchbgaaGreat.Ab
