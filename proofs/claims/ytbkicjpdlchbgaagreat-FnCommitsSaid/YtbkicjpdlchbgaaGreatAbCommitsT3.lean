import Derived.Test.YtbkicjpdlchbgaaGreatAbCommitsT2
import Derived.Test.YtbkicjpdlchbgaaGreatAbK2
import Derived.Test.YtbkicjpdlchbgaaGreatAbF4
import Derived.Test.YtbkicjpdlchbgaaGreatAbS2
namespace Go.Proofs.YtbkicjpdlchbgaaGreat.Ab
open Go
set_option linter.unusedVariables false
set_option linter.unusedSimpArgs false
set_option linter.unnecessarySimpa false
section
section
def u9p (m:Nat) (s:ByteArray) (c:Cur):u0e×Cur:=((q33 m s c).1,(q33 m s c).2.1,(q33 m s c).2.2 || !u6x (q33 m s c).1)
def t42 (m k:Nat) (s:ByteArray) (c:Cur):List u0e×Cur:=u4z (u9p m s) (min (u4s s c).1.toNat k) (u4s s c).2 []
structure Lim where
 t:Nat
 v:Nat
 p:Nat
 r:Nat
def s7l (m:Lim) (s:ByteArray) (c:Cur):u0i×Cur:=
 let a:=u4s s c
 let b:=u4s s a.2
 let n:=u4s s b.2
 let vs:=u4z (p2v s) (min n.1.toNat m.v) n.2 []
 let ps:=t42 m.t m.p s vs.2
 let rs:=t42 m.t m.r s ps.2
 ((vs.1,ps.1,rs.1,a.1,b.1),rs.2)
theorem p56 {m:Nat} {s:ByteArray} {c:Cur} (h:c.2=true):(u9p m s c).2.2=true:=by
 have:(q33 m s c).2.2=true:=by
  unfold q33
  have h1:=u8m (s:=s) h
  have h2:=u8m (s:=s) h1
  have h3:=u8m (s:=s) h2
  have h4:=u8m (s:=s) h3
  have h5:=u8m (s:=s) h4
  simp only
  rw[t3e h5]
  have h6:=u8m (s:=s) h5
  simp only
  rw[t3e h6]
  exact s3n (r5o h6)
 unfold u9p
 simp only[this,Bool.true_or]
theorem r0a {E:Type} {f:Cur→E×Cur} {n k:Nat} {c:Cur} (hk:k≤n):(u4z f n c []).2.2=true∨k≤(u4z f n c []).1.length:=by
 cases h:(u4z f n c []).2.2 with
 | true=>exact .inl rfl
 | false=>rw[q9v h];exact .inr (by simp;exact hk)
theorem q9m {m m' :Nat} (hm:9≤m) (hm' :9≤m') {s:ByteArray} {c:Cur} (h:(u9p m s c).2.2=false):u9p m' s c=u9p m s c:=by
 have hb:(q33 m s c).2.2=false∧u6x (q33 m s c).1=true:=by
  unfold u9p at h
  simp only[Bool.or_eq_false_iff,Bool.not_eq_false'] at h
  exact h
 have hR:=r5u.mp hb.2
 have hw:=(p9a.mp hR.ws).2.2
 suffices e:q33 m' s c=q33 m s c by unfold u9p;rw[e]
 have b1:=hb.1
 have hr:=hR.rlen
 unfold q33 at b1 hr hw ⊢
 simp only at b1 hr hw ⊢
 generalize hn:u4s s (u4s s (u4s s (u4s s (u4s s c).2).2).2).2=n at b1 hr hw ⊢
 have k1:n.1.toNat≤8∨(u4z (p2t s) (min n.1.toNat m) n.2 []).2.2=true:=by
  rcases Nat.lt_or_ge 8 n.1.toNat with q | q
  ·rcases r0a (f:=p2t s) (n:=min n.1.toNat m) (k:=9) (c:=n.2) (by omega) with z | z
   ·exact .inr z
   ·omega
  ·exact .inl q
 have k1:n.1.toNat≤8:=k1.resolve_right fun k1=>by
  have h1:=u8m (s:=s) k1
  rw[t3e h1] at b1
  rw[s3n (r5o h1)] at b1
  cases b1
 have e1:min n.1.toNat m=min n.1.toNat m' :=by omega
 rw[e1] at b1 hw ⊢
 generalize hk:u4s s (u4z (p2t s) (min n.1.toNat m') n.2 []).2=k at b1 hw ⊢
 have k2:k.1.toNat≤8∨(u4z (rWr s) (min k.1.toNat m) k.2 []).2.2=true:=by
  rcases Nat.lt_or_ge 8 k.1.toNat with q | q
  ·rcases r0a (f:=rWr s) (n:=min k.1.toNat m) (k:=9) (c:=k.2) (by omega) with z | z
   ·exact .inr z
   ·omega
  ·exact .inl q
 have k2:k.1.toNat≤8:=k2.resolve_right fun k2=>by
  rw[s3n (r5o k2)] at b1
  cases b1
 have e2:min k.1.toNat m=min k.1.toNat m' :=by omega
 rw[e2]
theorem q1r {E:Type} {f g:Cur→E×Cur} (hf:∀c,(f c).2.2=false→g c=f c) (hfb:∀c,c.2=true→(f c).2.2=true):∀ {n:Nat} {c:Cur} {a:List E},(u4z f n c a).2.2=false→u4z g n c a=u4z f n c a
 | 0,c,a,_=>rfl
 | n+1,c,a,h=>by
  simp only[u4z] at h ⊢
  split at h
  ·rename_i q;rw[q] at h;cases h
  ·rename_i q
   rw[if_neg q,if_neg q]
   have:(f c).2.2=false:=by
    cases z:(f c).2.2 with
    | false=>rfl
    | true=>rw[t3e z] at h;rw[z] at h;cases h
   rw[hf c this]
   exact q1r hf hfb h
def t70 (m:Lim) (s:ByteArray) (c:Cur):u0i×Cur:=((s7l m s c).1,(s7l m s c).2.1,(s7l m s c).2.2 || !t24 (s7l m s c).1)
def Lim.ok (m:Lim):Prop:=9≤m.t∧121≤m.v∧13≤m.p∧4≤m.r
theorem s9i {m k:Nat} {s:ByteArray} {c:Cur} (h:c.2=true):(t42 m k s c).2.2=true:=by
 unfold t42;rw[t3e (u8m h)];exact u8m h
theorem q9x {m m' k k' N:Nat} (hm:9≤m) (hm' :9≤m') (hk:N<k) (hk' :N<k') {s:ByteArray} {c:Cur} (h:(t42 m k s c).2.2=false) (hl:(t42 m k s c).1.length≤N):t42 m' k' s c=t42 m k s c:=by
 unfold t42 at h hl ⊢
 have q:(u4s s c).1.toNat≤N:=by
  rcases Nat.lt_or_ge N (u4s s c).1.toNat with q | q
  ·rcases r0a (f:=u9p m s) (n:=min (u4s s c).1.toNat k) (k:=N+1) (c:=(u4s s c).2) (by omega) with z | z
   ·rw[z] at h;cases h
   ·omega
  ·exact q
 have e:min (u4s s c).1.toNat k=min (u4s s c).1.toNat k' :=by omega
 rw[e] at h ⊢
 exact q1r (fun c hc=>q9m hm hm' hc) (fun c hc=>p56 hc) h
theorem p34 {m m' :Lim} (hm:m.ok) (hm' :m'.ok) {s:ByteArray} {c:Cur} (h:(t70 m s c).2.2=false):t70 m' s c=t70 m s c:=by
 obtain⟨a1,a2,a3,a4⟩:=hm
 obtain⟨b1,b2,b3,b4⟩:=hm'
 have hb:(s7l m s c).2.2=false∧t24 (s7l m s c).1=true:=by
  unfold t70 at h
  simp only[Bool.or_eq_false_iff,Bool.not_eq_false'] at h
  exact h
 have hR:=q4k.mp hb.2
 have v1:=(p66.mp hR.vs).2.2
 have v2:=hR.plen
 have v3:=hR.rlen
 have h0:=hb.1
 suffices e:s7l m' s c=s7l m s c by unfold t70;rw[e]
 unfold s7l at h0 v1 v2 v3 ⊢
 simp only at h0 v1 v2 v3 ⊢
 generalize hn:u4s s (u4s s (u4s s c).2).2=n at h0 v1 v2 v3 ⊢
 have k1:n.1.toNat≤120:=by
  rcases Nat.lt_or_ge 120 n.1.toNat with q | q
  ·rcases r0a (f:=p2v s) (n:=min n.1.toNat m.v) (k:=121) (c:=n.2) (by omega) with z | z
   ·exfalso
    rw[s9i (s9i z)] at h0
    cases h0
   ·omega
  ·exact q
 have e1:min n.1.toNat m.v=min n.1.toNat m'.v:=by omega
 rw[e1] at h0 v2 v3 ⊢
 generalize hv:u4z (p2v s) (min n.1.toNat m'.v) n.2 [] =vs at h0 v2 v3 ⊢
 have hp:(t42 m.t m.p s vs.2).2.2=false:=by
  cases z:(t42 m.t m.p s vs.2).2.2 with
  | false=>rfl
  | true=>rw[s9i z] at h0;cases h0
 rw[q9x (N:=12) a1 b1 (by omega) (by omega) hp v2]
 rw[q9x (N:=3) a1 b1 (by omega) (by omega) h0 v3]
theorem s9e {s:ByteArray} {a:Nat} {t:u0e} {m:Nat} (hm:8≤m) (ht:TxnR t) (h:t2x s a (t58 t)):u9p m s ((a:Int),false)=(t,((a+(t58 t).size:Nat):Int),false):=by
 unfold u9p
 rw[p1w hm ht h]
 simp only[r5u.mpr ht,Bool.not_true,Bool.or_false]
theorem r78 {s:ByteArray} {a:Nat} {l:List u0e} {m k:Nat} (hm:8≤m) (hk:l.length≤k) (hl:l.length≤1000000000) (ht:∀t∈l,TxnR t) (h:t2x s a (r8f l)):t42 m k s ((a:Int),false)=(l,((a+(r8f l).size:Nat):Int),false):=by
 unfold r8f at h ⊢
 obtain⟨k1,k2⟩:=o0s.mp h
 unfold t42
 rw[u5z (by omega) (by omega) k1]
 simp only
 rw[show min ((l.length:Int)).toNat k=l.length by omega,t74 (g:=t58) (fun t h a hs=>s9e hm (ht t h) hs) k2]
 rw[ByteArray.size_append,List.nil_append,Nat.add_assoc]
theorem s45 {v:u18} (h:r3w v=true):v.1.size≤3∧v.2.1.size≤12∧1≤v.2.2.2∧v.2.2.2≤9999:=by
 unfold r3w at h
 simp only[Bool.and_eq_true,decide_eq_true_eq,r6u] at h
 exact⟨(u30 h.1).2,h.2.1,h.2.2.2⟩
theorem q9u {s:ByteArray} {a:Nat} {b:u0i} {m:Lim} (hm:m.ok) (hb:BaseR b) (h:t2x s a (t9e b)):s7l m s ((a:Int),false)=(b,((a+(t9e b).size:Nat):Int),false):=by
 obtain⟨a1,a2,a3,a4⟩:=hm
 obtain⟨v1,v2,v3⟩:=p66.mp hb.vs
 have hc:=hb.cs;have hx:=hb.next;have hp:=hb.plen;have hr:=hb.rlen
 unfold t9e at h ⊢
 obtain⟨k1,h⟩:=o0s.mp h
 obtain⟨k2,h⟩:=o0s.mp h
 obtain⟨k3,h⟩:=o0s.mp h
 obtain⟨k4,h⟩:=o0s.mp h
 obtain⟨k5,k6⟩:=o0s.mp h
 unfold s7l
 rw[u5z (by omega) (by omega) k1]
 simp only
 rw[u5z (by omega) (by omega) k2]
 simp only
 rw[u5z (by omega) (by omega) k3]
 simp only
 rw[show min ((b.1.length:Int)).toNat m.v=b.1.length by omega,t74 (g:=p4p) (fun v hv a hs=>by
  have:=s45 (v1 v hv)
  exact p1x (by omega) (by omega) (by omega) hs) k4]
 simp only
 rw[r78 (by omega) (by omega) (by omega) (fun t ht=>(hb.past t ht).1) k5]
 simp only
 rw[r78 (by omega) (by omega) (by omega) (fun t ht=>(hb.ready t ht).1) k6]
 simp only[List.nil_append,ByteArray.size_append,Nat.add_assoc]
theorem p0b {n:Nat} (h:n<16384):(s0g n).length≤2:=by
 by_cases q:n<128
 ·rw[s9t q];simp
 ·rw[r64 q,s9t (by omega)];simp
theorem u3w {n:Int} (h:n<16384):(r5x n).size≤2:=by rw[t99];exact p0b (by omega)
theorem u1y {s:ByteArray} (h:s.size<16384):(u0u s).size≤s.size+2:=by
 unfold u0u
 rw[ByteArray.size_append,u51]
 have:=p0b h
 omega
theorem s0x {E:Type} {f:E→ByteArray} {k:Nat} :∀ {l:List E},(∀x∈l,(f x).size≤k)→(q2d f l).size≤l.length*k
 | [],_=>by rw[p2g];simp[emp,ByteArray.size]
 | x::l,h=>by
  rw[q8e,ByteArray.size_append,List.length_cons,Nat.succ_mul]
  have h1:=h x (by simp)
  have h2:=s0x (l:=l) (fun y hy=>h y (by simp[hy]))
  omega
theorem s3t {t:u0e} (h:TxnR t):(t58 t).size≤300:=by
 obtain⟨z1,z2,z3,z4,z5⟩:=h.small
 have hi:=h.id;have hst:=h.st;have hsn:=h.snap;have hrl:=h.rlen
 have r1:(q2d p4d t.2.2.2.2.1).size≤t.2.2.2.2.1.length*10:=s0x fun r hr=>by
  have:=z1 r hr
  have q1:=u1y (s:=r.1) (by omega)
  have q2:=u1y (s:=r.2) (by omega)
  unfold p4d;rw[ByteArray.size_append];omega
 have r2:(q2d wrT t.2.2.2.2.2.1).size≤t.2.2.2.2.2.1.length*20:=s0x fun w hw=>by
  have:=z2 w hw
  have q1:=u1y (s:=w.1) (by omega)
  have q2:=u1y (s:=w.2.1) (by omega)
  unfold wrT;rw[ByteArray.size_append,ByteArray.size_append,u5h];omega
 have v1:=u3w (n:=t.1) (by omega)
 have v2:=u3w (n:=t.2.1) (by omega)
 have v3:=u3w (n:=t.2.2.1) (by omega)
 have v4:=u3w (n:=t.2.2.2.1) (by omega)
 have v5:=u3w (n:=(t.2.2.2.2.1.length:Int)) (by omega)
 have v6:=u3w (n:=(t.2.2.2.2.2.1.length:Int)) (by omega)
 have v7:=u1y (s:=t.2.2.2.2.2.2.2) (by omega)
 unfold t58
 simp only[ByteArray.size_append,u5h]
 omega
theorem r0d {l:List u0e} (hl:l.length<16384) (h:∀t∈l,TxnR t):(r8f l).size≤2+l.length*300:=by
 unfold r8f
 rw[ByteArray.size_append]
 have v1:=u3w (n:=(l.length:Int)) (by omega)
 have v2:=s0x (f:=t58) (k:=300) (l:=l) (fun t ht=>s3t (h t ht))
 omega
theorem q7i {v:u18} (h:r3w v=true):(p4p v).size≤22:=by
 have:=s45 h
 have q1:=u1y (s:=v.1) (by omega)
 have q2:=u1y (s:=v.2.1) (by omega)
 have q3:=u3w (n:=v.2.2.2) (by omega)
 unfold p4p
 simp only[ByteArray.size_append,u5h]
 omega
theorem q4l {b:u0i} (hb:BaseR b):(t9e b).size≤10+b.1.length*22+b.2.1.length*300+b.2.2.1.length*300:=by
 obtain⟨v1,v2,v3⟩:=p66.mp hb.vs
 have hc:=hb.cs;have hx:=hb.next;have hp:=hb.plen;have hr:=hb.rlen
 have q1:=u3w (n:=b.2.2.2.1) (by omega)
 have q2:=u3w (n:=b.2.2.2.2) (by omega)
 have q3:=u3w (n:=(b.1.length:Int)) (by omega)
 have q4:=s0x (f:=p4p) (k:=22) (l:=b.1) (fun v hv=>q7i (v1 v hv))
 have q5:=r0d (l:=b.2.1) (by omega) (fun t ht=>(hb.past t ht).1)
 have q6:=r0d (l:=b.2.2.1) (by omega) (fun t ht=>(hb.ready t ht).1)
 unfold t9e
 simp only[ByteArray.size_append]
 omega
end
section
def o1v (a b:Int):Int:=IntKind.u32.wrap ((BitVec.ofInt IntKind.u32.bits a^^^BitVec.ofInt IntKind.u32.bits b).toNat:Int)
def p6p (x:Int):Int:=bif decide (Int.tmod x 2=1) then o1v (IntKind.u32.wrap (Int.tdiv x 2)) 3558460437 else IntKind.u32.wrap (Int.tdiv x 2)
def q13:Nat→Int→Int
 | 0,x=>x
 | n+1,x=>q13 n (p6p x)
def p11 (x:Int) (b:UInt8):Int:=q13 8 (o1v x (IntKind.u32.wrap (b.toNat:Int)))
def p95 (t:ByteArray):Int:=t.data.toList.foldl p11 4294967295
def p93 (x:Int) (k:Nat):Int:=IntKind.u8.wrap (Int.fdiv x (2^k))
def o22 (x:Int):ByteArray:=y7g [p93 x 24,p93 x 16,p93 x 8,IntKind.u8.wrap x]
def r0k (t:ByteArray):ByteArray:=t++o22 (p95 t)
def p2z (t:ByteArray):ByteArray×Bool:=if t.size≤20000 then(r0k t,true) else(emp,false)
def t7t (t:ByteArray):Option ByteArray:=if 4≤t.size∧t.size - 4≤20000∧r0k (t.extract 0 (t.size - 4))=t then some (t.extract 0 (t.size - 4)) else none
theorem p5w (x:Int):(o22 x).size=4:=u51 _
theorem q42 (t:ByteArray):(r0k t).size=t.size+4:=by unfold r0k;rw[ByteArray.size_append,p5w]
theorem r5v {t:ByteArray} (h:t.size≤20000):t7t (r0k t)=some t:=by
 have hs:=q42 t
 have e:(r0k t).extract 0 ((r0k t).size - 4)=t:=by
  rw[hs,Nat.add_sub_cancel]
  exact ByteArray.extract_append_eq_left rfl
 unfold t7t
 rw[e,if_pos ⟨by omega,by omega,rfl⟩]
abbrev s4d:=Int×u0e×ByteArray×Bool×u0i
def u6z:u0e:=(0,0,0,0, [], [],false,emp)
def u3y:u0i:=([], [], [],0,0)
def noT (t:u0e):Bool:=decide (t.1=0)&&(decide (t.2.1=0)&&(decide (t.2.2.1=0)&&(decide (t.2.2.2.1=0)&&(decide (t.2.2.2.2.1.length=0)&&(decide (t.2.2.2.2.2.1.length=0)&&(!t.2.2.2.2.2.2.1&&decide (t.2.2.2.2.2.2.2.size=0)))))))
def noB (b:u0i):Bool:=decide (b.1.length=0)&&(decide (b.2.1.length=0)&&(decide (b.2.2.1.length=0)&&(decide (b.2.2.2.1=0)&&decide (b.2.2.2.2=0))))
def t2o (r:s4d):Bool:=
 if r.1=1 then u6x r.2.1&&(decide (r.2.1.2.1=3)&&(decide (r.2.2.1.size=0)&&(!r.2.2.2.1&&noB r.2.2.2.2)))
 else if r.1=2 then u6x r.2.1&&(decide (r.2.1.2.1=2)&&(decide (r.2.2.1.size=0)&&(!r.2.2.2.1&&noB r.2.2.2.2)))
 else if r.1=3 then noT r.2.1&&(u55 r.2.2.1&&noB r.2.2.2.2)
 else if r.1=4 then noT r.2.1&&(decide (r.2.2.1.size=0)&&(!r.2.2.2.1&&t24 r.2.2.2.2))
 else false
def s9m (r:s4d):ByteArray:=y7g [IntKind.u8.wrap r.1] ++(if r.1=3 then u0u r.2.2.1++p3s r.2.2.2.1 else if r.1=4 then t9e r.2.2.2.2 else t58 r.2.1)
def u1e (r:s4d):ByteArray×Bool:=if t2o r=true then p2z (s9m r) else(emp,false)
theorem p8e {s:ByteArray} (h:s.size=0):s=emp:=p2e (by
 rw[r3d] at h
 rw[List.length_eq_zero_iff.mp h];rfl)
theorem p54 {t:u0e} :noT t=true↔t=u6z:=by
 unfold noT u6z
 simp only[Bool.and_eq_true,decide_eq_true_eq,Bool.not_eq_true']
 constructor
 ·rintro⟨h1,h2,h3,h4,h5,h6,h7,h8⟩
  obtain⟨t1,t2,t3,t4,t5,t6,t7,t8⟩:=t
  simp only at h1 h2 h3 h4 h5 h6 h7 h8
  rw[h1,h2,h3,h4,List.length_eq_zero_iff.mp h5,List.length_eq_zero_iff.mp h6,h7,p8e h8]
 ·rintro rfl
  exact⟨rfl,rfl,rfl,rfl,rfl,rfl,rfl,rfl⟩
theorem p1r {b:u0i} :noB b=true↔b=u3y:=by
 unfold noB u3y
 simp only[Bool.and_eq_true,decide_eq_true_eq]
 constructor
 ·rintro⟨h1,h2,h3,h4,h5⟩
  obtain⟨t1,t2,t3,t4,t5⟩:=b
  simp only at h1 h2 h3 h4 h5
  rw[h4,h5,List.length_eq_zero_iff.mp h1,List.length_eq_zero_iff.mp h2,List.length_eq_zero_iff.mp h3]
 ·rintro rfl
  exact⟨rfl,rfl,rfl,rfl,rfl⟩
inductive RecR:s4d→Prop where
 | thr (t:u0e) (h:TxnR t) (hs:t.2.1=3):RecR (1,t,emp,false,u3y)
 | rdy (t:u0e) (h:TxnR t) (hs:t.2.1=2):RecR (2,t,emp,false,u3y)
 | fin (n:ByteArray) (y:Bool) (h:u55 n=true):RecR (3,u6z,n,y,u3y)
 | bas (b:u0i) (h:BaseR b):RecR (4,u6z,emp,false,b)
theorem p88 {r:s4d} :t2o r=true↔RecR r:=by
 obtain⟨k,t,n,y,b⟩:=r
 unfold t2o
 simp only
 constructor
 ·intro h
  split at h
  ·rename_i e
   simp only[Bool.and_eq_true,decide_eq_true_eq,Bool.not_eq_true',r5u,p1r] at h
   obtain⟨h1,h2,h3,h4,h5⟩:=h
   rw[e,p8e h3,h4,h5];exact .thr t h1 h2
  ·split at h
   ·rename_i _ e
    simp only[Bool.and_eq_true,decide_eq_true_eq,Bool.not_eq_true',r5u,p1r] at h
    obtain⟨h1,h2,h3,h4,h5⟩:=h
    rw[e,p8e h3,h4,h5];exact .rdy t h1 h2
   ·split at h
    ·rename_i _ _ e
     simp only[Bool.and_eq_true,p54,p1r] at h
     obtain⟨h1,h2,h3⟩:=h
     rw[e,h1,h3];exact .fin n y h2
    ·split at h
     ·rename_i _ _ _ e
      simp only[Bool.and_eq_true,decide_eq_true_eq,Bool.not_eq_true',p54,q4k] at h
      obtain⟨h1,h2,h3,h4⟩:=h
      rw[e,h1,p8e h2,h3];exact .bas b h4
     ·cases h
 ·intro h
  cases h with
  | thr t h hs=>simp[r5u.mpr h,hs,p1r.mpr rfl,emp,ByteArray.size]
  | rdy t h hs=>simp[r5u.mpr h,hs,p1r.mpr rfl,emp,ByteArray.size]
  | fin n y h=>simp[h,p1r.mpr rfl,p54.mpr rfl]
  | bas b h=>simp[q4k.mpr h,p54.mpr rfl,emp,ByteArray.size]
theorem s3p {r:s4d} (h:RecR r):2≤(s9m r).size∧(s9m r).size≤10000:=by
 have h1:∀n:Int,(y7g [n]).size=1:=fun n=>u51 _
 cases h with
 | thr t h hs=>
  have:=s3t h
  have q:1≤(t58 t).size:=by
   unfold t58;rw[ByteArray.size_append,t99];have:=r5w t.1.toNat;omega
  show 2≤(y7g _++t58 t).size∧(y7g _++t58 t).size≤10000
  rw[ByteArray.size_append,h1];omega
 | rdy t h hs=>
  have:=s3t h
  have q:1≤(t58 t).size:=by
   unfold t58;rw[ByteArray.size_append,t99];have:=r5w t.1.toNat;omega
  show 2≤(y7g _++t58 t).size∧(y7g _++t58 t).size≤10000
  rw[ByteArray.size_append,h1];omega
 | fin n y h=>
  have:=u30 h
  have q:=u1y (s:=n) (by omega)
  show 2≤(y7g _++(u0u n++p3s y)).size∧(y7g _++(u0u n++p3s y)).size≤10000
  have:=(s9p n).1
  rw[ByteArray.size_append,ByteArray.size_append,h1,u5h];omega
 | bas b h=>
  have:=q4l h
  have a1:=(p66.mp h.vs).2.2
  have a2:=h.plen
  have a3:=h.rlen
  have q:1≤(t9e b).size:=by
   unfold t9e;rw[ByteArray.size_append,t99];have:=r5w b.2.2.2.1.toNat;omega
  show 2≤(y7g _++t9e b).size∧(y7g _++t9e b).size≤10000
  rw[ByteArray.size_append,h1];omega
theorem t1f {r:s4d} (h:RecR r):u1e r=(r0k (s9m r),true):=by
 unfold u1e p2z
 rw[if_pos (p88.mpr h),if_pos (by have:=(s3p h).2;omega)]
def o3w:Lim:=⟨9,121,13,4⟩
theorem p51:o3w.ok:=⟨by decide,by decide,by decide,by decide⟩
def t56 (s:ByteArray):s4d×Bool:=
 if t26 s 0=3 then((3,u6z,(u2q s (1,false)).1,(q1q s (u2q s (1,false)).2).1,u3y),(q1q s (u2q s (1,false)).2).2.2)
 else if t26 s 0=4 then((4,u6z,emp,false,(t70 o3w s (1,false)).1),(t70 o3w s (1,false)).2.2)
 else(((t26 s 0:Int),(u9p 9 s (1,false)).1,emp,false,u3y),(u9p 9 s (1,false)).2.2)
def u5a (t:ByteArray):Option s4d:=
 match t7t t with
 | none=>none
 | some s=>if s.size=0 then none else if(t56 s).2=true∨u1e (t56 s).1≠(t,true) then none else some (t56 s).1
theorem q51 {k:Nat} (h:k<256) (s:ByteArray):t26 (y7g [IntKind.u8.wrap (k:Int)] ++s) 0=k:=by
 unfold t26
 rw[r94,t96]
 have:IntKind.u8.wrap (k:Int)=(k:Int):=o0d h
 rw[this]
 show(UInt8.ofNat ((k:Int)).toNat).toNat=k
 rw[zTn]
 simp
 omega
theorem r0b {r:s4d} (h:RecR r):t56 (s9m r)=(r,false):=by
 have st:∀(x:Int) (s:ByteArray),t2x (y7g [x] ++s) 1 s:=fun x s=>by
  have:=p4h (a:=y7g [x]) (s:=s) (b:=emp)
  rw[p5l,u51] at this
  exact this
 cases h with
 | thr t h hs=>
  have e:s9m (1,t,emp,false,u3y)=y7g [IntKind.u8.wrap ((1:Nat):Int)] ++t58 t:=rfl
  rw[e]
  unfold t56
  rw[q51 (by omega),if_neg (by omega),if_neg (by omega)]
  have q:=s9e (m:=9) (by omega) h (st (IntKind.u8.wrap ((1:Nat):Int)) (t58 t))
  have q:u9p 9 (y7g [IntKind.u8.wrap ((1:Nat):Int)] ++t58 t) (1,false)=_:=q
  rw[q];rfl
 | rdy t h hs=>
  have e:s9m (2,t,emp,false,u3y)=y7g [IntKind.u8.wrap ((2:Nat):Int)] ++t58 t:=rfl
  rw[e]
  unfold t56
  rw[q51 (by omega),if_neg (by omega),if_neg (by omega)]
  have q:=s9e (m:=9) (by omega) h (st (IntKind.u8.wrap ((2:Nat):Int)) (t58 t))
  have q:u9p 9 (y7g [IntKind.u8.wrap ((2:Nat):Int)] ++t58 t) (1,false)=_:=q
  rw[q];rfl
 | fin n y h=>
  have e:s9m (3,u6z,n,y,u3y)=y7g [IntKind.u8.wrap ((3:Nat):Int)] ++(u0u n++p3s y):=rfl
  rw[e]
  unfold t56
  rw[q51 (by omega),if_pos rfl]
  obtain⟨k1,k2⟩:=o0s.mp (st (IntKind.u8.wrap ((3:Nat):Int)) (u0u n++p3s y))
  have q1:=t4y (by have:=u30 h;omega) k1
  have q1:u2q (y7g [IntKind.u8.wrap ((3:Nat):Int)] ++(u0u n++p3s y)) (1,false)=_:=q1
  rw[q1]
  simp only
  rw[r3r k2]
 | bas b h=>
  have e:s9m (4,u6z,emp,false,b)=y7g [IntKind.u8.wrap ((4:Nat):Int)] ++t9e b:=rfl
  rw[e]
  unfold t56
  rw[q51 (by omega),if_neg (by omega),if_pos rfl]
  have q:=q9u p51 h (st (IntKind.u8.wrap ((4:Nat):Int)) (t9e b))
  have q:s7l o3w (y7g [IntKind.u8.wrap ((4:Nat):Int)] ++t9e b) (1,false)=_:=q
  unfold t70
  rw[q]
  simp only[q4k.mpr h,Bool.not_true,Bool.or_false]
theorem s9j {r:s4d} (h:RecR r):u5a (r0k (s9m r))=some r:=by
 have hs:=s3p h
 unfold u5a
 rw[r5v (by omega)]
 simp only
 rw[if_neg (by omega),r0b h]
 simp only
 rw[t1f h,if_neg (by simp)]
theorem r5p {t:ByteArray} {r:s4d} (h:u5a t=some r):RecR r∧t=r0k (s9m r):=by
 unfold u5a at h
 split at h
 ·cases h
 ·rename_i s hs
  split at h
  ·cases h
  ·split at h
   ·cases h
   ·rename_i hc
    simp only[not_or,ne_eq,Decidable.not_not] at hc
    have e:=Option.some.inj h
    rw[e] at hc
    have hr:t2o r=true:=by
     cases q:t2o r with
     | true=>rfl
     | false=>
      have:=hc.2
      unfold u1e at this
      rw[if_neg (by simp[q])] at this
      simp at this
    have hR:=p88.mp hr
    refine⟨hR,?_⟩
    have:=hc.2
    rw[t1f hR] at this
    exact(Prod.mk.inj this).1.symm
def u2h (b:u0i) (r:s4d):Option u0i:=
 if r.1=1 then(if r.2.1.2.2.2.1=b.2.2.2.1+1 then some (u1h b r.2.1) else none)
 else if r.1=2 then(if b.2.2.1.length<3∧u1k b r.2.1.2.2.2.2.2.2.2<0 then some (u1s b r.2.1 r.2.1.2.2.2.2.2.2.2) else none)
 else if r.1=3 then(if u1k b r.2.2.1<0 then none else if r.2.2.2.1=true then some (u1h b (rdL u0t b.2.2.1 (u1k b r.2.2.1).toNat)) else some (s1v b r.2.2.1))
 else some r.2.2.2.2
def u75 (b:u0i) (r:s4d):Option u0i:=
 if t24 b=true∧t2o r=true then(match u2h b r with
  | none=>none
  | some x=>if t24 (u4r x [])=true then some (u4r x []) else none)
 else none
def p0i:u0i:=([], [], [],0,1)
def t9o:u0i→List ByteArray→Option u0i
 | b, [] =>some b
 | b,t::l=>match u5a t with
  | none=>none
  | some r=>match u75 b r with
   | none=>none
   | some x=>t9o x l
def t2u (l:List ByteArray):Option u0i:=t9o p0i l
theorem p37 (b:u0i):∀(l m:List ByteArray),t9o b (l++m)=(t9o b l).bind fun x=>t9o x m:=by
 intro l
 induction l generalizing b with
 | nil=>intro m;rfl
 | cons t l ih=>
  intro m
  simp only[List.cons_append,t9o]
  cases u5a t with
  | none=>rfl
  | some r=>
   simp only
   cases u75 b r with
   | none=>rfl
   | some x=>exact ih x m
end
section
theorem o5l (n:Nat):decide ((n:Int)=0)=decide (n=0):=by simp
theorem p7x (t:u0e):t54 t=some (noT t):=by
 rw[q07];unfold s8q noT
 simp only[o5l,t7a]
 cases decide (t.1=0)<;>cases decide (t.2.1=0)<;>cases decide (t.2.2.1=0)<;>cases decide (t.2.2.2.1=0)<;>cases decide (t.2.2.2.2.1.length=0)<;>cases decide (t.2.2.2.2.2.1.length=0)<;>cases t.2.2.2.2.2.2.1<;>rfl
theorem p7v (b:u0i):t8h b=some (noB b):=by
 rw[r85];unfold s5l noB
 simp only[o5l]
 cases decide (b.1.length=0)<;>cases decide (b.2.1.length=0)<;>cases decide (b.2.2.1.length=0)<;>cases decide (b.2.2.2.1=0)<;>cases decide (b.2.2.2.2=0)<;>rfl
theorem q41 (r:s4d):o3p.wt r=0+(u0t.wt r.2.1+(r.2.2.1.size+(0+o01.wt r.2.2.2.2))):=rfl
theorem r31 (r:s4d) (hw:o3p.wt r≤549755813888):t5y r=some (t2o r):=by
 have hb:u0l=1099511627776:=rfl
 have hr:=q41 r
 have k1:=t4r r.2.1 (by omega)
 have k2:=t6e r.2.2.2.2 (by omega)
 have k3:=t4p r.2.2.1 (by omega)
 rw[q0v];unfold s8d
 simp only[k1,k2,k3,s22,p7x,p7v,zOb,t7a]
 unfold t2o
 generalize u6x r.2.1=c1
 generalize t24 r.2.2.2.2=c2
 generalize u55 r.2.2.1=c3
 generalize noT r.2.1=c4
 generalize noB r.2.2.2.2=c5
 generalize decide (r.2.2.1.size=0)=c6
 generalize r.2.2.2.1=c9
 by_cases h1:r.1=1
 ·simp only[h1,show inB 1 1 4=true from rfl,decide_true,cond_true,if_true]
  generalize decide (r.2.1.2.1=3)=c7
  generalize decide (r.2.1.2.1=2)=c8
  cases c1<;>cases c5<;>cases c6<;>cases c7<;>cases c8<;>cases c9<;>rfl
 ·by_cases h2:r.1=2
  ·simp only[h2,show inB 2 1 4=true from rfl,decide_true,cond_true,if_true]
   generalize decide (r.2.1.2.1=3)=c7
   generalize decide (r.2.1.2.1=2)=c8
   cases c1<;>cases c5<;>cases c6<;>cases c7<;>cases c8<;>cases c9<;>rfl
  ·by_cases h3:r.1=3
   ·simp only[h3,show inB 3 1 4=true from rfl,decide_true,cond_true,if_true]
    cases c3<;>cases c4<;>cases c5<;>cases c9<;>rfl
   ·by_cases h4:r.1=4
    ·simp only[h4,show inB 4 1 4=true from rfl,decide_true,cond_true,if_true]
     cases c2<;>cases c4<;>cases c6<;>cases c9<;>rfl
    ·have:inB r.1 1 4=false:=by
      cases h:inB r.1 1 4
      ·rfl
      ·have:=r6u.mp h;omega
     simp only[h1,h2,h3,h4,this,decide_false,cond_false,if_false,Bool.not_false,cond_true]
end
section
theorem r46 {α:Type} {P:Prop} [Decidable P] {a b:α} (h:P):(bif decide P then a else b)=a:=by rw[decide_eq_true h];rfl
theorem p7g {α:Type} {n:Nat} {a b:α} (h:n≤1099511627776):(bif Nat.ble n z7w then a else b)=a:=by rw[u07 h];rfl
theorem u5d {n:Int} (h0:0≤n) (h1:n≤1000000000):u1n n=some (r5x n):=by
 obtain⟨m,rfl⟩:∃m:Nat,n=m:=⟨n.toNat,by omega⟩
 rw[q1j m (by omega)];rfl
theorem t4q {s:ByteArray} (h:s.size≤10000):u2j s=some (u0u s):=by
 rw[q06];unfold s8p
 rw[u5d (by omega) (by omega)]
 simp only[zOb]
 have:=u3w (n:=(s.size:Int)) (by omega)
 rw[r46 (by omega)];rfl
theorem r9d (b:Bool):t2m b=some (p3s b):=by
 rw[q6z];unfold r4z
 cases b<;>rfl
theorem q9y {r:s2e} (h:r.1.size≤100∧r.2.size≤100):(p4d r).size≤204:=by
 have q1:=u1y (s:=r.1) (by omega)
 have q2:=u1y (s:=r.2) (by omega)
 unfold p4d;rw[ByteArray.size_append];omega
theorem r9e {E:Type} (f:E→ByteArray) (l:List E) (s:ByteArray):l.foldl (fun s x=>s++f x) s=s++q2d f l:=r47 f l s
theorem s7p (t:u0e) (ht:u0t.wt t≤549755813888):t7n t=some (if u6x t=true then(t58 t,true) else(emp,false)):=by
 have hb:u0l=1099511627776:=rfl
 rw[q3b];unfold r1h
 rw[t4r t (by omega)]
 simp only[zOb]
 cases hc:u6x t
 ·rfl
 ·have h:=r5u.mp hc
  obtain⟨z1,z2,z3,z4,z5⟩:=h.small
  have hi:=h.id;have hst:=h.st;have hsn:=h.snap;have hrl:=h.rlen
  have v1:=u3w (n:=t.1) (by omega)
  have v2:=u3w (n:=t.2.1) (by omega)
  have v3:=u3w (n:=t.2.2.1) (by omega)
  have v4:=u3w (n:=t.2.2.2.1) (by omega)
  have v5:=u3w (n:=(t.2.2.2.2.1.length:Int)) (by omega)
  have v6:=u3w (n:=(t.2.2.2.2.2.1.length:Int)) (by omega)
  have v7:=u1y (s:=t.2.2.2.2.2.2.2) (by omega)
  have L1:∀A:ByteArray,A.size≤1000→u9d (t,A,0)=some (.inl (t,A++q2d p4d t.2.2.2.2.1)):=fun A hA=>by
   have:=t7v u9d t.2.2.2.2.1 (fun(A:ByteArray) i=>(t,A,i)) (fun A r=>A++p4d r) (fun A=> .inl (t,A)) (fun i A=>A.size≤1000+i*204)
    (fun A _=>by rw[s7b];simp only[t31,u0b,Nat.lt_irrefl,decide_false,cond_false])
    (fun i hi A hP=>by
     have hr:=z1 _ (List.getElem_mem hi)
     have hs:=q9y (r:=t.2.2.2.2.1[i]) (by omega)
     have hs' :=hs
     unfold p4d at hs'
     rw[ByteArray.size_append] at hs'
     refine⟨by rw[ByteArray.size_append,Nat.succ_mul];omega,?_⟩
     rw[s7b];simp only[t31,u0b,hi,decide_true,cond_true,y7t hi,zTn,y8k (t:=t2q) hi,y7l (show i<4611686018427387904 by omega)]
     rw[t4q (by omega),t4q (by omega)]
     simp only[zOb]
     rw[r46 (by omega),r46 (by rw[ByteArray.size_append];omega),t8y];rfl) A (by omega)
   rw[r9e] at this
   exact this
  have L2:∀A:ByteArray,A.size≤10000→u7h (t,A,0)=some (.inl (t,A++q2d wrT t.2.2.2.2.2.1)):=fun A hA=>by
   have:=t7v u7h t.2.2.2.2.2.1 (fun(A:ByteArray) i=>(t,A,i)) (fun A r=>A++wrT r) (fun A=> .inl (t,A)) (fun i A=>A.size≤10000+i*304)
    (fun A _=>by rw[s4a];simp only[t11,u0b,Nat.lt_irrefl,decide_false,cond_false])
    (fun i hi A hP=>by
     have hr:=z2 _ (List.getElem_mem hi)
     have q1:=u1y (s:=(t.2.2.2.2.2.1[i]).1) (by omega)
     have q2:=u1y (s:=(t.2.2.2.2.2.1[i]).2.1) (by omega)
     have q3:=u5h (t.2.2.2.2.2.1[i]).2.2
     refine⟨by unfold wrT;simp only[ByteArray.size_append,Nat.succ_mul];omega,?_⟩
     rw[s4a];simp only[t11,u0b,hi,decide_true,cond_true,y7t hi,zTn,y8k (t:=u11) hi,y7l (show i<4611686018427387904 by omega)]
     rw[t4q (by omega),t4q (by omega),r9d]
     simp only[zOb]
     rw[r46 (by omega),r46 (by rw[ByteArray.size_append];omega),r46 (by simp only[ByteArray.size_append];omega),t8y,t8y];rfl) A (by omega)
   rw[r9e] at this
   exact this
  have n1:(q2d p4d t.2.2.2.2.1).size≤t.2.2.2.2.1.length*204:=s0x fun r hr=>q9y (by have:=z1 r hr;omega)
  have n2:(q2d wrT t.2.2.2.2.2.1).size≤t.2.2.2.2.2.1.length*304:=s0x fun w hw=>by
   have:=z2 w hw
   have q1:=u1y (s:=w.1) (by omega)
   have q2:=u1y (s:=w.2.1) (by omega)
   unfold wrT;rw[ByteArray.size_append,ByteArray.size_append,u5h];omega
  simp only[Bool.not_true,cond_false,if_true]
  rw[u5d (n:=t.1) (by omega) (by omega),u5d (n:=t.2.1) (by omega) (by omega),u5d (n:=t.2.2.1) (by omega) (by omega),u5d (n:=t.2.2.2.1) (by omega) (by omega),u5d (n:=(t.2.2.2.2.1.length:Int)) (by omega) (by omega)]
  simp only[zOb]
  rw[r46 (by omega),r46 (by simp only[ByteArray.size_append];omega),r46 (by simp only[ByteArray.size_append];omega),r46 (by simp only[ByteArray.size_append];omega),L1 _ (by simp only[ByteArray.size_append];omega)]
  simp only[zOb]
  rw[u5d (n:=(t.2.2.2.2.2.1.length:Int)) (by omega) (by omega)]
  simp only[zOb]
  rw[r46 (by simp only[ByteArray.size_append];omega),L2 _ (by simp only[ByteArray.size_append];omega)]
  simp only[zOb]
  rw[r9d,t4q (by omega)]
  simp only[zOb]
  rw[r46 (by simp only[ByteArray.size_append,u5h];omega),r46 (by simp only[ByteArray.size_append,u5h];omega)]
  unfold t58
  simp only[t8y]
theorem p99 {l:List u0e} {t:u0e} (h:t∈l) (hl:(Ty.sl u0t).wt l≤549755813888):u0t.wt t≤549755813888:=Nat.le_trans (r3v h) hl
theorem q8b (l:List u0e) (hl:(Ty.sl u0t).wt l≤549755813888) (hn:l.length≤10000) (h:∀t∈l,TxnR t):t7q l=some (r8f l):=by
 have v1:=u3w (n:=(l.length:Int)) (by omega)
 have L:u9h (l,r5x (l.length:Int),0)=some (.inl (r5x (l.length:Int)++q2d t58 l)):=by
  have:=t7v u9h l (fun(A:ByteArray) i=>(l,A,i)) (fun A r=>A++t58 r) (fun A=> .inl A) (fun i A=>A.size≤2+i*300)
   (fun A _=>by rw[s7g];simp only[t35,u0b,Nat.lt_irrefl,decide_false,cond_false])
   (fun i hi A hP=>by
    have hm:=List.getElem_mem hi
    have hr:=s3t (h _ hm)
    refine⟨by rw[ByteArray.size_append,Nat.succ_mul];omega,?_⟩
    rw[s7g];simp only[t35,u0b,hi,decide_true,cond_true,y7t hi,zTn,y8k (t:=u0t) hi,y7l (show i<4611686018427387904 by omega)]
    rw[s7p _ (p99 hm hl),if_pos (r5u.mpr (h _ hm))]
    simp only[zOb]
    rw[r46 (by omega)]) (r5x (l.length:Int)) (by omega)
  rw[r9e] at this
  exact this
 rw[q3r];unfold r1y
 rw[u5d (by omega) (by omega)]
 simp only[zOb]
 rw[L];rfl
theorem q5d (b:u0i) (hw:o01.wt b≤549755813888):t9u b=some (if t24 b=true then(t9e b,true) else(emp,false)):=by
 have hbw:=r3e b
 rw[q0n];unfold s75
 rw[t6e b hw]
 simp only[zOb]
 cases hc:t24 b
 ·rfl
 ·have h:=q4k.mp hc
  obtain⟨w1,w2,w3⟩:=p66.mp h.vs
  have hcs:=h.cs;have hx:=h.next;have hp:=h.plen;have hr:=h.rlen
  have q1:=u3w (n:=b.2.2.2.1) (by omega)
  have q2:=u3w (n:=b.2.2.2.2) (by omega)
  have q3:=u3w (n:=(b.1.length:Int)) (by omega)
  have q4:=s0x (f:=p4p) (k:=22) (l:=b.1) (fun v hv=>q7i (w1 v hv))
  have q5:=r0d (l:=b.2.1) (by omega) (fun t ht=>(h.past t ht).1)
  have q6:=r0d (l:=b.2.2.1) (by omega) (fun t ht=>(h.ready t ht).1)
  have L:∀A:ByteArray,A.size≤1000→u7d (b,A,0)=some (.inl (b,A++q2d p4p b.1)):=fun A hA=>by
   have:=t7v u7d b.1 (fun(A:ByteArray) i=>(b,A,i)) (fun A r=>A++p4p r) (fun A=> .inl (b,A)) (fun i A=>A.size≤1000+i*22)
    (fun A _=>by rw[s30];simp only[t1q,u0b,Nat.lt_irrefl,decide_false,cond_false])
    (fun i hi A hP=>by
     have hm:=w1 _ (List.getElem_mem hi)
     have hr:=q7i hm
     have hv:=s45 hm
     have s1:=u1y (s:=(b.1[i]).1) (by omega)
     have s2:=u1y (s:=(b.1[i]).2.1) (by omega)
     have s3:=u5h (b.1[i]).2.2.1
     have s4:=u3w (n:=(b.1[i]).2.2.2) (by omega)
     refine⟨by rw[ByteArray.size_append,Nat.succ_mul];omega,?_⟩
     rw[s30];simp only[t1q,u0b,hi,decide_true,cond_true,y7t hi,zTn,y8k (t:=u0d) hi,y7l (show i<4611686018427387904 by omega)]
     rw[t4q (by omega),t4q (by omega),r9d,u5d (by omega) (by omega)]
     simp only[zOb]
     rw[r46 (by omega),r46 (by simp only[ByteArray.size_append];omega),r46 (by simp only[ByteArray.size_append];omega),r46 (by simp only[ByteArray.size_append];omega)]
     unfold p4p
     simp only[t8y]) A (by omega)
   rw[r9e] at this
   exact this
  simp only[Bool.not_true,cond_false,if_true]
  rw[u5d (n:=b.2.2.2.1) (by omega) (by omega),u5d (n:=b.2.2.2.2) (by omega) (by omega),u5d (n:=(b.1.length:Int)) (by omega) (by omega)]
  simp only[zOb]
  rw[r46 (by omega),r46 (by simp only[ByteArray.size_append];omega),L _ (by simp only[ByteArray.size_append];omega)]
  simp only[zOb]
  rw[q8b b.2.1 (by omega) (by omega) (fun t ht=>(h.past t ht).1),q8b b.2.2.1 (by omega) (by omega) (fun t ht=>(h.ready t ht).1)]
  simp only[zOb]
  rw[r46 (by simp only[ByteArray.size_append];omega),r46 (by simp only[ByteArray.size_append];omega)]
  unfold t9e
  simp only[t8y]
end
section
theorem p8i {W:Int×ByteArray×Int×Int→Option ((Int×ByteArray×Int)⊕Unit)}
 (hW:∀x,W x=(bif decide (x.2.2.2<(8:Int)) then(bif decide (Int.tmod x.1 (2:Int)=(1:Int)) then W (IntKind.u32.wrap ((BitVec.ofInt IntKind.u32.bits (IntKind.u32.wrap (Int.tdiv x.1 (2:Int)))^^^BitVec.ofInt IntKind.u32.bits (3558460437:Int)).toNat:Int),x.2.1,x.2.2.1,IntKind.i64.wrap (x.2.2.2+(1:Int)))
  else W (IntKind.u32.wrap (Int.tdiv x.1 (2:Int)),x.2.1,x.2.2.1,IntKind.i64.wrap (x.2.2.2+(1:Int)))) else some (.inl (x.1,x.2.1,x.2.2.1)))) (t:ByteArray) (k:Int):
 ∀(n:Nat) (x:Int) (i:Nat),i+n=8→W (x,t,k,(i:Int))=some (.inl (q13 n x,t,k)):=by
 intro n
 induction n with
 | zero=>
  intro x i hi
  have:i=8:=by omega
  subst this
  rw[hW];rfl
 | succ n ih=>
  intro x i hi
  rw[hW]
  simp only
  rw[r46 (by omega),y7l (by omega),ih _ (i+1) (by omega),ih _ (i+1) (by omega)]
  rw[show q13 (n+1) x=q13 n (p6p x) from rfl]
  unfold p6p o1v
  cases decide (Int.tmod x 2=1)<;>rfl
theorem p8j (f:Int→UInt8→Int) (t:ByteArray) {W:Int×ByteArray×Int→Option (Int⊕Unit)} (ht:t.size≤1099511627776)
 (hend:∀x,W (x,t,(t.size:Int))=some (.inl x))
 (hstep:∀(i:Nat),i<t.size→ ∀x,W (x,t,(i:Int))=W (f x (t.data.toList.getD i 0),t,((i+1:Nat):Int))) (x:Int):W (x,t,0)=some (.inl (t.data.toList.foldl f x)):=by
 have e:t.size=t.data.toList.length:=r3d t
 exact t7v W t.data.toList (fun x i=>(x,t,i)) f (fun x=> .inl x) (fun _ _=>True) (fun x _=>by rw[←e];exact hend x)
  (fun i hi x _=>⟨trivial,by
   rw[hstep i (by rw[e];exact hi) x]
   congr 2
   rw[List.getD_eq_getElem?_getD,List.getElem?_eq_getElem hi];rfl⟩) x trivial
theorem r7a (x:Int) (t:ByteArray) (ht:t.size≤1099511627776):s15 (x,t)=some (t.data.toList.foldl p11 x):=by
 have L:=p8j p11 t (W:=t39) ht
  (fun x=>by rw[s67];simp only[t3x,u0b,Nat.lt_irrefl,decide_false,cond_false])
  (fun i hi x=>by
   rw[s67];simp only[t3x,u0b,hi,decide_true,cond_true,y7t hi,zTn]
   have:=p8i (W:=t4a) (fun x=>r9a x) t (i:Int) 8 (o1v x (IntKind.u32.wrap ((t.data.toList.getD i 0).toNat:Int))) 0 rfl
   unfold o1v at this
   rw[show((0:Nat):Int)=0 from rfl] at this
   rw[this]
   simp only[zOb,y7l (show i<4611686018427387904 by omega)]
   rfl) x
 rw[q27];unfold r1d
 simp only[L,zOb]
theorem s4j (t:ByteArray) (ht:t.size≤1099511627776):t5z t=some (p2z t):=by
 rw[q6s];unfold r4s p2z
 have e1:decide ((t.size:Int) >20000)= !decide (t.size≤20000):=by by_cases h:t.size≤20000<;>simp[h] <;>omega
 rw[e1,r71];unfold s8g
 rw[r7a _ _ ht]
 simp only[zOb]
 rw[r2e];unfold r1n
 simp only[zOb]
 by_cases h:t.size≤20000
 ·rw[decide_eq_true h,if_pos h]
  simp only[Bool.not_true,cond_false]
  rw[r46 (by rw[u51];simp;omega)]
  rfl
 ·rw[decide_eq_false h,if_neg h];rfl
theorem t81 (k:Int):(y7g [k]).size=1:=u51 _
theorem t0n (r:s4d) (hw:o3p.wt r≤549755813888):u2z r=some (u1e r):=by
 have hr:=q41 r
 rw[r6n];unfold s2p u1e
 rw[r31 r hw]
 simp only[zOb]
 cases hc:t2o r
 ·rfl
 ·have h:=p88.mp hc
  have hz:=s3p h
  simp only[Bool.not_true,cond_false,if_true]
  cases h with
  | thr t h hs=>
   have:=s3t h
   have ht:=s7p t (by have:u0t.wt t≤o3p.wt (1,t,emp,false,u3y):=by rw[hr];simp only;omega
                      omega)
   rw[if_pos (r5u.mpr h)] at ht
   simp only[Int.reduceEq,decide_true,decide_false,cond_true,cond_false]
   rw[ht]
   simp only[zOb]
   rw[r46 (by rw[t81];omega),s4j _ (by rw[ByteArray.size_append,t81];omega)]
   rfl
  | rdy t h hs=>
   have:=s3t h
   have ht:=s7p t (by have:u0t.wt t≤o3p.wt (2,t,emp,false,u3y):=by rw[hr];simp only;omega
                      omega)
   rw[if_pos (r5u.mpr h)] at ht
   simp only[Int.reduceEq,decide_true,decide_false,cond_true,cond_false]
   rw[ht]
   simp only[zOb]
   rw[r46 (by rw[t81];omega),s4j _ (by rw[ByteArray.size_append,t81];omega)]
   rfl
  | fin n y h=>
   have:=u30 h
   have q:=u1y (s:=n) (by omega)
   simp only[Int.reduceEq,decide_true,decide_false,cond_true,cond_false]
   rw[t4q (by omega)]
   simp only[zOb]
   rw[r46 (by rw[t81];omega),r9d]
   simp only[zOb]
   rw[r46 (by simp only[ByteArray.size_append,t81,u5h];omega),s4j _ (by simp only[ByteArray.size_append,t81,u5h];omega),t8y]
   rfl
  | bas b h=>
   have:=q4l h
   have a1:=(p66.mp h.vs).2.2
   have a2:=h.plen
   have a3:=h.rlen
   have ht:=q5d b (by have:o01.wt b≤o3p.wt (4,u6z,emp,false,b):=by rw[hr];simp only;omega
                      omega)
   rw[if_pos (q4k.mpr h)] at ht
   simp only[Int.reduceEq,decide_true,decide_false,cond_true,cond_false]
   rw[ht]
   simp only[zOb]
   rw[r46 (by rw[t81];omega),s4j _ (by rw[ByteArray.size_append,t81];omega)]
   rfl
end
section
def inT (s:ByteArray) (c:Cur):Prop:=0≤c.1∧c.1≤(s.size:Int)
def bad (c:Cur) (k:Int):Int:=if c.2=true then k else 0
theorem u40 {s:ByteArray} {c:Cur} (h:inT s c):inT s (u4s s c).2∧0≤(u4s s c).1∧(u4s s c).1≤1000000000∧c.1+1≤(u4s s c).2.1+bad (u4s s c).2 1:=by
 unfold u4s
 split
 ·refine⟨h,by simp,by simp,?_⟩
  simp only[bad,if_true];omega
 ·rename_i q
  simp only[not_or,Bool.not_eq_true,Bool.not_eq_false] at q
  have:=t4z q.2
  refine⟨⟨?_,?_⟩,?_,?_,?_⟩
  ·simp only;omega
  ·simp only;omega
  ·simp only;omega
  ·simp only;omega
  ·simp only[bad,Bool.false_eq_true,if_false];omega
theorem q35 {t:ByteArray} {a:Int} (h:(u0p t a).2.2=true):a+1+((u0p t a).1.size:Int)≤(u0p t a).2.1∧0≤a:=by
 unfold u0p at h ⊢
 split at h
 ·rename_i hc
  rw[if_pos hc]
  have:=t4z hc.1
  simp only[ByteArray.size_extract]
  omega
 ·cases h
theorem u9r {s:ByteArray} {c:Cur} (h:inT s c):inT s (u2q s c).2∧c.1+1+((u2q s c).1.size:Int)≤(u2q s c).2.1+bad (u2q s c).2 1:=by
 unfold u2q
 split
 ·refine⟨h,?_⟩
  simp only[bad,if_true,emp,ByteArray.size];simp
 ·rename_i q
  simp only[not_or,Bool.not_eq_true,Bool.not_eq_false] at q
  have h1:=s9k q.2
  have h2:=q35 q.2
  refine⟨⟨?_,?_⟩,?_⟩
  ·simp only;omega
  ·simp only;omega
  ·simp only[bad,Bool.false_eq_true,if_false];omega
theorem p2s {s:ByteArray} {c:Cur} (h:inT s c):inT s (q1q s c).2∧c.1+1≤(q1q s c).2.1+bad (q1q s c).2 1:=by
 unfold q1q
 split
 ·refine⟨h,?_⟩
  simp only[bad,if_true];omega
 ·rename_i q
  simp only[not_or,Decidable.not_not] at q
  unfold inT
  simp only[bad,Bool.false_eq_true,if_false];omega
theorem u9j (c:Cur) {k:Int} (hk:0≤k):0≤bad c k∧bad c k≤k:=by unfold bad;split<;>omega
theorem r45 {c c' :Cur} (h:c.2=true→c'.2=true) {k:Int} (hk:0≤k):bad c k≤bad c' k:=by
 unfold bad
 by_cases q:c.2=true
 ·rw[if_pos q,if_pos (h q)];omega
 ·rw[if_neg q];split<;>omega
def p9k {E:Type} (w:E→Nat) (k:Int) (s:ByteArray) (f:Cur→E×Cur):Prop:= ∀c,inT s c→inT s (f c).2∧c.1+1+(w (f c).1:Int)≤(f c).2.1+bad (f c).2 k
theorem t73 {E:Type} {w:E→Nat} {k:Int} {s:ByteArray} {f:Cur→E×Cur} (hk:0≤k) (hf:p9k w k s f):∀(n:Nat) (c:Cur) (a:List E),inT s c→
 inT s (u4z f n c a).2∧c.1+((u4z f n c a).1.length+((u4z f n c a).1.map w).sum:Nat)≤(u4z f n c a).2.1+(a.length+(a.map w).sum:Nat)+bad (u4z f n c a).2 k
 | 0,c,a,h=>⟨h,by have:=u9j (u4z f 0 c a).2 hk;simp only[u4z] at*;omega⟩
 | n+1,c,a,h=>by
  simp only[u4z]
  split
  ·exact⟨h,by have:=u9j c hk;simp only;omega⟩
  ·obtain⟨h1,h2⟩:=hf c h
   obtain⟨h3,h4⟩:=t73 hk hf n (f c).2 (a++ [(f c).1]) h1
   refine⟨h3,?_⟩
   have e1:(a++ [(f c).1]).length=a.length+1:=by simp
   have e2:((a++ [(f c).1]).map w).sum=(a.map w).sum+w (f c).1:=by simp
   rw[e1,e2] at h4
   have hm:bad (f c).2 k≤bad (u4z f n (f c).2 (a++ [(f c).1])).2 k∧(bad (f c).2 k≠0→u4z f n (f c).2 (a++ [(f c).1])=(a++ [(f c).1],(f c).2)):=by
    by_cases q:(f c).2.2=true
    ·rw[t3e q];exact⟨Int.le_refl _,fun _=>rfl⟩
    ·have:bad (f c).2 k=0:=by unfold bad;rw[if_neg q]
     rw[this];exact⟨(u9j _ hk).1,fun h=>absurd rfl h⟩
   by_cases z:bad (f c).2 k=0
   ·omega
   ·have e:=hm.2 z
    rw[e]
    simp only[e1,e2]
    omega
theorem q1s (s:ByteArray):p9k t2q.wt 2 s (p2t s):=fun c h=>by
 obtain⟨h1,h2⟩:=u9r h
 obtain⟨h3,h4⟩:=u9r h1
 have b1:=r45 (c:=(u2q s c).2) (c' :=(u2q s (u2q s c).2).2) s3n (k:=1) (by omega)
 have b2:bad (u2q s (u2q s c).2).2 2=2*bad (u2q s (u2q s c).2).2 1:=by unfold bad;split<;>omega
 refine⟨h3,?_⟩
 have e:t2q.wt (p2t s c).1=(u2q s c).1.size+(u2q s (u2q s c).2).1.size:=rfl
 have e2:(p2t s c).2=(u2q s (u2q s c).2).2:=rfl
 rw[e,e2];omega
theorem r9i (s:ByteArray):p9k u11.wt 3 s (rWr s):=fun c h=>by
 obtain⟨h1,h2⟩:=u9r h
 obtain⟨h3,h4⟩:=u9r h1
 obtain⟨h5,h6⟩:=p2s h3
 have b1:=r45 (c:=(u2q s c).2) (c' :=(u2q s (u2q s c).2).2) s3n (k:=1) (by omega)
 have b2:=r45 (c:=(u2q s (u2q s c).2).2) (c' :=(q1q s (u2q s (u2q s c).2).2).2) r5o (k:=1) (by omega)
 have b3:bad (q1q s (u2q s (u2q s c).2).2).2 3=3*bad (q1q s (u2q s (u2q s c).2).2).2 1:=by unfold bad;split<;>omega
 refine⟨h5,?_⟩
 have e:u11.wt (rWr s c).1=(u2q s c).1.size+((u2q s (u2q s c).2).1.size+0):=rfl
 have e2:(rWr s c).2=(q1q s (u2q s (u2q s c).2).2).2:=rfl
 rw[e,e2];omega
theorem q1t (s:ByteArray):p9k u0d.wt 4 s (p2v s):=fun c h=>by
 obtain⟨h1,h2⟩:=r9i s c h
 obtain⟨h3,h4,h5,h6⟩:=u40 h1
 have b1:=r45 (c:=(rWr s c).2) (c' :=(u4s s (rWr s c).2).2) u8m (k:=3) (by omega)
 have b3:bad (u4s s (rWr s c).2).2 4=bad (u4s s (rWr s c).2).2 1+bad (u4s s (rWr s c).2).2 3:=by unfold bad;split<;>omega
 refine⟨h3,?_⟩
 have e:u0d.wt (p2v s c).1=u11.wt (rWr s c).1:=rfl
 have e2:(p2v s c).2=(u4s s (rWr s c).2).2:=rfl
 rw[e,e2];omega
theorem q9w (m:Nat) (s:ByteArray):p9k u0t.wt 20 s (q33 m s):=fun c h=>by
 unfold q33
 simp only
 obtain⟨a1,a2,a3,a4⟩:=u40 h
 generalize hA:u4s s c=A at a1 a2 a3 a4 ⊢
 obtain⟨b1,b2,b3,b4⟩:=u40 a1
 have mB:A.2.2=true→(u4s s A.2).2.2=true:=u8m
 generalize hB:u4s s A.2=B at b1 b2 b3 b4 mB ⊢
 obtain⟨d1,d2,d3,d4⟩:=u40 b1
 have mD:B.2.2=true→(u4s s B.2).2.2=true:=u8m
 generalize hD:u4s s B.2=D at d1 d2 d3 d4 mD ⊢
 obtain⟨e1,e2,e3,e4⟩:=u40 d1
 have mE:D.2.2=true→(u4s s D.2).2.2=true:=u8m
 generalize hE:u4s s D.2=E at e1 e2 e3 e4 mE ⊢
 obtain⟨f1,f2,f3,f4⟩:=u40 e1
 have mF:E.2.2=true→(u4s s E.2).2.2=true:=u8m
 generalize hF:u4s s E.2=F at f1 f2 f3 f4 mF ⊢
 obtain⟨g1,g2⟩:=t73 (by omega) (q1s s) (min F.1.toNat m) F.2 [] f1
 have mG:F.2.2=true→(u4z (p2t s) (min F.1.toNat m) F.2 []).2.2=true:=fun q=>by rw[t3e q];exact q
 generalize hG:u4z (p2t s) (min F.1.toNat m) F.2 [] =G at g1 g2 mG ⊢
 obtain⟨k1,k2,k3,k4⟩:=u40 g1
 have mK:G.2.2=true→(u4s s G.2).2.2=true:=u8m
 generalize hK:u4s s G.2=K at k1 k2 k3 k4 mK ⊢
 obtain⟨l1,l2⟩:=t73 (by omega) (r9i s) (min K.1.toNat m) K.2 [] k1
 have mL:K.2.2=true→(u4z (rWr s) (min K.1.toNat m) K.2 []).2.2=true:=fun q=>by rw[t3e q];exact q
 generalize hL:u4z (rWr s) (min K.1.toNat m) K.2 [] =L at l1 l2 mL ⊢
 obtain⟨o1,o2⟩:=p2s l1
 have mO:L.2.2=true→(q1q s L.2).2.2=true:=r5o
 generalize hO:q1q s L.2=O at o1 o2 mO ⊢
 obtain⟨p1,p2⟩:=u9r o1
 have mP:O.2.2=true→(u2q s O.2).2.2=true:=s3n
 generalize hP:u2q s O.2=P at p1 p2 mP ⊢
 refine⟨p1,?_⟩
 have e:u0t.wt (A.1,B.1,D.1,E.1,G.1,L.1,O.1,P.1)=0+(0+(0+(0+((Ty.sl t2q).wt G.1+((Ty.sl u11).wt L.1+(0+P.1.size)))))):=rfl
 have eG:(Ty.sl t2q).wt G.1=G.1.length+(G.1.map t2q.wt).sum:=rfl
 have eL:(Ty.sl u11).wt L.1=L.1.length+(L.1.map u11.wt).sum:=rfl
 simp only[List.length_nil,List.map_nil,List.sum_nil] at g2 l2
 rw[e,eG,eL]
 by_cases q:P.2.2=true
 ·have:bad P.2 20=20:=by unfold bad;rw[if_pos q]
  rw[this]
  have t1:=(u9j A.2 (k:=1) (by omega)).2
  have t2:=(u9j B.2 (k:=1) (by omega)).2
  have t3:=(u9j D.2 (k:=1) (by omega)).2
  have t4:=(u9j E.2 (k:=1) (by omega)).2
  have t5:=(u9j F.2 (k:=1) (by omega)).2
  have t6:=(u9j G.2 (k:=2) (by omega)).2
  have t7:=(u9j K.2 (k:=1) (by omega)).2
  have t8:=(u9j L.2 (k:=3) (by omega)).2
  have t9:=(u9j O.2 (k:=1) (by omega)).2
  have t10:=(u9j P.2 (k:=1) (by omega)).2
  omega
 ·have zP:P.2.2=false:=by simpa using q
  have z:∀ {x y:Cur},(x.2=true→y.2=true)→y.2=false→x.2=false:=fun {x y} i j=>by
   cases w:x.2
   ·rfl
   ·rw[i w] at j;cases j
  have zO:=z mP zP
  have zL:=z mO zO
  have zK:=z mL zL
  have zG:=z mK zK
  have zF:=z mG zG
  have zE:=z mF zF
  have zD:=z mE zE
  have zB:=z mD zD
  have zA:=z mB zB
  simp only[bad,zP,zO,zL,zK,zG,zF,zE,zD,zB,zA,Bool.false_eq_true,if_false] at*
  omega
theorem r6y (m:Nat) (s:ByteArray):p9k u0t.wt 20 s (u9p m s):=fun c h=>by
 obtain⟨h1,h2⟩:=q9w m s c h
 refine⟨h1,?_⟩
 have:bad (q33 m s c).2 20≤bad (u9p m s c).2 20:=r45 (fun q=>by unfold u9p;simp only[q,Bool.true_or]) (by omega)
 have e1:(u9p m s c).1=(q33 m s c).1:=rfl
 have e2:(u9p m s c).2.1=(q33 m s c).2.1:=rfl
 rw[e1,e2];omega
end
section
theorem gt1 (n:Nat):decide ((n:Int) >1)=decide (1<n):=by simp;omega
theorem eq1 (n:Nat):decide ((n:Int)=1)=decide (n=1):=by simp;omega
theorem q09 {E X R U:Type} {s:ByteArray} (W:X→Option (R⊕U)) (mk:Cur→List E→Int→X) (res:Cur→List E→R) (f:Cur→E×Cur) (N:Nat)
 (hf:∀c,inT s c→inT s (f c).2)
 (hend:∀c a (i:Nat),(N≤i∨c.2=true)→W (mk c a (i:Int))=some (.inl (res c a)))
 (hstep:∀c a (i:Nat),i<N→c.2=false→inT s c→a.length≤i→W (mk c a (i:Int))=W (mk (f c).2 (a++ [(f c).1]) ((i+1:Nat):Int))):
 ∀(k i:Nat) c a,i+k=N→inT s c→a.length≤i→W (mk c a (i:Int))=some (.inl (res (u4z f k c a).2 (u4z f k c a).1)):=by
 intro k
 induction k with
 | zero=>intro i c a hi hc ha;exact hend c a i (.inl (by omega))
 | succ k ih=>
  intro i c a hi hc ha
  simp only[u4z]
  split
  ·rename_i q;exact hend c a i (.inr q)
  ·rename_i q
   rw[hstep c a i (by omega) (by simpa using q) hc ha,ih (i+1) _ _ (by omega) (hf c hc) (by simp;omega)]
theorem p1e {E:Type} {w:E→Nat} {k:Int} {s:ByteArray} {f:Cur→E×Cur} (h:p9k w k s f):∀c,inT s c→inT s (f c).2:=fun c hc=>(h c hc).1
end
section
theorem p2u {m k:Nat} {s:ByteArray} {c:Cur} (h:inT s c):inT s (t42 m k s c).2∧c.1+((Ty.sl u0t).wt (t42 m k s c).1:Nat)≤(t42 m k s c).2.1+20+1:=by
 obtain⟨h1,h2,h3,h4⟩:=u40 h
 obtain⟨g1,g2⟩:=t73 (by omega) (r6y m s) (min (u4s s c).1.toNat k) (u4s s c).2 [] h1
 refine⟨g1,?_⟩
 have e:(Ty.sl u0t).wt (t42 m k s c).1=(t42 m k s c).1.length+((t42 m k s c).1.map u0t.wt).sum:=rfl
 rw[e]
 have t1:=(u9j (u4s s c).2 (k:=1) (by omega)).2
 have t2:=(u9j (u4z (u9p m s) (min (u4s s c).1.toNat k) (u4s s c).2 []).2 (k:=20) (by omega)).2
 unfold t42
 simp only[List.length_nil,List.map_nil,List.sum_nil] at g2
 omega
theorem p2r (m:Lim) {s:ByteArray} {c:Cur} (h:inT s c):inT s (s7l m s c).2∧(o01.wt (s7l m s c).1:Int)≤(s.size:Int)+100:=by
 unfold s7l
 simp only
 obtain⟨a1,a2,a3,a4⟩:=u40 h
 obtain⟨b1,b2,b3,b4⟩:=u40 a1
 obtain⟨d1,d2,d3,d4⟩:=u40 b1
 obtain⟨g1,g2⟩:=t73 (by omega) (q1t s) (min (u4s s (u4s s (u4s s c).2).2).1.toNat m.v) (u4s s (u4s s (u4s s c).2).2).2 [] d1
 obtain⟨p1,p2⟩:=p2u (m:=m.t) (k:=m.p) g1
 obtain⟨q1,q2⟩:=p2u (m:=m.t) (k:=m.r) p1
 refine⟨q1,?_⟩
 have t1:=(u9j (u4z (p2v s) (min (u4s s (u4s s (u4s s c).2).2).1.toNat m.v) (u4s s (u4s s (u4s s c).2).2).2 []).2 (k:=4) (by omega)).2
 have u1:=(u9j (u4s s c).2 (k:=1) (by omega)).2
 have u2:=(u9j (u4s s (u4s s c).2).2 (k:=1) (by omega)).2
 have u3:=(u9j (u4s s (u4s s (u4s s c).2).2).2 (k:=1) (by omega)).2
 generalize u4z (p2v s) (min (u4s s (u4s s (u4s s c).2).2).1.toNat m.v) (u4s s (u4s s (u4s s c).2).2).2 [] =vs at*
 simp only[List.length_nil,List.map_nil,List.sum_nil] at g2
 have e:=r3e (vs.1,(t42 m.t m.p s vs.2).1,(t42 m.t m.r s (t42 m.t m.p s vs.2).2).1,(u4s s c).1,(u4s s (u4s s c).2).1)
 simp only at e
 have eV:(Ty.sl u0d).wt vs.1=vs.1.length+(vs.1.map u0d.wt).sum:=rfl
 unfold inT at q1 h
 rw[e,eV]
 omega
end
section
theorem t5n {s:ByteArray} (c:Cur) (hs:s.size≤u0l):u2b (s,c)=some ((u4s s c).1,s,(u4s s c).2):=by
 rw[q60];unfold r40 u4s
 simp only[r69 s c.1 hs,zOb]
 cases h1:c.2
 ·cases h2:(u0s s c.1).2.2<;>simp
 ·simp
theorem t75 {s:ByteArray} (c:Cur) (hs:s.size≤u0l):u1o (s,c)=some ((u2q s c).1,s,(u2q s c).2):=by
 rw[r3g];unfold t9c u2q
 simp only[r0p s c.1 hs,zOb]
 cases h1:c.2
 ·cases h2:(u0p s c.1).2.2
  ·simp[emp]
  ·simp
 ·simp[emp]
theorem r5i {s:ByteArray} {c:Cur} (hc:inT s c) (hs:s.size≤u0l):u5u (s,c)=some ((q1q s c).1,s,(q1q s c).2):=by
 have hb:u0l=1099511627776:=rfl
 unfold inT at hc
 obtain⟨k,hk⟩:∃k:Nat,c.1=k:=⟨c.1.toNat,by omega⟩
 rw[r6r];unfold s2t q1q
 simp only[hk]
 cases h1:c.2
 ·by_cases h2:k<s.size
  ·have e1:decide ((k:Int)≥(s.size:Int))=false:=decide_eq_false (by omega)
   have e3:IntKind.i64.wrap ((k:Int)+1)=(k:Int)+1:=y4y (by omega) (by omega)
   have e5:IntKind.i64.wrap ((k:Int)+1 - 1)=k:=by rw[y4y (by omega) (by omega)];omega
   rw[e1,e3,e5]
   simp only[cond_false,zOb,y7t h2,cond_true,zTn,gt1,eq1]
   rw[show(s.data.toList.getD k 0).toNat=t26 s k from rfl]
   by_cases h3:1<t26 s k
   ·simp[h3]
   ·have h3' :t26 s k≤1:=by omega
    simp[h3,h3',h2]
  ·have e1:decide ((k:Int)≥(s.size:Int))=true:=decide_eq_true (by omega)
   rw[e1]
   simp only[cond_false,zOb,cond_true]
   rw[if_pos (.inr (.inl (by omega)))]
 ·simp
theorem r97 {n k:Int} {i:Nat} {c:Cur} (h:min n.toNat k.toNat≤i∨c.2=true):((bif decide ((i:Int)<n) then(bif decide ((i:Int)<k) then some (!c.2) else some false) else some false:Option Bool))=some false:=by
 rcases h with h | h
 ·by_cases q:(i:Int)<n
  ·rw[decide_eq_true q,decide_eq_false (show ¬(i:Int)<k by omega)];rfl
  ·rw[decide_eq_false q];rfl
 ·rw[h];cases decide ((i:Int)<n)<;>cases decide ((i:Int)<k)<;>rfl
theorem r6d {n k:Int} {i:Nat} {c:Cur} (h:i<min n.toNat k.toNat) (hc:c.2=false):((bif decide ((i:Int)<n) then(bif decide ((i:Int)<k) then some (!c.2) else some false) else some false:Option Bool))=some true:=by
 rw[decide_eq_true (show(i:Int)<n by omega),decide_eq_true (show(i:Int)<k by omega),hc];rfl
theorem p6i {s:ByteArray} (hs:s.size≤u0l) (z t:u0e) (n:Int) {c:Cur} (hc:inT s c) (ht:t.2.2.2.2.1= []):
 u89 (z,(s,c),t,n,0)=some (.inl (z,(s,(u4z (p2t s) (min n.toNat 10) c []).2),(t.1,t.2.1,t.2.2.1,t.2.2.2.1,(u4z (p2t s) (min n.toNat 10) c []).1,t.2.2.2.2.2))):=by
 have L:=q09 (s:=s) u89 (fun(c:Cur) (a:List s2e) i=>(z,(s,c),((t.1,t.2.1,t.2.2.1,t.2.2.2.1,a,t.2.2.2.2.2):u0e),n,i))
  (fun(c:Cur) (a:List s2e)=>(z,(s,c),((t.1,t.2.1,t.2.2.1,t.2.2.2.1,a,t.2.2.2.2.2):u0e))) (p2t s) (min n.toNat 10) (p1e (q1s s))
  (fun c a i h=>by rw[s64];simp only[t3v];rw[r97 (k:=10) h];rfl)
  (fun c a i h hc2 hin ha=>by
   rw[s64];simp only[t3v];rw[r6d (k:=10) h hc2]
   simp only[zOb,cond_true]
   rw[t75 c hs]
   simp only[zOb]
   rw[t75 _ hs]
   simp only[zOb]
   rw[p7g (by simp;omega),y7l (by omega)]
   rfl) (min n.toNat 10) 0 c [] (by omega) hc (by simp)
 obtain⟨t1,t2,t3,t4,t5,t6⟩:=t
 simp only at ht
 subst ht
 exact L
theorem p8t {s:ByteArray} (hs:s.size≤u0l) (z t:u0e) (n:Int) {c:Cur} (hc:inT s c) (ht:t.2.2.2.2.2.1= []):
 u7f (z,(s,c),t,n,0)=some (.inl (z,(s,(u4z (rWr s) (min n.toNat 10) c []).2),(t.1,t.2.1,t.2.2.1,t.2.2.2.1,t.2.2.2.2.1,(u4z (rWr s) (min n.toNat 10) c []).1,t.2.2.2.2.2.2))):=by
 have L:=q09 (s:=s) u7f (fun(c:Cur) (a:List WrT) i=>(z,(s,c),((t.1,t.2.1,t.2.2.1,t.2.2.2.1,t.2.2.2.2.1,a,t.2.2.2.2.2.2):u0e),n,i))
  (fun(c:Cur) (a:List WrT)=>(z,(s,c),((t.1,t.2.1,t.2.2.1,t.2.2.2.1,t.2.2.2.2.1,a,t.2.2.2.2.2.2):u0e))) (rWr s) (min n.toNat 10) (p1e (r9i s))
  (fun c a i h=>by rw[s36];simp only[t1w];rw[r97 (k:=10) h];rfl)
  (fun c a i h hc2 hin ha=>by
   rw[s36];simp only[t1w];rw[r6d (k:=10) h hc2]
   simp only[zOb,cond_true]
   rw[t75 c hs]
   simp only[zOb]
   rw[t75 _ hs]
   simp only[zOb]
   rw[r5i (u9r (u9r hin).1).1 hs]
   simp only[zOb]
   rw[p7g (by simp;omega),y7l (by omega)]
   rfl) (min n.toNat 10) 0 c [] (by omega) hc (by simp)
 obtain⟨t1,t2,t3,t4,t5,t6,t7⟩:=t
 simp only at ht
 subst ht
 exact L
theorem p24 {s:ByteArray} (hs:s.size≤1048576) {a:Int} (hc:inT s (a,false)):
 t7l (s,a)=some (if(u9p 10 s (a,false)).2.2=true then(u6z,0,false) else((u9p 10 s (a,false)).1,(u9p 10 s (a,false)).2.1,true)):=by
 have hb:u0l=1099511627776:=rfl
 have hs' :s.size≤u0l:=by omega
 have hw:=q9w 10 s (a,false) hc
 have hin:=hc
 unfold inT at hin
 simp only at hin
 have hwt:u0t.wt (q33 10 s (a,false)).1≤u0l:=by
  have h1:=hw.1
  unfold inT at h1
  have:=(u9j (q33 10 s (a,false)).2 (k:=20) (by omega)).2
  have:=hw.2
  simp only at this
  omega
 have hk:=t4r _ hwt
 rw[q24];unfold r1a
 unfold u9p
 unfold q33 at hk ⊢
 simp only at hk ⊢
 rw[t5n _ hs']
 simp only[zOb]
 have i1:=(u40 hc).1
 rw[t5n _ hs']
 simp only[zOb]
 have i2:=(u40 i1).1
 rw[t5n _ hs']
 simp only[zOb]
 have i3:=(u40 i2).1
 rw[t5n _ hs']
 simp only[zOb]
 have i4:=(u40 i3).1
 rw[t5n _ hs']
 simp only[zOb]
 have i5:=(u40 i4).1
 rw[p6i hs' _ _ _ i5 rfl]
 simp only[zOb]
 have i6:=(t73 (by omega) (q1s s) (min (u4s s (u4s s (u4s s (u4s s (u4s s (a,false)).2).2).2).2).1.toNat 10) (u4s s (u4s s (u4s s (u4s s (u4s s (a,false)).2).2).2).2).2 [] i5).1
 rw[t5n _ hs']
 simp only[zOb]
 have i7:=(u40 i6).1
 rw[p8t hs' _ _ _ i7 rfl]
 simp only[zOb]
 rw[r5i (t73 (by omega) (r9i s) _ _ [] i7).1 hs']
 simp only[zOb]
 rw[t75 _ hs']
 simp only[zOb]
 rw[hk]
 simp only[zOb]
 generalize u2q s _=z
 generalize u6x _=o
 cases h:z.2.2<;>cases o<;>simp[u6z,emp]
theorem p0a {s:ByteArray} (hs:s.size≤1048576) (m:Nat) (hm:m≤1000) {c:Cur} (hc:inT s c):
 ∃(l:List u0e) (c' :Cur),t0j ((s,c),(m:Int))=some (l,s,c')∧inT s c' ∧c'.2=(t42 10 (m+1) s c).2.2∧c.1+((Ty.sl u0t).wt l:Nat)≤c'.1+22∧(c'.2=false→(l,c')=t42 10 (m+1) s c):=by
 have hb:u0l=1099511627776:=rfl
 obtain⟨h1,h2,h3,h4⟩:=u40 hc
 rw[r5g];unfold s0v t42
 simp only
 rw[t5n c (by omega)]
 simp only[zOb]
 generalize u4s s c=y at h1 h2 h3 h4 ⊢
 have key:∀(k i:Nat) (d:Cur) (a:List u0e),i+k=min y.1.toNat (m+1)→inT s d→a.length≤i→y.2.1+((a.length+(a.map u0t.wt).sum:Nat):Int)≤d.1+bad d 20→
  ∃(r:((ByteArray×Cur)×List u0e)⊕((ByteArray×Cur)×List u0e)) (l:List u0e) (c' :Cur),u5g ((s,d),(m:Int),a,y.1,(i:Int))=some r∧(r= .inl ((s,c'),l)∨r= .inr ((s,c'),l))∧inT s c' ∧c'.2=(u4z (u9p 10 s) k d a).2.2∧
   y.2.1+((l.length+(l.map u0t.wt).sum:Nat):Int)≤c'.1+bad c' 20∧(c'.2=false→(l,c')=u4z (u9p 10 s) k d a):=by
  intro k
  induction k with
  | zero=>
   intro i d a hi hd ha hw
   refine⟨_,a,d,?_, .inl rfl,hd,rfl,hw,fun _=>rfl⟩
   rw[u69];simp only[u3z]
   have:(bif decide ((i:Int)<y.1) then(bif decide ((i:Int)≤(m:Int)) then some (!d.2) else some false) else some false:Option Bool)=some false:=by
    by_cases q:(i:Int)<y.1
    ·rw[decide_eq_true q,decide_eq_false (show ¬(i:Int)≤m by omega)];rfl
    ·rw[decide_eq_false q];rfl
   rw[this];rfl
  | succ k ih=>
   intro i d a hi hd ha hw
   by_cases q:d.2=true
   ·refine⟨_,a,d,?_, .inl rfl,hd,by rw[t3e q],hw,fun z=>by rw[q] at z;cases z⟩
    rw[u69];simp only[u3z]
    have:(bif decide ((i:Int)<y.1) then(bif decide ((i:Int)≤(m:Int)) then some (!d.2) else some false) else some false:Option Bool)=some false:=by
     rw[q];cases decide ((i:Int)<y.1)<;>cases decide ((i:Int)≤(m:Int))<;>rfl
    rw[this];rfl
   ·have q' :d.2=false:=by simpa using q
    have ed:d=(d.1,false):=by rw[←q']
    have hx:=p24 hs (a:=d.1) (by rw[←ed];exact hd)
    rw[←ed] at hx
    have he:=r6y 10 s d hd
    have hbd:bad d 20=0:=by unfold bad;rw[if_neg q]
    have c1:(bif decide ((i:Int)<y.1) then(bif decide ((i:Int)≤(m:Int)) then some (!d.2) else some false) else some false:Option Bool)=some true:=by
     rw[decide_eq_true (show(i:Int)<y.1 by omega),decide_eq_true (show(i:Int)≤m by omega),q'];rfl
    simp only[u4z]
    rw[if_neg q]
    cases z:(u9p 10 s d).2.2
    ·rw[if_neg (by rw[z];simp)] at hx
     have hbz:bad (u9p 10 s d).2 20=0:=by unfold bad;rw[if_neg (by rw[z];simp)]
     obtain⟨r,l,c',e1,e2,e3,e4,e5,e6⟩:=ih (i+1) (u9p 10 s d).2 (a++ [(u9p 10 s d).1]) (by omega) he.1 (by simp;omega) (by
      have:=he.2
      rw[hbd] at hw
      rw[hbz] at this ⊢
      simp only[List.length_append,List.length_singleton,List.map_append,List.map_cons,List.map_nil,List.sum_append,List.sum_cons,List.sum_nil]
      omega)
     refine⟨r,l,c',?_,e2,e3,e4,e5,e6⟩
     rw[←e1,u69];simp only[u3z]
     rw[c1]
     simp only[zOb,cond_true]
     rw[hx]
     simp only[zOb,Bool.not_true,cond_false]
     rw[p7g (by simp;omega),y7l (by omega),q']
     have:(u9p 10 s d).2=((u9p 10 s d).2.1,false):=by rw[←z]
     rw[this]
    ·rw[if_pos z] at hx
     refine⟨_,a,(d.1,true),?_, .inr rfl,hd,by rw[t3e z,z],?_,fun w=>by cases w⟩
     ·rw[u69];simp only[u3z]
      rw[c1]
      simp only[zOb,cond_true]
      rw[hx]
      rfl
     ·rw[hbd] at hw
      have:bad ((d.1,true):Cur) 20=20:=rfl
      rw[this];simp only;omega
 have hb0:0≤bad y.2 20:=(u9j _ (by omega)).1
 obtain⟨r,l,c',e1,e2,e3,e4,e5,e6⟩:=key (min y.1.toNat (m+1)) 0 y.2 [] (by omega) h1 (by simp) (by simp only[List.length_nil,List.map_nil,List.sum_nil];omega)
 have e1' :u5g ((s,y.2),(m:Int), [],y.1,0)=some r:=e1
 refine⟨l,c',?_,e3,e4,?_,e6⟩
 ·rw[e1']
  rcases e2 with e2 | e2<;>rw[e2] <;>rfl
 ·have e:(Ty.sl u0t).wt l=l.length+(l.map u0t.wt).sum:=rfl
  rw[e]
  have t1:=(u9j y.2 (k:=1) (by omega)).2
  have t2:=(u9j c' (k:=20) (by omega)).2
  omega
def p7q:Lim:=⟨10,130,13,4⟩
theorem p9x:p7q.ok:=⟨by decide,by decide,by decide,by decide⟩
theorem p6u {s:ByteArray} (hs:s.size≤u0l) (z b:u0i) (n:Int) {c:Cur} (hc:inT s c) (ht:b.1= []):
 u7e (z,(s,c),b,n,0)=some (.inl (z,(s,(u4z (p2v s) (min n.toNat 130) c []).2),((u4z (p2v s) (min n.toNat 130) c []).1,b.2))):=by
 have L:=q09 (s:=s) u7e (fun(c:Cur) (a:List u18) i=>(z,(s,c),((a,b.2):u0i),n,i))
  (fun(c:Cur) (a:List u18)=>(z,(s,c),((a,b.2):u0i))) (p2v s) (min n.toNat 130) (p1e (q1t s))
  (fun c a i h=>by rw[s35];simp only[t1v];rw[r97 (k:=130) h];rfl)
  (fun c a i h hc2 hin ha=>by
   rw[s35];simp only[t1v];rw[r6d (k:=130) h hc2]
   simp only[zOb,cond_true]
   rw[t75 c hs]
   simp only[zOb]
   rw[t75 _ hs]
   simp only[zOb]
   rw[r5i (u9r (u9r hin).1).1 hs]
   simp only[zOb]
   rw[t5n _ hs]
   simp only[zOb]
   rw[p7g (by simp;omega),y7l (by omega)]
   rfl) (min n.toNat 130) 0 c [] (by omega) hc (by simp)
 obtain⟨b1,b2⟩:=b
 simp only at ht
 subst ht
 exact L
theorem p5n {s:ByteArray} (hs:s.size≤1048576) {a:Int} (hc:inT s (a,false)):
 t9z (s,a)=some (if(t70 p7q s (a,false)).2.2=true then(u3y,0,false) else((t70 p7q s (a,false)).1,(t70 p7q s (a,false)).2.1,true)):=by
 have hb:u0l=1099511627776:=rfl
 have hs' :s.size≤u0l:=by omega
 have hw:=p2r p7q (s:=s) hc
 have hk:=t6e (s7l p7q s (a,false)).1 (by have:=hw.2;omega)
 rw[q0u];unfold s8c
 unfold t70
 unfold s7l at hk ⊢
 simp only at hk ⊢
 rw[t5n _ hs']
 simp only[zOb]
 have i1:=(u40 hc).1
 rw[t5n _ hs']
 simp only[zOb]
 have i2:=(u40 i1).1
 rw[t5n _ hs']
 simp only[zOb]
 have i3:=(u40 i2).1
 rw[p6u hs' _ _ _ i3 rfl]
 simp only[zOb]
 have i4f:=t73 (by omega) (q1t s) (min (u4s s (u4s s (u4s s (a,false)).2).2).1.toNat 130) (u4s s (u4s s (u4s s (a,false)).2).2).2 [] i3
 rw[show p7q.v=130 from rfl,show p7q.t=10 from rfl,show p7q.p=12+1 from rfl,show p7q.r=3+1 from rfl] at hk ⊢
 generalize hvs:u4z (p2v s) (min (u4s s (u4s s (u4s s (a,false)).2).2).1.toNat 130) (u4s s (u4s s (u4s s (a,false)).2).2).2 [] =vs at hk i4f ⊢
 obtain⟨i4,i4w⟩:=i4f
 obtain⟨l1,d1,e1,e2,e3,e4,e5⟩:=p0a hs 12 (by omega) i4
 obtain⟨l2,d2,f1,f2,f3,f4,f5⟩:=p0a hs 3 (by omega) e2
 rw[show((12:Nat):Int)=12 from rfl] at e1
 rw[show((3:Nat):Int)=3 from rfl] at f1
 rw[e1]
 simp only[zOb]
 rw[f1]
 simp only[zOb]
 cases z:d2.2
 ·have z1:d1.2=false:=by
   cases w:d1.2
   ·rfl
   ·have:(t42 10 (3+1) s d1).2.2=true:=s9i w
    rw[←f3,z] at this;cases this
  have g1:=e5 z1
  have g2:=f5 z
  rw[←g1]
  rw[←g1] at hk
  simp only at hk ⊢
  rw[←g2]
  rw[←g2] at hk
  simp only at hk ⊢
  rw[hk]
  simp only[zOb,z,cond_false,Bool.false_or]
  generalize t24 _=o
  cases o<;>simp[u3y]
 ·have zz:(t42 10 (3+1) s (t42 10 (12+1) s vs.2).2).2.2=true:=by
   cases w:d1.2
   ·have g1:=e5 w
    rw[←g1]
    show(t42 10 (3+1) s d1).2.2=true
    rw[←f3];exact z
   ·exact s9i (by rw[←e3];exact w)
  rw[zz]
  simp[u3y]
theorem q94 {t:ByteArray} (h:4≤t.size):r0k (t.extract 0 (t.size - 4))=t↔t.extract (t.size - 4) t.size=o22 (p95 (t.extract 0 (t.size - 4))):=by
 have e:t.extract 0 (t.size - 4)++t.extract (t.size - 4) t.size=t:=by
  rw[ByteArray.extract_append_extract,Nat.zero_min,Nat.max_eq_right (by omega)]
  exact ByteArray.extract_zero_size
 unfold r0k
 constructor
 ·intro q
  have:=e.trans q.symm
  exact ByteArray.append_right_inj (t.extract 0 (t.size - 4)) |>.mp this
 ·intro q;rw[←q,e]
theorem p3l (t:ByteArray) (ht:t.size≤1099511627776):s1d t=some (p95 t):=by
 rw[r71];unfold s8g
 rw[r7a _ _ ht];rfl
theorem p43 (x:Int):t7o x=some (o22 x):=by
 rw[r2e];rfl
theorem q5s (t:ByteArray) (ht:t.size≤u0l):t91 t=some (match t7t t with
 | some s=>(s,true)
 | none=>(emp,false)):=by
 have hb:u0l=1099511627776:=rfl
 rw[q0y];unfold s8h t7t
 rw[y4y (n:=(t.size:Int) - 4) (by omega) (by omega)]
 by_cases h4:t.size<4
 ·rw[decide_eq_true (show(t.size:Int) - 4<0 by omega),if_neg (by omega)];rfl
 ·rw[decide_eq_false (show ¬(t.size:Int) - 4<0 by omega)]
  have c1:(decide ((0:Int)≤0)&&decide ((0:Int)≤(t.size:Int) - 4)&&decide ((t.size:Int) - 4≤(t.size:Int)))=true:=by simp;omega
  have c2:(decide ((0:Int)≤(t.size:Int) - 4)&&decide ((t.size:Int) - 4≤(t.size:Int))&&decide ((t.size:Int)≤(t.size:Int)))=true:=by simp;omega
  have e1:((t.size:Int) - 4).toNat=t.size - 4:=by omega
  rw[c1,c2,e1,show((0:Int)).toNat=0 from rfl,zTn]
  have hz:(t.extract 0 (t.size - 4)).size=t.size - 4:=by simp
  simp only[cond_false,cond_true]
  by_cases h5:t.size - 4≤20000
  ·rw[decide_eq_false (show ¬(t.size:Int) - 4 >20000 by omega),p3l _ (by rw[hz];omega)]
   simp only[zOb,cond_false]
   rw[p43]
   simp only[zOb]
   by_cases h6:r0k (t.extract 0 (t.size - 4))=t
   ·rw[if_pos ⟨by omega,h5,h6⟩,(q94 (by omega)).mp h6,y6l];rfl
   ·rw[if_neg (fun q=>h6 q.2.2),q12.mpr (mt (q94 (t:=t) (by omega)).mpr h6)];rfl
  ·rw[decide_eq_true (show(t.size:Int) - 4 >20000 by omega),if_neg (fun q=>h5 q.2.1)];rfl
end
section
def noR:s4d:=(0,u6z,emp,false,u3y)
def s3o (t:ByteArray):s4d×Bool:=match u5a t with
 | some r=>(r,true)
 | none=>(noR,false)
theorem p79 {t:ByteArray} {r:s4d} (h:u1e r=(t,true)):u5a t=some r:=by
 have hr:t2o r=true:=by
  cases q:t2o r with
  | true=>rfl
  | false=>
   unfold u1e at h
   rw[if_neg (by simp[q])] at h
   simp at h
 have hR:=p88.mp hr
 rw[t1f hR] at h
 rw[←(Prod.mk.inj h).1]
 exact s9j hR
theorem p78 {t s:ByteArray} {r:s4d} (hu:t7t t=some s) (h:u5a t=some r):RecR r∧s=s9m r∧u1e r=(t,true):=by
 obtain⟨h1,h2⟩:=r5p h
 have hs:=s3p h1
 have:=r5v (t:=s9m r) (by omega)
 rw[←h2,hu] at this
 exact⟨h1,Option.some.inj this,by rw[t1f h1,←h2]⟩
theorem q63 {t s:ByteArray} {r' :s4d} {b:Bool} (hu:t7t t=some s) (hr:∀r,RecR r→s=s9m r→r' =r∧b=false):
 (((bif b then some true else(bif (!(u1e r').2) then some true else some (!z7o (u1e r').1 t))):Option Bool).bind fun j=>bif j then some (noR,false) else some (r',true))=some (s3o t):=by
 unfold s3o
 cases h:u5a t with
 | some r=>
  obtain⟨h1,h2,h3⟩:=p78 hu h
  obtain⟨e1,e2⟩:=hr r h1 h2
  subst e1
  rw[e2,h3]
  simp only[cond_false,Bool.not_true,y6l,zOb]
 | none=>
  cases b
  ·cases h2:(u1e r').2
   ·rfl
   ·have:z7o (u1e r').1 t=false:=by
     rw[q12]
     intro e
     have:=p79 (t:=t) (r:=r') (by rw[←e,←h2])
     rw[h] at this;cases this
    rw[this];rfl
  ·rfl
theorem p7e (s:ByteArray):((s.data.toList.getD 0 0).toNat:Int)=(t26 s 0:Int):=rfl
theorem p5q (s:ByteArray) (i:Nat):t26 s i<256:=by unfold t26;exact UInt8.toNat_lt _
theorem q7g {t s:ByteArray} (h:t7t t=some s):s.size≤20000:=by
 unfold t7t at h
 split at h
 ·rename_i q
  have:=Option.some.inj h
  rw[←this];simp;omega
 ·cases h
theorem o55 (k:Nat):decide ((k:Int)=3)=decide (k=3):=by simp;omega
theorem o56 (k:Nat):decide ((k:Int)=4)=decide (k=4):=by simp;omega
theorem q7n:u0t.wt u6z=0:=rfl
theorem q7m:o01.wt u3y=0:=rfl
theorem p7y (m:Nat) {s:ByteArray} (hs:s.size≤20000) (h1:1≤s.size):u0t.wt (u9p m s (1,false)).1≤30000:=by
 have h:=r6y m s (1,false) ⟨by simp,by simp;omega⟩
 have h2:=h.1
 unfold inT at h2
 have:=(u9j (u9p m s (1,false)).2 (k:=20) (by omega)).2
 have:=h.2
 simp only at this
 omega
theorem p55 (m:Lim) {s:ByteArray} (hs:s.size≤20000) (h1:1≤s.size):o01.wt (t70 m s (1,false)).1≤30000:=by
 have h:=p2r m (s:=s) (c:=(1,false)) ⟨by simp,by simp;omega⟩
 have e:(t70 m s (1,false)).1=(s7l m s (1,false)).1:=rfl
 rw[e];have:=h.2;omega
theorem r9q (t:ByteArray) (ht:t.size≤u0l):t6l t=some (s3o t):=by
 have hb:u0l=1099511627776:=rfl
 rw[r6l];unfold s2n
 rw[q5s t ht]
 simp only[zOb]
 cases hu:t7t t with
 | none=>
  unfold s3o u5a
  rw[hu];rfl
 | some s=>
  have hs:=q7g hu
  simp only[t7a]
  by_cases h0:s.size=0
  ·unfold s3o u5a
   rw[hu]
   simp only
   rw[if_pos h0,decide_eq_true h0];rfl
  ·have hin:inT s (1,false):=⟨by simp,by simp;omega⟩
   rw[decide_eq_false h0]
   simp only[Bool.not_true,cond_false,zOb]
   rw[show y4q (0:Int) s.size=true from y7t (i:=0) (by omega)]
   simp only[cond_true,show((0:Int)).toNat=0 from rfl,p7e]
   rw[y4y (n:=(t26 s 0:Int)) (by omega) (by have:=p5q s 0;omega),o55,o56]
   by_cases h3:t26 s 0=3
   ·rw[decide_eq_true h3,t75 _ (by omega)]
    simp only[cond_true,zOb]
    rw[r5i (u9r hin).1 (by omega)]
    simp only[zOb]
    have hf:=(u9r hin).2
    have hg:=(u9r hin).1
    unfold inT at hg
    have:=(u9j (u2q s (1,false)).2 (k:=1) (by omega)).2
    simp only at hf
    have hk:=t0n ((t26 s 0:Int),u6z,(u2q s (1,false)).1,(q1q s (u2q s (1,false)).2).1,u3y) (by rw[q41];simp only[q7n,q7m];omega)
    rw[show((0:Int),(0:Int),(0:Int),(0:Int),([] :List s2e),([] :List WrT),false,(⟨#[]⟩:ByteArray))=u6z from rfl]
    rw[show(([] :List u18),([] :List u0e),([] :List u0e),(0:Int),(0:Int))=u3y from rfl]
    rw[hk]
    simp only[zOb]
    refine q63 hu (b:=false) fun r h1 h2=> ?_
    have:=r0b h1
    rw[←h2] at this
    unfold t56 at this
    rw[if_pos h3] at this
    rw[h3]
    exact⟨(Prod.mk.inj this).1,rfl⟩
   ·rw[decide_eq_false h3]
    by_cases h4:t26 s 0=4
    ·rw[decide_eq_true h4,p5n (by omega) hin]
     simp only[cond_true,cond_false,zOb]
     generalize hy:(if(t70 p7q s (1,false)).2.2=true then(u3y,(0:Int),false) else((t70 p7q s (1,false)).1,(t70 p7q s (1,false)).2.1,true))=y
     have hyw:o01.wt y.1≤30000:=by
      rw[←hy]
      split
      ·rw[q7m];omega
      ·exact p55 p7q hs (by omega)
     have hk:=t0n ((t26 s 0:Int),u6z,emp,false,y.1) (by rw[q41];simp only[q7n];simp only[emp,ByteArray.size];simp;omega)
     rw[show((0:Int),(0:Int),(0:Int),(0:Int),([] :List s2e),([] :List WrT),false,(⟨#[]⟩:ByteArray))=u6z from rfl]
     rw[show(([] :List u18),([] :List u0e),([] :List u0e),(0:Int),(0:Int))=u3y from rfl]
     rw[show((⟨#[]⟩:ByteArray))=emp from rfl]
     rw[hk]
     simp only[zOb]
     refine q63 hu (b:=false) fun r h1 h2=> ?_
     have:=r0b h1
     rw[←h2] at this
     unfold t56 at this
     rw[if_neg h3,if_pos h4] at this
     have hl:=p34 p51 p9x (Prod.mk.inj this).2
     rw[hl,if_neg (by rw[(Prod.mk.inj this).2];simp)] at hy
     rw[h4,←hy]
     exact⟨(Prod.mk.inj this).1,rfl⟩
    ·rw[decide_eq_false h4,p24 (by omega) hin]
     simp only[cond_true,cond_false,zOb]
     generalize hy:(if(u9p 10 s (1,false)).2.2=true then(u6z,(0:Int),false) else((u9p 10 s (1,false)).1,(u9p 10 s (1,false)).2.1,true))=y
     have hyw:u0t.wt y.1≤30000:=by
      rw[←hy]
      split
      ·rw[q7n];omega
      ·exact p7y 10 hs (by omega)
     have hk:=t0n ((t26 s 0:Int),y.1,emp,false,u3y) (by rw[q41];simp only[q7m];simp only[emp,ByteArray.size];simp;omega)
     rw[show((0:Int),(0:Int),(0:Int),(0:Int),([] :List s2e),([] :List WrT),false,(⟨#[]⟩:ByteArray))=u6z from rfl]
     rw[show(([] :List u18),([] :List u0e),([] :List u0e),(0:Int),(0:Int))=u3y from rfl]
     rw[show((⟨#[]⟩:ByteArray))=emp from rfl]
     rw[hk]
     simp only[zOb]
     refine q63 hu (b:=false) fun r h1 h2=> ?_
     have:=r0b h1
     rw[←h2] at this
     unfold t56 at this
     rw[if_neg h3,if_neg h4] at this
     have hl:=q9m (m:=9) (m' :=10) (by omega) (by omega) (Prod.mk.inj this).2
     rw[hl,if_neg (by rw[(Prod.mk.inj this).2];simp)] at hy
     rw[←hy]
     exact⟨(Prod.mk.inj this).1,rfl⟩
end
section
theorem q2f (l:List u0e) (c:Int) (hl:l.length≤8388608):u1p (l,c)=some (l.filter fun x=> !decide (x.1=c)):=by
 have hq:∀x∈l,u6d (x,c)=some (decide (x.1=c)):=fun x _=>by rw[r8t];rfl
 have L:=Q.first (T:=u0t) (c:=Int) (W:=u06) (q:=u6d) (p:=fun x:u0e=>decide (x.1=c)) (fun x=>u74 x) l c (by omega) hq
 rw[u8i];unfold u3n
 simp only[u9o,u37,L,zOb]
 by_cases hk:u0n (fun x:u0e=>decide (x.1=c)) l<l.length
 ·obtain⟨a,e1,e2,e3⟩:=Q.delete (T:=u0t) (c:=Int) (W:=u0y) (q:=u6d) (p:=fun x:u0e=>decide (x.1=c)) (fun x=>u7w x) l c (by omega) hq hk
  have hn:=t03 (fun x:u0e=> !decide (x.1=c)) l
  obtain⟨n,hne⟩:∃n,n=(l.filter fun x:u0e=> !decide (x.1=c)).length:=⟨_,rfl⟩
  rw[←hne] at e1 e3 hn
  have c1:decide (((u0n (fun x:u0e=>decide (x.1=c)) l:Nat):Int)= -1)=false:=by simp
  have c2:decide ((0:Int)≤(n:Int))=true:=by simp
  have c3:decide ((n:Int)≤(a.length:Int))=true:=by simp;omega
  have c4:decide ((a.length:Int)≤(a.length:Int))=true:=by simp
  have hw:=y7l (i:=u0n (fun x:u0e=>decide (x.1=c)) l) (by omega)
  simp only[if_pos hk,zOb,c1,cond_false,hw,e1,c2,c3,c4,Bool.and_self,cond_true,zTn,decide_true,Int.le_refl]
  have c5:decide ((n:Int)≤((a.take n++List.replicate (a.length - n) u0t.zero++a.drop (n+(a.length - n))).length:Int))=true:=by simp;omega
  have c6:(a.take n++List.replicate (a.length - n) u0t.zero++a.drop (n+(a.length - n))).take (n - (0:Int).toNat)=l.filter fun x:u0e=> !decide (x.1=c):=by
   rw[List.append_assoc,Int.toNat_zero,Nat.sub_zero,r6f a n (by omega),e3]
  simp only[c5,Bool.and_self,cond_true,c6]
 ·have hall:(l.filter fun x:u0e=> !decide (x.1=c))=l:=by
   rw[List.filter_eq_self]
   intro x hx
   obtain⟨i,hi,rfl⟩:=List.getElem_of_mem hx
   rw[u7k (p:=fun x:u0e=>decide (x.1=c)) hi (by omega)]
   rfl
  simp only[if_neg hk,zOb,decide_true,cond_true,hall]
theorem r67 (b:u0i) (n:ByteArray) (hb:fewB b):t7i (b,n)=some (s1v b n):=by
 obtain⟨hb1,hb2,hb3⟩:=hb
 have L:=s0p u87 b.2.2.1 (fun(a:List u0e) i=>(n,b,u3y,((b.1,b.2.1,a,b.2.2.2):u0i),i)) (fun x:u0e=> !z7o x.2.2.2.2.2.2.2 n) (fun x=>x) (fun a=> .inl (u3y,((b.1,b.2.1,a,b.2.2.2):u0i))) (by have:=hb3.1;omega)
  (fun a _=>by rw[s60];simp only[t3r,u0b,Nat.lt_irrefl,decide_false,cond_false])
  (fun i hi a ha=>by
   have hm:=List.getElem_mem hi
   have:=hb3.1
   rw[s60];simp only[t3r,u0b,hi,decide_true,cond_true,y7t hi,zTn,y8k (t:=u0t) hi,y7l (show i<4611686018427387904 by omega)]
   rw[u8v _ (hb3.2 _ hm)]
   simp only[zOb]
   rw[p7g (by simp;omega)])
 rw[List.map_id'] at L
 rw[q2y];unfold r04
 simp only
 rw[t6f b ⟨hb1,hb2,hb3⟩]
 simp only[zOb]
 have L' :u87 (n,b,(([], [], [],0,0):u0i),((b.1,b.2.1, [],b.2.2.2):u0i),0)=_:=L
 rw[L']
 rfl
theorem p7z (p q:u0e→Bool) (l:List u0e) (d:u0e) (hl:l.length≤4194304):(l.filter p).length+ [d].length≤1099511627776∧(l.filter p++ [d]).length+(l.filter q).length≤1099511627776∧(l.filter p++ [d]).length≤8000000:=by
 have f1:=t03 p l
 have f2:=t03 q l
 rw[List.length_append,List.length_singleton]
 omega
theorem q1w (b z:u0i) (t d:u0e) (n:ByteArray) (hb:fewB b):u49 (n,b,t,z,((b.1,b.2.1, [],b.2.2.2):u0i),d,0)=
 some (.inl (n,b,t,z,((b.1,b.2.1,b.2.2.1.filter (fun x=>y3c x.2.2.2.2.2.2.2 n),b.2.2.2):u0i),d)):=by
 have hl:=hb.2.2.1
 have L:=s0p u49 b.2.2.1 (fun(a:List u0e) i=>(n,b,t,z,((b.1,b.2.1,a,b.2.2.2):u0i),d,i)) (fun x:u0e=>y3c x.2.2.2.2.2.2.2 n) (fun x=>x) (fun a=> .inl (n,b,t,z,((b.1,b.2.1,a,b.2.2.2):u0i),d)) (by omega)
  (fun a _=>by rw[s1n];simp only[u97,u0b,Nat.lt_irrefl,decide_false,cond_false])
  (fun i hi a ha=>by
   have hm:=List.getElem_mem hi
   rw[s1n];simp only[u97,u0b,hi,decide_true,cond_true,y7t hi,zTn,y8k (t:=u0t) hi,y7l (show i<4611686018427387904 by omega)]
   rw[u8v _ (hb.2.2.2 _ hm)]
   simp only[zOb]
   rw[p7g (by simp;omega)])
 rw[List.map_id'] at L
 exact L
theorem r8b (b z:u0i) (t:u0e) (n:ByteArray) (hb:fewB b) (pre:List u0e) (hp:pre.length≤8000000):u4t (n,b,t,z,((b.1,b.2.1,pre,b.2.2.2):u0i),0)=
 some (.inl (t,z,((b.1,b.2.1,pre++b.2.2.1.filter (fun x=> !y3c x.2.2.2.2.2.2.2 n),b.2.2.2):u0i))):=by
 have hl:=hb.2.2.1
 have L:=s0p u4t b.2.2.1 (fun(a:List u0e) i=>(n,b,t,z,((b.1,b.2.1,pre++a,b.2.2.2):u0i),i)) (fun x:u0e=> !y3c x.2.2.2.2.2.2.2 n) (fun x=>x) (fun a=> .inl (t,z,((b.1,b.2.1,pre++a,b.2.2.2):u0i))) (by omega)
  (fun a _=>by rw[s0b];simp only[u77,u0b,Nat.lt_irrefl,decide_false,cond_false])
  (fun i hi a ha=>by
   have hm:=List.getElem_mem hi
   rw[s0b];simp only[u77,u0b,hi,decide_true,cond_true,y7t hi,zTn,y8k (t:=u0t) hi,y7l (show i<4611686018427387904 by omega)]
   rw[u8v _ (hb.2.2.2 _ hm)]
   simp only[zOb]
   rw[p7g (by simp;omega),List.append_assoc])
 rw[List.map_id',List.append_nil] at L
 exact L
theorem r0n (b:u0i) (t:u0e) (n:ByteArray) (hb:fewB b) (ht:r2f t) (hi:p7u t.1):u5c (b,t,n)=some (u1s b t n):=by
 have hl:=hb.2.2.1
 have pl:=fun d=>p7z (fun x:u0e=>y3c x.2.2.2.2.2.2.2 n) (fun x:u0e=> !y3c x.2.2.2.2.2.2.2 n) b.2.2.1 d hl
 rw[r80];unfold s5g
 simp only
 rw[t6f b hb]
 simp only[zOb]
 rw[u8v t ht]
 simp only[zOb]
 rw[r56 t b.2.1 ht hb.2.1]
 simp only[zOb]
 rw[q1w _ _ _ _ _ hb,q1w _ _ _ _ _ hb]
 simp only[zOb]
 rw[p7g (pl _).1,p7g (pl _).1,r8b _ _ _ _ hb _ (pl _).2.2,r8b _ _ _ _ hb _ (pl _).2.2]
 simp only[zOb,t88 hi]
 have key:∀(o:Bool),(bif decide (t.1≥b.2.2.2.2) then some ((b.1,b.2.1,(b.2.2.1.filter fun x=>y3c x.2.2.2.2.2.2.2 n)++ [((t.1,(2:Int),t.2.2.1,t.2.2.2.1,t.2.2.2.2.1,t.2.2.2.2.2.1,o,n):u0e)] ++(b.2.2.1.filter fun x=> !y3c x.2.2.2.2.2.2.2 n),b.2.2.2.1,t.1+1):u0i)
  else some (b.1,b.2.1,(b.2.2.1.filter fun x=>y3c x.2.2.2.2.2.2.2 n)++ [((t.1,(2:Int),t.2.2.1,t.2.2.2.1,t.2.2.2.2.1,t.2.2.2.2.2.1,o,n):u0e)] ++(b.2.2.1.filter fun x=> !y3c x.2.2.2.2.2.2.2 n),b.2.2.2))=
  some (b.1,b.2.1,(b.2.2.1.filter fun x=>y3c x.2.2.2.2.2.2.2 n)++ [((t.1,(2:Int),t.2.2.1,t.2.2.2.1,t.2.2.2.2.1,t.2.2.2.2.2.1,o,n):u0e)] ++(b.2.2.1.filter fun x=> !y3c x.2.2.2.2.2.2.2 n),b.2.2.2.1,u1m b.2.2.2.2 t.1):=fun o=>by
  unfold u1m
  by_cases h:t.1<b.2.2.2.2
  ·rw[decide_eq_false (by omega),if_pos h];rfl
  ·rw[decide_eq_true (by omega),if_neg h];rfl
 unfold u1s u4q
 cases t.2.2.2.2.2.2.1
 ·exact key _
 ·exact key _
end
section
def SameLog (d e:u0j):Prop:=u4d e=true∧u0w e=u0w d∧u0c e 0=u0c d 0∧u0c e 1=u0c d 1
theorem u7l {a:Int} (ha:a=0∨a=1):u0f a=1+a*48∧(s21 a:Int)=2+a*48:=by
 have hfa:u0f a=1+a*48:=by unfold u0f;rw[if_pos (p7n.mpr ha)]
 refine⟨hfa,?_⟩
 unfold s21
 rcases ha with rfl | rfl<;>omega
theorem r5m {e:u0j} (h1:u1r e=true) (h2:e.1.length=97) (h3:e.2= []) (h4:(u0c e 0).2.2=true) (h5:(u0c e 1).2.2=true):u4d e=true:=by
 unfold u4d
 rw[h1,h4,h5]
 simp[h2,h3]
theorem s1q {d e:u0j} (h:u0h e 0=u0h d 0):u0w e=u0w d:=by
 unfold u0w u43
 rw[h]
theorem p9u {d e:u0j} (hl:u4d d=true) {a:Int} (ha:a=0∨a=1) (h1:u1r e=true) (h2:e.1.length=97) (h3:e.2= [])
 (h4:∀k:Nat,k<97→ ¬(s21 a≤k∧k<s21 a+47)→u0h e (k:Int)=u0h d (k:Int))
 (h5:∀j:Nat,(j:Int)<(u0c d a).2.1→j<3008→s4q (s4m e a) j=s4q (s4m d a) j):SameLog d e:=by
 obtain⟨d1,d2,d3,d4,d5⟩:=u5x hl
 have fd:=s4p d1 d2
 have fe:=s4p h1 h2
 obtain⟨f1,f2⟩:=u7l ha
 have hact:u0w e=u0w d:=s1q (h4 0 (by omega) (by omega))
 have hcnt:u08 e a=u08 d a:=by
  unfold u08 u43
  have hk:u0f a=(((u0f a).toNat:Nat):Int):=by rcases ha with rfl | rfl<;>omega
  have:=h4 (u0f a).toNat (by rcases ha with rfl | rfl<;>omega) (by rcases ha with rfl | rfl<;>omega)
  rw[←hk] at this
  rw[this]
 have hra:u0c e a=u0c d a:=by
  have hda:=u8n fd ha
  have hok:(u0c d a).2.2=true:=by rcases ha with rfl | rfl<;>assumption
  rw[u8n fe ha,hcnt]
  obtain⟨l,E,r⟩:∃l E,u0c d a=(l,E,true):=⟨_,_,by rw[←hok]⟩
  rw[r] at h5 ⊢
  rw[r] at hda
  have hsz:(s4m e a).size=(s4m d a).size:=by rw[(u6b fe ha).2.1,(u6b fd ha).2.1]
  have hat:=r92 (s4m d a) (u08 d a).toNat 0 [] (by simp)
  rw[←hda] at hat
  refine s8s hsz hda.symm (fun q hq=>h5 q hq ?_)
  have:=(u6b fd ha).2.1
  simp only at hat
  omega
 have hro:u0c e (1 - a)=u0c d (1 - a):=by
  refine u9t (fun q hq=> ?_)
  have ho:=(u7l (a:=1 - a) (by omega)).1
  obtain⟨j,hj⟩:∃j:Nat,u0f (1 - a)+(q:Int)=(j:Int):=⟨(u0f (1 - a)+(q:Int)).toNat,by rcases ha with rfl | rfl<;>omega⟩
  rw[hj]
  exact h4 j (by rcases ha with rfl | rfl<;>omega) (by rcases ha with rfl | rfl<;>omega)
 have both:u0c e 0=u0c d 0∧u0c e 1=u0c d 1:=by
  rcases ha with rfl | rfl
  ·exact⟨hra,by simpa using hro⟩
  ·exact⟨by simpa using hro,hra⟩
 exact⟨r5m h1 h2 h3 (by rw[both.1];exact d4) (by rw[both.2];exact d5),hact,both.1,both.2⟩
theorem q5z {d x:u0j} {a:Int} {t:ByteArray} (h:t5k d a t=some x):∃E:Nat,(u0c d a).2.1=(E:Int)∧E+(u0u t).size≤3008∧q7r ((u0u t).size+1) d (s21 a+E / 64) (E % 64) (u0u t)=some x∧t.size≠0∧t.size≤3008∧u08 d a<255:=by
 have hat:=r3s d a
 unfold t5k at h
 split at h
 ·cases h
 ·rename_i hc
  simp only[not_or] at hc
  unfold u5w at h
  split at h
  ·exact⟨(u0c d a).2.1.toNat,by omega,by omega,h,hc.2.1,by omega,by omega⟩
  ·cases h
theorem p1y {d:u0j} (h:d.2= []) {k:Nat} (hk:k<d.1.length):u0h d (k:Int)=(rdL Ty.str d.1 k,true):=by
 unfold u0h
 rw[if_pos (by omega),h,zTn]
 rfl
theorem SameLog.refl {d:u0j} (h:u4d d=true):SameLog d d:=⟨h,rfl,rfl,rfl⟩
theorem SameLog.trans {d e f:u0j} (h1:SameLog d e) (h2:SameLog e f):SameLog d f:=⟨h2.1,h2.2.1.trans h1.2.1,h2.2.2.1.trans h1.2.2.1,h2.2.2.2.trans h1.2.2.2⟩
end
section
theorem p1f {d x:u0j} {a:Int} {t:ByteArray} (hl:u4d d=true) (ha:a=0∨a=1) (h:t5k d a t=some x):
 SameLog d (flush x)∧ ∀E:Nat,(u0c d a).2.1=(E:Int)→ ∀q,q<(u0u t).size→s4q (s4m (flush x) a) (E+q)=s4q (u0u t) q:=by
 obtain⟨d1,d2,d3,d4,d5⟩:=u5x hl
 obtain⟨_,x1,x2,_⟩:=s4n h
 obtain⟨E,e1,e2,e3,_⟩:=q5z h
 obtain⟨c1,c2,c3⟩:=t7b x1
 have hxl:x.1.length=97:=by rw[x2];exact d2
 have hcl:(flush x).1.length=97:=by rw[c3];exact hxl
 obtain⟨f1,f2⟩:=u7l ha
 have fd:=s4p d1 d2
 have fe:=s4p c1 hcl
 have hb97:s21 a+47≤97:=by rcases ha with rfl | rfl<;>omega
 have hbytes:=fun j i (hi:i<64) (hj:j<97)=>q5a e3 (by omega) (Nat.mod_lt _ (by omega)) j i hi (by omega)
 refine⟨p9u hl ha c1 hcl c2 (fun k hk hn=> ?_) (fun j hj hj2=> ?_),fun E' hE' q hq=> ?_⟩
 ·rw[t04 x1]
  exact r0e e3 (Nat.mod_lt _ (by omega)) k (fun z=>hn ⟨by omega,by omega⟩)
 ·rw[(u6b fe ha).2.2 j hj2,(u6b fd ha).2.2 j hj2,t04 x1,hbytes _ _ (Nat.mod_lt _ (by omega)) (by omega),if_neg (by omega)]
 ·have hEE:E' =E:=by omega
  subst hEE
  rw[(u6b fe ha).2.2 (E' +q) (by omega),t04 x1,hbytes _ _ (Nat.mod_lt _ (by omega)) (by omega),if_pos (by omega)]
  congr 1
  omega
theorem r6c (t:ByteArray):r8o t=((s4q t 0).toNat:Int):=rfl
theorem r98 (n:Int) (r:ByteArray) (h0:0≤n) (h1:n<256):r8o (t6a n++r)=n:=by
 rw[r6c,u8k,if_pos (by rw[u3p];omega)]
 unfold t6a s4q
 rw[t96]
 have w:IntKind.u8.wrap n=n:=by rw[p6y];omega
 rw[w]
 simp only[u8s,List.map_cons,List.map_nil,List.getD_cons_zero]
 rw[UInt8.toNat_ofNat']
 omega
theorem p6d {d y:u0j} {a:Int} {t:ByteArray} (hl:u4d d=true) (ha:a=0∨a=1) (h:q4w d a t=some y):
 u4d y=true∧u0w y=u0w d∧u0c y (1 - a)=u0c d (1 - a)∧u08 y a=u08 d a+1∧u0c y a=((u0c d a).1++ [t],(u0c d a).2.1+((u0u t).size:Int),true):=by
 obtain⟨d1,d2,d3,d4,d5⟩:=u5x hl
 obtain⟨x,hx,x1,y1,y2,y3,hy⟩:=p6e d2 h
 obtain⟨s1,s2⟩:=p1f hl ha hx
 obtain⟨E,e1,e2,e3,e4,e5,e6⟩:=q5z hx
 obtain⟨c1,c2,c3⟩:=t7b x1
 have hxl:(flush x).1.length=97:=(u5x s1.1).2.1
 obtain⟨f1,f2⟩:=u7l ha
 have hcl:=r6e d a
 have hc1:s5p d a=u08 d a+1:=by unfold s5p;exact y4y (by omega) (by omega)
 have hob:=r3l (s:=u0f a) c1 c2 (by omega) (by rw[hxl];rcases ha with rfl | rfl<;>omega) (u3p (s5p d a))
 have hcz:s8u (flush x) a (s5p d a)=some ((flush x).1, [(u0f a,t6a (s5p d a)++(rdL Ty.str (flush x).1 (u0f a).toNat).extract 1 64)]):=hob
 have hz1:=(u6p hob).2.1
 rw[hcz] at hy
 simp only[orD] at hy
 have hrd:∀j:Int,u0h y j=if j=u0f a then(t6a (s5p d a)++(rdL Ty.str (flush x).1 (u0f a).toNat).extract 1 64,true) else u0h (flush x) j:=fun j=>by
  rw[hy,t04 hz1]
  by_cases e:j=u0f a
  ·rw[if_pos e,e]
   unfold u0h
   rw[if_pos (by show _∧_<((flush x).1.length:Int);rw[hxl];rcases ha with rfl | rfl<;>omega)]
   simp[t07]
  ·rw[if_neg e]
   have hne: ¬u0f a=j:=fun z=>e z.symm
   unfold u0h
   simp only[t07,List.foldl_cons,List.foldl_nil,hne,if_false,c2]
 have fy:=s4p y1 y3
 have fx:=s4p c1 hxl
 have fd:=s4p d1 d2
 have hcnt:u08 y a=u08 d a+1:=by
  unfold u08 at hc1 ⊢
  rw[p7n.mpr ha,if_pos rfl] at*
  unfold u43 at*
  rw[hrd,if_pos rfl]
  simp only
  have:u08 d a=r8o (u0h d (u0f a)).1:=by unfold u08 u43;rw[p7n.mpr ha,if_pos rfl]
  rw[hc1]
  exact r98 _ _ (by omega) (by omega)
 have hareaT:∀j,j<3008→s4q (s4m y a) j=s4q (s4m (flush x) a) j:=fun j hj=>by
  rw[(u6b fy ha).2.2 j hj,(u6b fx ha).2.2 j hj,hrd,if_neg (by rcases ha with rfl | rfl<;>omega)]
 have hother:u0c y (1 - a)=u0c (flush x) (1 - a):=by
  refine u9t (fun q hq=> ?_)
  have ho:=(u7l (a:=1 - a) (by omega)).1
  rw[hrd,if_neg (by rcases ha with rfl | rfl<;>omega)]
 have hother2:u0c (flush x) (1 - a)=u0c d (1 - a):=by
  rcases ha with rfl | rfl
  ·exact s1.2.2.2
  ·exact s1.2.2.1
 have hact:u0w y=u0w d:=by
  rw[←s1.2.1]
  exact s1q (by rw[hrd,if_neg (by rcases ha with rfl | rfl<;>omega)])
 have hok:(u0c d a).2.2=true:=by rcases ha with rfl | rfl<;>assumption
 have hda:u6n (s4m d a) (u08 d a).toNat 0 [] =((u0c d a).1,(E:Int),true):=by
  rw[←u8n fd ha,←e1,←hok]
 have hfx:u6n (s4m (flush x) a) (u08 (flush x) a).toNat 0 [] =((u0c d a).1,(E:Int),true):=by
  have:u0c (flush x) a=u0c d a:=by
   rcases ha with rfl | rfl
   ·exact s1.2.2.1
   ·exact s1.2.2.2
  rw[←u8n fx ha,this,←e1,←hok]
 have hcx:u08 (flush x) a=u08 d a:=by
  unfold u08 u43
  have hk:u0f a=(((u0f a).toNat:Nat):Int):=by rcases ha with rfl | rfl<;>omega
  have h2:=r0e e3 (Nat.mod_lt _ (by omega)) (u0f a).toNat (by rcases ha with rfl | rfl<;>omega)
  rw[←hk] at h2
  rw[t04 x1,h2]
 have hsz:(s4m y a).size=(s4m (flush x) a).size:=by rw[(u6b fy ha).2.1,(u6b fx ha).2.1]
 have hra:u0c y a=((u0c d a).1++ [t],(u0c d a).2.1+((u0u t).size:Int),true):=by
  rw[u8n fy ha,hcnt,e1]
  have hm:(u08 d a+1).toNat=(u08 d a).toNat+1:=by omega
  rw[hm]
  have hloc:=s8s hsz hfx (fun q hq=>hareaT q (by omega))
  rw[hcx] at hloc
  have hrs:=r60 (T:=s4m y a) (E:=E) e4 e5 (by rw[(u6b fy ha).2.1];exact e2) (fun q hq=>by rw[hareaT _ (by omega)];exact s2 E e1 q hq)
  have:=r93 hloc hrs e4
  rw[this]
  congr 2
 have hlog:u4d y=true:=by
  rw[hother2] at hother
  refine r5m y1 y3 y2 ?_ ?_
  ·rcases ha with rfl | rfl
   ·rw[hra]
   ·have:u0c y 0=u0c d 0:=by simpa using hother
    rw[this];exact d4
  ·rcases ha with rfl | rfl
   ·have:u0c y 1=u0c d 1:=by simpa using hother
    rw[this];exact d5
   ·rw[hra]
 exact⟨hlog,hact,hother.trans hother2,hcnt,hra⟩
end
section
theorem p6g {d:u0j} (hk:u1r d=true) {k:Nat} (hlt:k<d.1.length):(u0h d (k:Int)).2=true∧(u0h d (k:Int)).1.size=64:=by
 obtain⟨k1,k2,k3,k4⟩:=q4o.mp hk
 have hc:(0:Int)≤(k:Int)∧(k:Int)<(d.1.length:Int):=by omega
 unfold u0h
 rw[if_pos hc]
 refine⟨rfl,?_⟩
 cases hp:t07 d.2 (k:Int) with
 | none=>
  have e:rdL Ty.str d.1 k=d.1[k] :=y8k (t:=Ty.str) hlt
  simp only[Option.getD_none,zTn]
  rw[e]
  exact k3 _ (List.getElem_mem hlt)
 | some s=>
  obtain⟨p,hp1,hp2⟩:=r3j hp
  simp only[Option.getD_some]
  rw[←hp2]
  exact(k4 p hp1).2
theorem p0c:∀(f:Nat) {d:u0j} {k at_:Nat} {t:ByteArray},u1r d=true→at_<64→k*64+at_+t.size≤d.1.length*64→d.2.length+(at_+t.size+63) / 64≤60→ ∃x,q7r f d k at_ t=some x
 | 0,d,k,at_,t,_,_,_,_=>⟨d,rfl⟩
 | f+1,d,k,at_,t,hk,hat,h1,h2=>by
  rw[q7r]
  by_cases hz:t.size=0
  ·exact⟨d,by rw[if_pos hz]⟩
  ·have hr:=p6g hk (k:=k) (by omega)
   rw[if_neg hz,if_pos hr]
   have hsz:((u0h d (k:Int)).1.extract 0 at_++t.extract 0 (min t.size (64 - at_))++(u0h d (k:Int)).1.extract (at_+min t.size (64 - at_)) 64).size=64:=by
    simp only[ByteArray.size_append,ByteArray.size_extract,hr.2];omega
   have hin:r2i (k:Int) 0 ((d.1.length:Int) - 1)=true:=by simp[r2i];omega
   have hok:u1r (d.1,d.2++ [((k:Int),(u0h d (k:Int)).1.extract 0 at_++t.extract 0 (min t.size (64 - at_))++(u0h d (k:Int)).1.extract (at_+min t.size (64 - at_)) 64)])=true:=by
    rw[r3f,hk,hin,hsz]
    simp;omega
   have hw:u7a d (k:Int) ((u0h d (k:Int)).1.extract 0 at_++t.extract 0 (min t.size (64 - at_))++(u0h d (k:Int)).1.extract (at_+min t.size (64 - at_)) 64)=some (d.1,d.2++ [((k:Int),(u0h d (k:Int)).1.extract 0 at_++t.extract 0 (min t.size (64 - at_))++(u0h d (k:Int)).1.extract (at_+min t.size (64 - at_)) 64)]):=by
    unfold u7a
    rw[if_pos hok]
   rw[hw]
   simp only[zOb]
   have hs2:(t.extract (min t.size (64 - at_)) t.size).size=t.size - min t.size (64 - at_):=by rw[ByteArray.size_extract];omega
   refine p0c f hok (by omega) ?_ ?_
   ·rw[hs2];show _≤d.1.length*64;omega
   ·rw[hs2];simp only[List.length_append,List.length_singleton];omega
theorem p3r {d:u0j} {a:Int} {t:ByteArray} (hl:u4d d=true) (ha:a=0∨a=1) (h0:t.size≠0) (h1:t.size≤3008) (h2:u08 d a<255) (h3:(u0c d a).2.1+((u0u t).size:Int)≤3008):∃x,t5k d a t=some x:=by
 obtain⟨d1,d2,d3,d4,d5⟩:=u5x hl
 obtain⟨f1,f2⟩:=u7l ha
 have hat:=r3s d a
 have hok:(u0c d a).2.2=true:=by rcases ha with rfl | rfl<;>assumption
 have hsp:=s9p t
 unfold t5k
 rw[if_neg (by rw[hok];simp only[Bool.true_eq_false,false_or];omega)]
 unfold u5w
 have hc:(r2i (u0c d a).2.1 0 6400&&r2i (u0f a+1) 0 ((d.1.length:Int) - 1)&&u1r d)=true:=by
  rw[d1,d2]
  simp only[r2i,Bool.and_eq_true,decide_eq_true_eq,and_true]
  rcases ha with rfl | rfl<;>omega
 rw[if_pos hc]
 refine p0c _ d1 (Nat.mod_lt _ (by omega)) ?_ ?_
 ·rw[d2]
  rcases ha with rfl | rfl<;>omega
 ·rw[d3]
  simp only[List.length_nil]
  omega
theorem p76 {d:u0j} {a:Int} {t:ByteArray} (hl:u4d d=true) (ha:a=0∨a=1) (h0:t.size≠0) (h1:t.size≤3008) (h2:u08 d a<255) (h3:(u0c d a).2.1+((u0u t).size:Int)≤3008):∃y,q4w d a t=some y:=by
 obtain⟨x,hx⟩:=p3r hl ha h0 h1 h2 h3
 unfold q4w
 rw[hx]
 exact⟨_,rfl⟩
def p4g (l:List ByteArray):Nat:=(l.map fun t=>(u0u t).size).sum
theorem q87 {a:Int} (ha:a=0∨a=1):∀ {l:List ByteArray} {x:u0j},u4d x=true→u08 x a+(l.length:Int)≤255→(u0c x a).2.1+(p4g l:Int)≤3008→(∀t∈l,t.size≠0∧t.size≤3008)→
 ∃y,r2g a l x=some y∧u4d y=true∧u0w y=u0w x∧u0c y (1 - a)=u0c x (1 - a)∧(u0c y a).1=(u0c x a).1++l
 | [],x,hl,_,_,_=>⟨x,rfl,hl,rfl,rfl,by simp⟩
 | t::l,x,hl,hc,hr,ht=>by
  have h0:=ht t (List.mem_cons_self ..)
  have hs:p4g (t::l)=(u0u t).size+p4g l:=by simp[p4g]
  simp only[List.length_cons] at hc
  obtain⟨y,hy⟩:=p76 hl ha h0.1 h0.2 (by omega) (by omega)
  obtain⟨p1,p2,p3,p4,p5⟩:=p6d hl ha hy
  obtain⟨z,z1,z2,z3,z4,z5⟩:=q87 ha (l:=l) p1 (by omega) (by rw[p5];simp only;omega) (fun t h=>ht t (List.mem_cons_of_mem _ h))
  refine⟨z,?_,z2,z3.trans p2,z4.trans p3,?_⟩
  ·unfold r2g;rw[hy];exact z1
  ·rw[z5,p5];simp
theorem p3t {d:u0j} (hl:u4d d=true) {a n:Int} (ha:a=0∨a=1):∃z r,s8u d a n=some z∧u1r z=true∧z.1=d.1∧z.2= [(u0f a,t6a n++r)] ∧ ∀j:Int,u0h (flush z) j=if j=u0f a then(t6a n++r,true) else u0h d j:=by
 obtain⟨d1,d2,d3,d4,d5⟩:=u5x hl
 obtain⟨f1,f2⟩:=u7l ha
 have hob:=r3l (s:=u0f a) d1 d3 (by omega) (by rw[d2];rcases ha with rfl | rfl<;>omega) (u3p n)
 have hz1:=(u6p hob).2.1
 refine⟨_,_,hob,hz1,rfl,rfl,fun j=> ?_⟩
 rw[t04 hz1]
 by_cases e:j=u0f a
 ·rw[if_pos e,e]
  unfold u0h
  rw[if_pos (by show _∧_<(d.1.length:Int);rw[d2];rcases ha with rfl | rfl<;>omega)]
  simp[t07]
 ·rw[if_neg e]
  have hne: ¬u0f a=j:=fun z=>e z.symm
  unfold u0h
  simp only[t07,List.foldl_cons,List.foldl_nil,hne,if_false,d3]
theorem q1b {d:u0j} (hl:u4d d=true):u4d (s20 d)=true∧u0w (s20 d)=u0w d∧u0c (s20 d) (u0w d)=u0c d (u0w d)∧u0c (s20 d) (u5i d)=([],0,true)∧u08 (s20 d) (u5i d)=0:=by
 obtain⟨a1,a2⟩:=t6i d
 obtain⟨z,r,hz,hz1,hz2,hz3,hrd⟩:=p3t hl (n:=0) a1
 obtain⟨d1,d2,d3,d4,d5⟩:=u5x hl
 have e:s20 d=flush z:=by unfold s20;rw[hz];rfl
 obtain⟨c1,c2,c3⟩:=t7b hz1
 have hlen:(flush z).1.length=97:=by rw[c3,hz2];exact d2
 obtain⟨f1,f2⟩:=u7l a1
 rw[e]
 have hcnt:u08 (flush z) (u5i d)=0:=by
  unfold u08 u43
  rw[p7n.mpr a1,if_pos rfl,hrd,if_pos rfl]
  exact r98 0 r (by omega) (by omega)
 have ho:u0c (flush z) (u5i d)=([],0,true):=by
  rw[u8n (s4p c1 hlen) a1,hcnt]
  rfl
 have hother:u0c (flush z) (1 - u5i d)=u0c d (1 - u5i d):=by
  refine u9t (fun q hq=> ?_)
  have ho:=(u7l (a:=1 - u5i d) (by omega)).1
  rw[hrd,if_neg (by omega)]
 rw[←a2] at hother
 have hact:u0w (flush z)=u0w d:=s1q (by rw[hrd,if_neg (by omega)])
 have hok:(u0c d (u0w d)).2.2=true:=by rcases t4l d with q | q<;>rw[q] <;>assumption
 refine⟨r5m c1 hlen c2 ?_ ?_,hact,hother,ho,hcnt⟩
 ·rcases a1 with q | q
  ·rw[q] at ho;rw[ho]
  ·have q2:u0w d=0:=by omega
   rw[q2] at hother hok
   rw[hother];exact hok
 ·rcases a1 with q | q
  ·have q2:u0w d=1:=by omega
   rw[q2] at hother hok
   rw[hother];exact hok
  ·rw[q] at ho;rw[ho]
end
section
theorem q8h {z:u0j} {s:Int} {b:ByteArray} (hk:u1r z=true) (hz:z.2= [(s,b++(rdL Ty.str z.1 s.toNat).extract 1 64)]) (hb:b.size=1) (keep:List Int) (tear:Int):
 (p1k keep 0=false→s0j z keep tear=(z.1, []))∧(p1k keep 0=true→1≤t97 tear→s0j z keep tear=flush z)∧(s0j z keep tear=(z.1, [])∨s0j z keep tear=flush z):=by
 obtain⟨k1,k2,k3,k4⟩:=q4o.mp hk
 have hs:=(k4 (s,b++(rdL Ty.str z.1 s.toNat).extract 1 64) (by rw[hz];simp)).1
 have hlt:s.toNat<z.1.length:=by
  have h1:0≤s:=hs.1
  have h2:s<(z.1.length:Int):=hs.2
  omega
 have ht:=(p8k tear).1
 have eo:rdL Ty.str z.1 s.toNat=z.1[s.toNat] :=y8k (t:=Ty.str) hlt
 have hold:(rdL Ty.str z.1 s.toNat).size=64:=by rw[eo];exact k3 _ (List.getElem_mem hlt)
 have hlen:z.2.length=1:=by rw[hz];rfl
 have h0:rdL p62 z.2 0=(s,b++(rdL Ty.str z.1 s.toNat).extract 1 64):=by rw[hz];rfl
 have hc:s0j z keep tear=(r48 z keep (r5l keep 1) (t97 tear) z.1 0, []):=by
  unfold s0j
  rw[if_pos hk,hlen]
  rfl
 have hfl:flush z=(t95 z.1 (s,b++(rdL Ty.str z.1 s.toNat).extract 1 64), []):=by
  unfold flush
  rw[if_pos hk,hz]
  rfl
 have hno:p1k keep 0=false→s0j z keep tear=(z.1, []):=fun h=>by
  rw[hc]
  unfold r48
  rw[h,if_neg (by simp)]
 have hyes:p1k keep 0=true→s0j z keep tear=(t95 z.1 (s,(b++(rdL Ty.str z.1 s.toNat).extract 1 64).extract 0 (t97 tear)++(rdL Ty.str z.1 s.toNat).extract (t97 tear) 64), []):=fun h=>by
  have hlast:r5l keep 1=0:=by
   show(if p1k keep 0 then((0:Nat):Int) else r5l keep 0)=0
   rw[if_pos h];rfl
  rw[hc]
  unfold r48
  rw[h,if_pos rfl,hlast,if_pos (by rfl),h0]
  simp only[hold]
 have hfull:p1k keep 0=true→1≤t97 tear→s0j z keep tear=flush z:=fun h h1=>by
  rw[hyes h,hfl]
  congr 2
  congr 1
  apply r9g
  ·simp only[ByteArray.size_append,ByteArray.size_extract,hold,hb];omega
  ·intro i hi
   simp only[ByteArray.size_append,ByteArray.size_extract,hold,hb] at hi
   rw[u8k,u44,u44]
   simp only[ByteArray.size_append,ByteArray.size_extract,hold,hb]
   by_cases h2:i<t97 tear
   ·rw[if_pos (by omega),if_pos (by omega),Nat.zero_add]
   ·rw[if_neg (by omega),if_pos (by omega),u8k,if_neg (by omega),u44,hb,hold,if_pos (by omega)]
    congr 1
    omega
 refine⟨hno,hfull,?_⟩
 cases h:p1k keep 0 with
 | false=>exact .inl (hno h)
 | true=>
  by_cases h1:1≤t97 tear
  ·exact .inr (hfull h h1)
  ·left
   have ht0:t97 tear=0:=by omega
   rw[hyes h,ht0]
   congr 1
   have e1:(b++(rdL Ty.str z.1 s.toNat).extract 1 64).extract 0 0++(rdL Ty.str z.1 s.toNat).extract 0 64=rdL Ty.str z.1 s.toNat:=by
    apply r9g
    ·simp only[ByteArray.size_append,ByteArray.size_extract,hold,hb];omega
    ·intro i hi
     simp only[ByteArray.size_append,ByteArray.size_extract,hold,hb] at hi
     rw[u8k,if_neg (by rw[ByteArray.size_extract];omega),u44,hold,if_pos (by rw[ByteArray.size_extract];omega)]
     congr 1
     rw[ByteArray.size_extract]
     omega
   rw[e1]
   unfold t95
   show z.1.set s.toNat (rdL Ty.str z.1 s.toNat)=z.1
   rw[eo]
   exact List.set_getElem_self hlt
theorem p06 {d:u0j} (hl:u4d d=true) {a n:Int} (ha:a=0∨a=1) (keep:List Int) (tear:Int):∃z,s8u d a n=some z∧
 (p1k keep 0=false→s0j z keep tear=d)∧(p1k keep 0=true→1≤t97 tear→s0j z keep tear=flush z)∧(s0j z keep tear=d∨s0j z keep tear=flush z):=by
 obtain⟨d1,d2,d3,d4,d5⟩:=u5x hl
 obtain⟨f1,f2⟩:=u7l ha
 have hob:=r3l (s:=u0f a) d1 d3 (by omega) (by rw[d2];rcases ha with rfl | rfl<;>omega) (u3p n)
 have hz1:=(u6p hob).2.1
 have hd:(d.1,([] :List (Int×ByteArray)))=d:=by rw[←d3]
 obtain⟨c1,c2,c3⟩:=q8h hz1 rfl (u3p n) keep tear
 rw[hd] at c1 c3
 exact⟨_,hob,c1,c2,c3⟩
theorem q4n {x:u0j} (hl:u4d x=true) (keep:List Int) (tear:Int):∃z,p4m x=some z∧u1r z=true∧(∀j:Int,u0h (flush z) j=if j=0 then(t6a (IntKind.i64.wrap (u43 x 0+1))++(rdL Ty.str x.1 0).extract 1 64,true) else u0h x j)∧(flush z).1.length=97∧
 (p1k keep 0=false→s0j z keep tear=x)∧(p1k keep 0=true→1≤t97 tear→s0j z keep tear=flush z)∧(s0j z keep tear=x∨s0j z keep tear=flush z):=by
 obtain⟨d1,d2,d3,d4,d5⟩:=u5x hl
 have hob:=r3l (s:=0) d1 d3 (by omega) (by rw[d2];omega) (u3p (IntKind.i64.wrap (u43 x 0+1)))
 have hz1:=(u6p hob).2.1
 have hd:(x.1,([] :List (Int×ByteArray)))=x:=by rw[←d3]
 obtain⟨c1,c2,c3⟩:=q8h hz1 rfl (u3p (IntKind.i64.wrap (u43 x 0+1))) keep tear
 rw[hd] at c1 c3
 refine⟨_,hob,hz1,fun j=> ?_,by rw[(t7b hz1).2.2];exact d2,c1,c2,c3⟩
 rw[t04 hz1]
 by_cases e:j=0
 ·rw[if_pos e,e]
  unfold u0h
  rw[if_pos (by show _∧_<(x.1.length:Int);rw[d2];omega)]
  simp[t07]
 ·rw[if_neg e]
  have hne: ¬(0:Int)=j:=fun z=>e z.symm
  unfold u0h
  simp only[t07,List.foldl_cons,List.foldl_nil,hne,if_false,d3]
theorem p8m {x z:u0j} (hl:u4d x=true) (hz1:u1r z=true) (hlen:(flush z).1.length=97) (hrd:∀j:Int,u0h (flush z) j=if j=0 then(t6a (IntKind.i64.wrap (u43 x 0+1))++(rdL Ty.str x.1 0).extract 1 64,true) else u0h x j):
 u4d (flush z)=true∧u0w (flush z)=1 - u0w x∧u0c (flush z) 0=u0c x 0∧u0c (flush z) 1=u0c x 1:=by
 obtain⟨d1,d2,d3,d4,d5⟩:=u5x hl
 obtain⟨c1,c2,c3⟩:=t7b hz1
 have r0:u0c (flush z) 0=u0c x 0:=u9t (fun q hq=>by
  have:=(u7l (a:=0) (.inl rfl)).1
  rw[hrd,if_neg (by omega)])
 have r1:u0c (flush z) 1=u0c x 1:=u9t (fun q hq=>by
  have:=(u7l (a:=1) (.inr rfl)).1
  rw[hrd,if_neg (by omega)])
 have hb:=q50 (u0h x 0).1
 refine⟨r5m c1 hlen c2 (by rw[r0];exact d4) (by rw[r1];exact d5),?_,r0,r1⟩
 unfold u0w u43
 rw[hrd,if_pos rfl]
 have w:IntKind.i64.wrap (u43 x 0+1)=u43 x 0+1:=by unfold u43;exact y4y (by omega) (by omega)
 have e:r8o (t6a (IntKind.i64.wrap (u43 x 0+1))++(rdL Ty.str x.1 0).extract 1 64)=(u43 x 0+1) % 256:=by
  rw[w,r6c,u8k,if_pos (by rw[u3p];omega)]
  unfold t6a s4q
  rw[t96,p6y]
  simp only[u8s,List.map_cons,List.map_nil,List.getD_cons_zero]
  rw[UInt8.toNat_ofNat']
  omega
 show Int.tmod (r8o _) 2=_
 rw[e]
 have hf:u43 x 0=r8o (u0h x 0).1:=rfl
 rw[hf]
 generalize r8o (u0h x 0).1=n at*
 obtain⟨m,rfl⟩:∃m:Nat,n=(m:Int):=⟨n.toNat,by omega⟩
 have t1:Int.tmod (m:Int) 2=((m % 2:Nat):Int):=p6q m 2
 have t2:Int.tmod (((m:Int)+1) % 256) 2=((((m+1) % 256) % 2:Nat):Int):=by
  have:((m:Int)+1) % 256=(((m+1) % 256:Nat):Int):=by omega
  rw[this]
  exact p6q ((m+1) % 256) 2
 rw[t1,t2]
 omega
end
section
theorem p3n {d y:u0j} {t:ByteArray} (h:append_ d t=some y):u4d d=true∧u4d y=true∧u0k y=u0k d++ [t] :=by
 unfold append_ at h
 split at h
 ·rename_i hl
  obtain⟨p1,p2,p3,p4,p5⟩:=p6d hl (t4l d) h
  refine⟨hl,p1,?_⟩
  unfold u0k
  rw[p2,p5]
 ·cases h
theorem p7i {d:u0j} {l:List ByteArray} (hl:u4d d=true) (hn:l.length≤255) (hr:p4g l≤3008) (ht:∀t∈l,t.size≠0∧t.size≤3008):
 ∃x,r0j d l=some x∧u4d x=true∧u0w x=u0w d∧u0k x=u0k d∧(u0c x (u5i d)).1=l:=by
 obtain⟨a1,a2⟩:=t6i d
 obtain⟨f1,f2,f3,f4,f5⟩:=q1b hl
 obtain⟨y,y1,y2,y3,y4,y5⟩:=q87 a1 (l:=l) f1 (by rw[f5];omega) (by rw[f4];simp only;omega) ht
 rw[←a2] at y4
 refine⟨y,by unfold r0j;rw[hl,if_pos rfl];exact y1,y2,y3.trans f2,?_,by rw[y5,f4];simp⟩
 unfold u0k
 rw[y3.trans f2,y4,f3]
theorem p3x {d x:u0j} {l:List ByteArray} (hx:r0j d l=some x) (h1:u4d x=true) (h2:u0w x=u0w d) (h3:u0k x=u0k d) (h4:(u0c x (u5i d)).1=l) (hl:u4d d=true):
 ∃y,s9r d l=some y∧u4d y=true∧u0k y=l∧ ∀(step:Int) (keep:List Int) (tear:Int),
  (step=0→u4d (t01 d l step keep tear)=true∧u0k (t01 d l step keep tear)=u0k d)∧(step=1→t01 d l step keep tear=x)∧
  (step≠0→step≠1→step≠2→t01 d l step keep tear=y)∧
  (step=2→(p1k keep 0=false→t01 d l step keep tear=x)∧(p1k keep 0=true→1≤t97 tear→t01 d l step keep tear=y)∧(t01 d l step keep tear=x∨t01 d l step keep tear=y)):=by
 obtain⟨a1,a2⟩:=t6i d
 obtain⟨z,hz,hz1,hrd,hlen,_⟩:=q4n h1 [] 0
 obtain⟨t1,t2,t3,t4⟩:=p8m h1 hz1 hlen hrd
 have hsw:s9r d l=some (flush z):=by unfold s9r;rw[hx];simp only[Option.map_some,hz,orD]
 have htx:u0k (flush z)=l:=by
  have ho:u0w (flush z)=u5i d:=by rw[t2,h2];rfl
  unfold u0k
  rw[ho,←h4]
  rcases a1 with q | q<;>rw[q]
  ·rw[t3]
  ·rw[t4]
 refine⟨flush z,hsw,t1,htx,fun step keep tear=> ?_⟩
 obtain⟨c,hc,c1,c2,c3⟩:=p06 hl (n:=0) a1 keep tear
 obtain⟨z',hz',_,_,_,g1,g2,g3⟩:=q4n h1 keep tear
 rw[hz] at hz'
 cases hz'
 have e0:∀st,t01 d l st keep tear=(if st=0 then s0j c keep tear else if st=1 then x else if st=2 then s0j z keep tear else flush z):=fun st=>by
  unfold t01
  rw[hx]
  simp only[hc,orD,hz]
 have hf0:flush c=s20 d:=by unfold s20;rw[hc];rfl
 obtain⟨f1,f2,f3,f4,f5⟩:=q1b hl
 have htx0:u0k (s20 d)=u0k d:=by unfold u0k;rw[f2,f3]
 refine⟨fun s0=> ?_,fun s1=> ?_,fun n0 n1 n2=> ?_,fun s2=> ?_⟩
 ·rw[e0,if_pos s0]
  rcases c3 with q | q
  ·rw[q];exact⟨hl,rfl⟩
  ·rw[q,hf0];exact⟨f1,htx0⟩
 ·rw[e0,if_neg (by omega),if_pos s1]
 ·rw[e0,if_neg n0,if_neg n1,if_neg n2]
 ·have e:t01 d l step keep tear=s0j z keep tear:=by rw[e0,if_neg (by omega),if_neg (by omega),if_pos s2]
  rw[e]
  exact⟨g1,g2,g3⟩
end
section
structure Like0 (b e:u0i):Prop where
 vs:b.1=u1z e.1 e.2.2.2.1
 past:b.2.1= []
 ready:b.2.2.1=e.2.2.1
 cs:b.2.2.2.1=e.2.2.2.1
theorem q9n (b:u0i):∀(o:List u0e),t5o b o≤b.2.2.2.1:=by
 intro o
 have key:∀(o:List u0e) (m:Int),o.foldl (fun m t=>if t.2.2.1<m then t.2.2.1 else m) m≤m:=by
  intro o
  induction o with
  | nil=>intro m;exact Int.le_refl _
  | cons t o ih=>
   intro m
   rw[List.foldl_cons]
   refine Int.le_trans (ih _) ?_
   split<;>omega
 exact key o _
theorem p35 (b:u0i):t5o b [] =b.2.2.2.1:=rfl
theorem Like0.tidy {b e:u0i} (h:Like0 b e) (he:BaseR e) (o:List u0e):Like0 b (u4r e o):=
 ⟨by rw[h.vs];exact(r5t (p66.mp he.vs).2.1 (q9n e o)).symm,h.past,h.ready,h.cs⟩
theorem r0c {x:u0i} (hp:∀t∈x.2.1,t.2.2.2.1≤x.2.2.2.1):u4r x [] =(u1z x.1 x.2.2.2.1, [],x.2.2):=by
 unfold u4r
 rw[p35]
 congr 2
 rw[List.filter_eq_nil_iff]
 intro t ht
 simp[hp t ht]
theorem Like0.self {b e:u0i} (h:Like0 b e) (he:BaseR e):u4r b [] =b:=by
 rw[r0c (by rw[h.past];intro t ht;cases ht)]
 obtain⟨b1,b2,b3⟩:=b
 have h1:=h.vs
 have h2:=h.past
 have h4:=h.cs
 simp only at h1 h2 h4
 rw[h4,h1,h2,r5t (p66.mp he.vs).2.1 (Int.le_refl _)]
theorem p3z {d d' x:u0e} (h1:d.1=d'.1) (h2:d.2.1=d'.2.1) (h3:d.2.2.1=d'.2.2.1) (h4:d.2.2.2.1=d'.2.2.2.1) (h5:d.2.2.2.2.2.1=d'.2.2.2.2.2.1):r5h d x=r5h d' x:=by
 have:ahead x d=ahead x d' :=by unfold ahead s8t r77;rw[h1,h2,h3,h4,h5]
 unfold r5h;rw[this]
theorem Like0.vlen {b e:u0i} (h:Like0 b e):b.1.length≤e.1.length:=by rw[h.vs];exact(u8p _ _).length_le
theorem r8e {b e:u0i} {t u:u0e} (h:Like0 b e) (he:BaseR e) (hb:BaseR b) (hc:e.2.2.2.1<9999) (hv:e.1.length≤100) (hu:TxnR u) (h9:u.1<9999) (hs:u.2.2.1≤e.2.2.2.1)
 (h1:u.1=t.1) (h3:u.2.2.1=t.2.2.1) (h5:u.2.2.2.2.2.1=t.2.2.2.2.2.1):
 t24 (u4r (u1h b u) [])=true∧Like0 (u4r (u1h b u) []) (u1h e t):=by
 have hR:BaseR (u1h b u):=q98 hb hu (by rw[h.cs];exact hs) (by rw[h.cs];exact hc) (by rw[h.past];simp) (by have:=h.vlen;omega) (by rw[h.past];intro x hx;cases hx) h9
 refine⟨q4k.mpr (t4i hR _),?_⟩
 rw[r0c (fun x hx=>(hR.past x hx).2.2)]
 obtain⟨v1,v2,v3⟩:=p66.mp he.vs
 refine⟨?_,rfl,?_,?_⟩
 ·show u1z (t41 b.1 u.2.2.2.2.2.1 (b.2.2.2.1+1)) (b.2.2.2.1+1)=u1z (t41 e.1 t.2.2.2.2.2.1 (e.2.2.2.1+1)) (e.2.2.2.1+1)
  rw[h.cs,h.vs,h5]
  exact p8l v2 (h5 ▸ p0d hu.ws) fun x hx=>by have:=he.vcs x hx;unfold vCs;omega
 ·show(b.2.2.1.filter fun x=> !decide (x.1=u.1)).map (r5h (u8f b u))=(e.2.2.1.filter fun x=> !decide (x.1=t.1)).map (r5h (u8f e t))
  rw[h.ready,h1]
  refine List.map_congr_left fun x _=>p3z h1 rfl h3 ?_ h5
  show b.2.2.2.1+1=e.2.2.2.1+1
  rw[h.cs]
 ·show b.2.2.2.1+1=e.2.2.2.1+1
  rw[h.cs]
theorem p90 {b:u0i} {n:ByteArray} :u1k b n<0↔ ∀x∈b.2.2.1,x.2.2.2.2.2.2.2≠n:=by
 unfold u1k
 constructor
 ·intro h x hx e
  obtain⟨i,hi,rfl⟩:=List.getElem_of_mem hx
  obtain⟨k,hk,hr⟩:=p4b b hi e
  unfold u1k at hr
  rw[hr] at h;omega
 ·intro h
  split
  ·rename_i q
   have:=u6r q
   exact absurd (y7f.mp this) (h _ (List.getElem_mem q))
  ·omega
theorem t6o {b:u0i} {n:ByteArray} (h: ¬u1k b n<0):∃(k:Nat) (hk:k<b.2.2.1.length),u1k b n=(k:Int)∧b.2.2.1[k].2.2.2.2.2.2.2=n:=by
 unfold u1k at h ⊢
 split at h
 ·rename_i q
  rw[if_pos q]
  exact⟨_,q,rfl,y7f.mp (u6r q)⟩
 ·omega
theorem s9l {b e:u0i} (h:b.2.2.1=e.2.2.1) (n:ByteArray):u1k b n=u1k e n:=by unfold u1k;rw[h]
theorem q32 {b e:u0i} {t:u0e} (h:Like0 b e) (he:BaseR e) (hb:BaseR b) (hc:e.2.2.2.1<9999) (hv:e.1.length≤100) (ht:TxnR t) (h9:t.1<9999) (hs:t.2.2.1≤e.2.2.2.1):
 ∃x,u75 b (1,u8f e t,emp,false,u3y)=some x∧BaseR x∧Like0 x (u1h e t):=by
 have hD:=p1a (b:=e) ht hs hc
 obtain⟨k1,k2⟩:=r8e (t:=t) (u:=u8f e t) h he hb hc hv hD h9 hs rfl rfl rfl
 refine⟨_,?_,q4k.mp k1,k2⟩
 unfold u75
 rw[if_pos ⟨q4k.mpr hb,p88.mpr (.thr _ hD rfl)⟩]
 have e1:u2h b (1,u8f e t,emp,false,u3y)=some (u1h b (u8f e t)):=by
  unfold u2h
  rw[if_pos rfl,if_pos (by show e.2.2.2.1+1=b.2.2.2.1+1;rw[h.cs])]
 rw[e1]
 simp only
 rw[if_pos k1]
theorem p38 {b e:u0i} {n:ByteArray} {k:Nat} (h:Like0 b e) (he:BaseR e) (hb:BaseR b) (hc:e.2.2.2.1<9999) (hv:e.1.length≤100) (hn:u55 n=true) (hk:k<e.2.2.1.length) (hr:u1k e n=(k:Int)):
 ∃x,u75 b (3,u6z,n,true,u3y)=some x∧BaseR x∧Like0 x (u1h e e.2.2.1[k]):=by
 obtain⟨q1,q2,q3⟩:=he.ready _ (List.getElem_mem hk)
 have h9:e.2.2.1[k].1<9999:=by
  have:=t9f.mp he.below _ (List.mem_append_right e.2.1 (List.getElem_mem hk))
  have:=he.next.2;omega
 obtain⟨k1,k2⟩:=r8e (t:=e.2.2.1[k]) (u:=e.2.2.1[k]) h he hb hc hv q1 h9 q3 rfl rfl rfl
 refine⟨_,?_,q4k.mp k1,k2⟩
 unfold u75
 rw[if_pos ⟨q4k.mpr hb,p88.mpr (.fin _ _ hn)⟩]
 have e1:u2h b (3,u6z,n,true,u3y)=some (u1h b e.2.2.1[k]):=by
  unfold u2h
  simp only
  rw[if_neg (by decide),if_neg (by decide),if_pos trivial,s9l h.ready,hr,if_neg (by omega),if_pos trivial,zTn]
  congr 2
  rw[h.ready]
  exact y8k (t:=u0t) hk
 rw[e1]
 simp only
 rw[if_pos k1]
theorem p58 {b e:u0i} {n:ByteArray} {k:Nat} (h:Like0 b e) (he:BaseR e) (hb:BaseR b) (hn:u55 n=true) (hk:k<e.2.2.1.length) (hr:u1k e n=(k:Int)):
 ∃x,u75 b (3,u6z,n,false,u3y)=some x∧BaseR x∧Like0 x (s1v e n):=by
 have hR:=q1c hb n
 refine⟨u4r (s1v b n) [],?_,t4i hR _,?_⟩
 ·unfold u75
  rw[if_pos ⟨q4k.mpr hb,p88.mpr (.fin _ _ hn)⟩]
  have e1:u2h b (3,u6z,n,false,u3y)=some (s1v b n):=by
   unfold u2h
   simp only
   rw[if_neg (by decide),if_neg (by decide),if_pos trivial,s9l h.ready,hr,if_neg (by omega),if_neg (by decide)]
  rw[e1]
  simp only
  rw[if_pos (q4k.mpr (t4i hR _))]
 ·rw[r0c (fun x hx=>(hR.past x hx).2.2)]
  refine⟨?_,rfl,?_,h.cs⟩
  ·show u1z b.1 b.2.2.2.1=u1z e.1 e.2.2.2.1
   rw[h.cs,h.vs]
   exact r5t (p66.mp he.vs).2.1 (Int.le_refl _)
  ·show b.2.2.1.filter _=e.2.2.1.filter _
   rw[h.ready]
theorem q9s {b e:u0i} {t:u0e} {n:ByteArray} (h:Like0 b e) (he:BaseR e) (hb:BaseR b) (ht:TxnR t) (h3:t.2.1≠3) (hn:u55 n=true) (hs:t.2.2.1≤e.2.2.2.1) (hl:e.2.2.1.length<3)
 (hx:∀x∈e.2.2.1,x.2.2.2.2.2.2.2≠n) (hid:∀x∈e.2.2.1,x.1≠t.1) (h9:t.1<9999):
 ∃x,u75 b (2,u4q e t n,emp,false,u3y)=some x∧BaseR x∧Like0 x (u1s e t n):=by
 have hD:=q7d (b:=e) ht h3 hn
 have hrr:u4q b (u4q e t n) n=u4q e t n:=by
  have:s7k (u4q e t n) b.2.1=false:=by rw[h.past];rfl
  unfold u4q at this ⊢
  rw[this,Bool.or_false]
 have hR:BaseR (u1s b (u4q e t n) n):=s4r hb hD (by show(2:Int)≠3;omega) (by rw[h.cs];exact hs) hn (by rw[h.ready];exact hl) (by rw[h.ready];exact hx) (by
  rw[h.past,h.ready];exact hid) h9
 refine⟨u4r (u1s b (u4q e t n) n) [],?_,t4i hR _,?_⟩
 ·unfold u75
  rw[if_pos ⟨q4k.mpr hb,p88.mpr (.rdy _ hD rfl)⟩]
  have e1:u2h b (2,u4q e t n,emp,false,u3y)=some (u1s b (u4q e t n) n):=by
   unfold u2h
   simp only
   have hcond:b.2.2.1.length<3∧u1k b (u4q e t n).2.2.2.2.2.2.2<0:=⟨by rw[h.ready];exact hl,by rw[s9l h.ready];exact p90.mpr hx⟩
   rw[if_neg (by decide),if_pos trivial,if_pos hcond]
   rfl
  rw[e1]
  simp only
  rw[if_pos (q4k.mpr (t4i hR _))]
 ·rw[r0c (fun x hx=>(hR.past x hx).2.2)]
  refine⟨?_,rfl,?_,h.cs⟩
  ·show u1z b.1 b.2.2.2.1=u1z e.1 e.2.2.2.1
   rw[h.cs,h.vs]
   exact r5t (p66.mp he.vs).2.1 (Int.le_refl _)
  ·show(b.2.2.1.filter _)++ [u4q b (u4q e t n) n] ++(b.2.2.1.filter _)=(e.2.2.1.filter _)++ [u4q e t n] ++(e.2.2.1.filter _)
   rw[h.ready,hrr]
theorem p2k:BaseR p0i:=by
 refine⟨rfl,fun v h=>(by cases h),⟨Int.le_refl _,by decide⟩,⟨by decide,by decide⟩,by decide,fun t h=>(by cases h),List.Pairwise.nil,by decide,fun t h=>(by cases h),List.Pairwise.nil,fun x h=>(by cases h),List.Pairwise.nil⟩
theorem p1u {b:u0i} (hb:BaseR b) (hs:u4r b [] =b):u75 p0i (4,u6z,emp,false,b)=some b:=by
 unfold u75
 rw[if_pos ⟨q4k.mpr p2k,p88.mpr (.bas b hb)⟩]
 have e1:u2h p0i (4,u6z,emp,false,b)=some b:=by
  unfold u2h
  simp only
  rw[if_neg (by decide),if_neg (by decide),if_neg (by decide)]
 rw[e1]
 simp only
 rw[hs,if_pos (q4k.mpr hb)]
theorem q46 {d y:u0j} {t:ByteArray} (h:s9r d [t] =some y):u4d d=true∧u4d y=true∧u0k y= [t] :=by
 obtain⟨x,hx⟩:∃x,r0j d [t] =some x:=by
  cases q:r0j d [t] with
  | none=>unfold s9r at h;rw[q] at h;cases h
  | some x=>exact⟨x,rfl⟩
 have hl:u4d d=true:=by
  unfold r0j at hx
  split at hx
  ·assumption
  ·cases hx
 obtain⟨a1,a2⟩:=t6i d
 obtain⟨f1,f2,f3,f4,f5⟩:=q1b hl
 have hp:∃z,q4w (s20 d) (u5i d) t=some z:=by
  unfold r0j at hx
  rw[if_pos hl] at hx
  cases q:q4w (s20 d) (u5i d) t with
  | none=>simp only[r2g,q] at hx;cases hx
  | some z=>exact⟨z,rfl⟩
 obtain⟨z,hz⟩:=hp
 obtain⟨w,hw,_⟩:=p6e (u5x f1).2.1 hz
 obtain⟨E,hE,g1,g2,g3,g4,g5⟩:=q5z hw
 obtain⟨x',x1,x2,x3,x4,x5⟩:=p7i (l:= [t]) hl (by simp) (by simp[p4g];omega) (fun u hu=>by simp at hu;subst hu;exact⟨g3,g4⟩)
 rw[hx] at x1
 cases x1
 obtain⟨y',y1,y2,y3,_⟩:=p3x hx x2 x3 x4 x5 hl
 rw[h] at y1
 cases y1
 exact⟨hl,y2,y3⟩
def p4u (d:u0j):Option u0j:=match t2u (u0k d) with
 | none=>none
 | some b=>if(u1e (4,u6z,emp,false,b)).2=true then s9r d [(u1e (4,u6z,emp,false,b)).1] else none
def t4n (d:u0j) (r:s4d):Option u0j:=
 if(u1e r).2=true then(match append_ d (u1e r).1 with
  | some y=>some y
  | none=>match p4u d with
   | none=>none
   | some z=>append_ z (u1e r).1)
 else none
theorem p2d {d y:u0j} {b:u0i} (hp:t2u (u0k d)=some b) (hb:BaseR b) (hs:u4r b [] =b) (h:p4u d=some y):u4d d=true∧u4d y=true∧t2u (u0k y)=some b:=by
 unfold p4u at h
 rw[hp] at h
 simp only at h
 rw[t1f (.bas b hb),if_pos rfl] at h
 obtain⟨h1,h2,h3⟩:=q46 h
 refine⟨h1,h2,?_⟩
 rw[h3]
 unfold t2u
 simp only[t9o]
 rw[s9j (.bas b hb)]
 simp only
 rw[p1u hb hs]
theorem r9h {d y:u0j} {b x:u0i} {r:s4d} (hp:t2u (u0k d)=some b) (hb:BaseR b) (hs:u4r b [] =b) (hr:RecR r) (hx:u75 b r=some x) (h:t4n d r=some y):u4d y=true∧t2u (u0k y)=some x:=by
 have step:∀ {d y:u0j},t2u (u0k d)=some b→append_ d (r0k (s9m r))=some y→u4d y=true∧t2u (u0k y)=some x:=by
  intro d y hp h
  obtain⟨h1,h2,h3⟩:=p3n h
  refine⟨h2,?_⟩
  rw[h3]
  unfold t2u at hp ⊢
  rw[p37,hp]
  simp only[zOb,t9o]
  rw[s9j hr]
  simp only
  rw[hx]
 unfold t4n at h
 rw[t1f hr,if_pos rfl] at h
 simp only at h
 cases q:append_ d (r0k (s9m r)) with
 | some z=>
  rw[q] at h
  cases h
  exact step hp q
 | none=>
  rw[q] at h
  simp only at h
  cases a:p4u d with
  | none=>rw[a] at h;cases h
  | some z=>
   rw[a] at h
   obtain⟨_,_,z3⟩:=p2d hp hb hs a
   exact step z3 h
end
section
def p0h (x:u0e):Bool:=decide (x.2.1=2) || decide (x.2.1=3)
def q9c (t:u0e) (l:List u0e):Bool:=l.any fun x=>p0h x&&ahead x t
def t9g (t:u0e) (l:List u0e):Bool:=l.any fun x=> !decide (x.1=t.1)&&((decide (x.2.1=2) || (decide (x.2.1=3)&&decide (x.2.2.2.1 >t.2.2.1)))&&s1w x.2.2.2.2.2.1 t.2.2.2.2.2.1)
def s1s (f:u0e→Bool) (t:u0e) (l:List u0e):Bool:=
 (q9c t l&&s7k t l) || (l.any (fun x=>p0h x&&(x.2.2.2.2.2.2.1&&ahead t x)) ||
  l.any fun p=>decide (p.2.1=2)&&(ahead p t&&(ahead t p || l.any fun x=>decide (x.2.1=2)&&(f x&&ahead x p))))
def s2v (t:u0e) (l:List u0e):Bool:=s1s (fun x=> !decide (x.1=t.1)) t l
def r8a (f:u0e→Bool) (t:u0e) (l:List u0e):Bool:=
 s1s f t l || ((q9c t l&&l.any fun x=>decide (x.2.1=2)&&ahead t x) || l.any fun x=>(decide (x.2.1=2)&&ahead t x)&&l.any fun y=>decide (y.2.1=2)&&(!decide (y.1=t.1)&&ahead x y))
def t94 (t:u0e) (l:List u0e):Bool:=r8a (fun x=> !decide (x.1=t.1)) t l
theorem t7w {a b:u0e} :ahead a b=true↔a.1≠b.1∧ ¬(a.2.1=3∧a.2.2.2.1≤b.2.2.1)∧ ¬(b.2.1=3∧b.2.2.2.1≤a.2.2.1)∧t98 a.2.2.2.2.1 b.2.2.2.2.2.1=true:=by
 unfold ahead s8t r77
 simp only[Bool.and_eq_true,Bool.not_eq_true',Bool.and_eq_false_iff,decide_eq_false_iff_not,not_and,and_assoc]
 constructor
 ·rintro⟨h1,h2,h3,h4⟩
  exact⟨h1,fun e=>h2.resolve_left (fun q=>q e),fun e=>h3.resolve_left (fun q=>q e),h4⟩
 ·rintro⟨h1,h2,h3,h4⟩
  refine⟨h1,?_,?_,h4⟩
  ·by_cases e:a.2.1=3
   ·exact .inr (h2 e)
   ·exact .inl e
  ·by_cases e:b.2.1=3
   ·exact .inr (h3 e)
   ·exact .inl e
structure SameC (x y:u0e):Prop where
 id:x.1=y.1
 st:x.2.1=y.2.1
 snap:x.2.2.1=y.2.2.1
 cs:x.2.2.2.1=y.2.2.2.1
 rs:x.2.2.2.2.1=y.2.2.2.2.1
 ws:x.2.2.2.2.2.1=y.2.2.2.2.2.1
theorem SameC.refl (x:u0e):SameC x x:=⟨rfl,rfl,rfl,rfl,rfl,rfl⟩
theorem SameC.symm {x y:u0e} (h:SameC x y):SameC y x:=⟨h.id.symm,h.st.symm,h.snap.symm,h.cs.symm,h.rs.symm,h.ws.symm⟩
theorem SameC.ahead {x x' y y' :u0e} (h:SameC x x') (k:SameC y y'):Ab.ahead x y=Ab.ahead x' y' :=by
 unfold Ab.ahead s8t r77
 rw[h.id,h.st,h.snap,h.cs,h.rs,k.id,k.st,k.snap,k.cs,k.ws]
theorem q89 (d x:u0e):SameC (r5h d x) x:=⟨rfl,rfl,rfl,rfl,rfl,rfl⟩
theorem q4h {b:u0i} {t d y:u0e} (hd:SameC d (u8f b t)) (ht:t.2.1≠3) (hy:y.2.2.1≤b.2.2.2.1):ahead d y=ahead t y∧ahead y d=ahead y t:=by
 have h1:ahead d y=ahead (u8f b t) y:=hd.ahead (SameC.refl y)
 have h2:ahead y d=ahead y (u8f b t):=(SameC.refl y).ahead hd
 rw[h1,h2]
 constructor
 ·apply Bool.eq_iff_iff.mpr
  rw[t7w,t7w]
  refine and_congr_right fun _=>and_congr ?_ (and_congr Iff.rfl Iff.rfl)
  constructor
  ·exact fun _ q=>ht q.1
  ·rintro _ ⟨_,q⟩
   have q:b.2.2.2.1+1≤y.2.2.1:=q
   omega
 ·apply Bool.eq_iff_iff.mpr
  rw[t7w,t7w]
  refine and_congr_right fun _=>and_congr Iff.rfl (and_congr ?_ Iff.rfl)
  constructor
  ·exact fun _ q=>ht q.1
  ·rintro _ ⟨_,q⟩
   have q:b.2.2.2.1+1≤y.2.2.1:=q
   omega
theorem q4v (a b:List WrT):s1w a b=s1w b a:=by
 unfold s1w
 apply Bool.eq_iff_iff.mpr
 simp only[List.any_eq_true]
 constructor
 ·rintro⟨x,hx,y,hy,h⟩;exact⟨y,hy,x,hx,by rw[q44];exact h⟩
 ·rintro⟨x,hx,y,hy,h⟩;exact⟨y,hy,x,hx,by rw[q44];exact h⟩
structure Ser (H:List u0e) (e:u1q):Prop where
 eng:EngR e
 st:∀x∈H,x.2.1=3
 snap:∀x∈H,x.2.2.1<x.2.2.2.1∧x.2.2.2.1≤e.1.2.2.2.1
 asc:H.Pairwise fun x y=>x.2.2.2.1<y.2.2.2.1
 uqh:uq (H++(e.1.2.2.1++e.2))
 bel:∀x∈H,x.1<e.1.2.2.2.2
 pin:∀x∈e.1.2.1,∃y∈H,SameC x y
 cov:∀y∈H,∀o∈e.2,o.2.2.1<y.2.2.2.1→ ∃x∈e.1.2.1,SameC x y
 outp:∀x∈e.1.2.1,∀y∈H,ahead x y=true→y.2.2.2.1<x.2.2.2.1→x.2.2.2.2.2.2.1=true
 outr:∀p∈e.1.2.2.1,∀y∈H,ahead p y=true→p.2.2.2.2.2.2.1=true
 no3:∀x∈H,∀y∈H,∀z∈H,ahead x y=true→ahead y z=true→z.2.2.2.1<y.2.2.2.1→z.2.2.2.1≤x.2.2.2.1→False
 noA:∀x∈H,∀p∈e.1.2.2.1,∀z∈H,ahead x p=true→ahead p z=true→z.2.2.2.1≤x.2.2.2.1→False
 noB:∀p∈e.1.2.2.1,∀y∈H,∀z∈H,ahead p y=true→ahead y z=true→z.2.2.2.1<y.2.2.2.1→False
 noD:∀p∈e.1.2.2.1,∀q∈e.1.2.2.1,∀z∈H,ahead p q=true→ahead q z=true→False
 noE:∀p∈e.1.2.2.1,∀q∈e.1.2.2.1,∀r∈e.1.2.2.1,ahead p q=true→ahead q r=true→False
 ww:∀x∈H,∀y∈H,x.2.2.2.1<y.2.2.2.1→s1w x.2.2.2.2.2.1 y.2.2.2.2.2.1=true→x.2.2.2.1≤y.2.2.1
 wr:∀p∈e.1.2.2.1,∀y∈H,s1w y.2.2.2.2.2.1 p.2.2.2.2.2.1=true→y.2.2.2.1≤p.2.2.1
 rr:∀p∈e.1.2.2.1,∀q∈e.1.2.2.1,p.1≠q.1→s1w p.2.2.2.2.2.1 q.2.2.2.2.2.1=true→False
def p1z (c:Int) (t:u0e):u0e:=(t.1,(3:Int),t.2.2.1,c,t.2.2.2.2.1,t.2.2.2.2.2.1,t.2.2.2.2.2.2.1,(⟨#[]⟩:ByteArray))
theorem p8a (b:u0i) (t:u0e):SameC (p1z (b.2.2.2.1+1) t) (u8f b t):=⟨rfl,rfl,rfl,rfl,rfl,rfl⟩
theorem Ser.opens {H:List u0e} {e e' :u1q} (h:Ser H e) (hR:EngR e') (h1:e'.1.2.1=e.1.2.1) (h2:e'.1.2.2.1=e.1.2.2.1) (h3:e'.1.2.2.2.1=e.1.2.2.2.1) (h4:e.1.2.2.2.2≤e'.1.2.2.2.2)
 (ho:∀o∈e'.2,(∃p∈e.2,p.1=o.1∧p.2.2.1=o.2.2.1)∨(e.1.2.2.2.2≤o.1∧o.2.2.1=e.1.2.2.2.1)):Ser H e' :=by
 obtain⟨u1,u2,u3⟩:=o5p.mp h.uqh
 refine⟨hR,h.st,by rw[h3];exact h.snap,h.asc,?_,fun x hx=>by have:=h.bel x hx;omega,by rw[h1];exact h.pin,?_,by rw[h1];exact h.outp,by rw[h2];exact h.outr,h.no3,by rw[h2];exact h.noA,by rw[h2];exact h.noB,by rw[h2];exact h.noD,by rw[h2];exact h.noE,h.ww,by rw[h2];exact h.wr,by rw[h2];exact h.rr⟩
 ·have hu:=hR.uq
  rw[List.append_assoc] at hu
  refine o5p.mpr ⟨u1,(o5p.mp hu).2.1,fun x hx y hy=> ?_⟩
  rcases List.mem_append.mp hy with hy | hy
  ·rw[h2] at hy;exact u3 x hx y (List.mem_append_left _ hy)
  ·rcases ho y hy with ⟨p,hp,e1,_⟩ | ⟨e1,_⟩
   ·rw[←e1];exact u3 x hx p (List.mem_append_right _ hp)
   ·have:=h.bel x hx;omega
 ·intro y hy o ho' hlt
  rw[h1]
  rcases ho o ho' with ⟨p,hp,_,e2⟩ | ⟨_,e2⟩
  ·exact h.cov y hy p hp (by omega)
  ·have:=(h.snap y hy).2;omega
theorem p1t (b:u0i):∀(o:List u0e),∀t∈o,t5o b o≤t.2.2.1:=by
 have le:∀(o:List u0e) (m:Int),o.foldl (fun m t=>if t.2.2.1<m then t.2.2.1 else m) m≤m:=by
  intro o
  induction o with
  | nil=>intro m;exact Int.le_refl _
  | cons t o ih=>
   intro m
   rw[List.foldl_cons]
   refine Int.le_trans (ih _) ?_
   split<;>omega
 have key:∀(o:List u0e) (m:Int),∀t∈o,o.foldl (fun m t=>if t.2.2.1<m then t.2.2.1 else m) m≤t.2.2.1:=by
  intro o
  induction o with
  | nil=>intro m t ht;cases ht
  | cons x o ih=>
   intro m t ht
   rw[List.foldl_cons]
   rcases List.mem_cons.mp ht with rfl | ht
   ·refine Int.le_trans (le o _) ?_
    split<;>omega
   ·exact ih _ t ht
 exact fun o t ht=>key o _ t ht
theorem Ser.tidy {H:List u0e} {e:u1q} (h:Ser H e):Ser H (u4r e.1 e.2,e.2):=by
 have sub:∀x∈(u4r e.1 e.2).2.1,x∈e.1.2.1:=fun x hx=>(List.mem_filter.mp hx).1
 refine⟨p96 h.eng,h.st,h.snap,h.asc,h.uqh,h.bel,fun x hx=>h.pin x (sub x hx),?_,fun x hx=>h.outp x (sub x hx),h.outr,h.no3,h.noA,h.noB,h.noD,h.noE,h.ww,h.wr,h.rr⟩
 intro y hy o ho hlt
 obtain⟨x,hx,hs⟩:=h.cov y hy o ho hlt
 refine⟨x,List.mem_filter.mpr ⟨hx,?_⟩,hs⟩
 have:=p1t e.1 e.2 o ho
 have:=hs.cs
 simp only[Bool.not_eq_true',decide_eq_false_iff_not]
 omega
structure Passed (t:u0e) (P R:List u0e):Prop where
 nb:∀x∈P++R,x.1≠t.1→(x.2.1=2∨(x.2.1=3∧x.2.2.2.1 >t.2.2.1))→s1w x.2.2.2.2.2.1 t.2.2.2.2.2.1=true→False
 d1:∀x∈P++R,∀y∈P,ahead x t=true→ahead t y=true→False
 d2:∀x∈P++R,x.2.2.2.2.2.2.1=true→ahead t x=true→False
 d3:∀p∈R,ahead p t=true→ahead t p=true→False
 d4:∀p∈R,∀x∈R,ahead p t=true→ahead x p=true→x.1≠t.1→False
theorem Ser.inPast {H:List u0e} {e:u1q} (h:Ser H e) {t:u0e} (ht:t∈e.2) {y:u0e} (hy:y∈H) (ha:ahead t y=true∨ahead y t=true):∃x∈e.1.2.1,SameC x y:=by
 refine h.cov y hy t ht ?_
 have hs:=h.st y hy
 rcases ha with ha | ha
 ·have:=(t7w.mp ha).2.2.1
  exact Int.not_le.mp fun q=>this ⟨hs,q⟩
 ·have:=(t7w.mp ha).2.1
  exact Int.not_le.mp fun q=>this ⟨hs,q⟩
theorem Ser.commit {H:List u0e} {e:u1q} (h:Ser H e) {t:u0e} (ht:t∈e.2) (hf:s8w e.1=false) (hp:Passed t e.1.2.1 e.1.2.2.1):Ser (H++ [p1z (e.1.2.2.2.1+1) t]) (u1h e.1 t,u60 e t.1):=by
 have hE:=h.eng
 obtain⟨tR,t1,ts⟩:=hE.open_ t ht
 have t3:t.2.1≠3:=by omega
 have hsame:=p8a e.1 t
 have hgn:=t08 e.1.2.2.2.2 t.1
 have hHs:∀y∈H,y.2.2.1≤e.1.2.2.2.1:=fun y hy=>by have:=h.snap y hy;omega
 have hRs:∀y∈e.1.2.2.1,y.2.2.1≤e.1.2.2.2.1:=fun y hy=>(hE.base.ready y hy).2.2
 have hPs:∀y∈e.1.2.1,y.2.2.1≤e.1.2.2.2.1:=fun y hy=>by obtain⟨z,hz,q⟩:=h.pin y hy;rw[q.snap];exact hHs z hz
 have aL:∀y:u0e,y.2.2.1≤e.1.2.2.2.1→ahead (p1z (e.1.2.2.2.1+1) t) y=ahead t y:=fun y hy=>(q4h hsame t3 hy).1
 have aR:∀y:u0e,y.2.2.1≤e.1.2.2.2.1→ahead y (p1z (e.1.2.2.2.1+1) t)=ahead y t:=fun y hy=>(q4h hsame t3 hy).2
 have self:∀x:u0e,ahead x x=false:=fun x=>by
  cases q:ahead x x with
  | false=>rfl
  | true=>exact absurd rfl (t7w.mp q).1
 have inP:∀y∈H,ahead y t=true→ ∃x∈e.1.2.1,ahead x t=true:=fun y hy q=>by
  obtain⟨x,hx,hs⟩:=h.inPast ht hy (.inr q)
  exact⟨x,hx,by rw[hs.ahead (SameC.refl t)];exact q⟩
 have outP:∀y∈H,ahead t y=true→ ∃x∈e.1.2.1,SameC x y∧ahead t x=true:=fun y hy q=>by
  obtain⟨x,hx,hs⟩:=h.inPast ht hy (.inl q)
  exact⟨x,hx,hs,by rw[(SameC.refl t).ahead hs];exact q⟩
 have ready' :∀p∈(u1h e.1 t).2.2.1,∃q∈e.1.2.2.1,p=r5h (u8f e.1 t) q:=fun p hp=>by
  obtain⟨q,hq,rfl⟩:=List.mem_map.mp hp
  exact⟨q,(List.mem_filter.mp hq).1,rfl⟩
 have snoc:∀ {x:u0e},x∈H++ [p1z (e.1.2.2.2.1+1) t] →x∈H∨x=p1z (e.1.2.2.2.1+1) t:=fun {x} hx=>by
  rcases List.mem_append.mp hx with hx | hx
  ·exact .inl hx
  ·exact .inr (List.mem_singleton.mp hx)
 have csN:(p1z (e.1.2.2.2.1+1) t).2.2.2.1=e.1.2.2.2.1+1:=rfl
 have fl:∀(q y:u0e),ahead (r5h (u8f e.1 t) q) y=ahead q y:=fun q y=>(q89 _ q).ahead (SameC.refl y)
 have fr:∀(q y:u0e),ahead y (r5h (u8f e.1 t) q)=ahead y q:=fun q y=>(SameC.refl y).ahead (q89 _ q)
 obtain⟨u1,u2,u3⟩:=o5p.mp h.uqh
 obtain⟨u4,u5,u6⟩:=o5p.mp u2
 have hEc:=q52 hE ht hf
 have hE' :EngR (u1h e.1 t,u60 e t.1):=r76 hE (s3s hE (.inl ht) hf) (u8o e t.1) (by show e.1.2.2.2.1≤e.1.2.2.2.1+1;omega) hgn.1 fun x hx y hy=>by
  rcases r3u hx with q | ⟨z,hz,q⟩
  ·rw[q];exact(q1x hy).symm
  ·rw[←q];exact hE.apart z hz y ((u8o e t.1).subset hy)
 refine⟨hE',?_,?_,?_,?_,?_,?_,?_,?_,?_,?_,?_,?_,?_,?_,?_,?_,?_⟩
 ·-- st
  intro x hx
  rcases snoc hx with hx | rfl
  ·exact h.st x hx
  ·rfl
 ·-- snap
  intro x hx
  show x.2.2.1<x.2.2.2.1∧x.2.2.2.1≤e.1.2.2.2.1+1
  rcases snoc hx with hx | rfl
  ·have:=h.snap x hx;omega
  ·show t.2.2.1<e.1.2.2.2.1+1∧e.1.2.2.2.1+1≤e.1.2.2.2.1+1
   omega
 ·-- asc
  rw[List.pairwise_append]
  refine⟨h.asc,List.pairwise_singleton _ _,fun x hx y hy=> ?_⟩
  rw[List.mem_singleton] at hy;subst hy
  have:=(h.snap x hx).2
  show x.2.2.2.1<e.1.2.2.2.1+1
  omega
 ·-- uq
  have hu:=hE'.uq
  rw[List.append_assoc] at hu
  obtain⟨k1,k2,k3⟩:=o5p.mp hu
  refine o5p.mpr ⟨o5p.mpr ⟨u1,p6s,fun x hx y hy=> ?_⟩,k2,fun x hx y hy=> ?_⟩
  ·rw[List.mem_singleton] at hy;subst hy
   exact u3 x hx t (List.mem_append_right _ ht)
  ·rcases snoc hx with hx | rfl
   ·rcases List.mem_append.mp hy with hy | hy
    ·obtain⟨q,hq,rfl⟩:=ready' y hy
     exact u3 x hx q (List.mem_append_left _ hq)
    ·exact u3 x hx y (List.mem_append_right _ ((u8o e t.1).subset hy))
   ·exact k3 (u8f e.1 t) (by show _∈e.1.2.1++ [u8f e.1 t];simp) y hy
 ·-- below
  intro x hx
  show x.1<u1m e.1.2.2.2.2 t.1
  rcases snoc hx with hx | rfl
  ·have:=h.bel x hx;omega
  ·exact hgn.2
 ·-- pin
  intro x hx
  rcases List.mem_append.mp hx with hx | hx
  ·obtain⟨y,hy,q⟩:=h.pin x hx
   exact⟨y,List.mem_append_left _ hy,q⟩
  ·rw[List.mem_singleton] at hx;subst hx
   exact⟨_,List.mem_append_right _ (List.mem_singleton.mpr rfl),hsame.symm⟩
 ·-- cov
  intro y hy o ho hlt
  rcases snoc hy with hy | rfl
  ·obtain⟨x,hx,q⟩:=h.cov y hy o ((u8o e t.1).subset ho) hlt
   exact⟨x,List.mem_append_left _ hx,q⟩
  ·exact⟨u8f e.1 t,List.mem_append_right _ (List.mem_singleton.mpr rfl),hsame.symm⟩
 ·-- outp
  intro x hx y hy ha hlt
  rcases List.mem_append.mp hx with hx | hx
  ·rcases snoc hy with hy | rfl
   ·exact h.outp x hx y hy ha hlt
   ·obtain⟨z,hz,q⟩:=h.pin x hx
    have:=(h.snap z hz).2
    have:=q.cs
    have hlt:e.1.2.2.2.1+1<x.2.2.2.1:=hlt
    omega
  ·rw[List.mem_singleton] at hx;subst hx
   rcases snoc hy with hy | rfl
   ·have q:ahead t y=true:=by
     rw[hsame.symm.ahead (SameC.refl y),aL y (hHs y hy)] at ha;exact ha
    obtain⟨z,hz,hs,hz2⟩:=outP y hy q
    show(t.2.2.2.2.2.2.1 || s7k t e.1.2.1)=true
    have:s7k t e.1.2.1=true:=List.any_eq_true.mpr ⟨z,hz,by rw[(hE.base.past z hz).2.1,hz2];rfl⟩
    rw[this,Bool.or_true]
   ·rw[hsame.symm.ahead (SameC.refl _),self] at ha;cases ha
 ·-- outr
  intro p hp' y hy ha
  obtain⟨q,hq,rfl⟩:=ready' p hp'
  rw[fl] at ha
  show(q.2.2.2.2.2.2.1 || ahead q (u8f e.1 t))=true
  rcases snoc hy with hy | rfl
  ·rw[h.outr q hq y hy ha];rfl
  ·rw[(SameC.refl q).ahead hsame] at ha
   rw[ha,Bool.or_true]
 ·-- no3
  intro x hx y hy z hz q1 q2 l1 l2
  rcases snoc hz with hz | rfl
  ·rcases snoc hy with hy | rfl
   ·rcases snoc hx with hx | rfl
    ·exact h.no3 x hx y hy z hz q1 q2 l1 l2
    ·-- it reads ahead of y,which is Out
     rw[aL y (hHs y hy)] at q1
     obtain⟨w,hw,hs,hw2⟩:=outP y hy q1
     refine hp.d2 w (List.mem_append_left _ hw) (h.outp w hw z hz ?_ (by rw[hs.cs];exact l1)) hw2
     rw[hs.ahead (SameC.refl z)];exact q2
   ·rw[aL z (hHs z hz)] at q2
    obtain⟨w,hw,_,hw2⟩:=outP z hz q2
    rcases snoc hx with hx | rfl
    ·rw[aR x (hHs x hx)] at q1
     obtain⟨v,hv,hv2⟩:=inP x hx q1
     exact hp.d1 v (List.mem_append_left _ hv) w hw hv2 hw2
    ·rw[self] at q1;cases q1
  ·rcases snoc hy with hy | rfl
   ·have:=(h.snap y hy).2
    rw[csN] at l1
    omega
   ·rw[self] at q2;cases q2
 ·-- noA
  intro x hx p hp' z hz q1 q2 l
  obtain⟨q,hq,rfl⟩:=ready' p hp'
  rw[fr] at q1;rw[fl] at q2
  rcases snoc hz with hz | rfl
  ·rcases snoc hx with hx | rfl
   ·exact h.noA x hx q hq z hz q1 q2 l
   ·rw[aL q (hRs q hq)] at q1
    exact hp.d2 q (List.mem_append_right _ hq) (h.outr q hq z hz q2) q1
  ·rcases snoc hx with hx | rfl
   ·have:=(h.snap x hx).2
    rw[csN] at l
    omega
   ·rw[aL q (hRs q hq)] at q1
    rw[aR q (hRs q hq)] at q2
    exact hp.d3 q hq q2 q1
 ·-- noB
  intro p hp' y hy z hz q1 q2 l
  obtain⟨q,hq,rfl⟩:=ready' p hp'
  rw[fl] at q1
  rcases snoc hz with hz | rfl
  ·rcases snoc hy with hy | rfl
   ·exact h.noB q hq y hy z hz q1 q2 l
   ·rw[aR q (hRs q hq)] at q1
    rw[aL z (hHs z hz)] at q2
    obtain⟨w,hw,_,hw2⟩:=outP z hz q2
    exact hp.d1 q (List.mem_append_right _ hq) w hw q1 hw2
  ·rcases snoc hy with hy | rfl
   ·have:=(h.snap y hy).2
    rw[csN] at l
    omega
   ·rw[self] at q2;cases q2
 ·-- noD
  intro p hp' p2 hp2 z hz q1 q2
  obtain⟨q,hq,rfl⟩:=ready' p hp'
  obtain⟨r,hr,rfl⟩:=ready' p2 hp2
  rw[fl,fr] at q1;rw[fl] at q2
  rcases snoc hz with hz | rfl
  ·exact h.noD q hq r hr z hz q1 q2
  ·rw[aR r (hRs r hr)] at q2
   exact hp.d4 r hr q hq q2 q1 (hE.apart q (List.mem_append_right _ hq) t ht)
 ·-- noE
  intro p hp' p2 hp2 p3 hp3 q1 q2
  obtain⟨q,hq,rfl⟩:=ready' p hp'
  obtain⟨r,hr,rfl⟩:=ready' p2 hp2
  obtain⟨s,hs,rfl⟩:=ready' p3 hp3
  rw[fl,fr] at q1;rw[fl,fr] at q2
  exact h.noE q hq r hr s hs q1 q2
 ·-- ww
  intro x hx y hy l m
  rcases snoc hy with hy | rfl
  ·rcases snoc hx with hx | rfl
   ·exact h.ww x hx y hy l m
   ·have:=(h.snap y hy).2
    rw[csN] at l
    omega
  ·rcases snoc hx with hx | rfl
   ·show x.2.2.2.1≤t.2.2.1
    apply Int.not_lt.mp
    intro hlt
    obtain⟨w,hw,hs⟩:=h.cov x hx t ht hlt
    refine hp.nb w (List.mem_append_left _ hw) (hE.apart w (List.mem_append_left _ hw) t ht) (.inr ⟨(hE.base.past w hw).2.1,by rw[hs.cs];exact hlt⟩) ?_
    rw[hs.ws];exact m
   ·rw[csN] at l;omega
 ·-- wr
  intro p hp' y hy m
  obtain⟨q,hq,rfl⟩:=ready' p hp'
  show y.2.2.2.1≤q.2.2.1
  rcases snoc hy with hy | rfl
  ·exact h.wr q hq y hy m
  ·exfalso
   refine hp.nb q (List.mem_append_right _ hq) (hE.apart q (List.mem_append_right _ hq) t ht) (.inl (hE.base.ready q hq).2.1) ?_
   rw[q4v];exact m
 ·-- rr
  intro p hp' p2 hp2 hne m
  obtain⟨q,hq,rfl⟩:=ready' p hp'
  obtain⟨r,hr,rfl⟩:=ready' p2 hp2
  exact h.rr q hq r hr hne m
end
section
abbrev u1w:=u1q×u0j
def q2c:s4d:=(0,u6z,emp,false,u3y)
def u16 (o:List u0e) (id:Int):Int:=if u0n (fun x:u0e=>decide (x.1=id)) o<o.length then((u0n (fun x:u0e=>decide (x.1=id)) o:Nat):Int) else -1
def u2e (e:u1q) (id:Int):u0e:=rdL u0t e.2 (u16 e.2 id).toNat
def u53 (e:u1q):List u0e:=e.1.2.1++e.1.2.2.1
def t6h (e:u1q) (id:Int):Int:=
 if u16 e.2 id<0 then 1 else if t9g (u2e e id) (u53 e)=true then 4 else if s2v (u2e e id) (u53 e)=true then 5 else if s8w e.1=true then 3 else 0
def u21 (e:u1q) (id:Int):u1q×s4d×Int:=
 if t6h e id=1 then(e,q2c,1) else if t6h e id=0 then(u54 e (u2e e id),(1,u8f e.1 (u2e e id),emp,false,u3y),0) else(t4v e id,q2c,t6h e id)
def s98 (e:u1q) (id:Int):Int:=
 if t6h e id≠0 then t6h e id else if t94 (u2e e id) (u53 e)=true then 5 else if 3≤e.1.2.2.1.length then 3 else 0
def t8b (e:u1q) (id:Int) (n:ByteArray):u1q×s4d×Int:=
 if u16 e.2 id<0 then(e,q2c,1) else if u55 n=false then(e,q2c,2) else if 0≤u1k e.1 n then(e,q2c,6)
 else if s98 e id=0 then(p59 e (u2e e id) n,(2,u4q e.1 (u2e e id) n,emp,false,u3y),0) else(t4v e id,q2c,s98 e id)
def r6t (e:u1q) (n:ByteArray) (yes:Bool):u1q×s4d×Int:=
 if u1k e.1 n<0 then(e,q2c,1) else if yes=true∧s8w e.1=true then(e,q2c,3)
 else if yes=true then(o31 e (rdL u0t e.1.2.2.1 (u1k e.1 n).toNat),(3,u6z,n,true,u3y),0) else(noE e n,(3,u6z,n,false,u3y),0)
def s3m (e:u1q) (id:Int):u1q×Int:=if u16 e.2 id<0 then(e,1) else(t4v e id,0)
def t25 (e:u1q):u1q×Int×Int:=if e.2.length<4∧e.1.2.2.2.2<9999 then(r95 e,e.1.2.2.2.2,0) else(e,0,3)
def o24 (l:List s2e) (r:s2e):Bool:=l.any fun x=>z7o x.1 r.1&&z7o x.2 r.2
def o5j (t:u0e) (r:s2e):u0e:=(t.1,t.2.1,t.2.2.1,t.2.2.2.1,t.2.2.2.2.1++ [r],t.2.2.2.2.2)
def s0n (t:u0e) (r:s2e):u0e×Bool:=if o24 t.2.2.2.2.1 r=true then(t,true) else if t.2.2.2.2.1.length<8 then(o5j t r,true) else(t,false)
def p4w (t:u0e) (l:List WrT):u0e:=(t.1,t.2.1,t.2.2.1,t.2.2.2.1,t.2.2.2.2.1,l,t.2.2.2.2.2.2)
def t6c (t:u0e) (w:WrT):u0e×Bool:=if(r3o t.2.2.2.2.2.1 w).length≤8 then(p4w t (r3o t.2.2.2.2.2.1 w),true) else(t,false)
def s0m (e:u1q) (id:Int) (r:s2e) (right:Bool):u1q×Int:=
 if u16 e.2 id<0 then(e,1) else if right=false then(e,2) else if(s0n (u2e e id) r).2=true then(q10 e (u16 e.2 id).toNat (s0n (u2e e id) r).1,0) else(e,3)
def q68 (e:u1q) (id:Int) (w:WrT):u1q×Int:=
 if u16 e.2 id<0 then(e,1) else if u10 w=false then(e,2) else if(t6c (u2e e id) w).2=true then(q10 e (u16 e.2 id).toNat (t6c (u2e e id) w).1,0) else(e,3)
theorem o0r {o:List u0e} {id:Int} :u16 o id<0↔ ∀x∈o,x.1≠id:=by
 unfold u16
 constructor
 ·intro h x hx e
  obtain⟨i,hi,rfl⟩:=List.getElem_of_mem hx
  split at h
  ·omega
  ·rename_i q
   have:=u7k (p:=fun x:u0e=>decide (x.1=id)) hi (by have:=t2e (fun x:u0e=>decide (x.1=id)) o;omega)
   simp[e] at this
 ·intro h
  split
  ·rename_i q
   have:=u6r q
   simp only[decide_eq_true_eq] at this
   exact absurd this (h _ (List.getElem_mem q))
  ·omega
theorem u1i {e:u1q} {id:Int} (h: ¬u16 e.2 id<0):∃(k:Nat) (hk:k<e.2.length),u16 e.2 id=(k:Int)∧u2e e id=e.2[k] ∧e.2[k].1=id:=by
 unfold u2e
 unfold u16 at h ⊢
 split at h
 ·rename_i q
  rw[if_pos q]
  refine⟨_,q,rfl,?_,?_⟩
  ·rw[zTn];exact y8k (t:=u0t) q
  ·simpa using u6r q
 ·omega
theorem s8y {e:u1q} {id:Int} (h:t6h e id=0): ¬u16 e.2 id<0∧t9g (u2e e id) (u53 e)=false∧s2v (u2e e id) (u53 e)=false∧s8w e.1=false:=by
 unfold t6h at h
 split at h
 ·omega
 ·rename_i h1
  split at h
  ·omega
  ·rename_i h2
   split at h
   ·omega
   ·rename_i h3
    split at h
    ·omega
    ·rename_i h4
     exact⟨h1,by simpa using h2,by simpa using h3,by simpa using h4⟩
theorem o3v {e:u1q} {id:Int} :t6h e id=1↔u16 e.2 id<0:=by
 unfold t6h
 constructor
 ·intro h
  split at h
  ·assumption
  ·split at h
   ·omega
   ·split at h
    ·omega
    ·split at h<;>omega
 ·intro h;rw[if_pos h]
theorem p6h {e:u1q} {id:Int} (h:u16 e.2 id<0):u60 e id=e.2:=by
 unfold u60
 rw[List.filter_eq_self]
 intro x hx
 simp[o0r.mp h x hx]
theorem o04 {t:u0e} {r:s2e} (h:TxnR t) (hr:u2d r=true) (hl:t.2.2.2.2.1.length<8):TxnR (o5j t r):=
 ⟨h.id,h.st,h.snap,by show(t.2.2.2.2.1++ [r]).length≤8;simp only[List.length_append,List.length_singleton];omega,h.ws,fun x hx=>by
   rcases List.mem_append.mp hx with hx | hx
   ·exact h.rs x hx
   ·rw[List.mem_singleton] at hx;subst hx;exact hr,h.done,h.nocs,h.name,h.noname,h.out⟩
theorem p9z {t:u0e} {r:s2e} (h:TxnR t) (hr:u2d r=true):TxnR (s0n t r).1∧(s0n t r).1.1=t.1∧(s0n t r).1.2.1=t.2.1∧(s0n t r).1.2.2.1=t.2.2.1∧(s0n t r).1.2.2.2.2.2.1=t.2.2.2.2.2.1:=by
 unfold s0n
 split
 ·exact⟨h,rfl,rfl,rfl,rfl⟩
 ·split
  ·rename_i q;exact⟨o04 h hr q,rfl,rfl,rfl,rfl⟩
  ·exact⟨h,rfl,rfl,rfl,rfl⟩
theorem p6c {l:List WrT} {w:WrT} (h:u3x l=true) (hw:u10 w=true) (hl:(r3o l w).length≤8):u3x (r3o l w)=true:=by
 obtain⟨h1,h2,h3⟩:=p9a.mp h
 refine p9a.mpr ⟨fun x hx=> ?_,?_,hl⟩
 ·rcases q7a hx with hx | rfl
  ·exact h1 x hx
  ·exact hw
 ·unfold r3o
  rw[List.append_assoc,List.pairwise_append]
  refine⟨List.Pairwise.filter _ h2,?_,?_⟩
  ·rw[List.singleton_append,List.pairwise_cons]
   refine⟨fun y hy=> ?_,List.Pairwise.filter _ h2⟩
   have:=(List.mem_filter.mp hy).2
   rw[q9b] at this
   exact this
  ·intro x hx y hy
   have h4:=(List.mem_filter.mp hx).2
   rcases List.mem_append.mp hy with hy | hy
   ·rw[List.mem_singleton] at hy;subst hy;exact h4
   ·have h5:=(List.mem_filter.mp hy).2
    rw[q9b] at h5
    exact s9n h4 h5
theorem p89 {t:u0e} {l:List WrT} (h:TxnR t) (hl:u3x l=true):TxnR (p4w t l):=
 ⟨h.id,h.st,h.snap,h.rlen,hl,h.rs,h.done,h.nocs,h.name,h.noname,h.out⟩
theorem p8s {t:u0e} {w:WrT} (h:TxnR t) (hw:u10 w=true):TxnR (t6c t w).1∧(t6c t w).1.1=t.1∧(t6c t w).1.2.1=t.2.1∧(t6c t w).1.2.2.1=t.2.2.1∧(t6c t w).1.2.2.2.2.1=t.2.2.2.2.1:=by
 unfold t6c
 split
 ·rename_i q;exact⟨p89 h (p6c h.ws hw q),rfl,rfl,rfl,rfl⟩
 ·exact⟨h,rfl,rfl,rfl,rfl⟩
theorem o1e {e:u1q} (h:EngR e) {id:Int} {r:s2e} {right:Bool} (hr:right=true→u2d r=true):EngR (s0m e id r right).1:=by
 unfold s0m
 split
 ·exact h
 ·rename_i q
  split
  ·exact h
  ·rename_i hb
   split
   ·obtain⟨k,hk,e1,e2,e3⟩:=u1i q
    obtain⟨o1,o2,o3⟩:=h.open_ _ (List.getElem_mem hk)
    rw[e1,zTn,e2]
    obtain⟨r1,r2,r3,r4,r5⟩:=p9z o1 (hr (by simpa using hb))
    exact q95 h hk r1 r2 (r3.trans o2) r4
   ·exact h
theorem o1q {e:u1q} (h:EngR e) {id:Int} {w:WrT} :EngR (q68 e id w).1:=by
 unfold q68
 split
 ·exact h
 ·rename_i q
  split
  ·exact h
  ·rename_i hb
   split
   ·obtain⟨k,hk,e1,e2,e3⟩:=u1i q
    obtain⟨o1,o2,o3⟩:=h.open_ _ (List.getElem_mem hk)
    rw[e1,zTn,e2]
    obtain⟨r1,r2,r3,r4,r5⟩:=p8s (w:=w) o1 (by simpa using hb)
    exact q95 h hk r1 r2 (r3.trans o2) r4
   ·exact h
theorem q5y {e:u1q} (h:EngR e):EngR (t25 e).1:=by
 unfold t25
 split
 ·rename_i q;exact p9q h q.1 q.2
 ·exact h
structure Sync (s:u1w) (b:u0i):Prop where
 eng:EngR s.1
 log:u4d s.2=true
 play:t2u (u0k s.2)=some b
 right:BaseR b
 like:Like0 b s.1.1
theorem Like0.of {b e e' :u0i} (h:Like0 b e) (h1:e'.1=e.1) (h2:e'.2.2.1=e.2.2.1) (h3:e'.2.2.2.1=e.2.2.2.1):Like0 b e' :=
 ⟨by rw[h1,h3];exact h.vs,h.past,by rw[h2];exact h.ready,by rw[h3];exact h.cs⟩
theorem Sync.opens {s:u1w} {b:u0i} {e:u1q} (h:Sync s b) (he:EngR e) (h1:e.1.1=s.1.1.1) (h2:e.1.2.2.1=s.1.1.2.2.1) (h3:e.1.2.2.2.1=s.1.1.2.2.2.1):Sync (e,s.2) b:=
 ⟨he,h.log,h.play,h.right,h.like.of h1 h2 h3⟩
theorem Sync.leave {s:u1w} {b:u0i} (h:Sync s b) (id:Int):Sync (t4v s.1 id,s.2) b:=
 ⟨p9w h.eng id,h.log,h.play,h.right,h.like.tidy h.eng.base _⟩
theorem Sync.own {s:u1w} {b:u0i} (h:Sync s b):u4r b [] =b:=h.like.self h.eng.base
def t57 (s:u1w) (id:Int):u1w×Int:=
 if(u21 s.1 id).2.2=0 then(match t4n s.2 (u21 s.1 id).2.1 with
  | some d=>(((u21 s.1 id).1,d),0)
  | none=>((t4v s.1 id,s.2),3))
 else(((u21 s.1 id).1,s.2),(u21 s.1 id).2.2)
def s9q (s:u1w) (id:Int) (n:ByteArray):u1w×Int:=
 if(t8b s.1 id n).2.2=0 then(match t4n s.2 (t8b s.1 id n).2.1 with
  | some d=>(((t8b s.1 id n).1,d),0)
  | none=>((t4v s.1 id,s.2),3))
 else(((t8b s.1 id n).1,s.2),(t8b s.1 id n).2.2)
def q11 (s:u1w) (n:ByteArray) (yes:Bool):u1w×Int:=
 if(r6t s.1 n yes).2.2=0 then(match t4n s.2 (r6t s.1 n yes).2.1 with
  | some d=>(((r6t s.1 n yes).1,d),0)
  | none=>(s,3))
 else(s,(r6t s.1 n yes).2.2)
def p7j (s:u1w):u1w×Bool:=match p4u s.2 with
 | some d=>((s.1,d),true)
 | none=>(s,false)
theorem Sync.commit {s:u1w} {b:u0i} (h:Sync s b) (id:Int):∃b',Sync (t57 s id).1 b' ∧(b' =b∨((t57 s id).2=0∧t6h s.1 id=0∧u75 b (1,u8f s.1.1 (u2e s.1 id),emp,false,u3y)=some b')):=by
 have hE:=h.eng
 unfold t57
 by_cases c0:(u21 s.1 id).2.2=0
 ·rw[if_pos c0]
  have j0:t6h s.1 id=0:=by
   unfold u21 at c0
   split at c0
   ·cases c0
   ·split at c0
    ·assumption
    ·exact c0
  have ec:u21 s.1 id=(u54 s.1 (u2e s.1 id),(1,u8f s.1.1 (u2e s.1 id),emp,false,u3y),0):=by
   unfold u21;rw[if_neg (by omega),if_pos j0]
  obtain⟨h1,h2,h3,h4⟩:=s8y j0
  obtain⟨k,hk,e1,e2,e3⟩:=u1i h1
  have ht:u2e s.1 id∈s.1.2:=by rw[e2];exact List.getElem_mem hk
  obtain⟨f1,f2,f3⟩:=r9f h4
  obtain⟨tR,t1,ts⟩:=hE.open_ _ ht
  have h9:(u2e s.1 id).1<9999:=by have:=hE.bel _ (List.mem_append_right _ ht);have:=hE.base.next.2;omega
  obtain⟨x,p1,p2,p3⟩:=q32 (t:=u2e s.1 id) h.like hE.base h.right f3 f2 tR h9 ts
  rw[ec]
  simp only
  cases hk2:t4n s.2 (1,u8f s.1.1 (u2e s.1 id),emp,false,u3y) with
  | none=>exact⟨b,h.leave id, .inl rfl⟩
  | some d=>
   obtain⟨l1,l2⟩:=r9h h.play h.right h.own (.thr _ (p1a tR ts f3) rfl) p1 hk2
   have hR:=q52 hE ht h4
   exact⟨x,⟨hR,l1,l2,p2,p3.tidy (s3s hE (.inl ht) h4) _⟩, .inr ⟨rfl,j0,p1⟩⟩
 ·rw[if_neg c0]
  refine⟨b,?_, .inl rfl⟩
  unfold u21
  split
  ·exact h
  ·split
   ·rename_i q1 q2
    exfalso;apply c0
    unfold u21;rw[if_neg q1,if_pos q2]
   ·exact h.leave id
theorem o1o {e:u1q} {id:Int} (h:s98 e id=0):t6h e id=0∧t94 (u2e e id) (u53 e)=false∧e.1.2.2.1.length<3:=by
 unfold s98 at h
 split at h
 ·rename_i q;exact absurd h q
 ·rename_i q
  split at h
  ·omega
  ·rename_i q2
   split at h
   ·omega
   ·exact⟨by omega,by simpa using q2,by omega⟩
theorem p6a {e:u1q} {id:Int} {n:ByteArray} (h:(t8b e id n).2.2=0): ¬u16 e.2 id<0∧u55 n=true∧u1k e.1 n<0∧s98 e id=0∧t8b e id n=(p59 e (u2e e id) n,(2,u4q e.1 (u2e e id) n,emp,false,u3y),0):=by
 unfold t8b at h ⊢
 split at h
 ·cases h
 ·rename_i q1
  split at h
  ·cases h
  ·rename_i q2
   split at h
   ·cases h
   ·rename_i q3
    split at h
    ·rename_i q4
     exact⟨q1,by simpa using q2,by omega,q4,by rw[if_neg q1,if_neg q2,if_neg q3,if_pos q4]⟩
    ·rename_i q4
     exact absurd h q4
theorem Sync.prep {s:u1w} {b:u0i} (h:Sync s b) (id:Int) (n:ByteArray):∃b',Sync (s9q s id n).1 b' ∧(b' =b∨((s9q s id n).2=0∧(t8b s.1 id n).2.2=0∧u75 b (2,u4q s.1.1 (u2e s.1 id) n,emp,false,u3y)=some b')):=by
 have hE:=h.eng
 unfold s9q
 by_cases c0:(t8b s.1 id n).2.2=0
 ·rw[if_pos c0]
  obtain⟨h1,hn,hr,hc,ec⟩:=p6a c0
  obtain⟨j0,rd,rl⟩:=o1o hc
  obtain⟨k,hk,e1,e2,e3⟩:=u1i h1
  have ht:u2e s.1 id∈s.1.2:=by rw[e2];exact List.getElem_mem hk
  obtain⟨tR,t1,ts⟩:=hE.open_ _ ht
  have h9:(u2e s.1 id).1<9999:=by have:=hE.bel _ (List.mem_append_right _ ht);have:=hE.base.next.2;omega
  have hnn:=p90.mp hr
  obtain⟨x,p1,p2,p3⟩:=q9s (t:=u2e s.1 id) (n:=n) h.like hE.base h.right tR (by omega) hn ts rl hnn (fun x hx=>hE.apart x (List.mem_append_right _ hx) _ ht) h9
  rw[ec]
  simp only
  cases hk2:t4n s.2 (2,u4q s.1.1 (u2e s.1 id) n,emp,false,u3y) with
  | none=>exact⟨b,h.leave id, .inl rfl⟩
  | some d=>
   obtain⟨l1,l2⟩:=r9h h.play h.right h.own (.rdy _ (q7d tR (by omega) hn) rfl) p1 hk2
   have hB:BaseR (u1s s.1.1 (u2e s.1 id) n):=s4r hE.base tR (by omega) ts hn rl hnn (fun x hx=>hE.apart x hx _ ht) h9
   exact⟨x,⟨o1p hE ht hn rl hnn,l1,l2,p2,p3.tidy hB _⟩, .inr ⟨by trivial,by trivial,p1⟩⟩
 ·rw[if_neg c0]
  refine⟨b,?_, .inl rfl⟩
  unfold t8b
  split
  ·exact h
  ·split
   ·exact h
   ·split
    ·exact h
    ·split
     ·rename_i q1 q2 q3 q4
      exfalso;apply c0
      unfold t8b;rw[if_neg q1,if_neg q2,if_neg q3,if_pos q4]
     ·exact h.leave id
theorem Sync.fin {s:u1w} {b:u0i} (h:Sync s b) (n:ByteArray) (yes:Bool):∃b',Sync (q11 s n yes).1 b' ∧(b' =b∨((q11 s n yes).2=0∧(r6t s.1 n yes).2.2=0∧u75 b (3,u6z,n,yes,u3y)=some b')):=by
 have hE:=h.eng
 unfold q11
 by_cases c0:(r6t s.1 n yes).2.2=0
 ·rw[if_pos c0]
  unfold r6t at c0
  split at c0
  ·cases c0
  ·rename_i q1
   split at c0
   ·cases c0
   ·rename_i q2
    obtain⟨k,hk,r1,r2⟩:=t6o q1
    obtain⟨tR,t2,ts⟩:=hE.base.ready _ (List.getElem_mem hk)
    have hn:u55 n=true:=by rw[←r2];exact tR.name t2
    cases yes with
    | true=>
     have hf:s8w s.1.1=false:=by simpa using q2
     obtain⟨f1,f2,f3⟩:=r9f hf
     have ec:r6t s.1 n true=(o31 s.1 s.1.1.2.2.1[k],(3,u6z,n,true,u3y),0):=by
      unfold r6t;rw[if_neg q1,if_neg q2,if_pos rfl,r1,zTn,y8k (t:=u0t) hk]
     obtain⟨x,p1,p2,p3⟩:=p38 h.like hE.base h.right f3 f2 hn hk r1
     rw[ec]
     simp only
     cases hk2:t4n s.2 (3,u6z,n,true,u3y) with
     | none=>exact⟨b,h, .inl rfl⟩
     | some d=>
      obtain⟨l1,l2⟩:=r9h h.play h.right h.own (.fin n true hn) p1 hk2
      exact⟨x,⟨o32 hE (List.getElem_mem hk) hf,l1,l2,p2,p3.tidy (s3s hE (.inr (List.getElem_mem hk)) hf) _⟩, .inr ⟨by trivial,by trivial,p1⟩⟩
    | false=>
     have ec:r6t s.1 n false=(noE s.1 n,(3,u6z,n,false,u3y),0):=by
      unfold r6t;rw[if_neg q1,if_neg q2,if_neg (by decide)]
     obtain⟨x,p1,p2,p3⟩:=p58 h.like hE.base h.right hn hk r1
     rw[ec]
     simp only
     cases hk2:t4n s.2 (3,u6z,n,false,u3y) with
     | none=>exact⟨b,h, .inl rfl⟩
     | some d=>
      obtain⟨l1,l2⟩:=r9h h.play h.right h.own (.fin n false hn) p1 hk2
      exact⟨x,⟨o58 hE n,l1,l2,p2,p3.tidy (q1c hE.base n) _⟩, .inr ⟨by trivial,by trivial,p1⟩⟩
 ·rw[if_neg c0]
  exact⟨b,h, .inl rfl⟩
theorem Sync.fix {s:u1w} {b:u0i} (h:Sync s b):Sync (p7j s).1 b:=by
 unfold p7j
 cases ha:p4u s.2 with
 | none=>exact h
 | some d=>
  obtain⟨_,l1,l2⟩:=p2d h.play h.right h.own ha
  exact⟨h.eng,l1,l2,h.right,h.like⟩
end
section
theorem r59 (x:u0e):ahead x x=false:=by
 cases q:ahead x x with
 | false=>rfl
 | true=>exact absurd rfl (t7w.mp q).1
structure PassedR (t:u0e) (P R:List u0e):Prop extends Passed t P R where
 e1:∀x∈P++R,∀y∈R,ahead x t=true→ahead t y=true→False
 e2:∀x∈R,∀y∈R,ahead t x=true→ahead x y=true→y.1≠t.1→False
theorem Ser.ready {H:List u0e} {e:u1q} (h:Ser H e) {t:u0e} {n:ByteArray} (ht:t∈e.2) (hk:u55 n=true) (hl:e.1.2.2.1.length<3) (hn:∀x∈e.1.2.2.1,x.2.2.2.2.2.2.2≠n) (hp:PassedR t e.1.2.1 e.1.2.2.1):
 Ser H (u1s e.1 t n,u60 e t.1):=by
 have hE:=h.eng
 obtain⟨tR,t1,ts⟩:=hE.open_ t ht
 have t3:t.2.1≠3:=by omega
 have hgn:=t08 e.1.2.2.2.2 t.1
 have hHs:∀y∈H,y.2.2.1≤e.1.2.2.2.1:=fun y hy=>by have:=h.snap y hy;omega
 have hRs:∀y∈e.1.2.2.1,y.2.2.1≤e.1.2.2.2.1:=fun y hy=>(hE.base.ready y hy).2.2
 have aL:∀y:u0e,ahead (u4q e.1 t n) y=ahead t y:=fun y=>by
  apply Bool.eq_iff_iff.mpr
  rw[t7w,t7w]
  refine and_congr_right fun _=>and_congr ⟨fun _ q=>t3 q.1,fun _ q=> ?_⟩ Iff.rfl
  have q:(2:Int)=3:=q.1
  omega
 have aR:∀y:u0e,ahead y (u4q e.1 t n)=ahead y t:=fun y=>by
  apply Bool.eq_iff_iff.mpr
  rw[t7w,t7w]
  refine and_congr_right fun _=>and_congr Iff.rfl (and_congr ⟨fun _ q=>t3 q.1,fun _ q=> ?_⟩ Iff.rfl)
  have q:(2:Int)=3:=q.1
  omega
 have inP:∀y∈H,ahead y t=true→ ∃x∈e.1.2.1,ahead x t=true:=fun y hy q=>by
  obtain⟨x,hx,hs⟩:=h.inPast ht hy (.inr q)
  exact⟨x,hx,by rw[hs.ahead (SameC.refl t)];exact q⟩
 have outP:∀y∈H,ahead t y=true→ ∃x∈e.1.2.1,SameC x y∧ahead t x=true:=fun y hy q=>by
  obtain⟨x,hx,hs⟩:=h.inPast ht hy (.inl q)
  exact⟨x,hx,hs,by rw[(SameC.refl t).ahead hs];exact q⟩
 have ready' :∀ {p:u0e},p∈(u1s e.1 t n).2.2.1→p∈e.1.2.2.1∨p=u4q e.1 t n:=fun {x} hx=>by
  rcases List.mem_append.mp hx with hx | hx
  ·rcases List.mem_append.mp hx with hx | hx
   ·exact .inl (List.mem_filter.mp hx).1
   ·rw[List.mem_singleton] at hx;exact .inr hx
  ·exact .inl (List.mem_filter.mp hx).1
 obtain⟨u1,u2,u3⟩:=o5p.mp h.uqh
 have hB:BaseR (u1s e.1 t n):=s4r hE.base tR t3 ts hk hl hn (fun x hx=>hE.apart x hx t ht) (by have:=hE.bel t (List.mem_append_right _ ht);have:=hE.base.next.2;omega)
 have hE' :EngR (u1s e.1 t n,u60 e t.1):=r76 hE hB (u8o e t.1) (Int.le_refl _) hgn.1 fun x hx y hy=>by
  have hy' :=(u8o e t.1).subset hy
  rcases List.mem_append.mp hx with hx | hx
  ·exact hE.apart x (List.mem_append_left _ hx) y hy'
  ·rcases ready' hx with hx | rfl
   ·exact hE.apart x (List.mem_append_right _ hx) y hy'
   ·exact(q1x hy).symm
 have apart:∀q∈e.1.2.2.1,q.1≠t.1:=fun q hq=>hE.apart q (List.mem_append_right _ hq) t ht
 refine⟨hE',h.st,h.snap,h.asc,?_,?_,h.pin,?_,h.outp,?_,h.no3,?_,?_,?_,?_,h.ww,?_,?_⟩
 ·-- uq
  have hu:=hE'.uq
  rw[List.append_assoc] at hu
  obtain⟨k1,k2,k3⟩:=o5p.mp hu
  refine o5p.mpr ⟨u1,k2,fun x hx y hy=> ?_⟩
  rcases List.mem_append.mp hy with hy | hy
  ·rcases ready' hy with hy | rfl
   ·exact u3 x hx y (List.mem_append_left _ hy)
   ·exact u3 x hx t (List.mem_append_right _ ht)
  ·exact u3 x hx y (List.mem_append_right _ ((u8o e t.1).subset hy))
 ·intro x hx
  have:=h.bel x hx
  show x.1<u1m e.1.2.2.2.2 t.1
  omega
 ·exact fun y hy o ho=>h.cov y hy o ((u8o e t.1).subset ho)
 ·-- outr
  intro p hp' y hy ha
  rcases ready' hp' with hp' | rfl
  ·exact h.outr p hp' y hy ha
  ·rw[aL] at ha
   obtain⟨z,hz,_,hz2⟩:=outP y hy ha
   show(t.2.2.2.2.2.2.1 || s7k t e.1.2.1)=true
   have:s7k t e.1.2.1=true:=List.any_eq_true.mpr ⟨z,hz,by rw[(hE.base.past z hz).2.1,hz2];rfl⟩
   rw[this,Bool.or_true]
 ·-- noA
  intro x hx p hp' z hz q1 q2 l
  rcases ready' hp' with hp' | rfl
  ·exact h.noA x hx p hp' z hz q1 q2 l
  ·rw[aR] at q1;rw[aL] at q2
   obtain⟨v,hv,hv2⟩:=inP x hx q1
   obtain⟨w,hw,_,hw2⟩:=outP z hz q2
   exact hp.d1 v (List.mem_append_left _ hv) w hw hv2 hw2
 ·-- noB
  intro p hp' y hy z hz q1 q2 l
  rcases ready' hp' with hp' | rfl
  ·exact h.noB p hp' y hy z hz q1 q2 l
  ·rw[aL] at q1
   obtain⟨w,hw,hs,hw2⟩:=outP y hy q1
   refine hp.d2 w (List.mem_append_left _ hw) (h.outp w hw z hz ?_ (by rw[hs.cs];exact l)) hw2
   rw[hs.ahead (SameC.refl z)];exact q2
 ·-- noD
  intro p hp' q hq z hz q1 q2
  rcases ready' hp' with hp' | rfl
  ·rcases ready' hq with hq | rfl
   ·exact h.noD p hp' q hq z hz q1 q2
   ·rw[aR] at q1;rw[aL] at q2
    obtain⟨w,hw,_,hw2⟩:=outP z hz q2
    exact hp.d1 p (List.mem_append_right _ hp') w hw q1 hw2
  ·rcases ready' hq with hq | rfl
   ·rw[aL] at q1
    exact hp.d2 q (List.mem_append_right _ hq) (h.outr q hq z hz q2) q1
   ·rw[r59] at q1;cases q1
 ·-- noE
  intro p hp' q hq r hr q1 q2
  rcases ready' hq with hq | rfl
  ·rcases ready' hp' with hp' | rfl
   ·rcases ready' hr with hr | rfl
    ·exact h.noE p hp' q hq r hr q1 q2
    ·rw[aR] at q2
     exact hp.d4 q hq p hp' q2 q1 (apart p hp')
   ·rw[aL] at q1
    rcases ready' hr with hr | rfl
    ·exact hp.e2 q hq r hr q1 q2 (apart r hr)
    ·rw[aR] at q2
     exact hp.d3 q hq q2 q1
  ·rw[aR] at q1;rw[aL] at q2
   rcases ready' hp' with hp' | rfl
   ·rcases ready' hr with hr | rfl
    ·exact hp.e1 p (List.mem_append_right _ hp') r hr q1 q2
    ·rw[aR,r59] at q2;cases q2
   ·rw[aL,r59] at q1;cases q1
 ·-- wr
  intro p hp' y hy m
  rcases ready' hp' with hp' | rfl
  ·exact h.wr p hp' y hy m
  ·show y.2.2.2.1≤t.2.2.1
   apply Int.not_lt.mp
   intro hlt
   obtain⟨w,hw,hs⟩:=h.cov y hy t ht hlt
   refine hp.nb w (List.mem_append_left _ hw) (hE.apart w (List.mem_append_left _ hw) t ht) (.inr ⟨(hE.base.past w hw).2.1,by rw[hs.cs];exact hlt⟩) ?_
   rw[hs.ws];exact m
 ·-- rr
  intro p hp' q hq hne m
  rcases ready' hp' with hp' | rfl
  ·rcases ready' hq with hq | rfl
   ·exact h.rr p hp' q hq hne m
   ·exact hp.nb p (List.mem_append_right _ hp') (apart p hp') (.inl (hE.base.ready p hp').2.1) m
  ·rcases ready' hq with hq | rfl
   ·refine hp.nb q (List.mem_append_right _ hq) (apart q hq) (.inl (hE.base.ready q hq).2.1) ?_
    rw[q4v];exact m
   ·exact hne rfl
end
end
end Go.Proofs.YtbkicjpdlchbgaaGreat.Ab
