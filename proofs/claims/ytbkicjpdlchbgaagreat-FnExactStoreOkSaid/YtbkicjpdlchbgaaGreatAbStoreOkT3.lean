import Derived.Test.YtbkicjpdlchbgaaGreatAbStoreOkT2
import Derived.Test.YtbkicjpdlchbgaaGreatAbK2
import Derived.Test.YtbkicjpdlchbgaaGreatAbF4
import Derived.Test.YtbkicjpdlchbgaaGreatAbS2
namespace Go.Proofs.YtbkicjpdlchbgaaGreat.Ab
open Go
set_option linter.unusedVariables false
set_option linter.unusedSimpArgs false
set_option linter.unnecessarySimpa false
section
section
def u45 (m:Nat) (s:ByteArray) (c:Cur):u0i×Cur:=((q1r m s c).1,(q1r m s c).2.1,(q1r m s c).2.2 || !u49 (q1r m s c).1)
def u81 (m k:Nat) (s:ByteArray) (c:Cur):List u0i×Cur:=u2a (u45 m s) (min (u13 s c).1.toNat k) (u13 s c).2 []
structure Lim where
 t:Nat
 v:Nat
 p:Nat
 r:Nat
def s4l (m:Lim) (s:ByteArray) (c:Cur):u0j×Cur:=
 let a:=u13 s c
 let b:=u13 s a.2
 let n:=u13 s b.2
 let vs:=u2a (q9v s) (min n.1.toNat m.v) n.2 []
 let ps:=u81 m.t m.p s vs.2
 let rs:=u81 m.t m.r s ps.2
 ((vs.1,ps.1,rs.1,a.1,b.1),rs.2)
theorem p7a {m:Nat} {s:ByteArray} {c:Cur} (h:c.2=true):(u45 m s c).2.2=true:=by
 have:(q1r m s c).2.2=true:=by
  unfold q1r
  have h1:=u78 (s:=s) h
  have h2:=u78 (s:=s) h1
  have h3:=u78 (s:=s) h2
  have h4:=u78 (s:=s) h3
  have h5:=u78 (s:=s) h4
  simp only
  rw[t2f h5]
  have h6:=u78 (s:=s) h5
  simp only
  rw[t2f h6]
  exact s4m (r7d h6)
 unfold u45
 simp only[this,Bool.true_or]
theorem r2e {E:Type} {f:Cur→E×Cur} {n k:Nat} {c:Cur} (hk:k≤n):(u2a f n c []).2.2=true∨k≤(u2a f n c []).1.length:=by
 cases h:(u2a f n c []).2.2 with
 | true=>exact .inl rfl
 | false=>rw[p1v h];exact .inr (by simp;exact hk)
theorem q32 {m m' :Nat} (hm:9≤m) (hm' :9≤m') {s:ByteArray} {c:Cur} (h:(u45 m s c).2.2=false):u45 m' s c=u45 m s c:=by
 have hb:(q1r m s c).2.2=false∧u49 (q1r m s c).1=true:=by
  unfold u45 at h
  simp only[Bool.or_eq_false_iff,Bool.not_eq_false'] at h
  exact h
 have hR:=r7l.mp hb.2
 have hw:=(p96.mp hR.ws).2.2
 suffices e:q1r m' s c=q1r m s c by unfold u45;rw[e]
 have b1:=hb.1
 have hr:=hR.rlen
 unfold q1r at b1 hr hw ⊢
 simp only at b1 hr hw ⊢
 generalize hn:u13 s (u13 s (u13 s (u13 s (u13 s c).2).2).2).2=n at b1 hr hw ⊢
 have k1:n.1.toNat≤8∨(u2a (q9t s) (min n.1.toNat m) n.2 []).2.2=true:=by
  rcases Nat.lt_or_ge 8 n.1.toNat with q | q
  ·rcases r2e (f:=q9t s) (n:=min n.1.toNat m) (k:=9) (c:=n.2) (by omega) with z | z
   ·exact .inr z
   ·omega
  ·exact .inl q
 have k1:n.1.toNat≤8:=k1.resolve_right fun k1=>by
  have h1:=u78 (s:=s) k1
  rw[t2f h1] at b1
  rw[s4m (r7d h1)] at b1
  cases b1
 have e1:min n.1.toNat m=min n.1.toNat m' :=by omega
 rw[e1] at b1 hw ⊢
 generalize hk:u13 s (u2a (q9t s) (min n.1.toNat m') n.2 []).2=k at b1 hw ⊢
 have k2:k.1.toNat≤8∨(u2a (rWr s) (min k.1.toNat m) k.2 []).2.2=true:=by
  rcases Nat.lt_or_ge 8 k.1.toNat with q | q
  ·rcases r2e (f:=rWr s) (n:=min k.1.toNat m) (k:=9) (c:=k.2) (by omega) with z | z
   ·exact .inr z
   ·omega
  ·exact .inl q
 have k2:k.1.toNat≤8:=k2.resolve_right fun k2=>by
  rw[s4m (r7d k2)] at b1
  cases b1
 have e2:min k.1.toNat m=min k.1.toNat m' :=by omega
 rw[e2]
theorem q37 {E:Type} {f g:Cur→E×Cur} (hf:∀c,(f c).2.2=false→g c=f c) (hfb:∀c,c.2=true→(f c).2.2=true):∀ {n:Nat} {c:Cur} {a:List E},(u2a f n c a).2.2=false→u2a g n c a=u2a f n c a
 | 0,c,a,_=>rfl
 | n+1,c,a,h=>by
  simp only[u2a] at h ⊢
  split at h
  ·rename_i q;rw[q] at h;cases h
  ·rename_i q
   rw[if_neg q,if_neg q]
   have:(f c).2.2=false:=by
    cases z:(f c).2.2 with
    | false=>rfl
    | true=>rw[t2f z] at h;rw[z] at h;cases h
   rw[hf c this]
   exact q37 hf hfb h
def t1w (m:Lim) (s:ByteArray) (c:Cur):u0j×Cur:=((s4l m s c).1,(s4l m s c).2.1,(s4l m s c).2.2 || !u5m (s4l m s c).1)
def Lim.ok (m:Lim):Prop:=9≤m.t∧121≤m.v∧13≤m.p∧4≤m.r
theorem r1b {m k:Nat} {s:ByteArray} {c:Cur} (h:c.2=true):(u81 m k s c).2.2=true:=by
 unfold u81;rw[t2f (u78 h)];exact u78 h
theorem p1w {m m' k k' N:Nat} (hm:9≤m) (hm' :9≤m') (hk:N<k) (hk' :N<k') {s:ByteArray} {c:Cur} (h:(u81 m k s c).2.2=false) (hl:(u81 m k s c).1.length≤N):u81 m' k' s c=u81 m k s c:=by
 unfold u81 at h hl ⊢
 have q:(u13 s c).1.toNat≤N:=by
  rcases Nat.lt_or_ge N (u13 s c).1.toNat with q | q
  ·rcases r2e (f:=u45 m s) (n:=min (u13 s c).1.toNat k) (k:=N+1) (c:=(u13 s c).2) (by omega) with z | z
   ·rw[z] at h;cases h
   ·omega
  ·exact q
 have e:min (u13 s c).1.toNat k=min (u13 s c).1.toNat k' :=by omega
 rw[e] at h ⊢
 exact q37 (fun c hc=>q32 hm hm' hc) (fun c hc=>p7a hc) h
theorem q7e {m m' :Lim} (hm:m.ok) (hm' :m'.ok) {s:ByteArray} {c:Cur} (h:(t1w m s c).2.2=false):t1w m' s c=t1w m s c:=by
 obtain⟨a1,a2,a3,a4⟩:=hm
 obtain⟨b1,b2,b3,b4⟩:=hm'
 have hb:(s4l m s c).2.2=false∧u5m (s4l m s c).1=true:=by
  unfold t1w at h
  simp only[Bool.or_eq_false_iff,Bool.not_eq_false'] at h
  exact h
 have hR:=q62.mp hb.2
 have v1:=(p76.mp hR.vs).2.2
 have v2:=hR.plen
 have v3:=hR.rlen
 have h0:=hb.1
 suffices e:s4l m' s c=s4l m s c by unfold t1w;rw[e]
 unfold s4l at h0 v1 v2 v3 ⊢
 simp only at h0 v1 v2 v3 ⊢
 generalize hn:u13 s (u13 s (u13 s c).2).2=n at h0 v1 v2 v3 ⊢
 have k1:n.1.toNat≤120:=by
  rcases Nat.lt_or_ge 120 n.1.toNat with q | q
  ·rcases r2e (f:=q9v s) (n:=min n.1.toNat m.v) (k:=121) (c:=n.2) (by omega) with z | z
   ·exfalso
    rw[r1b (r1b z)] at h0
    cases h0
   ·omega
  ·exact q
 have e1:min n.1.toNat m.v=min n.1.toNat m'.v:=by omega
 rw[e1] at h0 v2 v3 ⊢
 generalize hv:u2a (q9v s) (min n.1.toNat m'.v) n.2 [] =vs at h0 v2 v3 ⊢
 have hp:(u81 m.t m.p s vs.2).2.2=false:=by
  cases z:(u81 m.t m.p s vs.2).2.2 with
  | false=>rfl
  | true=>rw[r1b z] at h0;cases h0
 rw[p1w (N:=12) a1 b1 (by omega) (by omega) hp v2]
 rw[p1w (N:=3) a1 b1 (by omega) (by omega) h0 v3]
theorem r06 {s:ByteArray} {a:Nat} {t:u0i} {m:Nat} (hm:8≤m) (ht:TxnR t) (h:t16 s a (u7a t)):u45 m s ((a:Int),false)=(t,((a+(u7a t).size:Nat):Int),false):=by
 unfold u45
 rw[p3g hm ht h]
 simp only[r7l.mpr ht,Bool.not_true,Bool.or_false]
theorem q0f {s:ByteArray} {a:Nat} {l:List u0i} {m k:Nat} (hm:8≤m) (hk:l.length≤k) (hl:l.length≤1000000000) (ht:∀t∈l,TxnR t) (h:t16 s a (s4q l)):u81 m k s ((a:Int),false)=(l,((a+(s4q l).size:Nat):Int),false):=by
 unfold s4q at h ⊢
 obtain⟨k1,k2⟩:=o1u.mp h
 unfold u81
 rw[u5j (by omega) (by omega) k1]
 simp only
 rw[show min ((l.length:Int)).toNat k=l.length by omega,t7m (g:=u7a) (fun t h a hs=>r06 hm (ht t h) hs) k2]
 rw[ByteArray.size_append,List.nil_append,Nat.add_assoc]
theorem s0h {v:u14} (h:r5a v=true):v.1.size≤3∧v.2.1.size≤12∧1≤v.2.2.2∧v.2.2.2≤9999:=by
 unfold r5a at h
 simp only[Bool.and_eq_true,decide_eq_true_eq,r8p] at h
 exact⟨(u5u h.1).2,h.2.1,h.2.2.2⟩
theorem p1u {s:ByteArray} {a:Nat} {b:u0j} {m:Lim} (hm:m.ok) (hb:BaseR b) (h:t16 s a (t7e b)):s4l m s ((a:Int),false)=(b,((a+(t7e b).size:Nat):Int),false):=by
 obtain⟨a1,a2,a3,a4⟩:=hm
 obtain⟨v1,v2,v3⟩:=p76.mp hb.vs
 have hc:=hb.cs;have hx:=hb.next;have hp:=hb.plen;have hr:=hb.rlen
 unfold t7e at h ⊢
 obtain⟨k1,h⟩:=o1u.mp h
 obtain⟨k2,h⟩:=o1u.mp h
 obtain⟨k3,h⟩:=o1u.mp h
 obtain⟨k4,h⟩:=o1u.mp h
 obtain⟨k5,k6⟩:=o1u.mp h
 unfold s4l
 rw[u5j (by omega) (by omega) k1]
 simp only
 rw[u5j (by omega) (by omega) k2]
 simp only
 rw[u5j (by omega) (by omega) k3]
 simp only
 rw[show min ((b.1.length:Int)).toNat m.v=b.1.length by omega,t7m (g:=p2a) (fun v hv a hs=>by
  have:=s0h (v1 v hv)
  exact p3h (by omega) (by omega) (by omega) hs) k4]
 simp only
 rw[q0f (by omega) (by omega) (by omega) (fun t ht=>(hb.past t ht).1) k5]
 simp only
 rw[q0f (by omega) (by omega) (by omega) (fun t ht=>(hb.ready t ht).1) k6]
 simp only[List.nil_append,ByteArray.size_append,Nat.add_assoc]
theorem p19 {n:Nat} (h:n<16384):(s0f n).length≤2:=by
 by_cases q:n<128
 ·rw[r1o q];simp
 ·rw[r8y q,r1o (by omega)];simp
theorem u1p {n:Int} (h:n<16384):(r1p n).size≤2:=by rw[s0g];exact p19 (by omega)
theorem u0r {s:ByteArray} (h:s.size<16384):(u09 s).size≤s.size+2:=by
 unfold u09
 rw[ByteArray.size_append,u4j]
 have:=p19 h
 omega
theorem t42 {E:Type} {f:E→ByteArray} {k:Nat} :∀ {l:List E},(∀x∈l,(f x).size≤k)→(s8q f l).size≤l.length*k
 | [],_=>by rw[q8j];simp[emp,ByteArray.size]
 | x::l,h=>by
  rw[t84,ByteArray.size_append,List.length_cons,Nat.succ_mul]
  have h1:=h x (by simp)
  have h2:=t42 (l:=l) (fun y hy=>h y (by simp[hy]))
  omega
theorem t5o {t:u0i} (h:TxnR t):(u7a t).size≤300:=by
 obtain⟨z1,z2,z3,z4,z5⟩:=h.small
 have hi:=h.id;have hst:=h.st;have hsn:=h.snap;have hrl:=h.rlen
 have r1:(s8q p2e t.2.2.2.2.1).size≤t.2.2.2.2.1.length*10:=t42 fun r hr=>by
  have:=z1 r hr
  have q1:=u0r (s:=r.1) (by omega)
  have q2:=u0r (s:=r.2) (by omega)
  unfold p2e;rw[ByteArray.size_append];omega
 have r2:(s8q wrT t.2.2.2.2.2.1).size≤t.2.2.2.2.2.1.length*20:=t42 fun w hw=>by
  have:=z2 w hw
  have q1:=u0r (s:=w.1) (by omega)
  have q2:=u0r (s:=w.2.1) (by omega)
  unfold wrT;rw[ByteArray.size_append,ByteArray.size_append,u2o];omega
 have v1:=u1p (n:=t.1) (by omega)
 have v2:=u1p (n:=t.2.1) (by omega)
 have v3:=u1p (n:=t.2.2.1) (by omega)
 have v4:=u1p (n:=t.2.2.2.1) (by omega)
 have v5:=u1p (n:=(t.2.2.2.2.1.length:Int)) (by omega)
 have v6:=u1p (n:=(t.2.2.2.2.2.1.length:Int)) (by omega)
 have v7:=u0r (s:=t.2.2.2.2.2.2.2) (by omega)
 unfold u7a
 simp only[ByteArray.size_append,u2o]
 omega
theorem t8u {l:List u0i} (hl:l.length<16384) (h:∀t∈l,TxnR t):(s4q l).size≤2+l.length*300:=by
 unfold s4q
 rw[ByteArray.size_append]
 have v1:=u1p (n:=(l.length:Int)) (by omega)
 have v2:=t42 (f:=u7a) (k:=300) (l:=l) (fun t ht=>t5o (h t ht))
 omega
theorem r7q {v:u14} (h:r5a v=true):(p2a v).size≤22:=by
 have:=s0h h
 have q1:=u0r (s:=v.1) (by omega)
 have q2:=u0r (s:=v.2.1) (by omega)
 have q3:=u1p (n:=v.2.2.2) (by omega)
 unfold p2a
 simp only[ByteArray.size_append,u2o]
 omega
theorem r72 {b:u0j} (hb:BaseR b):(t7e b).size≤10+b.1.length*22+b.2.1.length*300+b.2.2.1.length*300:=by
 obtain⟨v1,v2,v3⟩:=p76.mp hb.vs
 have hc:=hb.cs;have hx:=hb.next;have hp:=hb.plen;have hr:=hb.rlen
 have q1:=u1p (n:=b.2.2.2.1) (by omega)
 have q2:=u1p (n:=b.2.2.2.2) (by omega)
 have q3:=u1p (n:=(b.1.length:Int)) (by omega)
 have q4:=t42 (f:=p2a) (k:=22) (l:=b.1) (fun v hv=>r7q (v1 v hv))
 have q5:=t8u (l:=b.2.1) (by omega) (fun t ht=>(hb.past t ht).1)
 have q6:=t8u (l:=b.2.2.1) (by omega) (fun t ht=>(hb.ready t ht).1)
 unfold t7e
 simp only[ByteArray.size_append]
 omega
end
section
def o1d (a b:Int):Int:=IntKind.u32.wrap ((BitVec.ofInt IntKind.u32.bits a^^^BitVec.ofInt IntKind.u32.bits b).toNat:Int)
def p7m (x:Int):Int:=bif decide (Int.tmod x 2=1) then o1d (IntKind.u32.wrap (Int.tdiv x 2)) 3558460437 else IntKind.u32.wrap (Int.tdiv x 2)
def q4i:Nat→Int→Int
 | 0,x=>x
 | n+1,x=>q4i n (p7m x)
def q4j (x:Int) (b:UInt8):Int:=q4i 8 (o1d x (IntKind.u32.wrap (b.toNat:Int)))
def o01 (t:ByteArray):Int:=t.data.toList.foldl q4j 4294967295
def o0z (x:Int) (k:Nat):Int:=IntKind.u8.wrap (Int.fdiv x (2^k))
def o32 (x:Int):ByteArray:=y7g [o0z x 24,o0z x 16,o0z x 8,IntKind.u8.wrap x]
def r2q (t:ByteArray):ByteArray:=t++o32 (o01 t)
def q4f (t:ByteArray):ByteArray×Bool:=if t.size≤20000 then(r2q t,true) else(emp,false)
def t1o (t:ByteArray):Option ByteArray:=if 4≤t.size∧t.size - 4≤20000∧r2q (t.extract 0 (t.size - 4))=t then some (t.extract 0 (t.size - 4)) else none
theorem p64 (x:Int):(o32 x).size=4:=u4j _
theorem p5q (t:ByteArray):(r2q t).size=t.size+4:=by unfold r2q;rw[ByteArray.size_append,p64]
theorem r7m {t:ByteArray} (h:t.size≤20000):t1o (r2q t)=some t:=by
 have hs:=p5q t
 have e:(r2q t).extract 0 ((r2q t).size - 4)=t:=by
  rw[hs,Nat.add_sub_cancel]
  exact ByteArray.extract_append_eq_left rfl
 unfold t1o
 rw[e,if_pos ⟨by omega,by omega,rfl⟩]
abbrev s5j:=Int×u0i×ByteArray×Bool×u0j
def u6d:u0i:=(0,0,0,0, [], [],false,emp)
def u3p:u0j:=([], [], [],0,0)
def noT (t:u0i):Bool:=decide (t.1=0)&&(decide (t.2.1=0)&&(decide (t.2.2.1=0)&&(decide (t.2.2.2.1=0)&&(decide (t.2.2.2.2.1.length=0)&&(decide (t.2.2.2.2.2.1.length=0)&&(!t.2.2.2.2.2.2.1&&decide (t.2.2.2.2.2.2.2.size=0)))))))
def noB (b:u0j):Bool:=decide (b.1.length=0)&&(decide (b.2.1.length=0)&&(decide (b.2.2.1.length=0)&&(decide (b.2.2.2.1=0)&&decide (b.2.2.2.2=0))))
def u5k (r:s5j):Bool:=
 if r.1=1 then u49 r.2.1&&(decide (r.2.1.2.1=3)&&(decide (r.2.2.1.size=0)&&(!r.2.2.2.1&&noB r.2.2.2.2)))
 else if r.1=2 then u49 r.2.1&&(decide (r.2.1.2.1=2)&&(decide (r.2.2.1.size=0)&&(!r.2.2.2.1&&noB r.2.2.2.2)))
 else if r.1=3 then noT r.2.1&&(t2a r.2.2.1&&noB r.2.2.2.2)
 else if r.1=4 then noT r.2.1&&(decide (r.2.2.1.size=0)&&(!r.2.2.2.1&&u5m r.2.2.2.2))
 else false
def r2p (r:s5j):ByteArray:=y7g [IntKind.u8.wrap r.1] ++(if r.1=3 then u09 r.2.2.1++p2x r.2.2.2.1 else if r.1=4 then t7e r.2.2.2.2 else u7a r.2.1)
def u16 (r:s5j):ByteArray×Bool:=if u5k r=true then q4f (r2p r) else(emp,false)
theorem p9b {s:ByteArray} (h:s.size=0):s=emp:=p3y (by
 rw[r40] at h
 rw[List.length_eq_zero_iff.mp h];rfl)
theorem p69 {t:u0i} :noT t=true↔t=u6d:=by
 unfold noT u6d
 simp only[Bool.and_eq_true,decide_eq_true_eq,Bool.not_eq_true']
 constructor
 ·rintro⟨h1,h2,h3,h4,h5,h6,h7,h8⟩
  obtain⟨t1,t2,t3,t4,t5,t6,t7,t8⟩:=t
  simp only at h1 h2 h3 h4 h5 h6 h7 h8
  rw[h1,h2,h3,h4,List.length_eq_zero_iff.mp h5,List.length_eq_zero_iff.mp h6,h7,p9b h8]
 ·rintro rfl
  exact⟨rfl,rfl,rfl,rfl,rfl,rfl,rfl,rfl⟩
theorem p3b {b:u0j} :noB b=true↔b=u3p:=by
 unfold noB u3p
 simp only[Bool.and_eq_true,decide_eq_true_eq]
 constructor
 ·rintro⟨h1,h2,h3,h4,h5⟩
  obtain⟨t1,t2,t3,t4,t5⟩:=b
  simp only at h1 h2 h3 h4 h5
  rw[h4,h5,List.length_eq_zero_iff.mp h1,List.length_eq_zero_iff.mp h2,List.length_eq_zero_iff.mp h3]
 ·rintro rfl
  exact⟨rfl,rfl,rfl,rfl,rfl⟩
inductive RecR:s5j→Prop where
 | thr (t:u0i) (h:TxnR t) (hs:t.2.1=3):RecR (1,t,emp,false,u3p)
 | rdy (t:u0i) (h:TxnR t) (hs:t.2.1=2):RecR (2,t,emp,false,u3p)
 | fin (n:ByteArray) (y:Bool) (h:t2a n=true):RecR (3,u6d,n,y,u3p)
 | bas (b:u0j) (h:BaseR b):RecR (4,u6d,emp,false,b)
theorem p95 {r:s5j} :u5k r=true↔RecR r:=by
 obtain⟨k,t,n,y,b⟩:=r
 unfold u5k
 simp only
 constructor
 ·intro h
  split at h
  ·rename_i e
   simp only[Bool.and_eq_true,decide_eq_true_eq,Bool.not_eq_true',r7l,p3b] at h
   obtain⟨h1,h2,h3,h4,h5⟩:=h
   rw[e,p9b h3,h4,h5];exact .thr t h1 h2
  ·split at h
   ·rename_i _ e
    simp only[Bool.and_eq_true,decide_eq_true_eq,Bool.not_eq_true',r7l,p3b] at h
    obtain⟨h1,h2,h3,h4,h5⟩:=h
    rw[e,p9b h3,h4,h5];exact .rdy t h1 h2
   ·split at h
    ·rename_i _ _ e
     simp only[Bool.and_eq_true,p69,p3b] at h
     obtain⟨h1,h2,h3⟩:=h
     rw[e,h1,h3];exact .fin n y h2
    ·split at h
     ·rename_i _ _ _ e
      simp only[Bool.and_eq_true,decide_eq_true_eq,Bool.not_eq_true',p69,q62] at h
      obtain⟨h1,h2,h3,h4⟩:=h
      rw[e,h1,p9b h2,h3];exact .bas b h4
     ·cases h
 ·intro h
  cases h with
  | thr t h hs=>simp[r7l.mpr h,hs,p3b.mpr rfl,emp,ByteArray.size]
  | rdy t h hs=>simp[r7l.mpr h,hs,p3b.mpr rfl,emp,ByteArray.size]
  | fin n y h=>simp[h,p3b.mpr rfl,p69.mpr rfl]
  | bas b h=>simp[q62.mpr h,p69.mpr rfl,emp,ByteArray.size]
theorem s4o {r:s5j} (h:RecR r):2≤(r2p r).size∧(r2p r).size≤10000:=by
 have h1:∀n:Int,(y7g [n]).size=1:=fun n=>u4j _
 cases h with
 | thr t h hs=>
  have:=t5o h
  have q:1≤(u7a t).size:=by
   unfold u7a;rw[ByteArray.size_append,s0g];have:=r7o t.1.toNat;omega
  show 2≤(y7g _++u7a t).size∧(y7g _++u7a t).size≤10000
  rw[ByteArray.size_append,h1];omega
 | rdy t h hs=>
  have:=t5o h
  have q:1≤(u7a t).size:=by
   unfold u7a;rw[ByteArray.size_append,s0g];have:=r7o t.1.toNat;omega
  show 2≤(y7g _++u7a t).size∧(y7g _++u7a t).size≤10000
  rw[ByteArray.size_append,h1];omega
 | fin n y h=>
  have:=u5u h
  have q:=u0r (s:=n) (by omega)
  show 2≤(y7g _++(u09 n++p2x y)).size∧(y7g _++(u09 n++p2x y)).size≤10000
  have:=(q0i n).1
  rw[ByteArray.size_append,ByteArray.size_append,h1,u2o];omega
 | bas b h=>
  have:=r72 h
  have a1:=(p76.mp h.vs).2.2
  have a2:=h.plen
  have a3:=h.rlen
  have q:1≤(t7e b).size:=by
   unfold t7e;rw[ByteArray.size_append,s0g];have:=r7o b.2.2.2.1.toNat;omega
  show 2≤(y7g _++t7e b).size∧(y7g _++t7e b).size≤10000
  rw[ByteArray.size_append,h1];omega
theorem t4d {r:s5j} (h:RecR r):u16 r=(r2q (r2p r),true):=by
 unfold u16 q4f
 rw[if_pos (p95.mpr h),if_pos (by have:=(s4o h).2;omega)]
def o4w:Lim:=⟨9,121,13,4⟩
theorem p29:o4w.ok:=⟨by decide,by decide,by decide,by decide⟩
def u9v (s:ByteArray):s5j×Bool:=
 if u5n s 0=3 then((3,u6d,(u19 s (1,false)).1,(r7z s (u19 s (1,false)).2).1,u3p),(r7z s (u19 s (1,false)).2).2.2)
 else if u5n s 0=4 then((4,u6d,emp,false,(t1w o4w s (1,false)).1),(t1w o4w s (1,false)).2.2)
 else(((u5n s 0:Int),(u45 9 s (1,false)).1,emp,false,u3p),(u45 9 s (1,false)).2.2)
def u3r (t:ByteArray):Option s5j:=
 match t1o t with
 | none=>none
 | some s=>if s.size=0 then none else if(u9v s).2=true∨u16 (u9v s).1≠(t,true) then none else some (u9v s).1
theorem q8i {k:Nat} (h:k<256) (s:ByteArray):u5n (y7g [IntKind.u8.wrap (k:Int)] ++s) 0=k:=by
 unfold u5n
 rw[q2e,s4p]
 have:IntKind.u8.wrap (k:Int)=(k:Int):=p9q h
 rw[this]
 show(UInt8.ofNat ((k:Int)).toNat).toNat=k
 rw[zTn]
 simp
 omega
theorem t59 {r:s5j} (h:RecR r):u9v (r2p r)=(r,false):=by
 have st:∀(x:Int) (s:ByteArray),t16 (y7g [x] ++s) 1 s:=fun x s=>by
  have:=p5t (a:=y7g [x]) (s:=s) (b:=emp)
  rw[p2w,u4j] at this
  exact this
 cases h with
 | thr t h hs=>
  have e:r2p (1,t,emp,false,u3p)=y7g [IntKind.u8.wrap ((1:Nat):Int)] ++u7a t:=rfl
  rw[e]
  unfold u9v
  rw[q8i (by omega),if_neg (by omega),if_neg (by omega)]
  have q:=r06 (m:=9) (by omega) h (st (IntKind.u8.wrap ((1:Nat):Int)) (u7a t))
  have q:u45 9 (y7g [IntKind.u8.wrap ((1:Nat):Int)] ++u7a t) (1,false)=_:=q
  rw[q];rfl
 | rdy t h hs=>
  have e:r2p (2,t,emp,false,u3p)=y7g [IntKind.u8.wrap ((2:Nat):Int)] ++u7a t:=rfl
  rw[e]
  unfold u9v
  rw[q8i (by omega),if_neg (by omega),if_neg (by omega)]
  have q:=r06 (m:=9) (by omega) h (st (IntKind.u8.wrap ((2:Nat):Int)) (u7a t))
  have q:u45 9 (y7g [IntKind.u8.wrap ((2:Nat):Int)] ++u7a t) (1,false)=_:=q
  rw[q];rfl
 | fin n y h=>
  have e:r2p (3,u6d,n,y,u3p)=y7g [IntKind.u8.wrap ((3:Nat):Int)] ++(u09 n++p2x y):=rfl
  rw[e]
  unfold u9v
  rw[q8i (by omega),if_pos rfl]
  obtain⟨k1,k2⟩:=o1u.mp (st (IntKind.u8.wrap ((3:Nat):Int)) (u09 n++p2x y))
  have q1:=t4b (by have:=u5u h;omega) k1
  have q1:u19 (y7g [IntKind.u8.wrap ((3:Nat):Int)] ++(u09 n++p2x y)) (1,false)=_:=q1
  rw[q1]
  simp only
  rw[r49 k2]
 | bas b h=>
  have e:r2p (4,u6d,emp,false,b)=y7g [IntKind.u8.wrap ((4:Nat):Int)] ++t7e b:=rfl
  rw[e]
  unfold u9v
  rw[q8i (by omega),if_neg (by omega),if_pos rfl]
  have q:=p1u p29 h (st (IntKind.u8.wrap ((4:Nat):Int)) (t7e b))
  have q:s4l o4w (y7g [IntKind.u8.wrap ((4:Nat):Int)] ++t7e b) (1,false)=_:=q
  unfold t1w
  rw[q]
  simp only[q62.mpr h,Bool.not_true,Bool.or_false]
theorem r1d {r:s5j} (h:RecR r):u3r (r2q (r2p r))=some r:=by
 have hs:=s4o h
 unfold u3r
 rw[r7m (by omega)]
 simp only
 rw[if_neg (by omega),t59 h]
 simp only
 rw[t4d h,if_neg (by simp)]
theorem r7g {t:ByteArray} {r:s5j} (h:u3r t=some r):RecR r∧t=r2q (r2p r):=by
 unfold u3r at h
 split at h
 ·cases h
 ·rename_i s hs
  split at h
  ·cases h
  ·split at h
   ·cases h
   ·rename_i hc
    simp only[not_or,ne_eq,Decidable.not_not] at hc
    have e:=Option.some.inj h
    rw[e] at hc
    have hr:u5k r=true:=by
     cases q:u5k r with
     | true=>rfl
     | false=>
      have:=hc.2
      unfold u16 at this
      rw[if_neg (by simp[q])] at this
      simp at this
    have hR:=p95.mp hr
    refine⟨hR,?_⟩
    have:=hc.2
    rw[t4d hR] at this
    exact(Prod.mk.inj this).1.symm
def u2p (b:u0j) (r:s5j):Option u0j:=
 if r.1=1 then(if r.2.1.2.2.2.1=b.2.2.2.1+1 then some (u2g b r.2.1) else none)
 else if r.1=2 then(if b.2.2.1.length<3∧u0v b r.2.1.2.2.2.2.2.2.2<0 then some (u99 b r.2.1 r.2.1.2.2.2.2.2.2.2) else none)
 else if r.1=3 then(if u0v b r.2.2.1<0 then none else if r.2.2.2.1=true then some (u2g b (rdL u0o b.2.2.1 (u0v b r.2.2.1).toNat)) else some (t43 b r.2.2.1))
 else some r.2.2.2.2
def u9q (b:u0j) (r:s5j):Option u0j:=
 if u5m b=true∧u5k r=true then(match u2p b r with
  | none=>none
  | some x=>if u5m (u4b x [])=true then some (u4b x []) else none)
 else none
def p90:u0j:=([], [], [],0,1)
def t7k:u0j→List ByteArray→Option u0j
 | b, [] =>some b
 | b,t::l=>match u3r t with
  | none=>none
  | some r=>match u9q b r with
   | none=>none
   | some x=>t7k x l
def t3z (l:List ByteArray):Option u0j:=t7k p90 l
theorem p5n (b:u0j):∀(l m:List ByteArray),t7k b (l++m)=(t7k b l).bind fun x=>t7k x m:=by
 intro l
 induction l generalizing b with
 | nil=>intro m;rfl
 | cons t l ih=>
  intro m
  simp only[List.cons_append,t7k]
  cases u3r t with
  | none=>rfl
  | some r=>
   simp only
   cases u9q b r with
   | none=>rfl
   | some x=>exact ih x m
end
section
theorem o34 (n:Nat):decide ((n:Int)=0)=decide (n=0):=by simp
theorem p8x (t:u0i):t9s t=some (noT t):=by
 rw[q20];unfold s9k noT
 simp only[o34,t1i]
 cases decide (t.1=0)<;>cases decide (t.2.1=0)<;>cases decide (t.2.2.1=0)<;>cases decide (t.2.2.2.1=0)<;>cases decide (t.2.2.2.2.1.length=0)<;>cases decide (t.2.2.2.2.2.1.length=0)<;>cases t.2.2.2.2.2.2.1<;>rfl
theorem p8y (t:u0i):t5j t=some (noT t):=by
 rw[q3q];unfold r0b noT
 simp only[o34,t1i]
 cases decide (t.1=0)<;>cases decide (t.2.1=0)<;>cases decide (t.2.2.1=0)<;>cases decide (t.2.2.2.1=0)<;>cases decide (t.2.2.2.2.1.length=0)<;>cases decide (t.2.2.2.2.2.1.length=0)<;>cases t.2.2.2.2.2.2.1<;>rfl
theorem p8u (b:u0j):t7t b=some (noB b):=by
 rw[q00];unfold s6m noB
 simp only[o34]
 cases decide (b.1.length=0)<;>cases decide (b.2.1.length=0)<;>cases decide (b.2.2.1.length=0)<;>cases decide (b.2.2.2.1=0)<;>rfl
theorem p8v (b:u0j):t7y b=some (noB b):=by
 rw[q1e];unfold s6z noB
 simp only[o34]
 cases decide (b.1.length=0)<;>cases decide (b.2.1.length=0)<;>cases decide (b.2.2.1.length=0)<;>cases decide (b.2.2.2.1=0)<;>cases decide (b.2.2.2.2=0)<;>rfl
theorem r1g (r:s5j):o4t.wt r=0+(u0o.wt r.2.1+(r.2.2.1.size+(0+q43.wt r.2.2.2.2))):=rfl
theorem r5i (r:s5j) (hw:o4t.wt r≤549755813888):t48 r=some (u5k r):=by
 have hb:u0l=1099511627776:=rfl
 have hr:=r1g r
 have k1:=t8s r.2.1 (by omega)
 have k2:=u7l r.2.2.2.2 (by omega)
 have k3:=t8q r.2.2.1 (by omega)
 rw[q2t];unfold s9e
 rw[p8x,p8u]
 simp only[k1,k2,k3,q3x,r99,zOb,t1i]
 unfold u5k
 generalize u49 r.2.1=c1
 generalize u5m r.2.2.2.2=c2
 generalize t2a r.2.2.1=c3
 generalize noT r.2.1=c4
 generalize noB r.2.2.2.2=c5
 generalize decide (r.2.2.1.size=0)=c6
 generalize decide (r.2.1.2.1=3)=c7
 generalize decide (r.2.1.2.1=2)=c8
 generalize r.2.2.2.1=c9
 by_cases h1:r.1=1
 ·simp only[h1,decide_true,cond_true,if_true]
  cases c1<;>cases c5<;>cases c6<;>cases c7<;>cases c9<;>rfl
 ·by_cases h2:r.1=2
  ·simp only[h2,decide_true,cond_true,if_true]
   cases c1<;>cases c5<;>cases c6<;>cases c8<;>cases c9<;>rfl
  ·by_cases h3:r.1=3
   ·simp only[h3,decide_true,cond_true,if_true]
    cases c3<;>cases c4<;>cases c5<;>cases c9<;>rfl
   ·by_cases h4:r.1=4
    ·simp only[h4,decide_true,cond_true,if_true]
     cases c2<;>cases c4<;>cases c6<;>cases c9<;>rfl
    ·simp only[h1,h2,h3,h4,decide_false,cond_false,if_false]
theorem r5j (r:s5j) (hw:o4t.wt r≤549755813888):t5h r=some (u5k r):=by
 have hb:u0l=1099511627776:=rfl
 have hr:=r1g r
 have k1:=t8t r.2.1 (by omega)
 have k2:=t5r r.2.2.2.2 (by omega)
 have k3:=t8r r.2.2.1 (by omega)
 rw[q3k];unfold s94
 simp only[k1,k2,k3,s3p,p8y,p8v,zOb,t1i]
 unfold u5k
 generalize u49 r.2.1=c1
 generalize u5m r.2.2.2.2=c2
 generalize t2a r.2.2.1=c3
 generalize noT r.2.1=c4
 generalize noB r.2.2.2.2=c5
 generalize decide (r.2.2.1.size=0)=c6
 generalize r.2.2.2.1=c9
 by_cases h1:r.1=1
 ·simp only[h1,show inB 1 1 4=true from rfl,decide_true,cond_true,if_true]
  generalize decide (r.2.1.2.1=3)=c7
  generalize decide (r.2.1.2.1=2)=c8
  cases c1<;>cases c5<;>cases c6<;>cases c7<;>cases c8<;>cases c9<;>rfl
 ·by_cases h2:r.1=2
  ·simp only[h2,show inB 2 1 4=true from rfl,decide_true,cond_true,if_true]
   generalize decide (r.2.1.2.1=3)=c7
   generalize decide (r.2.1.2.1=2)=c8
   cases c1<;>cases c5<;>cases c6<;>cases c7<;>cases c8<;>cases c9<;>rfl
  ·by_cases h3:r.1=3
   ·simp only[h3,show inB 3 1 4=true from rfl,decide_true,cond_true,if_true]
    cases c3<;>cases c4<;>cases c5<;>cases c9<;>rfl
   ·by_cases h4:r.1=4
    ·simp only[h4,show inB 4 1 4=true from rfl,decide_true,cond_true,if_true]
     cases c2<;>cases c4<;>cases c6<;>cases c9<;>rfl
    ·have:inB r.1 1 4=false:=by
      cases h:inB r.1 1 4
      ·rfl
      ·have:=r8p.mp h;omega
     simp only[h1,h2,h3,h4,this,decide_false,cond_false,if_false,Bool.not_false,cond_true]
end
section
theorem r4b {α:Type} {P:Prop} [Decidable P] {a b:α} (h:P):(bif decide P then a else b)=a:=by rw[decide_eq_true h];rfl
theorem r7y {α:Type} {n:Nat} {a b:α} (h:n≤1099511627776):(bif Nat.ble n z7w then a else b)=a:=by rw[u1w h];rfl
theorem u4y {n:Int} (h0:0≤n) (h1:n≤1000000000):u1u n=some (r1p n):=by
 obtain⟨m,rfl⟩:∃m:Nat,n=m:=⟨n.toNat,by omega⟩
 rw[p1k m (by omega)];rfl
theorem p3s {n:Int} (h0:0≤n) (h1:n≤1000000000):u84 n=some (r1p n,true):=by
 rw[s84,if_pos ⟨h0,h1⟩];rfl
theorem t34 {s:ByteArray} (h:s.size≤10000):u2t s=some (u09 s):=by
 rw[q3p];unfold r0a
 rw[u4y (by omega) (by omega)]
 simp only[zOb]
 have:=u1p (n:=(s.size:Int)) (by omega)
 rw[r4b (by omega)];rfl
theorem p44 {s:ByteArray} (h:s.size≤10000):t3q s=some (u09 s,true):=by
 rw[p0d s (by omega),if_neg (by omega)]
theorem q1m (b:Bool):t1n b=some (p2x b):=by
 rw[q9i];unfold r6l
 cases b<;>rfl
theorem r7f {r:q6v} (h:r.1.size≤100∧r.2.size≤100):(p2e r).size≤204:=by
 have q1:=u0r (s:=r.1) (by omega)
 have q2:=u0r (s:=r.2) (by omega)
 unfold p2e;rw[ByteArray.size_append];omega
theorem t6m {E:Type} (f:E→ByteArray) (l:List E) (s:ByteArray):l.foldl (fun s x=>s++f x) s=s++s8q f l:=r6r f l s
theorem t7c (t:u0i) (ht:u0o.wt t≤549755813888):u85 t=some (if u49 t=true then(u7a t,true) else(emp,false)):=by
 have hb:u0l=1099511627776:=rfl
 rw[q6c];unfold r30
 rw[t8t t (by omega)]
 simp only[zOb]
 cases hc:u49 t
 ·rfl
 ·have h:=r7l.mp hc
  obtain⟨z1,z2,z3,z4,z5⟩:=h.small
  have hi:=h.id;have hst:=h.st;have hsn:=h.snap;have hrl:=h.rlen
  have v1:=u1p (n:=t.1) (by omega)
  have v2:=u1p (n:=t.2.1) (by omega)
  have v3:=u1p (n:=t.2.2.1) (by omega)
  have v4:=u1p (n:=t.2.2.2.1) (by omega)
  have v5:=u1p (n:=(t.2.2.2.2.1.length:Int)) (by omega)
  have v6:=u1p (n:=(t.2.2.2.2.2.1.length:Int)) (by omega)
  have v7:=u0r (s:=t.2.2.2.2.2.2.2) (by omega)
  have L1:∀A:ByteArray,A.size≤1000→u8r (t,A,0)=some (.inl (t,A++s8q p2e t.2.2.2.2.1)):=fun A hA=>by
   have:=t1s u8r t.2.2.2.2.1 (fun(A:ByteArray) i=>(t,A,i)) (fun A r=>A++p2e r) (fun A=> .inl (t,A)) (fun i A=>A.size≤1000+i*204)
    (fun A _=>by rw[s8i];simp only[t26,u0c,Nat.lt_irrefl,decide_false,cond_false])
    (fun i hi A hP=>by
     have hr:=z1 _ (List.getElem_mem hi)
     have hs:=r7f (r:=t.2.2.2.2.1[i]) (by omega)
     have hs' :=hs
     unfold p2e at hs'
     rw[ByteArray.size_append] at hs'
     refine⟨by rw[ByteArray.size_append,Nat.succ_mul];omega,?_⟩
     rw[s8i];simp only[t26,u0c,hi,decide_true,cond_true,y7t hi,zTn,y8k (t:=u1z) hi,y7l (show i<4611686018427387904 by omega)]
     rw[t34 (by omega),t34 (by omega)]
     simp only[zOb]
     rw[r4b (by omega),r4b (by rw[ByteArray.size_append];omega),u6k];rfl) A (by omega)
   rw[t6m] at this
   exact this
  have L2:∀A:ByteArray,A.size≤10000→u6w (t,A,0)=some (.inl (t,A++s8q wrT t.2.2.2.2.2.1)):=fun A hA=>by
   have:=t1s u6w t.2.2.2.2.2.1 (fun(A:ByteArray) i=>(t,A,i)) (fun A r=>A++wrT r) (fun A=> .inl (t,A)) (fun i A=>A.size≤10000+i*304)
    (fun A _=>by rw[s5a];simp only[t0x,u0c,Nat.lt_irrefl,decide_false,cond_false])
    (fun i hi A hP=>by
     have hr:=z2 _ (List.getElem_mem hi)
     have q1:=u0r (s:=(t.2.2.2.2.2.1[i]).1) (by omega)
     have q2:=u0r (s:=(t.2.2.2.2.2.1[i]).2.1) (by omega)
     have q3:=u2o (t.2.2.2.2.2.1[i]).2.2
     refine⟨by unfold wrT;simp only[ByteArray.size_append,Nat.succ_mul];omega,?_⟩
     rw[s5a];simp only[t0x,u0c,hi,decide_true,cond_true,y7t hi,zTn,y8k (t:=u01) hi,y7l (show i<4611686018427387904 by omega)]
     rw[t34 (by omega),t34 (by omega),q1m]
     simp only[zOb]
     rw[r4b (by omega),r4b (by rw[ByteArray.size_append];omega),r4b (by simp only[ByteArray.size_append];omega),u6k,u6k];rfl) A (by omega)
   rw[t6m] at this
   exact this
  have n1:(s8q p2e t.2.2.2.2.1).size≤t.2.2.2.2.1.length*204:=t42 fun r hr=>r7f (by have:=z1 r hr;omega)
  have n2:(s8q wrT t.2.2.2.2.2.1).size≤t.2.2.2.2.2.1.length*304:=t42 fun w hw=>by
   have:=z2 w hw
   have q1:=u0r (s:=w.1) (by omega)
   have q2:=u0r (s:=w.2.1) (by omega)
   unfold wrT;rw[ByteArray.size_append,ByteArray.size_append,u2o];omega
  simp only[Bool.not_true,cond_false,if_true]
  rw[u4y (n:=t.1) (by omega) (by omega),u4y (n:=t.2.1) (by omega) (by omega),u4y (n:=t.2.2.1) (by omega) (by omega),u4y (n:=t.2.2.2.1) (by omega) (by omega),u4y (n:=(t.2.2.2.2.1.length:Int)) (by omega) (by omega)]
  simp only[zOb]
  rw[r4b (by omega),r4b (by simp only[ByteArray.size_append];omega),r4b (by simp only[ByteArray.size_append];omega),r4b (by simp only[ByteArray.size_append];omega),L1 _ (by simp only[ByteArray.size_append];omega)]
  simp only[zOb]
  rw[u4y (n:=(t.2.2.2.2.2.1.length:Int)) (by omega) (by omega)]
  simp only[zOb]
  rw[r4b (by simp only[ByteArray.size_append];omega),L2 _ (by simp only[ByteArray.size_append];omega)]
  simp only[zOb]
  rw[q1m,t34 (by omega)]
  simp only[zOb]
  rw[r4b (by simp only[ByteArray.size_append,u2o];omega),r4b (by simp only[ByteArray.size_append,u2o];omega)]
  unfold u7a
  simp only[u6k]
theorem p7v {l:List u0i} {t:u0i} (h:t∈l) (hl:(Ty.sl u0o).wt l≤549755813888):u0o.wt t≤549755813888:=Nat.le_trans (r1n h) hl
theorem p0o (l:List u0i) (hl:(Ty.sl u0o).wt l≤549755813888) (hn:l.length≤10000) (h:∀t∈l,TxnR t):t69 l=some (s4q l):=by
 have v1:=u1p (n:=(l.length:Int)) (by omega)
 have L:u8u (l,r1p (l.length:Int),0)=some (.inl (r1p (l.length:Int)++s8q u7a l)):=by
  have:=t1s u8u l (fun(A:ByteArray) i=>(l,A,i)) (fun A r=>A++u7a r) (fun A=> .inl A) (fun i A=>A.size≤2+i*300)
   (fun A _=>by rw[s8m];simp only[t3a,u0c,Nat.lt_irrefl,decide_false,cond_false])
   (fun i hi A hP=>by
    have hm:=List.getElem_mem hi
    have hr:=t5o (h _ hm)
    refine⟨by rw[ByteArray.size_append,Nat.succ_mul];omega,?_⟩
    rw[s8m];simp only[t3a,u0c,hi,decide_true,cond_true,y7t hi,zTn,y8k (t:=u0o) hi,y7l (show i<4611686018427387904 by omega)]
    rw[t7c _ (p7v hm hl),if_pos (r7l.mpr (h _ hm))]
    simp only[zOb]
    rw[r4b (by omega)]) (r1p (l.length:Int)) (by omega)
  rw[t6m] at this
  exact this
 rw[q6k];unfold r39
 rw[u4y (by omega) (by omega)]
 simp only[zOb]
 rw[L];rfl
theorem q71 (b:u0j) (hw:q43.wt b≤549755813888):t95 b=some (if u5m b=true then(t7e b,true) else(emp,false)):=by
 have hbw:=s5o b
 rw[q3d];unfold s9x
 rw[t5r b hw]
 simp only[zOb]
 cases hc:u5m b
 ·rfl
 ·have h:=q62.mp hc
  obtain⟨w1,w2,w3⟩:=p76.mp h.vs
  have hcs:=h.cs;have hx:=h.next;have hp:=h.plen;have hr:=h.rlen
  have q1:=u1p (n:=b.2.2.2.1) (by omega)
  have q2:=u1p (n:=b.2.2.2.2) (by omega)
  have q3:=u1p (n:=(b.1.length:Int)) (by omega)
  have q4:=t42 (f:=p2a) (k:=22) (l:=b.1) (fun v hv=>r7q (w1 v hv))
  have q5:=t8u (l:=b.2.1) (by omega) (fun t ht=>(h.past t ht).1)
  have q6:=t8u (l:=b.2.2.1) (by omega) (fun t ht=>(h.ready t ht).1)
  have L:∀A:ByteArray,A.size≤1000→u6s (b,A,0)=some (.inl (b,A++s8q p2a b.1)):=fun A hA=>by
   have:=t1s u6s b.1 (fun(A:ByteArray) i=>(b,A,i)) (fun A r=>A++p2a r) (fun A=> .inl (b,A)) (fun i A=>A.size≤1000+i*22)
    (fun A _=>by rw[s41];simp only[t0o,u0c,Nat.lt_irrefl,decide_false,cond_false])
    (fun i hi A hP=>by
     have hm:=w1 _ (List.getElem_mem hi)
     have hr:=r7q hm
     have hv:=s0h hm
     have s1:=u0r (s:=(b.1[i]).1) (by omega)
     have s2:=u0r (s:=(b.1[i]).2.1) (by omega)
     have s3:=u2o (b.1[i]).2.2.1
     have s4:=u1p (n:=(b.1[i]).2.2.2) (by omega)
     refine⟨by rw[ByteArray.size_append,Nat.succ_mul];omega,?_⟩
     rw[s41];simp only[t0o,u0c,hi,decide_true,cond_true,y7t hi,zTn,y8k (t:=u0b) hi,y7l (show i<4611686018427387904 by omega)]
     rw[t34 (by omega),t34 (by omega),q1m,u4y (by omega) (by omega)]
     simp only[zOb]
     rw[r4b (by omega),r4b (by simp only[ByteArray.size_append];omega),r4b (by simp only[ByteArray.size_append];omega),r4b (by simp only[ByteArray.size_append];omega)]
     unfold p2a
     simp only[u6k]) A (by omega)
   rw[t6m] at this
   exact this
  simp only[Bool.not_true,cond_false,if_true]
  rw[u4y (n:=b.2.2.2.1) (by omega) (by omega),u4y (n:=b.2.2.2.2) (by omega) (by omega),u4y (n:=(b.1.length:Int)) (by omega) (by omega)]
  simp only[zOb]
  rw[r4b (by omega),r4b (by simp only[ByteArray.size_append];omega),L _ (by simp only[ByteArray.size_append];omega)]
  simp only[zOb]
  rw[p0o b.2.1 (by omega) (by omega) (fun t ht=>(h.past t ht).1),p0o b.2.2.1 (by omega) (by omega) (fun t ht=>(h.ready t ht).1)]
  simp only[zOb]
  rw[r4b (by simp only[ByteArray.size_append];omega),r4b (by simp only[ByteArray.size_append];omega)]
  unfold t7e
  simp only[u6k]
end
section
theorem t9h (A:ByteArray) (ns:List Int) (hn:∀n∈ns,0≤n∧n<16384) (hl:ns.length≤10) (hA:A.size≤1000000):u4i (z7t A,ns)=some (z7t (A++s8q r1p ns)):=by
 have:=t1s t09 ns (fun(A:ByteArray) i=>(z7t A,ns,(ns.length:Int),i)) (fun A n=>A++r1p n) (fun A=> .inl (z7t A)) (fun i A=>A.size≤1000000+i*2)
  (fun A _=>by rw[s40];simp only[t0n,u0c,Nat.lt_irrefl,decide_false,cond_false])
  (fun i hi A hP=>by
   have hm:=hn _ (List.getElem_mem hi)
   have hv:=u1p (n:=ns[i]) hm.2
   refine⟨by rw[ByteArray.size_append,Nat.succ_mul];omega,?_⟩
   rw[s40];simp only[t0n,u0c,hi,decide_true,cond_true,y7t hi,zTn,y8k (t:=Ty.int .i64) hi,y7l (show i<4611686018427387904 by omega)]
   rw[p3s hm.1 (by omega)]
   simp only[zOb]
   rw[r7y (by rw[u5t,u5t];omega),t38]) A (by omega)
 rw[t6m] at this
 rw[q21];unfold s9l
 simp only
 rw[this];rfl
theorem t7j (A:ByteArray) (ns:List ByteArray) (hn:∀n∈ns,n.size≤100) (hl:ns.length≤10) (hA:A.size≤1000000):u4x (z7t A,ns)=some (z7t (A++s8q u09 ns)):=by
 have:=t1s u9l ns (fun(A:ByteArray) i=>(z7t A,ns,(ns.length:Int),i)) (fun A n=>A++u09 n) (fun A=> .inl (z7t A)) (fun i A=>A.size≤1000000+i*102)
  (fun A _=>by rw[s12];simp only[u9e,u0c,Nat.lt_irrefl,decide_false,cond_false])
  (fun i hi A hP=>by
   have hm:=hn _ (List.getElem_mem hi)
   have hv:=u0r (s:=ns[i]) (by omega)
   refine⟨by rw[ByteArray.size_append,Nat.succ_mul];omega,?_⟩
   rw[s12];simp only[u9e,u0c,hi,decide_true,cond_true,y7t hi,zTn,y8k (t:=Ty.str) hi,y7l (show i<4611686018427387904 by omega)]
   rw[p44 (by omega)]
   simp only[zOb]
   rw[r7y (by rw[u5t,u5t];omega),t38]) A (by omega)
 rw[t6m] at this
 rw[q04];unfold s6q
 simp only
 rw[this];rfl
theorem s1i (A:ByteArray) (b:Bool) (hA:A.size≤1000000):u5x (z7t A,b)=some (z7t (A++p2x b)):=by
 rw[q03];unfold s6p
 have e:z7t (p2x b)= [if b then 1 else 0] :=by cases b<;>rfl
 rw[t38,e]
 cases b
 ·simp only[cond_false]
  rw[r7y (by rw[u5t];simp;omega)];rfl
 ·simp only[cond_true]
  rw[r7y (by rw[u5t];simp;omega)];rfl
theorem q0d (ns:List Int) (hn:∀n∈ns,0≤n∧n<16384) (hl:ns.length≤10):u4i (([] :List Int),ns)=some (z7t (s8q r1p ns)):=by
 have:=t9h emp ns hn hl (by simp[emp,ByteArray.size])
 rw[p2z] at this
 exact this
theorem s5p {E:Type} (f:E→ByteArray) (a:E):s8q f [a] =f a:=by rw[t84,q8j,p2w]
theorem q1n {E:Type} (f:E→ByteArray) (a b:E):s8q f [a,b] =f a++f b:=by rw[t84,s5p]
theorem q64 {E:Type} (f:E→ByteArray) (a b c:E):s8q f [a,b,c] =f a++(f b++f c):=by rw[t84,q1n]
theorem p6w {E:Type} (f:E→ByteArray) (a b c d e:E):s8q f [a,b,c,d,e] =f a++(f b++(f c++(f d++f e))):=by rw[t84,t84,q64]
theorem t7b (t:u0i) (ht:u0o.wt t≤549755813888):u83 t=some (if u49 t=true then(u7a t,true) else(emp,false)):=by
 have hb:u0l=1099511627776:=rfl
 rw[q5j];unfold r3a
 rw[t8s t (by omega)]
 simp only[zOb]
 cases hc:u49 t
 ·rfl
 ·have h:=r7l.mp hc
  obtain⟨z1,z2,z3,z4,z5⟩:=h.small
  have hi:=h.id;have hst:=h.st;have hsn:=h.snap;have hrl:=h.rlen
  have v1:=u1p (n:=t.1) (by omega)
  have v2:=u1p (n:=t.2.1) (by omega)
  have v3:=u1p (n:=t.2.2.1) (by omega)
  have v4:=u1p (n:=t.2.2.2.1) (by omega)
  have v5:=u1p (n:=(t.2.2.2.2.1.length:Int)) (by omega)
  have v6:=u1p (n:=(t.2.2.2.2.2.1.length:Int)) (by omega)
  have v7:=u0r (s:=t.2.2.2.2.2.2.2) (by omega)
  have L1:∀A:ByteArray,A.size≤1000→u8j (t,z7t A,t.2.2.2.2.1,(t.2.2.2.2.1.length:Int),0)=some (.inl (t,z7t (A++s8q p2e t.2.2.2.2.1))):=fun A hA=>by
   have:=t1s u8j t.2.2.2.2.1 (fun(A:ByteArray) i=>(t,z7t A,t.2.2.2.2.1,(t.2.2.2.2.1.length:Int),i)) (fun A r=>A++p2e r) (fun A=> .inl (t,z7t A)) (fun i A=>A.size≤1000+i*204)
    (fun A _=>by rw[s74];simp only[t2t,u0c,Nat.lt_irrefl,decide_false,cond_false])
    (fun i hi A hP=>by
     have hr:=z1 _ (List.getElem_mem hi)
     have hs:=r7f (r:=t.2.2.2.2.1[i]) (by omega)
     refine⟨by rw[ByteArray.size_append,Nat.succ_mul];omega,?_⟩
     rw[s74];simp only[t2t,u0c,hi,decide_true,cond_true,y7t hi,zTn,y8k (t:=u1z) hi,y7l (show i<4611686018427387904 by omega)]
     rw[t7j A [(t.2.2.2.2.1[i]).1,(t.2.2.2.2.1[i]).2] (by intro n hn;simp only[List.mem_cons,List.mem_nil_iff,or_false] at hn;rcases hn with rfl | rfl<;>omega) (by simp) (by omega)]
     simp only[zOb]
     rw[q1n];rfl) A (by omega)
   rw[t6m] at this
   exact this
  have L2:∀A:ByteArray,A.size≤10000→u6n (t,z7t A,t.2.2.2.2.2.1,(t.2.2.2.2.2.1.length:Int),0)=some (.inl (t,z7t (A++s8q wrT t.2.2.2.2.2.1))):=fun A hA=>by
   have:=t1s u6n t.2.2.2.2.2.1 (fun(A:ByteArray) i=>(t,z7t A,t.2.2.2.2.2.1,(t.2.2.2.2.2.1.length:Int),i)) (fun A r=>A++wrT r) (fun A=> .inl (t,z7t A)) (fun i A=>A.size≤10000+i*304)
    (fun A _=>by rw[s4x];simp only[t0k,u0c,Nat.lt_irrefl,decide_false,cond_false])
    (fun i hi A hP=>by
     have hr:=z2 _ (List.getElem_mem hi)
     have q1:=u0r (s:=(t.2.2.2.2.2.1[i]).1) (by omega)
     have q2:=u0r (s:=(t.2.2.2.2.2.1[i]).2.1) (by omega)
     have q3:=u2o (t.2.2.2.2.2.1[i]).2.2
     refine⟨by unfold wrT;simp only[ByteArray.size_append,Nat.succ_mul];omega,?_⟩
     rw[s4x];simp only[t0k,u0c,hi,decide_true,cond_true,y7t hi,zTn,y8k (t:=u01) hi,y7l (show i<4611686018427387904 by omega)]
     rw[t7j A [(t.2.2.2.2.2.1[i]).1,(t.2.2.2.2.2.1[i]).2.1] (by intro n hn;simp only[List.mem_cons,List.mem_nil_iff,or_false] at hn;rcases hn with rfl | rfl<;>omega) (by simp) (by omega)]
     simp only[zOb]
     rw[q1n,s1i _ _ (by simp only[ByteArray.size_append];omega)]
     simp only[zOb]
     unfold wrT
     simp only[u6k]) A (by omega)
   rw[t6m] at this
   exact this
  have n1:(s8q p2e t.2.2.2.2.1).size≤t.2.2.2.2.1.length*204:=t42 fun r hr=>r7f (by have:=z1 r hr;omega)
  have n2:(s8q wrT t.2.2.2.2.2.1).size≤t.2.2.2.2.2.1.length*304:=t42 fun w hw=>by
   have:=z2 w hw
   have q1:=u0r (s:=w.1) (by omega)
   have q2:=u0r (s:=w.2.1) (by omega)
   unfold wrT;rw[ByteArray.size_append,ByteArray.size_append,u2o];omega
  simp only[Bool.not_true,cond_false,if_true]
  rw[q0d [t.1,t.2.1,t.2.2.1,t.2.2.2.1,(t.2.2.2.2.1.length:Int)] (by intro n hn;simp only[List.mem_cons,List.mem_nil_iff,or_false] at hn;rcases hn with rfl | rfl | rfl | rfl | rfl<;>omega) (by simp)]
  simp only[zOb]
  rw[p6w,L1 _ (by simp only[ByteArray.size_append];omega)]
  simp only[zOb]
  rw[t9h _ [(t.2.2.2.2.2.1.length:Int)] (by intro n hn;simp only[List.mem_cons,List.mem_nil_iff,or_false] at hn;subst hn;omega) (by simp) (by simp only[ByteArray.size_append];omega)]
  simp only[zOb]
  rw[s5p,L2 _ (by simp only[ByteArray.size_append];omega)]
  simp only[zOb]
  rw[s1i _ _ (by simp only[ByteArray.size_append];omega)]
  simp only[zOb]
  rw[t7j _ [t.2.2.2.2.2.2.2] (by intro n hn;simp only[List.mem_cons,List.mem_nil_iff,or_false] at hn;subst hn;omega) (by simp) (by simp only[ByteArray.size_append,u2o];omega)]
  simp only[zOb]
  rw[s5p,t32]
  unfold u7a
  simp only[u6k]
theorem q70 (b:u0j) (hw:q43.wt b≤549755813888):t9j b=some (if u5m b=true then(t7e b,true) else(emp,false)):=by
 have hb:u0l=1099511627776:=rfl
 have hbw:=s5o b
 rw[q2m];unfold s87
 rw[u7l b (by omega)]
 simp only[zOb]
 cases hc:u5m b
 ·rfl
 ·have h:=q62.mp hc
  obtain⟨w1,w2,w3⟩:=p76.mp h.vs
  have hcs:=h.cs;have hx:=h.next;have hp:=h.plen;have hr:=h.rlen
  have q1:=u1p (n:=b.2.2.2.1) (by omega)
  have q2:=u1p (n:=b.2.2.2.2) (by omega)
  have q3:=u1p (n:=(b.1.length:Int)) (by omega)
  have q4:=t42 (f:=p2a) (k:=22) (l:=b.1) (fun v hv=>r7q (w1 v hv))
  have q5:=t8u (l:=b.2.1) (by omega) (fun t ht=>(h.past t ht).1)
  have q6:=t8u (l:=b.2.2.1) (by omega) (fun t ht=>(h.ready t ht).1)
  have L:∀A:ByteArray,A.size≤1000→u6m (b,z7t A,b.1,(b.1.length:Int),0)=some (.inl (b,z7t (A++s8q p2a b.1))):=fun A hA=>by
   have:=t1s u6m b.1 (fun(A:ByteArray) i=>(b,z7t A,b.1,(b.1.length:Int),i)) (fun A r=>A++p2a r) (fun A=> .inl (b,z7t A)) (fun i A=>A.size≤1000+i*22)
    (fun A _=>by rw[s4r];simp only[t0e,u0c,Nat.lt_irrefl,decide_false,cond_false])
    (fun i hi A hP=>by
     have hm:=w1 _ (List.getElem_mem hi)
     have hr:=r7q hm
     have hv:=s0h hm
     have s1:=u0r (s:=(b.1[i]).1) (by omega)
     have s2:=u0r (s:=(b.1[i]).2.1) (by omega)
     have s3:=u2o (b.1[i]).2.2.1
     refine⟨by rw[ByteArray.size_append,Nat.succ_mul];omega,?_⟩
     rw[s4r];simp only[t0e,u0c,hi,decide_true,cond_true,y7t hi,zTn,y8k (t:=u0b) hi,y7l (show i<4611686018427387904 by omega)]
     rw[t7j A [(b.1[i]).1,(b.1[i]).2.1] (by intro n hn;simp only[List.mem_cons,List.mem_nil_iff,or_false] at hn;rcases hn with rfl | rfl<;>omega) (by simp) (by omega)]
     simp only[zOb]
     rw[q1n,s1i _ _ (by simp only[ByteArray.size_append];omega)]
     simp only[zOb]
     rw[t9h _ [(b.1[i]).2.2.2] (by intro n hn;simp only[List.mem_cons,List.mem_nil_iff,or_false] at hn;subst hn;omega) (by simp) (by simp only[ByteArray.size_append];omega)]
     simp only[zOb]
     rw[s5p]
     unfold p2a
     simp only[u6k]) A (by omega)
   rw[t6m] at this
   exact this
  have IN:∀(A:ByteArray) (g:List (List u0i)) (n k:Int) (l:List u0i),A.size≤100000→l.length≤100→(Ty.sl u0o).wt l≤549755813888→(∀t∈l,TxnR t)→
   u51 (z7t A,g,n,k,l,(l.length:Int),0)=some (.inl (z7t (A++s8q u7a l),g,n,k)):=fun A g n k l hA hl hlw hok=>by
   have:=t1s u51 l (fun(A:ByteArray) i=>(z7t A,g,n,k,l,(l.length:Int),i)) (fun A r=>A++u7a r) (fun A=> .inl (z7t A,g,n,k)) (fun i A=>A.size≤100000+i*300)
    (fun A _=>by rw[s1y];simp only[u9a,u0c,Nat.lt_irrefl,decide_false,cond_false])
    (fun i hi A hP=>by
     have hm:=List.getElem_mem hi
     have hr:=t5o (hok _ hm)
     refine⟨by rw[ByteArray.size_append,Nat.succ_mul];omega,?_⟩
     rw[s1y];simp only[u9a,u0c,hi,decide_true,cond_true,y7t hi,zTn,y8k (t:=u0o) hi,y7l (show i<4611686018427387904 by omega)]
     rw[t7b _ (p7v hm hlw),if_pos (r7l.mpr (hok _ hm))]
     simp only[zOb]
     rw[r7y (by rw[u5t,u5t];omega),t38]) A (by omega)
   rw[t6m] at this
   exact this
  have O:∀A:ByteArray,A.size≤10000→u9j (z7t A, [b.2.1,b.2.2.1],2,0)=some (.inl (z7t (A++s4q b.2.1++s4q b.2.2.1))):=fun A hA=>by
   have v1:=u1p (n:=(b.2.1.length:Int)) (by omega)
   have v2:=u1p (n:=(b.2.2.1.length:Int)) (by omega)
   have e0:y4q 0 [b.2.1,b.2.2.1].length=true:=rfl
   have e1:y4q 1 [b.2.1,b.2.2.1].length=true:=rfl
   have r0:rdL (Ty.sl u0o) [b.2.1,b.2.2.1] (0:Int).toNat=b.2.1:=rfl
   have r1:rdL (Ty.sl u0o) [b.2.1,b.2.2.1] (1:Int).toNat=b.2.2.1:=rfl
   have w0:IntKind.i64.wrap ((0:Int)+1)=1:=rfl
   have w1:IntKind.i64.wrap ((1:Int)+1)=2:=rfl
   rw[t5p];simp only[u5z]
   rw[r4b (by omega),e0,r0,t9h A [(b.2.1.length:Int)] (by intro n hn;simp only[List.mem_cons,List.mem_nil_iff,or_false] at hn;subst hn;omega) (by simp) (by omega)]
   simp only[cond_true,zOb]
   rw[s5p,IN _ _ _ _ b.2.1 (by simp only[ByteArray.size_append];omega) (by omega) (by omega) (fun t ht=>(h.past t ht).1)]
   simp only[zOb]
   rw[w0,t5p];simp only[u5z]
   have n1:(A++r1p (b.2.1.length:Int)++s8q u7a b.2.1).size≤20000:=by
    have:A++r1p (b.2.1.length:Int)++s8q u7a b.2.1=A++s4q b.2.1:=by unfold s4q;rw[u6k]
    rw[this,ByteArray.size_append];omega
   rw[r4b (by omega),e1,r1,t9h _ [(b.2.2.1.length:Int)] (by intro n hn;simp only[List.mem_cons,List.mem_nil_iff,or_false] at hn;subst hn;omega) (by simp) (by omega)]
   simp only[cond_true,zOb]
   rw[s5p,IN _ _ _ _ b.2.2.1 (by rw[ByteArray.size_append];omega) (by omega) (by omega) (fun t ht=>(h.ready t ht).1)]
   simp only[zOb]
   rw[w1,t5p];simp only[u5z]
   unfold s4q
   simp[u6k]
  simp only[Bool.not_true,cond_false,if_true]
  rw[q0d [b.2.2.2.1,b.2.2.2.2,(b.1.length:Int)] (by intro n hn;simp only[List.mem_cons,List.mem_nil_iff,or_false] at hn;rcases hn with rfl | rfl | rfl<;>omega) (by simp)]
  simp only[zOb]
  rw[q64,L _ (by simp only[ByteArray.size_append];omega)]
  simp only[zOb]
  have e2:(([b.2.1,b.2.2.1] :List (List u0i)).length:Int)=2:=rfl
  rw[e2,O _ (by simp only[ByteArray.size_append];omega)]
  simp only[zOb]
  rw[t32]
  unfold t7e
  simp only[u6k]
end
section
theorem p4i {W:Int×ByteArray×Int×Int→Option ((Int×ByteArray×Int)⊕Unit)}
 (hW:∀x,W x=(bif decide (x.2.2.2<(8:Int)) then(bif decide (Int.tmod x.1 (2:Int)=(1:Int)) then W (IntKind.u32.wrap ((BitVec.ofInt IntKind.u32.bits (IntKind.u32.wrap (Int.tdiv x.1 (2:Int)))^^^BitVec.ofInt IntKind.u32.bits (3558460437:Int)).toNat:Int),x.2.1,x.2.2.1,IntKind.i64.wrap (x.2.2.2+(1:Int)))
  else W (IntKind.u32.wrap (Int.tdiv x.1 (2:Int)),x.2.1,x.2.2.1,IntKind.i64.wrap (x.2.2.2+(1:Int)))) else some (.inl (x.1,x.2.1,x.2.2.1)))) (t:ByteArray) (k:Int):
 ∀(n:Nat) (x:Int) (i:Nat),i+n=8→W (x,t,k,(i:Int))=some (.inl (q4i n x,t,k)):=by
 intro n
 induction n with
 | zero=>
  intro x i hi
  have:i=8:=by omega
  subst this
  rw[hW];rfl
 | succ n ih=>
  intro x i hi
  rw[hW]
  simp only
  rw[r4b (by omega),y7l (by omega),ih _ (i+1) (by omega),ih _ (i+1) (by omega)]
  rw[show q4i (n+1) x=q4i n (p7m x) from rfl]
  unfold p7m o1d
  cases decide (Int.tmod x 2=1)<;>rfl
theorem p4j (f:Int→UInt8→Int) (t:ByteArray) {W:Int×ByteArray×Int→Option (Int⊕Unit)} (ht:t.size≤1099511627776)
 (hend:∀x,W (x,t,(t.size:Int))=some (.inl x))
 (hstep:∀(i:Nat),i<t.size→ ∀x,W (x,t,(i:Int))=W (f x (t.data.toList.getD i 0),t,((i+1:Nat):Int))) (x:Int):W (x,t,0)=some (.inl (t.data.toList.foldl f x)):=by
 have e:t.size=t.data.toList.length:=r40 t
 exact t1s W t.data.toList (fun x i=>(x,t,i)) f (fun x=> .inl x) (fun _ _=>True) (fun x _=>by rw[←e];exact hend x)
  (fun i hi x _=>⟨trivial,by
   rw[hstep i (by rw[e];exact hi) x]
   congr 2
   rw[List.getD_eq_getElem?_getD,List.getElem?_eq_getElem hi];rfl⟩) x trivial
theorem p0g (x:Int) (t:ByteArray) (ht:t.size≤1099511627776):s2e (x,t)=some (t.data.toList.foldl q4j x):=by
 have L:=p4j q4j t (W:=t3c) ht
  (fun x=>by rw[s7z];simp only[t2o,u0c,Nat.lt_irrefl,decide_false,cond_false])
  (fun i hi x=>by
   rw[s7z];simp only[t2o,u0c,hi,decide_true,cond_true,y7t hi,zTn]
   have:=p4i (W:=t3d) (fun x=>q1h x) t (i:Int) 8 (o1d x (IntKind.u32.wrap ((t.data.toList.getD i 0).toNat:Int))) 0 rfl
   unfold o1d at this
   rw[show((0:Nat):Int)=0 from rfl] at this
   rw[this]
   simp only[zOb,y7l (show i<4611686018427387904 by omega)]
   rfl) x
 rw[q5f];unfold r26
 simp only[L,zOb]
theorem r9h (x:Int) (t:ByteArray) (ht:t.size≤1099511627776):s2p (x,t)=some (t.data.toList.foldl q4j x):=by
 have L:=p4j q4j t (W:=t3h) ht
  (fun x=>by rw[s8e];simp only[t22,u0c,Nat.lt_irrefl,decide_false,cond_false])
  (fun i hi x=>by
   rw[s8e];simp only[t22,u0c,hi,decide_true,cond_true,y7t hi,zTn]
   have:=p4i (W:=t3i) (fun x=>q1j x) t (i:Int) 8 (o1d x (IntKind.u32.wrap ((t.data.toList.getD i 0).toNat:Int))) 0 rfl
   unfold o1d at this
   rw[show((0:Nat):Int)=0 from rfl] at this
   rw[this]
   simp only[zOb,y7l (show i<4611686018427387904 by omega)]
   rfl) x
 rw[q58];unfold r3w
 simp only[L,zOb]
theorem t80 (t:ByteArray) (ht:t.size≤1099511627776):t1l t=some (q4f t):=by
 rw[q8p];unfold r5q q4f
 have e1:decide ((t.size:Int) >20000)= !decide (t.size≤20000):=by by_cases h:t.size≤20000<;>simp[h] <;>omega
 rw[e1,p0z];unfold r9m
 rw[p0g _ _ ht]
 simp only[zOb]
 by_cases h:t.size≤20000
 ·rw[decide_eq_true h,if_pos h]
  simp only[Bool.not_true,cond_false]
  rw[r4b (by rw[u4j];simp;omega)]
  rfl
 ·rw[decide_eq_false h,if_neg h];rfl
theorem s5k (t:ByteArray) (ht:t.size≤1099511627776):t5i t=some (q4f t):=by
 rw[q9d];unfold r6g q4f
 have e1:decide ((t.size:Int) >20000)= !decide (t.size≤20000):=by by_cases h:t.size≤20000<;>simp[h] <;>omega
 rw[e1,r96];unfold s96
 rw[r9h _ _ ht]
 simp only[zOb]
 rw[r4c];unfold r32
 simp only[zOb]
 by_cases h:t.size≤20000
 ·rw[decide_eq_true h,if_pos h]
  simp only[Bool.not_true,cond_false]
  rw[r4b (by rw[u4j];simp;omega)]
  rfl
 ·rw[decide_eq_false h,if_neg h];rfl
theorem u76 (k:Int):(y7g [k]).size=1:=u4j _
theorem r14 {k:Int} (h0:0≤k) (h1:k≤255): [IntKind.u8.wrap k] =z7t (y7g [IntKind.u8.wrap k]):=by
 obtain⟨n,rfl⟩:∃n:Nat,k=n:=⟨k.toNat,by omega⟩
 rw[p3t,show((n:Int) % 256)=n by omega]
 unfold z7t y7g
 simp
 omega
theorem t8w (r:s5j) (hw:o4t.wt r≤549755813888):u64 r=some (u16 r):=by
 have hr:=r1g r
 rw[r8j];unfold s3h u16
 rw[r5j r hw]
 simp only[zOb]
 cases hc:u5k r
 ·rfl
 ·have h:=p95.mp hc
  have hz:=s4o h
  simp only[Bool.not_true,cond_false,if_true]
  cases h with
  | thr t h hs=>
   have:=t5o h
   have ht:=t7c t (by have:u0o.wt t≤o4t.wt (1,t,emp,false,u3p):=by rw[hr];simp only;omega
                      omega)
   rw[if_pos (r7l.mpr h)] at ht
   simp only[Int.reduceEq,decide_true,decide_false,cond_true,cond_false]
   rw[ht]
   simp only[zOb]
   rw[r4b (by rw[u76];omega),s5k _ (by rw[ByteArray.size_append,u76];omega)]
   rfl
  | rdy t h hs=>
   have:=t5o h
   have ht:=t7c t (by have:u0o.wt t≤o4t.wt (2,t,emp,false,u3p):=by rw[hr];simp only;omega
                      omega)
   rw[if_pos (r7l.mpr h)] at ht
   simp only[Int.reduceEq,decide_true,decide_false,cond_true,cond_false]
   rw[ht]
   simp only[zOb]
   rw[r4b (by rw[u76];omega),s5k _ (by rw[ByteArray.size_append,u76];omega)]
   rfl
  | fin n y h=>
   have:=u5u h
   have q:=u0r (s:=n) (by omega)
   simp only[Int.reduceEq,decide_true,decide_false,cond_true,cond_false]
   rw[t34 (by omega)]
   simp only[zOb]
   rw[r4b (by rw[u76];omega),q1m]
   simp only[zOb]
   rw[r4b (by simp only[ByteArray.size_append,u76,u2o];omega),s5k _ (by simp only[ByteArray.size_append,u76,u2o];omega),u6k]
   rfl
  | bas b h=>
   have:=r72 h
   have a1:=(p76.mp h.vs).2.2
   have a2:=h.plen
   have a3:=h.rlen
   have ht:=q71 b (by have:q43.wt b≤o4t.wt (4,u6d,emp,false,b):=by rw[hr];simp only;omega
                      omega)
   rw[if_pos (q62.mpr h)] at ht
   simp only[Int.reduceEq,decide_true,decide_false,cond_true,cond_false]
   rw[ht]
   simp only[zOb]
   rw[r4b (by rw[u76];omega),s5k _ (by rw[ByteArray.size_append,u76];omega)]
   rfl
theorem t8v (r:s5j) (hw:o4t.wt r≤549755813888):u60 r=some (u16 r):=by
 have hr:=r1g r
 rw[r78];unfold s26 u16
 rw[r5i r hw]
 simp only[zOb]
 cases hc:u5k r
 ·rfl
 ·have h:=p95.mp hc
  have hz:=s4o h
  simp only[Bool.not_true,cond_false,if_true]
  cases h with
  | thr t h hs=>
   have:=t5o h
   have ht:=t7b t (by have:u0o.wt t≤o4t.wt (1,t,emp,false,u3p):=by rw[hr];simp only;omega
                      omega)
   rw[if_pos (r7l.mpr h)] at ht
   simp only[Int.reduceEq,decide_true,decide_false,cond_true,cond_false]
   rw[ht]
   simp only[zOb]
   rw[r7y (by rw[u5t];simp;omega),r14 (k:=1) (by omega) (by omega),←t38,t32,t80 _ (by rw[ByteArray.size_append,u76];omega)]
   rfl
  | rdy t h hs=>
   have:=t5o h
   have ht:=t7b t (by have:u0o.wt t≤o4t.wt (2,t,emp,false,u3p):=by rw[hr];simp only;omega
                      omega)
   rw[if_pos (r7l.mpr h)] at ht
   simp only[Int.reduceEq,decide_true,decide_false,cond_true,cond_false]
   rw[ht]
   simp only[zOb]
   rw[r7y (by rw[u5t];simp;omega),r14 (k:=2) (by omega) (by omega),←t38,t32,t80 _ (by rw[ByteArray.size_append,u76];omega)]
   rfl
  | fin n y h=>
   have:=u5u h
   have q:=u0r (s:=n) (by omega)
   simp only[Int.reduceEq,decide_true,decide_false,cond_true,cond_false]
   rw[r14 (k:=3) (by omega) (by omega),t7j _ [n] (by intro m hm;simp only[List.mem_cons,List.mem_nil_iff,or_false] at hm;subst hm;omega) (by simp) (by rw[u76];omega)]
   simp only[zOb]
   rw[s5p,s1i _ _ (by rw[ByteArray.size_append,u76];omega)]
   simp only[zOb]
   rw[t32,t80 _ (by simp only[ByteArray.size_append,u76,u2o];omega),u6k]
   rfl
  | bas b h=>
   have:=r72 h
   have a1:=(p76.mp h.vs).2.2
   have a2:=h.plen
   have a3:=h.rlen
   have ht:=q70 b (by have:q43.wt b≤o4t.wt (4,u6d,emp,false,b):=by rw[hr];simp only;omega
                      omega)
   rw[if_pos (q62.mpr h)] at ht
   simp only[Int.reduceEq,decide_true,decide_false,cond_true,cond_false]
   rw[ht]
   simp only[zOb]
   rw[r7y (by rw[u5t];simp;omega),r14 (k:=4) (by omega) (by omega),←t38,t32,t80 _ (by rw[ByteArray.size_append,u76];omega)]
   rfl
end
section
def inT (s:ByteArray) (c:Cur):Prop:=0≤c.1∧c.1≤(s.size:Int)
def bad (c:Cur) (k:Int):Int:=if c.2=true then k else 0
theorem u1t {s:ByteArray} {c:Cur} (h:inT s c):inT s (u13 s c).2∧0≤(u13 s c).1∧(u13 s c).1≤1000000000∧c.1+1≤(u13 s c).2.1+bad (u13 s c).2 1:=by
 unfold u13
 split
 ·refine⟨h,by simp,by simp,?_⟩
  simp only[bad,if_true];omega
 ·rename_i q
  simp only[not_or,Bool.not_eq_true,Bool.not_eq_false] at q
  have:=t4c q.2
  refine⟨⟨?_,?_⟩,?_,?_,?_⟩
  ·simp only;omega
  ·simp only;omega
  ·simp only;omega
  ·simp only;omega
  ·simp only[bad,Bool.false_eq_true,if_false];omega
theorem q6n {t:ByteArray} {a:Int} (h:(u0m t a).2.2=true):a+1+((u0m t a).1.size:Int)≤(u0m t a).2.1∧0≤a:=by
 unfold u0m at h ⊢
 split at h
 ·rename_i hc
  rw[if_pos hc]
  have:=t4c hc.1
  simp only[ByteArray.size_extract]
  omega
 ·cases h
theorem u58 {s:ByteArray} {c:Cur} (h:inT s c):inT s (u19 s c).2∧c.1+1+((u19 s c).1.size:Int)≤(u19 s c).2.1+bad (u19 s c).2 1:=by
 unfold u19
 split
 ·refine⟨h,?_⟩
  simp only[bad,if_true,emp,ByteArray.size];simp
 ·rename_i q
  simp only[not_or,Bool.not_eq_true,Bool.not_eq_false] at q
  have h1:=r1f q.2
  have h2:=q6n q.2
  refine⟨⟨?_,?_⟩,?_⟩
  ·simp only;omega
  ·simp only;omega
  ·simp only[bad,Bool.false_eq_true,if_false];omega
theorem p4g {s:ByteArray} {c:Cur} (h:inT s c):inT s (r7z s c).2∧c.1+1≤(r7z s c).2.1+bad (r7z s c).2 1:=by
 unfold r7z
 split
 ·refine⟨h,?_⟩
  simp only[bad,if_true];omega
 ·rename_i q
  simp only[not_or,Decidable.not_not] at q
  unfold inT
  simp only[bad,Bool.false_eq_true,if_false];omega
theorem u6y (c:Cur) {k:Int} (hk:0≤k):0≤bad c k∧bad c k≤k:=by unfold bad;split<;>omega
theorem r6q {c c' :Cur} (h:c.2=true→c'.2=true) {k:Int} (hk:0≤k):bad c k≤bad c' k:=by
 unfold bad
 by_cases q:c.2=true
 ·rw[if_pos q,if_pos (h q)];omega
 ·rw[if_neg q];split<;>omega
def o0i {E:Type} (w:E→Nat) (k:Int) (s:ByteArray) (f:Cur→E×Cur):Prop:= ∀c,inT s c→inT s (f c).2∧c.1+1+(w (f c).1:Int)≤(f c).2.1+bad (f c).2 k
theorem t2g {E:Type} {w:E→Nat} {k:Int} {s:ByteArray} {f:Cur→E×Cur} (hk:0≤k) (hf:o0i w k s f):∀(n:Nat) (c:Cur) (a:List E),inT s c→
 inT s (u2a f n c a).2∧c.1+((u2a f n c a).1.length+((u2a f n c a).1.map w).sum:Nat)≤(u2a f n c a).2.1+(a.length+(a.map w).sum:Nat)+bad (u2a f n c a).2 k
 | 0,c,a,h=>⟨h,by have:=u6y (u2a f 0 c a).2 hk;simp only[u2a] at*;omega⟩
 | n+1,c,a,h=>by
  simp only[u2a]
  split
  ·exact⟨h,by have:=u6y c hk;simp only;omega⟩
  ·obtain⟨h1,h2⟩:=hf c h
   obtain⟨h3,h4⟩:=t2g hk hf n (f c).2 (a++ [(f c).1]) h1
   refine⟨h3,?_⟩
   have e1:(a++ [(f c).1]).length=a.length+1:=by simp
   have e2:((a++ [(f c).1]).map w).sum=(a.map w).sum+w (f c).1:=by simp
   rw[e1,e2] at h4
   have hm:bad (f c).2 k≤bad (u2a f n (f c).2 (a++ [(f c).1])).2 k∧(bad (f c).2 k≠0→u2a f n (f c).2 (a++ [(f c).1])=(a++ [(f c).1],(f c).2)):=by
    by_cases q:(f c).2.2=true
    ·rw[t2f q];exact⟨Int.le_refl _,fun _=>rfl⟩
    ·have:bad (f c).2 k=0:=by unfold bad;rw[if_neg q]
     rw[this];exact⟨(u6y _ hk).1,fun h=>absurd rfl h⟩
   by_cases z:bad (f c).2 k=0
   ·omega
   ·have e:=hm.2 z
    rw[e]
    simp only[e1,e2]
    omega
theorem r1a (s:ByteArray):o0i u1z.wt 2 s (q9t s):=fun c h=>by
 obtain⟨h1,h2⟩:=u58 h
 obtain⟨h3,h4⟩:=u58 h1
 have b1:=r6q (c:=(u19 s c).2) (c' :=(u19 s (u19 s c).2).2) s4m (k:=1) (by omega)
 have b2:bad (u19 s (u19 s c).2).2 2=2*bad (u19 s (u19 s c).2).2 1:=by unfold bad;split<;>omega
 refine⟨h3,?_⟩
 have e:u1z.wt (q9t s c).1=(u19 s c).1.size+(u19 s (u19 s c).2).1.size:=rfl
 have e2:(q9t s c).2=(u19 s (u19 s c).2).2:=rfl
 rw[e,e2];omega
theorem r7e (s:ByteArray):o0i u01.wt 3 s (rWr s):=fun c h=>by
 obtain⟨h1,h2⟩:=u58 h
 obtain⟨h3,h4⟩:=u58 h1
 obtain⟨h5,h6⟩:=p4g h3
 have b1:=r6q (c:=(u19 s c).2) (c' :=(u19 s (u19 s c).2).2) s4m (k:=1) (by omega)
 have b2:=r6q (c:=(u19 s (u19 s c).2).2) (c' :=(r7z s (u19 s (u19 s c).2).2).2) r7d (k:=1) (by omega)
 have b3:bad (r7z s (u19 s (u19 s c).2).2).2 3=3*bad (r7z s (u19 s (u19 s c).2).2).2 1:=by unfold bad;split<;>omega
 refine⟨h5,?_⟩
 have e:u01.wt (rWr s c).1=(u19 s c).1.size+((u19 s (u19 s c).2).1.size+0):=rfl
 have e2:(rWr s c).2=(r7z s (u19 s (u19 s c).2).2).2:=rfl
 rw[e,e2];omega
theorem r1c (s:ByteArray):o0i u0b.wt 4 s (q9v s):=fun c h=>by
 obtain⟨h1,h2⟩:=r7e s c h
 obtain⟨h3,h4,h5,h6⟩:=u1t h1
 have b1:=r6q (c:=(rWr s c).2) (c' :=(u13 s (rWr s c).2).2) u78 (k:=3) (by omega)
 have b3:bad (u13 s (rWr s c).2).2 4=bad (u13 s (rWr s c).2).2 1+bad (u13 s (rWr s c).2).2 3:=by unfold bad;split<;>omega
 refine⟨h3,?_⟩
 have e:u0b.wt (q9v s c).1=u01.wt (rWr s c).1:=rfl
 have e2:(q9v s c).2=(u13 s (rWr s c).2).2:=rfl
 rw[e,e2];omega
theorem q38 (m:Nat) (s:ByteArray):o0i u0o.wt 20 s (q1r m s):=fun c h=>by
 unfold q1r
 simp only
 obtain⟨a1,a2,a3,a4⟩:=u1t h
 generalize hA:u13 s c=A at a1 a2 a3 a4 ⊢
 obtain⟨b1,b2,b3,b4⟩:=u1t a1
 have mB:A.2.2=true→(u13 s A.2).2.2=true:=u78
 generalize hB:u13 s A.2=B at b1 b2 b3 b4 mB ⊢
 obtain⟨d1,d2,d3,d4⟩:=u1t b1
 have mD:B.2.2=true→(u13 s B.2).2.2=true:=u78
 generalize hD:u13 s B.2=D at d1 d2 d3 d4 mD ⊢
 obtain⟨e1,e2,e3,e4⟩:=u1t d1
 have mE:D.2.2=true→(u13 s D.2).2.2=true:=u78
 generalize hE:u13 s D.2=E at e1 e2 e3 e4 mE ⊢
 obtain⟨f1,f2,f3,f4⟩:=u1t e1
 have mF:E.2.2=true→(u13 s E.2).2.2=true:=u78
 generalize hF:u13 s E.2=F at f1 f2 f3 f4 mF ⊢
 obtain⟨g1,g2⟩:=t2g (by omega) (r1a s) (min F.1.toNat m) F.2 [] f1
 have mG:F.2.2=true→(u2a (q9t s) (min F.1.toNat m) F.2 []).2.2=true:=fun q=>by rw[t2f q];exact q
 generalize hG:u2a (q9t s) (min F.1.toNat m) F.2 [] =G at g1 g2 mG ⊢
 obtain⟨k1,k2,k3,k4⟩:=u1t g1
 have mK:G.2.2=true→(u13 s G.2).2.2=true:=u78
 generalize hK:u13 s G.2=K at k1 k2 k3 k4 mK ⊢
 obtain⟨l1,l2⟩:=t2g (by omega) (r7e s) (min K.1.toNat m) K.2 [] k1
 have mL:K.2.2=true→(u2a (rWr s) (min K.1.toNat m) K.2 []).2.2=true:=fun q=>by rw[t2f q];exact q
 generalize hL:u2a (rWr s) (min K.1.toNat m) K.2 [] =L at l1 l2 mL ⊢
 obtain⟨o1,o2⟩:=p4g l1
 have mO:L.2.2=true→(r7z s L.2).2.2=true:=r7d
 generalize hO:r7z s L.2=O at o1 o2 mO ⊢
 obtain⟨p1,p2⟩:=u58 o1
 have mP:O.2.2=true→(u19 s O.2).2.2=true:=s4m
 generalize hP:u19 s O.2=P at p1 p2 mP ⊢
 refine⟨p1,?_⟩
 have e:u0o.wt (A.1,B.1,D.1,E.1,G.1,L.1,O.1,P.1)=0+(0+(0+(0+((Ty.sl u1z).wt G.1+((Ty.sl u01).wt L.1+(0+P.1.size)))))):=rfl
 have eG:(Ty.sl u1z).wt G.1=G.1.length+(G.1.map u1z.wt).sum:=rfl
 have eL:(Ty.sl u01).wt L.1=L.1.length+(L.1.map u01.wt).sum:=rfl
 simp only[List.length_nil,List.map_nil,List.sum_nil] at g2 l2
 rw[e,eG,eL]
 by_cases q:P.2.2=true
 ·have:bad P.2 20=20:=by unfold bad;rw[if_pos q]
  rw[this]
  have t1:=(u6y A.2 (k:=1) (by omega)).2
  have t2:=(u6y B.2 (k:=1) (by omega)).2
  have t3:=(u6y D.2 (k:=1) (by omega)).2
  have t4:=(u6y E.2 (k:=1) (by omega)).2
  have t5:=(u6y F.2 (k:=1) (by omega)).2
  have t6:=(u6y G.2 (k:=2) (by omega)).2
  have t7:=(u6y K.2 (k:=1) (by omega)).2
  have t8:=(u6y L.2 (k:=3) (by omega)).2
  have t9:=(u6y O.2 (k:=1) (by omega)).2
  have t10:=(u6y P.2 (k:=1) (by omega)).2
  omega
 ·have zP:P.2.2=false:=by simpa using q
  have z:∀ {x y:Cur},(x.2=true→y.2=true)→y.2=false→x.2=false:=fun {x y} i j=>by
   cases w:x.2
   ·rfl
   ·rw[i w] at j;cases j
  have zO:=z mP zP
  have zL:=z mO zO
  have zK:=z mL zL
  have zG:=z mK zK
  have zF:=z mG zG
  have zE:=z mF zF
  have zD:=z mE zE
  have zB:=z mD zD
  have zA:=z mB zB
  simp only[bad,zP,zO,zL,zK,zG,zF,zE,zD,zB,zA,Bool.false_eq_true,if_false] at*
  omega
theorem s4k (m:Nat) (s:ByteArray):o0i u0o.wt 20 s (u45 m s):=fun c h=>by
 obtain⟨h1,h2⟩:=q38 m s c h
 refine⟨h1,?_⟩
 have:bad (q1r m s c).2 20≤bad (u45 m s c).2 20:=r6q (fun q=>by unfold u45;simp only[q,Bool.true_or]) (by omega)
 have e1:(u45 m s c).1=(q1r m s c).1:=rfl
 have e2:(u45 m s c).2.1=(q1r m s c).2.1:=rfl
 rw[e1,e2];omega
end
section
theorem t3m {s:ByteArray} (c:Cur) (hs:s.size≤u0l):u02 (s,c)=some ((u13 s c).1,s,(u13 s c).2):=by
 rw[r8c];unfold s3a u13
 simp only[r9c s c.1 hs,zOb]
 cases h1:c.2
 ·cases h2:(u0n s c.1).2.2<;>simp
 ·simp
theorem t7n {s:ByteArray} (c:Cur) (hs:s.size≤u0l):u1x (s,c)=some ((u19 s c).1,s,(u19 s c).2):=by
 rw[r63];unfold s0z u19
 simp only[r2u s c.1 hs,zOb]
 cases h1:c.2
 ·cases h2:(u0m s c.1).2.2
  ·simp[emp]
  ·simp
 ·simp[emp]
theorem gt1 (n:Nat):decide ((n:Int) >1)=decide (1<n):=by simp;omega
theorem eq1 (n:Nat):decide ((n:Int)=1)=decide (n=1):=by simp;omega
theorem r66 {s:ByteArray} (c:Cur) (hs:s.size≤u0l):u4s (s,c)=some ((r7z s c).1,s,(r7z s c).2):=by
 have hb:u0l=1099511627776:=rfl
 rw[r62];unfold s0y r7z
 simp only[t7p]
 rw[y4y (n:=(s.size:Int) - 1) (by omega) (by omega)]
 cases h1:c.2
 ·by_cases h2:0≤c.1∧c.1<(s.size:Int)
  ·obtain⟨k,hk⟩:∃k:Nat,c.1=k:=⟨c.1.toNat,by omega⟩
   have e1:r47 c.1 0 ((s.size:Int) - 1)=true:=by rw[s2a];exact decide_eq_true (by omega)
   have e2:IntKind.i64.wrap (IntKind.i64.wrap (c.1+1) - 1)=c.1:=by rw[y4y (n:=c.1+1) (by omega) (by omega),y4y (by omega) (by omega)];omega
   have e3:IntKind.i64.wrap (c.1+1)=c.1+1:=y4y (by omega) (by omega)
   rw[hk] at e1 e2 e3 ⊢
   have e4:IntKind.i64.wrap (k:Int)=k:=y4y (by omega) (by omega)
   have e5:IntKind.i64.wrap ((k:Int)+1 - 1)=k:=by rw[y4y (by omega) (by omega)];omega
   simp only[e1,e2,e3,e5,cond_false,zOb,Bool.not_true,y7t (show k<s.size by omega),cond_true,zTn,gt1,eq1]
   rw[show(s.data.toList.getD k 0).toNat=u5n s k from rfl]
   by_cases h3:1<u5n s k
   ·simp[h3]
   ·have h3' :u5n s k≤1:=by omega
    have h4:((k:Int)<(s.size:Int)):=by omega
    simp[h3,h3',show k<s.size by omega,e4,y7t (show k<s.size by omega)]
  ·have e1:r47 c.1 0 ((s.size:Int) - 1)=false:=by rw[s2a];exact decide_eq_false (by omega)
   simp only[e1,cond_false,zOb,Bool.not_false,cond_true]
   rw[if_pos (.inr (.inl h2))]
 ·simp
theorem t7h {E X R U:Type} {s:ByteArray} (W:X→Option (R⊕U)) (mk:Cur→List E→Int→X) (res:Cur→List E→R) (f:Cur→E×Cur) (N:Nat)
 (hf:∀c,inT s c→inT s (f c).2)
 (hend:∀c a (i:Nat),(N≤i∨c.2=true)→W (mk c a (i:Int))=some (.inl (res c a)))
 (hstep:∀c a (i:Nat),i<N→c.2=false→inT s c→a.length≤i→W (mk c a (i:Int))=W (mk (f c).2 (a++ [(f c).1]) ((i+1:Nat):Int))):
 ∀(k i:Nat) c a,i+k=N→inT s c→a.length≤i→W (mk c a (i:Int))=some (.inl (res (u2a f k c a).2 (u2a f k c a).1)):=by
 intro k
 induction k with
 | zero=>intro i c a hi hc ha;exact hend c a i (.inl (by omega))
 | succ k ih=>
  intro i c a hi hc ha
  simp only[u2a]
  split
  ·rename_i q;exact hend c a i (.inr q)
  ·rename_i q
   rw[hstep c a i (by omega) (by simpa using q) hc ha,ih (i+1) _ _ (by omega) (hf c hc) (by simp;omega)]
theorem r6s {n:Int} {i:Nat} {c:Cur} (h:n.toNat≤i∨c.2=true):((bif decide ((i:Int)<n) then some (!c.2) else some false:Option Bool))=some false:=by
 rcases h with h | h
 ·rw[decide_eq_false (by omega)];rfl
 ·rw[h];cases decide ((i:Int)<n)<;>rfl
theorem r0h {n:Int} {i:Nat} {c:Cur} (h:i<n.toNat) (hc:c.2=false):((bif decide ((i:Int)<n) then some (!c.2) else some false:Option Bool))=some true:=by
 rw[decide_eq_true (by omega),hc];rfl
theorem r0j {E:Type} {w:E→Nat} {k:Int} {s:ByteArray} {f:Cur→E×Cur} (h:o0i w k s f):∀c,inT s c→inT s (f c).2:=fun c hc=>(h c hc).1
theorem p7i {s:ByteArray} (hs:s.size≤u0l) (t:u0i) (ht:t.2.2.2.2.1= []) {c:Cur} (hc:inT s c):
 u2q ((s,c),t,())=some ((s,(u2a (q9t s) (min (u13 s c).1.toNat 1000000000) (u13 s c).2 []).2),
  (t.1,t.2.1,t.2.2.1,t.2.2.2.1,(u2a (q9t s) (min (u13 s c).1.toNat 1000000000) (u13 s c).2 []).1,t.2.2.2.2.2),()):=by
 obtain⟨h1,h2,h3,h4⟩:=u1t hc
 rw[t18];unfold u5a
 simp only
 rw[t3m c hs]
 simp only[zOb]
 generalize u13 s c=y at h1 h2 h3 h4 ⊢
 have L:=t7h (s:=s) u0x (fun(c:Cur) (a:List q6v) i=>((s,c),(((t.1,t.2.1,t.2.2.1,t.2.2.2.1,a,t.2.2.2.2.2):u0i),()),y.1,i))
  (fun(c:Cur) (a:List q6v)=>((s,c),((t.1,t.2.1,t.2.2.1,t.2.2.2.1,a,t.2.2.2.2.2):u0i),())) (q9t s) y.1.toNat (r0j (r1a s))
  (fun c a i h=>by rw[u4t];simp only[u1r];rw[r6s h];rfl)
  (fun c a i h hc2 hin ha=>by
   rw[u4t];simp only[u1r];rw[r0h h hc2]
   simp only[zOb,cond_true]
   rw[r41];unfold t81
   simp only
   rw[t7n c hs]
   simp only[zOb]
   rw[t7n _ hs]
   simp only[zOb]
   rw[r7y (by simp;omega),y7l (by omega)]
   rfl) y.1.toNat 0 y.2 [] (by omega) h1 (by simp)
 rw[show min y.1.toNat 1000000000=y.1.toNat by omega]
 obtain⟨t1,t2,t3,t4,t5,t6⟩:=t
 simp only at ht
 subst ht
 have L' :u0x ((s,y.2),(((t1,t2,t3,t4, [],t6):u0i),()),y.1,0)=some (.inl ((s,(u2a (q9t s) y.1.toNat y.2 []).2),((t1,t2,t3,t4,(u2a (q9t s) y.1.toNat y.2 []).1,t6):u0i),())):=L
 rw[L'];rfl
theorem p9r {s:ByteArray} (hs:s.size≤u0l) (t:u0i) (ht:t.2.2.2.2.2.1= []) {c:Cur} (hc:inT s c):
 u2r ((s,c),(),t)=some ((s,(u2a (rWr s) (min (u13 s c).1.toNat 1000000000) (u13 s c).2 []).2),(),
  (t.1,t.2.1,t.2.2.1,t.2.2.2.1,t.2.2.2.2.1,(u2a (rWr s) (min (u13 s c).1.toNat 1000000000) (u13 s c).2 []).1,t.2.2.2.2.2.2)):=by
 obtain⟨h1,h2,h3,h4⟩:=u1t hc
 rw[t19];unfold u5b
 simp only
 rw[t3m c hs]
 simp only[zOb]
 generalize u13 s c=y at h1 h2 h3 h4 ⊢
 have L:=t7h (s:=s) u0y (fun(c:Cur) (a:List WrT) i=>((s,c),((),((t.1,t.2.1,t.2.2.1,t.2.2.2.1,t.2.2.2.2.1,a,t.2.2.2.2.2.2):u0i)),y.1,i))
  (fun(c:Cur) (a:List WrT)=>((s,c),(),((t.1,t.2.1,t.2.2.1,t.2.2.2.1,t.2.2.2.2.1,a,t.2.2.2.2.2.2):u0i))) (rWr s) y.1.toNat (r0j (r7e s))
  (fun c a i h=>by rw[u4u];simp only[u1s];rw[r6s h];rfl)
  (fun c a i h hc2 hin ha=>by
   rw[u4u];simp only[u1s];rw[r0h h hc2]
   simp only[zOb,cond_true]
   rw[r42];unfold t82
   simp only
   rw[t7n c hs]
   simp only[zOb]
   rw[t7n _ hs]
   simp only[zOb]
   rw[r66 _ hs]
   simp only[zOb]
   rw[r7y (by simp;omega),y7l (by omega)]
   rfl) y.1.toNat 0 y.2 [] (by omega) h1 (by simp)
 rw[show min y.1.toNat 1000000000=y.1.toNat by omega]
 obtain⟨t1,t2,t3,t4,t5,t6,t7⟩:=t
 simp only at ht
 subst ht
 have L' :u0y ((s,y.2),((),((t1,t2,t3,t4,t5, [],t7):u0i)),y.1,0)=some (.inl ((s,(u2a (rWr s) y.1.toNat y.2 []).2),(),((t1,t2,t3,t4,t5,(u2a (rWr s) y.1.toNat y.2 []).1,t7):u0i))):=L
 rw[L'];rfl
theorem q9z {s:ByteArray} (hs:s.size≤1048576) {c:Cur} (hc:inT s c):u62 (s,c)=some ((u45 1000000000 s c).1,s,(u45 1000000000 s c).2):=by
 have hb:u0l=1099511627776:=rfl
 have hs' :s.size≤u0l:=by omega
 have hw:=q38 1000000000 s c hc
 have hin:=hc
 unfold inT at hin
 have hwt:u0o.wt (q1r 1000000000 s c).1≤u0l:=by
  have h1:=hw.1
  unfold inT at h1
  have:=(u6y (q1r 1000000000 s c).2 (k:=20) (by omega)).2
  have:=hw.2
  omega
 have hk:=t8s _ hwt
 rw[r8d];unfold s3b
 unfold u45
 unfold q1r at hk ⊢
 simp only at hk ⊢
 rw[t3m c hs']
 simp only[zOb]
 have i1:=(u1t hc).1
 rw[t3m _ hs']
 simp only[zOb]
 have i2:=(u1t i1).1
 rw[t3m _ hs']
 simp only[zOb]
 have i3:=(u1t i2).1
 rw[t3m _ hs']
 simp only[zOb]
 have i4:=(u1t i3).1
 rw[p7i hs' _ rfl i4]
 simp only[zOb]
 have i5:=(t2g (by omega) (r1a s) (min (u13 s (u13 s (u13 s (u13 s (u13 s c).2).2).2).2).1.toNat 1000000000) (u13 s (u13 s (u13 s (u13 s (u13 s c).2).2).2).2).2 [] (u1t i4).1).1
 rw[p9r hs' _ rfl i5]
 simp only[zOb]
 rw[r66 _ hs']
 simp only[zOb]
 rw[t7n _ hs']
 simp only[zOb]
 rw[hk]
 simp only[zOb]
 generalize u19 s _=z
 cases h:z.2.2
 ·simp
 ·simp
end
section
def o0t:Lim:=⟨1000000000,1000000000,1000000000,1000000000⟩
theorem o0u:o0t.ok:=⟨by decide,by decide,by decide,by decide⟩
theorem q9u {m k:Nat} {s:ByteArray} {c:Cur} (h:inT s c):inT s (u81 m k s c).2∧c.1+((Ty.sl u0o).wt (u81 m k s c).1:Nat)≤(u81 m k s c).2.1+20+1:=by
 obtain⟨h1,h2,h3,h4⟩:=u1t h
 obtain⟨g1,g2⟩:=t2g (by omega) (s4k m s) (min (u13 s c).1.toNat k) (u13 s c).2 [] h1
 refine⟨g1,?_⟩
 have e:(Ty.sl u0o).wt (u81 m k s c).1=(u81 m k s c).1.length+((u81 m k s c).1.map u0o.wt).sum:=rfl
 rw[e]
 have t1:=(u6y (u13 s c).2 (k:=1) (by omega)).2
 have t2:=(u6y (u2a (u45 m s) (min (u13 s c).1.toNat k) (u13 s c).2 []).2 (k:=20) (by omega)).2
 unfold u81
 simp only[List.length_nil,List.map_nil,List.sum_nil] at g2
 omega
theorem q9s (m:Lim) {s:ByteArray} {c:Cur} (h:inT s c):inT s (s4l m s c).2∧(q43.wt (s4l m s c).1:Int)≤(s.size:Int)+100:=by
 unfold s4l
 simp only
 obtain⟨a1,a2,a3,a4⟩:=u1t h
 obtain⟨b1,b2,b3,b4⟩:=u1t a1
 obtain⟨d1,d2,d3,d4⟩:=u1t b1
 obtain⟨g1,g2⟩:=t2g (by omega) (r1c s) (min (u13 s (u13 s (u13 s c).2).2).1.toNat m.v) (u13 s (u13 s (u13 s c).2).2).2 [] d1
 obtain⟨p1,p2⟩:=q9u (m:=m.t) (k:=m.p) g1
 obtain⟨q1,q2⟩:=q9u (m:=m.t) (k:=m.r) p1
 refine⟨q1,?_⟩
 have t1:=(u6y (u2a (q9v s) (min (u13 s (u13 s (u13 s c).2).2).1.toNat m.v) (u13 s (u13 s (u13 s c).2).2).2 []).2 (k:=4) (by omega)).2
 have u1:=(u6y (u13 s c).2 (k:=1) (by omega)).2
 have u2:=(u6y (u13 s (u13 s c).2).2 (k:=1) (by omega)).2
 have u3:=(u6y (u13 s (u13 s (u13 s c).2).2).2 (k:=1) (by omega)).2
 generalize u2a (q9v s) (min (u13 s (u13 s (u13 s c).2).2).1.toNat m.v) (u13 s (u13 s (u13 s c).2).2).2 [] =vs at*
 simp only[List.length_nil,List.map_nil,List.sum_nil] at g2
 have e:=s5o (vs.1,(u81 m.t m.p s vs.2).1,(u81 m.t m.r s (u81 m.t m.p s vs.2).2).1,(u13 s c).1,(u13 s (u13 s c).2).1)
 simp only at e
 have eV:(Ty.sl u0b).wt vs.1=vs.1.length+(vs.1.map u0b.wt).sum:=rfl
 unfold inT at q1 h
 rw[e,eV]
 omega
theorem p7x {s:ByteArray} (hs:s.size≤u0l) (b:u0j) (ht:b.1= []) {c:Cur} (hc:inT s c):
 u2i ((s,c),(),b)=some ((s,(u2a (q9v s) (min (u13 s c).1.toNat 1000000000) (u13 s c).2 []).2),(),
  ((u2a (q9v s) (min (u13 s c).1.toNat 1000000000) (u13 s c).2 []).1,b.2)):=by
 obtain⟨h1,h2,h3,h4⟩:=u1t hc
 rw[t11];unfold u41
 simp only
 rw[t3m c hs]
 simp only[zOb]
 generalize u13 s c=y at h1 h2 h3 h4 ⊢
 have L:=t7h (s:=s) u0s (fun(c:Cur) (a:List u14) i=>((s,c),((),((a,b.2):u0j)),y.1,i))
  (fun(c:Cur) (a:List u14)=>((s,c),(),((a,b.2):u0j))) (q9v s) y.1.toNat (r0j (r1c s))
  (fun c a i h=>by rw[u4k];simp only[u1k];rw[r6s h];rfl)
  (fun c a i h hc2 hin ha=>by
   rw[u4k];simp only[u1k];rw[r0h h hc2]
   simp only[zOb,cond_true]
   rw[r2m];unfold t71
   simp only
   rw[t7n c hs]
   simp only[zOb]
   rw[t7n _ hs]
   simp only[zOb]
   rw[r66 _ hs]
   simp only[zOb]
   rw[t3m _ hs]
   simp only[zOb]
   rw[r7y (by simp;omega),y7l (by omega)]
   rfl) y.1.toNat 0 y.2 [] (by omega) h1 (by simp)
 rw[show min y.1.toNat 1000000000=y.1.toNat by omega]
 obtain⟨b1,b2⟩:=b
 simp only at ht
 subst ht
 have L' :u0s ((s,y.2),((),(([],b2):u0j)),y.1,0)=some (.inl ((s,(u2a (q9v s) y.1.toNat y.2 []).2),(),(((u2a (q9v s) y.1.toNat y.2 []).1,b2):u0j))):=L
 rw[L'];rfl
theorem p7d {s:ByteArray} (hs:s.size≤1048576) (b:u0j) (ht:b.2.1= []) {c:Cur} (hc:inT s c):
 u2j ((s,c),b,())=some ((s,(u81 1000000000 1000000000 s c).2),(b.1,(u81 1000000000 1000000000 s c).1,b.2.2),()):=by
 have hb:u0l=1099511627776:=rfl
 obtain⟨h1,h2,h3,h4⟩:=u1t hc
 rw[t12];unfold u42 u81
 simp only
 rw[t3m c (by omega)]
 simp only[zOb]
 generalize u13 s c=y at h1 h2 h3 h4 ⊢
 have L:=t7h (s:=s) u0t (fun(c:Cur) (a:List u0i) i=>((s,c),(((b.1,a,b.2.2):u0j),()),y.1,i))
  (fun(c:Cur) (a:List u0i)=>((s,c),((b.1,a,b.2.2):u0j),())) (u45 1000000000 s) y.1.toNat (r0j (s4k _ s))
  (fun c a i h=>by rw[u4l];simp only[u1l];rw[r6s h];rfl)
  (fun c a i h hc2 hin ha=>by
   rw[u4l];simp only[u1l];rw[r0h h hc2]
   simp only[zOb,cond_true]
   rw[r2n];unfold t72
   simp only
   rw[q9z hs hin]
   simp only[zOb]
   rw[r7y (by simp;omega),y7l (by omega)];rfl) y.1.toNat 0 y.2 [] (by omega) h1 (by simp)
 rw[show min y.1.toNat 1000000000=y.1.toNat by omega]
 obtain⟨b1,b2,b3⟩:=b
 simp only at ht
 subst ht
 have L' :u0t ((s,y.2),(((b1, [],b3):u0j),()),y.1,0)=some (.inl ((s,(u2a (u45 1000000000 s) y.1.toNat y.2 []).2),((b1,(u2a (u45 1000000000 s) y.1.toNat y.2 []).1,b3):u0j),())):=L
 rw[L'];rfl
theorem p5p {s:ByteArray} (hs:s.size≤1048576) (b:u0j) (ht:b.2.2.1= []) {c:Cur} (hc:inT s c):
 u2k ((s,c),b,())=some ((s,(u81 1000000000 1000000000 s c).2),(b.1,b.2.1,(u81 1000000000 1000000000 s c).1,b.2.2.2),()):=by
 have hb:u0l=1099511627776:=rfl
 obtain⟨h1,h2,h3,h4⟩:=u1t hc
 rw[t13];unfold u43 u81
 simp only
 rw[t3m c (by omega)]
 simp only[zOb]
 generalize u13 s c=y at h1 h2 h3 h4 ⊢
 have L:=t7h (s:=s) u0u (fun(c:Cur) (a:List u0i) i=>((s,c),(((b.1,b.2.1,a,b.2.2.2):u0j),()),y.1,i))
  (fun(c:Cur) (a:List u0i)=>((s,c),((b.1,b.2.1,a,b.2.2.2):u0j),())) (u45 1000000000 s) y.1.toNat (r0j (s4k _ s))
  (fun c a i h=>by rw[u4m];simp only[u1m];rw[r6s h];rfl)
  (fun c a i h hc2 hin ha=>by
   rw[u4m];simp only[u1m];rw[r0h h hc2]
   simp only[zOb,cond_true]
   rw[r2o];unfold t73
   simp only
   rw[q9z hs hin]
   simp only[zOb]
   rw[r7y (by simp;omega),y7l (by omega)];rfl) y.1.toNat 0 y.2 [] (by omega) h1 (by simp)
 rw[show min y.1.toNat 1000000000=y.1.toNat by omega]
 obtain⟨b1,b2,b3,b4⟩:=b
 simp only at ht
 subst ht
 have L' :u0u ((s,y.2),(((b1,b2, [],b4):u0j),()),y.1,0)=some (.inl ((s,(u2a (u45 1000000000 s) y.1.toNat y.2 []).2),((b1,b2,(u2a (u45 1000000000 s) y.1.toNat y.2 []).1,b4):u0j),())):=L
 rw[L'];rfl
theorem p6t {s:ByteArray} (hs:s.size≤1048576) {c:Cur} (hc:inT s c):t5d (s,c)=some ((t1w o0t s c).1,s,(t1w o0t s c).2):=by
 have hb:u0l=1099511627776:=rfl
 have hs' :s.size≤u0l:=by omega
 have hw:=q9s o0t (s:=s) hc
 have hk:=u7l (s4l o0t s c).1 (by have:=hw.2;omega)
 rw[r61];unfold s0x
 unfold t1w
 unfold s4l at hk ⊢
 simp only at hk ⊢
 rw[t3m c hs']
 simp only[zOb]
 have i1:=(u1t hc).1
 rw[t3m _ hs']
 simp only[zOb]
 have i2:=(u1t i1).1
 rw[p7x hs' _ rfl i2]
 simp only[zOb]
 have i3:=(t2g (by omega) (r1c s) (min (u13 s (u13 s (u13 s c).2).2).1.toNat 1000000000) (u13 s (u13 s (u13 s c).2).2).2 [] (u1t i2).1).1
 rw[p7d hs _ rfl i3]
 simp only[zOb]
 have i4:=(q9u (m:=1000000000) (k:=1000000000) i3).1
 rw[p5p hs _ rfl i4]
 simp only[zOb]
 rw[show o0t.v=1000000000 from rfl,show o0t.t=1000000000 from rfl,show o0t.p=1000000000 from rfl,show o0t.r=1000000000 from rfl] at hk ⊢
 rw[hk]
 simp only[zOb]
 generalize u81 1000000000 1000000000 s (u81 1000000000 1000000000 s _).2=z
 cases h:z.2.2
 ·simp
 ·simp
end
section
theorem t44 {s:ByteArray} (c:Cur) (hs:s.size≤u0l):u2f (s,c)=some ((u13 s c).1,s,(u13 s c).2):=by
 rw[q9j];unfold r6m u13
 simp only[r9d s c.1 hs,zOb]
 cases h1:c.2
 ·cases h2:(u0n s c.1).2.2<;>simp
 ·simp
theorem t7o {s:ByteArray} (c:Cur) (hs:s.size≤u0l):u1q (s,c)=some ((u19 s c).1,s,(u19 s c).2):=by
 rw[r43];unfold t83 u19
 simp only[r2v s c.1 hs,zOb]
 cases h1:c.2
 ·cases h2:(u0m s c.1).2.2
  ·simp[emp]
  ·simp
 ·simp[emp]
theorem r67 {s:ByteArray} {c:Cur} (hc:inT s c) (hs:s.size≤u0l):u5f (s,c)=some ((r7z s c).1,s,(r7z s c).2):=by
 have hb:u0l=1099511627776:=rfl
 unfold inT at hc
 obtain⟨k,hk⟩:∃k:Nat,c.1=k:=⟨c.1.toNat,by omega⟩
 rw[r8n];unfold s3k r7z
 simp only[hk]
 cases h1:c.2
 ·by_cases h2:k<s.size
  ·have e1:decide ((k:Int)≥(s.size:Int))=false:=decide_eq_false (by omega)
   have e3:IntKind.i64.wrap ((k:Int)+1)=(k:Int)+1:=y4y (by omega) (by omega)
   have e5:IntKind.i64.wrap ((k:Int)+1 - 1)=k:=by rw[y4y (by omega) (by omega)];omega
   rw[e1,e3,e5]
   simp only[cond_false,zOb,y7t h2,cond_true,zTn,gt1,eq1]
   rw[show(s.data.toList.getD k 0).toNat=u5n s k from rfl]
   by_cases h3:1<u5n s k
   ·simp[h3]
   ·have h3' :u5n s k≤1:=by omega
    simp[h3,h3',h2]
  ·have e1:decide ((k:Int)≥(s.size:Int))=true:=decide_eq_true (by omega)
   rw[e1]
   simp only[cond_false,zOb,cond_true]
   rw[if_pos (.inr (.inl (by omega)))]
 ·simp
theorem q2g {n k:Int} {i:Nat} {c:Cur} (h:min n.toNat k.toNat≤i∨c.2=true):((bif decide ((i:Int)<n) then(bif decide ((i:Int)<k) then some (!c.2) else some false) else some false:Option Bool))=some false:=by
 rcases h with h | h
 ·by_cases q:(i:Int)<n
  ·rw[decide_eq_true q,decide_eq_false (show ¬(i:Int)<k by omega)];rfl
  ·rw[decide_eq_false q];rfl
 ·rw[h];cases decide ((i:Int)<n)<;>cases decide ((i:Int)<k)<;>rfl
theorem r73 {n k:Int} {i:Nat} {c:Cur} (h:i<min n.toNat k.toNat) (hc:c.2=false):((bif decide ((i:Int)<n) then(bif decide ((i:Int)<k) then some (!c.2) else some false) else some false:Option Bool))=some true:=by
 rw[decide_eq_true (show(i:Int)<n by omega),decide_eq_true (show(i:Int)<k by omega),hc];rfl
theorem p7j {s:ByteArray} (hs:s.size≤u0l) (z t:u0i) (n:Int) {c:Cur} (hc:inT s c) (ht:t.2.2.2.2.1= []):
 u8n (z,(s,c),t,n,0)=some (.inl (z,(s,(u2a (q9t s) (min n.toNat 10) c []).2),(t.1,t.2.1,t.2.2.1,t.2.2.2.1,(u2a (q9t s) (min n.toNat 10) c []).1,t.2.2.2.2.2))):=by
 have L:=t7h (s:=s) u8n (fun(c:Cur) (a:List q6v) i=>(z,(s,c),((t.1,t.2.1,t.2.2.1,t.2.2.2.1,a,t.2.2.2.2.2):u0i),n,i))
  (fun(c:Cur) (a:List q6v)=>(z,(s,c),((t.1,t.2.1,t.2.2.1,t.2.2.2.1,a,t.2.2.2.2.2):u0i))) (q9t s) (min n.toNat 10) (r0j (r1a s))
  (fun c a i h=>by rw[s8b];simp only[t20];rw[q2g (k:=10) h];rfl)
  (fun c a i h hc2 hin ha=>by
   rw[s8b];simp only[t20];rw[r73 (k:=10) h hc2]
   simp only[zOb,cond_true]
   rw[t7o c hs]
   simp only[zOb]
   rw[t7o _ hs]
   simp only[zOb]
   rw[r7y (by simp;omega),y7l (by omega)]
   rfl) (min n.toNat 10) 0 c [] (by omega) hc (by simp)
 obtain⟨t1,t2,t3,t4,t5,t6⟩:=t
 simp only at ht
 subst ht
 exact L
theorem p9s {s:ByteArray} (hs:s.size≤u0l) (z t:u0i) (n:Int) {c:Cur} (hc:inT s c) (ht:t.2.2.2.2.2.1= []):
 u6u (z,(s,c),t,n,0)=some (.inl (z,(s,(u2a (rWr s) (min n.toNat 10) c []).2),(t.1,t.2.1,t.2.2.1,t.2.2.2.1,t.2.2.2.2.1,(u2a (rWr s) (min n.toNat 10) c []).1,t.2.2.2.2.2.2))):=by
 have L:=t7h (s:=s) u6u (fun(c:Cur) (a:List WrT) i=>(z,(s,c),((t.1,t.2.1,t.2.2.1,t.2.2.2.1,t.2.2.2.2.1,a,t.2.2.2.2.2.2):u0i),n,i))
  (fun(c:Cur) (a:List WrT)=>(z,(s,c),((t.1,t.2.1,t.2.2.1,t.2.2.2.1,t.2.2.2.2.1,a,t.2.2.2.2.2.2):u0i))) (rWr s) (min n.toNat 10) (r0j (r7e s))
  (fun c a i h=>by rw[s45];simp only[t0s];rw[q2g (k:=10) h];rfl)
  (fun c a i h hc2 hin ha=>by
   rw[s45];simp only[t0s];rw[r73 (k:=10) h hc2]
   simp only[zOb,cond_true]
   rw[t7o c hs]
   simp only[zOb]
   rw[t7o _ hs]
   simp only[zOb]
   rw[r67 (u58 (u58 hin).1).1 hs]
   simp only[zOb]
   rw[r7y (by simp;omega),y7l (by omega)]
   rfl) (min n.toNat 10) 0 c [] (by omega) hc (by simp)
 obtain⟨t1,t2,t3,t4,t5,t6,t7⟩:=t
 simp only at ht
 subst ht
 exact L
theorem p4n {s:ByteArray} (hs:s.size≤1048576) {a:Int} (hc:inT s (a,false)):
 t63 (s,a)=some (if(u45 10 s (a,false)).2.2=true then(u6d,0,false) else((u45 10 s (a,false)).1,(u45 10 s (a,false)).2.1,true)):=by
 have hb:u0l=1099511627776:=rfl
 have hs' :s.size≤u0l:=by omega
 have hw:=q38 10 s (a,false) hc
 have hin:=hc
 unfold inT at hin
 simp only at hin
 have hwt:u0o.wt (q1r 10 s (a,false)).1≤u0l:=by
  have h1:=hw.1
  unfold inT at h1
  have:=(u6y (q1r 10 s (a,false)).2 (k:=20) (by omega)).2
  have:=hw.2
  simp only at this
  omega
 have hk:=t8t _ hwt
 rw[q54];unfold r3s
 unfold u45
 unfold q1r at hk ⊢
 simp only at hk ⊢
 rw[t44 _ hs']
 simp only[zOb]
 have i1:=(u1t hc).1
 rw[t44 _ hs']
 simp only[zOb]
 have i2:=(u1t i1).1
 rw[t44 _ hs']
 simp only[zOb]
 have i3:=(u1t i2).1
 rw[t44 _ hs']
 simp only[zOb]
 have i4:=(u1t i3).1
 rw[t44 _ hs']
 simp only[zOb]
 have i5:=(u1t i4).1
 rw[p7j hs' _ _ _ i5 rfl]
 simp only[zOb]
 have i6:=(t2g (by omega) (r1a s) (min (u13 s (u13 s (u13 s (u13 s (u13 s (a,false)).2).2).2).2).1.toNat 10) (u13 s (u13 s (u13 s (u13 s (u13 s (a,false)).2).2).2).2).2 [] i5).1
 rw[t44 _ hs']
 simp only[zOb]
 have i7:=(u1t i6).1
 rw[p9s hs' _ _ _ i7 rfl]
 simp only[zOb]
 rw[r67 (t2g (by omega) (r7e s) _ _ [] i7).1 hs']
 simp only[zOb]
 rw[t7o _ hs']
 simp only[zOb]
 rw[hk]
 simp only[zOb]
 generalize u19 s _=z
 generalize u49 _=o
 cases h:z.2.2<;>cases o<;>simp[u6d,emp]
theorem p17 {s:ByteArray} (hs:s.size≤1048576) (m:Nat) (hm:m≤1000) {c:Cur} (hc:inT s c):
 ∃(l:List u0i) (c' :Cur),u9u ((s,c),(m:Int))=some (l,s,c')∧inT s c' ∧c'.2=(u81 10 (m+1) s c).2.2∧c.1+((Ty.sl u0o).wt l:Nat)≤c'.1+22∧(c'.2=false→(l,c')=u81 10 (m+1) s c):=by
 have hb:u0l=1099511627776:=rfl
 obtain⟨h1,h2,h3,h4⟩:=u1t hc
 rw[r65];unfold s01 u81
 simp only
 rw[t44 c (by omega)]
 simp only[zOb]
 generalize u13 s c=y at h1 h2 h3 h4 ⊢
 have key:∀(k i:Nat) (d:Cur) (a:List u0i),i+k=min y.1.toNat (m+1)→inT s d→a.length≤i→y.2.1+((a.length+(a.map u0o.wt).sum:Nat):Int)≤d.1+bad d 20→
  ∃(r:((ByteArray×Cur)×List u0i)⊕((ByteArray×Cur)×List u0i)) (l:List u0i) (c' :Cur),u40 ((s,d),(m:Int),a,y.1,(i:Int))=some r∧(r= .inl ((s,c'),l)∨r= .inr ((s,c'),l))∧inT s c' ∧c'.2=(u2a (u45 10 s) k d a).2.2∧
   y.2.1+((l.length+(l.map u0o.wt).sum:Nat):Int)≤c'.1+bad c' 20∧(c'.2=false→(l,c')=u2a (u45 10 s) k d a):=by
  intro k
  induction k with
  | zero=>
   intro i d a hi hd ha hw
   refine⟨_,a,d,?_, .inl rfl,hd,rfl,hw,fun _=>rfl⟩
   rw[u6l];simp only[u3q]
   have:(bif decide ((i:Int)<y.1) then(bif decide ((i:Int)≤(m:Int)) then some (!d.2) else some false) else some false:Option Bool)=some false:=by
    by_cases q:(i:Int)<y.1
    ·rw[decide_eq_true q,decide_eq_false (show ¬(i:Int)≤m by omega)];rfl
    ·rw[decide_eq_false q];rfl
   rw[this];rfl
  | succ k ih=>
   intro i d a hi hd ha hw
   by_cases q:d.2=true
   ·refine⟨_,a,d,?_, .inl rfl,hd,by rw[t2f q],hw,fun z=>by rw[q] at z;cases z⟩
    rw[u6l];simp only[u3q]
    have:(bif decide ((i:Int)<y.1) then(bif decide ((i:Int)≤(m:Int)) then some (!d.2) else some false) else some false:Option Bool)=some false:=by
     rw[q];cases decide ((i:Int)<y.1)<;>cases decide ((i:Int)≤(m:Int))<;>rfl
    rw[this];rfl
   ·have q' :d.2=false:=by simpa using q
    have ed:d=(d.1,false):=by rw[←q']
    have hx:=p4n hs (a:=d.1) (by rw[←ed];exact hd)
    rw[←ed] at hx
    have he:=s4k 10 s d hd
    have hbd:bad d 20=0:=by unfold bad;rw[if_neg q]
    have c1:(bif decide ((i:Int)<y.1) then(bif decide ((i:Int)≤(m:Int)) then some (!d.2) else some false) else some false:Option Bool)=some true:=by
     rw[decide_eq_true (show(i:Int)<y.1 by omega),decide_eq_true (show(i:Int)≤m by omega),q'];rfl
    simp only[u2a]
    rw[if_neg q]
    cases z:(u45 10 s d).2.2
    ·rw[if_neg (by rw[z];simp)] at hx
     have hbz:bad (u45 10 s d).2 20=0:=by unfold bad;rw[if_neg (by rw[z];simp)]
     obtain⟨r,l,c',e1,e2,e3,e4,e5,e6⟩:=ih (i+1) (u45 10 s d).2 (a++ [(u45 10 s d).1]) (by omega) he.1 (by simp;omega) (by
      have:=he.2
      rw[hbd] at hw
      rw[hbz] at this ⊢
      simp only[List.length_append,List.length_singleton,List.map_append,List.map_cons,List.map_nil,List.sum_append,List.sum_cons,List.sum_nil]
      omega)
     refine⟨r,l,c',?_,e2,e3,e4,e5,e6⟩
     rw[←e1,u6l];simp only[u3q]
     rw[c1]
     simp only[zOb,cond_true]
     rw[hx]
     simp only[zOb,Bool.not_true,cond_false]
     rw[r7y (by simp;omega),y7l (by omega),q']
     have:(u45 10 s d).2=((u45 10 s d).2.1,false):=by rw[←z]
     rw[this]
    ·rw[if_pos z] at hx
     refine⟨_,a,(d.1,true),?_, .inr rfl,hd,by rw[t2f z,z],?_,fun w=>by cases w⟩
     ·rw[u6l];simp only[u3q]
      rw[c1]
      simp only[zOb,cond_true]
      rw[hx]
      rfl
     ·rw[hbd] at hw
      have:bad ((d.1,true):Cur) 20=20:=rfl
      rw[this];simp only;omega
 have hb0:0≤bad y.2 20:=(u6y _ (by omega)).1
 obtain⟨r,l,c',e1,e2,e3,e4,e5,e6⟩:=key (min y.1.toNat (m+1)) 0 y.2 [] (by omega) h1 (by simp) (by simp only[List.length_nil,List.map_nil,List.sum_nil];omega)
 have e1' :u40 ((s,y.2),(m:Int), [],y.1,0)=some r:=e1
 refine⟨l,c',?_,e3,e4,?_,e6⟩
 ·rw[e1']
  rcases e2 with e2 | e2<;>rw[e2] <;>rfl
 ·have e:(Ty.sl u0o).wt l=l.length+(l.map u0o.wt).sum:=rfl
  rw[e]
  have t1:=(u6y y.2 (k:=1) (by omega)).2
  have t2:=(u6y c' (k:=20) (by omega)).2
  omega
def p8q:Lim:=⟨10,130,13,4⟩
theorem o0v:p8q.ok:=⟨by decide,by decide,by decide,by decide⟩
theorem p7y {s:ByteArray} (hs:s.size≤u0l) (z b:u0j) (n:Int) {c:Cur} (hc:inT s c) (ht:b.1= []):
 u6t (z,(s,c),b,n,0)=some (.inl (z,(s,(u2a (q9v s) (min n.toNat 130) c []).2),((u2a (q9v s) (min n.toNat 130) c []).1,b.2))):=by
 have L:=t7h (s:=s) u6t (fun(c:Cur) (a:List u14) i=>(z,(s,c),((a,b.2):u0j),n,i))
  (fun(c:Cur) (a:List u14)=>(z,(s,c),((a,b.2):u0j))) (q9v s) (min n.toNat 130) (r0j (r1c s))
  (fun c a i h=>by rw[s44];simp only[t0r];rw[q2g (k:=130) h];rfl)
  (fun c a i h hc2 hin ha=>by
   rw[s44];simp only[t0r];rw[r73 (k:=130) h hc2]
   simp only[zOb,cond_true]
   rw[t7o c hs]
   simp only[zOb]
   rw[t7o _ hs]
   simp only[zOb]
   rw[r67 (u58 (u58 hin).1).1 hs]
   simp only[zOb]
   rw[t44 _ hs]
   simp only[zOb]
   rw[r7y (by simp;omega),y7l (by omega)]
   rfl) (min n.toNat 130) 0 c [] (by omega) hc (by simp)
 obtain⟨b1,b2⟩:=b
 simp only at ht
 subst ht
 exact L
theorem p6u {s:ByteArray} (hs:s.size≤1048576) {a:Int} (hc:inT s (a,false)):
 s0a (s,a)=some (if(t1w p8q s (a,false)).2.2=true then(u3p,0,false) else((t1w p8q s (a,false)).1,(t1w p8q s (a,false)).2.1,true)):=by
 have hb:u0l=1099511627776:=rfl
 have hs' :s.size≤u0l:=by omega
 have hw:=q9s p8q (s:=s) hc
 have hk:=t5r (s4l p8q s (a,false)).1 (by have:=hw.2;omega)
 rw[q3j];unfold s93
 unfold t1w
 unfold s4l at hk ⊢
 simp only at hk ⊢
 rw[t44 _ hs']
 simp only[zOb]
 have i1:=(u1t hc).1
 rw[t44 _ hs']
 simp only[zOb]
 have i2:=(u1t i1).1
 rw[t44 _ hs']
 simp only[zOb]
 have i3:=(u1t i2).1
 rw[p7y hs' _ _ _ i3 rfl]
 simp only[zOb]
 have i4f:=t2g (by omega) (r1c s) (min (u13 s (u13 s (u13 s (a,false)).2).2).1.toNat 130) (u13 s (u13 s (u13 s (a,false)).2).2).2 [] i3
 rw[show p8q.v=130 from rfl,show p8q.t=10 from rfl,show p8q.p=12+1 from rfl,show p8q.r=3+1 from rfl] at hk ⊢
 generalize hvs:u2a (q9v s) (min (u13 s (u13 s (u13 s (a,false)).2).2).1.toNat 130) (u13 s (u13 s (u13 s (a,false)).2).2).2 [] =vs at hk i4f ⊢
 obtain⟨i4,i4w⟩:=i4f
 obtain⟨l1,d1,e1,e2,e3,e4,e5⟩:=p17 hs 12 (by omega) i4
 obtain⟨l2,d2,f1,f2,f3,f4,f5⟩:=p17 hs 3 (by omega) e2
 rw[show((12:Nat):Int)=12 from rfl] at e1
 rw[show((3:Nat):Int)=3 from rfl] at f1
 rw[e1]
 simp only[zOb]
 rw[f1]
 simp only[zOb]
 cases z:d2.2
 ·have z1:d1.2=false:=by
   cases w:d1.2
   ·rfl
   ·have:(u81 10 (3+1) s d1).2.2=true:=r1b w
    rw[←f3,z] at this;cases this
  have g1:=e5 z1
  have g2:=f5 z
  rw[←g1]
  rw[←g1] at hk
  simp only at hk ⊢
  rw[←g2]
  rw[←g2] at hk
  simp only at hk ⊢
  rw[hk]
  simp only[zOb,z,cond_false,Bool.false_or]
  generalize u5m _=o
  cases o<;>simp[u3p]
 ·have zz:(u81 10 (3+1) s (u81 10 (12+1) s vs.2).2).2.2=true:=by
   cases w:d1.2
   ·have g1:=e5 w
    rw[←g1]
    show(u81 10 (3+1) s d1).2.2=true
    rw[←f3];exact z
   ·exact r1b (by rw[←e3];exact w)
  rw[zz]
  simp[u3p]
theorem q78 (t:ByteArray) (ht:t.size≤u0l):t9q t=some (match t1o t with
 | some s=>(s,true)
 | none=>(emp,false)):=by
 have hb:u0l=1099511627776:=rfl
 rw[q2w];unfold s9g t1o
 by_cases h4:t.size<4
 ·rw[decide_eq_true (by omega),if_neg (by omega)];rfl
 ·rw[decide_eq_false (by omega),y4y (n:=(t.size:Int) - 4) (by omega) (by omega)]
  have c1:(decide ((0:Int)≤0)&&decide ((0:Int)≤(t.size:Int) - 4)&&decide ((t.size:Int) - 4≤(t.size:Int)))=true:=by simp;omega
  have e1:((t.size:Int) - 4).toNat=t.size - 4:=by omega
  rw[c1,e1,show((0:Int)).toNat=0 from rfl]
  have hz:(t.extract 0 (t.size - 4)).size=t.size - 4:=by simp
  simp only[cond_false,cond_true]
  rw[t80 _ (by rw[hz];omega)]
  simp only[zOb]
  unfold q4f
  rw[hz]
  by_cases h5:t.size - 4≤20000
  ·rw[if_pos h5]
   simp only[Bool.not_true,cond_false,zOb]
   by_cases h6:r2q (t.extract 0 (t.size - 4))=t
   ·rw[if_pos ⟨by omega,h5,h6⟩,y7f.mpr h6];rfl
   ·rw[if_neg (fun q=>h6 q.2.2),p3i.mpr h6];rfl
  ·rw[if_neg h5,if_neg (fun q=>h5 q.2.1)];rfl
theorem p1z {t:ByteArray} (h:4≤t.size):r2q (t.extract 0 (t.size - 4))=t↔t.extract (t.size - 4) t.size=o32 (o01 (t.extract 0 (t.size - 4))):=by
 have e:t.extract 0 (t.size - 4)++t.extract (t.size - 4) t.size=t:=by
  rw[ByteArray.extract_append_extract,Nat.zero_min,Nat.max_eq_right (by omega)]
  exact ByteArray.extract_zero_size
 unfold r2q
 constructor
 ·intro q
  have:=e.trans q.symm
  exact ByteArray.append_right_inj (t.extract 0 (t.size - 4)) |>.mp this
 ·intro q;rw[←q,e]
theorem p45 (t:ByteArray) (ht:t.size≤1099511627776):s1t t=some (o01 t):=by
 rw[r96];unfold s96
 rw[r9h _ _ ht];rfl
theorem p6d (x:Int):t66 x=some (o32 x):=by
 rw[r4c];rfl
theorem q79 (t:ByteArray) (ht:t.size≤u0l):s0c t=some (match t1o t with
 | some s=>(s,true)
 | none=>(emp,false)):=by
 have hb:u0l=1099511627776:=rfl
 rw[q3m];unfold s97 t1o
 rw[y4y (n:=(t.size:Int) - 4) (by omega) (by omega)]
 by_cases h4:t.size<4
 ·rw[decide_eq_true (show(t.size:Int) - 4<0 by omega),if_neg (by omega)];rfl
 ·rw[decide_eq_false (show ¬(t.size:Int) - 4<0 by omega)]
  have c1:(decide ((0:Int)≤0)&&decide ((0:Int)≤(t.size:Int) - 4)&&decide ((t.size:Int) - 4≤(t.size:Int)))=true:=by simp;omega
  have c2:(decide ((0:Int)≤(t.size:Int) - 4)&&decide ((t.size:Int) - 4≤(t.size:Int))&&decide ((t.size:Int)≤(t.size:Int)))=true:=by simp;omega
  have e1:((t.size:Int) - 4).toNat=t.size - 4:=by omega
  rw[c1,c2,e1,show((0:Int)).toNat=0 from rfl,zTn]
  have hz:(t.extract 0 (t.size - 4)).size=t.size - 4:=by simp
  simp only[cond_false,cond_true]
  by_cases h5:t.size - 4≤20000
  ·rw[decide_eq_false (show ¬(t.size:Int) - 4 >20000 by omega),p45 _ (by rw[hz];omega)]
   simp only[zOb,cond_false]
   rw[p6d]
   simp only[zOb]
   by_cases h6:r2q (t.extract 0 (t.size - 4))=t
   ·rw[if_pos ⟨by omega,h5,h6⟩,(p1z (by omega)).mp h6,y6l];rfl
   ·rw[if_neg (fun q=>h6 q.2.2),p3i.mpr (mt (p1z (t:=t) (by omega)).mpr h6)];rfl
  ·rw[decide_eq_true (show(t.size:Int) - 4 >20000 by omega),if_neg (fun q=>h5 q.2.1)];rfl
end
section
def noR:s5j:=(0,u6d,emp,false,u3p)
def t2i (t:ByteArray):s5j×Bool:=match u3r t with
 | some r=>(r,true)
 | none=>(noR,false)
theorem p87 {t:ByteArray} {r:s5j} (h:u16 r=(t,true)):u3r t=some r:=by
 have hr:u5k r=true:=by
  cases q:u5k r with
  | true=>rfl
  | false=>
   unfold u16 at h
   rw[if_neg (by simp[q])] at h
   simp at h
 have hR:=p95.mp hr
 rw[t4d hR] at h
 rw[←(Prod.mk.inj h).1]
 exact r1d hR
theorem p86 {t s:ByteArray} {r:s5j} (hu:t1o t=some s) (h:u3r t=some r):RecR r∧s=r2p r∧u16 r=(t,true):=by
 obtain⟨h1,h2⟩:=r7g h
 have hs:=s4o h1
 have:=r7m (t:=r2p r) (by omega)
 rw[←h2,hu] at this
 exact⟨h1,Option.some.inj this,by rw[t4d h1,←h2]⟩
theorem r19 {t s:ByteArray} {r' :s5j} {b:Bool} (hu:t1o t=some s) (hr:∀r,RecR r→s=r2p r→r' =r∧b=false):
 (((bif b then some true else(bif (!(u16 r').2) then some true else some (!z7o (u16 r').1 t))):Option Bool).bind fun j=>bif j then some (noR,false) else some (r',true))=some (t2i t):=by
 unfold t2i
 cases h:u3r t with
 | some r=>
  obtain⟨h1,h2,h3⟩:=p86 hu h
  obtain⟨e1,e2⟩:=hr r h1 h2
  subst e1
  rw[e2,h3]
  simp only[cond_false,Bool.not_true,y6l,zOb]
 | none=>
  cases b
  ·cases h2:(u16 r').2
   ·rfl
   ·have:z7o (u16 r').1 t=false:=by
     rw[p3i]
     intro e
     have:=p87 (t:=t) (r:=r') (by rw[←e,←h2])
     rw[h] at this;cases this
    rw[this];rfl
  ·rfl
theorem p3z (s:ByteArray):((s.data.toList.getD 0 0).toNat:Int)=(u5n s 0:Int):=rfl
theorem p0t (s:ByteArray) (i:Nat):u5n s i<256:=by unfold u5n;exact UInt8.toNat_lt _
theorem r7n {t s:ByteArray} (h:t1o t=some s):s.size≤20000:=by
 unfold t1o at h
 split at h
 ·rename_i q
  have:=Option.some.inj h
  rw[←this];simp;omega
 ·cases h
theorem o6c (k:Nat):decide ((k:Int)=3)=decide (k=3):=by simp;omega
theorem o6d (k:Nat):decide ((k:Int)=4)=decide (k=4):=by simp;omega
theorem r7v:u0o.wt u6d=0:=rfl
theorem r7u:q43.wt u3p=0:=rfl
theorem p39 (m:Nat) {s:ByteArray} (hs:s.size≤20000) (h1:1≤s.size):u0o.wt (u45 m s (1,false)).1≤30000:=by
 have h:=s4k m s (1,false) ⟨by simp,by simp;omega⟩
 have h2:=h.1
 unfold inT at h2
 have:=(u6y (u45 m s (1,false)).2 (k:=20) (by omega)).2
 have:=h.2
 simp only at this
 omega
theorem p1r (m:Lim) {s:ByteArray} (hs:s.size≤20000) (h1:1≤s.size):q43.wt (t1w m s (1,false)).1≤30000:=by
 have h:=q9s m (s:=s) (c:=(1,false)) ⟨by simp,by simp;omega⟩
 have e:(t1w m s (1,false)).1=(s4l m s (1,false)).1:=rfl
 rw[e];have:=h.2;omega
theorem q1z (t:ByteArray) (ht:t.size≤u0l):t5v t=some (t2i t):=by
 have hb:u0l=1099511627776:=rfl
 rw[r76];unfold s24
 rw[q78 t ht]
 simp only[zOb]
 cases hu:t1o t with
 | none=>
  unfold t2i u3r
  rw[hu];rfl
 | some s=>
  have hs:=r7n hu
  simp only[t1i]
  by_cases h0:s.size=0
  ·unfold t2i u3r
   rw[hu]
   simp only
   rw[if_pos h0,decide_eq_true h0];rfl
  ·have hin:inT s (1,false):=⟨by simp,by simp;omega⟩
   rw[decide_eq_false h0]
   simp only[Bool.not_true,cond_false,zOb]
   rw[show y4q (0:Int) s.size=true from y7t (i:=0) (by omega)]
   simp only[cond_true,show((0:Int)).toNat=0 from rfl,p3z]
   rw[y4y (n:=(u5n s 0:Int)) (by omega) (by have:=p0t s 0;omega),o6c,o6d]
   by_cases h3:u5n s 0=3
   ·rw[decide_eq_true h3,t7n _ (by omega)]
    simp only[cond_true,zOb]
    rw[r66 _ (by omega)]
    simp only[zOb]
    have hf:=(u58 hin).2
    have hg:=(u58 hin).1
    unfold inT at hg
    have:=(u6y (u19 s (1,false)).2 (k:=1) (by omega)).2
    simp only at hf
    have hk:=t8v ((u5n s 0:Int),u6d,(u19 s (1,false)).1,(r7z s (u19 s (1,false)).2).1,u3p) (by rw[r1g];simp only[r7v,r7u];omega)
    rw[show((0:Int),(0:Int),(0:Int),(0:Int),([] :List q6v),([] :List WrT),false,(⟨#[]⟩:ByteArray))=u6d from rfl]
    rw[show(([] :List u14),([] :List u0i),([] :List u0i),(0:Int),(0:Int))=u3p from rfl]
    rw[hk]
    simp only[zOb]
    refine r19 hu (b:=(r7z s (u19 s (1,false)).2).2.2) fun r h1 h2=> ?_
    have:=t59 h1
    rw[←h2] at this
    unfold u9v at this
    rw[if_pos h3] at this
    rw[h3]
    exact⟨(Prod.mk.inj this).1,(Prod.mk.inj this).2⟩
   ·rw[decide_eq_false h3]
    by_cases h4:u5n s 0=4
    ·rw[decide_eq_true h4,p6t (by omega) hin]
     simp only[cond_true,cond_false,zOb]
     have hk:=t8v ((u5n s 0:Int),u6d,emp,false,(t1w o0t s (1,false)).1) (by rw[r1g];simp only[r7v];have:=p1r o0t hs (by omega);simp only[emp,ByteArray.size];simp;omega)
     rw[show((0:Int),(0:Int),(0:Int),(0:Int),([] :List q6v),([] :List WrT),false,(⟨#[]⟩:ByteArray))=u6d from rfl]
     rw[show(([] :List u14),([] :List u0i),([] :List u0i),(0:Int),(0:Int))=u3p from rfl]
     rw[show((⟨#[]⟩:ByteArray))=emp from rfl]
     rw[hk]
     simp only[zOb]
     refine r19 hu (b:=(t1w o0t s (1,false)).2.2) fun r h1 h2=> ?_
     have:=t59 h1
     rw[←h2] at this
     unfold u9v at this
     rw[if_neg h3,if_pos h4] at this
     have hl:=q7e p29 o0u (Prod.mk.inj this).2
     rw[h4,hl]
     exact⟨(Prod.mk.inj this).1,(Prod.mk.inj this).2⟩
    ·rw[decide_eq_false h4,q9z (by omega) hin]
     simp only[cond_true,cond_false,zOb]
     have hk:=t8v ((u5n s 0:Int),(u45 1000000000 s (1,false)).1,emp,false,u3p) (by rw[r1g];simp only[r7u];have:=p39 1000000000 hs (by omega);simp only[emp,ByteArray.size];simp;omega)
     rw[show((0:Int),(0:Int),(0:Int),(0:Int),([] :List q6v),([] :List WrT),false,(⟨#[]⟩:ByteArray))=u6d from rfl]
     rw[show(([] :List u14),([] :List u0i),([] :List u0i),(0:Int),(0:Int))=u3p from rfl]
     rw[show((⟨#[]⟩:ByteArray))=emp from rfl]
     rw[hk]
     simp only[zOb]
     refine r19 hu (b:=(u45 1000000000 s (1,false)).2.2) fun r h1 h2=> ?_
     have:=t59 h1
     rw[←h2] at this
     unfold u9v at this
     rw[if_neg h3,if_neg h4] at this
     have hl:=q32 (m:=9) (m' :=1000000000) (by omega) (by omega) (Prod.mk.inj this).2
     rw[hl]
     exact⟨(Prod.mk.inj this).1,(Prod.mk.inj this).2⟩
theorem q10 (t:ByteArray) (ht:t.size≤u0l):t54 t=some (t2i t):=by
 have hb:u0l=1099511627776:=rfl
 rw[r8h];unfold s3f
 rw[q79 t ht]
 simp only[zOb]
 cases hu:t1o t with
 | none=>
  unfold t2i u3r
  rw[hu];rfl
 | some s=>
  have hs:=r7n hu
  simp only[t1i]
  by_cases h0:s.size=0
  ·unfold t2i u3r
   rw[hu]
   simp only
   rw[if_pos h0,decide_eq_true h0];rfl
  ·have hin:inT s (1,false):=⟨by simp,by simp;omega⟩
   rw[decide_eq_false h0]
   simp only[Bool.not_true,cond_false,zOb]
   rw[show y4q (0:Int) s.size=true from y7t (i:=0) (by omega)]
   simp only[cond_true,show((0:Int)).toNat=0 from rfl,p3z]
   rw[y4y (n:=(u5n s 0:Int)) (by omega) (by have:=p0t s 0;omega),o6c,o6d]
   by_cases h3:u5n s 0=3
   ·rw[decide_eq_true h3,t7o _ (by omega)]
    simp only[cond_true,zOb]
    rw[r67 (u58 hin).1 (by omega)]
    simp only[zOb]
    have hf:=(u58 hin).2
    have hg:=(u58 hin).1
    unfold inT at hg
    have:=(u6y (u19 s (1,false)).2 (k:=1) (by omega)).2
    simp only at hf
    have hk:=t8w ((u5n s 0:Int),u6d,(u19 s (1,false)).1,(r7z s (u19 s (1,false)).2).1,u3p) (by rw[r1g];simp only[r7v,r7u];omega)
    rw[show((0:Int),(0:Int),(0:Int),(0:Int),([] :List q6v),([] :List WrT),false,(⟨#[]⟩:ByteArray))=u6d from rfl]
    rw[show(([] :List u14),([] :List u0i),([] :List u0i),(0:Int),(0:Int))=u3p from rfl]
    rw[hk]
    simp only[zOb]
    refine r19 hu (b:=false) fun r h1 h2=> ?_
    have:=t59 h1
    rw[←h2] at this
    unfold u9v at this
    rw[if_pos h3] at this
    rw[h3]
    exact⟨(Prod.mk.inj this).1,rfl⟩
   ·rw[decide_eq_false h3]
    by_cases h4:u5n s 0=4
    ·rw[decide_eq_true h4,p6u (by omega) hin]
     simp only[cond_true,cond_false,zOb]
     generalize hy:(if(t1w p8q s (1,false)).2.2=true then(u3p,(0:Int),false) else((t1w p8q s (1,false)).1,(t1w p8q s (1,false)).2.1,true))=y
     have hyw:q43.wt y.1≤30000:=by
      rw[←hy]
      split
      ·rw[r7u];omega
      ·exact p1r p8q hs (by omega)
     have hk:=t8w ((u5n s 0:Int),u6d,emp,false,y.1) (by rw[r1g];simp only[r7v];simp only[emp,ByteArray.size];simp;omega)
     rw[show((0:Int),(0:Int),(0:Int),(0:Int),([] :List q6v),([] :List WrT),false,(⟨#[]⟩:ByteArray))=u6d from rfl]
     rw[show(([] :List u14),([] :List u0i),([] :List u0i),(0:Int),(0:Int))=u3p from rfl]
     rw[show((⟨#[]⟩:ByteArray))=emp from rfl]
     rw[hk]
     simp only[zOb]
     refine r19 hu (b:=false) fun r h1 h2=> ?_
     have:=t59 h1
     rw[←h2] at this
     unfold u9v at this
     rw[if_neg h3,if_pos h4] at this
     have hl:=q7e p29 o0v (Prod.mk.inj this).2
     rw[hl,if_neg (by rw[(Prod.mk.inj this).2];simp)] at hy
     rw[h4,←hy]
     exact⟨(Prod.mk.inj this).1,rfl⟩
    ·rw[decide_eq_false h4,p4n (by omega) hin]
     simp only[cond_true,cond_false,zOb]
     generalize hy:(if(u45 10 s (1,false)).2.2=true then(u6d,(0:Int),false) else((u45 10 s (1,false)).1,(u45 10 s (1,false)).2.1,true))=y
     have hyw:u0o.wt y.1≤30000:=by
      rw[←hy]
      split
      ·rw[r7v];omega
      ·exact p39 10 hs (by omega)
     have hk:=t8w ((u5n s 0:Int),y.1,emp,false,u3p) (by rw[r1g];simp only[r7u];simp only[emp,ByteArray.size];simp;omega)
     rw[show((0:Int),(0:Int),(0:Int),(0:Int),([] :List q6v),([] :List WrT),false,(⟨#[]⟩:ByteArray))=u6d from rfl]
     rw[show(([] :List u14),([] :List u0i),([] :List u0i),(0:Int),(0:Int))=u3p from rfl]
     rw[show((⟨#[]⟩:ByteArray))=emp from rfl]
     rw[hk]
     simp only[zOb]
     refine r19 hu (b:=false) fun r h1 h2=> ?_
     have:=t59 h1
     rw[←h2] at this
     unfold u9v at this
     rw[if_neg h3,if_neg h4] at this
     have hl:=q32 (m:=9) (m' :=10) (by omega) (by omega) (Prod.mk.inj this).2
     rw[hl,if_neg (by rw[(Prod.mk.inj this).2];simp)] at hy
     rw[←hy]
     exact⟨(Prod.mk.inj this).1,rfl⟩
end
section
theorem p2l (l:List u0i) (c:ByteArray) (hl:l.length≤8388608):u11 (l,c)=some (l.filter fun x=> !z7o x.2.2.2.2.2.2.2 c):=by
 have hq:∀x∈l,u5v (x,c)=some (z7o x.2.2.2.2.2.2.2 c):=fun x _=>by rw[q0t];rfl
 have L:=Q.first (T:=u0o) (c:=ByteArray) (W:=u05) (q:=u5v) (p:=fun x:u0i=>z7o x.2.2.2.2.2.2.2 c) (fun x=>u7c x) l c (by omega) hq
 rw[u72];unfold u3j
 simp only[u8w,u3u,L,zOb]
 by_cases hk:u1n (fun x:u0i=>z7o x.2.2.2.2.2.2.2 c) l<l.length
 ·obtain⟨a,e1,e2,e3⟩:=Q.delete (T:=u0o) (c:=ByteArray) (W:=u0z) (q:=u5v) (p:=fun x:u0i=>z7o x.2.2.2.2.2.2.2 c) (fun x=>u67 x) l c (by omega) hq hk
  have hn:=u96 (fun x:u0i=> !z7o x.2.2.2.2.2.2.2 c) l
  obtain⟨n,hne⟩:∃n,n=(l.filter fun x:u0i=> !z7o x.2.2.2.2.2.2.2 c).length:=⟨_,rfl⟩
  rw[←hne] at e1 e3 hn
  have c1:decide (((u1n (fun x:u0i=>z7o x.2.2.2.2.2.2.2 c) l:Nat):Int)= -1)=false:=by simp
  have c2:decide ((0:Int)≤(n:Int))=true:=by simp
  have c3:decide ((n:Int)≤(a.length:Int))=true:=by simp;omega
  have c4:decide ((a.length:Int)≤(a.length:Int))=true:=by simp
  have hw:=y7l (i:=u1n (fun x:u0i=>z7o x.2.2.2.2.2.2.2 c) l) (by omega)
  simp only[if_pos hk,zOb,c1,cond_false,hw,e1,c2,c3,c4,Bool.and_self,cond_true,zTn,decide_true,Int.le_refl]
  have c5:decide ((n:Int)≤((a.take n++List.replicate (a.length - n) u0o.zero++a.drop (n+(a.length - n))).length:Int))=true:=by simp;omega
  have c6:(a.take n++List.replicate (a.length - n) u0o.zero++a.drop (n+(a.length - n))).take (n - (0:Int).toNat)=l.filter fun x:u0i=> !z7o x.2.2.2.2.2.2.2 c:=by
   rw[List.append_assoc,Int.toNat_zero,Nat.sub_zero,r74 a n (by omega),e3]
  simp only[c5,Bool.and_self,cond_true,c6]
 ·have hall:(l.filter fun x:u0i=> !z7o x.2.2.2.2.2.2.2 c)=l:=by
   rw[List.filter_eq_self]
   intro x hx
   obtain⟨i,hi,rfl⟩:=List.getElem_of_mem hx
   rw[t5t (p:=fun x:u0i=>z7o x.2.2.2.2.2.2.2 c) hi (by omega)]
   rfl
  simp only[if_neg hk,zOb,decide_true,cond_true,hall]
theorem q96 (b:u0j) (n:ByteArray) (hb:p1f b):t6o (b,n)=some (t43 b n):=by
 rw[q47];unfold r2y
 simp only
 rw[t8o b hb]
 simp only[zOb]
 rw[p2l _ _ (by have:=hb.2.2.1;omega)]
 rfl
theorem q97 (b:u0j) (n:ByteArray) (hb:p1f b):s2m (b,n)=some (t43 b n):=by
 obtain⟨hb1,hb2,hb3⟩:=hb
 have L:=s22 u8m b.2.2.1 (fun(a:List u0i) i=>(n,b,u3p,((b.1,b.2.1,a,b.2.2.2):u0j),i)) (fun x:u0i=> !z7o x.2.2.2.2.2.2.2 n) (fun x=>x) (fun a=> .inl (u3p,((b.1,b.2.1,a,b.2.2.2):u0j))) (by have:=hb3.1;omega)
  (fun a _=>by rw[s79];simp only[t2y,u0c,Nat.lt_irrefl,decide_false,cond_false])
  (fun i hi a ha=>by
   have hm:=List.getElem_mem hi
   have:=hb3.1
   rw[s79];simp only[t2y,u0c,hi,decide_true,cond_true,y7t hi,zTn,y8k (t:=u0o) hi,y7l (show i<4611686018427387904 by omega)]
   rw[t7a _ (hb3.2 _ hm)]
   simp only[zOb]
   rw[r7y (by simp;omega)])
 rw[List.map_id'] at L
 rw[q50];unfold r3o
 simp only
 rw[t8p b ⟨hb1,hb2,hb3⟩]
 simp only[zOb]
 have L' :u8m (n,b,(([], [], [],0,0):u0j),((b.1,b.2.1, [],b.2.2.2):u0j),0)=_:=L
 rw[L']
 rfl
theorem p67 {n i:Int} :y8h n (i+1)=u10 n i:=by
 unfold y8h u10
 by_cases h:i<n
 ·rw[if_pos h,if_neg (by omega)]
 ·rw[if_neg h,if_pos (by omega)]
theorem p7c (p:u0i→Bool) (l:List u0i):∀(a:List u0i×List u0i),l.foldl (fun a x=>if p x=true then(a.1++ [x],a.2) else(a.1,a.2++ [x])) a=(a.1++l.filter p,a.2++l.filter fun x=> !p x):=by
 induction l with
 | nil=>intro a;simp
 | cons x l ih=>
  intro a
  rw[List.foldl_cons,ih]
  cases h:p x<;>simp[h]
theorem p4c (p q:u0i→Bool) (l:List u0i) (d:u0i) (hl:l.length≤4194304):(l.filter p).length+ [d].length≤1099511627776∧(l.filter p++ [d]).length+(l.filter q).length≤1099511627776∧(l.filter p++ [d]).length≤8000000:=by
 have f1:=u96 p l
 have f2:=u96 q l
 rw[List.length_append,List.length_singleton]
 omega
theorem q7i (b z:u0j) (t d:u0i) (n:ByteArray) (hb:p1f b):u4n (n,t,z,b,d, [], [],(),(b.2.2.1.length:Int),0)=
 some (.inl (t,z,b,d,b.2.2.1.filter (fun x=>y3c x.2.2.2.2.2.2.2 n),b.2.2.1.filter fun x=> !y3c x.2.2.2.2.2.2.2 n)):=by
 have hl:=hb.2.2.1
 have L:=t1s u4n b.2.2.1 (fun(a:List u0i×List u0i) i=>(n,t,z,b,d,a.1,a.2,(),(b.2.2.1.length:Int),i)) (fun a x=>if y3c x.2.2.2.2.2.2.2 n=true then(a.1++ [x],a.2) else(a.1,a.2++ [x]))
  (fun a=> .inl (t,z,b,d,a.1,a.2)) (fun i a=>a.1.length≤i∧a.2.length≤i)
  (fun a _=>by rw[s1z];simp only[u9b,u0c,Nat.lt_irrefl,decide_false,cond_false])
  (fun i hi a ha=>by
   rw[s1z];simp only[u9b,u0c,hi,decide_true,cond_true,y7t hi,zTn,y8k (t:=u0o) hi,y7l (show i<4611686018427387904 by omega)]
   cases y3c (b.2.2.1[i]).2.2.2.2.2.2.2 n
   ·simp only[Bool.false_eq_true,if_false,cond_false]
    refine⟨⟨by omega,by simp;omega⟩,?_⟩
    rw[r7y (by simp;omega)]
   ·simp only[if_true,cond_true]
    refine⟨⟨by simp;omega,by omega⟩,?_⟩
    rw[r7y (by simp;omega)]) ([], []) ⟨by simp,by simp⟩
 rw[p7c (fun x=>y3c x.2.2.2.2.2.2.2 n)] at L
 simpa using L
theorem q4y (b:u0j) (t:u0i) (n:ByteArray) (hb:p1f b) (ht:q93 t) (hi:p8t t.1):t7r (b,t,n)=some (u99 b t n):=by
 have hl:=hb.2.2.1
 rw[q0u];unfold s6h
 simp only
 rw[t8o b hb]
 simp only[zOb]
 rw[q1x t ht]
 simp only[zOb]
 rw[q6t t b.2.1 ht hb.2.1]
 simp only[zOb]
 rw[q7i _ _ _ _ _ hb,q7i _ _ _ _ _ hb]
 simp only[zOb,s17 hi,p67]
 have pl:=fun d=>p4c (fun x:u0i=>y3c x.2.2.2.2.2.2.2 n) (fun x:u0i=> !y3c x.2.2.2.2.2.2.2 n) b.2.2.1 d hl
 rw[r7y (pl _).1,r7y (pl _).2.1,r7y (pl _).1,r7y (pl _).2.1]
 unfold u99 s4n
 cases t.2.2.2.2.2.2.1<;>rfl
theorem q4b (b z:u0j) (t d:u0i) (n:ByteArray) (hb:p1f b):u4p (n,b,t,z,((b.1,b.2.1, [],b.2.2.2):u0j),d,0)=
 some (.inl (n,b,t,z,((b.1,b.2.1,b.2.2.1.filter (fun x=>y3c x.2.2.2.2.2.2.2 n),b.2.2.2):u0j),d)):=by
 have hl:=hb.2.2.1
 have L:=s22 u4p b.2.2.1 (fun(a:List u0i) i=>(n,b,t,z,((b.1,b.2.1,a,b.2.2.2):u0j),d,i)) (fun x:u0i=>y3c x.2.2.2.2.2.2.2 n) (fun x=>x) (fun a=> .inl (n,b,t,z,((b.1,b.2.1,a,b.2.2.2):u0j),d)) (by omega)
  (fun a _=>by rw[s15];simp only[u9h,u0c,Nat.lt_irrefl,decide_false,cond_false])
  (fun i hi a ha=>by
   have hm:=List.getElem_mem hi
   rw[s15];simp only[u9h,u0c,hi,decide_true,cond_true,y7t hi,zTn,y8k (t:=u0o) hi,y7l (show i<4611686018427387904 by omega)]
   rw[t7a _ (hb.2.2.2 _ hm)]
   simp only[zOb]
   rw[r7y (by simp;omega)])
 rw[List.map_id'] at L
 exact L
theorem q0h (b z:u0j) (t:u0i) (n:ByteArray) (hb:p1f b) (pre:List u0i) (hp:pre.length≤8000000):u38 (n,b,t,z,((b.1,b.2.1,pre,b.2.2.2):u0j),0)=
 some (.inl (t,z,((b.1,b.2.1,pre++b.2.2.1.filter (fun x=> !y3c x.2.2.2.2.2.2.2 n),b.2.2.2):u0j))):=by
 have hl:=hb.2.2.1
 have L:=s22 u38 b.2.2.1 (fun(a:List u0i) i=>(n,b,t,z,((b.1,b.2.1,pre++a,b.2.2.2):u0j),i)) (fun x:u0i=> !y3c x.2.2.2.2.2.2.2 n) (fun x=>x) (fun a=> .inl (t,z,((b.1,b.2.1,pre++a,b.2.2.2):u0j))) (by omega)
  (fun a _=>by rw[s0l];simp only[u7p,u0c,Nat.lt_irrefl,decide_false,cond_false])
  (fun i hi a ha=>by
   have hm:=List.getElem_mem hi
   rw[s0l];simp only[u7p,u0c,hi,decide_true,cond_true,y7t hi,zTn,y8k (t:=u0o) hi,y7l (show i<4611686018427387904 by omega)]
   rw[t7a _ (hb.2.2.2 _ hm)]
   simp only[zOb]
   rw[r7y (by simp;omega),List.append_assoc])
 rw[List.map_id',List.append_nil] at L
 exact L
theorem q4z (b:u0j) (t:u0i) (n:ByteArray) (hb:p1f b) (ht:q93 t) (hi:p8t t.1):t7x (b,t,n)=some (u99 b t n):=by
 have hl:=hb.2.2.1
 have pl:=fun d=>p4c (fun x:u0i=>y3c x.2.2.2.2.2.2.2 n) (fun x:u0i=> !y3c x.2.2.2.2.2.2.2 n) b.2.2.1 d hl
 rw[q1c];unfold s6x
 simp only
 rw[t8p b hb]
 simp only[zOb]
 rw[t7a t ht]
 simp only[zOb]
 rw[q6u t b.2.1 ht hb.2.1]
 simp only[zOb]
 rw[q4b _ _ _ _ _ hb,q4b _ _ _ _ _ hb]
 simp only[zOb]
 rw[r7y (pl _).1,r7y (pl _).1,q0h _ _ _ _ hb _ (pl _).2.2,q0h _ _ _ _ hb _ (pl _).2.2]
 simp only[zOb,s17 hi]
 have key:∀(o:Bool),(bif decide (t.1≥b.2.2.2.2) then some ((b.1,b.2.1,(b.2.2.1.filter fun x=>y3c x.2.2.2.2.2.2.2 n)++ [((t.1,(2:Int),t.2.2.1,t.2.2.2.1,t.2.2.2.2.1,t.2.2.2.2.2.1,o,n):u0i)] ++(b.2.2.1.filter fun x=> !y3c x.2.2.2.2.2.2.2 n),b.2.2.2.1,t.1+1):u0j)
  else some (b.1,b.2.1,(b.2.2.1.filter fun x=>y3c x.2.2.2.2.2.2.2 n)++ [((t.1,(2:Int),t.2.2.1,t.2.2.2.1,t.2.2.2.2.1,t.2.2.2.2.2.1,o,n):u0i)] ++(b.2.2.1.filter fun x=> !y3c x.2.2.2.2.2.2.2 n),b.2.2.2))=
  some (b.1,b.2.1,(b.2.2.1.filter fun x=>y3c x.2.2.2.2.2.2.2 n)++ [((t.1,(2:Int),t.2.2.1,t.2.2.2.1,t.2.2.2.2.1,t.2.2.2.2.2.1,o,n):u0i)] ++(b.2.2.1.filter fun x=> !y3c x.2.2.2.2.2.2.2 n),b.2.2.2.1,u10 b.2.2.2.2 t.1):=fun o=>by
  unfold u10
  by_cases h:t.1<b.2.2.2.2
  ·rw[decide_eq_false (by omega),if_pos h];rfl
  ·rw[decide_eq_true (by omega),if_neg h];rfl
 unfold u99 s4n
 cases t.2.2.2.2.2.2.1
 ·exact key _
 ·exact key _
end
section
def SameLog (d e:u0k):Prop:=u5i e=true∧u1d e=u1d d∧u0e e 0=u0e d 0∧u0e e 1=u0e d 1
theorem u8z {a:Int} (ha:a=0∨a=1):u0f a=1+a*48∧(s3o a:Int)=2+a*48:=by
 have hfa:u0f a=1+a*48:=by unfold u0f;rw[if_pos (p8o.mpr ha)]
 refine⟨hfa,?_⟩
 unfold s3o
 rcases ha with rfl | rfl<;>omega
theorem q1q {e:u0k} (h1:u2m e=true) (h2:e.1.length=97) (h3:e.2= []) (h4:(u0e e 0).2.2=true) (h5:(u0e e 1).2.2=true):u5i e=true:=by
 unfold u5i
 rw[h1,h4,h5]
 simp[h2,h3]
theorem s18 {d e:u0k} (h:u0h e 0=u0h d 0):u1d e=u1d d:=by
 unfold u1d u44
 rw[h]
theorem o0p {d e:u0k} (hl:u5i d=true) {a:Int} (ha:a=0∨a=1) (h1:u2m e=true) (h2:e.1.length=97) (h3:e.2= [])
 (h4:∀k:Nat,k<97→ ¬(s3o a≤k∧k<s3o a+47)→u0h e (k:Int)=u0h d (k:Int))
 (h5:∀j:Nat,(j:Int)<(u0e d a).2.1→j<3008→s8s (s5n e a) j=s8s (s5n d a) j):SameLog d e:=by
 obtain⟨d1,d2,d3,d4,d5⟩:=u98 hl
 have fd:=r0k d1 d2
 have fe:=r0k h1 h2
 obtain⟨f1,f2⟩:=u8z ha
 have hact:u1d e=u1d d:=s18 (h4 0 (by omega) (by omega))
 have hcnt:u08 e a=u08 d a:=by
  unfold u08 u44
  have hk:u0f a=(((u0f a).toNat:Nat):Int):=by rcases ha with rfl | rfl<;>omega
  have:=h4 (u0f a).toNat (by rcases ha with rfl | rfl<;>omega) (by rcases ha with rfl | rfl<;>omega)
  rw[←hk] at this
  rw[this]
 have hra:u0e e a=u0e d a:=by
  have hda:=t58 fd ha
  have hok:(u0e d a).2.2=true:=by rcases ha with rfl | rfl<;>assumption
  rw[t58 fe ha,hcnt]
  obtain⟨l,E,r⟩:∃l E,u0e d a=(l,E,true):=⟨_,_,by rw[←hok]⟩
  rw[r] at h5 ⊢
  rw[r] at hda
  have hsz:(s5n e a).size=(s5n d a).size:=by rw[(u5s fe ha).2.1,(u5s fd ha).2.1]
  have hat:=q2c (s5n d a) (u08 d a).toNat 0 [] (by simp)
  rw[←hda] at hat
  refine r0e hsz hda.symm (fun q hq=>h5 q hq ?_)
  have:=(u5s fd ha).2.1
  simp only at hat
  omega
 have hro:u0e e (1 - a)=u0e d (1 - a):=by
  refine t2h (fun q hq=> ?_)
  have ho:=(u8z (a:=1 - a) (by omega)).1
  obtain⟨j,hj⟩:∃j:Nat,u0f (1 - a)+(q:Int)=(j:Int):=⟨(u0f (1 - a)+(q:Int)).toNat,by rcases ha with rfl | rfl<;>omega⟩
  rw[hj]
  exact h4 j (by rcases ha with rfl | rfl<;>omega) (by rcases ha with rfl | rfl<;>omega)
 have both:u0e e 0=u0e d 0∧u0e e 1=u0e d 1:=by
  rcases ha with rfl | rfl
  ·exact⟨hra,by simpa using hro⟩
  ·exact⟨by simpa using hro,hra⟩
 exact⟨q1q h1 h2 h3 (by rw[both.1];exact d4) (by rw[both.2];exact d5),hact,both.1,both.2⟩
theorem q8f {d x:u0k} {a:Int} {t:ByteArray} (h:r0f d a t=some x):∃E:Nat,(u0e d a).2.1=(E:Int)∧E+(u09 t).size≤3008∧p4s ((u09 t).size+1) d (s3o a+E / 64) (E % 64) (u09 t)=some x∧t.size≠0∧t.size≤3008∧u08 d a<255:=by
 have hat:=q39 d a
 unfold r0f at h
 split at h
 ·cases h
 ·rename_i hc
  simp only[not_or] at hc
  unfold t1p at h
  split at h
  ·exact⟨(u0e d a).2.1.toNat,by omega,by omega,h,hc.2.1,by omega,by omega⟩
  ·cases h
theorem SameLog.refl {d:u0k} (h:u5i d=true):SameLog d d:=⟨h,rfl,rfl,rfl⟩
theorem SameLog.trans {d e f:u0k} (h1:SameLog d e) (h2:SameLog e f):SameLog d f:=⟨h2.1,h2.2.1.trans h1.2.1,h2.2.2.1.trans h1.2.2.1,h2.2.2.2.trans h1.2.2.2⟩
end
section
theorem p23 {d x:u0k} {a:Int} {t:ByteArray} (hl:u5i d=true) (ha:a=0∨a=1) (h:r0f d a t=some x):
 SameLog d (u2d x)∧ ∀E:Nat,(u0e d a).2.1=(E:Int)→ ∀q,q<(u09 t).size→s8s (s5n (u2d x) a) (E+q)=s8s (u09 t) q:=by
 obtain⟨d1,d2,d3,d4,d5⟩:=u98 hl
 obtain⟨_,x1,x2,_⟩:=q8g h
 obtain⟨E,e1,e2,e3,_⟩:=q8f h
 obtain⟨c1,c2,c3⟩:=s03 x1
 have hxl:x.1.length=97:=by rw[x2];exact d2
 have hcl:(u2d x).1.length=97:=by rw[c3];exact hxl
 obtain⟨f1,f2⟩:=u8z ha
 have fd:=r0k d1 d2
 have fe:=r0k c1 hcl
 have hb97:s3o a+47≤97:=by rcases ha with rfl | rfl<;>omega
 have hbytes:=fun j i (hi:i<64) (hj:j<97)=>q7t e3 (by omega) (Nat.mod_lt _ (by omega)) j i hi (by omega)
 refine⟨o0p hl ha c1 hcl c2 (fun k hk hn=> ?_) (fun j hj hj2=> ?_),fun E' hE' q hq=> ?_⟩
 ·rw[t3y x1]
  exact r86 e3 (Nat.mod_lt _ (by omega)) k (fun z=>hn ⟨by omega,by omega⟩)
 ·rw[(u5s fe ha).2.2 j hj2,(u5s fd ha).2.2 j hj2,t3y x1,hbytes _ _ (Nat.mod_lt _ (by omega)) (by omega),if_neg (by omega)]
 ·have hEE:E' =E:=by omega
  subst hEE
  rw[(u5s fe ha).2.2 (E' +q) (by omega),t3y x1,hbytes _ _ (Nat.mod_lt _ (by omega)) (by omega),if_pos (by omega)]
  congr 1
  omega
theorem q63 (t:ByteArray):q0r t=((s8s t 0).toNat:Int):=rfl
theorem q2h (n:Int) (r:ByteArray) (h0:0≤n) (h1:n<256):q0r (s02 n++r)=n:=by
 rw[q63,u74,if_pos (by rw[u70];omega)]
 unfold s02 s8s
 rw[s4p]
 have w:IntKind.u8.wrap n=n:=by rw[p3t];omega
 rw[w]
 simp only[u8s,List.map_cons,List.map_nil,List.getD_cons_zero]
 rw[UInt8.toNat_ofNat']
 omega
theorem p7g {d y:u0k} {a:Int} {t:ByteArray} (hl:u5i d=true) (ha:a=0∨a=1) (h:p82 d a t=some y):
 u5i y=true∧u1d y=u1d d∧u0e y (1 - a)=u0e d (1 - a)∧u08 y a=u08 d a+1∧u0e y a=((u0e d a).1++ [t],(u0e d a).2.1+((u09 t).size:Int),true):=by
 obtain⟨d1,d2,d3,d4,d5⟩:=u98 hl
 obtain⟨x,hx,x1,y1,y2,y3,hy⟩:=p93 d2 h
 obtain⟨s1,s2⟩:=p23 hl ha hx
 obtain⟨E,e1,e2,e3,e4,e5,e6⟩:=q8f hx
 obtain⟨c1,c2,c3⟩:=s03 x1
 have hxl:(u2d x).1.length=97:=(u98 s1.1).2.1
 obtain⟨f1,f2⟩:=u8z ha
 have hcl:=r17 d a
 have hc1:r6t d a=u08 d a+1:=by unfold r6t;exact y4y (by omega) (by omega)
 have hob:=q33 (s:=u0f a) c1 c2 (by omega) (by rw[hxl];rcases ha with rfl | rfl<;>omega) (u70 (r6t d a))
 have hcz:r95 (u2d x) a (r6t d a)=some ((u2d x).1, [(u0f a,s02 (r6t d a)++(rdL Ty.str (u2d x).1 (u0f a).toNat).extract 1 64)]):=hob
 have hz1:=(t1q hob).2.1
 rw[hcz] at hy
 simp only[orD] at hy
 have hrd:∀j:Int,u0h y j=if j=u0f a then(s02 (r6t d a)++(rdL Ty.str (u2d x).1 (u0f a).toNat).extract 1 64,true) else u0h (u2d x) j:=fun j=>by
  rw[hy,t3y hz1]
  by_cases e:j=u0f a
  ·rw[if_pos e,e]
   unfold u0h
   rw[if_pos (by show _∧_<((u2d x).1.length:Int);rw[hxl];rcases ha with rfl | rfl<;>omega)]
   simp[u88]
  ·rw[if_neg e]
   have hne: ¬u0f a=j:=fun z=>e z.symm
   unfold u0h
   simp only[u88,List.foldl_cons,List.foldl_nil,hne,if_false,c2]
 have fy:=r0k y1 y3
 have fx:=r0k c1 hxl
 have fd:=r0k d1 d2
 have hcnt:u08 y a=u08 d a+1:=by
  unfold u08 at hc1 ⊢
  rw[p8o.mpr ha,if_pos rfl] at*
  unfold u44 at*
  rw[hrd,if_pos rfl]
  simp only
  have:u08 d a=q0r (u0h d (u0f a)).1:=by unfold u08 u44;rw[p8o.mpr ha,if_pos rfl]
  rw[hc1]
  exact q2h _ _ (by omega) (by omega)
 have hareaT:∀j,j<3008→s8s (s5n y a) j=s8s (s5n (u2d x) a) j:=fun j hj=>by
  rw[(u5s fy ha).2.2 j hj,(u5s fx ha).2.2 j hj,hrd,if_neg (by rcases ha with rfl | rfl<;>omega)]
 have hother:u0e y (1 - a)=u0e (u2d x) (1 - a):=by
  refine t2h (fun q hq=> ?_)
  have ho:=(u8z (a:=1 - a) (by omega)).1
  rw[hrd,if_neg (by rcases ha with rfl | rfl<;>omega)]
 have hother2:u0e (u2d x) (1 - a)=u0e d (1 - a):=by
  rcases ha with rfl | rfl
  ·exact s1.2.2.2
  ·exact s1.2.2.1
 have hact:u1d y=u1d d:=by
  rw[←s1.2.1]
  exact s18 (by rw[hrd,if_neg (by rcases ha with rfl | rfl<;>omega)])
 have hok:(u0e d a).2.2=true:=by rcases ha with rfl | rfl<;>assumption
 have hda:u5c (s5n d a) (u08 d a).toNat 0 [] =((u0e d a).1,(E:Int),true):=by
  rw[←t58 fd ha,←e1,←hok]
 have hfx:u5c (s5n (u2d x) a) (u08 (u2d x) a).toNat 0 [] =((u0e d a).1,(E:Int),true):=by
  have:u0e (u2d x) a=u0e d a:=by
   rcases ha with rfl | rfl
   ·exact s1.2.2.1
   ·exact s1.2.2.2
  rw[←t58 fx ha,this,←e1,←hok]
 have hcx:u08 (u2d x) a=u08 d a:=by
  unfold u08 u44
  have hk:u0f a=(((u0f a).toNat:Nat):Int):=by rcases ha with rfl | rfl<;>omega
  have h2:=r86 e3 (Nat.mod_lt _ (by omega)) (u0f a).toNat (by rcases ha with rfl | rfl<;>omega)
  rw[←hk] at h2
  rw[t3y x1,h2]
 have hsz:(s5n y a).size=(s5n (u2d x) a).size:=by rw[(u5s fy ha).2.1,(u5s fx ha).2.1]
 have hra:u0e y a=((u0e d a).1++ [t],(u0e d a).2.1+((u09 t).size:Int),true):=by
  rw[t58 fy ha,hcnt,e1]
  have hm:(u08 d a+1).toNat=(u08 d a).toNat+1:=by omega
  rw[hm]
  have hloc:=r0e hsz hfx (fun q hq=>hareaT q (by omega))
  rw[hcx] at hloc
  have hrs:=r8s (T:=s5n y a) (E:=E) e4 e5 (by rw[(u5s fy ha).2.1];exact e2) (fun q hq=>by rw[hareaT _ (by omega)];exact s2 E e1 q hq)
  have:=q2d hloc hrs e4
  rw[this]
  congr 2
 have hlog:u5i y=true:=by
  rw[hother2] at hother
  refine q1q y1 y3 y2 ?_ ?_
  ·rcases ha with rfl | rfl
   ·rw[hra]
   ·have:u0e y 0=u0e d 0:=by simpa using hother
    rw[this];exact d4
  ·rcases ha with rfl | rfl
   ·have:u0e y 1=u0e d 1:=by simpa using hother
    rw[this];exact d5
   ·rw[hra]
 exact⟨hlog,hact,hother.trans hother2,hcnt,hra⟩
end
section
theorem p7h {d:u0k} (hk:u2m d=true) {k:Nat} (hlt:k<d.1.length):(u0h d (k:Int)).2=true∧(u0h d (k:Int)).1.size=64:=by
 obtain⟨k1,k2,k3,k4⟩:=q66.mp hk
 have hc:(0:Int)≤(k:Int)∧(k:Int)<(d.1.length:Int):=by omega
 unfold u0h
 rw[if_pos hc]
 refine⟨rfl,?_⟩
 cases hp:u88 d.2 (k:Int) with
 | none=>
  have e:rdL Ty.str d.1 k=d.1[k] :=y8k (t:=Ty.str) hlt
  simp only[Option.getD_none,zTn]
  rw[e]
  exact k3 _ (List.getElem_mem hlt)
 | some s=>
  obtain⟨p,hp1,hp2⟩:=r48 hp
  simp only[Option.getD_some]
  rw[←hp2]
  exact(k4 p hp1).2
theorem p2b:∀(f:Nat) {d:u0k} {k at_:Nat} {t:ByteArray},u2m d=true→at_<64→k*64+at_+t.size≤d.1.length*64→d.2.length+(at_+t.size+63) / 64≤60→ ∃x,p4s f d k at_ t=some x
 | 0,d,k,at_,t,_,_,_,_=>⟨d,rfl⟩
 | f+1,d,k,at_,t,hk,hat,h1,h2=>by
  rw[p4s]
  by_cases hz:t.size=0
  ·exact⟨d,by rw[if_pos hz]⟩
  ·have hr:=p7h hk (k:=k) (by omega)
   rw[if_neg hz,if_pos hr]
   have hsz:((u0h d (k:Int)).1.extract 0 at_++t.extract 0 (min t.size (64 - at_))++(u0h d (k:Int)).1.extract (at_+min t.size (64 - at_)) 64).size=64:=by
    simp only[ByteArray.size_append,ByteArray.size_extract,hr.2];omega
   have hin:r47 (k:Int) 0 ((d.1.length:Int) - 1)=true:=by simp[r47];omega
   have hok:u2m (d.1,d.2++ [((k:Int),(u0h d (k:Int)).1.extract 0 at_++t.extract 0 (min t.size (64 - at_))++(u0h d (k:Int)).1.extract (at_+min t.size (64 - at_)) 64)])=true:=by
    rw[q2i,hk,hin,hsz]
    simp;omega
   have hw:t3x d (k:Int) ((u0h d (k:Int)).1.extract 0 at_++t.extract 0 (min t.size (64 - at_))++(u0h d (k:Int)).1.extract (at_+min t.size (64 - at_)) 64)=some (d.1,d.2++ [((k:Int),(u0h d (k:Int)).1.extract 0 at_++t.extract 0 (min t.size (64 - at_))++(u0h d (k:Int)).1.extract (at_+min t.size (64 - at_)) 64)]):=by
    unfold t3x
    rw[if_pos hok]
   rw[hw]
   simp only[zOb]
   have hs2:(t.extract (min t.size (64 - at_)) t.size).size=t.size - min t.size (64 - at_):=by rw[ByteArray.size_extract];omega
   refine p2b f hok (by omega) ?_ ?_
   ·rw[hs2];show _≤d.1.length*64;omega
   ·rw[hs2];simp only[List.length_append,List.length_singleton];omega
theorem p47 {d:u0k} {a:Int} {t:ByteArray} (hl:u5i d=true) (ha:a=0∨a=1) (h0:t.size≠0) (h1:t.size≤3008) (h2:u08 d a<255) (h3:(u0e d a).2.1+((u09 t).size:Int)≤3008):∃x,r0f d a t=some x:=by
 obtain⟨d1,d2,d3,d4,d5⟩:=u98 hl
 obtain⟨f1,f2⟩:=u8z ha
 have hat:=q39 d a
 have hok:(u0e d a).2.2=true:=by rcases ha with rfl | rfl<;>assumption
 have hsp:=q0i t
 unfold r0f
 rw[if_neg (by rw[hok];simp only[Bool.true_eq_false,false_or];omega)]
 unfold t1p
 have hc:(r47 (u0e d a).2.1 0 6400&&r47 (u0f a+1) 0 ((d.1.length:Int) - 1)&&u2m d)=true:=by
  rw[d1,d2]
  simp only[r47,Bool.and_eq_true,decide_eq_true_eq,and_true]
  rcases ha with rfl | rfl<;>omega
 rw[if_pos hc]
 refine p2b _ d1 (Nat.mod_lt _ (by omega)) ?_ ?_
 ·rw[d2]
  rcases ha with rfl | rfl<;>omega
 ·rw[d3]
  simp only[List.length_nil]
  omega
theorem p84 {d:u0k} {a:Int} {t:ByteArray} (hl:u5i d=true) (ha:a=0∨a=1) (h0:t.size≠0) (h1:t.size≤3008) (h2:u08 d a<255) (h3:(u0e d a).2.1+((u09 t).size:Int)≤3008):∃y,p82 d a t=some y:=by
 obtain⟨x,hx⟩:=p47 hl ha h0 h1 h2 h3
 unfold p82
 rw[hx]
 exact⟨_,rfl⟩
def p5r (l:List ByteArray):Nat:=(l.map fun t=>(u09 t).size).sum
theorem p1h {a:Int} (ha:a=0∨a=1):∀ {l:List ByteArray} {x:u0k},u5i x=true→u08 x a+(l.length:Int)≤255→(u0e x a).2.1+(p5r l:Int)≤3008→(∀t∈l,t.size≠0∧t.size≤3008)→
 ∃y,p1g a l x=some y∧u5i y=true∧u1d y=u1d x∧u0e y (1 - a)=u0e x (1 - a)∧(u0e y a).1=(u0e x a).1++l
 | [],x,hl,_,_,_=>⟨x,rfl,hl,rfl,rfl,by simp⟩
 | t::l,x,hl,hc,hr,ht=>by
  have h0:=ht t (List.mem_cons_self ..)
  have hs:p5r (t::l)=(u09 t).size+p5r l:=by simp[p5r]
  simp only[List.length_cons] at hc
  obtain⟨y,hy⟩:=p84 hl ha h0.1 h0.2 (by omega) (by omega)
  obtain⟨p1,p2,p3,p4,p5⟩:=p7g hl ha hy
  obtain⟨z,z1,z2,z3,z4,z5⟩:=p1h ha (l:=l) p1 (by omega) (by rw[p5];simp only;omega) (fun t h=>ht t (List.mem_cons_of_mem _ h))
  refine⟨z,?_,z2,z3.trans p2,z4.trans p3,?_⟩
  ·unfold p1g;rw[hy];exact z1
  ·rw[z5,p5];simp
theorem p48 {d:u0k} (hl:u5i d=true) {a n:Int} (ha:a=0∨a=1):∃z r,r95 d a n=some z∧u2m z=true∧z.1=d.1∧z.2= [(u0f a,s02 n++r)] ∧ ∀j:Int,u0h (u2d z) j=if j=u0f a then(s02 n++r,true) else u0h d j:=by
 obtain⟨d1,d2,d3,d4,d5⟩:=u98 hl
 obtain⟨f1,f2⟩:=u8z ha
 have hob:=q33 (s:=u0f a) d1 d3 (by omega) (by rw[d2];rcases ha with rfl | rfl<;>omega) (u70 n)
 have hz1:=(t1q hob).2.1
 refine⟨_,_,hob,hz1,rfl,rfl,fun j=> ?_⟩
 rw[t3y hz1]
 by_cases e:j=u0f a
 ·rw[if_pos e,e]
  unfold u0h
  rw[if_pos (by show _∧_<(d.1.length:Int);rw[d2];rcases ha with rfl | rfl<;>omega)]
  simp[u88]
 ·rw[if_neg e]
  have hne: ¬u0f a=j:=fun z=>e z.symm
  unfold u0h
  simp only[u88,List.foldl_cons,List.foldl_nil,hne,if_false,d3]
theorem q3s {d:u0k} (hl:u5i d=true):u5i (r8o d)=true∧u1d (r8o d)=u1d d∧u0e (r8o d) (u1d d)=u0e d (u1d d)∧u0e (r8o d) (u77 d)=([],0,true)∧u08 (r8o d) (u77 d)=0:=by
 obtain⟨a1,a2⟩:=r2c d
 obtain⟨z,r,hz,hz1,hz2,hz3,hrd⟩:=p48 hl (n:=0) a1
 obtain⟨d1,d2,d3,d4,d5⟩:=u98 hl
 have e:r8o d=u2d z:=by unfold r8o;rw[hz];rfl
 obtain⟨c1,c2,c3⟩:=s03 hz1
 have hlen:(u2d z).1.length=97:=by rw[c3,hz2];exact d2
 obtain⟨f1,f2⟩:=u8z a1
 rw[e]
 have hcnt:u08 (u2d z) (u77 d)=0:=by
  unfold u08 u44
  rw[p8o.mpr a1,if_pos rfl,hrd,if_pos rfl]
  exact q2h 0 r (by omega) (by omega)
 have ho:u0e (u2d z) (u77 d)=([],0,true):=by
  rw[t58 (r0k c1 hlen) a1,hcnt]
  rfl
 have hother:u0e (u2d z) (1 - u77 d)=u0e d (1 - u77 d):=by
  refine t2h (fun q hq=> ?_)
  have ho:=(u8z (a:=1 - u77 d) (by omega)).1
  rw[hrd,if_neg (by omega)]
 rw[←a2] at hother
 have hact:u1d (u2d z)=u1d d:=s18 (by rw[hrd,if_neg (by omega)])
 have hok:(u0e d (u1d d)).2.2=true:=by rcases r4z d with q | q<;>rw[q] <;>assumption
 refine⟨q1q c1 hlen c2 ?_ ?_,hact,hother,ho,hcnt⟩
 ·rcases a1 with q | q
  ·rw[q] at ho;rw[ho]
  ·have q2:u1d d=0:=by omega
   rw[q2] at hother hok
   rw[hother];exact hok
 ·rcases a1 with q | q
  ·have q2:u1d d=1:=by omega
   rw[q2] at hother hok
   rw[hother];exact hok
  ·rw[q] at ho;rw[ho]
end
section
theorem p0u {z:u0k} {s:Int} {b:ByteArray} (hk:u2m z=true) (hz:z.2= [(s,b++(rdL Ty.str z.1 s.toNat).extract 1 64)]) (hb:b.size=1) (keep:List Int) (tear:Int):
 (p25 keep 0=false→s0q z keep tear=(z.1, []))∧(p25 keep 0=true→1≤s0e tear→s0q z keep tear=u2d z)∧(s0q z keep tear=(z.1, [])∨s0q z keep tear=u2d z):=by
 obtain⟨k1,k2,k3,k4⟩:=q66.mp hk
 have hs:=(k4 (s,b++(rdL Ty.str z.1 s.toNat).extract 1 64) (by rw[hz];simp)).1
 have hlt:s.toNat<z.1.length:=by
  have h1:0≤s:=hs.1
  have h2:s<(z.1.length:Int):=hs.2
  omega
 have ht:=(p9g tear).1
 have eo:rdL Ty.str z.1 s.toNat=z.1[s.toNat] :=y8k (t:=Ty.str) hlt
 have hold:(rdL Ty.str z.1 s.toNat).size=64:=by rw[eo];exact k3 _ (List.getElem_mem hlt)
 have hlen:z.2.length=1:=by rw[hz];rfl
 have h0:rdL s5i z.2 0=(s,b++(rdL Ty.str z.1 s.toNat).extract 1 64):=by rw[hz];rfl
 have hc:s0q z keep tear=(r6u z keep (r69 keep 1) (s0e tear) z.1 0, []):=by
  unfold s0q
  rw[if_pos hk,hlen]
  rfl
 have hfl:u2d z=(s1w z.1 (s,b++(rdL Ty.str z.1 s.toNat).extract 1 64), []):=by
  unfold u2d
  rw[if_pos hk,hz]
  rfl
 have hno:p25 keep 0=false→s0q z keep tear=(z.1, []):=fun h=>by
  rw[hc]
  unfold r6u
  rw[h,if_neg (by simp)]
 have hyes:p25 keep 0=true→s0q z keep tear=(s1w z.1 (s,(b++(rdL Ty.str z.1 s.toNat).extract 1 64).extract 0 (s0e tear)++(rdL Ty.str z.1 s.toNat).extract (s0e tear) 64), []):=fun h=>by
  have hlast:r69 keep 1=0:=by
   show(if p25 keep 0 then((0:Nat):Int) else r69 keep 0)=0
   rw[if_pos h];rfl
  rw[hc]
  unfold r6u
  rw[h,if_pos rfl,hlast,if_pos (by rfl),h0]
  simp only[hold]
 have hfull:p25 keep 0=true→1≤s0e tear→s0q z keep tear=u2d z:=fun h h1=>by
  rw[hyes h,hfl]
  congr 2
  congr 1
  apply q1p
  ·simp only[ByteArray.size_append,ByteArray.size_extract,hold,hb];omega
  ·intro i hi
   simp only[ByteArray.size_append,ByteArray.size_extract,hold,hb] at hi
   rw[u74,u4d,u4d]
   simp only[ByteArray.size_append,ByteArray.size_extract,hold,hb]
   by_cases h2:i<s0e tear
   ·rw[if_pos (by omega),if_pos (by omega),Nat.zero_add]
   ·rw[if_neg (by omega),if_pos (by omega),u74,if_neg (by omega),u4d,hb,hold,if_pos (by omega)]
    congr 1
    omega
 refine⟨hno,hfull,?_⟩
 cases h:p25 keep 0 with
 | false=>exact .inl (hno h)
 | true=>
  by_cases h1:1≤s0e tear
  ·exact .inr (hfull h h1)
  ·left
   have ht0:s0e tear=0:=by omega
   rw[hyes h,ht0]
   congr 1
   have e1:(b++(rdL Ty.str z.1 s.toNat).extract 1 64).extract 0 0++(rdL Ty.str z.1 s.toNat).extract 0 64=rdL Ty.str z.1 s.toNat:=by
    apply q1p
    ·simp only[ByteArray.size_append,ByteArray.size_extract,hold,hb];omega
    ·intro i hi
     simp only[ByteArray.size_append,ByteArray.size_extract,hold,hb] at hi
     rw[u74,if_neg (by rw[ByteArray.size_extract];omega),u4d,hold,if_pos (by rw[ByteArray.size_extract];omega)]
     congr 1
     rw[ByteArray.size_extract]
     omega
   rw[e1]
   unfold s1w
   show z.1.set s.toNat (rdL Ty.str z.1 s.toNat)=z.1
   rw[eo]
   exact List.set_getElem_self hlt
theorem p2y {d:u0k} (hl:u5i d=true) {a n:Int} (ha:a=0∨a=1) (keep:List Int) (tear:Int):∃z,r95 d a n=some z∧
 (p25 keep 0=false→s0q z keep tear=d)∧(p25 keep 0=true→1≤s0e tear→s0q z keep tear=u2d z)∧(s0q z keep tear=d∨s0q z keep tear=u2d z):=by
 obtain⟨d1,d2,d3,d4,d5⟩:=u98 hl
 obtain⟨f1,f2⟩:=u8z ha
 have hob:=q33 (s:=u0f a) d1 d3 (by omega) (by rw[d2];rcases ha with rfl | rfl<;>omega) (u70 n)
 have hz1:=(t1q hob).2.1
 have hd:(d.1,([] :List (Int×ByteArray)))=d:=by rw[←d3]
 obtain⟨c1,c2,c3⟩:=p0u hz1 rfl (u70 n) keep tear
 rw[hd] at c1 c3
 exact⟨_,hob,c1,c2,c3⟩
theorem q65 {x:u0k} (hl:u5i x=true) (keep:List Int) (tear:Int):∃z,p9l x=some z∧u2m z=true∧(∀j:Int,u0h (u2d z) j=if j=0 then(s02 (IntKind.i64.wrap (u44 x 0+1))++(rdL Ty.str x.1 0).extract 1 64,true) else u0h x j)∧(u2d z).1.length=97∧
 (p25 keep 0=false→s0q z keep tear=x)∧(p25 keep 0=true→1≤s0e tear→s0q z keep tear=u2d z)∧(s0q z keep tear=x∨s0q z keep tear=u2d z):=by
 obtain⟨d1,d2,d3,d4,d5⟩:=u98 hl
 have hob:=q33 (s:=0) d1 d3 (by omega) (by rw[d2];omega) (u70 (IntKind.i64.wrap (u44 x 0+1)))
 have hz1:=(t1q hob).2.1
 have hd:(x.1,([] :List (Int×ByteArray)))=x:=by rw[←d3]
 obtain⟨c1,c2,c3⟩:=p0u hz1 rfl (u70 (IntKind.i64.wrap (u44 x 0+1))) keep tear
 rw[hd] at c1 c3
 refine⟨_,hob,hz1,fun j=> ?_,by rw[(s03 hz1).2.2];exact d2,c1,c2,c3⟩
 rw[t3y hz1]
 by_cases e:j=0
 ·rw[if_pos e,e]
  unfold u0h
  rw[if_pos (by show _∧_<(x.1.length:Int);rw[d2];omega)]
  simp[u88]
 ·rw[if_neg e]
  have hne: ¬(0:Int)=j:=fun z=>e z.symm
  unfold u0h
  simp only[u88,List.foldl_cons,List.foldl_nil,hne,if_false,d3]
theorem p9m {x z:u0k} (hl:u5i x=true) (hz1:u2m z=true) (hlen:(u2d z).1.length=97) (hrd:∀j:Int,u0h (u2d z) j=if j=0 then(s02 (IntKind.i64.wrap (u44 x 0+1))++(rdL Ty.str x.1 0).extract 1 64,true) else u0h x j):
 u5i (u2d z)=true∧u1d (u2d z)=1 - u1d x∧u0e (u2d z) 0=u0e x 0∧u0e (u2d z) 1=u0e x 1:=by
 obtain⟨d1,d2,d3,d4,d5⟩:=u98 hl
 obtain⟨c1,c2,c3⟩:=s03 hz1
 have r0:u0e (u2d z) 0=u0e x 0:=t2h (fun q hq=>by
  have:=(u8z (a:=0) (.inl rfl)).1
  rw[hrd,if_neg (by omega)])
 have r1:u0e (u2d z) 1=u0e x 1:=t2h (fun q hq=>by
  have:=(u8z (a:=1) (.inr rfl)).1
  rw[hrd,if_neg (by omega)])
 have hb:=q8h (u0h x 0).1
 refine⟨q1q c1 hlen c2 (by rw[r0];exact d4) (by rw[r1];exact d5),?_,r0,r1⟩
 unfold u1d u44
 rw[hrd,if_pos rfl]
 have w:IntKind.i64.wrap (u44 x 0+1)=u44 x 0+1:=by unfold u44;exact y4y (by omega) (by omega)
 have e:q0r (s02 (IntKind.i64.wrap (u44 x 0+1))++(rdL Ty.str x.1 0).extract 1 64)=(u44 x 0+1) % 256:=by
  rw[w,q63,u74,if_pos (by rw[u70];omega)]
  unfold s02 s8s
  rw[s4p,p3t]
  simp only[u8s,List.map_cons,List.map_nil,List.getD_cons_zero]
  rw[UInt8.toNat_ofNat']
  omega
 show Int.tmod (q0r _) 2=_
 rw[e]
 have hf:u44 x 0=q0r (u0h x 0).1:=rfl
 rw[hf]
 generalize q0r (u0h x 0).1=n at*
 obtain⟨m,rfl⟩:∃m:Nat,n=(m:Int):=⟨n.toNat,by omega⟩
 have t1:Int.tmod (m:Int) 2=((m % 2:Nat):Int):=p7r m 2
 have t2:Int.tmod (((m:Int)+1) % 256) 2=((((m+1) % 256) % 2:Nat):Int):=by
  have:((m:Int)+1) % 256=(((m+1) % 256:Nat):Int):=by omega
  rw[this]
  exact p7r ((m+1) % 256) 2
 rw[t1,t2]
 omega
end
section
theorem p46 {d y:u0k} {t:ByteArray} (h:append_ d t=some y):u5i d=true∧u5i y=true∧u0g y=u0g d++ [t] :=by
 unfold append_ at h
 split at h
 ·rename_i hl
  obtain⟨p1,p2,p3,p4,p5⟩:=p7g hl (r4z d) h
  refine⟨hl,p1,?_⟩
  unfold u0g
  rw[p2,p5]
 ·cases h
theorem p8k {d:u0k} {l:List ByteArray} (hl:u5i d=true) (hn:l.length≤255) (hr:p5r l≤3008) (ht:∀t∈l,t.size≠0∧t.size≤3008):
 ∃x,q9l d l=some x∧u5i x=true∧u1d x=u1d d∧u0g x=u0g d∧(u0e x (u77 d)).1=l:=by
 obtain⟨a1,a2⟩:=r2c d
 obtain⟨f1,f2,f3,f4,f5⟩:=q3s hl
 obtain⟨y,y1,y2,y3,y4,y5⟩:=p1h a1 (l:=l) f1 (by rw[f5];omega) (by rw[f4];simp only;omega) ht
 rw[←a2] at y4
 refine⟨y,by unfold q9l;rw[hl,if_pos rfl];exact y1,y2,y3.trans f2,?_,by rw[y5,f4];simp⟩
 unfold u0g
 rw[y3.trans f2,y4,f3]
theorem p5b {d x:u0k} {l:List ByteArray} (hx:q9l d l=some x) (h1:u5i x=true) (h2:u1d x=u1d d) (h3:u0g x=u0g d) (h4:(u0e x (u77 d)).1=l) (hl:u5i d=true):
 ∃y,r8u d l=some y∧u5i y=true∧u0g y=l∧ ∀(step:Int) (keep:List Int) (tear:Int),
  (step=0→u5i (u95 d l step keep tear)=true∧u0g (u95 d l step keep tear)=u0g d)∧(step=1→u95 d l step keep tear=x)∧
  (step≠0→step≠1→step≠2→u95 d l step keep tear=y)∧
  (step=2→(p25 keep 0=false→u95 d l step keep tear=x)∧(p25 keep 0=true→1≤s0e tear→u95 d l step keep tear=y)∧(u95 d l step keep tear=x∨u95 d l step keep tear=y)):=by
 obtain⟨a1,a2⟩:=r2c d
 obtain⟨z,hz,hz1,hrd,hlen,_⟩:=q65 h1 [] 0
 obtain⟨t1,t2,t3,t4⟩:=p9m h1 hz1 hlen hrd
 have hsw:r8u d l=some (u2d z):=by unfold r8u;rw[hx];simp only[Option.map_some,hz,orD]
 have htx:u0g (u2d z)=l:=by
  have ho:u1d (u2d z)=u77 d:=by rw[t2,h2];rfl
  unfold u0g
  rw[ho,←h4]
  rcases a1 with q | q<;>rw[q]
  ·rw[t3]
  ·rw[t4]
 refine⟨u2d z,hsw,t1,htx,fun step keep tear=> ?_⟩
 obtain⟨c,hc,c1,c2,c3⟩:=p2y hl (n:=0) a1 keep tear
 obtain⟨z',hz',_,_,_,g1,g2,g3⟩:=q65 h1 keep tear
 rw[hz] at hz'
 cases hz'
 have e0:∀st,u95 d l st keep tear=(if st=0 then s0q c keep tear else if st=1 then x else if st=2 then s0q z keep tear else u2d z):=fun st=>by
  unfold u95
  rw[hx]
  simp only[hc,orD,hz]
 have hf0:u2d c=r8o d:=by unfold r8o;rw[hc];rfl
 obtain⟨f1,f2,f3,f4,f5⟩:=q3s hl
 have htx0:u0g (r8o d)=u0g d:=by unfold u0g;rw[f2,f3]
 refine⟨fun s0=> ?_,fun s1=> ?_,fun n0 n1 n2=> ?_,fun s2=> ?_⟩
 ·rw[e0,if_pos s0]
  rcases c3 with q | q
  ·rw[q];exact⟨hl,rfl⟩
  ·rw[q,hf0];exact⟨f1,htx0⟩
 ·rw[e0,if_neg (by omega),if_pos s1]
 ·rw[e0,if_neg n0,if_neg n1,if_neg n2]
 ·have e:u95 d l step keep tear=s0q z keep tear:=by rw[e0,if_neg (by omega),if_neg (by omega),if_pos s2]
  rw[e]
  exact⟨g1,g2,g3⟩
end
section
structure Like0 (b e:u0j):Prop where
 vs:b.1=u2x e.1 e.2.2.2.1
 past:b.2.1= []
 ready:b.2.2.1=e.2.2.1
 cs:b.2.2.2.1=e.2.2.2.1
theorem p7b (b:u0j):∀(o:List u0i),t45 b o≤b.2.2.2.1:=by
 intro o
 have key:∀(o:List u0i) (m:Int),o.foldl (fun m t=>if t.2.2.1<m then t.2.2.1 else m) m≤m:=by
  intro o
  induction o with
  | nil=>intro m;exact Int.le_refl _
  | cons t o ih=>
   intro m
   rw[List.foldl_cons]
   refine Int.le_trans (ih _) ?_
   split<;>omega
 exact key o _
theorem p5l (b:u0j):t45 b [] =b.2.2.2.1:=rfl
theorem Like0.tidy {b e:u0j} (h:Like0 b e) (he:BaseR e) (o:List u0i):Like0 b (u4b e o):=
 ⟨by rw[h.vs];exact(q4l (p76.mp he.vs).2.1 (p7b e o)).symm,h.past,h.ready,h.cs⟩
theorem r8w {x:u0j} (hp:∀t∈x.2.1,t.2.2.2.1≤x.2.2.2.1):u4b x [] =(u2x x.1 x.2.2.2.1, [],x.2.2):=by
 unfold u4b
 rw[p5l]
 congr 2
 rw[List.filter_eq_nil_iff]
 intro t ht
 simp[hp t ht]
theorem Like0.self {b e:u0j} (h:Like0 b e) (he:BaseR e):u4b b [] =b:=by
 rw[r8w (by rw[h.past];intro t ht;cases ht)]
 obtain⟨b1,b2,b3⟩:=b
 have h1:=h.vs
 have h2:=h.past
 have h4:=h.cs
 simp only at h1 h2 h4
 rw[h4,h1,h2,q4l (p76.mp he.vs).2.1 (Int.le_refl _)]
theorem p5d {d d' x:u0i} (h1:d.1=d'.1) (h2:d.2.1=d'.2.1) (h3:d.2.2.1=d'.2.2.1) (h4:d.2.2.2.1=d'.2.2.2.1) (h5:d.2.2.2.2.2.1=d'.2.2.2.2.2.1):q1o d x=q1o d' x:=by
 have:ahead x d=ahead x d' :=by unfold ahead r4a q35;rw[h1,h2,h3,h4,h5]
 unfold q1o;rw[this]
theorem Like0.vlen {b e:u0j} (h:Like0 b e):b.1.length≤e.1.length:=by rw[h.vs];exact(u8a _ _).length_le
theorem p15 {b e:u0j} {t u:u0i} (h:Like0 b e) (he:BaseR e) (hb:BaseR b) (hc:e.2.2.2.1<9999) (hv:e.1.length≤100) (hu:TxnR u) (h9:u.1<9999) (hs:u.2.2.1≤e.2.2.2.1)
 (h1:u.1=t.1) (h3:u.2.2.1=t.2.2.1) (h5:u.2.2.2.2.2.1=t.2.2.2.2.2.1):
 u5m (u4b (u2g b u) [])=true∧Like0 (u4b (u2g b u) []) (u2g e t):=by
 have hR:BaseR (u2g b u):=p14 hb hu (by rw[h.cs];exact hs) (by rw[h.cs];exact hc) (by rw[h.past];simp) (by have:=h.vlen;omega) (by rw[h.past];intro x hx;cases hx) h9
 refine⟨q62.mpr (r2g hR _),?_⟩
 rw[r8w (fun x hx=>(hR.past x hx).2.2)]
 obtain⟨v1,v2,v3⟩:=p76.mp he.vs
 refine⟨?_,rfl,?_,?_⟩
 ·show u2x (t4e b.1 u.2.2.2.2.2.1 (b.2.2.2.1+1)) (b.2.2.2.1+1)=u2x (t4e e.1 t.2.2.2.2.2.1 (e.2.2.2.1+1)) (e.2.2.2.1+1)
  rw[h.cs,h.vs,h5]
  exact p9k v2 (h5 ▸ p2c hu.ws) fun x hx=>by have:=he.vcs x hx;unfold vCs;omega
 ·show(b.2.2.1.filter fun x=> !decide (x.1=u.1)).map (q1o (q2j b u))=(e.2.2.1.filter fun x=> !decide (x.1=t.1)).map (q1o (q2j e t))
  rw[h.ready,h1]
  refine List.map_congr_left fun x _=>p5d h1 rfl h3 ?_ h5
  show b.2.2.2.1+1=e.2.2.2.1+1
  rw[h.cs]
 ·show b.2.2.2.1+1=e.2.2.2.1+1
  rw[h.cs]
theorem s59 {b:u0j} {n:ByteArray} (h: ¬u0v b n<0):∃(k:Nat) (hk:k<b.2.2.1.length),u0v b n=(k:Int)∧b.2.2.1[k].2.2.2.2.2.2.2=n:=by
 unfold u0v at h ⊢
 split at h
 ·rename_i q
  rw[if_pos q]
  exact⟨_,q,rfl,y7f.mp (t86 q)⟩
 ·omega
theorem q0g {b e:u0j} (h:b.2.2.1=e.2.2.1) (n:ByteArray):u0v b n=u0v e n:=by unfold u0v;rw[h]
theorem p5o {b e:u0j} {n:ByteArray} {k:Nat} (h:Like0 b e) (he:BaseR e) (hb:BaseR b) (hc:e.2.2.2.1<9999) (hv:e.1.length≤100) (hn:t2a n=true) (hk:k<e.2.2.1.length) (hr:u0v e n=(k:Int)):
 ∃x,u9q b (3,u6d,n,true,u3p)=some x∧BaseR x∧Like0 x (u2g e e.2.2.1[k]):=by
 obtain⟨q1,q2,q3⟩:=he.ready _ (List.getElem_mem hk)
 have h9:e.2.2.1[k].1<9999:=by
  have:=r0g.mp he.below _ (List.mem_append_right e.2.1 (List.getElem_mem hk))
  have:=he.next.2;omega
 obtain⟨k1,k2⟩:=p15 (t:=e.2.2.1[k]) (u:=e.2.2.1[k]) h he hb hc hv q1 h9 q3 rfl rfl rfl
 refine⟨_,?_,q62.mp k1,k2⟩
 unfold u9q
 rw[if_pos ⟨q62.mpr hb,p95.mpr (.fin _ _ hn)⟩]
 have e1:u2p b (3,u6d,n,true,u3p)=some (u2g b e.2.2.1[k]):=by
  unfold u2p
  simp only
  rw[if_neg (by decide),if_neg (by decide),if_pos trivial,q0g h.ready,hr,if_neg (by omega),if_pos trivial,zTn]
  congr 2
  rw[h.ready]
  exact y8k (t:=u0o) hk
 rw[e1]
 simp only
 rw[if_pos k1]
theorem p7e {b e:u0j} {n:ByteArray} {k:Nat} (h:Like0 b e) (he:BaseR e) (hb:BaseR b) (hn:t2a n=true) (hk:k<e.2.2.1.length) (hr:u0v e n=(k:Int)):
 ∃x,u9q b (3,u6d,n,false,u3p)=some x∧BaseR x∧Like0 x (t43 e n):=by
 have hR:=q3u hb n
 refine⟨u4b (t43 b n) [],?_,r2g hR _,?_⟩
 ·unfold u9q
  rw[if_pos ⟨q62.mpr hb,p95.mpr (.fin _ _ hn)⟩]
  have e1:u2p b (3,u6d,n,false,u3p)=some (t43 b n):=by
   unfold u2p
   simp only
   rw[if_neg (by decide),if_neg (by decide),if_pos trivial,q0g h.ready,hr,if_neg (by omega),if_neg (by decide)]
  rw[e1]
  simp only
  rw[if_pos (q62.mpr (r2g hR _))]
 ·rw[r8w (fun x hx=>(hR.past x hx).2.2)]
  refine⟨?_,rfl,?_,h.cs⟩
  ·show u2x b.1 b.2.2.2.1=u2x e.1 e.2.2.2.1
   rw[h.cs,h.vs]
   exact q4l (p76.mp he.vs).2.1 (Int.le_refl _)
  ·show b.2.2.1.filter _=e.2.2.1.filter _
   rw[h.ready]
theorem p38:BaseR p90:=by
 refine⟨rfl,fun v h=>(by cases h),⟨Int.le_refl _,by decide⟩,⟨by decide,by decide⟩,by decide,fun t h=>(by cases h),List.Pairwise.nil,by decide,fun t h=>(by cases h),List.Pairwise.nil,fun x h=>(by cases h),List.Pairwise.nil⟩
theorem p3d {b:u0j} (hb:BaseR b) (hs:u4b b [] =b):u9q p90 (4,u6d,emp,false,b)=some b:=by
 unfold u9q
 rw[if_pos ⟨q62.mpr p38,p95.mpr (.bas b hb)⟩]
 have e1:u2p p90 (4,u6d,emp,false,b)=some b:=by
  unfold u2p
  simp only
  rw[if_neg (by decide),if_neg (by decide),if_neg (by decide)]
 rw[e1]
 simp only
 rw[hs,if_pos (q62.mpr hb)]
theorem p5u {d y:u0k} {t:ByteArray} (h:r8u d [t] =some y):u5i d=true∧u5i y=true∧u0g y= [t] :=by
 obtain⟨x,hx⟩:∃x,q9l d [t] =some x:=by
  cases q:q9l d [t] with
  | none=>unfold r8u at h;rw[q] at h;cases h
  | some x=>exact⟨x,rfl⟩
 have hl:u5i d=true:=by
  unfold q9l at hx
  split at hx
  ·assumption
  ·cases hx
 obtain⟨a1,a2⟩:=r2c d
 obtain⟨f1,f2,f3,f4,f5⟩:=q3s hl
 have hp:∃z,p82 (r8o d) (u77 d) t=some z:=by
  unfold q9l at hx
  rw[if_pos hl] at hx
  cases q:p82 (r8o d) (u77 d) t with
  | none=>simp only[p1g,q] at hx;cases hx
  | some z=>exact⟨z,rfl⟩
 obtain⟨z,hz⟩:=hp
 obtain⟨w,hw,_⟩:=p93 (u98 f1).2.1 hz
 obtain⟨E,hE,g1,g2,g3,g4,g5⟩:=q8f hw
 obtain⟨x',x1,x2,x3,x4,x5⟩:=p8k (l:= [t]) hl (by simp) (by simp[p5r];omega) (fun u hu=>by simp at hu;subst hu;exact⟨g3,g4⟩)
 rw[hx] at x1
 cases x1
 obtain⟨y',y1,y2,y3,_⟩:=p5b hx x2 x3 x4 x5 hl
 rw[h] at y1
 cases y1
 exact⟨hl,y2,y3⟩
def o31 (d:u0k):Option u0k:=match t3z (u0g d) with
 | none=>none
 | some b=>if(u16 (4,u6d,emp,false,b)).2=true then r8u d [(u16 (4,u6d,emp,false,b)).1] else none
def q3y (d:u0k) (r:s5j):Option u0k:=
 if(u16 r).2=true then(match append_ d (u16 r).1 with
  | some y=>some y
  | none=>match o31 d with
   | none=>none
   | some z=>append_ z (u16 r).1)
 else none
theorem p8f {d y:u0k} {b:u0j} (hp:t3z (u0g d)=some b) (hb:BaseR b) (hs:u4b b [] =b) (h:o31 d=some y):u5i d=true∧u5i y=true∧t3z (u0g y)=some b:=by
 unfold o31 at h
 rw[hp] at h
 simp only at h
 rw[t4d (.bas b hb),if_pos rfl] at h
 obtain⟨h1,h2,h3⟩:=p5u h
 refine⟨h1,h2,?_⟩
 rw[h3]
 unfold t3z
 simp only[t7k]
 rw[r1d (.bas b hb)]
 simp only
 rw[p3d hb hs]
theorem p35 {d y:u0k} {b x:u0j} {r:s5j} (hp:t3z (u0g d)=some b) (hb:BaseR b) (hs:u4b b [] =b) (hr:RecR r) (hx:u9q b r=some x) (h:q3y d r=some y):u5i y=true∧t3z (u0g y)=some x:=by
 have step:∀ {d y:u0k},t3z (u0g d)=some b→append_ d (r2q (r2p r))=some y→u5i y=true∧t3z (u0g y)=some x:=by
  intro d y hp h
  obtain⟨h1,h2,h3⟩:=p46 h
  refine⟨h2,?_⟩
  rw[h3]
  unfold t3z at hp ⊢
  rw[p5n,hp]
  simp only[zOb,t7k]
  rw[r1d hr]
  simp only
  rw[hx]
 unfold q3y at h
 rw[t4d hr,if_pos rfl] at h
 simp only at h
 cases q:append_ d (r2q (r2p r)) with
 | some z=>
  rw[q] at h
  cases h
  exact step hp q
 | none=>
  rw[q] at h
  simp only at h
  cases a:o31 d with
  | none=>rw[a] at h;cases h
  | some z=>
   rw[a] at h
   obtain⟨_,_,z3⟩:=p8f hp hb hs a
   exact step z3 h
end
end
end Go.Proofs.YtbkicjpdlchbgaaGreat.Ab
