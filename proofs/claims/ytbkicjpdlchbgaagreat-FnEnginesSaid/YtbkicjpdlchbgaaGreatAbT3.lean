import Derived.Test.YtbkicjpdlchbgaaGreatAbT2
import Derived.Test.YtbkicjpdlchbgaaGreatAbK2
import Derived.Test.YtbkicjpdlchbgaaGreatAbF4
import Derived.Test.YtbkicjpdlchbgaaGreatAbS2
namespace Go.Proofs.YtbkicjpdlchbgaaGreat.Ab
open Go
set_option linter.unusedVariables false
set_option linter.unusedSimpArgs false
set_option linter.unnecessarySimpa false
section
section
def u7p (m:Nat) (s:ByteArray) (c:Cur):u0f × Cur:=((q0h m s c).1,(q0h m s c).2.1,(q0h m s c).2.2 || !u5b (q0h m s c).1)
def t2o (m k:Nat) (s:ByteArray) (c:Cur):List u0f × Cur:=u3j (u7p m s) (min (u3e s c).1.toNat k) (u3e s c).2 []
structure Lim where
  t:Nat
  v:Nat
  p:Nat
  r:Nat
def s4h (m:Lim) (s:ByteArray) (c:Cur):u0i × Cur:=
  let a:=u3e s c
  let b:=u3e s a.2
  let n:=u3e s b.2
  let vs:=u3j (q80 s) (min n.1.toNat m.v) n.2 []
  let ps:=t2o m.t m.p s vs.2
  let rs:=t2o m.t m.r s ps.2
  ((vs.1,ps.1,rs.1,a.1,b.1),rs.2)
theorem p2a {m:Nat} {s:ByteArray} {c:Cur} (h:c.2=true):(u7p m s c).2.2=true:=by
  have:(q0h m s c).2.2=true:=by
    unfold q0h
    have h1:=u6s (s:=s) h
    have h2:=u6s (s:=s) h1
    have h3:=u6s (s:=s) h2
    have h4:=u6s (s:=s) h3
    have h5:=u6s (s:=s) h4
    simp only
    rw [t04 h5]
    have h6:=u6s (s:=s) h5
    simp only
    rw [t04 h6]
    exact s0o (r1z h6)
  unfold u7p
  simp only [this,Bool.true_or]
theorem s63 {E:Type} {f:Cur→E × Cur} {n k:Nat} {c:Cur} (hk:k≤n):(u3j f n c []).2.2=true∨k≤(u3j f n c []).1.length:=by
  cases h:(u3j f n c []).2.2 with
  | true=>exact .inl rfl
  | false=>rw [q53 h]; exact .inr (by simp; exact hk)
theorem q5w {m m' :Nat} (hm:9≤m) (hm' :9≤m') {s:ByteArray} {c:Cur} (h:(u7p m s c).2.2=false):u7p m' s c=u7p m s c:=by
  have hb:(q0h m s c).2.2=false∧u5b (q0h m s c).1=true:=by
    unfold u7p at h
    simp only [Bool.or_eq_false_iff,Bool.not_eq_false'] at h
    exact h
  have hR:=r2e.mp hb.2
  have hw:=(p47.mp hR.ws).2.2
  suffices e:q0h m' s c=q0h m s c by unfold u7p; rw [e]
  have b1:=hb.1
  have hr:=hR.rlen
  unfold q0h at b1 hr hw ⊢
  simp only at b1 hr hw ⊢
  generalize hn:u3e s (u3e s (u3e s (u3e s (u3e s c).2).2).2).2=n at b1 hr hw ⊢
  have k1:n.1.toNat≤8∨(u3j (q8y s) (min n.1.toNat m) n.2 []).2.2=true:=by
    rcases Nat.lt_or_ge 8 n.1.toNat with q | q
    · rcases s63 (f:=q8y s) (n:=min n.1.toNat m) (k:=9) (c:=n.2) (by omega) with z | z
      · exact .inr z
      · omega
    · exact .inl q
  have k1:n.1.toNat≤8:=k1.resolve_right fun k1=>by
    have h1:=u6s (s:=s) k1
    rw [t04 h1] at b1
    rw [s0o (r1z h1)] at b1
    cases b1
  have e1:min n.1.toNat m=min n.1.toNat m' :=by omega
  rw [e1] at b1 hw ⊢
  generalize hk:u3e s (u3j (q8y s) (min n.1.toNat m') n.2 []).2=k at b1 hw ⊢
  have k2:k.1.toNat≤8∨(u3j (rWr s) (min k.1.toNat m) k.2 []).2.2=true:=by
    rcases Nat.lt_or_ge 8 k.1.toNat with q | q
    · rcases s63 (f:=rWr s) (n:=min k.1.toNat m) (k:=9) (c:=k.2) (by omega) with z | z
      · exact .inr z
      · omega
    · exact .inl q
  have k2:k.1.toNat≤8:=k2.resolve_right fun k2=>by
    rw [s0o (r1z k2)] at b1
    cases b1
  have e2:min k.1.toNat m=min k.1.toNat m' :=by omega
  rw [e2]
theorem r7z {E:Type} {f g:Cur→E × Cur} (hf:∀c,(f c).2.2=false→g c=f c) (hfb:∀c,c.2=true→(f c).2.2=true):∀ {n:Nat} {c:Cur} {a:List E},(u3j f n c a).2.2=false→u3j g n c a=u3j f n c a
  | 0,c,a,_=>rfl
  | n+1,c,a,h=>by
    simp only [u3j] at h ⊢
    split at h
    · rename_i q; rw [q] at h; cases h
    · rename_i q
      rw [if_neg q,if_neg q]
      have:(f c).2.2=false:=by
        cases z:(f c).2.2 with
        | false=>rfl
        | true=>rw [t04 z] at h; rw [z] at h; cases h
      rw [hf c this]
      exact r7z hf hfb h
def t5g (m:Lim) (s:ByteArray) (c:Cur):u0i × Cur:=((s4h m s c).1,(s4h m s c).2.1,(s4h m s c).2.2 || !t0t (s4h m s c).1)
def Lim.ok (m:Lim):Prop:=9≤m.t∧121≤m.v∧13≤m.p∧4≤m.r
theorem s6d {m k:Nat} {s:ByteArray} {c:Cur} (h:c.2=true):(t2o m k s c).2.2=true:=by
  unfold t2o; rw [t04 (u6s h)]; exact u6s h
theorem q55 {m m' k k' N:Nat} (hm:9≤m) (hm' :9≤m') (hk:N<k) (hk' :N<k') {s:ByteArray} {c:Cur} (h:(t2o m k s c).2.2=false) (hl:(t2o m k s c).1.length≤N):t2o m' k' s c=t2o m k s c:=by
  unfold t2o at h hl ⊢
  have q:(u3e s c).1.toNat≤N:=by
    rcases Nat.lt_or_ge N (u3e s c).1.toNat with q | q
    · rcases s63 (f:=u7p m s) (n:=min (u3e s c).1.toNat k) (k:=N+1) (c:=(u3e s c).2) (by omega) with z | z
      · rw [z] at h; cases h
      · omega
    · exact q
  have e:min (u3e s c).1.toNat k=min (u3e s c).1.toNat k' :=by omega
  rw [e] at h ⊢
  exact r7z (fun c hc=>q5w hm hm' hc) (fun c hc=>p2a hc) h
theorem q95 {m m' :Lim} (hm:m.ok) (hm' :m'.ok) {s:ByteArray} {c:Cur} (h:(t5g m s c).2.2=false):t5g m' s c=t5g m s c:=by
  obtain ⟨a1,a2,a3,a4⟩:=hm
  obtain ⟨b1,b2,b3,b4⟩:=hm'
  have hb:(s4h m s c).2.2=false∧t0t (s4h m s c).1=true:=by
    unfold t5g at h
    simp only [Bool.or_eq_false_iff,Bool.not_eq_false'] at h
    exact h
  have hR:=q0y.mp hb.2
  have v1:=(p28.mp hR.vs).2.2
  have v2:=hR.plen
  have v3:=hR.rlen
  have h0:=hb.1
  suffices e:s4h m' s c=s4h m s c by unfold t5g; rw [e]
  unfold s4h at h0 v1 v2 v3 ⊢
  simp only at h0 v1 v2 v3 ⊢
  generalize hn:u3e s (u3e s (u3e s c).2).2=n at h0 v1 v2 v3 ⊢
  have k1:n.1.toNat≤120:=by
    rcases Nat.lt_or_ge 120 n.1.toNat with q | q
    · rcases s63 (f:=q80 s) (n:=min n.1.toNat m.v) (k:=121) (c:=n.2) (by omega) with z | z
      · exfalso
        rw [s6d (s6d z)] at h0
        cases h0
      · omega
    · exact q
  have e1:min n.1.toNat m.v=min n.1.toNat m'.v:=by omega
  rw [e1] at h0 v2 v3 ⊢
  generalize hv:u3j (q80 s) (min n.1.toNat m'.v) n.2 [] =vs at h0 v2 v3 ⊢
  have hp:(t2o m.t m.p s vs.2).2.2=false:=by
    cases z:(t2o m.t m.p s vs.2).2.2 with
    | false=>rfl
    | true=>rw [s6d z] at h0; cases h0
  rw [q55 (N:=12) a1 b1 (by omega) (by omega) hp v2]
  rw [q55 (N:=3) a1 b1 (by omega) (by omega) h0 v3]
theorem s6a {s:ByteArray} {a:Nat} {t:u0f} {m:Nat} (hm:8≤m) (ht:TxnR t) (h:t0o s a (t3s t)):u7p m s ((a:Int),false)=(t,((a+(t3s t).size:Nat):Int),false):=by
  unfold u7p
  rw [q7x hm ht h]
  simp only [r2e.mpr ht,Bool.not_true,Bool.or_false]
theorem r4n {s:ByteArray} {a:Nat} {l:List u0f} {m k:Nat} (hm:8≤m) (hk:l.length≤k) (hl:l.length≤1000000000) (ht:∀t∈l,TxnR t) (h:t0o s a (r4u l)):t2o m k s ((a:Int),false)=(l,((a+(r4u l).size:Nat):Int),false):=by
  unfold r4u at h ⊢
  obtain ⟨k1,k2⟩:=p6l.mp h
  unfold t2o
  rw [u4l (by omega) (by omega) k1]
  simp only
  rw [show min ((l.length:Int)).toNat k=l.length by omega,t5j (g:=t3s) (fun t h a hs=>s6a hm (ht t h) hs) k2]
  rw [ByteArray.size_append,List.nil_append,Nat.add_assoc]
theorem s16 {v:u1v} (h:s97 v=true):v.1.size≤3∧v.2.1.size≤12∧1≤v.2.2.2∧v.2.2.2≤9999:=by
  unfold s97 at h
  simp only [Bool.and_eq_true,decide_eq_true_eq,r29] at h
  exact ⟨(u12 h.1).2,h.2.1,h.2.2.2⟩
theorem q52 {s:ByteArray} {a:Nat} {b:u0i} {m:Lim} (hm:m.ok) (hb:BaseR b) (h:t0o s a (t6v b)):s4h m s ((a:Int),false)=(b,((a+(t6v b).size:Nat):Int),false):=by
  obtain ⟨a1,a2,a3,a4⟩:=hm
  obtain ⟨v1,v2,v3⟩:=p28.mp hb.vs
  have hc:=hb.cs; have hx:=hb.next; have hp:=hb.plen; have hr:=hb.rlen
  unfold t6v at h ⊢
  obtain ⟨k1,h⟩:=p6l.mp h
  obtain ⟨k2,h⟩:=p6l.mp h
  obtain ⟨k3,h⟩:=p6l.mp h
  obtain ⟨k4,h⟩:=p6l.mp h
  obtain ⟨k5,k6⟩:=p6l.mp h
  unfold s4h
  rw [u4l (by omega) (by omega) k1]
  simp only
  rw [u4l (by omega) (by omega) k2]
  simp only
  rw [u4l (by omega) (by omega) k3]
  simp only
  rw [show min ((b.1.length:Int)).toNat m.v=b.1.length by omega,t5j (g:=p0r) (fun v hv a hs=>by
    have:=s16 (v1 v hv)
    exact q7y (by omega) (by omega) (by omega) hs) k4]
  simp only
  rw [r4n (by omega) (by omega) (by omega) (fun t ht=>(hb.past t ht).1) k5]
  simp only
  rw [r4n (by omega) (by omega) (by omega) (fun t ht=>(hb.ready t ht).1) k6]
  simp only [List.nil_append,ByteArray.size_append,Nat.add_assoc]
theorem q6k {n:Nat} (h:n<16384):(t7u n).length≤2:=by
  by_cases q:n<128
  · rw [s6n q]; simp
  · rw [r3m q,s6n (by omega)]; simp
theorem u2w {n:Int} (h:n<16384):(r2h n).size≤2:=by rw [t7n]; exact q6k (by omega)
theorem u1o {s:ByteArray} (h:s.size<16384):(u0s s).size≤s.size+2:=by
  unfold u0s
  rw [ByteArray.size_append,u4m]
  have:=q6k h
  omega
theorem t75 {E:Type} {f:E→ByteArray} {k:Nat} :∀ {l:List E},(∀x∈l,(f x).size≤k)→(r8o f l).size≤l.length*k
  | [],_=>by rw [q8j]; simp [emp,ByteArray.size]
  | x::l,h=>by
    rw [q4s,ByteArray.size_append,List.length_cons,Nat.succ_mul]
    have h1:=h x (by simp)
    have h2:=t75 (l:=l) (fun y hy=>h y (by simp [hy]))
    omega
theorem s0t {t:u0f} (h:TxnR t):(t3s t).size≤300:=by
  obtain ⟨z1,z2,z3,z4,z5⟩:=h.small
  have hi:=h.id; have hst:=h.st; have hsn:=h.snap; have hrl:=h.rlen
  have r1:(r8o p0e t.2.2.2.2.1).size≤t.2.2.2.2.1.length*10:=t75 fun r hr=>by
    have:=z1 r hr
    have q1:=u1o (s:=r.1) (by omega)
    have q2:=u1o (s:=r.2) (by omega)
    unfold p0e; rw [ByteArray.size_append]; omega
  have r2:(r8o wrT t.2.2.2.2.2.1).size≤t.2.2.2.2.2.1.length*20:=t75 fun w hw=>by
    have:=z2 w hw
    have q1:=u1o (s:=w.1) (by omega)
    have q2:=u1o (s:=w.2.1) (by omega)
    unfold wrT; rw [ByteArray.size_append,ByteArray.size_append,u3z]; omega
  have v1:=u2w (n:=t.1) (by omega)
  have v2:=u2w (n:=t.2.1) (by omega)
  have v3:=u2w (n:=t.2.2.1) (by omega)
  have v4:=u2w (n:=t.2.2.2.1) (by omega)
  have v5:=u2w (n:=(t.2.2.2.2.1.length:Int)) (by omega)
  have v6:=u2w (n:=(t.2.2.2.2.2.1.length:Int)) (by omega)
  have v7:=u1o (s:=t.2.2.2.2.2.2.2) (by omega)
  unfold t3s
  simp only [ByteArray.size_append,u3z]
  omega
theorem s66 {l:List u0f} (hl:l.length<16384) (h:∀t∈l,TxnR t):(r4u l).size≤2+l.length*300:=by
  unfold r4u
  rw [ByteArray.size_append]
  have v1:=u2w (n:=(l.length:Int)) (by omega)
  have v2:=t75 (f:=t3s) (k:=300) (l:=l) (fun t ht=>s0t (h t ht))
  omega
theorem q3y {v:u1v} (h:s97 v=true):(p0r v).size≤22:=by
  have:=s16 h
  have q1:=u1o (s:=v.1) (by omega)
  have q2:=u1o (s:=v.2.1) (by omega)
  have q3:=u2w (n:=v.2.2.2) (by omega)
  unfold p0r
  simp only [ByteArray.size_append,u3z]
  omega
theorem q0z {b:u0i} (hb:BaseR b):(t6v b).size≤10+b.1.length*22+b.2.1.length*300+b.2.2.1.length*300:=by
  obtain ⟨v1,v2,v3⟩:=p28.mp hb.vs
  have hc:=hb.cs; have hx:=hb.next; have hp:=hb.plen; have hr:=hb.rlen
  have q1:=u2w (n:=b.2.2.2.1) (by omega)
  have q2:=u2w (n:=b.2.2.2.2) (by omega)
  have q3:=u2w (n:=(b.1.length:Int)) (by omega)
  have q4:=t75 (f:=p0r) (k:=22) (l:=b.1) (fun v hv=>q3y (v1 v hv))
  have q5:=s66 (l:=b.2.1) (by omega) (fun t ht=>(hb.past t ht).1)
  have q6:=s66 (l:=b.2.2.1) (by omega) (fun t ht=>(hb.ready t ht).1)
  unfold t6v
  simp only [ByteArray.size_append]
  omega
end
section
def p7t (a b:Int):Int:=IntKind.u32.wrap ((BitVec.ofInt IntKind.u32.bits a^^^BitVec.ofInt IntKind.u32.bits b).toNat:Int)
def p2s (x:Int):Int:=bif decide (Int.tmod x 2=1) then p7t (IntKind.u32.wrap (Int.tdiv x 2)) 3558460437 else IntKind.u32.wrap (Int.tdiv x 2)
def r8e:Nat→Int→Int
  | 0,x=>x
  | n+1,x=>r8e n (p2s x)
def q73 (x:Int) (b:UInt8):Int:=r8e 8 (p7t x (IntKind.u32.wrap (b.toNat:Int)))
def p51 (t:ByteArray):Int:=t.data.toList.foldl q73 4294967295
def p5z (x:Int) (k:Nat):Int:=IntKind.u8.wrap (Int.fdiv x (2^k))
def p8j (x:Int):ByteArray:=y7g [p5z x 24,p5z x 16,p5z x 8,IntKind.u8.wrap x]
def s7e (t:ByteArray):ByteArray:=t++p8j (p51 t)
def q82 (t:ByteArray):ByteArray × Bool:=if t.size≤20000 then (s7e t,true) else (emp,false)
def t49 (t:ByteArray):Option ByteArray:=if 4≤t.size∧t.size - 4≤20000∧s7e (t.extract 0 (t.size - 4))=t then some (t.extract 0 (t.size - 4)) else none
theorem p1y (x:Int):(p8j x).size=4:=u4m _
theorem q1h (t:ByteArray):(s7e t).size=t.size+4:=by unfold s7e; rw [ByteArray.size_append,p1y]
theorem r2f {t:ByteArray} (h:t.size≤20000):t49 (s7e t)=some t:=by
  have hs:=q1h t
  have e:(s7e t).extract 0 ((s7e t).size - 4)=t:=by
    rw [hs,Nat.add_sub_cancel]
    exact ByteArray.extract_append_eq_left rfl
  unfold t49
  rw [e,if_pos ⟨by omega,by omega,rfl⟩]
abbrev s1e:=Int × u0f × ByteArray × Bool × u0i
def u5c:u0f:=(0,0,0,0, [], [],false,emp)
def u2z:u0i:=([], [], [],0,0)
def noT (t:u0f):Bool:=decide (t.1=0) && (decide (t.2.1=0) && (decide (t.2.2.1=0) && (decide (t.2.2.2.1=0) && (decide (t.2.2.2.2.1.length=0) && (decide (t.2.2.2.2.2.1.length=0) && (!t.2.2.2.2.2.2.1 && decide (t.2.2.2.2.2.2.2.size=0)))))))
def noB (b:u0i):Bool:=decide (b.1.length=0) && (decide (b.2.1.length=0) && (decide (b.2.2.1.length=0) && (decide (b.2.2.2.1=0) && decide (b.2.2.2.2=0))))
def t0i (r:s1e):Bool:=
  if r.1=1 then u5b r.2.1 && (decide (r.2.1.2.1=3) && (decide (r.2.2.1.size=0) && (!r.2.2.2.1 && noB r.2.2.2.2)))
  else if r.1=2 then u5b r.2.1 && (decide (r.2.1.2.1=2) && (decide (r.2.2.1.size=0) && (!r.2.2.2.1 && noB r.2.2.2.2)))
  else if r.1=3 then noT r.2.1 && (u4d r.2.2.1 && noB r.2.2.2.2)
  else if r.1=4 then noT r.2.1 && (decide (r.2.2.1.size=0) && (!r.2.2.2.1 && t0t r.2.2.2.2))
  else false
def s6h (r:s1e):ByteArray:=y7g [IntKind.u8.wrap r.1] ++(if r.1=3 then u0s r.2.2.1++q9s r.2.2.2.1 else if r.1=4 then t6v r.2.2.2.2 else t3s r.2.1)
def u06 (r:s1e):ByteArray × Bool:=if t0i r=true then q82 (s6h r) else (emp,false)
theorem p4h {s:ByteArray} (h:s.size=0):s=emp:=q8h (by
  rw [s9r] at h
  rw [List.length_eq_zero_iff.mp h]; rfl)
theorem p18 {t:u0f} :noT t=true↔t=u5c:=by
  unfold noT u5c
  simp only [Bool.and_eq_true,decide_eq_true_eq,Bool.not_eq_true']
  constructor
  · rintro ⟨h1,h2,h3,h4,h5,h6,h7,h8⟩
    obtain ⟨t1,t2,t3,t4,t5,t6,t7,t8⟩:=t
    simp only at h1 h2 h3 h4 h5 h6 h7 h8
    rw [h1,h2,h3,h4,List.length_eq_zero_iff.mp h5,List.length_eq_zero_iff.mp h6,h7,p4h h8]
  · rintro rfl
    exact ⟨rfl,rfl,rfl,rfl,rfl,rfl,rfl,rfl⟩
theorem q7s {b:u0i} :noB b=true↔b=u2z:=by
  unfold noB u2z
  simp only [Bool.and_eq_true,decide_eq_true_eq]
  constructor
  · rintro ⟨h1,h2,h3,h4,h5⟩
    obtain ⟨t1,t2,t3,t4,t5⟩:=b
    simp only at h1 h2 h3 h4 h5
    rw [h4,h5,List.length_eq_zero_iff.mp h1,List.length_eq_zero_iff.mp h2,List.length_eq_zero_iff.mp h3]
  · rintro rfl
    exact ⟨rfl,rfl,rfl,rfl,rfl⟩
inductive RecR:s1e→Prop where
  | thr (t:u0f) (h:TxnR t) (hs:t.2.1=3):RecR (1,t,emp,false,u2z)
  | rdy (t:u0f) (h:TxnR t) (hs:t.2.1=2):RecR (2,t,emp,false,u2z)
  | fin (n:ByteArray) (y:Bool) (h:u4d n=true):RecR (3,u5c,n,y,u2z)
  | bas (b:u0i) (h:BaseR b):RecR (4,u5c,emp,false,b)
theorem p45 {r:s1e} :t0i r=true↔RecR r:=by
  obtain ⟨k,t,n,y,b⟩:=r
  unfold t0i
  simp only
  constructor
  · intro h
    split at h
    · rename_i e
      simp only [Bool.and_eq_true,decide_eq_true_eq,Bool.not_eq_true',r2e,q7s] at h
      obtain ⟨h1,h2,h3,h4,h5⟩:=h
      rw [e,p4h h3,h4,h5]; exact .thr t h1 h2
    · split at h
      · rename_i _ e
        simp only [Bool.and_eq_true,decide_eq_true_eq,Bool.not_eq_true',r2e,q7s] at h
        obtain ⟨h1,h2,h3,h4,h5⟩:=h
        rw [e,p4h h3,h4,h5]; exact .rdy t h1 h2
      · split at h
        · rename_i _ _ e
          simp only [Bool.and_eq_true,p18,q7s] at h
          obtain ⟨h1,h2,h3⟩:=h
          rw [e,h1,h3]; exact .fin n y h2
        · split at h
          · rename_i _ _ _ e
            simp only [Bool.and_eq_true,decide_eq_true_eq,Bool.not_eq_true',p18,q0y] at h
            obtain ⟨h1,h2,h3,h4⟩:=h
            rw [e,h1,p4h h2,h3]; exact .bas b h4
          · cases h
  · intro h
    cases h with
    | thr t h hs=>simp [r2e.mpr h,hs,q7s.mpr rfl,emp,ByteArray.size]
    | rdy t h hs=>simp [r2e.mpr h,hs,q7s.mpr rfl,emp,ByteArray.size]
    | fin n y h=>simp [h,q7s.mpr rfl,p18.mpr rfl]
    | bas b h=>simp [q0y.mpr h,p18.mpr rfl,emp,ByteArray.size]
theorem s0q {r:s1e} (h:RecR r):2≤(s6h r).size∧(s6h r).size≤10000:=by
  have h1:∀n:Int,(y7g [n]).size=1:=fun n=>u4m _
  cases h with
  | thr t h hs=>
    have:=s0t h
    have q:1≤(t3s t).size:=by
      unfold t3s; rw [ByteArray.size_append,t7n]; have:=r2g t.1.toNat; omega
    show 2≤(y7g _++t3s t).size∧(y7g _++t3s t).size≤10000
    rw [ByteArray.size_append,h1]; omega
  | rdy t h hs=>
    have:=s0t h
    have q:1≤(t3s t).size:=by
      unfold t3s; rw [ByteArray.size_append,t7n]; have:=r2g t.1.toNat; omega
    show 2≤(y7g _++t3s t).size∧(y7g _++t3s t).size≤10000
    rw [ByteArray.size_append,h1]; omega
  | fin n y h=>
    have:=u12 h
    have q:=u1o (s:=n) (by omega)
    show 2≤(y7g _++(u0s n++q9s y)).size∧(y7g _++(u0s n++q9s y)).size≤10000
    have:=(s6j n).1
    rw [ByteArray.size_append,ByteArray.size_append,h1,u3z]; omega
  | bas b h=>
    have:=q0z h
    have a1:=(p28.mp h.vs).2.2
    have a2:=h.plen
    have a3:=h.rlen
    have q:1≤(t6v b).size:=by
      unfold t6v; rw [ByteArray.size_append,t7n]; have:=r2g b.2.2.2.1.toNat; omega
    show 2≤(y7g _++t6v b).size∧(y7g _++t6v b).size≤10000
    rw [ByteArray.size_append,h1]; omega
theorem u87 {r:s1e} (h:RecR r):u06 r=(s7e (s6h r),true):=by
  unfold u06 q82
  rw [if_pos (p45.mpr h),if_pos (by have:=(s0q h).2; omega)]
def p9b:Lim:=⟨9,121,13,4⟩
theorem p14:p9b.ok:=⟨by decide,by decide,by decide,by decide⟩
def t3p (s:ByteArray):s1e × Bool:=
  if t0u s 0=3 then ((3,u5c,(u2c s (1,false)).1,(r7y s (u2c s (1,false)).2).1,u2z),(r7y s (u2c s (1,false)).2).2.2)
  else if t0u s 0=4 then ((4,u5c,emp,false,(t5g p9b s (1,false)).1),(t5g p9b s (1,false)).2.2)
  else (((t0u s 0:Int),(u7p 9 s (1,false)).1,emp,false,u2z),(u7p 9 s (1,false)).2.2)
def u3s (t:ByteArray):Option s1e:=
  match t49 t with
  | none=>none
  | some s=>if s.size=0 then none else if (t3p s).2=true∨u06 (t3p s).1≠(t,true) then none else some (t3p s).1
theorem q2h {k:Nat} (h:k<256) (s:ByteArray):t0u (y7g [IntKind.u8.wrap (k:Int)] ++s) 0=k:=by
  unfold t0u
  rw [r6d,t7l]
  have:IntKind.u8.wrap (k:Int)=(k:Int):=p59 h
  rw [this]
  show (UInt8.ofNat ((k:Int)).toNat).toNat=k
  rw [zTn]
  simp
  omega
theorem s64 {r:s1e} (h:RecR r):t3p (s6h r)=(r,false):=by
  have st:∀(x:Int) (s:ByteArray),t0o (y7g [x] ++s) 1 s:=fun x s=>by
    have:=p0j (a:=y7g [x]) (s:=s) (b:=emp)
    rw [p1n,u4m] at this
    exact this
  cases h with
  | thr t h hs=>
    have e:s6h (1,t,emp,false,u2z)=y7g [IntKind.u8.wrap ((1:Nat):Int)] ++t3s t:=rfl
    rw [e]
    unfold t3p
    rw [q2h (by omega),if_neg (by omega),if_neg (by omega)]
    have q:=s6a (m:=9) (by omega) h (st (IntKind.u8.wrap ((1:Nat):Int)) (t3s t))
    have q:u7p 9 (y7g [IntKind.u8.wrap ((1:Nat):Int)] ++t3s t) (1,false)=_:=q
    rw [q]; rfl
  | rdy t h hs=>
    have e:s6h (2,t,emp,false,u2z)=y7g [IntKind.u8.wrap ((2:Nat):Int)] ++t3s t:=rfl
    rw [e]
    unfold t3p
    rw [q2h (by omega),if_neg (by omega),if_neg (by omega)]
    have q:=s6a (m:=9) (by omega) h (st (IntKind.u8.wrap ((2:Nat):Int)) (t3s t))
    have q:u7p 9 (y7g [IntKind.u8.wrap ((2:Nat):Int)] ++t3s t) (1,false)=_:=q
    rw [q]; rfl
  | fin n y h=>
    have e:s6h (3,u5c,n,y,u2z)=y7g [IntKind.u8.wrap ((3:Nat):Int)] ++(u0s n++q9s y):=rfl
    rw [e]
    unfold t3p
    rw [q2h (by omega),if_pos rfl]
    obtain ⟨k1,k2⟩:=p6l.mp (st (IntKind.u8.wrap ((3:Nat):Int)) (u0s n++q9s y))
    have q1:=t2l (by have:=u12 h; omega) k1
    have q1:u2c (y7g [IntKind.u8.wrap ((3:Nat):Int)] ++(u0s n++q9s y)) (1,false)=_:=q1
    rw [q1]
    simp only
    rw [s92 k2]
  | bas b h=>
    have e:s6h (4,u5c,emp,false,b)=y7g [IntKind.u8.wrap ((4:Nat):Int)] ++t6v b:=rfl
    rw [e]
    unfold t3p
    rw [q2h (by omega),if_neg (by omega),if_pos rfl]
    have q:=q52 p14 h (st (IntKind.u8.wrap ((4:Nat):Int)) (t6v b))
    have q:s4h p9b (y7g [IntKind.u8.wrap ((4:Nat):Int)] ++t6v b) (1,false)=_:=q
    unfold t5g
    rw [q]
    simp only [q0y.mpr h,Bool.not_true,Bool.or_false]
theorem s6e {r:s1e} (h:RecR r):u3s (s7e (s6h r))=some r:=by
  have hs:=s0q h
  unfold u3s
  rw [r2f (by omega)]
  simp only
  rw [if_neg (by omega),s64 h]
  simp only
  rw [u87 h,if_neg (by simp)]
theorem r12 {t:ByteArray} {r:s1e} (h:u3s t=some r):RecR r∧t=s7e (s6h r):=by
  unfold u3s at h
  split at h
  · cases h
  · rename_i s hs
    split at h
    · cases h
    · split at h
      · cases h
      · rename_i hc
        simp only [not_or,ne_eq,Decidable.not_not] at hc
        have e:=Option.some.inj h
        rw [e] at hc
        have hr:t0i r=true:=by
          cases q:t0i r with
          | true=>rfl
          | false=>
            have:=hc.2
            unfold u06 at this
            rw [if_neg (by simp [q])] at this
            simp at this
        have hR:=p45.mp hr
        refine ⟨hR,?_⟩
        have:=hc.2
        rw [u87 hR] at this
        exact (Prod.mk.inj this).1.symm
def u15 (b:u0i) (r:s1e):Option u0i:=
  if r.1=1 then (if r.2.1.2.2.2.1=b.2.2.2.1+1 then some (u1b b r.2.1) else none)
  else if r.1=2 then (if b.2.2.1.length<3∧u08 b r.2.1.2.2.2.2.2.2.2<0 then some (u1i b r.2.1 r.2.1.2.2.2.2.2.2.2) else none)
  else if r.1=3 then (if u08 b r.2.2.1<0 then none else if r.2.2.2.1=true then some (u1b b (rdL u0z b.2.2.1 (u08 b r.2.2.1).toNat)) else some (t81 b r.2.2.1))
  else some r.2.2.2.2
def u6c (b:u0i) (r:s1e):Option u0i:=
  if t0t b=true∧t0i r=true then (match u15 b r with
    | none=>none
    | some x=>if t0t (u25 x [])=true then some (u25 x []) else none)
  else none
def q6s:u0i:=([], [], [],0,1)
def t64:u0i→List ByteArray→Option u0i
  | b, [] =>some b
  | b,t::l=>match u3s t with
    | none=>none
    | some r=>match u6c b r with
      | none=>none
      | some x=>t64 x l
def t0m (l:List ByteArray):Option u0i:=t64 q6s l
theorem q98 (b:u0i):∀(l m:List ByteArray),t64 b (l++m)=(t64 b l).bind fun x=>t64 x m:=by
  intro l
  induction l generalizing b with
  | nil=>intro m; rfl
  | cons t l ih=>
    intro m
    simp only [List.cons_append,t64]
    cases u3s t with
    | none=>rfl
    | some r=>
      simp only
      cases u6c b r with
      | none=>rfl
      | some x=>exact ih x m
end
section
theorem o0w (n:Nat):decide ((n:Int)=0)=decide (n=0):=by simp
theorem p3z (t:u0f):t3n t=some (noT t):=by
  rw [r7g]; unfold s5l noT
  simp only [o0w,t4s]
  cases decide (t.1=0)<;>cases decide (t.2.1=0)<;>cases decide (t.2.2.1=0)<;>cases decide (t.2.2.2.1=0)<;>cases decide (t.2.2.2.2.1.length=0)<;>cases decide (t.2.2.2.2.2.1.length=0)<;>cases t.2.2.2.2.2.2.1<;>rfl
theorem p3x (b:u0i):t5w b=some (noB b):=by
  rw [r5h]; unfold s2m noB
  simp only [o0w]
  cases decide (b.1.length=0)<;>cases decide (b.2.1.length=0)<;>cases decide (b.2.2.1.length=0)<;>cases decide (b.2.2.2.1=0)<;>cases decide (b.2.2.2.2=0)<;>rfl
theorem q1g (r:s1e):p86.wt r=0+(u0z.wt r.2.1+(r.2.2.1.size+(0+p6z.wt r.2.2.2.2))):=rfl
theorem r0a (r:s1e) (hw:p86.wt r≤549755813888):t3i r=some (t0i r):=by
  have hb:u0l=1099511627776:=rfl
  have hr:=q1g r
  have k1:=t2e r.2.1 (by omega)
  have k2:=t3z r.2.2.2.2 (by omega)
  have k3:=t2c r.2.2.1 (by omega)
  rw [r64]; unfold s48
  simp only [k1,k2,k3,t92,p3z,p3x,zOb,t4s]
  unfold t0i
  generalize u5b r.2.1=c1
  generalize t0t r.2.2.2.2=c2
  generalize u4d r.2.2.1=c3
  generalize noT r.2.1=c4
  generalize noB r.2.2.2.2=c5
  generalize decide (r.2.2.1.size=0)=c6
  generalize r.2.2.2.1=c9
  by_cases h1:r.1=1
  · simp only [h1,show inB 1 1 4=true from rfl,decide_true,cond_true,if_true]
    generalize decide (r.2.1.2.1=3)=c7
    generalize decide (r.2.1.2.1=2)=c8
    cases c1<;>cases c5<;>cases c6<;>cases c7<;>cases c8<;>cases c9<;>rfl
  · by_cases h2:r.1=2
    · simp only [h2,show inB 2 1 4=true from rfl,decide_true,cond_true,if_true]
      generalize decide (r.2.1.2.1=3)=c7
      generalize decide (r.2.1.2.1=2)=c8
      cases c1<;>cases c5<;>cases c6<;>cases c7<;>cases c8<;>cases c9<;>rfl
    · by_cases h3:r.1=3
      · simp only [h3,show inB 3 1 4=true from rfl,decide_true,cond_true,if_true]
        cases c3<;>cases c4<;>cases c5<;>cases c9<;>rfl
      · by_cases h4:r.1=4
        · simp only [h4,show inB 4 1 4=true from rfl,decide_true,cond_true,if_true]
          cases c2<;>cases c4<;>cases c6<;>cases c9<;>rfl
        · have:inB r.1 1 4=false:=by
            cases h:inB r.1 1 4
            · rfl
            · have:=r29.mp h; omega
          simp only [h1,h2,h3,h4,this,decide_false,cond_false,if_false,Bool.not_false,cond_true]
end
section
theorem r1g {α:Type} {P:Prop} [Decidable P] {a b:α} (h:P):(bif decide P then a else b)=a:=by rw [decide_eq_true h]; rfl
theorem p3i {α:Type} {n:Nat} {a b:α} (h:n≤1099511627776):(bif Nat.ble n z7w then a else b)=a:=by rw [u0r h]; rfl
theorem u3v {n:Int} (h0:0≤n) (h1:n≤1000000000):u1a n=some (r2h n):=by
  obtain ⟨m,rfl⟩:∃m:Nat,n=m:=⟨n.toNat,by omega⟩
  rw [r7p m (by omega)]; rfl
theorem t2d {s:ByteArray} (h:s.size≤10000):u17 s=some (u0s s):=by
  rw [r7f]; unfold s5k
  rw [u3v (by omega) (by omega)]
  simp only [zOb]
  have:=u2w (n:=(s.size:Int)) (by omega)
  rw [r1g (by omega)]; rfl
theorem r5o (b:Bool):t0g b=some (q9s b):=by
  rw [q3g]; unfold r08
  cases b<;>rfl
theorem q56 {r:t3u} (h:r.1.size≤100∧r.2.size≤100):(p0e r).size≤204:=by
  have q1:=u1o (s:=r.1) (by omega)
  have q2:=u1o (s:=r.2) (by omega)
  unfold p0e; rw [ByteArray.size_append]; omega
theorem r5p {E:Type} (f:E→ByteArray) (l:List E) (s:ByteArray):l.foldl (fun s x=>s++f x) s=s++r8o f l:=r1h f l s
theorem s4m (t:u0f) (ht:u0z.wt t≤549755813888):t42 t=some (if u5b t=true then (t3s t,true) else (emp,false)):=by
  have hb:u0l=1099511627776:=rfl
  rw [r9p]; unfold s78
  rw [t2e t (by omega)]
  simp only [zOb]
  cases hc:u5b t
  · rfl
  · have h:=r2e.mp hc
    obtain ⟨z1,z2,z3,z4,z5⟩:=h.small
    have hi:=h.id; have hst:=h.st; have hsn:=h.snap; have hrl:=h.rlen
    have v1:=u2w (n:=t.1) (by omega)
    have v2:=u2w (n:=t.2.1) (by omega)
    have v3:=u2w (n:=t.2.2.1) (by omega)
    have v4:=u2w (n:=t.2.2.2.1) (by omega)
    have v5:=u2w (n:=(t.2.2.2.2.1.length:Int)) (by omega)
    have v6:=u2w (n:=(t.2.2.2.2.2.1.length:Int)) (by omega)
    have v7:=u1o (s:=t.2.2.2.2.2.2.2) (by omega)
    have L1:∀A:ByteArray,A.size≤1000→u7f (t,A,0)=some (.inl (t,A++r8o p0e t.2.2.2.2.1)):=fun A hA=>by
      have:=t5b u7f t.2.2.2.2.1 (fun (A:ByteArray) i=>(t,A,i)) (fun A r=>A++p0e r) (fun A=> .inl (t,A)) (fun i A=>A.size≤1000+i*204)
        (fun A _=>by rw [s38]; simp only [t1q,u0b,Nat.lt_irrefl,decide_false,cond_false])
        (fun i hi A hP=>by
          have hr:=z1 _ (List.getElem_mem hi)
          have hs:=q56 (r:=t.2.2.2.2.1[i]) (by omega)
          have hs' :=hs
          unfold p0e at hs'
          rw [ByteArray.size_append] at hs'
          refine ⟨by rw [ByteArray.size_append,Nat.succ_mul]; omega,?_⟩
          rw [s38]; simp only [t1q,u0b,hi,decide_true,cond_true,y7t hi,zTn,y8k (t:=u8d) hi,y7l (show i<4611686018427387904 by omega)]
          rw [t2d (by omega),t2d (by omega)]
          simp only [zOb]
          rw [r1g (by omega),r1g (by rw [ByteArray.size_append]; omega),t6d]; rfl) A (by omega)
      rw [r5p] at this
      exact this
    have L2:∀A:ByteArray,A.size≤10000→u5r (t,A,0)=some (.inl (t,A++r8o wrT t.2.2.2.2.2.1)):=fun A hA=>by
      have:=t5b u5r t.2.2.2.2.2.1 (fun (A:ByteArray) i=>(t,A,i)) (fun A r=>A++wrT r) (fun A=> .inl (t,A)) (fun i A=>A.size≤10000+i*304)
        (fun A _=>by rw [s1b]; simp only [u9v,u0b,Nat.lt_irrefl,decide_false,cond_false])
        (fun i hi A hP=>by
          have hr:=z2 _ (List.getElem_mem hi)
          have q1:=u1o (s:=(t.2.2.2.2.2.1[i]).1) (by omega)
          have q2:=u1o (s:=(t.2.2.2.2.2.1[i]).2.1) (by omega)
          have q3:=u3z (t.2.2.2.2.2.1[i]).2.2
          refine ⟨by unfold wrT; simp only [ByteArray.size_append,Nat.succ_mul]; omega,?_⟩
          rw [s1b]; simp only [u9v,u0b,hi,decide_true,cond_true,y7t hi,zTn,y8k (t:=u1n) hi,y7l (show i<4611686018427387904 by omega)]
          rw [t2d (by omega),t2d (by omega),r5o]
          simp only [zOb]
          rw [r1g (by omega),r1g (by rw [ByteArray.size_append]; omega),r1g (by simp only [ByteArray.size_append]; omega),t6d,t6d]; rfl) A (by omega)
      rw [r5p] at this
      exact this
    have n1:(r8o p0e t.2.2.2.2.1).size≤t.2.2.2.2.1.length*204:=t75 fun r hr=>q56 (by have:=z1 r hr; omega)
    have n2:(r8o wrT t.2.2.2.2.2.1).size≤t.2.2.2.2.2.1.length*304:=t75 fun w hw=>by
      have:=z2 w hw
      have q1:=u1o (s:=w.1) (by omega)
      have q2:=u1o (s:=w.2.1) (by omega)
      unfold wrT; rw [ByteArray.size_append,ByteArray.size_append,u3z]; omega
    simp only [Bool.not_true,cond_false,if_true]
    rw [u3v (n:=t.1) (by omega) (by omega),u3v (n:=t.2.1) (by omega) (by omega),u3v (n:=t.2.2.1) (by omega) (by omega),u3v (n:=t.2.2.2.1) (by omega) (by omega),u3v (n:=(t.2.2.2.2.1.length:Int)) (by omega) (by omega)]
    simp only [zOb]
    rw [r1g (by omega),r1g (by simp only [ByteArray.size_append]; omega),r1g (by simp only [ByteArray.size_append]; omega),r1g (by simp only [ByteArray.size_append]; omega),L1 _ (by simp only [ByteArray.size_append]; omega)]
    simp only [zOb]
    rw [u3v (n:=(t.2.2.2.2.2.1.length:Int)) (by omega) (by omega)]
    simp only [zOb]
    rw [r1g (by simp only [ByteArray.size_append]; omega),L2 _ (by simp only [ByteArray.size_append]; omega)]
    simp only [zOb]
    rw [r5o,t2d (by omega)]
    simp only [zOb]
    rw [r1g (by simp only [ByteArray.size_append,u3z]; omega),r1g (by simp only [ByteArray.size_append,u3z]; omega)]
    unfold t3s
    simp only [t6d]
theorem p55 {l:List u0f} {t:u0f} (h:t∈l) (hl:(Ty.sl u0z).wt l≤549755813888):u0z.wt t≤549755813888:=Nat.le_trans (s96 h) hl
theorem q4o (l:List u0f) (hl:(Ty.sl u0z).wt l≤549755813888) (hn:l.length≤10000) (h:∀t∈l,TxnR t):t45 l=some (r4u l):=by
  have v1:=u2w (n:=(l.length:Int)) (by omega)
  have L:u7j (l,r2h (l.length:Int),0)=some (.inl (r2h (l.length:Int)++r8o t3s l)):=by
    have:=t5b u7j l (fun (A:ByteArray) i=>(l,A,i)) (fun A r=>A++t3s r) (fun A=> .inl A) (fun i A=>A.size≤2+i*300)
      (fun A _=>by rw [s4d]; simp only [t1u,u0b,Nat.lt_irrefl,decide_false,cond_false])
      (fun i hi A hP=>by
        have hm:=List.getElem_mem hi
        have hr:=s0t (h _ hm)
        refine ⟨by rw [ByteArray.size_append,Nat.succ_mul]; omega,?_⟩
        rw [s4d]; simp only [t1u,u0b,hi,decide_true,cond_true,y7t hi,zTn,y8k (t:=u0z) hi,y7l (show i<4611686018427387904 by omega)]
        rw [s4m _ (p55 hm hl),if_pos (r2e.mpr (h _ hm))]
        simp only [zOb]
        rw [r1g (by omega)]) (r2h (l.length:Int)) (by omega)
    rw [r5p] at this
    exact this
  rw [r95]; unfold s8p
  rw [u3v (by omega) (by omega)]
  simp only [zOb]
  rw [L]; rfl
theorem q1r (b:u0i) (hw:p6z.wt b≤549755813888):t69 b=some (if t0t b=true then (t6v b,true) else (emp,false)):=by
  have hbw:=s9s b
  rw [r6w]; unfold s40
  rw [t3z b hw]
  simp only [zOb]
  cases hc:t0t b
  · rfl
  · have h:=q0y.mp hc
    obtain ⟨w1,w2,w3⟩:=p28.mp h.vs
    have hcs:=h.cs; have hx:=h.next; have hp:=h.plen; have hr:=h.rlen
    have q1:=u2w (n:=b.2.2.2.1) (by omega)
    have q2:=u2w (n:=b.2.2.2.2) (by omega)
    have q3:=u2w (n:=(b.1.length:Int)) (by omega)
    have q4:=t75 (f:=p0r) (k:=22) (l:=b.1) (fun v hv=>q3y (w1 v hv))
    have q5:=s66 (l:=b.2.1) (by omega) (fun t ht=>(h.past t ht).1)
    have q6:=s66 (l:=b.2.2.1) (by omega) (fun t ht=>(h.ready t ht).1)
    have L:∀A:ByteArray,A.size≤1000→u5n (b,A,0)=some (.inl (b,A++r8o p0r b.1)):=fun A hA=>by
      have:=t5b u5n b.1 (fun (A:ByteArray) i=>(b,A,i)) (fun A r=>A++p0r r) (fun A=> .inl (b,A)) (fun i A=>A.size≤1000+i*22)
        (fun A _=>by rw [s01]; simp only [u9l,u0b,Nat.lt_irrefl,decide_false,cond_false])
        (fun i hi A hP=>by
          have hm:=w1 _ (List.getElem_mem hi)
          have hr:=q3y hm
          have hv:=s16 hm
          have s1:=u1o (s:=(b.1[i]).1) (by omega)
          have s2:=u1o (s:=(b.1[i]).2.1) (by omega)
          have s3:=u3z (b.1[i]).2.2.1
          have s4:=u2w (n:=(b.1[i]).2.2.2) (by omega)
          refine ⟨by rw [ByteArray.size_append,Nat.succ_mul]; omega,?_⟩
          rw [s01]; simp only [u9l,u0b,hi,decide_true,cond_true,y7t hi,zTn,y8k (t:=u0d) hi,y7l (show i<4611686018427387904 by omega)]
          rw [t2d (by omega),t2d (by omega),r5o,u3v (by omega) (by omega)]
          simp only [zOb]
          rw [r1g (by omega),r1g (by simp only [ByteArray.size_append]; omega),r1g (by simp only [ByteArray.size_append]; omega),r1g (by simp only [ByteArray.size_append]; omega)]
          unfold p0r
          simp only [t6d]) A (by omega)
      rw [r5p] at this
      exact this
    simp only [Bool.not_true,cond_false,if_true]
    rw [u3v (n:=b.2.2.2.1) (by omega) (by omega),u3v (n:=b.2.2.2.2) (by omega) (by omega),u3v (n:=(b.1.length:Int)) (by omega) (by omega)]
    simp only [zOb]
    rw [r1g (by omega),r1g (by simp only [ByteArray.size_append]; omega),L _ (by simp only [ByteArray.size_append]; omega)]
    simp only [zOb]
    rw [q4o b.2.1 (by omega) (by omega) (fun t ht=>(h.past t ht).1),q4o b.2.2.1 (by omega) (by omega) (fun t ht=>(h.ready t ht).1)]
    simp only [zOb]
    rw [r1g (by simp only [ByteArray.size_append]; omega),r1g (by simp only [ByteArray.size_append]; omega)]
    unfold t6v
    simp only [t6d]
end
section
theorem p4k {W:Int × ByteArray × Int × Int→Option ((Int × ByteArray × Int) ⊕ Unit)}
    (hW:∀x,W x=(bif decide (x.2.2.2<(8:Int)) then (bif decide (Int.tmod x.1 (2:Int)=(1:Int)) then W (IntKind.u32.wrap ((BitVec.ofInt IntKind.u32.bits (IntKind.u32.wrap (Int.tdiv x.1 (2:Int)))^^^BitVec.ofInt IntKind.u32.bits (3558460437:Int)).toNat:Int),x.2.1,x.2.2.1,IntKind.i64.wrap (x.2.2.2+(1:Int)))
      else W (IntKind.u32.wrap (Int.tdiv x.1 (2:Int)),x.2.1,x.2.2.1,IntKind.i64.wrap (x.2.2.2+(1:Int)))) else some (.inl (x.1,x.2.1,x.2.2.1)))) (t:ByteArray) (k:Int):
    ∀(n:Nat) (x:Int) (i:Nat),i+n=8→W (x,t,k,(i:Int))=some (.inl (r8e n x,t,k)):=by
  intro n
  induction n with
  | zero=>
    intro x i hi
    have:i=8:=by omega
    subst this
    rw [hW]; rfl
  | succ n ih=>
    intro x i hi
    rw [hW]
    simp only
    rw [r1g (by omega),y7l (by omega),ih _ (i+1) (by omega),ih _ (i+1) (by omega)]
    rw [show r8e (n+1) x=r8e n (p2s x) from rfl]
    unfold p2s p7t
    cases decide (Int.tmod x 2=1)<;>rfl
theorem p4l (f:Int→UInt8→Int) (t:ByteArray) {W:Int × ByteArray × Int→Option (Int ⊕ Unit)} (ht:t.size≤1099511627776)
    (hend:∀x,W (x,t,(t.size:Int))=some (.inl x))
    (hstep:∀(i:Nat),i<t.size→ ∀x,W (x,t,(i:Int))=W (f x (t.data.toList.getD i 0),t,((i+1:Nat):Int))) (x:Int):W (x,t,0)=some (.inl (t.data.toList.foldl f x)):=by
  have e:t.size=t.data.toList.length:=s9r t
  exact t5b W t.data.toList (fun x i=>(x,t,i)) f (fun x=> .inl x) (fun _ _=>True) (fun x _=>by rw [←e]; exact hend x)
    (fun i hi x _=>⟨trivial,by
      rw [hstep i (by rw [e]; exact hi) x]
      congr 2
      rw [List.getD_eq_getElem?_getD,List.getElem?_eq_getElem hi]; rfl⟩) x trivial
theorem r3r (x:Int) (t:ByteArray) (ht:t.size≤1099511627776):t9b (x,t)=some (t.data.toList.foldl q73 x):=by
  have L:=p4l q73 t (W:=t1x) ht
    (fun x=>by rw [s34]; simp only [t1m,u0b,Nat.lt_irrefl,decide_false,cond_false])
    (fun i hi x=>by
      rw [s34]; simp only [t1m,u0b,hi,decide_true,cond_true,y7t hi,zTn]
      have:=p4k (W:=t1y) (fun x=>r5m x) t (i:Int) 8 (p7t x (IntKind.u32.wrap ((t.data.toList.getD i 0).toNat:Int))) 0 rfl
      unfold p7t at this
      rw [show ((0:Nat):Int)=0 from rfl] at this
      rw [this]
      simp only [zOb,y7l (show i<4611686018427387904 by omega)]
      rfl) x
  rw [r9l]; unfold s74
  simp only [L,zOb]
theorem s1k (t:ByteArray) (ht:t.size≤1099511627776):t3j t=some (q82 t):=by
  rw [q29]; unfold r01 q82
  have e1:decide ((t.size:Int) >20000)= !decide (t.size≤20000):=by by_cases h:t.size≤20000<;>simp [h] <;>omega
  rw [e1,r4g]; unfold s5b
  rw [r3r _ _ ht]
  simp only [zOb]
  rw [s8x]; unfold s8e
  simp only [zOb]
  by_cases h:t.size≤20000
  · rw [decide_eq_true h,if_pos h]
    simp only [Bool.not_true,cond_false]
    rw [r1g (by rw [u4m]; simp; omega)]
    rfl
  · rw [decide_eq_false h,if_neg h]; rfl
theorem t6g (k:Int):(y7g [k]).size=1:=u4m _
theorem u8i (r:s1e) (hw:p86.wt r≤549755813888):u2g r=some (u06 r):=by
  have hr:=q1g r
  rw [r22]; unfold t9q u06
  rw [r0a r hw]
  simp only [zOb]
  cases hc:t0i r
  · rfl
  · have h:=p45.mp hc
    have hz:=s0q h
    simp only [Bool.not_true,cond_false,if_true]
    cases h with
    | thr t h hs=>
      have:=s0t h
      have ht:=s4m t (by have:u0z.wt t≤p86.wt (1,t,emp,false,u2z):=by rw [hr]; simp only; omega
                         omega)
      rw [if_pos (r2e.mpr h)] at ht
      simp only [Int.reduceEq,decide_true,decide_false,cond_true,cond_false]
      rw [ht]
      simp only [zOb]
      rw [r1g (by rw [t6g]; omega),s1k _ (by rw [ByteArray.size_append,t6g]; omega)]
      rfl
    | rdy t h hs=>
      have:=s0t h
      have ht:=s4m t (by have:u0z.wt t≤p86.wt (2,t,emp,false,u2z):=by rw [hr]; simp only; omega
                         omega)
      rw [if_pos (r2e.mpr h)] at ht
      simp only [Int.reduceEq,decide_true,decide_false,cond_true,cond_false]
      rw [ht]
      simp only [zOb]
      rw [r1g (by rw [t6g]; omega),s1k _ (by rw [ByteArray.size_append,t6g]; omega)]
      rfl
    | fin n y h=>
      have:=u12 h
      have q:=u1o (s:=n) (by omega)
      simp only [Int.reduceEq,decide_true,decide_false,cond_true,cond_false]
      rw [t2d (by omega)]
      simp only [zOb]
      rw [r1g (by rw [t6g]; omega),r5o]
      simp only [zOb]
      rw [r1g (by simp only [ByteArray.size_append,t6g,u3z]; omega),s1k _ (by simp only [ByteArray.size_append,t6g,u3z]; omega),t6d]
      rfl
    | bas b h=>
      have:=q0z h
      have a1:=(p28.mp h.vs).2.2
      have a2:=h.plen
      have a3:=h.rlen
      have ht:=q1r b (by have:p6z.wt b≤p86.wt (4,u5c,emp,false,b):=by rw [hr]; simp only; omega
                         omega)
      rw [if_pos (q0y.mpr h)] at ht
      simp only [Int.reduceEq,decide_true,decide_false,cond_true,cond_false]
      rw [ht]
      simp only [zOb]
      rw [r1g (by rw [t6g]; omega),s1k _ (by rw [ByteArray.size_append,t6g]; omega)]
      rfl
end
section
def inT (s:ByteArray) (c:Cur):Prop:=0≤c.1∧c.1≤(s.size:Int)
def bad (c:Cur) (k:Int):Int:=if c.2=true then k else 0
theorem u3k {s:ByteArray} {c:Cur} (h:inT s c):inT s (u3e s c).2∧0≤(u3e s c).1∧(u3e s c).1≤1000000000∧c.1+1≤(u3e s c).2.1+bad (u3e s c).2 1:=by
  unfold u3e
  split
  · refine ⟨h,by simp,by simp,?_⟩
    simp only [bad,if_true]; omega
  · rename_i q
    simp only [not_or,Bool.not_eq_true,Bool.not_eq_false] at q
    have:=t2m q.2
    refine ⟨⟨?_,?_⟩,?_,?_,?_⟩
    · simp only; omega
    · simp only; omega
    · simp only; omega
    · simp only; omega
    · simp only [bad,Bool.false_eq_true,if_false]; omega
theorem q0j {t:ByteArray} {a:Int} (h:(u0p t a).2.2=true):a+1+((u0p t a).1.size:Int)≤(u0p t a).2.1∧0≤a:=by
  unfold u0p at h ⊢
  split at h
  · rename_i hc
    rw [if_pos hc]
    have:=t2m hc.1
    simp only [ByteArray.size_extract]
    omega
  · cases h
theorem u7r {s:ByteArray} {c:Cur} (h:inT s c):inT s (u2c s c).2∧c.1+1+((u2c s c).1.size:Int)≤(u2c s c).2.1+bad (u2c s c).2 1:=by
  unfold u2c
  split
  · refine ⟨h,?_⟩
    simp only [bad,if_true,emp,ByteArray.size]; simp
  · rename_i q
    simp only [not_or,Bool.not_eq_true,Bool.not_eq_false] at q
    have h1:=s6f q.2
    have h2:=q0j q.2
    refine ⟨⟨?_,?_⟩,?_⟩
    · simp only; omega
    · simp only; omega
    · simp only [bad,Bool.false_eq_true,if_false]; omega
theorem q8x {s:ByteArray} {c:Cur} (h:inT s c):inT s (r7y s c).2∧c.1+1≤(r7y s c).2.1+bad (r7y s c).2 1:=by
  unfold r7y
  split
  · refine ⟨h,?_⟩
    simp only [bad,if_true]; omega
  · rename_i q
    simp only [not_or,Decidable.not_not] at q
    unfold inT
    simp only [bad,Bool.false_eq_true,if_false]; omega
theorem u7l (c:Cur) {k:Int} (hk:0≤k):0≤bad c k∧bad c k≤k:=by unfold bad; split<;>omega
theorem r1e {c c' :Cur} (h:c.2=true→c'.2=true) {k:Int} (hk:0≤k):bad c k≤bad c' k:=by
  unfold bad
  by_cases q:c.2=true
  · rw [if_pos q,if_pos (h q)]; omega
  · rw [if_neg q]; split<;>omega
def p5f {E:Type} (w:E→Nat) (k:Int) (s:ByteArray) (f:Cur→E × Cur):Prop:= ∀c,inT s c→inT s (f c).2∧c.1+1+(w (f c).1:Int)≤(f c).2.1+bad (f c).2 k
theorem t5i {E:Type} {w:E→Nat} {k:Int} {s:ByteArray} {f:Cur→E × Cur} (hk:0≤k) (hf:p5f w k s f):∀(n:Nat) (c:Cur) (a:List E),inT s c→
    inT s (u3j f n c a).2∧c.1+((u3j f n c a).1.length+((u3j f n c a).1.map w).sum:Nat)≤(u3j f n c a).2.1+(a.length+(a.map w).sum:Nat)+bad (u3j f n c a).2 k
  | 0,c,a,h=>⟨h,by have:=u7l (u3j f 0 c a).2 hk; simp only [u3j] at*; omega⟩
  | n+1,c,a,h=>by
    simp only [u3j]
    split
    · exact ⟨h,by have:=u7l c hk; simp only; omega⟩
    · obtain ⟨h1,h2⟩:=hf c h
      obtain ⟨h3,h4⟩:=t5i hk hf n (f c).2 (a++ [(f c).1]) h1
      refine ⟨h3,?_⟩
      have e1:(a++ [(f c).1]).length=a.length+1:=by simp
      have e2:((a++ [(f c).1]).map w).sum=(a.map w).sum+w (f c).1:=by simp
      rw [e1,e2] at h4
      have hm:bad (f c).2 k≤bad (u3j f n (f c).2 (a++ [(f c).1])).2 k∧(bad (f c).2 k≠0→u3j f n (f c).2 (a++ [(f c).1])=(a++ [(f c).1],(f c).2)):=by
        by_cases q:(f c).2.2=true
        · rw [t04 q]; exact ⟨Int.le_refl _,fun _=>rfl⟩
        · have:bad (f c).2 k=0:=by unfold bad; rw [if_neg q]
          rw [this]; exact ⟨(u7l _ hk).1,fun h=>absurd rfl h⟩
      by_cases z:bad (f c).2 k=0
      · omega
      · have e:=hm.2 z
        rw [e]
        simp only [e1,e2]
        omega
theorem r70 (s:ByteArray):p5f u8d.wt 2 s (q8y s):=fun c h=>by
  obtain ⟨h1,h2⟩:=u7r h
  obtain ⟨h3,h4⟩:=u7r h1
  have b1:=r1e (c:=(u2c s c).2) (c' :=(u2c s (u2c s c).2).2) s0o (k:=1) (by omega)
  have b2:bad (u2c s (u2c s c).2).2 2=2*bad (u2c s (u2c s c).2).2 1:=by unfold bad; split<;>omega
  refine ⟨h3,?_⟩
  have e:u8d.wt (q8y s c).1=(u2c s c).1.size+(u2c s (u2c s c).2).1.size:=rfl
  have e2:(q8y s c).2=(u2c s (u2c s c).2).2:=rfl
  rw [e,e2]; omega
theorem r5s (s:ByteArray):p5f u1n.wt 3 s (rWr s):=fun c h=>by
  obtain ⟨h1,h2⟩:=u7r h
  obtain ⟨h3,h4⟩:=u7r h1
  obtain ⟨h5,h6⟩:=q8x h3
  have b1:=r1e (c:=(u2c s c).2) (c' :=(u2c s (u2c s c).2).2) s0o (k:=1) (by omega)
  have b2:=r1e (c:=(u2c s (u2c s c).2).2) (c' :=(r7y s (u2c s (u2c s c).2).2).2) r1z (k:=1) (by omega)
  have b3:bad (r7y s (u2c s (u2c s c).2).2).2 3=3*bad (r7y s (u2c s (u2c s c).2).2).2 1:=by unfold bad; split<;>omega
  refine ⟨h5,?_⟩
  have e:u1n.wt (rWr s c).1=(u2c s c).1.size+((u2c s (u2c s c).2).1.size+0):=rfl
  have e2:(rWr s c).2=(r7y s (u2c s (u2c s c).2).2).2:=rfl
  rw [e,e2]; omega
theorem r71 (s:ByteArray):p5f u0d.wt 4 s (q80 s):=fun c h=>by
  obtain ⟨h1,h2⟩:=r5s s c h
  obtain ⟨h3,h4,h5,h6⟩:=u3k h1
  have b1:=r1e (c:=(rWr s c).2) (c' :=(u3e s (rWr s c).2).2) u6s (k:=3) (by omega)
  have b3:bad (u3e s (rWr s c).2).2 4=bad (u3e s (rWr s c).2).2 1+bad (u3e s (rWr s c).2).2 3:=by unfold bad; split<;>omega
  refine ⟨h3,?_⟩
  have e:u0d.wt (q80 s c).1=u1n.wt (rWr s c).1:=rfl
  have e2:(q80 s c).2=(u3e s (rWr s c).2).2:=rfl
  rw [e,e2]; omega
theorem q54 (m:Nat) (s:ByteArray):p5f u0z.wt 20 s (q0h m s):=fun c h=>by
  unfold q0h
  simp only
  obtain ⟨a1,a2,a3,a4⟩:=u3k h
  generalize hA:u3e s c=A at a1 a2 a3 a4 ⊢
  obtain ⟨b1,b2,b3,b4⟩:=u3k a1
  have mB:A.2.2=true→(u3e s A.2).2.2=true:=u6s
  generalize hB:u3e s A.2=B at b1 b2 b3 b4 mB ⊢
  obtain ⟨d1,d2,d3,d4⟩:=u3k b1
  have mD:B.2.2=true→(u3e s B.2).2.2=true:=u6s
  generalize hD:u3e s B.2=D at d1 d2 d3 d4 mD ⊢
  obtain ⟨e1,e2,e3,e4⟩:=u3k d1
  have mE:D.2.2=true→(u3e s D.2).2.2=true:=u6s
  generalize hE:u3e s D.2=E at e1 e2 e3 e4 mE ⊢
  obtain ⟨f1,f2,f3,f4⟩:=u3k e1
  have mF:E.2.2=true→(u3e s E.2).2.2=true:=u6s
  generalize hF:u3e s E.2=F at f1 f2 f3 f4 mF ⊢
  obtain ⟨g1,g2⟩:=t5i (by omega) (r70 s) (min F.1.toNat m) F.2 [] f1
  have mG:F.2.2=true→(u3j (q8y s) (min F.1.toNat m) F.2 []).2.2=true:=fun q=>by rw [t04 q]; exact q
  generalize hG:u3j (q8y s) (min F.1.toNat m) F.2 [] =G at g1 g2 mG ⊢
  obtain ⟨k1,k2,k3,k4⟩:=u3k g1
  have mK:G.2.2=true→(u3e s G.2).2.2=true:=u6s
  generalize hK:u3e s G.2=K at k1 k2 k3 k4 mK ⊢
  obtain ⟨l1,l2⟩:=t5i (by omega) (r5s s) (min K.1.toNat m) K.2 [] k1
  have mL:K.2.2=true→(u3j (rWr s) (min K.1.toNat m) K.2 []).2.2=true:=fun q=>by rw [t04 q]; exact q
  generalize hL:u3j (rWr s) (min K.1.toNat m) K.2 [] =L at l1 l2 mL ⊢
  obtain ⟨o1,o2⟩:=q8x l1
  have mO:L.2.2=true→(r7y s L.2).2.2=true:=r1z
  generalize hO:r7y s L.2=O at o1 o2 mO ⊢
  obtain ⟨p1,p2⟩:=u7r o1
  have mP:O.2.2=true→(u2c s O.2).2.2=true:=s0o
  generalize hP:u2c s O.2=P at p1 p2 mP ⊢
  refine ⟨p1,?_⟩
  have e:u0z.wt (A.1,B.1,D.1,E.1,G.1,L.1,O.1,P.1)=0+(0+(0+(0+((Ty.sl u8d).wt G.1+((Ty.sl u1n).wt L.1+(0+P.1.size)))))):=rfl
  have eG:(Ty.sl u8d).wt G.1=G.1.length+(G.1.map u8d.wt).sum:=rfl
  have eL:(Ty.sl u1n).wt L.1=L.1.length+(L.1.map u1n.wt).sum:=rfl
  simp only [List.length_nil,List.map_nil,List.sum_nil] at g2 l2
  rw [e,eG,eL]
  by_cases q:P.2.2=true
  · have:bad P.2 20=20:=by unfold bad; rw [if_pos q]
    rw [this]
    have t1:=(u7l A.2 (k:=1) (by omega)).2
    have t2:=(u7l B.2 (k:=1) (by omega)).2
    have t3:=(u7l D.2 (k:=1) (by omega)).2
    have t4:=(u7l E.2 (k:=1) (by omega)).2
    have t5:=(u7l F.2 (k:=1) (by omega)).2
    have t6:=(u7l G.2 (k:=2) (by omega)).2
    have t7:=(u7l K.2 (k:=1) (by omega)).2
    have t8:=(u7l L.2 (k:=3) (by omega)).2
    have t9:=(u7l O.2 (k:=1) (by omega)).2
    have t10:=(u7l P.2 (k:=1) (by omega)).2
    omega
  · have zP:P.2.2=false:=by simpa using q
    have z:∀ {x y:Cur},(x.2=true→y.2=true)→y.2=false→x.2=false:=fun {x y} i j=>by
      cases w:x.2
      · rfl
      · rw [i w] at j; cases j
    have zO:=z mP zP
    have zL:=z mO zO
    have zK:=z mL zL
    have zG:=z mK zK
    have zF:=z mG zG
    have zE:=z mF zF
    have zD:=z mE zE
    have zB:=z mD zD
    have zA:=z mB zB
    simp only [bad,zP,zO,zL,zK,zG,zF,zE,zD,zB,zA,Bool.false_eq_true,if_false] at*
    omega
theorem r3f (m:Nat) (s:ByteArray):p5f u0z.wt 20 s (u7p m s):=fun c h=>by
  obtain ⟨h1,h2⟩:=q54 m s c h
  refine ⟨h1,?_⟩
  have:bad (q0h m s c).2 20≤bad (u7p m s c).2 20:=r1e (fun q=>by unfold u7p; simp only [q,Bool.true_or]) (by omega)
  have e1:(u7p m s c).1=(q0h m s c).1:=rfl
  have e2:(u7p m s c).2.1=(q0h m s c).2.1:=rfl
  rw [e1,e2]; omega
end
section
theorem gt1 (n:Nat):decide ((n:Int) >1)=decide (1<n):=by simp; omega
theorem eq1 (n:Nat):decide ((n:Int)=1)=decide (n=1):=by simp; omega
theorem r7i {E X R U:Type} {s:ByteArray} (W:X→Option (R ⊕ U)) (mk:Cur→List E→Int→X) (res:Cur→List E→R) (f:Cur→E × Cur) (N:Nat)
    (hf:∀c,inT s c→inT s (f c).2)
    (hend:∀c a (i:Nat),(N≤i∨c.2=true)→W (mk c a (i:Int))=some (.inl (res c a)))
    (hstep:∀c a (i:Nat),i<N→c.2=false→inT s c→a.length≤i→W (mk c a (i:Int))=W (mk (f c).2 (a++ [(f c).1]) ((i+1:Nat):Int))):
    ∀(k i:Nat) c a,i+k=N→inT s c→a.length≤i→W (mk c a (i:Int))=some (.inl (res (u3j f k c a).2 (u3j f k c a).1)):=by
  intro k
  induction k with
  | zero=>intro i c a hi hc ha; exact hend c a i (.inl (by omega))
  | succ k ih=>
    intro i c a hi hc ha
    simp only [u3j]
    split
    · rename_i q; exact hend c a i (.inr q)
    · rename_i q
      rw [hstep c a i (by omega) (by simpa using q) hc ha,ih (i+1) _ _ (by omega) (hf c hc) (by simp; omega)]
theorem q7h {E:Type} {w:E→Nat} {k:Int} {s:ByteArray} {f:Cur→E × Cur} (h:p5f w k s f):∀c,inT s c→inT s (f c).2:=fun c hc=>(h c hc).1
end
section
theorem q8z {m k:Nat} {s:ByteArray} {c:Cur} (h:inT s c):inT s (t2o m k s c).2∧c.1+((Ty.sl u0z).wt (t2o m k s c).1:Nat)≤(t2o m k s c).2.1+20+1:=by
  obtain ⟨h1,h2,h3,h4⟩:=u3k h
  obtain ⟨g1,g2⟩:=t5i (by omega) (r3f m s) (min (u3e s c).1.toNat k) (u3e s c).2 [] h1
  refine ⟨g1,?_⟩
  have e:(Ty.sl u0z).wt (t2o m k s c).1=(t2o m k s c).1.length+((t2o m k s c).1.map u0z.wt).sum:=rfl
  rw [e]
  have t1:=(u7l (u3e s c).2 (k:=1) (by omega)).2
  have t2:=(u7l (u3j (u7p m s) (min (u3e s c).1.toNat k) (u3e s c).2 []).2 (k:=20) (by omega)).2
  unfold t2o
  simp only [List.length_nil,List.map_nil,List.sum_nil] at g2
  omega
theorem q8w (m:Lim) {s:ByteArray} {c:Cur} (h:inT s c):inT s (s4h m s c).2∧(p6z.wt (s4h m s c).1:Int)≤(s.size:Int)+100:=by
  unfold s4h
  simp only
  obtain ⟨a1,a2,a3,a4⟩:=u3k h
  obtain ⟨b1,b2,b3,b4⟩:=u3k a1
  obtain ⟨d1,d2,d3,d4⟩:=u3k b1
  obtain ⟨g1,g2⟩:=t5i (by omega) (r71 s) (min (u3e s (u3e s (u3e s c).2).2).1.toNat m.v) (u3e s (u3e s (u3e s c).2).2).2 [] d1
  obtain ⟨p1,p2⟩:=q8z (m:=m.t) (k:=m.p) g1
  obtain ⟨q1,q2⟩:=q8z (m:=m.t) (k:=m.r) p1
  refine ⟨q1,?_⟩
  have t1:=(u7l (u3j (q80 s) (min (u3e s (u3e s (u3e s c).2).2).1.toNat m.v) (u3e s (u3e s (u3e s c).2).2).2 []).2 (k:=4) (by omega)).2
  have u1:=(u7l (u3e s c).2 (k:=1) (by omega)).2
  have u2:=(u7l (u3e s (u3e s c).2).2 (k:=1) (by omega)).2
  have u3:=(u7l (u3e s (u3e s (u3e s c).2).2).2 (k:=1) (by omega)).2
  generalize u3j (q80 s) (min (u3e s (u3e s (u3e s c).2).2).1.toNat m.v) (u3e s (u3e s (u3e s c).2).2).2 [] =vs at*
  simp only [List.length_nil,List.map_nil,List.sum_nil] at g2
  have e:=s9s (vs.1,(t2o m.t m.p s vs.2).1,(t2o m.t m.r s (t2o m.t m.p s vs.2).2).1,(u3e s c).1,(u3e s (u3e s c).2).1)
  simp only at e
  have eV:(Ty.sl u0d).wt vs.1=vs.1.length+(vs.1.map u0d.wt).sum:=rfl
  unfold inT at q1 h
  rw [e,eV]
  omega
end
section
theorem t29 {s:ByteArray} (c:Cur) (hs:s.size≤u0l):u1x (s,c)=some ((u3e s c).1,s,(u3e s c).2):=by
  rw [q3h]; unfold r09 u3e
  simp only [r3q s c.1 hs,zOb]
  cases h1:c.2
  · cases h2:(u0q s c.1).2.2<;>simp
  · simp
theorem t5k {s:ByteArray} (c:Cur) (hs:s.size≤u0l):u1c (s,c)=some ((u2c s c).1,s,(u2c s c).2):=by
  rw [s9u]; unfold t6t u2c
  simp only [s7j s c.1 hs,zOb]
  cases h1:c.2
  · cases h2:(u0p s c.1).2.2
    · simp [emp]
    · simp
  · simp [emp]
theorem r1q {s:ByteArray} {c:Cur} (hc:inT s c) (hs:s.size≤u0l):u4f (s,c)=some ((r7y s c).1,s,(r7y s c).2):=by
  have hb:u0l=1099511627776:=rfl
  unfold inT at hc
  obtain ⟨k,hk⟩:∃k:Nat,c.1=k:=⟨c.1.toNat,by omega⟩
  rw [r26]; unfold t9u r7y
  simp only [hk]
  cases h1:c.2
  · by_cases h2:k<s.size
    · have e1:decide ((k:Int)≥(s.size:Int))=false:=decide_eq_false (by omega)
      have e3:IntKind.i64.wrap ((k:Int)+1)=(k:Int)+1:=y4y (by omega) (by omega)
      have e5:IntKind.i64.wrap ((k:Int)+1 - 1)=k:=by rw [y4y (by omega) (by omega)]; omega
      rw [e1,e3,e5]
      simp only [cond_false,zOb,y7t h2,cond_true,zTn,gt1,eq1]
      rw [show (s.data.toList.getD k 0).toNat=t0u s k from rfl]
      by_cases h3:1<t0u s k
      · simp [h3]
      · have h3' :t0u s k≤1:=by omega
        simp [h3,h3',h2]
    · have e1:decide ((k:Int)≥(s.size:Int))=true:=decide_eq_true (by omega)
      rw [e1]
      simp only [cond_false,zOb,cond_true]
      rw [if_pos (.inr (.inl (by omega)))]
  · simp
theorem r6i {n k:Int} {i:Nat} {c:Cur} (h:min n.toNat k.toNat≤i∨c.2=true):((bif decide ((i:Int)<n) then (bif decide ((i:Int)<k) then some (!c.2) else some false) else some false:Option Bool))=some false:=by
  rcases h with h | h
  · by_cases q:(i:Int)<n
    · rw [decide_eq_true q,decide_eq_false (show ¬(i:Int)<k by omega)]; rfl
    · rw [decide_eq_false q]; rfl
  · rw [h]; cases decide ((i:Int)<n)<;>cases decide ((i:Int)<k)<;>rfl
theorem r2u {n k:Int} {i:Nat} {c:Cur} (h:i<min n.toNat k.toNat) (hc:c.2=false):((bif decide ((i:Int)<n) then (bif decide ((i:Int)<k) then some (!c.2) else some false) else some false:Option Bool))=some true:=by
  rw [decide_eq_true (show (i:Int)<n by omega),decide_eq_true (show (i:Int)<k by omega),hc]; rfl
theorem p2p {s:ByteArray} (hs:s.size≤u0l) (z t:u0f) (n:Int) {c:Cur} (hc:inT s c) (ht:t.2.2.2.2.1= []):
    u7b (z,(s,c),t,n,0)=some (.inl (z,(s,(u3j (q8y s) (min n.toNat 10) c []).2),(t.1,t.2.1,t.2.2.1,t.2.2.2.1,(u3j (q8y s) (min n.toNat 10) c []).1,t.2.2.2.2.2))):=by
  have L:=r7i (s:=s) u7b (fun (c:Cur) (a:List t3u) i=>(z,(s,c),((t.1,t.2.1,t.2.2.1,t.2.2.2.1,a,t.2.2.2.2.2):u0f),n,i))
    (fun (c:Cur) (a:List t3u)=>(z,(s,c),((t.1,t.2.1,t.2.2.1,t.2.2.2.1,a,t.2.2.2.2.2):u0f))) (q8y s) (min n.toNat 10) (q7h (r70 s))
    (fun c a i h=>by rw [s31]; simp only [t1k]; rw [r6i (k:=10) h]; rfl)
    (fun c a i h hc2 hin ha=>by
      rw [s31]; simp only [t1k]; rw [r2u (k:=10) h hc2]
      simp only [zOb,cond_true]
      rw [t5k c hs]
      simp only [zOb]
      rw [t5k _ hs]
      simp only [zOb]
      rw [p3i (by simp; omega),y7l (by omega)]
      rfl) (min n.toNat 10) 0 c [] (by omega) hc (by simp)
  obtain ⟨t1,t2,t3,t4,t5,t6⟩:=t
  simp only at ht
  subst ht
  exact L
theorem p4u {s:ByteArray} (hs:s.size≤u0l) (z t:u0f) (n:Int) {c:Cur} (hc:inT s c) (ht:t.2.2.2.2.2.1= []):
    u5p (z,(s,c),t,n,0)=some (.inl (z,(s,(u3j (rWr s) (min n.toNat 10) c []).2),(t.1,t.2.1,t.2.2.1,t.2.2.2.1,t.2.2.2.2.1,(u3j (rWr s) (min n.toNat 10) c []).1,t.2.2.2.2.2.2))):=by
  have L:=r7i (s:=s) u5p (fun (c:Cur) (a:List WrT) i=>(z,(s,c),((t.1,t.2.1,t.2.2.1,t.2.2.2.1,t.2.2.2.2.1,a,t.2.2.2.2.2.2):u0f),n,i))
    (fun (c:Cur) (a:List WrT)=>(z,(s,c),((t.1,t.2.1,t.2.2.1,t.2.2.2.1,t.2.2.2.2.1,a,t.2.2.2.2.2.2):u0f))) (rWr s) (min n.toNat 10) (q7h (r5s s))
    (fun c a i h=>by rw [s07]; simp only [u9r]; rw [r6i (k:=10) h]; rfl)
    (fun c a i h hc2 hin ha=>by
      rw [s07]; simp only [u9r]; rw [r2u (k:=10) h hc2]
      simp only [zOb,cond_true]
      rw [t5k c hs]
      simp only [zOb]
      rw [t5k _ hs]
      simp only [zOb]
      rw [r1q (u7r (u7r hin).1).1 hs]
      simp only [zOb]
      rw [p3i (by simp; omega),y7l (by omega)]
      rfl) (min n.toNat 10) 0 c [] (by omega) hc (by simp)
  obtain ⟨t1,t2,t3,t4,t5,t6,t7⟩:=t
  simp only at ht
  subst ht
  exact L
theorem q87 {s:ByteArray} (hs:s.size≤1048576) {a:Int} (hc:inT s (a,false)):
    t40 (s,a)=some (if (u7p 10 s (a,false)).2.2=true then (u5c,0,false) else ((u7p 10 s (a,false)).1,(u7p 10 s (a,false)).2.1,true)):=by
  have hb:u0l=1099511627776:=rfl
  have hs' :s.size≤u0l:=by omega
  have hw:=q54 10 s (a,false) hc
  have hin:=hc
  unfold inT at hin
  simp only at hin
  have hwt:u0z.wt (q0h 10 s (a,false)).1≤u0l:=by
    have h1:=hw.1
    unfold inT at h1
    have:=(u7l (q0h 10 s (a,false)).2 (k:=20) (by omega)).2
    have:=hw.2
    simp only at this
    omega
  have hk:=t2e _ hwt
  rw [r9i]; unfold s71
  unfold u7p
  unfold q0h at hk ⊢
  simp only at hk ⊢
  rw [t29 _ hs']
  simp only [zOb]
  have i1:=(u3k hc).1
  rw [t29 _ hs']
  simp only [zOb]
  have i2:=(u3k i1).1
  rw [t29 _ hs']
  simp only [zOb]
  have i3:=(u3k i2).1
  rw [t29 _ hs']
  simp only [zOb]
  have i4:=(u3k i3).1
  rw [t29 _ hs']
  simp only [zOb]
  have i5:=(u3k i4).1
  rw [p2p hs' _ _ _ i5 rfl]
  simp only [zOb]
  have i6:=(t5i (by omega) (r70 s) (min (u3e s (u3e s (u3e s (u3e s (u3e s (a,false)).2).2).2).2).1.toNat 10) (u3e s (u3e s (u3e s (u3e s (u3e s (a,false)).2).2).2).2).2 [] i5).1
  rw [t29 _ hs']
  simp only [zOb]
  have i7:=(u3k i6).1
  rw [p4u hs' _ _ _ i7 rfl]
  simp only [zOb]
  rw [r1q (t5i (by omega) (r5s s) _ _ [] i7).1 hs']
  simp only [zOb]
  rw [t5k _ hs']
  simp only [zOb]
  rw [hk]
  simp only [zOb]
  generalize u2c s _=z
  generalize u5b _=o
  cases h:z.2.2<;>cases o<;>simp [u5c,emp]
theorem q6j {s:ByteArray} (hs:s.size≤1048576) (m:Nat) (hm:m≤1000) {c:Cur} (hc:inT s c):
    ∃(l:List u0f) (c' :Cur),u8h ((s,c),(m:Int))=some (l,s,c')∧inT s c' ∧c'.2=(t2o 10 (m+1) s c).2.2∧c.1+((Ty.sl u0z).wt l:Nat)≤c'.1+22∧(c'.2=false→(l,c')=t2o 10 (m+1) s c):=by
  have hb:u0l=1099511627776:=rfl
  obtain ⟨h1,h2,h3,h4⟩:=u3k hc
  rw [r1p]; unfold t73 t2o
  simp only
  rw [t29 c (by omega)]
  simp only [zOb]
  generalize u3e s c=y at h1 h2 h3 h4 ⊢
  have key:∀(k i:Nat) (d:Cur) (a:List u0f),i+k=min y.1.toNat (m+1)→inT s d→a.length≤i→y.2.1+((a.length+(a.map u0z.wt).sum:Nat):Int)≤d.1+bad d 20→
      ∃(r:((ByteArray × Cur) × List u0f) ⊕ ((ByteArray × Cur) × List u0f)) (l:List u0f) (c' :Cur),u3y ((s,d),(m:Int),a,y.1,(i:Int))=some r∧(r= .inl ((s,c'),l)∨r= .inr ((s,c'),l))∧inT s c' ∧c'.2=(u3j (u7p 10 s) k d a).2.2∧
        y.2.1+((l.length+(l.map u0z.wt).sum:Nat):Int)≤c'.1+bad c' 20∧(c'.2=false→(l,c')=u3j (u7p 10 s) k d a):=by
    intro k
    induction k with
    | zero=>
      intro i d a hi hd ha hw
      refine ⟨_,a,d,?_, .inl rfl,hd,rfl,hw,fun _=>rfl⟩
      rw [u5j]; simp only [u2y]
      have:(bif decide ((i:Int)<y.1) then (bif decide ((i:Int)≤(m:Int)) then some (!d.2) else some false) else some false:Option Bool)=some false:=by
        by_cases q:(i:Int)<y.1
        · rw [decide_eq_true q,decide_eq_false (show ¬(i:Int)≤m by omega)]; rfl
        · rw [decide_eq_false q]; rfl
      rw [this]; rfl
    | succ k ih=>
      intro i d a hi hd ha hw
      by_cases q:d.2=true
      · refine ⟨_,a,d,?_, .inl rfl,hd,by rw [t04 q],hw,fun z=>by rw [q] at z; cases z⟩
        rw [u5j]; simp only [u2y]
        have:(bif decide ((i:Int)<y.1) then (bif decide ((i:Int)≤(m:Int)) then some (!d.2) else some false) else some false:Option Bool)=some false:=by
          rw [q]; cases decide ((i:Int)<y.1)<;>cases decide ((i:Int)≤(m:Int))<;>rfl
        rw [this]; rfl
      · have q' :d.2=false:=by simpa using q
        have ed:d=(d.1,false):=by rw [←q']
        have hx:=q87 hs (a:=d.1) (by rw [←ed]; exact hd)
        rw [←ed] at hx
        have he:=r3f 10 s d hd
        have hbd:bad d 20=0:=by unfold bad; rw [if_neg q]
        have c1:(bif decide ((i:Int)<y.1) then (bif decide ((i:Int)≤(m:Int)) then some (!d.2) else some false) else some false:Option Bool)=some true:=by
          rw [decide_eq_true (show (i:Int)<y.1 by omega),decide_eq_true (show (i:Int)≤m by omega),q']; rfl
        simp only [u3j]
        rw [if_neg q]
        cases z:(u7p 10 s d).2.2
        · rw [if_neg (by rw [z]; simp)] at hx
          have hbz:bad (u7p 10 s d).2 20=0:=by unfold bad; rw [if_neg (by rw [z]; simp)]
          obtain ⟨r,l,c',e1,e2,e3,e4,e5,e6⟩:=ih (i+1) (u7p 10 s d).2 (a++ [(u7p 10 s d).1]) (by omega) he.1 (by simp; omega) (by
            have:=he.2
            rw [hbd] at hw
            rw [hbz] at this ⊢
            simp only [List.length_append,List.length_singleton,List.map_append,List.map_cons,List.map_nil,List.sum_append,List.sum_cons,List.sum_nil]
            omega)
          refine ⟨r,l,c',?_,e2,e3,e4,e5,e6⟩
          rw [←e1,u5j]; simp only [u2y]
          rw [c1]
          simp only [zOb,cond_true]
          rw [hx]
          simp only [zOb,Bool.not_true,cond_false]
          rw [p3i (by simp; omega),y7l (by omega),q']
          have:(u7p 10 s d).2=((u7p 10 s d).2.1,false):=by rw [←z]
          rw [this]
        · rw [if_pos z] at hx
          refine ⟨_,a,(d.1,true),?_, .inr rfl,hd,by rw [t04 z,z],?_,fun w=>by cases w⟩
          · rw [u5j]; simp only [u2y]
            rw [c1]
            simp only [zOb,cond_true]
            rw [hx]
            rfl
          · rw [hbd] at hw
            have:bad ((d.1,true):Cur) 20=20:=rfl
            rw [this]; simp only; omega
  have hb0:0≤bad y.2 20:=(u7l _ (by omega)).1
  obtain ⟨r,l,c',e1,e2,e3,e4,e5,e6⟩:=key (min y.1.toNat (m+1)) 0 y.2 [] (by omega) h1 (by simp) (by simp only [List.length_nil,List.map_nil,List.sum_nil]; omega)
  have e1' :u3y ((s,y.2),(m:Int), [],y.1,0)=some r:=e1
  refine ⟨l,c',?_,e3,e4,?_,e6⟩
  · rw [e1']
    rcases e2 with e2 | e2<;>rw [e2] <;>rfl
  · have e:(Ty.sl u0z).wt l=l.length+(l.map u0z.wt).sum:=rfl
    rw [e]
    have t1:=(u7l y.2 (k:=1) (by omega)).2
    have t2:=(u7l c' (k:=20) (by omega)).2
    omega
def p3s:Lim:=⟨10,130,13,4⟩
theorem p5v:p3s.ok:=⟨by decide,by decide,by decide,by decide⟩
theorem p2x {s:ByteArray} (hs:s.size≤u0l) (z b:u0i) (n:Int) {c:Cur} (hc:inT s c) (ht:b.1= []):
    u5o (z,(s,c),b,n,0)=some (.inl (z,(s,(u3j (q80 s) (min n.toNat 130) c []).2),((u3j (q80 s) (min n.toNat 130) c []).1,b.2))):=by
  have L:=r7i (s:=s) u5o (fun (c:Cur) (a:List u1v) i=>(z,(s,c),((a,b.2):u0i),n,i))
    (fun (c:Cur) (a:List u1v)=>(z,(s,c),((a,b.2):u0i))) (q80 s) (min n.toNat 130) (q7h (r71 s))
    (fun c a i h=>by rw [s06]; simp only [u9q]; rw [r6i (k:=130) h]; rfl)
    (fun c a i h hc2 hin ha=>by
      rw [s06]; simp only [u9q]; rw [r2u (k:=130) h hc2]
      simp only [zOb,cond_true]
      rw [t5k c hs]
      simp only [zOb]
      rw [t5k _ hs]
      simp only [zOb]
      rw [r1q (u7r (u7r hin).1).1 hs]
      simp only [zOb]
      rw [t29 _ hs]
      simp only [zOb]
      rw [p3i (by simp; omega),y7l (by omega)]
      rfl) (min n.toNat 130) 0 c [] (by omega) hc (by simp)
  obtain ⟨b1,b2⟩:=b
  simp only at ht
  subst ht
  exact L
theorem p1p {s:ByteArray} (hs:s.size≤1048576) {a:Int} (hc:inT s (a,false)):
    t7e (s,a)=some (if (t5g p3s s (a,false)).2.2=true then (u2z,0,false) else ((t5g p3s s (a,false)).1,(t5g p3s s (a,false)).2.1,true)):=by
  have hb:u0l=1099511627776:=rfl
  have hs' :s.size≤u0l:=by omega
  have hw:=q8w p3s (s:=s) hc
  have hk:=t3z (s4h p3s s (a,false)).1 (by have:=hw.2; omega)
  rw [r63]; unfold s47
  unfold t5g
  unfold s4h at hk ⊢
  simp only at hk ⊢
  rw [t29 _ hs']
  simp only [zOb]
  have i1:=(u3k hc).1
  rw [t29 _ hs']
  simp only [zOb]
  have i2:=(u3k i1).1
  rw [t29 _ hs']
  simp only [zOb]
  have i3:=(u3k i2).1
  rw [p2x hs' _ _ _ i3 rfl]
  simp only [zOb]
  have i4f:=t5i (by omega) (r71 s) (min (u3e s (u3e s (u3e s (a,false)).2).2).1.toNat 130) (u3e s (u3e s (u3e s (a,false)).2).2).2 [] i3
  rw [show p3s.v=130 from rfl,show p3s.t=10 from rfl,show p3s.p=12+1 from rfl,show p3s.r=3+1 from rfl] at hk ⊢
  generalize hvs:u3j (q80 s) (min (u3e s (u3e s (u3e s (a,false)).2).2).1.toNat 130) (u3e s (u3e s (u3e s (a,false)).2).2).2 [] =vs at hk i4f ⊢
  obtain ⟨i4,i4w⟩:=i4f
  obtain ⟨l1,d1,e1,e2,e3,e4,e5⟩:=q6j hs 12 (by omega) i4
  obtain ⟨l2,d2,f1,f2,f3,f4,f5⟩:=q6j hs 3 (by omega) e2
  rw [show ((12:Nat):Int)=12 from rfl] at e1
  rw [show ((3:Nat):Int)=3 from rfl] at f1
  rw [e1]
  simp only [zOb]
  rw [f1]
  simp only [zOb]
  cases z:d2.2
  · have z1:d1.2=false:=by
      cases w:d1.2
      · rfl
      · have:(t2o 10 (3+1) s d1).2.2=true:=s6d w
        rw [←f3,z] at this; cases this
    have g1:=e5 z1
    have g2:=f5 z
    rw [←g1]
    rw [←g1] at hk
    simp only at hk ⊢
    rw [←g2]
    rw [←g2] at hk
    simp only at hk ⊢
    rw [hk]
    simp only [zOb,z,cond_false,Bool.false_or]
    generalize t0t _=o
    cases o<;>simp [u2z]
  · have zz:(t2o 10 (3+1) s (t2o 10 (12+1) s vs.2).2).2.2=true:=by
      cases w:d1.2
      · have g1:=e5 w
        rw [←g1]
        show (t2o 10 (3+1) s d1).2.2=true
        rw [←f3]; exact z
      · exact s6d (by rw [←e3]; exact w)
    rw [zz]
    simp [u2z]
theorem q6c {t:ByteArray} (h:4≤t.size):s7e (t.extract 0 (t.size - 4))=t↔t.extract (t.size - 4) t.size=p8j (p51 (t.extract 0 (t.size - 4))):=by
  have e:t.extract 0 (t.size - 4)++t.extract (t.size - 4) t.size=t:=by
    rw [ByteArray.extract_append_extract,Nat.zero_min,Nat.max_eq_right (by omega)]
    exact ByteArray.extract_zero_size
  unfold s7e
  constructor
  · intro q
    have:=e.trans q.symm
    exact ByteArray.append_right_inj (t.extract 0 (t.size - 4)) |>.mp this
  · intro q; rw [←q,e]
theorem q9m (t:ByteArray) (ht:t.size≤1099511627776):t8k t=some (p51 t):=by
  rw [r4g]; unfold s5b
  rw [r3r _ _ ht]; rfl
theorem p07 (x:Int):t43 x=some (p8j x):=by
  rw [s8x]; rfl
theorem q16 (t:ByteArray) (ht:t.size≤u0l):t7g t=some (match t49 t with
    | some s=>(s,true)
    | none=>(emp,false)):=by
  have hb:u0l=1099511627776:=rfl
  rw [r67]; unfold s5c t49
  rw [y4y (n:=(t.size:Int) - 4) (by omega) (by omega)]
  by_cases h4:t.size<4
  · rw [decide_eq_true (show (t.size:Int) - 4<0 by omega),if_neg (by omega)]; rfl
  · rw [decide_eq_false (show ¬(t.size:Int) - 4<0 by omega)]
    have c1:(decide ((0:Int)≤0) && decide ((0:Int)≤(t.size:Int) - 4) && decide ((t.size:Int) - 4≤(t.size:Int)))=true:=by simp; omega
    have c2:(decide ((0:Int)≤(t.size:Int) - 4) && decide ((t.size:Int) - 4≤(t.size:Int)) && decide ((t.size:Int)≤(t.size:Int)))=true:=by simp; omega
    have e1:((t.size:Int) - 4).toNat=t.size - 4:=by omega
    rw [c1,c2,e1,show ((0:Int)).toNat=0 from rfl,zTn]
    have hz:(t.extract 0 (t.size - 4)).size=t.size - 4:=by simp
    simp only [cond_false,cond_true]
    by_cases h5:t.size - 4≤20000
    · rw [decide_eq_false (show ¬(t.size:Int) - 4 >20000 by omega),q9m _ (by rw [hz]; omega)]
      simp only [zOb,cond_false]
      rw [p07]
      simp only [zOb]
      by_cases h6:s7e (t.extract 0 (t.size - 4))=t
      · rw [if_pos ⟨by omega,h5,h6⟩,(q6c (by omega)).mp h6,y6l]; rfl
      · rw [if_neg (fun q=>h6 q.2.2),r8d.mpr (mt (q6c (t:=t) (by omega)).mpr h6)]; rfl
    · rw [decide_eq_true (show (t.size:Int) - 4 >20000 by omega),if_neg (fun q=>h5 q.2.1)]; rfl
end
section
def noR:s1e:=(0,u5c,emp,false,u2z)
def s0p (t:ByteArray):s1e × Bool:=match u3s t with
  | some r=>(r,true)
  | none=>(noR,false)
theorem p4b {t:ByteArray} {r:s1e} (h:u06 r=(t,true)):u3s t=some r:=by
  have hr:t0i r=true:=by
    cases q:t0i r with
    | true=>rfl
    | false=>
      unfold u06 at h
      rw [if_neg (by simp [q])] at h
      simp at h
  have hR:=p45.mp hr
  rw [u87 hR] at h
  rw [←(Prod.mk.inj h).1]
  exact s6e hR
theorem p4a {t s:ByteArray} {r:s1e} (hu:t49 t=some s) (h:u3s t=some r):RecR r∧s=s6h r∧u06 r=(t,true):=by
  obtain ⟨h1,h2⟩:=r12 h
  have hs:=s0q h1
  have:=r2f (t:=s6h r) (by omega)
  rw [←h2,hu] at this
  exact ⟨h1,Option.some.inj this,by rw [u87 h1,←h2]⟩
theorem q3k {t s:ByteArray} {r' :s1e} {b:Bool} (hu:t49 t=some s) (hr:∀r,RecR r→s=s6h r→r' =r∧b=false):
    (((bif b then some true else (bif (!(u06 r').2) then some true else some (!z7o (u06 r').1 t))):Option Bool).bind fun j=>bif j then some (noR,false) else some (r',true))=some (s0p t):=by
  unfold s0p
  cases h:u3s t with
  | some r=>
    obtain ⟨h1,h2,h3⟩:=p4a hu h
    obtain ⟨e1,e2⟩:=hr r h1 h2
    subst e1
    rw [e2,h3]
    simp only [cond_false,Bool.not_true,y6l,zOb]
  | none=>
    cases b
    · cases h2:(u06 r').2
      · rfl
      · have:z7o (u06 r').1 t=false:=by
          rw [r8d]
          intro e
          have:=p4b (t:=t) (r:=r') (by rw [←e,←h2])
          rw [h] at this; cases this
        rw [this]; rfl
    · rfl
theorem p3g (s:ByteArray):((s.data.toList.getD 0 0).toNat:Int)=(t0u s 0:Int):=rfl
theorem p1s (s:ByteArray) (i:Nat):t0u s i<256:=by unfold t0u; exact UInt8.toNat_lt _
theorem q3w {t s:ByteArray} (h:t49 t=some s):s.size≤20000:=by
  unfold t49 at h
  split at h
  · rename_i q
    have:=Option.some.inj h
    rw [←this]; simp; omega
  · cases h
theorem o1f (k:Nat):decide ((k:Int)=3)=decide (k=3):=by simp; omega
theorem o1g (k:Nat):decide ((k:Int)=4)=decide (k=4):=by simp; omega
theorem q33:u0z.wt u5c=0:=rfl
theorem q32:p6z.wt u2z=0:=rfl
theorem p30 (m:Nat) {s:ByteArray} (hs:s.size≤20000) (h1:1≤s.size):u0z.wt (u7p m s (1,false)).1≤30000:=by
  have h:=r3f m s (1,false) ⟨by simp,by simp; omega⟩
  have h2:=h.1
  unfold inT at h2
  have:=(u7l (u7p m s (1,false)).2 (k:=20) (by omega)).2
  have:=h.2
  simp only at this
  omega
theorem p19 (m:Lim) {s:ByteArray} (hs:s.size≤20000) (h1:1≤s.size):p6z.wt (t5g m s (1,false)).1≤30000:=by
  have h:=q8w m (s:=s) (c:=(1,false)) ⟨by simp,by simp; omega⟩
  have e:(t5g m s (1,false)).1=(s4h m s (1,false)).1:=rfl
  rw [e]; have:=h.2; omega
theorem r54 (t:ByteArray) (ht:t.size≤u0l):t36 t=some (s0p t):=by
  have hb:u0l=1099511627776:=rfl
  rw [r20]; unfold t9o
  rw [q16 t ht]
  simp only [zOb]
  cases hu:t49 t with
  | none=>
    unfold s0p u3s
    rw [hu]; rfl
  | some s=>
    have hs:=q3w hu
    simp only [t4s]
    by_cases h0:s.size=0
    · unfold s0p u3s
      rw [hu]
      simp only
      rw [if_pos h0,decide_eq_true h0]; rfl
    · have hin:inT s (1,false):=⟨by simp,by simp; omega⟩
      rw [decide_eq_false h0]
      simp only [Bool.not_true,cond_false,zOb]
      rw [show y4p (0:Int) s.size=true from y7t (i:=0) (by omega)]
      simp only [cond_true,show ((0:Int)).toNat=0 from rfl,p3g]
      rw [y4y (n:=(t0u s 0:Int)) (by omega) (by have:=p1s s 0; omega),o1f,o1g]
      by_cases h3:t0u s 0=3
      · rw [decide_eq_true h3,t5k _ (by omega)]
        simp only [cond_true,zOb]
        rw [r1q (u7r hin).1 (by omega)]
        simp only [zOb]
        have hf:=(u7r hin).2
        have hg:=(u7r hin).1
        unfold inT at hg
        have:=(u7l (u2c s (1,false)).2 (k:=1) (by omega)).2
        simp only at hf
        have hk:=u8i ((t0u s 0:Int),u5c,(u2c s (1,false)).1,(r7y s (u2c s (1,false)).2).1,u2z) (by rw [q1g]; simp only [q33,q32]; omega)
        rw [show ((0:Int),(0:Int),(0:Int),(0:Int),([] :List t3u),([] :List WrT),false,(⟨#[]⟩:ByteArray))=u5c from rfl]
        rw [show (([] :List u1v),([] :List u0f),([] :List u0f),(0:Int),(0:Int))=u2z from rfl]
        rw [hk]
        simp only [zOb]
        refine q3k hu (b:=false) fun r h1 h2=> ?_
        have:=s64 h1
        rw [←h2] at this
        unfold t3p at this
        rw [if_pos h3] at this
        rw [h3]
        exact ⟨(Prod.mk.inj this).1,rfl⟩
      · rw [decide_eq_false h3]
        by_cases h4:t0u s 0=4
        · rw [decide_eq_true h4,p1p (by omega) hin]
          simp only [cond_true,cond_false,zOb]
          generalize hy:(if (t5g p3s s (1,false)).2.2=true then (u2z,(0:Int),false) else ((t5g p3s s (1,false)).1,(t5g p3s s (1,false)).2.1,true))=y
          have hyw:p6z.wt y.1≤30000:=by
            rw [←hy]
            split
            · rw [q32]; omega
            · exact p19 p3s hs (by omega)
          have hk:=u8i ((t0u s 0:Int),u5c,emp,false,y.1) (by rw [q1g]; simp only [q33]; simp only [emp,ByteArray.size]; simp; omega)
          rw [show ((0:Int),(0:Int),(0:Int),(0:Int),([] :List t3u),([] :List WrT),false,(⟨#[]⟩:ByteArray))=u5c from rfl]
          rw [show (([] :List u1v),([] :List u0f),([] :List u0f),(0:Int),(0:Int))=u2z from rfl]
          rw [show ((⟨#[]⟩:ByteArray))=emp from rfl]
          rw [hk]
          simp only [zOb]
          refine q3k hu (b:=false) fun r h1 h2=> ?_
          have:=s64 h1
          rw [←h2] at this
          unfold t3p at this
          rw [if_neg h3,if_pos h4] at this
          have hl:=q95 p14 p5v (Prod.mk.inj this).2
          rw [hl,if_neg (by rw [(Prod.mk.inj this).2]; simp)] at hy
          rw [h4,←hy]
          exact ⟨(Prod.mk.inj this).1,rfl⟩
        · rw [decide_eq_false h4,q87 (by omega) hin]
          simp only [cond_true,cond_false,zOb]
          generalize hy:(if (u7p 10 s (1,false)).2.2=true then (u5c,(0:Int),false) else ((u7p 10 s (1,false)).1,(u7p 10 s (1,false)).2.1,true))=y
          have hyw:u0z.wt y.1≤30000:=by
            rw [←hy]
            split
            · rw [q33]; omega
            · exact p30 10 hs (by omega)
          have hk:=u8i ((t0u s 0:Int),y.1,emp,false,u2z) (by rw [q1g]; simp only [q32]; simp only [emp,ByteArray.size]; simp; omega)
          rw [show ((0:Int),(0:Int),(0:Int),(0:Int),([] :List t3u),([] :List WrT),false,(⟨#[]⟩:ByteArray))=u5c from rfl]
          rw [show (([] :List u1v),([] :List u0f),([] :List u0f),(0:Int),(0:Int))=u2z from rfl]
          rw [show ((⟨#[]⟩:ByteArray))=emp from rfl]
          rw [hk]
          simp only [zOb]
          refine q3k hu (b:=false) fun r h1 h2=> ?_
          have:=s64 h1
          rw [←h2] at this
          unfold t3p at this
          rw [if_neg h3,if_neg h4] at this
          have hl:=q5w (m:=9) (m' :=10) (by omega) (by omega) (Prod.mk.inj this).2
          rw [hl,if_neg (by rw [(Prod.mk.inj this).2]; simp)] at hy
          rw [←hy]
          exact ⟨(Prod.mk.inj this).1,rfl⟩
end
section
theorem r8s (l:List u0f) (c:Int) (hl:l.length≤8388608):u1g (l,c)=some (l.filter fun x=> !decide (x.1=c)):=by
  have hq:∀x∈l,u4s (x,c)=some (decide (x.1=c)):=fun x _=>by rw [r45]; rfl
  have L:=Q.first (T:=u0z) (c:=Int) (W:=u01) (q:=u4s) (p:=fun x:u0f=>decide (x.1=c)) (fun x=>u59 x) l c (by omega) hq
  rw [u6p]; unfold u2s
  simp only [u7n,u21,L,zOb]
  by_cases hk:u0m (fun x:u0f=>decide (x.1=c)) l<l.length
  · obtain ⟨a,e1,e2,e3⟩:=Q.delete (T:=u0z) (c:=Int) (W:=u0v) (q:=u4s) (p:=fun x:u0f=>decide (x.1=c)) (fun x=>u56 x) l c (by omega) hq hk
    have hn:=t28 (fun x:u0f=> !decide (x.1=c)) l
    obtain ⟨n,hne⟩:∃n,n=(l.filter fun x:u0f=> !decide (x.1=c)).length:=⟨_,rfl⟩
    rw [←hne] at e1 e3 hn
    have c1:decide (((u0m (fun x:u0f=>decide (x.1=c)) l:Nat):Int)= -1)=false:=by simp
    have c2:decide ((0:Int)≤(n:Int))=true:=by simp
    have c3:decide ((n:Int)≤(a.length:Int))=true:=by simp; omega
    have c4:decide ((a.length:Int)≤(a.length:Int))=true:=by simp
    have hw:=y7l (i:=u0m (fun x:u0f=>decide (x.1=c)) l) (by omega)
    simp only [if_pos hk,zOb,c1,cond_false,hw,e1,c2,c3,c4,Bool.and_self,cond_true,zTn,decide_true,Int.le_refl]
    have c5:decide ((n:Int)≤((a.take n++List.replicate (a.length - n) u0z.zero++a.drop (n+(a.length - n))).length:Int))=true:=by simp; omega
    have c6:(a.take n++List.replicate (a.length - n) u0z.zero++a.drop (n+(a.length - n))).take (n - (0:Int).toNat)=l.filter fun x:u0f=> !decide (x.1=c):=by
      rw [List.append_assoc,Int.toNat_zero,Nat.sub_zero,q02 a n (by omega),e3]
    simp only [c5,Bool.and_self,cond_true,c6]
  · have hall:(l.filter fun x:u0f=> !decide (x.1=c))=l:=by
      rw [List.filter_eq_self]
      intro x hx
      obtain ⟨i,hi,rfl⟩:=List.getElem_of_mem hx
      rw [u5u (p:=fun x:u0f=>decide (x.1=c)) hi (by omega)]
      rfl
    simp only [if_neg hk,zOb,decide_true,cond_true,hall]
theorem r3o (b:u0i) (n:ByteArray) (hb:fewB b):t4x (b,n)=some (t81 b n):=by
  obtain ⟨hb1,hb2,hb3⟩:=hb
  have L:=t52 u69 b.2.2.1 (fun (a:List u0f) i=>(n,b,u2z,((b.1,b.2.1,a,b.2.2.2):u0i),i)) (fun x:u0f=> !z7o x.2.2.2.2.2.2.2 n) (fun x=>x) (fun a=> .inl (u2z,((b.1,b.2.1,a,b.2.2.2):u0i))) (by have:=hb3.1; omega)
    (fun a _=>by rw [s3x]; simp only [t1g,u0b,Nat.lt_irrefl,decide_false,cond_false])
    (fun i hi a ha=>by
      have hm:=List.getElem_mem hi
      have:=hb3.1
      rw [s3x]; simp only [t1g,u0b,hi,decide_true,cond_true,y7t hi,zTn,y8k (t:=u0z) hi,y7l (show i<4611686018427387904 by omega)]
      rw [u6x _ (hb3.2 _ hm)]
      simp only [zOb]
      rw [p3i (by simp; omega)])
  rw [List.map_id'] at L
  rw [r9c]; unfold s7v
  simp only
  rw [t30 b ⟨hb1,hb2,hb3⟩]
  simp only [zOb]
  have L' :u69 (n,b,(([], [], [],0,0):u0i),((b.1,b.2.1, [],b.2.2.2):u0i),0)=_:=L
  rw [L']
  rfl
theorem p31 (p q:u0f→Bool) (l:List u0f) (d:u0f) (hl:l.length≤4194304):(l.filter p).length+ [d].length≤1099511627776∧(l.filter p++ [d]).length+(l.filter q).length≤1099511627776∧(l.filter p++ [d]).length≤8000000:=by
  have f1:=t28 p l
  have f2:=t28 q l
  rw [List.length_append,List.length_singleton]
  omega
theorem r74 (b z:u0i) (t d:u0f) (n:ByteArray) (hb:fewB b):u3r (n,b,t,z,((b.1,b.2.1, [],b.2.2.2):u0i),d,0)=
    some (.inl (n,b,t,z,((b.1,b.2.1,b.2.2.1.filter (fun x=>y3c x.2.2.2.2.2.2.2 n),b.2.2.2):u0i),d)):=by
  have hl:=hb.2.2.1
  have L:=t52 u3r b.2.2.1 (fun (a:List u0f) i=>(n,b,t,z,((b.1,b.2.1,a,b.2.2.2):u0i),d,i)) (fun x:u0f=>y3c x.2.2.2.2.2.2.2 n) (fun x=>x) (fun a=> .inl (n,b,t,z,((b.1,b.2.1,a,b.2.2.2):u0i),d)) (by omega)
    (fun a _=>by rw [t8u]; simp only [u74,u0b,Nat.lt_irrefl,decide_false,cond_false])
    (fun i hi a ha=>by
      have hm:=List.getElem_mem hi
      rw [t8u]; simp only [u74,u0b,hi,decide_true,cond_true,y7t hi,zTn,y8k (t:=u0z) hi,y7l (show i<4611686018427387904 by omega)]
      rw [u6x _ (hb.2.2.2 _ hm)]
      simp only [zOb]
      rw [p3i (by simp; omega)])
  rw [List.map_id'] at L
  exact L
theorem r4q (b z:u0i) (t:u0f) (n:ByteArray) (hb:fewB b) (pre:List u0f) (hp:pre.length≤8000000):u3f (n,b,t,z,((b.1,b.2.1,pre,b.2.2.2):u0i),0)=
    some (.inl (t,z,((b.1,b.2.1,pre++b.2.2.1.filter (fun x=> !y3c x.2.2.2.2.2.2.2 n),b.2.2.2):u0i))):=by
  have hl:=hb.2.2.1
  have L:=t52 u3f b.2.2.1 (fun (a:List u0f) i=>(n,b,t,z,((b.1,b.2.1,pre++a,b.2.2.2):u0i),i)) (fun x:u0f=> !y3c x.2.2.2.2.2.2.2 n) (fun x=>x) (fun a=> .inl (t,z,((b.1,b.2.1,pre++a,b.2.2.2):u0i))) (by omega)
    (fun a _=>by rw [t7p]; simp only [u6h,u0b,Nat.lt_irrefl,decide_false,cond_false])
    (fun i hi a ha=>by
      have hm:=List.getElem_mem hi
      rw [t7p]; simp only [u6h,u0b,hi,decide_true,cond_true,y7t hi,zTn,y8k (t:=u0z) hi,y7l (show i<4611686018427387904 by omega)]
      rw [u6x _ (hb.2.2.2 _ hm)]
      simp only [zOb]
      rw [p3i (by simp; omega),List.append_assoc])
  rw [List.map_id',List.append_nil] at L
  exact L
theorem s7h (b:u0i) (t:u0f) (n:ByteArray) (hb:fewB b) (ht:r7j t) (hi:p3w t.1):u3u (b,t,n)=some (u1i b t n):=by
  have hl:=hb.2.2.1
  have pl:=fun d=>p31 (fun x:u0f=>y3c x.2.2.2.2.2.2.2 n) (fun x:u0f=> !y3c x.2.2.2.2.2.2.2 n) b.2.2.1 d hl
  rw [r5c]; unfold s2h
  simp only
  rw [t30 b hb]
  simp only [zOb]
  rw [u6x t ht]
  simp only [zOb]
  rw [r2o t b.2.1 ht hb.2.1]
  simp only [zOb]
  rw [r74 _ _ _ _ _ hb,r74 _ _ _ _ _ hb]
  simp only [zOb]
  rw [p3i (pl _).1,p3i (pl _).1,r4q _ _ _ _ hb _ (pl _).2.2,r4q _ _ _ _ hb _ (pl _).2.2]
  simp only [zOb,t8x hi]
  have key:∀(o:Bool),(bif decide (t.1≥b.2.2.2.2) then some ((b.1,b.2.1,(b.2.2.1.filter fun x=>y3c x.2.2.2.2.2.2.2 n)++ [((t.1,(2:Int),t.2.2.1,t.2.2.2.1,t.2.2.2.2.1,t.2.2.2.2.2.1,o,n):u0f)] ++(b.2.2.1.filter fun x=> !y3c x.2.2.2.2.2.2.2 n),b.2.2.2.1,t.1+1):u0i)
      else some (b.1,b.2.1,(b.2.2.1.filter fun x=>y3c x.2.2.2.2.2.2.2 n)++ [((t.1,(2:Int),t.2.2.1,t.2.2.2.1,t.2.2.2.2.1,t.2.2.2.2.2.1,o,n):u0f)] ++(b.2.2.1.filter fun x=> !y3c x.2.2.2.2.2.2.2 n),b.2.2.2))=
      some (b.1,b.2.1,(b.2.2.1.filter fun x=>y3c x.2.2.2.2.2.2.2 n)++ [((t.1,(2:Int),t.2.2.1,t.2.2.2.1,t.2.2.2.2.1,t.2.2.2.2.2.1,o,n):u0f)] ++(b.2.2.1.filter fun x=> !y3c x.2.2.2.2.2.2.2 n),b.2.2.2.1,u09 b.2.2.2.2 t.1):=fun o=>by
    unfold u09
    by_cases h:t.1<b.2.2.2.2
    · rw [decide_eq_false (by omega),if_pos h]; rfl
    · rw [decide_eq_true (by omega),if_neg h]; rfl
  unfold u1i u3d
  cases t.2.2.2.2.2.2.1
  · exact key _
  · exact key _
end
section
def SameLog (d e:u0j):Prop:=u26 e=true∧u0u e=u0u d∧u0c e 0=u0c d 0∧u0c e 1=u0c d 1
theorem u5v {a:Int} (ha:a=0∨a=1):u0e a=1+a*48∧(t91 a:Int)=2+a*48:=by
  have hfa:u0e a=1+a*48:=by unfold u0e; rw [if_pos (p3p.mpr ha)]
  refine ⟨hfa,?_⟩
  unfold t91
  rcases ha with rfl | rfl<;>omega
theorem r1v {e:u0j} (h1:u1h e=true) (h2:e.1.length=97) (h3:e.2= []) (h4:(u0c e 0).2.2=true) (h5:(u0c e 1).2.2=true):u26 e=true:=by
  unfold u26
  rw [h1,h4,h5]
  simp [h2,h3]
theorem t8y {d e:u0j} (h:u0h e 0=u0h d 0):u0u e=u0u d:=by
  unfold u0u u3m
  rw [h]
theorem p5r {d e:u0j} (hl:u26 d=true) {a:Int} (ha:a=0∨a=1) (h1:u1h e=true) (h2:e.1.length=97) (h3:e.2= [])
    (h4:∀k:Nat,k<97→ ¬(t91 a≤k∧k<t91 a+47)→u0h e (k:Int)=u0h d (k:Int))
    (h5:∀j:Nat,(j:Int)<(u0c d a).2.1→j<3008→s1p (s1m e a) j=s1p (s1m d a) j):SameLog d e:=by
  obtain ⟨d1,d2,d3,d4,d5⟩:=u4j hl
  have fd:=s1o d1 d2
  have fe:=s1o h1 h2
  obtain ⟨f1,f2⟩:=u5v ha
  have hact:u0u e=u0u d:=t8y (h4 0 (by omega) (by omega))
  have hcnt:u03 e a=u03 d a:=by
    unfold u03 u3m
    have hk:u0e a=(((u0e a).toNat:Nat):Int):=by rcases ha with rfl | rfl<;>omega
    have:=h4 (u0e a).toNat (by rcases ha with rfl | rfl<;>omega) (by rcases ha with rfl | rfl<;>omega)
    rw [←hk] at this
    rw [this]
  have hra:u0c e a=u0c d a:=by
    have hda:=u6t fd ha
    have hok:(u0c d a).2.2=true:=by rcases ha with rfl | rfl<;>assumption
    rw [u6t fe ha,hcnt]
    obtain ⟨l,E,r⟩:∃l E,u0c d a=(l,E,true):=⟨_,_,by rw [←hok]⟩
    rw [r] at h5 ⊢
    rw [r] at hda
    have hsz:(s1m e a).size=(s1m d a).size:=by rw [(u4r fe ha).2.1,(u4r fd ha).2.1]
    have hat:=r6b (s1m d a) (u03 d a).toNat 0 [] (by simp)
    rw [←hda] at hat
    refine s5n hsz hda.symm (fun q hq=>h5 q hq ?_)
    have:=(u4r fd ha).2.1
    simp only at hat
    omega
  have hro:u0c e (1 - a)=u0c d (1 - a):=by
    refine u7t (fun q hq=> ?_)
    have ho:=(u5v (a:=1 - a) (by omega)).1
    obtain ⟨j,hj⟩:∃j:Nat,u0e (1 - a)+(q:Int)=(j:Int):=⟨(u0e (1 - a)+(q:Int)).toNat,by rcases ha with rfl | rfl<;>omega⟩
    rw [hj]
    exact h4 j (by rcases ha with rfl | rfl<;>omega) (by rcases ha with rfl | rfl<;>omega)
  have both:u0c e 0=u0c d 0∧u0c e 1=u0c d 1:=by
    rcases ha with rfl | rfl
    · exact ⟨hra,by simpa using hro⟩
    · exact ⟨by simpa using hro,hra⟩
  exact ⟨r1v h1 h2 h3 (by rw [both.1]; exact d4) (by rw [both.2]; exact d5),hact,both.1,both.2⟩
theorem q2f {d x:u0j} {a:Int} {t:ByteArray} (h:t26 d a t=some x):∃E:Nat,(u0c d a).2.1=(E:Int)∧E+(u0s t).size≤3008∧q39 ((u0s t).size+1) d (t91 a+E / 64) (E % 64) (u0s t)=some x∧t.size≠0∧t.size≤3008∧u03 d a<255:=by
  have hat:=s93 d a
  unfold t26 at h
  split at h
  · cases h
  · rename_i hc
    simp only [not_or] at hc
    unfold u4h at h
    split at h
    · exact ⟨(u0c d a).2.1.toNat,by omega,by omega,h,hc.2.1,by omega,by omega⟩
    · cases h
theorem q7z {d:u0j} (h:d.2= []) {k:Nat} (hk:k<d.1.length):u0h d (k:Int)=(rdL Ty.str d.1 k,true):=by
  unfold u0h
  rw [if_pos (by omega),h,zTn]
  rfl
theorem SameLog.refl {d:u0j} (h:u26 d=true):SameLog d d:=⟨h,rfl,rfl,rfl⟩
theorem SameLog.trans {d e f:u0j} (h1:SameLog d e) (h2:SameLog e f):SameLog d f:=⟨h2.1,h2.2.1.trans h1.2.1,h2.2.2.1.trans h1.2.2.1,h2.2.2.2.trans h1.2.2.2⟩
end
section
theorem q7i {d x:u0j} {a:Int} {t:ByteArray} (hl:u26 d=true) (ha:a=0∨a=1) (h:t26 d a t=some x):
    SameLog d (flush x)∧ ∀E:Nat,(u0c d a).2.1=(E:Int)→ ∀q,q<(u0s t).size→s1p (s1m (flush x) a) (E+q)=s1p (u0s t) q:=by
  obtain ⟨d1,d2,d3,d4,d5⟩:=u4j hl
  obtain ⟨_,x1,x2,_⟩:=s1n h
  obtain ⟨E,e1,e2,e3,_⟩:=q2f h
  obtain ⟨c1,c2,c3⟩:=t4t x1
  have hxl:x.1.length=97:=by rw [x2]; exact d2
  have hcl:(flush x).1.length=97:=by rw [c3]; exact hxl
  obtain ⟨f1,f2⟩:=u5v ha
  have fd:=s1o d1 d2
  have fe:=s1o c1 hcl
  have hb97:t91 a+47≤97:=by rcases ha with rfl | rfl<;>omega
  have hbytes:=fun j i (hi:i<64) (hj:j<97)=>q1o e3 (by omega) (Nat.mod_lt _ (by omega)) j i hi (by omega)
  refine ⟨p5r hl ha c1 hcl c2 (fun k hk hn=> ?_) (fun j hj hj2=> ?_),fun E' hE' q hq=> ?_⟩
  · rw [u8y x1]
    exact s67 e3 (Nat.mod_lt _ (by omega)) k (fun z=>hn ⟨by omega,by omega⟩)
  · rw [(u4r fe ha).2.2 j hj2,(u4r fd ha).2.2 j hj2,u8y x1,hbytes _ _ (Nat.mod_lt _ (by omega)) (by omega),if_neg (by omega)]
  · have hEE:E' =E:=by omega
    subst hEE
    rw [(u4r fe ha).2.2 (E' +q) (by omega),u8y x1,hbytes _ _ (Nat.mod_lt _ (by omega)) (by omega),if_pos (by omega)]
    congr 1
    omega
theorem r2t (t:ByteArray):r41 t=((s1p t 0).toNat:Int):=rfl
theorem r6j (n:Int) (r:ByteArray) (h0:0≤n) (h1:n<256):r41 (t3w n++r)=n:=by
  rw [r2t,u6q,if_pos (by rw [u2t]; omega)]
  unfold t3w s1p
  rw [t7l]
  have w:IntKind.u8.wrap n=n:=by rw [p21]; omega
  rw [w]
  simp only [u8s,List.map_cons,List.map_nil,List.getD_cons_zero]
  rw [UInt8.toNat_ofNat']
  omega
theorem p2k {d y:u0j} {a:Int} {t:ByteArray} (hl:u26 d=true) (ha:a=0∨a=1) (h:q1b d a t=some y):
    u26 y=true∧u0u y=u0u d∧u0c y (1 - a)=u0c d (1 - a)∧u03 y a=u03 d a+1∧u0c y a=((u0c d a).1++ [t],(u0c d a).2.1+((u0s t).size:Int),true):=by
  obtain ⟨d1,d2,d3,d4,d5⟩:=u4j hl
  obtain ⟨x,hx,x1,y1,y2,y3,hy⟩:=p2l d2 h
  obtain ⟨s1,s2⟩:=q7i hl ha hx
  obtain ⟨E,e1,e2,e3,e4,e5,e6⟩:=q2f hx
  obtain ⟨c1,c2,c3⟩:=t4t x1
  have hxl:(flush x).1.length=97:=(u4j s1.1).2.1
  obtain ⟨f1,f2⟩:=u5v ha
  have hcl:=r2v d a
  have hc1:s2q d a=u03 d a+1:=by unfold s2q; exact y4y (by omega) (by omega)
  have hob:=s9z (s:=u0e a) c1 c2 (by omega) (by rw [hxl]; rcases ha with rfl | rfl<;>omega) (u2t (s2q d a))
  have hcz:s5o (flush x) a (s2q d a)=some ((flush x).1, [(u0e a,t3w (s2q d a)++(rdL Ty.str (flush x).1 (u0e a).toNat).extract 1 64)]):=hob
  have hz1:=(u47 hob).2.1
  rw [hcz] at hy
  simp only [orD] at hy
  have hrd:∀j:Int,u0h y j=if j=u0e a then (t3w (s2q d a)++(rdL Ty.str (flush x).1 (u0e a).toNat).extract 1 64,true) else u0h (flush x) j:=fun j=>by
    rw [hy,u8y hz1]
    by_cases e:j=u0e a
    · rw [if_pos e,e]
      unfold u0h
      rw [if_pos (by show _∧_<((flush x).1.length:Int); rw [hxl]; rcases ha with rfl | rfl<;>omega)]
      simp [u82]
    · rw [if_neg e]
      have hne: ¬u0e a=j:=fun z=>e z.symm
      unfold u0h
      simp only [u82,List.foldl_cons,List.foldl_nil,hne,if_false,c2]
  have fy:=s1o y1 y3
  have fx:=s1o c1 hxl
  have fd:=s1o d1 d2
  have hcnt:u03 y a=u03 d a+1:=by
    unfold u03 at hc1 ⊢
    rw [p3p.mpr ha,if_pos rfl] at*
    unfold u3m at*
    rw [hrd,if_pos rfl]
    simp only
    have:u03 d a=r41 (u0h d (u0e a)).1:=by unfold u03 u3m; rw [p3p.mpr ha,if_pos rfl]
    rw [hc1]
    exact r6j _ _ (by omega) (by omega)
  have hareaT:∀j,j<3008→s1p (s1m y a) j=s1p (s1m (flush x) a) j:=fun j hj=>by
    rw [(u4r fy ha).2.2 j hj,(u4r fx ha).2.2 j hj,hrd,if_neg (by rcases ha with rfl | rfl<;>omega)]
  have hother:u0c y (1 - a)=u0c (flush x) (1 - a):=by
    refine u7t (fun q hq=> ?_)
    have ho:=(u5v (a:=1 - a) (by omega)).1
    rw [hrd,if_neg (by rcases ha with rfl | rfl<;>omega)]
  have hother2:u0c (flush x) (1 - a)=u0c d (1 - a):=by
    rcases ha with rfl | rfl
    · exact s1.2.2.2
    · exact s1.2.2.1
  have hact:u0u y=u0u d:=by
    rw [←s1.2.1]
    exact t8y (by rw [hrd,if_neg (by rcases ha with rfl | rfl<;>omega)])
  have hok:(u0c d a).2.2=true:=by rcases ha with rfl | rfl<;>assumption
  have hda:u42 (s1m d a) (u03 d a).toNat 0 [] =((u0c d a).1,(E:Int),true):=by
    rw [←u6t fd ha,←e1,←hok]
  have hfx:u42 (s1m (flush x) a) (u03 (flush x) a).toNat 0 [] =((u0c d a).1,(E:Int),true):=by
    have:u0c (flush x) a=u0c d a:=by
      rcases ha with rfl | rfl
      · exact s1.2.2.1
      · exact s1.2.2.2
    rw [←u6t fx ha,this,←e1,←hok]
  have hcx:u03 (flush x) a=u03 d a:=by
    unfold u03 u3m
    have hk:u0e a=(((u0e a).toNat:Nat):Int):=by rcases ha with rfl | rfl<;>omega
    have h2:=s67 e3 (Nat.mod_lt _ (by omega)) (u0e a).toNat (by rcases ha with rfl | rfl<;>omega)
    rw [←hk] at h2
    rw [u8y x1,h2]
  have hsz:(s1m y a).size=(s1m (flush x) a).size:=by rw [(u4r fy ha).2.1,(u4r fx ha).2.1]
  have hra:u0c y a=((u0c d a).1++ [t],(u0c d a).2.1+((u0s t).size:Int),true):=by
    rw [u6t fy ha,hcnt,e1]
    have hm:(u03 d a+1).toNat=(u03 d a).toNat+1:=by omega
    rw [hm]
    have hloc:=s5n hsz hfx (fun q hq=>hareaT q (by omega))
    rw [hcx] at hloc
    have hrs:=r3h (T:=s1m y a) (E:=E) e4 e5 (by rw [(u4r fy ha).2.1]; exact e2) (fun q hq=>by rw [hareaT _ (by omega)]; exact s2 E e1 q hq)
    have:=r6c hloc hrs e4
    rw [this]
    congr 2
  have hlog:u26 y=true:=by
    rw [hother2] at hother
    refine r1v y1 y3 y2 ?_ ?_
    · rcases ha with rfl | rfl
      · rw [hra]
      · have:u0c y 0=u0c d 0:=by simpa using hother
        rw [this]; exact d4
    · rcases ha with rfl | rfl
      · have:u0c y 1=u0c d 1:=by simpa using hother
        rw [this]; exact d5
      · rw [hra]
  exact ⟨hlog,hact,hother.trans hother2,hcnt,hra⟩
end
section
theorem p2n {d:u0j} (hk:u1h d=true) {k:Nat} (hlt:k<d.1.length):(u0h d (k:Int)).2=true∧(u0h d (k:Int)).1.size=64:=by
  obtain ⟨k1,k2,k3,k4⟩:=q03.mp hk
  have hc:(0:Int)≤(k:Int)∧(k:Int)<(d.1.length:Int):=by omega
  unfold u0h
  rw [if_pos hc]
  refine ⟨rfl,?_⟩
  cases hp:u82 d.2 (k:Int) with
  | none=>
    have e:rdL Ty.str d.1 k=d.1[k] :=y8k (t:=Ty.str) hlt
    simp only [Option.getD_none,zTn]
    rw [e]
    exact k3 _ (List.getElem_mem hlt)
  | some s=>
    obtain ⟨p,hp1,hp2⟩:=s9y hp
    simp only [Option.getD_some]
    rw [←hp2]
    exact (k4 p hp1).2
theorem q6m:∀(f:Nat) {d:u0j} {k at_:Nat} {t:ByteArray},u1h d=true→at_<64→k*64+at_+t.size≤d.1.length*64→d.2.length+(at_+t.size+63) / 64≤60→ ∃x,q39 f d k at_ t=some x
  | 0,d,k,at_,t,_,_,_,_=>⟨d,rfl⟩
  | f+1,d,k,at_,t,hk,hat,h1,h2=>by
    rw [q39]
    by_cases hz:t.size=0
    · exact ⟨d,by rw [if_pos hz]⟩
    · have hr:=p2n hk (k:=k) (by omega)
      rw [if_neg hz,if_pos hr]
      have hsz:((u0h d (k:Int)).1.extract 0 at_++t.extract 0 (min t.size (64 - at_))++(u0h d (k:Int)).1.extract (at_+min t.size (64 - at_)) 64).size=64:=by
        simp only [ByteArray.size_append,ByteArray.size_extract,hr.2]; omega
      have hin:s80 (k:Int) 0 ((d.1.length:Int) - 1)=true:=by simp [s80]; omega
      have hok:u1h (d.1,d.2++ [((k:Int),(u0h d (k:Int)).1.extract 0 at_++t.extract 0 (min t.size (64 - at_))++(u0h d (k:Int)).1.extract (at_+min t.size (64 - at_)) 64)])=true:=by
        rw [s9t,hk,hin,hsz]
        simp; omega
      have hw:u5k d (k:Int) ((u0h d (k:Int)).1.extract 0 at_++t.extract 0 (min t.size (64 - at_))++(u0h d (k:Int)).1.extract (at_+min t.size (64 - at_)) 64)=some (d.1,d.2++ [((k:Int),(u0h d (k:Int)).1.extract 0 at_++t.extract 0 (min t.size (64 - at_))++(u0h d (k:Int)).1.extract (at_+min t.size (64 - at_)) 64)]):=by
        unfold u5k
        rw [if_pos hok]
      rw [hw]
      simp only [zOb]
      have hs2:(t.extract (min t.size (64 - at_)) t.size).size=t.size - min t.size (64 - at_):=by rw [ByteArray.size_extract]; omega
      refine q6m f hok (by omega) ?_ ?_
      · rw [hs2]; show _≤d.1.length*64; omega
      · rw [hs2]; simp only [List.length_append,List.length_singleton]; omega
theorem q9r {d:u0j} {a:Int} {t:ByteArray} (hl:u26 d=true) (ha:a=0∨a=1) (h0:t.size≠0) (h1:t.size≤3008) (h2:u03 d a<255) (h3:(u0c d a).2.1+((u0s t).size:Int)≤3008):∃x,t26 d a t=some x:=by
  obtain ⟨d1,d2,d3,d4,d5⟩:=u4j hl
  obtain ⟨f1,f2⟩:=u5v ha
  have hat:=s93 d a
  have hok:(u0c d a).2.2=true:=by rcases ha with rfl | rfl<;>assumption
  have hsp:=s6j t
  unfold t26
  rw [if_neg (by rw [hok]; simp only [Bool.true_eq_false,false_or]; omega)]
  unfold u4h
  have hc:(s80 (u0c d a).2.1 0 6400 && s80 (u0e a+1) 0 ((d.1.length:Int) - 1) && u1h d)=true:=by
    rw [d1,d2]
    simp only [s80,Bool.and_eq_true,decide_eq_true_eq,and_true]
    rcases ha with rfl | rfl<;>omega
  rw [if_pos hc]
  refine q6m _ d1 (Nat.mod_lt _ (by omega)) ?_ ?_
  · rw [d2]
    rcases ha with rfl | rfl<;>omega
  · rw [d3]
    simp only [List.length_nil]
    omega
theorem p38 {d:u0j} {a:Int} {t:ByteArray} (hl:u26 d=true) (ha:a=0∨a=1) (h0:t.size≠0) (h1:t.size≤3008) (h2:u03 d a<255) (h3:(u0c d a).2.1+((u0s t).size:Int)≤3008):∃y,q1b d a t=some y:=by
  obtain ⟨x,hx⟩:=q9r hl ha h0 h1 h2 h3
  unfold q1b
  rw [hx]
  exact ⟨_,rfl⟩
def p0i (l:List ByteArray):Nat:=(l.map fun t=>(u0s t).size).sum
theorem q5h {a:Int} (ha:a=0∨a=1):∀ {l:List ByteArray} {x:u0j},u26 x=true→u03 x a+(l.length:Int)≤255→(u0c x a).2.1+(p0i l:Int)≤3008→(∀t∈l,t.size≠0∧t.size≤3008)→
    ∃y,s8y a l x=some y∧u26 y=true∧u0u y=u0u x∧u0c y (1 - a)=u0c x (1 - a)∧(u0c y a).1=(u0c x a).1++l
  | [],x,hl,_,_,_=>⟨x,rfl,hl,rfl,rfl,by simp⟩
  | t::l,x,hl,hc,hr,ht=>by
    have h0:=ht t (List.mem_cons_self ..)
    have hs:p0i (t::l)=(u0s t).size+p0i l:=by simp [p0i]
    simp only [List.length_cons] at hc
    obtain ⟨y,hy⟩:=p38 hl ha h0.1 h0.2 (by omega) (by omega)
    obtain ⟨p1,p2,p3,p4,p5⟩:=p2k hl ha hy
    obtain ⟨z,z1,z2,z3,z4,z5⟩:=q5h ha (l:=l) p1 (by omega) (by rw [p5]; simp only; omega) (fun t h=>ht t (List.mem_cons_of_mem _ h))
    refine ⟨z,?_,z2,z3.trans p2,z4.trans p3,?_⟩
    · unfold s8y; rw [hy]; exact z1
    · rw [z5,p5]; simp
theorem q9t {d:u0j} (hl:u26 d=true) {a n:Int} (ha:a=0∨a=1):∃z r,s5o d a n=some z∧u1h z=true∧z.1=d.1∧z.2= [(u0e a,t3w n++r)] ∧ ∀j:Int,u0h (flush z) j=if j=u0e a then (t3w n++r,true) else u0h d j:=by
  obtain ⟨d1,d2,d3,d4,d5⟩:=u4j hl
  obtain ⟨f1,f2⟩:=u5v ha
  have hob:=s9z (s:=u0e a) d1 d3 (by omega) (by rw [d2]; rcases ha with rfl | rfl<;>omega) (u2t n)
  have hz1:=(u47 hob).2.1
  refine ⟨_,_,hob,hz1,rfl,rfl,fun j=> ?_⟩
  rw [u8y hz1]
  by_cases e:j=u0e a
  · rw [if_pos e,e]
    unfold u0h
    rw [if_pos (by show _∧_<(d.1.length:Int); rw [d2]; rcases ha with rfl | rfl<;>omega)]
    simp [u82]
  · rw [if_neg e]
    have hne: ¬u0e a=j:=fun z=>e z.symm
    unfold u0h
    simp only [u82,List.foldl_cons,List.foldl_nil,hne,if_false,d3]
theorem r7k {d:u0j} (hl:u26 d=true):u26 (t90 d)=true∧u0u (t90 d)=u0u d∧u0c (t90 d) (u0u d)=u0c d (u0u d)∧u0c (t90 d) (u31 d)=([],0,true)∧u03 (t90 d) (u31 d)=0:=by
  obtain ⟨a1,a2⟩:=t32 d
  obtain ⟨z,r,hz,hz1,hz2,hz3,hrd⟩:=q9t hl (n:=0) a1
  obtain ⟨d1,d2,d3,d4,d5⟩:=u4j hl
  have e:t90 d=flush z:=by unfold t90; rw [hz]; rfl
  obtain ⟨c1,c2,c3⟩:=t4t hz1
  have hlen:(flush z).1.length=97:=by rw [c3,hz2]; exact d2
  obtain ⟨f1,f2⟩:=u5v a1
  rw [e]
  have hcnt:u03 (flush z) (u31 d)=0:=by
    unfold u03 u3m
    rw [p3p.mpr a1,if_pos rfl,hrd,if_pos rfl]
    exact r6j 0 r (by omega) (by omega)
  have ho:u0c (flush z) (u31 d)=([],0,true):=by
    rw [u6t (s1o c1 hlen) a1,hcnt]
    rfl
  have hother:u0c (flush z) (1 - u31 d)=u0c d (1 - u31 d):=by
    refine u7t (fun q hq=> ?_)
    have ho:=(u5v (a:=1 - u31 d) (by omega)).1
    rw [hrd,if_neg (by omega)]
  rw [←a2] at hother
  have hact:u0u (flush z)=u0u d:=t8y (by rw [hrd,if_neg (by omega)])
  have hok:(u0c d (u0u d)).2.2=true:=by rcases t2a d with q | q<;>rw [q] <;>assumption
  refine ⟨r1v c1 hlen c2 ?_ ?_,hact,hother,ho,hcnt⟩
  · rcases a1 with q | q
    · rw [q] at ho; rw [ho]
    · have q2:u0u d=0:=by omega
      rw [q2] at hother hok
      rw [hother]; exact hok
  · rcases a1 with q | q
    · have q2:u0u d=1:=by omega
      rw [q2] at hother hok
      rw [hother]; exact hok
    · rw [q] at ho; rw [ho]
end
section
theorem q4v {z:u0j} {s:Int} {b:ByteArray} (hk:u1h z=true) (hz:z.2= [(s,b++(rdL Ty.str z.1 s.toNat).extract 1 64)]) (hb:b.size=1) (keep:List Int) (tear:Int):
    (q7l keep 0=false→t7w z keep tear=(z.1, []))∧(q7l keep 0=true→1≤t7m tear→t7w z keep tear=flush z)∧(t7w z keep tear=(z.1, [])∨t7w z keep tear=flush z):=by
  obtain ⟨k1,k2,k3,k4⟩:=q03.mp hk
  have hs:=(k4 (s,b++(rdL Ty.str z.1 s.toNat).extract 1 64) (by rw [hz]; simp)).1
  have hlt:s.toNat<z.1.length:=by
    have h1:0≤s:=hs.1
    have h2:s<(z.1.length:Int):=hs.2
    omega
  have ht:=(p4m tear).1
  have eo:rdL Ty.str z.1 s.toNat=z.1[s.toNat] :=y8k (t:=Ty.str) hlt
  have hold:(rdL Ty.str z.1 s.toNat).size=64:=by rw [eo]; exact k3 _ (List.getElem_mem hlt)
  have hlen:z.2.length=1:=by rw [hz]; rfl
  have h0:rdL p25 z.2 0=(s,b++(rdL Ty.str z.1 s.toNat).extract 1 64):=by rw [hz]; rfl
  have hc:t7w z keep tear=(r1i z keep (r1u keep 1) (t7m tear) z.1 0, []):=by
    unfold t7w
    rw [if_pos hk,hlen]
    rfl
  have hfl:flush z=(t7k z.1 (s,b++(rdL Ty.str z.1 s.toNat).extract 1 64), []):=by
    unfold flush
    rw [if_pos hk,hz]
    rfl
  have hno:q7l keep 0=false→t7w z keep tear=(z.1, []):=fun h=>by
    rw [hc]
    unfold r1i
    rw [h,if_neg (by simp)]
  have hyes:q7l keep 0=true→t7w z keep tear=(t7k z.1 (s,(b++(rdL Ty.str z.1 s.toNat).extract 1 64).extract 0 (t7m tear)++(rdL Ty.str z.1 s.toNat).extract (t7m tear) 64), []):=fun h=>by
    have hlast:r1u keep 1=0:=by
      show (if q7l keep 0 then ((0:Nat):Int) else r1u keep 0)=0
      rw [if_pos h]; rfl
    rw [hc]
    unfold r1i
    rw [h,if_pos rfl,hlast,if_pos (by rfl),h0]
    simp only [hold]
  have hfull:q7l keep 0=true→1≤t7m tear→t7w z keep tear=flush z:=fun h h1=>by
    rw [hyes h,hfl]
    congr 2
    congr 1
    apply r5q
    · simp only [ByteArray.size_append,ByteArray.size_extract,hold,hb]; omega
    · intro i hi
      simp only [ByteArray.size_append,ByteArray.size_extract,hold,hb] at hi
      rw [u6q,u3n,u3n]
      simp only [ByteArray.size_append,ByteArray.size_extract,hold,hb]
      by_cases h2:i<t7m tear
      · rw [if_pos (by omega),if_pos (by omega),Nat.zero_add]
      · rw [if_neg (by omega),if_pos (by omega),u6q,if_neg (by omega),u3n,hb,hold,if_pos (by omega)]
        congr 1
        omega
  refine ⟨hno,hfull,?_⟩
  cases h:q7l keep 0 with
  | false=>exact .inl (hno h)
  | true=>
    by_cases h1:1≤t7m tear
    · exact .inr (hfull h h1)
    · left
      have ht0:t7m tear=0:=by omega
      rw [hyes h,ht0]
      congr 1
      have e1:(b++(rdL Ty.str z.1 s.toNat).extract 1 64).extract 0 0++(rdL Ty.str z.1 s.toNat).extract 0 64=rdL Ty.str z.1 s.toNat:=by
        apply r5q
        · simp only [ByteArray.size_append,ByteArray.size_extract,hold,hb]; omega
        · intro i hi
          simp only [ByteArray.size_append,ByteArray.size_extract,hold,hb] at hi
          rw [u6q,if_neg (by rw [ByteArray.size_extract]; omega),u3n,hold,if_pos (by rw [ByteArray.size_extract]; omega)]
          congr 1
          rw [ByteArray.size_extract]
          omega
      rw [e1]
      unfold t7k
      show z.1.set s.toNat (rdL Ty.str z.1 s.toNat)=z.1
      rw [eo]
      exact List.set_getElem_self hlt
theorem q7e {d:u0j} (hl:u26 d=true) {a n:Int} (ha:a=0∨a=1) (keep:List Int) (tear:Int):∃z,s5o d a n=some z∧
    (q7l keep 0=false→t7w z keep tear=d)∧(q7l keep 0=true→1≤t7m tear→t7w z keep tear=flush z)∧(t7w z keep tear=d∨t7w z keep tear=flush z):=by
  obtain ⟨d1,d2,d3,d4,d5⟩:=u4j hl
  obtain ⟨f1,f2⟩:=u5v ha
  have hob:=s9z (s:=u0e a) d1 d3 (by omega) (by rw [d2]; rcases ha with rfl | rfl<;>omega) (u2t n)
  have hz1:=(u47 hob).2.1
  have hd:(d.1,([] :List (Int × ByteArray)))=d:=by rw [←d3]
  obtain ⟨c1,c2,c3⟩:=q4v hz1 rfl (u2t n) keep tear
  rw [hd] at c1 c3
  exact ⟨_,hob,c1,c2,c3⟩
theorem q01 {x:u0j} (hl:u26 x=true) (keep:List Int) (tear:Int):∃z,p0o x=some z∧u1h z=true∧(∀j:Int,u0h (flush z) j=if j=0 then (t3w (IntKind.i64.wrap (u3m x 0+1))++(rdL Ty.str x.1 0).extract 1 64,true) else u0h x j)∧(flush z).1.length=97∧
    (q7l keep 0=false→t7w z keep tear=x)∧(q7l keep 0=true→1≤t7m tear→t7w z keep tear=flush z)∧(t7w z keep tear=x∨t7w z keep tear=flush z):=by
  obtain ⟨d1,d2,d3,d4,d5⟩:=u4j hl
  have hob:=s9z (s:=0) d1 d3 (by omega) (by rw [d2]; omega) (u2t (IntKind.i64.wrap (u3m x 0+1)))
  have hz1:=(u47 hob).2.1
  have hd:(x.1,([] :List (Int × ByteArray)))=x:=by rw [←d3]
  obtain ⟨c1,c2,c3⟩:=q4v hz1 rfl (u2t (IntKind.i64.wrap (u3m x 0+1))) keep tear
  rw [hd] at c1 c3
  refine ⟨_,hob,hz1,fun j=> ?_,by rw [(t4t hz1).2.2]; exact d2,c1,c2,c3⟩
  rw [u8y hz1]
  by_cases e:j=0
  · rw [if_pos e,e]
    unfold u0h
    rw [if_pos (by show _∧_<(x.1.length:Int); rw [d2]; omega)]
    simp [u82]
  · rw [if_neg e]
    have hne: ¬(0:Int)=j:=fun z=>e z.symm
    unfold u0h
    simp only [u82,List.foldl_cons,List.foldl_nil,hne,if_false,d3]
theorem p4o {x z:u0j} (hl:u26 x=true) (hz1:u1h z=true) (hlen:(flush z).1.length=97) (hrd:∀j:Int,u0h (flush z) j=if j=0 then (t3w (IntKind.i64.wrap (u3m x 0+1))++(rdL Ty.str x.1 0).extract 1 64,true) else u0h x j):
    u26 (flush z)=true∧u0u (flush z)=1 - u0u x∧u0c (flush z) 0=u0c x 0∧u0c (flush z) 1=u0c x 1:=by
  obtain ⟨d1,d2,d3,d4,d5⟩:=u4j hl
  obtain ⟨c1,c2,c3⟩:=t4t hz1
  have r0:u0c (flush z) 0=u0c x 0:=u7t (fun q hq=>by
    have:=(u5v (a:=0) (.inl rfl)).1
    rw [hrd,if_neg (by omega)])
  have r1:u0c (flush z) 1=u0c x 1:=u7t (fun q hq=>by
    have:=(u5v (a:=1) (.inr rfl)).1
    rw [hrd,if_neg (by omega)])
  have hb:=q2g (u0h x 0).1
  refine ⟨r1v c1 hlen c2 (by rw [r0]; exact d4) (by rw [r1]; exact d5),?_,r0,r1⟩
  unfold u0u u3m
  rw [hrd,if_pos rfl]
  have w:IntKind.i64.wrap (u3m x 0+1)=u3m x 0+1:=by unfold u3m; exact y4y (by omega) (by omega)
  have e:r41 (t3w (IntKind.i64.wrap (u3m x 0+1))++(rdL Ty.str x.1 0).extract 1 64)=(u3m x 0+1) % 256:=by
    rw [w,r2t,u6q,if_pos (by rw [u2t]; omega)]
    unfold t3w s1p
    rw [t7l,p21]
    simp only [u8s,List.map_cons,List.map_nil,List.getD_cons_zero]
    rw [UInt8.toNat_ofNat']
    omega
  show Int.tmod (r41 _) 2=_
  rw [e]
  have hf:u3m x 0=r41 (u0h x 0).1:=rfl
  rw [hf]
  generalize r41 (u0h x 0).1=n at*
  obtain ⟨m,rfl⟩:∃m:Nat,n=(m:Int):=⟨n.toNat,by omega⟩
  have t1:Int.tmod (m:Int) 2=((m % 2:Nat):Int):=p2t m 2
  have t2:Int.tmod (((m:Int)+1) % 256) 2=((((m+1) % 256) % 2:Nat):Int):=by
    have:((m:Int)+1) % 256=(((m+1) % 256:Nat):Int):=by omega
    rw [this]
    exact p2t ((m+1) % 256) 2
  rw [t1,t2]
  omega
end
section
theorem q9o {d y:u0j} {t:ByteArray} (h:append_ d t=some y):u26 d=true∧u26 y=true∧u0k y=u0k d++ [t] :=by
  unfold append_ at h
  split at h
  · rename_i hl
    obtain ⟨p1,p2,p3,p4,p5⟩:=p2k hl (t2a d) h
    refine ⟨hl,p1,?_⟩
    unfold u0k
    rw [p2,p5]
  · cases h
theorem p3k {d:u0j} {l:List ByteArray} (hl:u26 d=true) (hn:l.length≤255) (hr:p0i l≤3008) (ht:∀t∈l,t.size≠0∧t.size≤3008):
    ∃x,s7d d l=some x∧u26 x=true∧u0u x=u0u d∧u0k x=u0k d∧(u0c x (u31 d)).1=l:=by
  obtain ⟨a1,a2⟩:=t32 d
  obtain ⟨f1,f2,f3,f4,f5⟩:=r7k hl
  obtain ⟨y,y1,y2,y3,y4,y5⟩:=q5h a1 (l:=l) f1 (by rw [f5]; omega) (by rw [f4]; simp only; omega) ht
  rw [←a2] at y4
  refine ⟨y,by unfold s7d; rw [hl,if_pos rfl]; exact y1,y2,y3.trans f2,?_,by rw [y5,f4]; simp⟩
  unfold u0k
  rw [y3.trans f2,y4,f3]
theorem q9x {d x:u0j} {l:List ByteArray} (hx:s7d d l=some x) (h1:u26 x=true) (h2:u0u x=u0u d) (h3:u0k x=u0k d) (h4:(u0c x (u31 d)).1=l) (hl:u26 d=true):
    ∃y,s6l d l=some y∧u26 y=true∧u0k y=l∧ ∀(step:Int) (keep:List Int) (tear:Int),
      (step=0→u26 (u8v d l step keep tear)=true∧u0k (u8v d l step keep tear)=u0k d)∧(step=1→u8v d l step keep tear=x)∧
      (step≠0→step≠1→step≠2→u8v d l step keep tear=y)∧
      (step=2→(q7l keep 0=false→u8v d l step keep tear=x)∧(q7l keep 0=true→1≤t7m tear→u8v d l step keep tear=y)∧(u8v d l step keep tear=x∨u8v d l step keep tear=y)):=by
  obtain ⟨a1,a2⟩:=t32 d
  obtain ⟨z,hz,hz1,hrd,hlen,_⟩:=q01 h1 [] 0
  obtain ⟨t1,t2,t3,t4⟩:=p4o h1 hz1 hlen hrd
  have hsw:s6l d l=some (flush z):=by unfold s6l; rw [hx]; simp only [Option.map_some,hz,orD]
  have htx:u0k (flush z)=l:=by
    have ho:u0u (flush z)=u31 d:=by rw [t2,h2]; rfl
    unfold u0k
    rw [ho,←h4]
    rcases a1 with q | q<;>rw [q]
    · rw [t3]
    · rw [t4]
  refine ⟨flush z,hsw,t1,htx,fun step keep tear=> ?_⟩
  obtain ⟨c,hc,c1,c2,c3⟩:=q7e hl (n:=0) a1 keep tear
  obtain ⟨z',hz',_,_,_,g1,g2,g3⟩:=q01 h1 keep tear
  rw [hz] at hz'
  cases hz'
  have e0:∀st,u8v d l st keep tear=(if st=0 then t7w c keep tear else if st=1 then x else if st=2 then t7w z keep tear else flush z):=fun st=>by
    unfold u8v
    rw [hx]
    simp only [hc,orD,hz]
  have hf0:flush c=t90 d:=by unfold t90; rw [hc]; rfl
  obtain ⟨f1,f2,f3,f4,f5⟩:=r7k hl
  have htx0:u0k (t90 d)=u0k d:=by unfold u0k; rw [f2,f3]
  refine ⟨fun s0=> ?_,fun s1=> ?_,fun n0 n1 n2=> ?_,fun s2=> ?_⟩
  · rw [e0,if_pos s0]
    rcases c3 with q | q
    · rw [q]; exact ⟨hl,rfl⟩
    · rw [q,hf0]; exact ⟨f1,htx0⟩
  · rw [e0,if_neg (by omega),if_pos s1]
  · rw [e0,if_neg n0,if_neg n1,if_neg n2]
  · have e:u8v d l step keep tear=t7w z keep tear:=by rw [e0,if_neg (by omega),if_neg (by omega),if_pos s2]
    rw [e]
    exact ⟨g1,g2,g3⟩
end
section
structure Like0 (b e:u0i):Prop where
  vs:b.1=u1d e.1 e.2.2.2.1
  past:b.2.1= []
  ready:b.2.2.1=e.2.2.1
  cs:b.2.2.2.1=e.2.2.2.1
theorem r7u (b:u0i):∀(o:List u0f),t3a b o≤b.2.2.2.1:=by
  intro o
  have key:∀(o:List u0f) (m:Int),o.foldl (fun m t=>if t.2.2.1<m then t.2.2.1 else m) m≤m:=by
    intro o
    induction o with
    | nil=>intro m; exact Int.le_refl _
    | cons t o ih=>
      intro m
      rw [List.foldl_cons]
      refine Int.le_trans (ih _) ?_
      split<;>omega
  exact key o _
theorem q96 (b:u0i):t3a b [] =b.2.2.2.1:=rfl
theorem Like0.tidy {b e:u0i} (h:Like0 b e) (he:BaseR e) (o:List u0f):Like0 b (u25 e o):=
  ⟨by rw [h.vs]; exact (r2c (p28.mp he.vs).2.1 (r7u e o)).symm,h.past,h.ready,h.cs⟩
theorem s65 {x:u0i} (hp:∀t∈x.2.1,t.2.2.2.1≤x.2.2.2.1):u25 x [] =(u1d x.1 x.2.2.2.1, [],x.2.2):=by
  unfold u25
  rw [q96]
  congr 2
  rw [List.filter_eq_nil_iff]
  intro t ht
  simp [hp t ht]
theorem Like0.self {b e:u0i} (h:Like0 b e) (he:BaseR e):u25 b [] =b:=by
  rw [s65 (by rw [h.past]; intro t ht; cases ht)]
  obtain ⟨b1,b2,b3⟩:=b
  have h1:=h.vs
  have h2:=h.past
  have h4:=h.cs
  simp only at h1 h2 h4
  rw [h4,h1,h2,r2c (p28.mp he.vs).2.1 (Int.le_refl _)]
theorem q9z {d d' x:u0f} (h1:d.1=d'.1) (h2:d.2.1=d'.2.1) (h3:d.2.2.1=d'.2.2.1) (h4:d.2.2.2.1=d'.2.2.2.1) (h5:d.2.2.2.2.2.1=d'.2.2.2.2.2.1):q5j d x=q5j d' x:=by
  have:ahead x d=ahead x d' :=by unfold ahead r6e q1a; rw [h1,h2,h3,h4,h5]
  unfold q5j; rw [this]
theorem Like0.vlen {b e:u0i} (h:Like0 b e):b.1.length≤e.1.length:=by rw [h.vs]; exact (u6u _ _).length_le
theorem r4t {b e:u0i} {t u:u0f} (h:Like0 b e) (he:BaseR e) (hb:BaseR b) (hc:e.2.2.2.1<9999) (hv:e.1.length≤100) (hu:TxnR u) (h9:u.1<9999) (hs:u.2.2.1≤e.2.2.2.1)
    (h1:u.1=t.1) (h3:u.2.2.1=t.2.2.1) (h5:u.2.2.2.2.2.1=t.2.2.2.2.2.1):
    t0t (u25 (u1b b u) [])=true∧Like0 (u25 (u1b b u) []) (u1b e t):=by
  have hR:BaseR (u1b b u):=q6h hb hu (by rw [h.cs]; exact hs) (by rw [h.cs]; exact hc) (by rw [h.past]; simp) (by have:=h.vlen; omega) (by rw [h.past]; intro x hx; cases hx) h9
  refine ⟨q0y.mpr (t3r hR _),?_⟩
  rw [s65 (fun x hx=>(hR.past x hx).2.2)]
  obtain ⟨v1,v2,v3⟩:=p28.mp he.vs
  refine ⟨?_,rfl,?_,?_⟩
  · show u1d (t33 b.1 u.2.2.2.2.2.1 (b.2.2.2.1+1)) (b.2.2.2.1+1)=u1d (t33 e.1 t.2.2.2.2.2.1 (e.2.2.2.1+1)) (e.2.2.2.1+1)
    rw [h.cs,h.vs,h5]
    exact p4n v2 (h5 ▸ q6n hu.ws) fun x hx=>by have:=he.vcs x hx; unfold vCs; omega
  · show (b.2.2.1.filter fun x=> !decide (x.1=u.1)).map (q5j (u8w b u))=(e.2.2.1.filter fun x=> !decide (x.1=t.1)).map (q5j (u8w e t))
    rw [h.ready,h1]
    refine List.map_congr_left fun x _=>q9z h1 rfl h3 ?_ h5
    show b.2.2.2.1+1=e.2.2.2.1+1
    rw [h.cs]
  · show b.2.2.2.1+1=e.2.2.2.1+1
    rw [h.cs]
theorem p5x {b:u0i} {n:ByteArray} :u08 b n<0↔ ∀x∈b.2.2.1,x.2.2.2.2.2.2.2≠n:=by
  unfold u08
  constructor
  · intro h x hx e
    obtain ⟨i,hi,rfl⟩:=List.getElem_of_mem hx
    obtain ⟨k,hk,hr⟩:=p0c b hi e
    unfold u08 at hr
    rw [hr] at h; omega
  · intro h
    split
    · rename_i q
      have:=u4i q
      exact absurd (y7f.mp this) (h _ (List.getElem_mem q))
    · omega
theorem t39 {b:u0i} {n:ByteArray} (h: ¬u08 b n<0):∃(k:Nat) (hk:k<b.2.2.1.length),u08 b n=(k:Int)∧b.2.2.1[k].2.2.2.2.2.2.2=n:=by
  unfold u08 at h ⊢
  split at h
  · rename_i q
    rw [if_pos q]
    exact ⟨_,q,rfl,y7f.mp (u4i q)⟩
  · omega
theorem s6g {b e:u0i} (h:b.2.2.1=e.2.2.1) (n:ByteArray):u08 b n=u08 e n:=by unfold u08; rw [h]
theorem q0g {b e:u0i} {t:u0f} (h:Like0 b e) (he:BaseR e) (hb:BaseR b) (hc:e.2.2.2.1<9999) (hv:e.1.length≤100) (ht:TxnR t) (h9:t.1<9999) (hs:t.2.2.1≤e.2.2.2.1):
    ∃x,u6c b (1,u8w e t,emp,false,u2z)=some x∧BaseR x∧Like0 x (u1b e t):=by
  have hD:=q7f (b:=e) ht hs hc
  obtain ⟨k1,k2⟩:=r4t (t:=t) (u:=u8w e t) h he hb hc hv hD h9 hs rfl rfl rfl
  refine ⟨_,?_,q0y.mp k1,k2⟩
  unfold u6c
  rw [if_pos ⟨q0y.mpr hb,p45.mpr (.thr _ hD rfl)⟩]
  have e1:u15 b (1,u8w e t,emp,false,u2z)=some (u1b b (u8w e t)):=by
    unfold u15
    rw [if_pos rfl,if_pos (by show e.2.2.2.1+1=b.2.2.2.1+1; rw [h.cs])]
  rw [e1]
  simp only
  rw [if_pos k1]
theorem q99 {b e:u0i} {n:ByteArray} {k:Nat} (h:Like0 b e) (he:BaseR e) (hb:BaseR b) (hc:e.2.2.2.1<9999) (hv:e.1.length≤100) (hn:u4d n=true) (hk:k<e.2.2.1.length) (hr:u08 e n=(k:Int)):
    ∃x,u6c b (3,u5c,n,true,u2z)=some x∧BaseR x∧Like0 x (u1b e e.2.2.1[k]):=by
  obtain ⟨q1,q2,q3⟩:=he.ready _ (List.getElem_mem hk)
  have h9:e.2.2.1[k].1<9999:=by
    have:=t6w.mp he.below _ (List.mem_append_right e.2.1 (List.getElem_mem hk))
    have:=he.next.2; omega
  obtain ⟨k1,k2⟩:=r4t (t:=e.2.2.1[k]) (u:=e.2.2.1[k]) h he hb hc hv q1 h9 q3 rfl rfl rfl
  refine ⟨_,?_,q0y.mp k1,k2⟩
  unfold u6c
  rw [if_pos ⟨q0y.mpr hb,p45.mpr (.fin _ _ hn)⟩]
  have e1:u15 b (3,u5c,n,true,u2z)=some (u1b b e.2.2.1[k]):=by
    unfold u15
    simp only
    rw [if_neg (by decide),if_neg (by decide),if_pos trivial,s6g h.ready,hr,if_neg (by omega),if_pos trivial,zTn]
    congr 2
    rw [h.ready]
    exact y8k (t:=u0z) hk
  rw [e1]
  simp only
  rw [if_pos k1]
theorem p2e {b e:u0i} {n:ByteArray} {k:Nat} (h:Like0 b e) (he:BaseR e) (hb:BaseR b) (hn:u4d n=true) (hk:k<e.2.2.1.length) (hr:u08 e n=(k:Int)):
    ∃x,u6c b (3,u5c,n,false,u2z)=some x∧BaseR x∧Like0 x (t81 e n):=by
  have hR:=r7m hb n
  refine ⟨u25 (t81 b n) [],?_,t3r hR _,?_⟩
  · unfold u6c
    rw [if_pos ⟨q0y.mpr hb,p45.mpr (.fin _ _ hn)⟩]
    have e1:u15 b (3,u5c,n,false,u2z)=some (t81 b n):=by
      unfold u15
      simp only
      rw [if_neg (by decide),if_neg (by decide),if_pos trivial,s6g h.ready,hr,if_neg (by omega),if_neg (by decide)]
    rw [e1]
    simp only
    rw [if_pos (q0y.mpr (t3r hR _))]
  · rw [s65 (fun x hx=>(hR.past x hx).2.2)]
    refine ⟨?_,rfl,?_,h.cs⟩
    · show u1d b.1 b.2.2.2.1=u1d e.1 e.2.2.2.1
      rw [h.cs,h.vs]
      exact r2c (p28.mp he.vs).2.1 (Int.le_refl _)
    · show b.2.2.1.filter _=e.2.2.1.filter _
      rw [h.ready]
theorem q50 {b e:u0i} {t:u0f} {n:ByteArray} (h:Like0 b e) (he:BaseR e) (hb:BaseR b) (ht:TxnR t) (h3:t.2.1≠3) (hn:u4d n=true) (hs:t.2.2.1≤e.2.2.2.1) (hl:e.2.2.1.length<3)
    (hx:∀x∈e.2.2.1,x.2.2.2.2.2.2.2≠n) (hid:∀x∈e.2.2.1,x.1≠t.1) (h9:t.1<9999):
    ∃x,u6c b (2,u3d e t n,emp,false,u2z)=some x∧BaseR x∧Like0 x (u1i e t n):=by
  have hD:=q3u (b:=e) ht h3 hn
  have hrr:u3d b (u3d e t n) n=u3d e t n:=by
    have:r1x (u3d e t n) b.2.1=false:=by rw [h.past]; rfl
    unfold u3d at this ⊢
    rw [this,Bool.or_false]
  have hR:BaseR (u1i b (u3d e t n) n):=s1r hb hD (by show (2:Int)≠3; omega) (by rw [h.cs]; exact hs) hn (by rw [h.ready]; exact hl) (by rw [h.ready]; exact hx) (by
    rw [h.past,h.ready]; exact hid) h9
  refine ⟨u25 (u1i b (u3d e t n) n) [],?_,t3r hR _,?_⟩
  · unfold u6c
    rw [if_pos ⟨q0y.mpr hb,p45.mpr (.rdy _ hD rfl)⟩]
    have e1:u15 b (2,u3d e t n,emp,false,u2z)=some (u1i b (u3d e t n) n):=by
      unfold u15
      simp only
      have hcond:b.2.2.1.length<3∧u08 b (u3d e t n).2.2.2.2.2.2.2<0:=⟨by rw [h.ready]; exact hl,by rw [s6g h.ready]; exact p5x.mpr hx⟩
      rw [if_neg (by decide),if_pos trivial,if_pos hcond]
      rfl
    rw [e1]
    simp only
    rw [if_pos (q0y.mpr (t3r hR _))]
  · rw [s65 (fun x hx=>(hR.past x hx).2.2)]
    refine ⟨?_,rfl,?_,h.cs⟩
    · show u1d b.1 b.2.2.2.1=u1d e.1 e.2.2.2.1
      rw [h.cs,h.vs]
      exact r2c (p28.mp he.vs).2.1 (Int.le_refl _)
    · show (b.2.2.1.filter _)++ [u3d b (u3d e t n) n] ++(b.2.2.1.filter _)=(e.2.2.1.filter _)++ [u3d e t n] ++(e.2.2.1.filter _)
      rw [h.ready,hrr]
theorem q8p:BaseR q6s:=by
  refine ⟨rfl,fun v h=>(by cases h),⟨Int.le_refl _,by decide⟩,⟨by decide,by decide⟩,by decide,fun t h=>(by cases h),List.Pairwise.nil,by decide,fun t h=>(by cases h),List.Pairwise.nil,fun x h=>(by cases h),List.Pairwise.nil⟩
theorem q7v {b:u0i} (hb:BaseR b) (hs:u25 b [] =b):u6c q6s (4,u5c,emp,false,b)=some b:=by
  unfold u6c
  rw [if_pos ⟨q0y.mpr q8p,p45.mpr (.bas b hb)⟩]
  have e1:u15 q6s (4,u5c,emp,false,b)=some b:=by
    unfold u15
    simp only
    rw [if_neg (by decide),if_neg (by decide),if_neg (by decide)]
  rw [e1]
  simp only
  rw [hs,if_pos (q0y.mpr hb)]
theorem q1k {d y:u0j} {t:ByteArray} (h:s6l d [t] =some y):u26 d=true∧u26 y=true∧u0k y= [t] :=by
  obtain ⟨x,hx⟩:∃x,s7d d [t] =some x:=by
    cases q:s7d d [t] with
    | none=>unfold s6l at h; rw [q] at h; cases h
    | some x=>exact ⟨x,rfl⟩
  have hl:u26 d=true:=by
    unfold s7d at hx
    split at hx
    · assumption
    · cases hx
  obtain ⟨a1,a2⟩:=t32 d
  obtain ⟨f1,f2,f3,f4,f5⟩:=r7k hl
  have hp:∃z,q1b (t90 d) (u31 d) t=some z:=by
    unfold s7d at hx
    rw [if_pos hl] at hx
    cases q:q1b (t90 d) (u31 d) t with
    | none=>simp only [s8y,q] at hx; cases hx
    | some z=>exact ⟨z,rfl⟩
  obtain ⟨z,hz⟩:=hp
  obtain ⟨w,hw,_⟩:=p2l (u4j f1).2.1 hz
  obtain ⟨E,hE,g1,g2,g3,g4,g5⟩:=q2f hw
  obtain ⟨x',x1,x2,x3,x4,x5⟩:=p3k (l:= [t]) hl (by simp) (by simp [p0i]; omega) (fun u hu=>by simp at hu; subst hu; exact ⟨g3,g4⟩)
  rw [hx] at x1
  cases x1
  obtain ⟨y',y1,y2,y3,_⟩:=q9x hx x2 x3 x4 x5 hl
  rw [h] at y1
  cases y1
  exact ⟨hl,y2,y3⟩
def p0y (d:u0j):Option u0j:=match t0m (u0k d) with
  | none=>none
  | some b=>if (u06 (4,u5c,emp,false,b)).2=true then s6l d [(u06 (4,u5c,emp,false,b)).1] else none
def t2b (d:u0j) (r:s1e):Option u0j:=
  if (u06 r).2=true then (match append_ d (u06 r).1 with
    | some y=>some y
    | none=>match p0y d with
      | none=>none
      | some z=>append_ z (u06 r).1)
  else none
theorem q8g {d y:u0j} {b:u0i} (hp:t0m (u0k d)=some b) (hb:BaseR b) (hs:u25 b [] =b) (h:p0y d=some y):u26 d=true∧u26 y=true∧t0m (u0k y)=some b:=by
  unfold p0y at h
  rw [hp] at h
  simp only at h
  rw [u87 (.bas b hb),if_pos rfl] at h
  obtain ⟨h1,h2,h3⟩:=q1k h
  refine ⟨h1,h2,?_⟩
  rw [h3]
  unfold t0m
  simp only [t64]
  rw [s6e (.bas b hb)]
  simp only
  rw [q7v hb hs]
theorem r5r {d y:u0j} {b x:u0i} {r:s1e} (hp:t0m (u0k d)=some b) (hb:BaseR b) (hs:u25 b [] =b) (hr:RecR r) (hx:u6c b r=some x) (h:t2b d r=some y):u26 y=true∧t0m (u0k y)=some x:=by
  have step:∀ {d y:u0j},t0m (u0k d)=some b→append_ d (s7e (s6h r))=some y→u26 y=true∧t0m (u0k y)=some x:=by
    intro d y hp h
    obtain ⟨h1,h2,h3⟩:=q9o h
    refine ⟨h2,?_⟩
    rw [h3]
    unfold t0m at hp ⊢
    rw [q98,hp]
    simp only [zOb,t64]
    rw [s6e hr]
    simp only
    rw [hx]
  unfold t2b at h
  rw [u87 hr,if_pos rfl] at h
  simp only at h
  cases q:append_ d (s7e (s6h r)) with
  | some z=>
    rw [q] at h
    cases h
    exact step hp q
  | none=>
    rw [q] at h
    simp only at h
    cases a:p0y d with
    | none=>rw [a] at h; cases h
    | some z=>
      rw [a] at h
      obtain ⟨_,_,z3⟩:=q8g hp hb hs a
      exact step z3 h
end
section
def p5p (x:u0f):Bool:=decide (x.2.1=2) || decide (x.2.1=3)
def p0z (t:u0f) (l:List u0f):Bool:=l.any fun x=>p5p x && ahead x t
def r6f (t:u0f) (l:List u0f):Bool:=l.any fun x=> !decide (x.1=t.1) && ((decide (x.2.1=2) || (decide (x.2.1=3) && decide (x.2.2.2.1 >t.2.2.1))) && r1w x.2.2.2.2.2.1 t.2.2.2.2.2.1)
def q2k (f:u0f→Bool) (t:u0f) (l:List u0f):Bool:=
  (p0z t l && r1x t l) || (l.any (fun x=>p5p x && (x.2.2.2.2.2.2.1 && ahead t x)) ||
    l.any fun p=>decide (p.2.1=2) && (ahead p t && (ahead t p || l.any fun x=>decide (x.2.1=2) && (f x && ahead x p))))
def r4f (t:u0f) (l:List u0f):Bool:=q2k (fun x=> !decide (x.1=t.1)) t l
def r4p (f:u0f→Bool) (t:u0f) (l:List u0f):Bool:=
  q2k f t l || ((p0z t l && l.any fun x=>decide (x.2.1=2) && ahead t x) || l.any fun x=>(decide (x.2.1=2) && ahead t x) && l.any fun y=>decide (y.2.1=2) && (!decide (y.1=t.1) && ahead x y))
def t7j (t:u0f) (l:List u0f):Bool:=r4p (fun x=> !decide (x.1=t.1)) t l
theorem t5d {a b:u0f} :ahead a b=true↔a.1≠b.1∧ ¬(a.2.1=3∧a.2.2.2.1≤b.2.2.1)∧ ¬(b.2.1=3∧b.2.2.2.1≤a.2.2.1)∧r3k a.2.2.2.2.1 b.2.2.2.2.2.1=true:=by
  unfold ahead r6e q1a
  simp only [Bool.and_eq_true,Bool.not_eq_true',Bool.and_eq_false_iff,decide_eq_false_iff_not,not_and,and_assoc]
  constructor
  · rintro ⟨h1,h2,h3,h4⟩
    exact ⟨h1,fun e=>h2.resolve_left (fun q=>q e),fun e=>h3.resolve_left (fun q=>q e),h4⟩
  · rintro ⟨h1,h2,h3,h4⟩
    refine ⟨h1,?_,?_,h4⟩
    · by_cases e:a.2.1=3
      · exact .inr (h2 e)
      · exact .inl e
    · by_cases e:b.2.1=3
      · exact .inr (h3 e)
      · exact .inl e
structure SameC (x y:u0f):Prop where
  id:x.1=y.1
  st:x.2.1=y.2.1
  snap:x.2.2.1=y.2.2.1
  cs:x.2.2.2.1=y.2.2.2.1
  rs:x.2.2.2.2.1=y.2.2.2.2.1
  ws:x.2.2.2.2.2.1=y.2.2.2.2.2.1
theorem SameC.refl (x:u0f):SameC x x:=⟨rfl,rfl,rfl,rfl,rfl,rfl⟩
theorem SameC.symm {x y:u0f} (h:SameC x y):SameC y x:=⟨h.id.symm,h.st.symm,h.snap.symm,h.cs.symm,h.rs.symm,h.ws.symm⟩
theorem SameC.ahead {x x' y y' :u0f} (h:SameC x x') (k:SameC y y'):Ab.ahead x y=Ab.ahead x' y' :=by
  unfold Ab.ahead r6e q1a
  rw [h.id,h.st,h.snap,h.cs,h.rs,k.id,k.st,k.snap,k.cs,k.ws]
theorem q5k (d x:u0f):SameC (q5j d x) x:=⟨rfl,rfl,rfl,rfl,rfl,rfl⟩
theorem q0v {b:u0i} {t d y:u0f} (hd:SameC d (u8w b t)) (ht:t.2.1≠3) (hy:y.2.2.1≤b.2.2.2.1):ahead d y=ahead t y∧ahead y d=ahead y t:=by
  have h1:ahead d y=ahead (u8w b t) y:=hd.ahead (SameC.refl y)
  have h2:ahead y d=ahead y (u8w b t):=(SameC.refl y).ahead hd
  rw [h1,h2]
  constructor
  · apply Bool.eq_iff_iff.mpr
    rw [t5d,t5d]
    refine and_congr_right fun _=>and_congr ?_ (and_congr Iff.rfl Iff.rfl)
    constructor
    · exact fun _ q=>ht q.1
    · rintro _ ⟨_,q⟩
      have q:b.2.2.2.1+1≤y.2.2.1:=q
      omega
  · apply Bool.eq_iff_iff.mpr
    rw [t5d,t5d]
    refine and_congr_right fun _=>and_congr Iff.rfl (and_congr ?_ Iff.rfl)
    constructor
    · exact fun _ q=>ht q.1
    · rintro _ ⟨_,q⟩
      have q:b.2.2.2.1+1≤y.2.2.1:=q
      omega
theorem q09 (a b:List WrT):r1w a b=r1w b a:=by
  unfold r1w
  apply Bool.eq_iff_iff.mpr
  simp only [List.any_eq_true]
  constructor
  · rintro ⟨x,hx,y,hy,h⟩; exact ⟨y,hy,x,hx,by rw [t6o]; exact h⟩
  · rintro ⟨x,hx,y,hy,h⟩; exact ⟨y,hy,x,hx,by rw [t6o]; exact h⟩
structure Ser (H:List u0f) (e:u1p):Prop where
  eng:EngR e
  st:∀x∈H,x.2.1=3
  snap:∀x∈H,x.2.2.1<x.2.2.2.1∧x.2.2.2.1≤e.1.2.2.2.1
  asc:H.Pairwise fun x y=>x.2.2.2.1<y.2.2.2.1
  uqh:uq (H++(e.1.2.2.1++e.2))
  bel:∀x∈H,x.1<e.1.2.2.2.2
  pin:∀x∈e.1.2.1,∃y∈H,SameC x y
  cov:∀y∈H,∀o∈e.2,o.2.2.1<y.2.2.2.1→ ∃x∈e.1.2.1,SameC x y
  outp:∀x∈e.1.2.1,∀y∈H,ahead x y=true→y.2.2.2.1<x.2.2.2.1→x.2.2.2.2.2.2.1=true
  outr:∀p∈e.1.2.2.1,∀y∈H,ahead p y=true→p.2.2.2.2.2.2.1=true
  no3:∀x∈H,∀y∈H,∀z∈H,ahead x y=true→ahead y z=true→z.2.2.2.1<y.2.2.2.1→z.2.2.2.1≤x.2.2.2.1→False
  noA:∀x∈H,∀p∈e.1.2.2.1,∀z∈H,ahead x p=true→ahead p z=true→z.2.2.2.1≤x.2.2.2.1→False
  noB:∀p∈e.1.2.2.1,∀y∈H,∀z∈H,ahead p y=true→ahead y z=true→z.2.2.2.1<y.2.2.2.1→False
  noD:∀p∈e.1.2.2.1,∀q∈e.1.2.2.1,∀z∈H,ahead p q=true→ahead q z=true→False
  noE:∀p∈e.1.2.2.1,∀q∈e.1.2.2.1,∀r∈e.1.2.2.1,ahead p q=true→ahead q r=true→False
  ww:∀x∈H,∀y∈H,x.2.2.2.1<y.2.2.2.1→r1w x.2.2.2.2.2.1 y.2.2.2.2.2.1=true→x.2.2.2.1≤y.2.2.1
  wr:∀p∈e.1.2.2.1,∀y∈H,r1w y.2.2.2.2.2.1 p.2.2.2.2.2.1=true→y.2.2.2.1≤p.2.2.1
  rr:∀p∈e.1.2.2.1,∀q∈e.1.2.2.1,p.1≠q.1→r1w p.2.2.2.2.2.1 q.2.2.2.2.2.1=true→False
def q70 (c:Int) (t:u0f):u0f:=(t.1,(3:Int),t.2.2.1,c,t.2.2.2.2.1,t.2.2.2.2.2.1,t.2.2.2.2.2.2.1,(⟨#[]⟩:ByteArray))
theorem p4c (b:u0i) (t:u0f):SameC (q70 (b.2.2.2.1+1) t) (u8w b t):=⟨rfl,rfl,rfl,rfl,rfl,rfl⟩
theorem Ser.opens {H:List u0f} {e e' :u1p} (h:Ser H e) (hR:EngR e') (h1:e'.1.2.1=e.1.2.1) (h2:e'.1.2.2.1=e.1.2.2.1) (h3:e'.1.2.2.2.1=e.1.2.2.2.1) (h4:e.1.2.2.2.2≤e'.1.2.2.2.2)
    (ho:∀o∈e'.2,(∃p∈e.2,p.1=o.1∧p.2.2.1=o.2.2.1)∨(e.1.2.2.2.2≤o.1∧o.2.2.1=e.1.2.2.2.1)):Ser H e' :=by
  obtain ⟨u1,u2,u3⟩:=o00.mp h.uqh
  refine ⟨hR,h.st,by rw [h3]; exact h.snap,h.asc,?_,fun x hx=>by have:=h.bel x hx; omega,by rw [h1]; exact h.pin,?_,by rw [h1]; exact h.outp,by rw [h2]; exact h.outr,h.no3,by rw [h2]; exact h.noA,by rw [h2]; exact h.noB,by rw [h2]; exact h.noD,by rw [h2]; exact h.noE,h.ww,by rw [h2]; exact h.wr,by rw [h2]; exact h.rr⟩
  · have hu:=hR.uq
    rw [List.append_assoc] at hu
    refine o00.mpr ⟨u1,(o00.mp hu).2.1,fun x hx y hy=> ?_⟩
    rcases List.mem_append.mp hy with hy | hy
    · rw [h2] at hy; exact u3 x hx y (List.mem_append_left _ hy)
    · rcases ho y hy with ⟨p,hp,e1,_⟩ | ⟨e1,_⟩
      · rw [←e1]; exact u3 x hx p (List.mem_append_right _ hp)
      · have:=h.bel x hx; omega
  · intro y hy o ho' hlt
    rw [h1]
    rcases ho o ho' with ⟨p,hp,_,e2⟩ | ⟨_,e2⟩
    · exact h.cov y hy p hp (by omega)
    · have:=(h.snap y hy).2; omega
theorem q7u (b:u0i):∀(o:List u0f),∀t∈o,t3a b o≤t.2.2.1:=by
  have le:∀(o:List u0f) (m:Int),o.foldl (fun m t=>if t.2.2.1<m then t.2.2.1 else m) m≤m:=by
    intro o
    induction o with
    | nil=>intro m; exact Int.le_refl _
    | cons t o ih=>
      intro m
      rw [List.foldl_cons]
      refine Int.le_trans (ih _) ?_
      split<;>omega
  have key:∀(o:List u0f) (m:Int),∀t∈o,o.foldl (fun m t=>if t.2.2.1<m then t.2.2.1 else m) m≤t.2.2.1:=by
    intro o
    induction o with
    | nil=>intro m t ht; cases ht
    | cons x o ih=>
      intro m t ht
      rw [List.foldl_cons]
      rcases List.mem_cons.mp ht with rfl | ht
      · refine Int.le_trans (le o _) ?_
        split<;>omega
      · exact ih _ t ht
  exact fun o t ht=>key o _ t ht
theorem Ser.tidy {H:List u0f} {e:u1p} (h:Ser H e):Ser H (u25 e.1 e.2,e.2):=by
  have sub:∀x∈(u25 e.1 e.2).2.1,x∈e.1.2.1:=fun x hx=>(List.mem_filter.mp hx).1
  refine ⟨p52 h.eng,h.st,h.snap,h.asc,h.uqh,h.bel,fun x hx=>h.pin x (sub x hx),?_,fun x hx=>h.outp x (sub x hx),h.outr,h.no3,h.noA,h.noB,h.noD,h.noE,h.ww,h.wr,h.rr⟩
  intro y hy o ho hlt
  obtain ⟨x,hx,hs⟩:=h.cov y hy o ho hlt
  refine ⟨x,List.mem_filter.mpr ⟨hx,?_⟩,hs⟩
  have:=q7u e.1 e.2 o ho
  have:=hs.cs
  simp only [Bool.not_eq_true',decide_eq_false_iff_not]
  omega
structure Passed (t:u0f) (P R:List u0f):Prop where
  nb:∀x∈P++R,x.1≠t.1→(x.2.1=2∨(x.2.1=3∧x.2.2.2.1 >t.2.2.1))→r1w x.2.2.2.2.2.1 t.2.2.2.2.2.1=true→False
  d1:∀x∈P++R,∀y∈P,ahead x t=true→ahead t y=true→False
  d2:∀x∈P++R,x.2.2.2.2.2.2.1=true→ahead t x=true→False
  d3:∀p∈R,ahead p t=true→ahead t p=true→False
  d4:∀p∈R,∀x∈R,ahead p t=true→ahead x p=true→x.1≠t.1→False
theorem Ser.inPast {H:List u0f} {e:u1p} (h:Ser H e) {t:u0f} (ht:t∈e.2) {y:u0f} (hy:y∈H) (ha:ahead t y=true∨ahead y t=true):∃x∈e.1.2.1,SameC x y:=by
  refine h.cov y hy t ht ?_
  have hs:=h.st y hy
  rcases ha with ha | ha
  · have:=(t5d.mp ha).2.2.1
    exact Int.not_le.mp fun q=>this ⟨hs,q⟩
  · have:=(t5d.mp ha).2.1
    exact Int.not_le.mp fun q=>this ⟨hs,q⟩
theorem Ser.commit {H:List u0f} {e:u1p} (h:Ser H e) {t:u0f} (ht:t∈e.2) (hf:r1r e.1=false) (hp:Passed t e.1.2.1 e.1.2.2.1):Ser (H++ [q70 (e.1.2.2.2.1+1) t]) (u1b e.1 t,u6f e t.1):=by
  have hE:=h.eng
  obtain ⟨tR,t1,ts⟩:=hE.open_ t ht
  have t3:t.2.1≠3:=by omega
  have hsame:=p4c e.1 t
  have hgn:=u83 e.1.2.2.2.2 t.1
  have hHs:∀y∈H,y.2.2.1≤e.1.2.2.2.1:=fun y hy=>by have:=h.snap y hy; omega
  have hRs:∀y∈e.1.2.2.1,y.2.2.1≤e.1.2.2.2.1:=fun y hy=>(hE.base.ready y hy).2.2
  have hPs:∀y∈e.1.2.1,y.2.2.1≤e.1.2.2.2.1:=fun y hy=>by obtain ⟨z,hz,q⟩:=h.pin y hy; rw [q.snap]; exact hHs z hz
  have aL:∀y:u0f,y.2.2.1≤e.1.2.2.2.1→ahead (q70 (e.1.2.2.2.1+1) t) y=ahead t y:=fun y hy=>(q0v hsame t3 hy).1
  have aR:∀y:u0f,y.2.2.1≤e.1.2.2.2.1→ahead y (q70 (e.1.2.2.2.1+1) t)=ahead y t:=fun y hy=>(q0v hsame t3 hy).2
  have self:∀x:u0f,ahead x x=false:=fun x=>by
    cases q:ahead x x with
    | false=>rfl
    | true=>exact absurd rfl (t5d.mp q).1
  have inP:∀y∈H,ahead y t=true→ ∃x∈e.1.2.1,ahead x t=true:=fun y hy q=>by
    obtain ⟨x,hx,hs⟩:=h.inPast ht hy (.inr q)
    exact ⟨x,hx,by rw [hs.ahead (SameC.refl t)]; exact q⟩
  have outP:∀y∈H,ahead t y=true→ ∃x∈e.1.2.1,SameC x y∧ahead t x=true:=fun y hy q=>by
    obtain ⟨x,hx,hs⟩:=h.inPast ht hy (.inl q)
    exact ⟨x,hx,hs,by rw [(SameC.refl t).ahead hs]; exact q⟩
  have ready' :∀p∈(u1b e.1 t).2.2.1,∃q∈e.1.2.2.1,p=q5j (u8w e.1 t) q:=fun p hp=>by
    obtain ⟨q,hq,rfl⟩:=List.mem_map.mp hp
    exact ⟨q,(List.mem_filter.mp hq).1,rfl⟩
  have snoc:∀ {x:u0f},x∈H++ [q70 (e.1.2.2.2.1+1) t] →x∈H∨x=q70 (e.1.2.2.2.1+1) t:=fun {x} hx=>by
    rcases List.mem_append.mp hx with hx | hx
    · exact .inl hx
    · exact .inr (List.mem_singleton.mp hx)
  have csN:(q70 (e.1.2.2.2.1+1) t).2.2.2.1=e.1.2.2.2.1+1:=rfl
  have fl:∀(q y:u0f),ahead (q5j (u8w e.1 t) q) y=ahead q y:=fun q y=>(q5k _ q).ahead (SameC.refl y)
  have fr:∀(q y:u0f),ahead y (q5j (u8w e.1 t) q)=ahead y q:=fun q y=>(SameC.refl y).ahead (q5k _ q)
  obtain ⟨u1,u2,u3⟩:=o00.mp h.uqh
  obtain ⟨u4,u5,u6⟩:=o00.mp u2
  have hEc:=q8k hE ht hf
  have hE' :EngR (u1b e.1 t,u6f e t.1):=r4l hE (s0s hE (.inl ht) hf) (u5i e t.1) (by show e.1.2.2.2.1≤e.1.2.2.2.1+1; omega) hgn.1 fun x hx y hy=>by
    rcases s95 hx with q | ⟨z,hz,q⟩
    · rw [q]; exact (r75 hy).symm
    · rw [←q]; exact hE.apart z hz y ((u5i e t.1).subset hy)
  refine ⟨hE',?_,?_,?_,?_,?_,?_,?_,?_,?_,?_,?_,?_,?_,?_,?_,?_,?_⟩
  · -- st
    intro x hx
    rcases snoc hx with hx | rfl
    · exact h.st x hx
    · rfl
  · -- snap
    intro x hx
    show x.2.2.1<x.2.2.2.1∧x.2.2.2.1≤e.1.2.2.2.1+1
    rcases snoc hx with hx | rfl
    · have:=h.snap x hx; omega
    · show t.2.2.1<e.1.2.2.2.1+1∧e.1.2.2.2.1+1≤e.1.2.2.2.1+1
      omega
  · -- asc
    rw [List.pairwise_append]
    refine ⟨h.asc,List.pairwise_singleton _ _,fun x hx y hy=> ?_⟩
    rw [List.mem_singleton] at hy; subst hy
    have:=(h.snap x hx).2
    show x.2.2.2.1<e.1.2.2.2.1+1
    omega
  · -- uq
    have hu:=hE'.uq
    rw [List.append_assoc] at hu
    obtain ⟨k1,k2,k3⟩:=o00.mp hu
    refine o00.mpr ⟨o00.mpr ⟨u1,p2v,fun x hx y hy=> ?_⟩,k2,fun x hx y hy=> ?_⟩
    · rw [List.mem_singleton] at hy; subst hy
      exact u3 x hx t (List.mem_append_right _ ht)
    · rcases snoc hx with hx | rfl
      · rcases List.mem_append.mp hy with hy | hy
        · obtain ⟨q,hq,rfl⟩:=ready' y hy
          exact u3 x hx q (List.mem_append_left _ hq)
        · exact u3 x hx y (List.mem_append_right _ ((u5i e t.1).subset hy))
      · exact k3 (u8w e.1 t) (by show _∈e.1.2.1++ [u8w e.1 t]; simp) y hy
  · -- below
    intro x hx
    show x.1<u09 e.1.2.2.2.2 t.1
    rcases snoc hx with hx | rfl
    · have:=h.bel x hx; omega
    · exact hgn.2
  · -- pin
    intro x hx
    rcases List.mem_append.mp hx with hx | hx
    · obtain ⟨y,hy,q⟩:=h.pin x hx
      exact ⟨y,List.mem_append_left _ hy,q⟩
    · rw [List.mem_singleton] at hx; subst hx
      exact ⟨_,List.mem_append_right _ (List.mem_singleton.mpr rfl),hsame.symm⟩
  · -- cov
    intro y hy o ho hlt
    rcases snoc hy with hy | rfl
    · obtain ⟨x,hx,q⟩:=h.cov y hy o ((u5i e t.1).subset ho) hlt
      exact ⟨x,List.mem_append_left _ hx,q⟩
    · exact ⟨u8w e.1 t,List.mem_append_right _ (List.mem_singleton.mpr rfl),hsame.symm⟩
  · -- outp
    intro x hx y hy ha hlt
    rcases List.mem_append.mp hx with hx | hx
    · rcases snoc hy with hy | rfl
      · exact h.outp x hx y hy ha hlt
      · obtain ⟨z,hz,q⟩:=h.pin x hx
        have:=(h.snap z hz).2
        have:=q.cs
        have hlt:e.1.2.2.2.1+1<x.2.2.2.1:=hlt
        omega
    · rw [List.mem_singleton] at hx; subst hx
      rcases snoc hy with hy | rfl
      · have q:ahead t y=true:=by
          rw [hsame.symm.ahead (SameC.refl y),aL y (hHs y hy)] at ha; exact ha
        obtain ⟨z,hz,hs,hz2⟩:=outP y hy q
        show (t.2.2.2.2.2.2.1 || r1x t e.1.2.1)=true
        have:r1x t e.1.2.1=true:=List.any_eq_true.mpr ⟨z,hz,by rw [(hE.base.past z hz).2.1,hz2]; rfl⟩
        rw [this,Bool.or_true]
      · rw [hsame.symm.ahead (SameC.refl _),self] at ha; cases ha
  · -- outr
    intro p hp' y hy ha
    obtain ⟨q,hq,rfl⟩:=ready' p hp'
    rw [fl] at ha
    show (q.2.2.2.2.2.2.1 || ahead q (u8w e.1 t))=true
    rcases snoc hy with hy | rfl
    · rw [h.outr q hq y hy ha]; rfl
    · rw [(SameC.refl q).ahead hsame] at ha
      rw [ha,Bool.or_true]
  · -- no3
    intro x hx y hy z hz q1 q2 l1 l2
    rcases snoc hz with hz | rfl
    · rcases snoc hy with hy | rfl
      · rcases snoc hx with hx | rfl
        · exact h.no3 x hx y hy z hz q1 q2 l1 l2
        · -- it reads ahead of y,which is Out
          rw [aL y (hHs y hy)] at q1
          obtain ⟨w,hw,hs,hw2⟩:=outP y hy q1
          refine hp.d2 w (List.mem_append_left _ hw) (h.outp w hw z hz ?_ (by rw [hs.cs]; exact l1)) hw2
          rw [hs.ahead (SameC.refl z)]; exact q2
      · rw [aL z (hHs z hz)] at q2
        obtain ⟨w,hw,_,hw2⟩:=outP z hz q2
        rcases snoc hx with hx | rfl
        · rw [aR x (hHs x hx)] at q1
          obtain ⟨v,hv,hv2⟩:=inP x hx q1
          exact hp.d1 v (List.mem_append_left _ hv) w hw hv2 hw2
        · rw [self] at q1; cases q1
    · rcases snoc hy with hy | rfl
      · have:=(h.snap y hy).2
        rw [csN] at l1
        omega
      · rw [self] at q2; cases q2
  · -- noA
    intro x hx p hp' z hz q1 q2 l
    obtain ⟨q,hq,rfl⟩:=ready' p hp'
    rw [fr] at q1; rw [fl] at q2
    rcases snoc hz with hz | rfl
    · rcases snoc hx with hx | rfl
      · exact h.noA x hx q hq z hz q1 q2 l
      · rw [aL q (hRs q hq)] at q1
        exact hp.d2 q (List.mem_append_right _ hq) (h.outr q hq z hz q2) q1
    · rcases snoc hx with hx | rfl
      · have:=(h.snap x hx).2
        rw [csN] at l
        omega
      · rw [aL q (hRs q hq)] at q1
        rw [aR q (hRs q hq)] at q2
        exact hp.d3 q hq q2 q1
  · -- noB
    intro p hp' y hy z hz q1 q2 l
    obtain ⟨q,hq,rfl⟩:=ready' p hp'
    rw [fl] at q1
    rcases snoc hz with hz | rfl
    · rcases snoc hy with hy | rfl
      · exact h.noB q hq y hy z hz q1 q2 l
      · rw [aR q (hRs q hq)] at q1
        rw [aL z (hHs z hz)] at q2
        obtain ⟨w,hw,_,hw2⟩:=outP z hz q2
        exact hp.d1 q (List.mem_append_right _ hq) w hw q1 hw2
    · rcases snoc hy with hy | rfl
      · have:=(h.snap y hy).2
        rw [csN] at l
        omega
      · rw [self] at q2; cases q2
  · -- noD
    intro p hp' p2 hp2 z hz q1 q2
    obtain ⟨q,hq,rfl⟩:=ready' p hp'
    obtain ⟨r,hr,rfl⟩:=ready' p2 hp2
    rw [fl,fr] at q1; rw [fl] at q2
    rcases snoc hz with hz | rfl
    · exact h.noD q hq r hr z hz q1 q2
    · rw [aR r (hRs r hr)] at q2
      exact hp.d4 r hr q hq q2 q1 (hE.apart q (List.mem_append_right _ hq) t ht)
  · -- noE
    intro p hp' p2 hp2 p3 hp3 q1 q2
    obtain ⟨q,hq,rfl⟩:=ready' p hp'
    obtain ⟨r,hr,rfl⟩:=ready' p2 hp2
    obtain ⟨s,hs,rfl⟩:=ready' p3 hp3
    rw [fl,fr] at q1; rw [fl,fr] at q2
    exact h.noE q hq r hr s hs q1 q2
  · -- ww
    intro x hx y hy l m
    rcases snoc hy with hy | rfl
    · rcases snoc hx with hx | rfl
      · exact h.ww x hx y hy l m
      · have:=(h.snap y hy).2
        rw [csN] at l
        omega
    · rcases snoc hx with hx | rfl
      · show x.2.2.2.1≤t.2.2.1
        apply Int.not_lt.mp
        intro hlt
        obtain ⟨w,hw,hs⟩:=h.cov x hx t ht hlt
        refine hp.nb w (List.mem_append_left _ hw) (hE.apart w (List.mem_append_left _ hw) t ht) (.inr ⟨(hE.base.past w hw).2.1,by rw [hs.cs]; exact hlt⟩) ?_
        rw [hs.ws]; exact m
      · rw [csN] at l; omega
  · -- wr
    intro p hp' y hy m
    obtain ⟨q,hq,rfl⟩:=ready' p hp'
    show y.2.2.2.1≤q.2.2.1
    rcases snoc hy with hy | rfl
    · exact h.wr q hq y hy m
    · exfalso
      refine hp.nb q (List.mem_append_right _ hq) (hE.apart q (List.mem_append_right _ hq) t ht) (.inl (hE.base.ready q hq).2.1) ?_
      rw [q09]; exact m
  · -- rr
    intro p hp' p2 hp2 hne m
    obtain ⟨q,hq,rfl⟩:=ready' p hp'
    obtain ⟨r,hr,rfl⟩:=ready' p2 hp2
    exact h.rr q hq r hr hne m
end
section
abbrev u1m:=u1p × u0j
def q37:s1e:=(0,u5c,emp,false,u2z)
def u1z (o:List u0f) (id:Int):Int:=if u0m (fun x:u0f=>decide (x.1=id)) o<o.length then ((u0m (fun x:u0f=>decide (x.1=id)) o:Nat):Int) else -1
def u10 (e:u1p) (id:Int):u0f:=rdL u0z e.2 (u1z e.2 id).toNat
def t63 (e:u1p):List u0f:=e.1.2.1++e.1.2.2.1
def s9x (e:u1p) (id:Int):Int:=
  if u1z e.2 id<0 then 1 else if r6f (u10 e id) (t63 e)=true then 4 else if r4f (u10 e id) (t63 e)=true then 5 else if r1r e.1=true then 3 else 0
def u30 (e:u1p) (id:Int):u1p × s1e × Int:=
  if s9x e id=1 then (e,q37,1) else if s9x e id=0 then (r6h e (u10 e id),(1,u8w e.1 (u10 e id),emp,false,u2z),0) else (t2i e id,q37,s9x e id)
def s62 (e:u1p) (id:Int):Int:=
  if s9x e id≠0 then s9x e id else if t7j (u10 e id) (t63 e)=true then 5 else if 3≤e.1.2.2.1.length then 3 else 0
def t5q (e:u1p) (id:Int) (n:ByteArray):u1p × s1e × Int:=
  if u1z e.2 id<0 then (e,q37,1) else if u4d n=false then (e,q37,2) else if 0≤u08 e.1 n then (e,q37,6)
  else if s62 e id=0 then (p2f e (u10 e id) n,(2,u3d e.1 (u10 e id) n,emp,false,u2z),0) else (t2i e id,q37,s62 e id)
def r28 (e:u1p) (n:ByteArray) (yes:Bool):u1p × s1e × Int:=
  if u08 e.1 n<0 then (e,q37,1) else if yes=true∧r1r e.1=true then (e,q37,3)
  else if yes=true then (p9f e (rdL u0z e.1.2.2.1 (u08 e.1 n).toNat),(3,u5c,n,true,u2z),0) else (noE e n,(3,u5c,n,false,u2z),0)
def s59 (e:u1p) (id:Int):u1p × Int:=if u1z e.2 id<0 then (e,1) else (t2i e id,0)
def t2g (e:u1p):u1p × Int × Int:=if e.2.length<4∧e.1.2.2.2.2<9999 then (r1f e,e.1.2.2.2.2,0) else (e,0,3)
def p1z (l:List t3u) (r:t3u):Bool:=l.any fun x=>z7o x.1 r.1 && z7o x.2 r.2
def p62 (t:u0f) (r:t3u):u0f:=(t.1,t.2.1,t.2.2.1,t.2.2.2.1,t.2.2.2.2.1++ [r],t.2.2.2.2.2)
def t05 (t:u0f) (r:t3u):u0f × Bool:=if p1z t.2.2.2.2.1 r=true then (t,true) else if t.2.2.2.2.1.length<8 then (p62 t r,true) else (t,false)
def p01 (t:u0f) (l:List WrT):u0f:=(t.1,t.2.1,t.2.2.1,t.2.2.2.1,t.2.2.2.2.1,l,t.2.2.2.2.2.2)
def t3y (t:u0f) (w:WrT):u0f × Bool:=if (s91 t.2.2.2.2.2.1 w).length≤8 then (p01 t (s91 t.2.2.2.2.2.1 w),true) else (t,false)
def u99 (e:u1p) (id:Int) (r:t3u) (right:Bool):u1p × Int:=
  if u1z e.2 id<0 then (e,1) else if right=false then (e,2) else if (t05 (u10 e id) r).2=true then (r78 e (u1z e.2 id).toNat (t05 (u10 e id) r).1,0) else (e,3)
def q3q (e:u1p) (id:Int) (w:WrT):u1p × Int:=
  if u1z e.2 id<0 then (e,1) else if u1q w=false then (e,2) else if (t3y (u10 e id) w).2=true then (r78 e (u1z e.2 id).toNat (t3y (u10 e id) w).1,0) else (e,3)
theorem p6k {o:List u0f} {id:Int} :u1z o id<0↔ ∀x∈o,x.1≠id:=by
  unfold u1z
  constructor
  · intro h x hx e
    obtain ⟨i,hi,rfl⟩:=List.getElem_of_mem hx
    split at h
    · omega
    · rename_i q
      have:=u5u (p:=fun x:u0f=>decide (x.1=id)) hi (by have:=u5t (fun x:u0f=>decide (x.1=id)) o; omega)
      simp [e] at this
  · intro h
    split
    · rename_i q
      have:=u4i q
      simp only [decide_eq_true_eq] at this
      exact absurd this (h _ (List.getElem_mem q))
    · omega
theorem u07 {e:u1p} {id:Int} (h: ¬u1z e.2 id<0):∃(k:Nat) (hk:k<e.2.length),u1z e.2 id=(k:Int)∧u10 e id=e.2[k] ∧e.2[k].1=id:=by
  unfold u10
  unfold u1z at h ⊢
  split at h
  · rename_i q
    rw [if_pos q]
    refine ⟨_,q,rfl,?_,?_⟩
    · rw [zTn]; exact y8k (t:=u0z) q
    · simpa using u4i q
  · omega
theorem r3a {e:u1p} {id:Int} (h:s9x e id=0): ¬u1z e.2 id<0∧r6f (u10 e id) (t63 e)=false∧r4f (u10 e id) (t63 e)=false∧r1r e.1=false:=by
  unfold s9x at h
  split at h
  · omega
  · rename_i h1
    split at h
    · omega
    · rename_i h2
      split at h
      · omega
      · rename_i h3
        split at h
        · omega
        · rename_i h4
          exact ⟨h1,by simpa using h2,by simpa using h3,by simpa using h4⟩
theorem p2o {e:u1p} {id:Int} (h:u1z e.2 id<0):u6f e id=e.2:=by
  unfold u6f
  rw [List.filter_eq_self]
  intro x hx
  simp [p6k.mp h x hx]
theorem p63 {t:u0f} {r:t3u} (h:TxnR t) (hr:u1f r=true) (hl:t.2.2.2.2.1.length<8):TxnR (p62 t r):=
  ⟨h.id,h.st,h.snap,by show (t.2.2.2.2.1++ [r]).length≤8; simp only [List.length_append,List.length_singleton]; omega,h.ws,fun x hx=>by
    rcases List.mem_append.mp hx with hx | hx
    · exact h.rs x hx
    · rw [List.mem_singleton] at hx; subst hx; exact hr,h.done,h.nocs,h.name,h.noname,h.out⟩
theorem p5w {t:u0f} {r:t3u} (h:TxnR t) (hr:u1f r=true):TxnR (t05 t r).1∧(t05 t r).1.1=t.1∧(t05 t r).1.2.1=t.2.1∧(t05 t r).1.2.2.1=t.2.2.1∧(t05 t r).1.2.2.2.2.2.1=t.2.2.2.2.2.1:=by
  unfold t05
  split
  · exact ⟨h,rfl,rfl,rfl,rfl⟩
  · split
    · rename_i q; exact ⟨p63 h hr q,rfl,rfl,rfl,rfl⟩
    · exact ⟨h,rfl,rfl,rfl,rfl⟩
theorem p2j {l:List WrT} {w:WrT} (h:u2x l=true) (hw:u1q w=true) (hl:(s91 l w).length≤8):u2x (s91 l w)=true:=by
  obtain ⟨h1,h2,h3⟩:=p47.mp h
  refine p47.mpr ⟨fun x hx=> ?_,?_,hl⟩
  · rcases q3r hx with hx | rfl
    · exact h1 x hx
    · exact hw
  · unfold s91
    rw [List.append_assoc,List.pairwise_append]
    refine ⟨List.Pairwise.filter _ h2,?_,?_⟩
    · rw [List.singleton_append,List.pairwise_cons]
      refine ⟨fun y hy=> ?_,List.Pairwise.filter _ h2⟩
      have:=(List.mem_filter.mp hy).2
      rw [q5m] at this
      exact this
    · intro x hx y hy
      have h4:=(List.mem_filter.mp hx).2
      rcases List.mem_append.mp hy with hy | hy
      · rw [List.mem_singleton] at hy; subst hy; exact h4
      · have h5:=(List.mem_filter.mp hy).2
        rw [q5m] at h5
        exact s6i h4 h5
theorem p46 {t:u0f} {l:List WrT} (h:TxnR t) (hl:u2x l=true):TxnR (p01 t l):=
  ⟨h.id,h.st,h.snap,h.rlen,hl,h.rs,h.done,h.nocs,h.name,h.noname,h.out⟩
theorem p4t {t:u0f} {w:WrT} (h:TxnR t) (hw:u1q w=true):TxnR (t3y t w).1∧(t3y t w).1.1=t.1∧(t3y t w).1.2.1=t.2.1∧(t3y t w).1.2.2.1=t.2.2.1∧(t3y t w).1.2.2.2.2.1=t.2.2.2.2.1:=by
  unfold t3y
  split
  · rename_i q; exact ⟨p46 h (p2j h.ws hw q),rfl,rfl,rfl,rfl⟩
  · exact ⟨h,rfl,rfl,rfl,rfl⟩
theorem p17 {e:u1p} (h:EngR e) {id:Int} {r:t3u} {right:Bool} (hr:right=true→u1f r=true):EngR (u99 e id r right).1:=by
  unfold u99
  split
  · exact h
  · rename_i q
    split
    · exact h
    · rename_i hb
      split
      · obtain ⟨k,hk,e1,e2,e3⟩:=u07 q
        obtain ⟨o1,o2,o3⟩:=h.open_ _ (List.getElem_mem hk)
        rw [e1,zTn,e2]
        obtain ⟨r1,r2,r3,r4,r5⟩:=p5w o1 (hr (by simpa using hb))
        exact q6e h hk r1 r2 (r3.trans o2) r4
      · exact h
theorem p7o {e:u1p} (h:EngR e) {id:Int} {w:WrT} :EngR (q3q e id w).1:=by
  unfold q3q
  split
  · exact h
  · rename_i q
    split
    · exact h
    · rename_i hb
      split
      · obtain ⟨k,hk,e1,e2,e3⟩:=u07 q
        obtain ⟨o1,o2,o3⟩:=h.open_ _ (List.getElem_mem hk)
        rw [e1,zTn,e2]
        obtain ⟨r1,r2,r3,r4,r5⟩:=p4t (w:=w) o1 (by simpa using hb)
        exact q6e h hk r1 r2 (r3.trans o2) r4
      · exact h
theorem q2e {e:u1p} (h:EngR e):EngR (t2g e).1:=by
  unfold t2g
  split
  · rename_i q; exact p5k h q.1 q.2
  · exact h
structure Sync (s:u1m) (b:u0i):Prop where
  eng:EngR s.1
  log:u26 s.2=true
  play:t0m (u0k s.2)=some b
  right:BaseR b
  like:Like0 b s.1.1
theorem Like0.of {b e e' :u0i} (h:Like0 b e) (h1:e'.1=e.1) (h2:e'.2.2.1=e.2.2.1) (h3:e'.2.2.2.1=e.2.2.2.1):Like0 b e' :=
  ⟨by rw [h1,h3]; exact h.vs,h.past,by rw [h2]; exact h.ready,by rw [h3]; exact h.cs⟩
theorem Sync.opens {s:u1m} {b:u0i} {e:u1p} (h:Sync s b) (he:EngR e) (h1:e.1.1=s.1.1.1) (h2:e.1.2.2.1=s.1.1.2.2.1) (h3:e.1.2.2.2.1=s.1.1.2.2.2.1):Sync (e,s.2) b:=
  ⟨he,h.log,h.play,h.right,h.like.of h1 h2 h3⟩
theorem Sync.leave {s:u1m} {b:u0i} (h:Sync s b) (id:Int):Sync (t2i s.1 id,s.2) b:=
  ⟨p13 h.eng id,h.log,h.play,h.right,h.like.tidy h.eng.base _⟩
theorem Sync.own {s:u1m} {b:u0i} (h:Sync s b):u25 b [] =b:=h.like.self h.eng.base
def t3q (s:u1m) (id:Int):u1m × Int:=
  if (u30 s.1 id).2.2=0 then (match t2b s.2 (u30 s.1 id).2.1 with
    | some d=>(((u30 s.1 id).1,d),0)
    | none=>((t2i s.1 id,s.2),3))
  else (((u30 s.1 id).1,s.2),(u30 s.1 id).2.2)
def s6k (s:u1m) (id:Int) (n:ByteArray):u1m × Int:=
  if (t5q s.1 id n).2.2=0 then (match t2b s.2 (t5q s.1 id n).2.1 with
    | some d=>(((t5q s.1 id n).1,d),0)
    | none=>((t2i s.1 id,s.2),3))
  else (((t5q s.1 id n).1,s.2),(t5q s.1 id n).2.2)
def r8c (s:u1m) (n:ByteArray) (yes:Bool):u1m × Int:=
  if (r28 s.1 n yes).2.2=0 then (match t2b s.2 (r28 s.1 n yes).2.1 with
    | some d=>(((r28 s.1 n yes).1,d),0)
    | none=>(s,3))
  else (s,(r28 s.1 n yes).2.2)
def p3l (s:u1m):u1m × Bool:=match p0y s.2 with
  | some d=>((s.1,d),true)
  | none=>(s,false)
theorem Sync.commit {s:u1m} {b:u0i} (h:Sync s b) (id:Int):∃b',Sync (t3q s id).1 b' ∧(b' =b∨((t3q s id).2=0∧s9x s.1 id=0∧u6c b (1,u8w s.1.1 (u10 s.1 id),emp,false,u2z)=some b')):=by
  have hE:=h.eng
  unfold t3q
  by_cases c0:(u30 s.1 id).2.2=0
  · rw [if_pos c0]
    have j0:s9x s.1 id=0:=by
      unfold u30 at c0
      split at c0
      · cases c0
      · split at c0
        · assumption
        · exact c0
    have ec:u30 s.1 id=(r6h s.1 (u10 s.1 id),(1,u8w s.1.1 (u10 s.1 id),emp,false,u2z),0):=by
      unfold u30; rw [if_neg (by omega),if_pos j0]
    obtain ⟨h1,h2,h3,h4⟩:=r3a j0
    obtain ⟨k,hk,e1,e2,e3⟩:=u07 h1
    have ht:u10 s.1 id∈s.1.2:=by rw [e2]; exact List.getElem_mem hk
    obtain ⟨f1,f2,f3⟩:=q3l h4
    obtain ⟨tR,t1,ts⟩:=hE.open_ _ ht
    have h9:(u10 s.1 id).1<9999:=by have:=hE.bel _ (List.mem_append_right _ ht); have:=hE.base.next.2; omega
    obtain ⟨x,p1,p2,p3⟩:=q0g (t:=u10 s.1 id) h.like hE.base h.right f3 f2 tR h9 ts
    rw [ec]
    simp only
    cases hk2:t2b s.2 (1,u8w s.1.1 (u10 s.1 id),emp,false,u2z) with
    | none=>exact ⟨b,h.leave id, .inl rfl⟩
    | some d=>
      obtain ⟨l1,l2⟩:=r5r h.play h.right h.own (.thr _ (q7f tR ts f3) rfl) p1 hk2
      have hR:=q8k hE ht h4
      exact ⟨x,⟨hR,l1,l2,p2,p3.tidy (s0s hE (.inl ht) h4) _⟩, .inr ⟨rfl,j0,p1⟩⟩
  · rw [if_neg c0]
    refine ⟨b,?_, .inl rfl⟩
    unfold u30
    split
    · exact h
    · split
      · rename_i q1 q2
        exfalso; apply c0
        unfold u30; rw [if_neg q1,if_pos q2]
      · exact h.leave id
theorem p7m {e:u1p} {id:Int} (h:s62 e id=0):s9x e id=0∧t7j (u10 e id) (t63 e)=false∧e.1.2.2.1.length<3:=by
  unfold s62 at h
  split at h
  · rename_i q; exact absurd h q
  · rename_i q
    split at h
    · omega
    · rename_i q2
      split at h
      · omega
      · exact ⟨by omega,by simpa using q2,by omega⟩
theorem p2g {e:u1p} {id:Int} {n:ByteArray} (h:(t5q e id n).2.2=0): ¬u1z e.2 id<0∧u4d n=true∧u08 e.1 n<0∧s62 e id=0∧t5q e id n=(p2f e (u10 e id) n,(2,u3d e.1 (u10 e id) n,emp,false,u2z),0):=by
  unfold t5q at h ⊢
  split at h
  · cases h
  · rename_i q1
    split at h
    · cases h
    · rename_i q2
      split at h
      · cases h
      · rename_i q3
        split at h
        · rename_i q4
          exact ⟨q1,by simpa using q2,by omega,q4,by rw [if_neg q1,if_neg q2,if_neg q3,if_pos q4]⟩
        · rename_i q4
          exact absurd h q4
theorem Sync.prep {s:u1m} {b:u0i} (h:Sync s b) (id:Int) (n:ByteArray):∃b',Sync (s6k s id n).1 b' ∧(b' =b∨((s6k s id n).2=0∧(t5q s.1 id n).2.2=0∧u6c b (2,u3d s.1.1 (u10 s.1 id) n,emp,false,u2z)=some b')):=by
  have hE:=h.eng
  unfold s6k
  by_cases c0:(t5q s.1 id n).2.2=0
  · rw [if_pos c0]
    obtain ⟨h1,hn,hr,hc,ec⟩:=p2g c0
    obtain ⟨j0,rd,rl⟩:=p7m hc
    obtain ⟨k,hk,e1,e2,e3⟩:=u07 h1
    have ht:u10 s.1 id∈s.1.2:=by rw [e2]; exact List.getElem_mem hk
    obtain ⟨tR,t1,ts⟩:=hE.open_ _ ht
    have h9:(u10 s.1 id).1<9999:=by have:=hE.bel _ (List.mem_append_right _ ht); have:=hE.base.next.2; omega
    have hnn:=p5x.mp hr
    obtain ⟨x,p1,p2,p3⟩:=q50 (t:=u10 s.1 id) (n:=n) h.like hE.base h.right tR (by omega) hn ts rl hnn (fun x hx=>hE.apart x (List.mem_append_right _ hx) _ ht) h9
    rw [ec]
    simp only
    cases hk2:t2b s.2 (2,u3d s.1.1 (u10 s.1 id) n,emp,false,u2z) with
    | none=>exact ⟨b,h.leave id, .inl rfl⟩
    | some d=>
      obtain ⟨l1,l2⟩:=r5r h.play h.right h.own (.rdy _ (q3u tR (by omega) hn) rfl) p1 hk2
      have hB:BaseR (u1i s.1.1 (u10 s.1 id) n):=s1r hE.base tR (by omega) ts hn rl hnn (fun x hx=>hE.apart x hx _ ht) h9
      exact ⟨x,⟨p7n hE ht hn rl hnn,l1,l2,p2,p3.tidy hB _⟩, .inr ⟨by trivial,by trivial,p1⟩⟩
  · rw [if_neg c0]
    refine ⟨b,?_, .inl rfl⟩
    unfold t5q
    split
    · exact h
    · split
      · exact h
      · split
        · exact h
        · split
          · rename_i q1 q2 q3 q4
            exfalso; apply c0
            unfold t5q; rw [if_neg q1,if_neg q2,if_neg q3,if_pos q4]
          · exact h.leave id
theorem Sync.fin {s:u1m} {b:u0i} (h:Sync s b) (n:ByteArray) (yes:Bool):∃b',Sync (r8c s n yes).1 b' ∧(b' =b∨((r8c s n yes).2=0∧(r28 s.1 n yes).2.2=0∧u6c b (3,u5c,n,yes,u2z)=some b')):=by
  have hE:=h.eng
  unfold r8c
  by_cases c0:(r28 s.1 n yes).2.2=0
  · rw [if_pos c0]
    unfold r28 at c0
    split at c0
    · cases c0
    · rename_i q1
      split at c0
      · cases c0
      · rename_i q2
        obtain ⟨k,hk,r1,r2⟩:=t39 q1
        obtain ⟨tR,t2,ts⟩:=hE.base.ready _ (List.getElem_mem hk)
        have hn:u4d n=true:=by rw [←r2]; exact tR.name t2
        cases yes with
        | true=>
          have hf:r1r s.1.1=false:=by simpa using q2
          obtain ⟨f1,f2,f3⟩:=q3l hf
          have ec:r28 s.1 n true=(p9f s.1 s.1.1.2.2.1[k],(3,u5c,n,true,u2z),0):=by
            unfold r28; rw [if_neg q1,if_neg q2,if_pos rfl,r1,zTn,y8k (t:=u0z) hk]
          obtain ⟨x,p1,p2,p3⟩:=q99 h.like hE.base h.right f3 f2 hn hk r1
          rw [ec]
          simp only
          cases hk2:t2b s.2 (3,u5c,n,true,u2z) with
          | none=>exact ⟨b,h, .inl rfl⟩
          | some d=>
            obtain ⟨l1,l2⟩:=r5r h.play h.right h.own (.fin n true hn) p1 hk2
            exact ⟨x,⟨p9g hE (List.getElem_mem hk) hf,l1,l2,p2,p3.tidy (s0s hE (.inr (List.getElem_mem hk)) hf) _⟩, .inr ⟨by trivial,by trivial,p1⟩⟩
        | false=>
          have ec:r28 s.1 n false=(noE s.1 n,(3,u5c,n,false,u2z),0):=by
            unfold r28; rw [if_neg q1,if_neg q2,if_neg (by decide)]
          obtain ⟨x,p1,p2,p3⟩:=p2e h.like hE.base h.right hn hk r1
          rw [ec]
          simp only
          cases hk2:t2b s.2 (3,u5c,n,false,u2z) with
          | none=>exact ⟨b,h, .inl rfl⟩
          | some d=>
            obtain ⟨l1,l2⟩:=r5r h.play h.right h.own (.fin n false hn) p1 hk2
            exact ⟨x,⟨o1i hE n,l1,l2,p2,p3.tidy (r7m hE.base n) _⟩, .inr ⟨by trivial,by trivial,p1⟩⟩
  · rw [if_neg c0]
    exact ⟨b,h, .inl rfl⟩
theorem Sync.fix {s:u1m} {b:u0i} (h:Sync s b):Sync (p3l s).1 b:=by
  unfold p3l
  cases ha:p0y s.2 with
  | none=>exact h
  | some d=>
    obtain ⟨_,l1,l2⟩:=q8g h.play h.right h.own ha
    exact ⟨h.eng,l1,l2,h.right,h.like⟩
end
section
theorem r2r (x:u0f):ahead x x=false:=by
  cases q:ahead x x with
  | false=>rfl
  | true=>exact absurd rfl (t5d.mp q).1
structure PassedR (t:u0f) (P R:List u0f):Prop extends Passed t P R where
  e1:∀x∈P++R,∀y∈R,ahead x t=true→ahead t y=true→False
  e2:∀x∈R,∀y∈R,ahead t x=true→ahead x y=true→y.1≠t.1→False
theorem Ser.ready {H:List u0f} {e:u1p} (h:Ser H e) {t:u0f} {n:ByteArray} (ht:t∈e.2) (hk:u4d n=true) (hl:e.1.2.2.1.length<3) (hn:∀x∈e.1.2.2.1,x.2.2.2.2.2.2.2≠n) (hp:PassedR t e.1.2.1 e.1.2.2.1):
    Ser H (u1i e.1 t n,u6f e t.1):=by
  have hE:=h.eng
  obtain ⟨tR,t1,ts⟩:=hE.open_ t ht
  have t3:t.2.1≠3:=by omega
  have hgn:=u83 e.1.2.2.2.2 t.1
  have hHs:∀y∈H,y.2.2.1≤e.1.2.2.2.1:=fun y hy=>by have:=h.snap y hy; omega
  have hRs:∀y∈e.1.2.2.1,y.2.2.1≤e.1.2.2.2.1:=fun y hy=>(hE.base.ready y hy).2.2
  have aL:∀y:u0f,ahead (u3d e.1 t n) y=ahead t y:=fun y=>by
    apply Bool.eq_iff_iff.mpr
    rw [t5d,t5d]
    refine and_congr_right fun _=>and_congr ⟨fun _ q=>t3 q.1,fun _ q=> ?_⟩ Iff.rfl
    have q:(2:Int)=3:=q.1
    omega
  have aR:∀y:u0f,ahead y (u3d e.1 t n)=ahead y t:=fun y=>by
    apply Bool.eq_iff_iff.mpr
    rw [t5d,t5d]
    refine and_congr_right fun _=>and_congr Iff.rfl (and_congr ⟨fun _ q=>t3 q.1,fun _ q=> ?_⟩ Iff.rfl)
    have q:(2:Int)=3:=q.1
    omega
  have inP:∀y∈H,ahead y t=true→ ∃x∈e.1.2.1,ahead x t=true:=fun y hy q=>by
    obtain ⟨x,hx,hs⟩:=h.inPast ht hy (.inr q)
    exact ⟨x,hx,by rw [hs.ahead (SameC.refl t)]; exact q⟩
  have outP:∀y∈H,ahead t y=true→ ∃x∈e.1.2.1,SameC x y∧ahead t x=true:=fun y hy q=>by
    obtain ⟨x,hx,hs⟩:=h.inPast ht hy (.inl q)
    exact ⟨x,hx,hs,by rw [(SameC.refl t).ahead hs]; exact q⟩
  have ready' :∀ {p:u0f},p∈(u1i e.1 t n).2.2.1→p∈e.1.2.2.1∨p=u3d e.1 t n:=fun {x} hx=>by
    rcases List.mem_append.mp hx with hx | hx
    · rcases List.mem_append.mp hx with hx | hx
      · exact .inl (List.mem_filter.mp hx).1
      · rw [List.mem_singleton] at hx; exact .inr hx
    · exact .inl (List.mem_filter.mp hx).1
  obtain ⟨u1,u2,u3⟩:=o00.mp h.uqh
  have hB:BaseR (u1i e.1 t n):=s1r hE.base tR t3 ts hk hl hn (fun x hx=>hE.apart x hx t ht) (by have:=hE.bel t (List.mem_append_right _ ht); have:=hE.base.next.2; omega)
  have hE' :EngR (u1i e.1 t n,u6f e t.1):=r4l hE hB (u5i e t.1) (Int.le_refl _) hgn.1 fun x hx y hy=>by
    have hy' :=(u5i e t.1).subset hy
    rcases List.mem_append.mp hx with hx | hx
    · exact hE.apart x (List.mem_append_left _ hx) y hy'
    · rcases ready' hx with hx | rfl
      · exact hE.apart x (List.mem_append_right _ hx) y hy'
      · exact (r75 hy).symm
  have apart:∀q∈e.1.2.2.1,q.1≠t.1:=fun q hq=>hE.apart q (List.mem_append_right _ hq) t ht
  refine ⟨hE',h.st,h.snap,h.asc,?_,?_,h.pin,?_,h.outp,?_,h.no3,?_,?_,?_,?_,h.ww,?_,?_⟩
  · -- uq
    have hu:=hE'.uq
    rw [List.append_assoc] at hu
    obtain ⟨k1,k2,k3⟩:=o00.mp hu
    refine o00.mpr ⟨u1,k2,fun x hx y hy=> ?_⟩
    rcases List.mem_append.mp hy with hy | hy
    · rcases ready' hy with hy | rfl
      · exact u3 x hx y (List.mem_append_left _ hy)
      · exact u3 x hx t (List.mem_append_right _ ht)
    · exact u3 x hx y (List.mem_append_right _ ((u5i e t.1).subset hy))
  · intro x hx
    have:=h.bel x hx
    show x.1<u09 e.1.2.2.2.2 t.1
    omega
  · exact fun y hy o ho=>h.cov y hy o ((u5i e t.1).subset ho)
  · -- outr
    intro p hp' y hy ha
    rcases ready' hp' with hp' | rfl
    · exact h.outr p hp' y hy ha
    · rw [aL] at ha
      obtain ⟨z,hz,_,hz2⟩:=outP y hy ha
      show (t.2.2.2.2.2.2.1 || r1x t e.1.2.1)=true
      have:r1x t e.1.2.1=true:=List.any_eq_true.mpr ⟨z,hz,by rw [(hE.base.past z hz).2.1,hz2]; rfl⟩
      rw [this,Bool.or_true]
  · -- noA
    intro x hx p hp' z hz q1 q2 l
    rcases ready' hp' with hp' | rfl
    · exact h.noA x hx p hp' z hz q1 q2 l
    · rw [aR] at q1; rw [aL] at q2
      obtain ⟨v,hv,hv2⟩:=inP x hx q1
      obtain ⟨w,hw,_,hw2⟩:=outP z hz q2
      exact hp.d1 v (List.mem_append_left _ hv) w hw hv2 hw2
  · -- noB
    intro p hp' y hy z hz q1 q2 l
    rcases ready' hp' with hp' | rfl
    · exact h.noB p hp' y hy z hz q1 q2 l
    · rw [aL] at q1
      obtain ⟨w,hw,hs,hw2⟩:=outP y hy q1
      refine hp.d2 w (List.mem_append_left _ hw) (h.outp w hw z hz ?_ (by rw [hs.cs]; exact l)) hw2
      rw [hs.ahead (SameC.refl z)]; exact q2
  · -- noD
    intro p hp' q hq z hz q1 q2
    rcases ready' hp' with hp' | rfl
    · rcases ready' hq with hq | rfl
      · exact h.noD p hp' q hq z hz q1 q2
      · rw [aR] at q1; rw [aL] at q2
        obtain ⟨w,hw,_,hw2⟩:=outP z hz q2
        exact hp.d1 p (List.mem_append_right _ hp') w hw q1 hw2
    · rcases ready' hq with hq | rfl
      · rw [aL] at q1
        exact hp.d2 q (List.mem_append_right _ hq) (h.outr q hq z hz q2) q1
      · rw [r2r] at q1; cases q1
  · -- noE
    intro p hp' q hq r hr q1 q2
    rcases ready' hq with hq | rfl
    · rcases ready' hp' with hp' | rfl
      · rcases ready' hr with hr | rfl
        · exact h.noE p hp' q hq r hr q1 q2
        · rw [aR] at q2
          exact hp.d4 q hq p hp' q2 q1 (apart p hp')
      · rw [aL] at q1
        rcases ready' hr with hr | rfl
        · exact hp.e2 q hq r hr q1 q2 (apart r hr)
        · rw [aR] at q2
          exact hp.d3 q hq q2 q1
    · rw [aR] at q1; rw [aL] at q2
      rcases ready' hp' with hp' | rfl
      · rcases ready' hr with hr | rfl
        · exact hp.e1 p (List.mem_append_right _ hp') r hr q1 q2
        · rw [aR,r2r] at q2; cases q2
      · rw [aL,r2r] at q1; cases q1
  · -- wr
    intro p hp' y hy m
    rcases ready' hp' with hp' | rfl
    · exact h.wr p hp' y hy m
    · show y.2.2.2.1≤t.2.2.1
      apply Int.not_lt.mp
      intro hlt
      obtain ⟨w,hw,hs⟩:=h.cov y hy t ht hlt
      refine hp.nb w (List.mem_append_left _ hw) (hE.apart w (List.mem_append_left _ hw) t ht) (.inr ⟨(hE.base.past w hw).2.1,by rw [hs.cs]; exact hlt⟩) ?_
      rw [hs.ws]; exact m
  · -- rr
    intro p hp' q hq hne m
    rcases ready' hp' with hp' | rfl
    · rcases ready' hq with hq | rfl
      · exact h.rr p hp' q hq hne m
      · exact hp.nb p (List.mem_append_right _ hp') (apart p hp') (.inl (hE.base.ready p hp').2.1) m
    · rcases ready' hq with hq | rfl
      · refine hp.nb q (List.mem_append_right _ hq) (apart q hq) (.inl (hE.base.ready q hq).2.1) ?_
        rw [q09]; exact m
      · exact hne rfl
end
end
end Go.Proofs.YtbkicjpdlchbgaaGreat.Ab
