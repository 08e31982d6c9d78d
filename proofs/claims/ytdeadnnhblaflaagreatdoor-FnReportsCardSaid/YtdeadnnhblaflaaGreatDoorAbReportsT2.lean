import Derived.Test.YtdeadnnhblaflaaGreatDoorAbReportsT1
import Derived.Test.YtdeadnnhblaflaaGreatDoorAbK2
import Derived.Test.YtdeadnnhblaflaaGreatDoorAbF4
import Derived.Test.YtdeadnnhblaflaaGreatDoorAbS2
import Derived.Test.YtdeadnnhblaflaaGreatDoorAbS4
namespace Go.Proofs.YtdeadnnhblaflaaGreatDoor.Ab
open Go
set_option linter.unusedVariables false
set_option linter.unusedSimpArgs false
set_option linter.unnecessarySimpa false
set_option linter.unusedSectionVars false
section
section
abbrev u0j:=Hu Hs×Hu (Int×Hs)
theorem p68:(⟨#[]⟩:Hs)=emp:=rfl
def r0d (a b c:Int):Bool:=decide (b≤a)&&decide (a≤c)
theorem t3h (a b c:Int):u0r (a,b,c)=some (r0d a b c):=by
 rw[r4y];unfold s49 r0d
 simp only[ge_iff_le]
 cases decide (b≤a)<;>rfl
theorem t9u {d:u0j} :d.1.length≤o2z.wt d:=by simp only[Ty.wt];omega
theorem s5k {d:u0j} :d.2.length≤o2z.wt d:=by simp only[Ty.wt];omega
theorem p57 {d:u0j} {s:Hs} (h:s∈d.1):s.size≤o2z.wt d:=by
 have h1:o2z.wt d=(d.1.length+(d.1.map Ty.str.wt).sum)+(d.2.length+(d.2.map q9c.wt).sum):=rfl
 have h2:=q2l (f:=Ty.str.wt) h
 have h3:Ty.str.wt s=s.size:=rfl
 omega
theorem p50 {d:u0j} {p:Int×Hs} (h:p∈d.2):p.2.size≤o2z.wt d:=by
 have h1:o2z.wt d=(d.1.length+(d.1.map Ty.str.wt).sum)+(d.2.length+(d.2.map q9c.wt).sum):=rfl
 have h2:=q2l (f:=q9c.wt) h
 have h3:q9c.wt p=0+p.2.size:=rfl
 omega
def u8d (c:Hu (Int×Hs)) (at_:Int):Ht Hs:=c.foldl (fun t p=>if p.1=at_ then some p.2 else t) none
def u0i (d:u0j) (at_:Int):Hs×Bool:=if 0≤at_∧at_<d.1.length then((u8d d.2 at_).getD (rdL Ty.str d.1 at_.toNat),true) else(emp,false)
theorem s57 (c:Hu (Int×Hs)) (p:Int×Hs) (at_:Int):u8d (c++ [p]) at_=if p.1=at_ then some p.2 else u8d c at_:=by
 simp[u8d,List.foldl_append]
theorem s95 {c:Hu (Int×Hs)} {at_:Int} {s:Hs} (h:u8d c at_=some s):∃p∈c,p.2=s:=by
 have key:∀(c:Hu (Int×Hs)) (z:Ht Hs),c.foldl (fun t p=>if p.1=at_ then some p.2 else t) z=some s→z=some s∨ ∃p∈c,p.2=s:=by
  intro c
  induction c with
  | nil=>intro z h;exact .inl h
  | cons p c ih=>
   intro z h
   rw[Bs] at h
   rcases ih _ h with h | ⟨q,hq,h⟩
   ·split at h
    ·exact .inr ⟨p,by simp,by simpa using h⟩
    ·exact .inl h
   ·exact .inr ⟨q,by simp[hq],h⟩
 rcases key c none h with h | h
 ·cases h
 ·exact h
theorem r47 (d:u0j) (at_:Int):(u0i d at_).1.size≤o2z.wt d:=by
 unfold u0i
 split
 ·rename_i h
  cases hl:u8d d.2 at_ with
  | none=>
   simp only[Eo]
   have hi:at_.toNat<d.1.length:=by omega
   rw[y8l (t:=Ty.str) hi]
   exact p57 (Ag hi)
  | some s=>
   simp only[Eb]
   obtain⟨p,hp,rfl⟩:=s95 hl
   exact p50 hp
 ·show 0≤_;omega
theorem p5e (d:u0j) (at_:Int) (hd:d.1.length≤u0y):r0d at_ 0 (IntKind.i64.wrap ((d.1.length:Int) - 1))=decide (0≤at_∧at_<d.1.length):=by
 unfold u0y at hd
 rw[y4u (by omega) (by omega)]
 unfold r0d
 by_cases h:0≤at_∧at_<d.1.length
 ·rw[Bb h,Bb h.1,Bb (by omega)];rfl
 ·rw[A7 h]
  by_cases h0:0≤at_
  ·rw[Bb h0,A7 (by omega)];rfl
  ·rw[A7 h0];rfl
theorem t54 (d:u0j) (at_:Int) (hd:o2z.wt d≤u0y):u3x (d,at_)=some (u0i d at_):=by
 have h1:d.1.length≤u0y:=A9 t9u hd
 have h2:d.2.length≤u0y:=A9 s5k hd
 rw[r3l];unfold t9j
 simp only[t3h,p5e d at_ h1,zOb]
 unfold u0i
 unfold u0y at h1 h2
 by_cases h:0≤at_∧at_<d.1.length
 ·have hg:y4l at_ d.1.length=true:=by simp[y4l,h]
  have L:∀n:Nat,n≤d.2.length→u5v (at_,d,(n:Int) - 1)=some (match u8d (d.2.take n) at_ with
   | some s=> .inr (s,true)
   | none=> .inl (at_,d)):=by
   intro n
   induction n with
   | zero=>
    intro _
    rw[t66];simp only[u5r]
    rfl
   | succ n ih=>
    intro hn
    have hlt:n<d.2.length:=by omega
    rw[t66];simp only[u5r]
    have e0:((n+1:Nat):Int) - 1=(n:Int):=by simp
    have e1:decide ((n:Int)≥0)=true:=by simp
    simp only[e0,e1,Ad,y7s hlt,zTn,y8l (t:=q9c) hlt]
    rw[B9 hlt,s57]
    by_cases hp:(d.2[n]).1=at_
    ·simp only[hp,Ae,Ad,Bl]
    ·simp only[hp,Ah,Aa,Bk]
     rw[y4u (by omega) (by omega)]
     exact ih (by omega)
  have L:=L d.2.length (Au _)
  rw[Cq] at L
  have wl:IntKind.i64.wrap ((d.2.length:Int) - 1)=(d.2.length:Int) - 1:=y4u (by omega) (by omega)
  simp only[h,and_self,Ae,Ap,Aa,Bl]
  rw[wl,L]
  cases u8d d.2 at_ with
  | none=>simp only[zOb,hg,Ad,Eo]
  | some s=>rfl
 ·simp only[h,Ah,Bh,Ad,Bk];rfl
def r34 (d:u0j) (from_:Int):Nat→Nat→Hs→Hs×Bool
 | 0,_,acc=>(acc,true)
 | m+1,i,acc=>if(u0i d (from_+(i:Int))).2 then r34 d from_ m (i+1) (acc++(u0i d (from_+(i:Int))).1) else(emp,false)
def u8l (d:u0j) (from_ n:Int):Hs×Bool:=if 0≤n∧n≤100 then r34 d from_ n.toNat 0 emp else(emp,false)
theorem q4a {a b c:Int} :r0d a b c=decide (b≤a∧a≤c):=by
 unfold r0d
 by_cases h:b≤a<;>by_cases g:a≤c<;>simp[h,g]
theorem r60 (d:u0j) (from_ n:Int) (hd:o2z.wt d≤1073741824) (h1: -4611686018427387904≤from_) (h2:from_≤4611686018427387904):t2z (d,from_,n)=some (u8l d from_ n):=by
 have hb:o2z.wt d≤u0y:=by unfold u0y;omega
 rw[r3n];unfold t9l u8l
 simp only[t3h,q4a,zOb]
 by_cases h:0≤n∧n≤100
 ·obtain⟨m,rfl⟩:∃m:Nat,n=m:=⟨n.toNat,by omega⟩
  have L:=r65 (fun x=>(u5w x).bind fun r=>match r with
   | .inl o=>some (o,true)
   | .inr z=>some z) m (fun(a:Hs) i=>(from_,(m:Int),d,a,i)) (fun i a=>r34 d from_ (m - i) i a) (fun i a=>a.size≤i*1073741824∧(i=0∨0≤from_))
   (fun a _=>by
    rw[t67];simp only[u5s,u0b,Am,Ah,Aa,zOb,Dw,r34])
   (fun i a hi ha=>by
    have e:m - i=(m - (i+1))+1:=by omega
    have hs:=r47 d (from_+(i:Int))
    rw[t67];simp only[u5s,u0b,hi,Ae,Ad]
    rw[e]
    simp only[r34]
    by_cases hf:from_<0∨from_ >(d.1.length:Int)
    ·left
     have hno:(u0i d (from_+(i:Int))).2=false:=by
      unfold u0i
      rw[Ao (by omega)]
     rw[hno]
     by_cases hf1:from_<0
     ·rw[Bb hf1];rfl
     ·have hf2:from_ >(d.1.length:Int):=by omega
      rw[A7 hf1,Bb hf2];rfl
    ·have hf1: ¬from_<0:=by omega
     have hf2: ¬from_ >(d.1.length:Int):=by omega
     rw[A7 hf1,A7 hf2]
     simp only[Aa,zOb]
     rw[y4u (n:=from_+(i:Int)) (by omega) (by omega),t54 d _ hb]
     simp only[zOb]
     cases hr:(u0i d (from_+(i:Int))).2 with
     | false=>left;rfl
     | true=>
      right
      refine⟨a++(u0i d (from_+(i:Int))).1,⟨by rw[Af];omega,by omega⟩,by simp,?_⟩
      simp only[Ap,Aa,Bb (show a.size+(u0i d (from_+(i:Int))).1.size≤140737488355328 by omega),Ad]
      rw[y7j (by omega)]) 0 emp (by omega) ⟨by show 0≤_;omega, .inl rfl⟩
  rw[Bb h,Al h,Ap,Aa]
  exact L
 ·rw[A7 h,Ao h];rfl
end
section
def t7b (n:Nat):Hu Int:=if h:n<128 then[(n:Int)] else((n % 128+128:Nat):Int)::t7b (n / 128)
termination_by n
decreasing_by omega
theorem s6l {n:Nat} (h:n<128):t7b n= [(n:Int)] :=by rw[t7b,dif_pos h]
theorem r38 {n:Nat} (h: ¬n<128):t7b n=((n % 128+128:Nat):Int)::t7b (n / 128):=by rw[t7b,dif_neg h]
theorem p6m (n:Nat):(t7b n).length≤n+1:=by
 induction n using Nat.strongRecOn with
 | _ n ih=>
  by_cases h:n<128
  ·rw[s6l h];simp
  ·rw[r38 h]
   have:=ih (n / 128) (by omega)
   simp only[Bc];omega
theorem p6n {S:Type} {W:Int×Hu Int→Ht ((Int×Hu Int)⊕S)}
 (hW:∀x,W x=(bif (decide (x.1 >(127:Int))) then(bif (Nat.ble (x.2.length+([(IntKind.u8.wrap (IntKind.i64.wrap ((Int.tmod x.1 (128:Int))+(128:Int))))] :Hu Int).length) z8x) then
  (W ((IntKind.i64.wrap (Int.tdiv x.1 (128:Int))),(x.2++([(IntKind.u8.wrap (IntKind.i64.wrap ((Int.tmod x.1 (128:Int))+(128:Int))))] :Hu Int)))) else none) else(some (.inl x)))):
 ∀(n:Nat) (acc:Hu Int),acc.length+n≤1000000000000→ ∃m:Nat,∃acc' :Hu Int,W ((n:Int),acc)=some (.inl ((m:Int),acc'))∧m<128∧acc' ++ [(m:Int)] =acc++t7b n∧acc'.length≤acc.length+n:=by
 intro n
 induction n using Nat.strongRecOn with
 | _ n ih=>
  intro acc hn
  rw[hW]
  by_cases h:n<128
  ·have:decide ((n:Int) >(127:Int))=false:=by simp;omega
   simp only[this,Aa]
   exact⟨n,acc,rfl,h,by rw[s6l h],by omega⟩
  ·have h1:decide ((n:Int) >(127:Int))=true:=by simp;omega
   have h2:Int.tmod (n:Int) (128:Int)=((n % 128:Nat):Int):=q7e n 128
   have h3:Int.tdiv (n:Int) (128:Int)=((n / 128:Nat):Int):=p38 n 128
   have h4:IntKind.u8.wrap (IntKind.i64.wrap (((n % 128:Nat):Int)+(128:Int)))=((n % 128+128:Nat):Int):=by
    rw[y4u (by omega) (by omega)]
    have:((n % 128:Nat):Int)+128=((n % 128+128:Nat):Int):=by simp
    rw[this,p4f (by omega)]
   simp only[h1,h2,h3,h4,Ad,Aw,u07 (show acc.length+1≤1099511627776 by omega)]
   rw[y8b (by omega)]
   obtain⟨m,acc',e1,e2,e3,e4⟩:=ih (n / 128) (by omega) (acc++ [((n % 128+128:Nat):Int)]) (by simp;omega)
   refine⟨m,acc',e1,e2,?_,?_⟩
   ·rw[e3,r38 h,Bi];rfl
   ·have:(acc++ [((n % 128+128:Nat):Int)]).length=acc.length+1:=by simp
    omega
theorem r8c (n:Nat) (hn:n≤100000000000):u1b (n:Int)=some (y7e (t7b n)):=by
 rw[q3p];unfold r04
 obtain⟨m,acc',e1,e2,e3,e4⟩:=p6n (W:=t16) (fun x=>r87 x) n [] (by simp;omega)
 have e4:acc'.length≤n:=by simpa using e4
 simp only[e1,zOb,Aw,u07 (show acc'.length+1≤1099511627776 by omega),Ad]
 rw[p4f (by omega),e3];rfl
def s7j:Nat→Nat→Nat→Hu UInt8→Ht (Nat×Nat)
 | 0,_,_,_=>none
 | _+1,_,_, [] =>none
 | f+1,i,n,b::l=>
  if b.toNat<128 then(if n+b.toNat % 128*128^i≤1000000000∧(t7b (n+b.toNat % 128*128^i)).length=i+1 then some (n+b.toNat % 128*128^i,i+1) else none)
  else s7j f (i+1) (n+b.toNat % 128*128^i) l
def r84 (at_:Int) (r:Ht (Nat×Nat)):Int×Int×Bool:=match r with
 | some (n,k)=>((n:Int),at_+(k:Int),true)
 | none=>(0,0,false)
def u0x (t:Hs) (at_:Int):Int×Int×Bool:=if 0≤at_∧at_≤t.size then r84 at_ (s7j 5 0 0 (t.data.toList.drop at_.toNat)) else(0,0,false)
theorem q4s:∀(f i n:Nat) (l:Hu UInt8) (v k:Nat),s7j f i n l=some (v,k)→v≤1000000000∧k≤i+l.length∧i<k
 | 0,_,_,_,_,_,h=>by cases h
 | _+1,_,_, [],_,_,h=>by cases h
 | f+1,i,n,b::l,v,k,h=>by
  simp only[s7j] at h
  split at h
  ·split at h
   ·rename_i h2
    simp only[Ac,Ak] at h
    obtain⟨rfl,rfl⟩:=h
    exact⟨h2.1,by simp,by omega⟩
   ·cases h
  ·have:=q4s f (i+1) _ l v k h
   simp only[Bc]
   omega
theorem t1h {t:Hs} {at_:Int} (h:(u0x t at_).2.2=true):0≤(u0x t at_).1∧(u0x t at_).1≤1000000000∧0≤at_∧at_<(u0x t at_).2.1∧(u0x t at_).2.1≤t.size:=by
 unfold u0x at h ⊢
 split at h
 ·rename_i hc
  rw[Al hc]
  cases hv:s7j 5 0 0 (t.data.toList.drop at_.toNat) with
  | none=>rw[hv] at h;cases h
  | some r=>
   obtain⟨v,k⟩:=r
   have:=q4s 5 0 0 _ v k hv
   have hl:(t.data.toList.drop at_.toNat).length=t.size - at_.toNat:=by simp
   simp only[r84]
   omega
 ·cases h
theorem o0q (i:Nat) (h:i≤5):128^i≤34359738368:=by
 rcases i with _ | _ | _ | _ | _ | _ | i
 all_goals first | decide | omega
def q2i:Hu UInt8→Nat
 | [] =>0
 | b::l=>b.toNat % 128+128*q2i l
theorem p4b (l:Hu UInt8) (b:UInt8):q2i (l++ [b])=q2i l+b.toNat % 128*128^l.length:=by
 induction l with
 | nil=>simp[q2i]
 | cons x l ih=>
  simp only[Ef,q2i,ih,Bc,Gr]
  rw[Nat.mul_add]
  have:128*(b.toNat % 128*128^l.length)=b.toNat % 128*(128^l.length*128):=by
   rw[Fk 128,Nat.mul_assoc]
  omega
theorem p82 (l:Hu UInt8) (b:UInt8) (hl:∀x∈l,¬x.toNat<128) (hb:b.toNat<128) (h:(t7b (q2i (l++ [b]))).length=l.length+1):t7b (q2i (l++ [b]))=(l++ [b]).map fun x=>(x.toNat:Int):=by
 induction l with
 | nil=>
  have:q2i ([] ++ [b])=b.toNat:=by simp[q2i];omega
  rw[this,s6l hb];rfl
 | cons x l ih=>
  have hx:x.toNat<256:=Fw x
  have hx2:=hl x (by simp)
  simp only[Ef,q2i] at h ⊢
  by_cases hs:x.toNat % 128+128*q2i (l++ [b])<128
  ·rw[s6l hs] at h
   simp at h
  ·rw[r38 hs] at h ⊢
   have e1:(x.toNat % 128+128*q2i (l++ [b])) / 128=q2i (l++ [b]):=by omega
   have e2:(x.toNat % 128+128*q2i (l++ [b])) % 128+128=x.toNat:=by omega
   rw[e1] at h ⊢
   rw[e2]
   simp only[Bc,Nat.add_right_cancel_iff] at h
   rw[ih (fun y hy=>hl y (by simp[hy])) h]
   rfl
theorem p6e (l:Hu UInt8):y7e (l.map fun x=>(x.toNat:Int))=⟨l.toArray⟩:=by
 unfold y7e
 simp only[List.map_map]
 have:(l.map ((fun n=>UInt8.ofNat n.toNat) ∘fun b=>(b.toNat:Int)))=l:=by
  conv=>rhs;rw[←List.map_id l]
  apply Ff
  intro b _
  simp
 rw[this]
theorem s5o (t:Hs) (a b:Nat) (h:b≤t.size):t.extract a b=⟨((t.data.toList.drop a).take (b - a)).toArray⟩:=by
 apply Gf
 simp only[ByteArray.data_extract]
 apply Fj
 simp[F7]
theorem o0g {q:Nat} (h:q≤1000000000):decide ((q:Int) >(1000000000:Int))=false:=by simp;omega
theorem o0e {q:Nat} (h: ¬q≤1000000000):decide ((q:Int) >(1000000000:Int))=true:=by simp;omega
theorem r4f (t:Hs) (at_:Int) (ht:t.size≤u0y):t3n (t,at_)=some (u0x t at_):=by
 unfold u0y at ht
 rw[r97];unfold s78 u0x
 simp only[t3h,q4a,zOb]
 by_cases h:0≤at_∧at_≤t.size
 ·obtain⟨p,rfl⟩:∃p:Nat,at_=p:=⟨at_.toNat,by omega⟩
  have hp:p≤t.size:=by omega
  rw[Bb h,Al h]
  have L:∀(f i:Nat),i+f=5→p+i≤t.size→(∀x∈(t.data.toList.drop p).take i,¬x.toNat<128)→q2i ((t.data.toList.drop p).take i)<128^i→
   ((t0o (t,(p:Int),((q2i ((t.data.toList.drop p).take i):Nat):Int),((128^i:Nat):Int),((p+i:Nat):Int))).bind fun r=>match r with
   | .inl o=>some ((0:Int),(0:Int),false)
   | .inr z=>some z)=some (r84 p (s7j f i (q2i ((t.data.toList.drop p).take i)) (t.data.toList.drop (p+i)))):=by
   intro f
   induction f with
   | zero=>
    intro i hi hpi hall hn
    have:i=5:=by omega
    subst this
    rw[s34];simp only[t0a]
    have e1:decide (((p+5:Nat):Int)<IntKind.i64.wrap ((p:Int)+5))=false:=by rw[y4u (by omega) (by omega)];simp
    rw[e1]
    cases decide (((p+5:Nat):Int)<(t.size:Int))<;>rfl
   | succ f ih=>
    intro i hi hpi hall hn
    have hi5:i<5:=by omega
    have hpw:=o0q i (by omega)
    rw[s34];simp only[t0a]
    have e1:decide (((p+i:Nat):Int)<IntKind.i64.wrap ((p:Int)+5))=true:=by rw[y4u (by omega) (by omega)];simp;omega
    by_cases hlt:p+i<t.size
    ·have hd:t.data.toList.drop (p+i)=(t.data.toList[p+i]'(by simpa using hlt))::t.data.toList.drop (p+i+1):=Ce (by simpa using hlt)
     have hb:(t.data.toList[p+i]'(by simpa using hlt)).toNat<256:=Fw _
     have htk:(t.data.toList.drop p).take (i+1)=(t.data.toList.drop p).take i++ [t.data.toList[p+i]'(by simpa using hlt)] :=by
      rw[B9 (by simp;omega)]
      simp
     have htl:((t.data.toList.drop p).take i).length=i:=by simp;omega
     have hvs:=p4b ((t.data.toList.drop p).take i) (t.data.toList[p+i]'(by simpa using hlt))
     rw[htl] at hvs
     rw[hd]
     generalize hc:(t.data.toList[p+i]'(by simpa using hlt))=c at hb htk hvs
     generalize hn' :q2i ((t.data.toList.drop p).take i)=n at hn hvs ⊢
     have e2:decide (((p+i:Nat):Int)<(t.size:Int))=true:=by simp;omega
     have t2:Int.tmod ((c.toNat:Nat):Int) (128:Int)=((c.toNat % 128:Nat):Int):=q7e _ 128
     have hm:c.toNat % 128*128^i≤127*34359738368:=Ei (by omega) hpw
     have w2:IntKind.i64.wrap (((c.toNat % 128:Nat):Int)*((128^i:Nat):Int))=((c.toNat % 128*128^i:Nat):Int):=by
      rw[←Int.natCast_mul];exact y8b (by omega)
     have w3:IntKind.i64.wrap ((n:Int)+((c.toNat % 128*128^i:Nat):Int))=((n+c.toNat % 128*128^i:Nat):Int):=by
      rw[←Int.natCast_add];exact y8b (by omega)
     have wp:IntKind.i64.wrap (((p+i:Nat):Int)+1)=((p+i+1:Nat):Int):=y7j (by omega)
     have ws:IntKind.i64.wrap (((128^i:Nat):Int)*128)=((128^(i+1):Nat):Int):=by
      rw[Gr,Int.natCast_mul]
      exact y4u (by omega) (by omega)
     simp only[e1,e2,Ad,zOb,y7s hlt,zTn,r6i hlt,hc,y8b (show c.toNat≤4611686018427387904 by omega),t2,w2,w3,wp,ws,s7j]
     by_cases hc1:c.toNat<128
     ·have e4:decide (((c.toNat:Nat):Int)<(128:Int))=true:=by simp;omega
      simp only[e4,Ad,Al hc1]
      by_cases hv:n+c.toNat % 128*128^i≤1000000000
      ·have e5:decide (((n+c.toNat % 128*128^i:Nat):Int) >(1000000000:Int))=false:=o0g hv
       have e6:(decide (0≤(p:Int))&&decide ((p:Int)≤((p+i+1:Nat):Int))&&decide (((p+i+1:Nat):Int)≤(t.size:Int)))=true:=by simp;omega
       simp only[e5,Aa,r8c _ (show n+c.toNat % 128*128^i≤100000000000 by omega),zOb,e6,Ad]
       have hx:t.extract p (p+i+1)=⟨((t.data.toList.drop p).take (i+1)).toArray⟩:=by
        rw[s5o t p (p+i+1) (by omega)]
        have:p+i+1 - p=i+1:=by omega
        rw[this]
       rw[hx]
       have hv' :n+c.toNat % 128*128^i=q2i ((t.data.toList.drop p).take i++ [c]):=hvs.symm
       by_cases hl:(t7b (n+c.toNat % 128*128^i)).length=i+1
       ·rw[Al ⟨hv,hl⟩]
        have key:t7b (n+c.toNat % 128*128^i)=((t.data.toList.drop p).take (i+1)).map fun x=>(x.toNat:Int):=by
         rw[hv',htk]
         exact p82 _ c hall hc1 (by rw[←hv',hl,htl])
        rw[key,p6e,y6j]
        simp only[Ap,Aa,zOb,r84]
        simp[Int.add_assoc]
       ·rw[Ao (fun hh=>hl hh.2)]
        have hne:z7l (y7e (t7b (n+c.toNat % 128*128^i))) ⟨((t.data.toList.drop p).take (i+1)).toArray⟩=false:=by
         rw[←Ey,y7d]
         intro hh
         have:=Dj ByteArray.size hh
         rw[u2j] at this
         apply hl
         rw[this]
         show((t.data.toList.drop p).take (i+1)).toArray.size=_
         simp;omega
        rw[hne];rfl
      ·have e5:decide (((n+c.toNat % 128*128^i:Nat):Int) >(1000000000:Int))=true:=o0e hv
       rw[Ao (fun hh=>hv hh.1),e5];rfl
     ·have e4:decide (((c.toNat:Nat):Int)<(128:Int))=false:=by simp;omega
      simp only[e4,Aa,Ao hc1]
      have:=ih (i+1) (by omega) (by omega) (by
       rw[htk]
       intro x hx
       rcases Ay.mp hx with hx | hx
       ·exact hall x hx
       ·simp at hx;rw[hx];exact hc1) (by
       rw[htk,hvs]
       have:128^(i+1)=128^i*128:=Gr 128 i
       have h2:c.toNat % 128*128^i≤127*128^i:=Ei (by omega) (Au _)
       omega)
      rw[htk,hvs] at this
      exact this
    ·have e2:decide (((p+i:Nat):Int)<(t.size:Int))=false:=by simp;omega
     have hd:t.data.toList.drop (p+i)= [] :=Dp (by simp;omega)
     rw[hd]
     simp only[e2,zOb,Aa,s7j]
     rfl
  exact L 5 0 rfl (by omega) (by simp) (by simp[q2i])
 ·rw[A7 h,Ao h];rfl
end
section
def u0u (t:Hs) (at_:Int):Hs×Int×Bool:=
 if(u0x t at_).2.2=true∧(u0x t at_).1≤20000∧(u0x t at_).1≤(t.size:Int) - (u0x t at_).2.1 then
  (t.extract (u0x t at_).2.1.toNat ((u0x t at_).2.1+(u0x t at_).1).toNat,(u0x t at_).2.1+(u0x t at_).1,true)
 else(emp,0,false)
theorem s6g {t:Hs} {at_:Int} (h:(u0u t at_).2.2=true):0≤(u0u t at_).2.1∧(u0u t at_).2.1≤t.size:=by
 unfold u0u at h ⊢
 split at h
 ·rename_i hc
  rw[Al hc]
  have:=t1h hc.1
  simp only
  omega
 ·cases h
theorem p1m (t:Hs) (at_:Int) (ht:t.size≤u0y):
 (((bif (!(u0x t at_).2.2) then(some true) else(bif (decide ((u0x t at_).1 >(20000:Int))) then(some true) else(some (decide ((u0x t at_).1 >(IntKind.i64.wrap ((t.size:Int) - (u0x t at_).2.1))))))):Ht Bool).bind fun j2=>
  (bif j2 then(some ((⟨#[]⟩:Hs),((0:Int),false))) else(bif (decide (0≤(u0x t at_).2.1)&&decide ((u0x t at_).2.1≤(IntKind.i64.wrap ((u0x t at_).2.1+(u0x t at_).1)))&&decide ((IntKind.i64.wrap ((u0x t at_).2.1+(u0x t at_).1))≤(t.size:Int))) then
   (some ((t.extract ((u0x t at_).2.1).toNat ((IntKind.i64.wrap ((u0x t at_).2.1+(u0x t at_).1))).toNat),((IntKind.i64.wrap ((u0x t at_).2.1+(u0x t at_).1)),true))) else none)))=some (u0u t at_):=by
 unfold u0y at ht
 unfold u0u
 cases ho:(u0x t at_).2.2 with
 | false=>rfl
 | true=>
  have hk:=t1h ho
  rw[y4u (n:=(t.size:Int) - (u0x t at_).2.1) (by omega) (by omega),y4u (n:=(u0x t at_).2.1+(u0x t at_).1) (by omega) (by omega)]
  by_cases h1:(u0x t at_).1 >20000
  ·rw[Ao (by omega),Bb h1];rfl
  ·rw[A7 h1]
   by_cases h2:(u0x t at_).1 >(t.size:Int) - (u0x t at_).2.1
   ·rw[Ao (by omega),Bb h2];rfl
   ·rw[Al ⟨rfl,by omega,by omega⟩,A7 h2]
    simp only[Ap,Aa,zOb]
    rw[Bb (show 0≤(u0x t at_).2.1 by omega),Bb (show(u0x t at_).2.1≤(u0x t at_).2.1+(u0x t at_).1 by omega),Bb (show(u0x t at_).2.1+(u0x t at_).1≤(t.size:Int) by omega)]
    rfl
theorem s7p (t:Hs) (at_:Int) (ht:t.size≤u0y):t0y (t,at_)=some (u0u t at_):=by
 rw[r5v];unfold s2g
 simp only[r4f t at_ ht,zOb]
 exact p1m t at_ ht
def r5i (t:Hs):Int:=((t.data.toList.getD 0 0).toNat:Int)
theorem q2y (t:Hs):0≤r5i t∧r5i t<256:=by
 unfold r5i
 have:(t.data.toList.getD 0 0).toNat<256:=Fw _
 omega
def u2v (d:u0j) (s:Int):Int:=r5i (u0i d s).1
theorem p1f {d:u0j} {s:Int} (h:(u0i d s).2=false):(u0i d s).1=emp:=by
 unfold u0i at h ⊢
 split at h
 ·cases h
 ·rename_i hc;rw[Ao hc]
theorem p01 (r:Hs×Bool) (h:r.2=false→r.1=emp):
 (((bif (!r.2) then(some true) else(some (z7l r.1 (⟨#[]⟩:Hs)))):Ht Bool).bind fun j2=>(bif j2 then(some (0:Int)) else(bif (y4l (0:Int) r.1.size) then(some (IntKind.i64.wrap ((r.1.data.toList.getD ((0:Int)).toNat 0).toNat:Int))) else none)))=some (r5i r.1):=by
 obtain⟨t,o⟩:=r
 cases o with
 | false=>
  have:t=emp:=h rfl
  subst this;rfl
 | true=>
  simp only[Ap,Aa,zOb]
  by_cases he:t=emp
  ·subst he
   have:z7l emp (⟨#[]⟩:Hs)=true:=y6j emp
   simp only[this,Ad];rfl
  ·have h1:z7l t (⟨#[]⟩:Hs)=false:=by
    rw[←Ey,y7d];exact he
   have h2:t.size≠0:=by
    intro hz
    apply he
    apply Gf
    apply Fi
    exact hz
   have h3:y4l (0:Int) t.size=true:=by simp[y4l];omega
   have hb:(t.data.toList.getD 0 0).toNat<256:=Fw _
   simp only[h1,Aa,h3,Ad,Ho]
   rw[y8b (by omega)];rfl
theorem s5r (d:u0j) (s:Int) (hd:o2z.wt d≤u0y):u9t (d,s)=some (u2v d s):=by
 rw[q0l];unfold s8n
 simp only[t54 d s hd,zOb]
 exact p01 _ (fun h=>p1f h)
def u0q (d:u0j):Int:=Int.tmod (u2v d 0) 2
theorem u5y (d:u0j):u0q d=0∨u0q d=1:=by
 have:=q2y (u0i d 0).1
 unfold u0q u2v
 have e:=Int.tmod_eq_emod_of_nonneg (b:=2) this.1
 rw[e];omega
theorem t5k (d:u0j) (hd:o2z.wt d≤u0y):u5g d=some (u0q d):=by
 rw[r7h];unfold s4r
 simp only[s5r d 0 hd,zOb];rfl
def p05 (a:Int):Bool:=decide (a=0) || decide (a=1)
def u0d (a:Int):Int:=if p05 a then 1+a*48 else 0
theorem p5d {a:Int} :p05 a=true↔a=0∨a=1:=by simp[p05]
theorem t7n (a:Int):0≤u0d a∧u0d a≤49:=by
 unfold u0d
 split
 ·rename_i h;have:=p5d.mp h;omega
 ·omega
theorem s64 (a:Int):u0r (a,0,1)=some (p05 a):=by
 rw[t3h,q4a]
 congr 1
 rw[Cd,p5d,decide_eq_true_iff];omega
theorem u9k (a:Int):u3a a=some (u0d a):=by
 rw[r5o];unfold s19 u0d
 simp only[s64,zOb]
 cases h:p05 a with
 | false=>rfl
 | true=>
  have:=p5d.mp h
  simp only[Ap,Aa,Bl]
  rw[y4u (n:=a*48) (by omega) (by omega),y4u (by omega) (by omega)]
def u05 (d:u0j) (a:Int):Int:=if p05 a then u2v d (u0d a) else 0
theorem r3j (d:u0j) (a:Int):0≤u05 d a∧u05 d a<256:=by
 unfold u05
 split
 ·exact q2y _
 ·omega
theorem t3y (d:u0j) (a:Int) (hd:o2z.wt d≤u0y):u62 (d,a)=some (u05 d a):=by
 rw[r9w];unfold s7x u05
 simp only[s64,u9k,s5r d _ hd,zOb]
 cases p05 a<;>rfl
def u4p (t:Hs):Nat→Int→Hu Hs→Hu Hs×Int×Bool
 | 0,at_,acc=>(acc,at_,true)
 | m+1,at_,acc=>if(u0u t at_).2.2&& !z7l (u0u t at_).1 emp then u4p t m (u0u t at_).2.1 (acc++ [(u0u t at_).1]) else([],0,false)
def u0c (d:u0j) (a:Int):Hu Hs×Int×Bool:=
 if p05 a&&(u8l d (u0d a+1) 47).2 then u4p (u8l d (u0d a+1) 47).1 (u05 d a).toNat 0 [] else([],0,false)
theorem q2c (d:u0j) (from_:Int):∀(m i:Nat) (acc:Hs),(r34 d from_ m i acc).1.size≤acc.size+m*o2z.wt d
 | 0,i,acc=>by simp[r34]
 | m+1,i,acc=>by
  unfold r34
  split
  ·have h1:=q2c d from_ m (i+1) (acc++(u0i d (from_+(i:Int))).1)
   have h2:=r47 d (from_+(i:Int))
   rw[Af] at h1
   have:(m+1)*o2z.wt d=m*o2z.wt d+o2z.wt d:=C7 _ _
   omega
  ·show 0≤_;omega
theorem r49 (d:u0j) (from_ n:Int):(u8l d from_ n).1.size≤100*o2z.wt d:=by
 unfold u8l
 split
 ·have h:=q2c d from_ n.toNat 0 emp
  have h2:emp.size=0:=rfl
  have h3:n.toNat*o2z.wt d≤100*o2z.wt d:=Ei (by omega) (Au _)
  omega
 ·show 0≤_;omega
theorem s05 (d:u0j) (a:Int) (hd:o2z.wt d≤1073741824):u5h (d,a)=some (u0c d a):=by
 have hb:o2z.wt d≤u0y:=by unfold u0y;omega
 have hf:=t7n a
 have hz:(u8l d (u0d a+1) 47).1.size≤u0y:=by have:=r49 d (u0d a+1) 47;unfold u0y;omega
 have hc:=r3j d a
 rw[r7o];unfold s4y u0c
 simp only[s64,u9k,zOb]
 rw[y4u (n:=u0d a+1) (by omega) (by omega)]
 simp only[r60 d (u0d a+1) 47 hd (by omega) (by omega),zOb]
 generalize u8l d (u0d a+1) 47=s at hz
 cases hs:s.2 with
 | false=>cases p05 a<;>rfl
 | true=>
  cases ha:p05 a with
  | false=>rfl
  | true=>
   have L:=r65 (fun x=>(u7o x).bind fun r=>match r with
    | .inl o=>some (o.1,o.2,true)
    | .inr z=>some z) (u05 d a).toNat (fun(p:Hu Hs×Int) i=>(a,d, [],s.1,p.1,p.2,i)) (fun i p=>u4p s.1 ((u05 d a).toNat - i) p.2 p.1) (fun i p=>p.1.length≤i)
    (fun p _=>by
     rw[t8j];simp only[u7e,t3y d a hb,zOb]
     rw[A7 (by omega)]
     simp only[Aa,zOb,Dw,u4p])
    (fun i p hi hp=>by
     have e:(u05 d a).toNat - i=((u05 d a).toNat - (i+1))+1:=by omega
     rw[t8j];simp only[u7e,t3y d a hb,zOb]
     rw[Bb (by omega),e]
     simp only[Ad,s7p s.1 p.2 hz,zOb,u4p,p68]
     cases hr:(u0u s.1 p.2).2.2 with
     | false=>left;rfl
     | true=>
      cases hq:z7l (u0u s.1 p.2).1 emp with
      | true=>left;rfl
      | false=>
       right
       refine⟨(p.1++ [(u0u s.1 p.2).1],(u0u s.1 p.2).2.1),by simp;omega,by simp,?_⟩
       simp only[Ap,Aa,zOb,Aw,u07 (show p.1.length+1≤1099511627776 by omega),Ad]
       rw[y7j (by omega)]) 0 ([],0) (by omega) (by simp)
   simp only[Ap,Aa,zOb,Dt,Bl]
   exact L
def u0h (d:u0j):Hu Hs:=(u0c d (u0q d)).1
theorem q1m (t:Hs):∀(m:Nat) (at_:Int) (acc:Hu Hs),(u4p t m at_ acc).1.length≤acc.length+m
 | 0,at_,acc=>by simp[u4p]
 | m+1,at_,acc=>by
  unfold u4p
  split
  ·have:=q1m t m (u0u t at_).2.1 (acc++ [(u0u t at_).1])
   simp at this;omega
  ·simp
theorem r46 (d:u0j) (a:Int):(u0c d a).1.length<256:=by
 unfold u0c
 split
 ·have h:=q1m (u8l d (u0d a+1) 47).1 (u05 d a).toNat 0 []
  have:=r3j d a
  simp at h;omega
 ·simp
def o0u (a b:Hu Hs):Bool:=decide (a=b)
theorem p1k {a b:Hu Hs} (h:a.length=b.length):(bif (a.zip b).any (fun p=> !z7l p.1 p.2) then false else true)=decide (a=b):=by
 induction a generalizing b with
 | nil=>
  cases b with
  | nil=>rfl
  | cons y b=>simp at h
 | cons x a ih=>
  cases b with
  | nil=>simp at h
  | cons y b=>
   have h' :a.length=b.length:=by simpa using h
   have:=ih h'
   simp only[List.zip_cons_cons,Gd,List.cons.injEq]
   by_cases e:x=y
   ·subst e
    simp only[y6j,Ap,Ci,true_and]
    exact this
   ·have:z7l x y=false:=by rw[←Ey,y7d];exact e
    simp[this,e]
def p32 (a b:u0j):Bool:=o0u (u0h a) (u0h b)
end
section
def u09 (d:u0j):Bool:=decide (1≤d.1.length∧d.1.length≤100)&&decide (d.2.length≤60)&&d.1.all (fun s=>decide (s.size=64))&&d.2.all (fun p=>r0d p.1 0 ((d.1.length:Int) - 1)&&decide (p.2.size=64))
theorem p2w {α:Type} (l:Hu α) (p:α→Bool):l.any (fun x=> !p x)= !l.all p:=by
 induction l with
 | nil=>rfl
 | cons x l ih=>simp only[Gd,Gc,ih,Bool.not_and]
theorem t50 (d:u0j) (hd:o2z.wt d≤u0y):u52 d=some (u09 d):=by
 have h1:d.1.length≤u0y:=A9 t9u hd
 have h2:d.2.length≤u0y:=A9 s5k hd
 unfold u0y at h1 h2
 have L1:=s9w t11 d.1 (fun i=>(d,i)) (fun s=> !decide (s.size=64)) (.inr false) (.inl d)
  (by rw[s6r];simp only[t1s,u0b,Am,Ah,Aa])
  (fun i hi=>by
   rw[s6r];simp only[t1s,u0b,hi,Ae,Ad,y7s hi,zTn,y8l (t:=Ty.str) hi]
   rw[y7j (by omega)]
   have:decide (((d.1[i]).size:Int)=(64:Int))=decide ((d.1[i]).size=64):=by simp only[Cu];omega
   rw[this])
 have L2:=s9w t12 d.2 (fun i=>(d,i)) (fun p=> !(r0d p.1 0 ((d.1.length:Int) - 1)&&decide (p.2.size=64))) (.inr false) (.inl ())
  (by rw[s6s];simp only[t1t,u0b,Am,Ah,Aa])
  (fun i hi=>by
   rw[s6s];simp only[t1t,u0b,hi,Ae,Ad,y7s hi,zTn,y8l (t:=q9c) hi,t3h,zOb]
   rw[y7j (by omega),y4u (n:=(d.1.length:Int) - 1) (by omega) (by omega)]
   have:decide (((d.2[i]).2.size:Int)=(64:Int))=decide ((d.2[i]).2.size=64):=by simp only[Cu];omega
   rw[this]
   cases r0d (d.2[i]).1 0 ((d.1.length:Int) - 1)<;>rfl)
 rw[q3c];unfold r0r u09
 simp only[t3h,q4a (a:=(d.1.length:Int)),L1,zOb]
 have e1:decide ((1:Int)≤(d.1.length:Int)∧(d.1.length:Int)≤100)=decide (1≤d.1.length∧d.1.length≤100):=by simp only[Cu];omega
 have e2:decide ((d.2.length:Int) >60)= !decide (d.2.length≤60):=by
  rw[←decide_not,Cu];omega
 rw[e1,e2,p2w]
 cases decide (1≤d.1.length∧d.1.length≤100) with
 | false=>rfl
 | true=>
  cases decide (d.2.length≤60) with
  | false=>rfl
  | true=>
   cases d.1.all (fun s=>decide (s.size=64)) with
   | false=>rfl
   | true=>
    simp only[Ap,Aa,zOb,L2,p2w]
    cases d.2.all _<;>rfl
def u1i (d:u0j):Bool:=u09 d&&decide (d.1.length=97)&&decide (d.2.length=0)&&(u0c d 0).2.2&&(u0c d 1).2.2
theorem r3c (d:u0j) (hd:o2z.wt d≤1073741824):t4b d=some (u1i d):=by
 have hb:o2z.wt d≤u0y:=by unfold u0y;omega
 rw[q5z];unfold r4n u1i
 have hs:u5i ()=some 97:=by rw[t9v];rfl
 simp only[t50 d hb,hs,s05 d _ hd,zOb]
 have e1:decide ((d.1.length:Int)=97)=decide (d.1.length=97):=by rw[Cu];omega
 have e2:decide ((d.2.length:Int) >0)= !decide (d.2.length=0):=by rw[←decide_not,Cu];omega
 rw[e1,e2]
 cases u09 d<;>cases decide (d.1.length=97)<;>cases decide (d.2.length=0)<;>cases (u0c d 0).2.2<;>cases (u0c d 1).2.2<;>rfl
end
section
theorem p23 (d:u0j):o2z.wt d=(d.1.length+(d.1.map ByteArray.size).sum)+(d.2.length+(d.2.map fun p=>0+p.2.size).sum):=rfl
theorem q2e {α:Type} {l:Hu α} {f:α→Nat} {k:Nat} (h:∀x∈l,f x≤k):(l.map f).sum≤l.length*k:=by
 induction l with
 | nil=>simp
 | cons x l ih=>
  have h1:=h x (C9 ..)
  have h2:=ih (fun y hy=>h y (Bm _ hy))
  simp only[C8,Ge,Bc,C7]
  omega
theorem q1s {d:u0j} :u09 d=true↔(1≤d.1.length∧d.1.length≤100)∧d.2.length≤60∧(∀s∈d.1,s.size=64)∧ ∀p∈d.2,(0≤p.1∧p.1<(d.1.length:Int))∧p.2.size=64:=by
 unfold u09
 simp only[Ai,Ar,Bg,r0d,and_assoc]
 constructor
 ·rintro⟨a,b,c,e,f⟩
  exact⟨a,b,c,e,fun p hp=>by obtain⟨x,y,z⟩:=f p hp;exact⟨x,by omega,z⟩⟩
 ·rintro⟨a,b,c,e,f⟩
  exact⟨a,b,c,e,fun p hp=>by obtain⟨x,y,z⟩:=f p hp;exact⟨x,by omega,z⟩⟩
theorem u18 {d:u0j} (h:u09 d=true):o2z.wt d≤11000:=by
 obtain⟨h1,h2,h3,h4⟩:=q1s.mp h
 have a1:=q2e (l:=d.1) (f:=ByteArray.size) (k:=64) (fun s hs=>by rw[h3 s hs];exact Au _)
 have a2:=q2e (l:=d.2) (f:=fun p=>0+p.2.size) (k:=64) (fun p hp=>by rw[(h4 p hp).2];exact Au _)
 rw[p23]
 omega
theorem u2y (d:u0j) (hd:o2z.wt d≤u0y):u0s d=some d:=by
 have h1:d.1.length≤u0y:=A9 t9u hd
 have h2:d.2.length≤u0y:=A9 s5k hd
 unfold u0y at h1 h2
 rw[q0j];unfold s8l
 have a1:Nat.ble (([] :Hu Hs).length+d.1.length) z8x=true:=u07 (by simp;omega)
 have a2:Nat.ble (([] :Hu r0c.den).length+d.2.length) z8x=true:=u07 (by simp;omega)
 simp only[a1,a2,Ad,Cf]
def u3o (d:u0j) (k:Int) (t:Hs):Ht u0j:=if u09 (d.1,d.2++ [(k,t)]) then some (d.1,d.2++ [(k,t)]) else none
def orD (d:u0j):Ht u0j→u0j×Bool
 | some x=>(x,true)
 | none=>(d,false)
theorem s9z (d:u0j) (k:Int) (t:Hs):u09 (d.1,d.2++ [(k,t)])=(u09 d&&(r0d k 0 ((d.1.length:Int) - 1)&&(decide (t.size=64)&& !decide (60≤d.2.length)))):=by
 rw[Cd]
 simp only[Ai,Bj,Ar,Bu]
 rw[q1s,q1s]
 simp only[Ba,Aw,Ay,Ax,r0d,Ai,Ar]
 constructor
 ·rintro⟨a,b,c,e⟩
  have:=e (k,t) (.inr rfl)
  exact⟨⟨a,by omega,c,fun p hp=>e p (.inl hp)⟩,⟨this.1.1,by have:=this.1.2;omega⟩,this.2,by omega⟩
 ·rintro⟨⟨a,b,c,e⟩,⟨f1,f2⟩,g,h⟩
  refine⟨a,by omega,c,fun p hp=> ?_⟩
  rcases hp with hp | rfl
  ·exact e p hp
  ·exact⟨⟨f1,by show k<(d.1.length:Int);omega⟩,g⟩
theorem s13 (d:u0j) (k:Int) (t:Hs) (hd:o2z.wt d≤1073741824) (ht:t.size≤1073741824):u4v (d,k,t)=some (orD d (u3o d k t)):=by
 have h2:d.2.length≤1073741824:=A9 s5k hd
 have h1:d.1.length≤1073741824:=A9 t9u hd
 have a:Nat.ble (d.2.length+([(k,t)] :Hu r0c.den).length) z8x=true:=u07 (by simp;omega)
 have w:IntKind.i64.wrap ((d.1.length:Int) - 1)=(d.1.length:Int) - 1:=y4u (by omega) (by omega)
 have e1:decide ((t.size:Int)=(64:Int))=decide (t.size=64):=by simp only[Cu];omega
 have e2:decide ((d.2.length:Int)≥(60:Int))=decide (60≤d.2.length):=by simp only[Cu];omega
 rw[r1t];unfold t7i
 simp only[u2y d (by unfold u0y;omega),t50 d (by unfold u0y;omega),zOb,a,Ad,t3h,w,e1,e2]
 unfold u3o
 rw[s9z]
 cases u09 d<;>cases r0d k 0 ((d.1.length:Int) - 1)<;>cases decide (t.size=64)<;>cases decide (60≤d.2.length)<;>rfl
def q2j:Nat→u0j→Nat→Nat→Hs→Ht u0j
 | 0,d,_,_,_=>some d
 | f+1,d,k,at_,t=>if t.size=0 then some d else
  if(u0i d (k:Int)).2=true∧(u0i d (k:Int)).1.size=64 then
   (u3o d (k:Int) ((u0i d (k:Int)).1.extract 0 at_++t.extract 0 (min t.size (64 - at_))++(u0i d (k:Int)).1.extract (at_+min t.size (64 - at_)) 64)).bind fun x=>
    q2j f x (k+1) 0 (t.extract (min t.size (64 - at_)) t.size)
  else none
theorem q4u (f:Nat) (d:u0j) (k at_:Nat) {t:Hs} (h:t.size=0):q2j f d k at_ t=some d:=by
 cases f with
 | zero=>rfl
 | succ f=>rw[q2j,Al h]
theorem u8n {d x:u0j} {k:Int} {t:Hs} (h:u3o d k t=some x):u09 x=true∧x=(d.1,d.2++ [(k,t)]):=by
 unfold u3o at h
 split at h
 ·rename_i hk;cases h;exact⟨hk,rfl⟩
 ·cases h
theorem r5a {t:Hs} :z7l t ⟨#[]⟩=decide (t.size=0):=by
 rw[Cd,y7d,Ar]
 constructor
 ·rintro rfl;rfl
 ·intro h
  have:t.data= #[] :=by apply Fi;exact h
  cases t;simp at this;rw[this]
theorem p4e (d0 jk:u0j) (sec at_:Nat) (t:Hs) (hsec:sec≤2000000000) (hat:at_≤6400) (ht:t.size≤1048576) (h0:o2z.wt d0≤1073741824):∀(f i:Nat) (out:u0j),i≤t.size→t.size - i<f→o2z.wt out≤1073741824→
 u2n ((sec:Int),(at_:Int),t,d0,jk,out,(i:Int))=some (match q2j f out (sec+(at_+i) / 64) ((at_+i) % 64) (t.extract i t.size) with
  | some x=> .inl (jk,x)
  | none=> .inr (d0,false))
 | 0,i,out,_,h,_=>by omega
 | f+1,i,out,hi,hf,ho=>by
  have hsz:(t.extract i t.size).size=t.size - i:=by simp only[Bd];omega
  have w0:IntKind.i64.wrap ((at_:Int)+(i:Int))=((at_+i:Nat):Int):=by rw[y4u (by omega) (by omega)];omega
  have t1:Int.tdiv ((at_+i:Nat):Int) (64:Int)=(((at_+i) / 64:Nat):Int):=p38 (at_+i) 64
  have t2:Int.tmod ((at_+i:Nat):Int) (64:Int)=(((at_+i) % 64:Nat):Int):=q7e (at_+i) 64
  obtain⟨q,hq⟩:∃q,q=(at_+i) / 64:=⟨_,rfl⟩
  obtain⟨m,hm⟩:∃m,m=(at_+i) % 64:=⟨_,rfl⟩
  have w1:IntKind.i64.wrap ((q:Int))=(q:Int):=y4u (by omega) (by omega)
  have w2:IntKind.i64.wrap ((sec:Int)+(q:Int))=((sec+q:Nat):Int):=by rw[y4u (by omega) (by omega)];omega
  have w3:IntKind.i64.wrap ((64:Int) - (m:Int))=((64 - m:Nat):Int):=by rw[y4u (by omega) (by omega)];omega
  have w4:IntKind.i64.wrap ((t.size:Int) - (i:Int))=((t.size - i:Nat):Int):=by rw[y4u (by omega) (by omega)];omega
  rw[r0b]
  simp only[t03,w0,t1,t2,←hq,←hm,w1,w2,w3,w4,t54 out ((sec+q:Nat):Int) (by unfold u0y;omega),u2y d0 (by unfold u0y;omega),zOb,u0b]
  rw[q2j,hsz]
  by_cases hz:i<t.size
  ·have hz' : ¬t.size - i=0:=by omega
   simp only[hz,Ae,Ad,hz',Bk]
   generalize u0i out ((sec+q:Nat):Int)=r
   obtain⟨old,rok⟩:=r
   cases rok with
   | false=>simp
   | true=>
    have e64:decide ((old.size:Int)=(64:Int))=decide (old.size=64):=by simp only[Cu];omega
    simp only[Ap,Aa,zOb,e64]
    by_cases hs:old.size=64
    ·obtain⟨n,hn⟩:∃n,n=min (t.size - i) (64 - m):=⟨_,rfl⟩
     have z0:((0:Int)).toNat=0:=rfl
     have hm64:m<64:=by omega
     have body:∀N:Nat,N=n→IntKind.i64.wrap ((i:Int)+(N:Int))=((i+n:Nat):Int)∧IntKind.i64.wrap ((m:Int)+(N:Int))=((m+n:Nat):Int):=fun N hN=>by
      subst hN
      exact⟨by rw[y4u (by omega) (by omega)];omega,by rw[y4u (by omega) (by omega)];omega⟩
     have c1:(decide ((0:Int)≤0)&&decide ((0:Int)≤(m:Int))&&decide ((m:Int)≤((64:Nat):Int)))=true:=by simp;omega
     have c2:(decide ((0:Int)≤(i:Int))&&decide ((i:Int)≤((i+n:Nat):Int))&&decide (((i+n:Nat):Int)≤(t.size:Int)))=true:=by simp;omega
     have c3:decide ((old.extract 0 m).size+(t.extract i (i+n)).size≤140737488355328)=true:=by simp only[Bd,Ar];omega
     have c4:(decide ((0:Int)≤((m+n:Nat):Int))&&decide (((m+n:Nat):Int)≤((64:Nat):Int))&&decide (((64:Nat):Int)≤((64:Nat):Int)))=true:=by simp;omega
     have c5:decide ((old.extract 0 m++t.extract i (i+n)).size+(old.extract (m+n) 64).size≤140737488355328)=true:=by simp only[Af,Bd,Ar];omega
     have hx1:(t.extract i t.size).extract 0 n=t.extract i (i+n):=by
      rw[ByteArray.extract_extract];congr 1;omega
     have hx2:(t.extract i t.size).extract n (t.size - i)=t.extract (i+n) t.size:=by
      rw[ByteArray.extract_extract];congr 1;omega
     have hw:=s13 out ((sec+q:Nat):Int) (old.extract 0 m++t.extract i (i+n)++old.extract (m+n) 64) ho (by simp only[Af,Bd];omega)
     have ih:∀x:u0j,u09 x=true→u2n ((sec:Int),(at_:Int),t,d0,jk,x,((i+n:Nat):Int))=some (match q2j f x (sec+q+1) 0 (t.extract (i+n) t.size) with
      | some x=> .inl (jk,x)
      | none=> .inr (d0,false)):=fun x hx=>by
      have:=p4e d0 jk sec at_ t hsec hat ht h0 f (i+n) x (by omega) (by omega) (A9 (u18 hx) (by omega))
      rw[this]
      by_cases he:i+n=t.size
      ·have hsz2:(t.extract (i+n) t.size).size=0:=by simp only[Bd];omega
       rw[q4u _ _ _ _ hsz2,q4u _ _ _ _ hsz2]
      ·have hn2:n=64 - m:=by omega
       have e1:sec+(at_+(i+n)) / 64=sec+q+1:=by omega
       have e2:(at_+(i+n)) % 64=0:=by omega
       rw[e1,e2]
     rw[←hn,hx1,hx2]
     simp only[hs,Ae,Ap,Aa,and_self,Bl]
     by_cases hb:t.size - i<64 - m
     ·obtain⟨b1,b2⟩:=body (t.size - i) (by omega)
      simp only[hb,Ae,Ad,b1,b2,zTn,z0,c3,c5]
      rw[c1,c2,c4]
      simp only[Ad,hw,zOb]
      cases hx:u3o out ((sec+q:Nat):Int) (old.extract 0 m++t.extract i (i+n)++old.extract (m+n) 64) with
      | none=>simp[orD]
      | some x=>
       simp only[orD,Ap,Aa,zOb]
       exact ih x (u8n hx).1
     ·obtain⟨b1,b2⟩:=body (64 - m) (by omega)
      simp only[hb,Ah,Aa,b1,b2,zTn,z0,c3,c5]
      rw[c1,c2,c4]
      simp only[Ad,hw,zOb]
      cases hx:u3o out ((sec+q:Nat):Int) (old.extract 0 m++t.extract i (i+n)++old.extract (m+n) 64) with
      | none=>simp[orD]
      | some x=>
       simp only[orD,Ap,Aa,zOb]
       exact ih x (u8n hx).1
    ·simp[hs]
  ·have hz' :t.size - i=0:=by omega
   simp only[hz,Ah,Aa,hz',Bl]
def u15 (d:u0j) (sector at_:Int) (t:Hs):Ht u0j:=
 if r0d at_ 0 6400&&r0d sector 0 ((d.1.length:Int) - 1)&&u09 d then q2j (t.size+1) d (sector.toNat+at_.toNat / 64) (at_.toNat % 64) t else none
theorem u8a (d:u0j) (sector at_:Int) (t:Hs) (hd:o2z.wt d≤1073741824) (ht:t.size≤1048576):u2p (d,sector,at_,t)=some (orD d (u15 d sector at_ t)):=by
 have h1:d.1.length≤1073741824:=A9 t9u hd
 have w:IntKind.i64.wrap ((d.1.length:Int) - 1)=(d.1.length:Int) - 1:=y4u (by omega) (by omega)
 rw[r3p];unfold t9n u15
 simp only[u2y d (by unfold u0y;omega),t50 d (by unfold u0y;omega),zOb,t3h,w]
 cases ha:r0d at_ 0 6400 with
 | false=>rfl
 | true=>
  cases hs:r0d sector 0 ((d.1.length:Int) - 1) with
  | false=>rfl
  | true=>
   cases hk:u09 d with
   | false=>rfl
   | true=>
    simp only[r0d,Ai,Ar] at ha hs
    obtain⟨s,rfl⟩:∃s:Nat,sector=(s:Int):=⟨sector.toNat,by omega⟩
    obtain⟨a,rfl⟩:∃a:Nat,at_=(a:Int):=⟨at_.toNat,by omega⟩
    have L:=p4e d ([], []) s a t (by omega) (by omega) ht hd (t.size+1) 0 d (by omega) (by omega) hd
    have L:u2n ((s:Int),(a:Int),t,d,([], []),d,0)=_:=L
    have e:t.extract 0 t.size=t:=Fu
    simp only[Ap,Aa,zOb,L,Dt,Bl,zTn,Df,e]
    cases q2j (t.size+1) d (s+a / 64) (a % 64) t<;>rfl
end
section
def t5g (s:Hu Hs) (p:Int×Hs):Hu Hs:=s.set p.1.toNat p.2
def flush (d:u0j):u0j:=if u09 d then(d.2.foldl t5g d.1, []) else d
theorem s0k (s:Hu Hs) (p:Int×Hs):(t5g s p).length=s.length:=by simp[t5g]
theorem s92:∀(c:Hu (Int×Hs)) (s:Hu Hs),(c.foldl t5g s).length=s.length
 | [],s=>rfl
 | p::c,s=>by rw[Bs,s92 c,s0k]
theorem q1x:∀(c:Hu (Int×Hs)) (s:Hu Hs),(∀p∈c,p.2.size=64)→(∀x∈s,x.size=64)→ ∀x∈c.foldl t5g s,x.size=64
 | [],s,_,h=>h
 | p::c,s,hc,h=>by
  rw[Bs]
  refine q1x c _ (fun q hq=>hc q (Bm _ hq)) (fun x hx=> ?_)
  rcases E0 hx with hx | rfl
  ·exact h x hx
  ·exact hc p (C9 ..)
theorem t0u {d:u0j} (h:u09 d=true):u09 (flush d)=true∧(flush d).2= [] ∧(flush d).1.length=d.1.length:=by
 unfold flush
 rw[Al h]
 obtain⟨h1,h2,h3,h4⟩:=q1s.mp h
 refine⟨q1s.mpr ⟨by rw[s92];exact h1,by simp,q1x _ _ (fun p hp=>(h4 p hp).2) h3,fun p hp=>by cases hp⟩,rfl,s92 _ _⟩
theorem u4w (d:u0j) (hd:o2z.wt d≤1073741824):u1y d=some (flush d):=by
 have h1:d.1.length≤1073741824:=A9 t9u hd
 have h2:d.2.length≤1073741824:=A9 s5k hd
 rw[r5r];unfold s2c flush
 simp only[u2y d (by unfold u0y;omega),t50 d (by unfold u0y;omega),zOb]
 cases hk:u09 d with
 | false=>rfl
 | true=>
  obtain⟨k1,k2,k3,k4⟩:=q1s.mp hk
  have L:=t40 u7n d.2 (fun s i=>(d,([], []),(s,d.2),i)) t5g (fun s=> .inl (([], []),(s,d.2))) (fun _ s=>s.length=d.1.length)
   (fun s _=>by rw[t8h];simp only[u7c,u0b,Am,Ah,Aa])
   (fun i hi s hs=>by
    refine⟨by rw[s0k];exact hs,?_⟩
    have hp:=(k4 d.2[i] (Ag hi)).1
    have hg:y4l (d.2[i]).1 s.length=true:=by simp[y4l,hs,hp.1,hp.2]
    rw[t8h];simp only[u7c,u0b,hi,Ae,Ad,y7s hi,zTn,y8l (t:=q9c) hi,hg]
    rw[y7j (by omega)]
    rfl) d.1 rfl
  simp only[Ap,Aa,L,zOb,Bl]
def r26 (keep:Hu Int) (i:Nat):Bool:=decide (i<keep.length)&& !decide (Int.tmod (rdL (Ty.int .i64) keep i) 2=0)
def u00 (keep:Hu Int):Nat→Int
 | 0=> -1
 | n+1=>if r26 keep n then(n:Int) else u00 keep n
def u8m (tear:Int):Nat:=(if Int.tmod tear 65<0 then Int.tmod tear 65+65 else Int.tmod tear 65).toNat
def u6u (d:u0j) (keep:Hu Int) (last:Int) (n:Nat) (s:Hu Hs) (i:Nat):Hu Hs:=
 if r26 keep i then
  (if(i:Int)=last then t5g s ((rdL q9c d.2 i).1,(rdL q9c d.2 i).2.extract 0 n++(rdL Ty.str s (rdL q9c d.2 i).1.toNat).extract n (rdL Ty.str s (rdL q9c d.2 i).1.toNat).size)
   else t5g s (rdL q9c d.2 i))
 else s
def u5z (d:u0j) (keep:Hu Int) (tear:Int):u0j:=
 if u09 d then((List.range d.2.length).foldl (u6u d keep (u00 keep d.2.length) (u8m tear)) d.1, []) else d
theorem r6p (tear:Int):u8m tear≤64∧((u8m tear:Nat):Int)=(if Int.tmod tear 65<0 then Int.tmod tear 65+65 else Int.tmod tear 65):=by
 have h1:Int.tmod tear 65<65:=Int.tmod_lt_of_pos _ (by omega)
 have h2: -65<Int.tmod tear 65:=by
  have:=Int.lt_tmod_of_pos tear (show(0:Int)<65 by omega)
  exact this
 unfold u8m
 split<;>omega
theorem r8i (keep:Hu Int):∀n,u00 keep n<(n:Int)∧ -1≤u00 keep n
 | 0=>by simp[u00]
 | n+1=>by
  have:=r8i keep n
  unfold u00
  split<;>omega
theorem r42 (keep:Hu Int):∀n i,i<n→r26 keep i=true→(i:Int)≤u00 keep n
 | 0,i,h,_=>by omega
 | n+1,i,h,hk=>by
  unfold u00
  split
  ·omega
  ·rename_i hn
   have:i≠n:=fun z=>by subst z;exact hn hk
   exact r42 keep n i (by omega) hk
theorem r2j (keep:Hu Int):∀n (i:Nat),u00 keep n=(i:Int)→r26 keep i=true
 | 0,i,h=>by simp[u00] at h
 | n+1,i,h=>by
  unfold u00 at h
  split at h
  ·rename_i hk
   have:n=i:=by omega
   subst this;exact hk
  ·exact r2j keep n i h
theorem q6h (keep:Hu Int) (m:Nat) (hm:keep.length≤m):∀n,m≤n→u00 keep n=u00 keep m:=by
 intro n
 induction n with
 | zero=>intro h;have:m=0:=by omega
         rw[this]
 | succ n ih=>
  intro h
  by_cases e:m=n+1
  ·rw[e]
  ·rw[←ih (by omega)]
   show(if r26 keep n then(n:Int) else u00 keep n)=_
   have:r26 keep n=false:=by
    unfold r26
    have:decide (n<keep.length)=false:=by simp;omega
    rw[this];rfl
   rw[this,Ao (by simp)]
theorem r8s {α:Type} (f:α→Nat→α) (a:α) (n:Nat):(List.range (n+1)).foldl f a=f ((List.range n).foldl f a) n:=by
 rw[List.range_succ,List.foldl_append];rfl
section
variable {d:u0j} (hk:u09 d=true) (keep:Hu Int)
include hk in
theorem q20 {n:Nat} (hn:n≤64) {last:Int} {s:Hu Hs} (hs:s.length=d.1.length∧ ∀x∈s,x.size=64) {i:Nat} (hi:i<d.2.length):
 (u6u d keep last n s i).length=d.1.length∧ ∀x∈u6u d keep last n s i,x.size=64:=by
 obtain⟨k1,k2,k3,k4⟩:=q1s.mp hk
 have hp:=k4 d.2[i] (Ag hi)
 have hat:(d.2[i]).1.toNat<s.length:=by omega
 have hold:(rdL Ty.str s (d.2[i]).1.toNat).size=64:=by
  have e:rdL Ty.str s (d.2[i]).1.toNat=s[(d.2[i]).1.toNat] :=y8l (t:=Ty.str) hat
  rw[e]
  exact hs.2 _ (Ag hat)
 unfold u6u
 rw[y8l (t:=q9c) hi]
 split
 ·split
  ·refine⟨by rw[s0k];exact hs.1,fun x hx=> ?_⟩
   rcases E0 hx with hx | rfl
   ·exact hs.2 x hx
   ·simp only[Af,Bd]
    rw[hp.2,hold]
    omega
  ·refine⟨by rw[s0k];exact hs.1,fun x hx=> ?_⟩
   rcases E0 hx with hx | rfl
   ·exact hs.2 x hx
   ·exact hp.2
 ·exact hs
def t45 (d:u0j) (keep:Hu Int) (last:Int) (n i:Nat):Hu Hs:=(List.range i).foldl (u6u d keep last n) d.1
theorem s1a {last:Int} {n i:Nat} :t45 d keep last n (i+1)=u6u d keep last n (t45 d keep last n i) i:=r8s _ _ _
include hk in
theorem s62 {n:Nat} (hn:n≤64) {last:Int} :∀i,i≤d.2.length→(t45 d keep last n i).length=d.1.length∧ ∀x∈t45 d keep last n i,x.size=64
 | 0,_=>⟨rfl,(q1s.mp hk).2.2.1⟩
 | i+1,h=>by
  rw[s1a]
  exact q20 hk keep hn (s62 hn i (by omega)) (by omega)
theorem p0u {last:Int} {n L N:Nat} (h:∀i,L≤i→i<N→r26 keep i=false):∀m,L≤m→m≤N→t45 d keep last n m=t45 d keep last n L:=by
 intro m
 induction m with
 | zero=>intro h _;have:L=0:=by omega
         rw[this]
 | succ m ih=>
  intro hm hN
  by_cases e:L=m+1
  ·rw[e]
  ·rw[s1a,ih (by omega) (by omega)]
   unfold u6u
   rw[h m (by omega) (by omega),Ao (by simp)]
include hk
theorem q21 (tear:Int):u09 (u5z d keep tear)=true∧(u5z d keep tear).2= [] ∧(u5z d keep tear).1.length=d.1.length:=by
 unfold u5z
 rw[Al hk]
 have:=s62 hk keep (r6p tear).1 (last:=u00 keep d.2.length) d.2.length (Au _)
 have k1:=(q1s.mp hk).1
 have hl:(t45 d keep (u00 keep d.2.length) (u8m tear) d.2.length).length=d.1.length:=this.1
 show u09 (t45 d keep (u00 keep d.2.length) (u8m tear) d.2.length, [])=true∧_
 exact⟨q1s.mpr ⟨by simp only[hl];exact k1,by simp,this.2,fun p hp=>by cases hp⟩,rfl,hl⟩
theorem p3g (tear:Int) (jk out:u0j):u20 (keep,tear,d,jk,out,-1,0)=some (.inl (keep,tear,d,jk,out,u00 keep d.2.length)):=by
 have k2:=(q1s.mp hk).2.1
 obtain⟨m,hm⟩:∃m,m=min d.2.length keep.length:=⟨_,rfl⟩
 have htop:u00 keep d.2.length=u00 keep m:=by
  by_cases h:keep.length≤d.2.length
  ·exact q6h keep m (by omega) d.2.length (by omega)
  ·have:m=d.2.length:=by omega
   rw[this]
 rw[htop]
 refine r64 u20 m (fun l i=>(keep,tear,d,jk,out,l,i)) (u00 keep) _ ?_ (fun i hi=> ?_)
 ·rw[t8e];simp only[u69,u0b]
  by_cases h:m<d.2.length
  ·have: ¬m<keep.length:=by omega
   simp only[h,this,Ae,Ah,Ad,Aa,zOb]
  ·simp only[h,Ah,Aa,zOb]
 ·have h1:i<d.2.length:=by omega
  have h2:i<keep.length:=by omega
  rw[t8e];simp only[u69,u0b,h1,h2,Ae,Ad,zOb,y7s h2,zTn]
  rw[y7j (by omega)]
  show _=u20 (keep,tear,d,jk,out,(if r26 keep i then(i:Int) else u00 keep i),((i+1:Nat):Int))
  unfold r26
  simp only[h2,Ae,Bz]
  cases decide (Int.tmod (rdL (Ty.int .i64) keep i) 2=0)<;>rfl
theorem q39 {n:Nat} (hn:n≤64) (jk:u0j):u2l (keep,d,jk,(d.1,d.2),u00 keep d.2.length,(n:Int),0)=some (.inl (jk,(t45 d keep (u00 keep d.2.length) n d.2.length,d.2))):=by
 obtain⟨k1,k2,k3,k4⟩:=q1s.mp hk
 obtain⟨hl1,hl2⟩:=r8i keep d.2.length
 obtain⟨L,hL⟩:∃L:Nat,(L:Int)=u00 keep d.2.length+1:=⟨(u00 keep d.2.length+1).toNat,by omega⟩
 have htop:t45 d keep (u00 keep d.2.length) n d.2.length=t45 d keep (u00 keep d.2.length) n L:=p0u keep (N:=d.2.length) (fun i hi hid=>by
  cases q:r26 keep i with
  | false=>rfl
  | true=>
   have:=r42 keep d.2.length i hid q
   omega) _ (by omega) (Au _)
 rw[htop]
 refine r64 u2l L (fun s i=>(keep,d,jk,(s,d.2),u00 keep d.2.length,(n:Int),i)) (t45 d keep (u00 keep d.2.length) n) _ ?_ (fun i hi=> ?_)
 ·have: ¬(L:Int)≤u00 keep d.2.length:=by omega
  rw[t64];simp only[u5p,this,Ah,Aa]
 ·have hid:i<d.2.length:=by omega
  have hle:(i:Int)≤u00 keep d.2.length:=by omega
  have hkk:i<keep.length:=by
   obtain⟨l,hl⟩:∃l:Nat,u00 keep d.2.length=(l:Int):=⟨(u00 keep d.2.length).toNat,by omega⟩
   have:=r2j keep d.2.length l hl
   unfold r26 at this
   simp only[Ai,Ar] at this
   omega
  obtain⟨i1,i2⟩:=s62 hk keep hn (last:=u00 keep d.2.length) i (by omega)
  have hp:=k4 d.2[i] (Ag hid)
  rw[s1a]
  generalize hS:t45 d keep (u00 keep d.2.length) n i=S at*
  have hat:(d.2[i]).1.toNat<S.length:=by omega
  have hg:y4l (d.2[i]).1 S.length=true:=by simp[y4l,i1,hp.1.1,hp.1.2]
  have hold:(rdL Ty.str S (d.2[i]).1.toNat).size=64:=by
   have e:rdL Ty.str S (d.2[i]).1.toNat=S[(d.2[i]).1.toNat] :=y8l (t:=Ty.str) hat
   rw[e]
   exact i2 _ (Ag hat)
  have c1:(decide ((0:Int)≤0)&&decide ((0:Int)≤(n:Int))&&decide ((n:Int)≤((d.2[i]).2.size:Int)))=true:=by simp;omega
  have c2:(decide ((0:Int)≤(n:Int))&&decide ((n:Int)≤((rdL Ty.str S (d.2[i]).1.toNat).size:Int))&&decide (((rdL Ty.str S (d.2[i]).1.toNat).size:Int)≤((rdL Ty.str S (d.2[i]).1.toNat).size:Int)))=true:=by simp;omega
  have c3:decide (((d.2[i]).2.extract 0 n).size+((rdL Ty.str S (d.2[i]).1.toNat).extract n (rdL Ty.str S (d.2[i]).1.toNat).size).size≤140737488355328)=true:=by simp only[Bd,Ar];omega
  have z0:((0:Int)).toNat=0:=rfl
  rw[t64];simp only[u5p,hle,Ae,Ad,y7s hid,y7s hkk,zTn,y8l (t:=q9c) hid,hg,z0,c3]
  rw[y7j (by omega),c1,c2]
  unfold u6u r26
  rw[y8l (t:=q9c) hid]
  simp only[hkk,Ae,Bz]
  by_cases ho:Int.tmod (rdL (Ty.int .i64) keep i) 2=0
  ·simp only[ho,Ae,Ad,Ap,Br,Bk]
  ·simp only[ho,Ah,Aa,Bh,Bl]
   by_cases hl:(i:Int)=u00 keep d.2.length
   ·simp only[hl,Ae,Ad,Bl]
    rfl
   ·simp only[hl,Ah,Aa,Bk]
    rfl
end
theorem s7m (d:u0j) (keep:Hu Int) (tear:Int) (hd:o2z.wt d≤1073741824):t0v (d,keep,tear)=some (u5z d keep tear):=by
 rw[r5p];unfold s2a u5z
 simp only[u2y d (by unfold u0y;omega),t50 d (by unfold u0y;omega),zOb]
 cases hk:u09 d with
 | false=>rfl
 | true=>
  obtain⟨t1,t2⟩:=r6p tear
  have L1:=p3g hk keep tear ([], []) d
  have L2:=q39 hk keep t1 ([], [])
  rw[t2] at L2
  have hb: -65<Int.tmod tear 65:=Int.lt_tmod_of_pos tear (show(0:Int)<65 by omega)
  simp only[Ap,Aa,L1,zOb,Bl]
  by_cases h:Int.tmod tear 65<0
  ·rw[Al h] at L2
   have w:IntKind.i64.wrap (IntKind.i64.wrap (Int.tmod tear 65+64)+1)=Int.tmod tear 65+65:=by
    rw[y4u (n:=Int.tmod tear 65+64) (by omega) (by omega),y4u (by omega) (by omega)];omega
   simp only[h,Ae,Ad,w,L2,zOb]
   rfl
  ·rw[Ao h] at L2
   simp only[h,Ah,Aa,L2,zOb]
   rfl
end
section
theorem r68 (t:Hs):∀(m:Nat) (at_:Int) (acc:Hu Hs),0≤at_∧at_≤t.size→0≤(u4p t m at_ acc).2.1∧(u4p t m at_ acc).2.1≤t.size
 | 0,at_,acc,h=>h
 | m+1,at_,acc,h=>by
  unfold u4p
  split
  ·rename_i hc
   simp only[Ai] at hc
   exact r68 t m _ _ (s6g hc.1)
  ·simp
theorem s99 (d:u0j) (a:Int):0≤(u0c d a).2.1∧(u0c d a).2.1≤(100*o2z.wt d:Nat):=by
 unfold u0c
 split
 ·have h1:=r68 (u8l d (u0d a+1) 47).1 (u05 d a).toNat 0 [] (by simp)
  have h2:=r49 d (u0d a+1) 47
  omega
 ·simp only[Bv,true_and]
  omega
def u02 (t:Hs):Hs:=y7e (t7b t.size)++t
theorem t8b (t:Hs):t.size≤(u02 t).size∧(u02 t).size≤2*t.size+1:=by
 unfold u02
 rw[Af,u2j]
 have:=p6m t.size
 omega
def u7r (d:u0j) (a:Int) (t:Hs):Ht u0j:=
 if(u0c d a).2.2=false∨t.size=0∨3008<t.size∨255≤u05 d a∨3008<(u0c d a).2.1+((u02 t).size:Int) then none
 else u15 d (u0d a+1) (u0c d a).2.1 (u02 t)
theorem r8d (d:u0j) (a:Int) (t:Hs) (hd:o2z.wt d≤10000000) (ht:t.size≤1048576):t2f (d,a,t)=some (orD d (u7r d a t)):=by
 have hr:=s99 d a
 have hs:=t8b t
 have ha:=t7n a
 rw[r7y];unfold s5a u7r
 simp only[s05 d a (by omega),u2y d (by unfold u0y;omega),t3y d a (by unfold u0y;omega),r8c t.size (by omega),u9k,zOb,r5a]
 have e1:decide ((t.size:Int) >(3008:Int))=decide (3008<t.size):=by simp only[Cu];omega
 have w1:IntKind.i64.wrap ((3008:Int) - (u0c d a).2.1)=3008 - (u0c d a).2.1:=y4u (by omega) (by omega)
 have w2:IntKind.i64.wrap (u0d a+1)=u0d a+1:=y4u (by omega) (by omega)
 rw[e1]
 cases h1:(u0c d a).2.2 with
 | false=>simp[orD]
 | true=>
  by_cases h2:t.size=0
  ·simp[h2,orD]
  ·by_cases h3:3008<t.size
   ·simp[h2,h3,orD]
   ·by_cases h4:255≤u05 d a
    ·have:decide (u05 d a≥255)=true:=by simpa using h4
     simp[h2,h3,h4,orD]
    ·have e4:decide (u05 d a≥255)=false:=by simp;omega
     have c:decide ((y7e (t7b t.size)).size+t.size≤140737488355328)=true:=by
      have h5:(u02 t).size=(y7e (t7b t.size)).size+t.size:=by unfold u02;rw[Af]
      simp;omega
     simp only[h2,h3,Ah,Ap,Aa,zOb,e4,c,Ad,w1,w2]
     have hsz:y7e (t7b t.size)++t=u02 t:=rfl
     rw[hsz]
     by_cases h6:3008<(u0c d a).2.1+((u02 t).size:Int)
     ·have:decide (((u02 t).size:Int) >3008 - (u0c d a).2.1)=true:=by simp;omega
      simp[this,h6,orD]
     ·have:decide (((u02 t).size:Int) >3008 - (u0c d a).2.1)=false:=by simp;omega
      simp only[this,Aa,u8a d (u0d a+1) (u0c d a).2.1 (u02 t) (by omega) (by omega),zOb]
      rw[Ao (by simp[h2,h3,h6];omega)]
def u9p (n:Int):Hs:=y7e [IntKind.u8.wrap n]
theorem u1z (n:Int):(u9p n).size=1:=by unfold u9p;rw[u2j];rfl
def t9t (d:u0j) (a n:Int):Ht u0j:=u15 d (u0d a) 0 (u9p n)
theorem s94 (d:u0j) (a n:Int) (hd:o2z.wt d≤1073741824):u8i (d,a,n)=some (orD d (t9t d a n)):=by
 rw[r7z];unfold s5b
 have h1:u54 n=some (u9p n):=by rw[s1b];rfl
 simp only[u9k,h1,zOb,u8a d (u0d a) 0 (u9p n) hd (by rw[u1z];omega)]
 rfl
theorem p4d:∀ {f:Nat} {d x:u0j} {k at_:Nat} {t:Hs},q2j f d k at_ t=some x→(u09 d=true→u09 x=true)∧x.1=d.1∧(t.size≠0→0<f→u09 x=true)
 | 0,d,x,k,at_,t,h=>by cases h;exact⟨id,rfl,fun _ h=>by omega⟩
 | f+1,d,x,k,at_,t,h=>by
  rw[q2j] at h
  split at h
  ·rename_i hz
   cases h;exact⟨id,rfl,fun hne=>absurd hz hne⟩
  ·split at h
   ·cases hw:u3o d (k:Int) ((u0i d (k:Int)).1.extract 0 at_++t.extract 0 (min t.size (64 - at_))++(u0i d (k:Int)).1.extract (at_+min t.size (64 - at_)) 64) with
    | none=>rw[hw] at h;cases h
    | some y=>
     rw[hw] at h
     simp only[zOb] at h
     obtain⟨k1,k2⟩:=u8n hw
     obtain⟨i1,i2,_⟩:=p4d h
     exact⟨fun _=>i1 k1,by rw[i2,k2],fun _ _=>i1 k1⟩
   ·cases h
theorem u3n {d x:u0j} {s at_:Int} {t:Hs} (h:u15 d s at_ t=some x):u09 d=true∧u09 x=true∧x.1=d.1:=by
 unfold u15 at h
 split at h
 ·rename_i hc
  simp only[Ai] at hc
  obtain⟨i1,i2,_⟩:=p4d h
  exact⟨hc.2,i1 hc.2,i2⟩
 ·cases h
theorem t7o {d x:u0j} {a:Int} {t:Hs} (h:u7r d a t=some x):u09 d=true∧u09 x=true∧x.1=d.1∧(u0c d a).2.2=true:=by
 unfold u7r at h
 split at h
 ·cases h
 ·rename_i hc
  have:=u3n h
  simp only[Hr] at hc
  exact⟨this.1,this.2.1,this.2.2,by simpa using hc.1⟩
theorem s97 {d:u0j} (hk:u09 d=true) (h2:d.2= []) {s:Int} (h0:0≤s) (h1:s<(d.1.length:Int)) {b:Hs} (hb:b.size=1):
 u15 d s 0 b=some (d.1, [(s,b++(rdL Ty.str d.1 s.toNat).extract 1 64)]):=by
 obtain⟨k1,k2,k3,k4⟩:=q1s.mp hk
 have hlt:s.toNat<d.1.length:=by omega
 have hold:(rdL Ty.str d.1 s.toNat).size=64:=by
  have e:rdL Ty.str d.1 s.toNat=d.1[s.toNat] :=y8l (t:=Ty.str) hlt
  rw[e]
  exact k3 _ (Ag hlt)
 have hs:((s.toNat:Nat):Int)=s:=by omega
 have hrd:u0i d s=(rdL Ty.str d.1 s.toNat,true):=by
  unfold u0i
  rw[Al ⟨h0,h1⟩,h2]
  rfl
 have c:(r0d 0 0 6400&&r0d s 0 ((d.1.length:Int) - 1)&&u09 d)=true:=by
  rw[hk]
  simp[r0d]
  omega
 have e1:(rdL Ty.str d.1 s.toNat).extract 0 0=ByteArray.empty:=by
  apply Gf
  simp
 have e2:b.extract 0 1=b:=by rw[←hb];exact Fu
 have hw:u3o d s (b++(rdL Ty.str d.1 s.toNat).extract 1 64)=some (d.1, [(s,b++(rdL Ty.str d.1 s.toNat).extract 1 64)]):=by
  unfold u3o
  rw[s9z,hk,h2]
  have:r0d s 0 ((d.1.length:Int) - 1)=true:=by simp[r0d];omega
  rw[this]
  have hz:(b++(rdL Ty.str d.1 s.toNat).extract 1 64).size=64:=by
   rw[Af,Bd,hb,hold];omega
  simp[hz]
 unfold u15
 rw[Al c]
 have z:(0:Int).toNat=0:=rfl
 simp only[z,Nat.zero_div,Nat.zero_mod,Df,hb]
 rw[q2j,Ao (by omega)]
 rw[hs,hrd]
 simp only[hold,and_self,Bl,hb]
 have m1:min 1 (64 - 0)=1:=by decide
 rw[m1,e1,e2]
 have e3:ByteArray.empty++b++(rdL Ty.str d.1 s.toNat).extract (0+1) 64=b++(rdL Ty.str d.1 s.toNat).extract 1 64:=by
  rw[ByteArray.empty_append]
 rw[e3,hw]
 simp only[zOb]
 exact q4u _ _ _ _ (by rw[Bd,hb];decide)
end
section
def t33 (d:u0j) (a:Int):Int:=IntKind.i64.wrap (u05 d a+1)
def r9f (d:u0j) (a:Int) (t:Hs):Ht u0j:=(u7r d a t).map fun x=>flush (orD (flush x) (t9t (flush x) a (t33 d a))).1
theorem p0p {d x:u0j} {a:Int} {t:Hs} (h:u7r d a t=some x):p05 a=true:=by
 have:=(t7o h).2.2.2
 unfold u0c at this
 split at this
 ·rename_i hc
  simp only[Ai] at hc
  exact hc.1
 ·cases this
theorem r6j {d x:u0j} {a n:Int} {t:Hs} (hlen:d.1.length=97) (h:u7r d a t=some x):∃y,t9t (flush x) a n=some y∧u09 y=true∧y.1.length=97:=by
 obtain⟨h1,h2,h3,_⟩:=t7o h
 obtain⟨f1,f2,f3⟩:=t0u h2
 have hl:(flush x).1.length=97:=by rw[f3,h3];exact hlen
 have ha:=t7n a
 have ho:=s97 (s:=u0d a) f1 f2 (by omega) (by rw[hl];omega) (u1z n)
 have:=u3n ho
 exact⟨_,ho,this.2.1,by rw[this.2.2];exact hl⟩
theorem u13 {d:u0j} (h:u1i d=true):u09 d=true∧d.1.length=97∧d.2= [] ∧(u0c d 0).2.2=true∧(u0c d 1).2.2=true:=by
 unfold u1i at h
 simp only[Ai,Ar] at h
 obtain⟨⟨⟨⟨a,b⟩,c⟩,e⟩,f⟩:=h
 exact⟨a,b,Dk.mp c,e,f⟩
theorem q6f (d:u0j) (a:Int) (t:Hs) (hd:o2z.wt d≤10000000) (ht:t.size≤1048576) (hlen:d.1.length=97):t5w (d,a,t)=some (orD d (r9f d a t)):=by
 rw[q3s];unfold r08 r9f
 simp only[r8d d a t hd ht,zOb]
 cases hb:u7r d a t with
 | none=>rfl
 | some x=>
  have hx:=u18 (t7o hb).2.1
  have hf:=u18 (t0u (t7o hb).2.1).1
  obtain⟨y,hy,hy2,_⟩:=r6j (n:=t33 d a) hlen hb
  have hyw:=u18 hy2
  simp only[orD,Ap,Aa,u4w x (by omega),t3y d a (by unfold u0y;omega),zOb,s94 (flush x) a _ (by omega)]
  have hc:IntKind.i64.wrap (u05 d a+1)=t33 d a:=rfl
  rw[hc,hy]
  simp only[orD,u4w y (by omega),zOb,Dc,hy]
theorem r9j (d:u0j) (a:Int) (t:Hs) (hd:o2z.wt d≤10000000) (ht:t.size≤1048576):t4r (d,a,t)=some (orD d (if u1i d then r9f d a t else none)):=by
 rw[r5t];unfold s2e
 simp only[r3c d (by omega),s64,u2y d (by unfold u0y;omega),zOb]
 cases hl:u1i d with
 | false=>simp[orD]
 | true=>
  cases ha:p05 a with
  | false=>
   have hn:r9f d a t=none:=by
    unfold r9f
    cases hb:u7r d a t with
    | none=>rfl
    | some x=>rw[p0p hb] at ha;cases ha
   simp[hn,orD]
  | true=>
   simp only[Ap,Aa,zOb,q6f d a t hd ht (u13 hl).2.1,Bl]
   cases r9f d a t<;>simp[orD]
def append_ (d:u0j) (t:Hs):Ht u0j:=if u1i d then r9f d (u0q d) t else none
theorem u61 (d:u0j) (t:Hs) (hd:o2z.wt d≤10000000) (ht:t.size≤1048576):u2h (d,t)=some (orD d (append_ d t)):=by
 rw[r5n];unfold s18 append_
 simp only[t5k d (by unfold u0y;omega),zOb,r9j d _ t hd ht]
theorem q9w {d y:u0j} {a:Int} {t:Hs} (hlen:d.1.length=97) (h:r9f d a t=some y):∃x,u7r d a t=some x∧u09 x=true∧u09 y=true∧y.2= [] ∧y.1.length=97∧y=flush (orD (flush x) (t9t (flush x) a (t33 d a))).1:=by
 unfold r9f at h
 cases hb:u7r d a t with
 | none=>rw[hb] at h;cases h
 | some x=>
  rw[hb] at h
  simp only[Dc,Ac] at h
  obtain⟨z,hz,hz2,hz3⟩:=r6j (n:=t33 d a) hlen hb
  rw[hz] at h
  simp only[orD] at h
  obtain⟨f1,f2,f3⟩:=t0u hz2
  rw[←h]
  exact⟨x,rfl,(t7o hb).2.1,f1,f2,by rw[f3];exact hz3,by rw[hz];rfl⟩
def u3j (d:u0j) (t:Hs) (step:Int) (keep:Hu Int) (tear:Int):u0j:=
 match append_ d t with
 | none=>d
 | some y=>
  if step=0 then u5z (orD d (u7r d (u0q d) t)).1 keep tear
  else if step=1 then u5z (orD (flush (orD d (u7r d (u0q d) t)).1) (t9t (flush (orD d (u7r d (u0q d) t)).1) (u0q d) (t33 d (u0q d)))).1 keep tear
  else y
section
variable {d:u0j} {t:Hs} (hd:o2z.wt d≤10000000) (ht:t.size≤1048576)
include hd ht
omit hd ht in
theorem s5i {y:u0j} (h:append_ d t=some y):u1i d=true∧ ∃x z,u7r d (u0q d) t=some x∧u09 x=true∧u09 (flush x)=true∧t9t (flush x) (u0q d) (t33 d (u0q d))=some z∧u09 z=true∧u09 y=true:=by
 unfold append_ at h
 split at h
 ·rename_i hl
  obtain⟨x,h1,h2,h3,_⟩:=q9w (u13 hl).2.1 h
  obtain⟨z,hz,hz2,_⟩:=r6j (n:=t33 d (u0q d)) (u13 hl).2.1 h1
  exact⟨hl,x,z,h1,h2,(t0u h2).1,hz,hz2,h3⟩
 ·cases h
theorem r9i (step:Int) (keep:Hu Int) (tear:Int):t4q (d,t,step,keep,tear)=some (u3j d t step keep tear):=by
 rw[r5q];unfold s2b u3j
 simp only[u61 d t hd ht,u2y d (by unfold u0y;omega),t5k d (by unfold u0y;omega),t3y d _ (by unfold u0y;omega),zOb]
 cases ha:append_ d t with
 | none=>rfl
 | some y=>
  obtain⟨hl,x,z,hb,k1,k2,hz,k3,k4⟩:=s5i ha
  have w1:=u18 k1
  have w2:=u18 k2
  have w3:=u18 k3
  have hc:IntKind.i64.wrap (u05 d (u0q d)+1)=t33 d (u0q d):=rfl
  simp only[orD,Ap,Aa,r8d d _ t hd ht,hb,zOb,s7m x keep tear (by omega),u4w x (by omega),s94 (flush x) _ _ (by omega),hc,hz,s7m z keep tear (by omega)]
  by_cases h0:step=0
  ·simp[h0]
  ·by_cases h1:step=1
   ·simp[h1]
   ·simp[h0,h1]
omit ht in
theorem q5s (step:Int) (keep:Hu Int) (tear:Int):o2z.wt (u3j d t step keep tear)≤10000000:=by
 unfold u3j
 cases ha:append_ d t with
 | none=>exact hd
 | some y=>
  obtain⟨hl,x,z,hb,k1,k2,hz,k3,k4⟩:=s5i ha
  simp only[hb,orD,hz]
  split
  ·have:=u18 (q21 k1 keep tear).1;omega
  ·split
   ·have:=u18 (q21 k3 keep tear).1;omega
   ·have:=u18 k4;omega
end
end
section
theorem s9q {d x:u0j} {k:Int} {s:Hs} (h:u3o d k s=some x) {j:Int} (hj:j≠k):u0i x j=u0i d j:=by
 have:=(u8n h).2
 subst this
 have hne: ¬k=j:=fun z=>hj z.symm
 unfold u0i
 simp only[s57,hne,Bk]
theorem s7c:∀ {f:Nat} {d x:u0j} {k at_:Nat} {t:Hs},q2j f d k at_ t=some x→at_<64→ ∀j:Nat,¬(k≤j∧j*64<k*64+at_+t.size)→u0i x (j:Int)=u0i d (j:Int)
 | 0,d,x,k,at_,t,h,_,j,_=>by cases h;rfl
 | f+1,d,x,k,at_,t,h,hat,j,hj=>by
  rw[q2j] at h
  split at h
  ·cases h;rfl
  ·rename_i hz
   split at h
   ·cases hw:u3o d (k:Int) ((u0i d (k:Int)).1.extract 0 at_++t.extract 0 (min t.size (64 - at_))++(u0i d (k:Int)).1.extract (at_+min t.size (64 - at_)) 64) with
    | none=>rw[hw] at h;cases h
    | some y=>
     rw[hw] at h
     simp only[zOb] at h
     have hne:j≠k:=fun z=>hj ⟨by omega,by omega⟩
     rw[←s9q hw (j:=(j:Int)) (by omega)]
     refine s7c h (by omega) j (fun z=>hj ?_)
     rw[Bd] at z
     omega
   ·cases h
theorem q67 {s:Hu Hs} {p:Int×Hs} {j:Int} (hp:0≤p.1) (hj0:0≤j) (hj:j.toNat<s.length):rdL Ty.str (t5g s p) j.toNat=if p.1=j then p.2 else rdL Ty.str s j.toNat:=by
 have h' :j.toNat<(s.set p.1.toNat p.2).length:=by rw[Dq];exact hj
 have e1:rdL Ty.str (s.set p.1.toNat p.2) j.toNat=(s.set p.1.toNat p.2)[j.toNat] :=y8l (t:=Ty.str) h'
 have e2:rdL Ty.str s j.toNat=s[j.toNat] :=y8l (t:=Ty.str) hj
 show rdL Ty.str (s.set p.1.toNat p.2) j.toNat=_
 rw[e1,e2,List.getElem_set]
 by_cases e:p.1=j
 ·rw[Al (by rw[e]),Al e]
 ·rw[Ao (by omega),Ao e]
theorem q1y {j:Int} (hj0:0≤j) (z:Hs):∀(c:Hu (Int×Hs)) (s:Hu Hs) (t:Ht Hs),(∀p∈c,0≤p.1)→j.toNat<s.length→rdL Ty.str s j.toNat=t.getD z→
 rdL Ty.str (c.foldl t5g s) j.toNat=(c.foldl (fun t p=>if p.1=j then some p.2 else t) t).getD z
 | [],s,t,_,_,h=>h
 | p::c,s,t,hc,hl,h=>by
  rw[Bs,Bs]
  refine q1y hj0 z c _ _ (fun q hq=>hc q (Bm _ hq)) (by rw[s0k];exact hl) ?_
  rw[q67 (hc p (C9 ..)) hj0 hl]
  split
  ·rfl
  ·exact h
theorem u8c {d:u0j} (hk:u09 d=true) (j:Int):u0i (flush d) j=u0i d j:=by
 obtain⟨_,f2,f3⟩:=t0u hk
 obtain⟨k1,k2,k3,k4⟩:=q1s.mp hk
 unfold u0i
 rw[f3]
 split
 ·rename_i hj
  have e1:u8d (flush d).2 j=none:=by rw[f2];rfl
  rw[e1]
  have e2:(flush d).1=d.2.foldl t5g d.1:=by unfold flush;rw[Al hk]
  rw[e2]
  have:=q1y hj.1 (rdL Ty.str d.1 j.toNat) d.2 d.1 none (fun p hp=>(k4 p hp).1.1) (by omega) rfl
  show(rdL Ty.str (d.2.foldl t5g d.1) j.toNat,true)=_
  rw[this]
  rfl
 ·rfl
theorem r8y {d d' :u0j} {from_:Int} :∀(m i:Nat) (acc:Hs),(∀q:Nat,i≤q→q<i+m→u0i d' (from_+(q:Int))=u0i d (from_+(q:Int)))→r34 d' from_ m i acc=r34 d from_ m i acc
 | 0,i,acc,h=>rfl
 | m+1,i,acc,h=>by
  unfold r34
  rw[h i (by omega) (by omega)]
  split
  ·exact r8y m (i+1) _ (fun q h1 h2=>h q (by omega) (by omega))
  ·rfl
theorem u65 {d d' :u0j} {o:Int} (h:∀q:Nat,q<48→u0i d' (u0d o+(q:Int))=u0i d (u0d o+(q:Int))):u0c d' o=u0c d o:=by
 have h1:u8l d' (u0d o+1) 47=u8l d (u0d o+1) 47:=by
  unfold u8l
  rw[Al (by omega),Al (by omega)]
  refine r8y _ _ _ (fun q _ hq=> ?_)
  have:=h (q+1) (by simp at hq;omega)
  rw[show u0d o+1+(q:Int)=u0d o+((q+1:Nat):Int) by omega]
  exact this
 have h2:u05 d' o=u05 d o:=by
  unfold u05 u2v
  have:=h 0 (by omega)
  rw[show u0d o+((0:Nat):Int)=u0d o by omega] at this
  rw[this]
 unfold u0c
 rw[h1,h2]
def OnlyArea (a:Int) (d d' :u0j):Prop:= ∀j:Nat,¬(u0d a≤(j:Int)∧(j:Int)<u0d a+48)→u0i d' (j:Int)=u0i d (j:Int)
theorem OnlyArea.other {a o:Int} {d d' :u0j} (h:OnlyArea a d d') (ha:a=0∨a=1) (ho:o=1 - a):u0c d' o=u0c d o:=by
 refine u65 (fun q hq=> ?_)
 have hf:u0d o=1+o*48:=by unfold u0d;rw[Al (p5d.mpr (by omega))]
 have hfa:u0d a=1+a*48:=by unfold u0d;rw[Al (p5d.mpr ha)]
 obtain⟨j,hj⟩:∃j:Nat,u0d o+(q:Int)=(j:Int):=⟨(u0d o+(q:Int)).toNat,by rcases ha with rfl | rfl<;>omega⟩
 rw[hj]
 exact h j (by rcases ha with rfl | rfl<;>omega)
theorem OnlyArea.trans {a:Int} {d d' e:u0j} (h1:OnlyArea a d d') (h2:OnlyArea a d' e):OnlyArea a d e:=fun j hj=>(h2 j hj).trans (h1 j hj)
theorem OnlyArea.flush {a:Int} {d d' :u0j} (h:OnlyArea a d d') (hk:u09 d' =true):OnlyArea a d (flush d'):=fun j hj=>(u8c hk _).trans (h j hj)
theorem s4g {d x:u0j} {s at_:Int} {t:Hs} (h:u15 d s at_ t=some x) {j:Nat} (hj: ¬(s≤(j:Int)∧(j:Int)*64<s*64+at_+(t.size:Int))):u0i x (j:Int)=u0i d (j:Int):=by
 unfold u15 at h
 split at h
 ·rename_i hc
  simp only[Ai,r0d,Ar] at hc
  refine s7c h (Ev _ (by omega)) j (fun z=>hj ?_)
  omega
 ·cases h
theorem p0q {d x:u0j} {a:Int} {t:Hs} (h:u7r d a t=some x):OnlyArea a d x:=by
 have h0:=h
 unfold u7r at h
 split at h
 ·cases h
 ·rename_i hc
  simp only[Hr] at hc
  intro j hj
  refine s4g h (fun z=>hj ?_)
  omega
theorem q1q {d x:u0j} {a n:Int} (h:t9t d a n=some x):OnlyArea a d x:=by
 intro j hj
 refine s4g h (fun z=>hj ?_)
 rw[u1z] at z
 omega
theorem p5z {d y:u0j} {a:Int} {t:Hs} (hlen:d.1.length=97) (h:r9f d a t=some y):OnlyArea a d y:=by
 unfold r9f at h
 cases hb:u7r d a t with
 | none=>rw[hb] at h;cases h
 | some x=>
  rw[hb] at h
  simp only[Dc,Ac] at h
  obtain⟨z,hz,hz2,hz3⟩:=r6j (n:=t33 d a) hlen hb
  rw[hz] at h
  subst h
  exact(((p0q hb).flush (t7o hb).2.1).trans (q1q hz)).flush hz2
structure Mid (o:Int) (x:u0j):Prop where
 ok:u09 x=true
 len:x.1.length=97
 nil:x.2= []
 other:(u0c x o).2.2=true
theorem Mid.put {a o:Int} {x y:u0j} {t:Hs} (h:Mid o x) (ha:a=0∨a=1) (ho:o=1 - a) (hp:r9f x a t=some y):Mid o y:=by
 obtain⟨_,_,_,p1,p2,p3,_⟩:=q9w h.len hp
 exact⟨p1,p3,p2,by rw[(p5z h.len hp).other ha ho];exact h.other⟩
def s87 (a:Int):Hu Hs→u0j→Ht u0j
 | [],x=>some x
 | t::l,x=>(r9f x a t).bind (s87 a l)
theorem q1u {a o:Int} (ha:a=0∨a=1) (ho:o=1 - a):∀ {l:Hu Hs} {x y:u0j},Mid o x→s87 a l x=some y→Mid o y
 | [],x,y,h,hy=>by cases hy;exact h
 | t::l,x,y,h,hy=>by
  unfold s87 at hy
  cases hp:r9f x a t with
  | none=>rw[hp] at hy;cases hy
  | some z=>
   rw[hp] at hy
   exact q1u ha ho (h.put ha ho hp) hy
theorem q57 {a o:Int} (ha:a=0∨a=1) (ho:o=1 - a) (jk:u0j) (list:Hu Hs) (hl:list.length≤1048576) (hs:∀t∈list,t.size≤1048576):∀(r i:Nat) (x:u0j),i+r=list.length→Mid o x→
 ∃q,u6p (list,jk,a,x,true,(i:Int))=some (.inl (jk,q))∧(match s87 a (list.drop i) x with
  | some y=>q=(y,true)
  | none=>q.2=false)
 | 0,i,x,hi,hm=>by
  have:i=list.length:=by omega
  subst this
  rw[t4z]
  simp only[u6d,u0b,Am,Ah,Aa,F5,s87,zOb]
  exact⟨_,rfl,rfl⟩
 | r+1,i,x,hi,hm=>by
  have h:i<list.length:=by omega
  have hw:=u18 hm.ok
  have hts:=hs list[i] (Ag h)
  have hr:rdL Ty.str list i=list[i] :=y8l (t:=Ty.str) h
  rw[t4z,Ce h]
  simp only[u6d,u0b,h,Ae,Ad,y7s h,zTn,hr,q6f x a list[i] (by omega) hts hm.len,zOb,s87]
  rw[y7j (by omega)]
  cases hp:r9f x a list[i] with
  | none=>
   simp only[orD,Option.bind_none]
   rw[t4z]
   simp only[u6d,u0b]
   cases decide (i+1<list.length)<;>exact⟨_,rfl,rfl⟩
  | some y=>
   simp only[orD,zOb]
   exact q57 ha ho jk list hl hs r (i+1) y (by omega) (hm.put ha ho hp)
end
section
def u3l (d:u0j):Int:=1 - u0q d
theorem t2w (d:u0j):(u3l d=0∨u3l d=1)∧u0q d=1 - u3l d:=by
 unfold u3l
 have:=u5y d
 omega
def t9x (d:u0j):u0j:=flush (orD d (t9t d (u3l d) 0)).1
def s5p (d:u0j) (l:Hu Hs):Ht u0j:=if u1i d then s87 (u3l d) l (t9x d) else none
def p1u (x:u0j):Ht u0j:=u15 x 0 0 (u9p (IntKind.i64.wrap (u2v x 0+1)))
def s1v (d:u0j) (l:Hu Hs):Ht u0j:=(s5p d l).map fun x=>flush (orD x (p1u x)).1
theorem q5q {d:u0j} (hl:u1i d=true) (a n:Int):∃z,t9t d a n=some z∧u09 z=true∧z.1.length=97:=by
 obtain⟨h1,h2,h3,_⟩:=u13 hl
 have ha:=t7n a
 have ho:=s97 (s:=u0d a) h1 h3 (by omega) (by omega) (u1z n)
 have:=u3n ho
 exact⟨_,ho,this.2.1,by rw[this.2.2];exact h2⟩
theorem q55 {d:u0j} (hl:u1i d=true):Mid (u0q d) (t9x d):=by
 obtain⟨z,hz,hz2,hz3⟩:=q5q hl (u3l d) 0
 obtain⟨a1,a2⟩:=t2w d
 obtain⟨h1,h2,h3,h4,h5⟩:=u13 hl
 obtain⟨f1,f2,f3⟩:=t0u hz2
 have e:t9x d=flush z:=by unfold t9x;rw[hz];rfl
 have hr:(u0c d (u0q d)).2.2=true:=by
  rcases u5y d with h | h<;>rw[h] <;>assumption
 rw[e]
 exact⟨f1,by rw[f3];exact hz3,f2,by rw[((q1q hz).flush hz2).other a1 a2];exact hr⟩
theorem p8z {x:u0j} {o:Int} (h:Mid o x):∃y,p1u x=some y∧u09 y=true:=by
 have ho:=s97 (s:=0) h.ok h.nil (by omega) (by rw[h.len];omega) (u1z (IntKind.i64.wrap (u2v x 0+1)))
 exact⟨_,ho,(u3n ho).2.1⟩
section
variable {d:u0j} {l:Hu Hs} (hd:o2z.wt d≤10000000) (hl:l.length≤1048576) (hs:∀t∈l,t.size≤1048576)
include hd hl hs
omit hd hl hs in
theorem p83:IntKind.i64.wrap ((1:Int) - u0q d)=u3l d:=by
 unfold u3l
 have:=u5y d
 rw[y4u (by omega) (by omega)]
omit hd hl hs in
theorem p26 {x:u0j} (h:s5p d l=some x):u1i d=true∧Mid (u0q d) x:=by
 unfold s5p at h
 split at h
 ·rename_i hlo
  obtain⟨a1,a2⟩:=t2w d
  exact⟨hlo,q1u a1 a2 (q55 hlo) h⟩
 ·cases h
theorem q6e (hlo:u1i d=true):∃q,t9c (d,l)=some q∧(match s5p d l with
 | some y=>q=(y,true)
 | none=>q.2=false):=by
 obtain⟨z,hz,hz2,hz3⟩:=q5q hlo (u3l d) 0
 have hzw:=u18 hz2
 obtain⟨a1,a2⟩:=t2w d
 have e:flush z=t9x d:=by unfold t9x;rw[hz];rfl
 obtain⟨q,L,hq⟩:=q57 a1 a2 ([], []) l hl hs l.length 0 (t9x d) (by omega) (q55 hlo)
 have L:u6p (l,([], []),u3l d,t9x d,true,0)=_:=L
 rw[Fh] at hq
 refine⟨q,?_,by unfold s5p;rw[hlo,Al rfl];exact hq⟩
 rw[q0m];unfold s8o
 simp only[t5k d (by unfold u0y;omega),p83 (d:=d),s94 d _ _ (by omega),zOb,hz,orD,u4w z (by omega),e,L]
omit hd hl hs in
theorem p06 (x:u0j) (hx:o2z.wt x≤10000000):t9d x=some (orD x (p1u x)):=by
 rw[q0n];unfold s8p
 have h1:∀n,u54 n=some (u9p n):=fun n=>by rw[s1b];rfl
 simp only[s5r x 0 (by unfold u0y;omega),h1,zOb,u8a x 0 0 (u9p (IntKind.i64.wrap (u2v x 0+1))) (by omega) (by rw[u1z];omega)]
 rfl
theorem s7s:t01 (d,l)=some (orD d (s1v d l)):=by
 rw[r51];unfold s2m s1v
 simp only[r3c d (by omega),u2y d (by unfold u0y;omega),zOb]
 cases hlo:u1i d with
 | false=>
  have:s5p d l=none:=by unfold s5p;rw[hlo];rfl
  rw[this]
  rfl
 | true=>
  obtain⟨q,hq,hq2⟩:=q6e hd hl hs hlo
  simp only[Ap,Aa,hq,zOb]
  cases hf:s5p d l with
  | none=>
   rw[hf] at hq2
   simp only at hq2
   simp only[hq2,Bh,Ad]
   rfl
  | some x=>
   rw[hf] at hq2
   simp only at hq2
   subst hq2
   obtain⟨_,hm⟩:=p26 hf
   have hx:=u18 hm.ok
   obtain⟨y,hy,hy2⟩:=p8z hm
   have hyw:=u18 hy2
   simp only[orD,Ap,Aa,p06 x (by omega),hy,zOb,u4w y (by omega),Dc]
def u8b (d:u0j) (l:Hu Hs) (step:Int) (keep:Hu Int) (tear:Int):u0j:=
 match s5p d l with
 | none=>d
 | some x=>
  if step=0 then u5z (orD d (t9t d (u3l d) 0)).1 keep tear
  else if step=1 then x
  else if step=2 then u5z (orD x (p1u x)).1 keep tear
  else flush (orD x (p1u x)).1
end
end
section
def t48 (s:Hs) (i:Nat):UInt8:=s.data.toList.getD i 0
theorem u29 (a b:Hs) (i:Nat):t48 (a++b) i=if i<a.size then t48 a i else t48 b (i - a.size):=by
 unfold t48
 have hs:a.size=a.data.toList.length:=by simp only[B6];rfl
 rw[Ft,Ha,A5,hs]
 split
 ·rename_i h
  rw[Aj h,A5]
 ·rename_i h
  rw[Aq (Fz h),A5]
theorem u1u (a:Hs) (b e i:Nat):t48 (a.extract b e) i=if i<min e a.size - b then t48 a (b+i) else 0:=by
 unfold t48
 have hd:(a.extract b e).data.toList=(a.data.toList.drop b).take (min e a.size - b):=by
  have hs:a.size=a.data.toList.length:=by simp only[B6];rfl
  rw[ByteArray.data_extract]
  rw[Array.toList_extract,F7]
  apply Gj
  intro n
  rw[Ca,Ca,Dg]
  split<;>split<;>first | rfl | skip
  ·rename_i h1 h2
   rw[Be (by omega)]
  ·rename_i h1 h2
   rw[Be (by omega)]
 rw[hd,A5,Ca]
 split
 ·rw[Dg,A5]
 ·rfl
theorem r2c {a b:Hs} (hs:a.size=b.size) (h:∀i,i<a.size→t48 a i=t48 b i):a=b:=by
 have ha:a.size=a.data.toList.length:=by simp only[B6];rfl
 have hb:b.size=b.data.toList.length:=by simp only[B6];rfl
 have:a.data.toList=b.data.toList:=by
  apply Gw (by omega)
  intro i h1 h2
  have:=h i (by omega)
  unfold t48 at this
  rw[A5,A5,A4 h1,A4 h2] at this
  exact this
 apply Gf
 apply Fj
 exact this
theorem q4v {d x:u0j} {k:Int} {s:Hs} (h:u3o d k s=some x):u0i x k=(s,true):=by
 obtain⟨h1,h2⟩:=u8n h
 obtain⟨_,_,_,h4⟩:=q1s.mp h1
 subst h2
 have:=(h4 (k,s) (by simp)).1
 have hk:0≤k∧k<(d.1.length:Int):=this
 unfold u0i
 simp only[s57]
 rw[Al hk]
 simp
theorem q2k:∀ {f:Nat} {d x:u0j} {k at_:Nat} {t:Hs},q2j f d k at_ t=some x→t.size<f→at_<64→ ∀(j i:Nat),i<64→j<d.1.length→
 t48 (u0i x (j:Int)).1 i=if k*64+at_≤j*64+i∧j*64+i<k*64+at_+t.size then t48 t (j*64+i - (k*64+at_)) else t48 (u0i d (j:Int)).1 i
 | 0,d,x,k,at_,t,h,hf,_,j,i,_,_=>by omega
 | f+1,d,x,k,at_,t,h,hf,hat,j,i,hi,hj=>by
  rw[q2j] at h
  split at h
  ·rename_i hz
   cases h
   rw[Ao (by omega)]
  ·rename_i hz
   split at h
   ·rename_i hrd
    cases hw:u3o d (k:Int) ((u0i d (k:Int)).1.extract 0 at_++t.extract 0 (min t.size (64 - at_))++(u0i d (k:Int)).1.extract (at_+min t.size (64 - at_)) 64) with
    | none=>rw[hw] at h;cases h
    | some y=>
     rw[hw] at h
     simp only[zOb] at h
     obtain⟨n,hn⟩:∃n,n=min t.size (64 - at_):=⟨_,rfl⟩
     rw[←hn] at h hw
     have hyl:y.1.length=d.1.length:=by rw[(u8n hw).2]
     have hsz:(t.extract n t.size).size=t.size - n:=by rw[Bd];omega
     have ih:=q2k h (by omega) (by omega) j i hi (by omega)
     rw[ih,hsz]
     by_cases hjk:j=k
     ·subst hjk
      rw[Ao (by omega),q4v hw]
      simp only
      rw[u29,u29,u1u,u1u,u1u]
      simp only[Af,Bd,hrd.2]
      by_cases h1:i<at_
      ·have e1:i<min at_ 64 - 0:=by omega
       rw[Al (by omega),Al e1,Al e1,Ao (by omega),Co]
      ·by_cases h2:i<at_+n
       ·rw[Al (by omega),Ao (by omega),Al (by omega),Al (by omega)]
        congr 1
        omega
       ·rw[Ao (by omega),Al (by omega),Ao (by omega)]
        congr 1
        omega
     ·have hfr:u0i y (j:Int)=u0i d (j:Int):=s9q hw (by omega)
      rw[hfr]
      by_cases h1:(k+1)*64+0≤j*64+i∧j*64+i<(k+1)*64+0+(t.size - n)
      ·rw[Al h1,Al (by omega),u1u,Al (by omega)]
       congr 1
       omega
      ·rw[Ao h1,Ao (by omega)]
   ·cases h
end
section
theorem q68 (a:Hs):a.size=a.data.toList.length:=by simp only[B6];rfl
theorem r2d {a:Hs} {i:Nat} (h:i<a.size):a.data.toList[i]? =some (t48 a i):=by
 unfold t48
 rw[q68] at h
 rw[A5,A4 h]
 rfl
theorem r85:∀ {f i n:Nat} {l l' :Hu UInt8} {v k:Nat},s7j f i n l=some (v,k)→(∀q,q<k - i→l'[q]? =l[q]?)→s7j f i n l' =some (v,k)
 | 0,_,_,_,_,_,_,h,_=>by cases h
 | _+1,_,_, [],_,_,_,h,_=>by cases h
 | f+1,i,n,b::l,l',v,k,h,hl=>by
  have hk:=(q4s _ _ _ _ _ _ h).2.2
  have h0:=hl 0 (by omega)
  cases l' with
  | nil=>simp at h0
  | cons b' l' =>
   simp only[Bt,Ac] at h0
   subst h0
   simp only[s7j] at h ⊢
   split at h
   ·rename_i h1
    rw[Al h1]
    exact h
   ·rename_i h1
    rw[Ao h1]
    exact r85 h (fun q hq=>by have:=hl (q+1) (by omega);simpa using this)
theorem q4j {T T' :Hs} {at_:Int} (h:(u0x T at_).2.2=true) (hs:T'.size=T.size) (hb:∀q:Nat,(q:Int)<(u0x T at_).2.1→t48 T' q=t48 T q):u0x T' at_=u0x T at_:=by
 have hok:=t1h h
 unfold u0x at h hb hok ⊢
 split at h
 ·rename_i hc
  rw[Al hc] at hb hok
  rw[Al (by rw[hs];exact hc),Al hc]
  cases hv:s7j 5 0 0 (T.data.toList.drop at_.toNat) with
  | none=>rw[hv] at h;cases h
  | some r=>
   obtain⟨v,k⟩:=r
   rw[hv] at hb hok
   simp only[r84] at hb hok
   rw[r85 hv (fun q hq=>by
    have hlt:at_.toNat+q<T.size:=by omega
    rw[Dg,Dg,r2d (by omega),r2d hlt,hb (at_.toNat+q) (by omega)])]
 ·cases h
theorem s9g {T:Hs} {at_:Int} (h:(u0u T at_).2.2=true):0≤at_∧at_<(u0u T at_).2.1∧(u0u T at_).2.1≤T.size:=by
 have h2:=s6g h
 unfold u0u at h h2 ⊢
 split at h
 ·rename_i hc
  rw[Al hc] at h2
  rw[Al hc]
  have:=t1h hc.1
  simp only at h2 ⊢
  omega
 ·cases h
theorem r8t {T T' :Hs} {at_:Int} (h:(u0u T at_).2.2=true) (hs:T'.size=T.size) (hb:∀q:Nat,(q:Int)<(u0u T at_).2.1→t48 T' q=t48 T q):u0u T' at_=u0u T at_:=by
 have hn:=s9g h
 unfold u0u at h hb hn ⊢
 split at h
 ·rename_i hc
  rw[Al hc] at hb hn
  simp only at hb hn
  have hok:=t1h hc.1
  have e:u0x T' at_=u0x T at_:=q4j hc.1 hs (fun q hq=>hb q (by omega))
  rw[e,Al (by rw[hs];exact hc),Al hc]
  congr 1
  apply r2c
  ·rw[Bd,Bd,hs]
  ·intro i hi
   rw[Bd] at hi
   rw[u1u,u1u,hs]
   split
   ·exact hb _ (by omega)
   ·rfl
 ·cases h
theorem q1l {T:Hs} :∀ {m:Nat} {at_:Int} {acc l:Hu Hs} {E:Int},u4p T m at_ acc=(l,E,true)→at_≤E
 | 0,at_,acc,l,E,h=>by unfold u4p at h;cases h;exact Bv _
 | m+1,at_,acc,l,E,h=>by
  unfold u4p at h
  split at h
  ·rename_i hc
   simp only[Ai] at hc
   have h1:=(s9g hc.1).2.1
   have h2:=q1l h
   omega
  ·cases h
theorem s5j {T T' :Hs} (hs:T'.size=T.size):∀ {m:Nat} {at_:Int} {acc l:Hu Hs} {E:Int},u4p T m at_ acc=(l,E,true)→(∀q:Nat,(q:Int)<E→t48 T' q=t48 T q)→u4p T' m at_ acc=(l,E,true)
 | 0,at_,acc,l,E,h,_=>by unfold u4p at h ⊢;exact h
 | m+1,at_,acc,l,E,h,hb=>by
  unfold u4p at h ⊢
  split at h
  ·rename_i hc
   have hc' :=hc
   simp only[Ai] at hc'
   have h2:=q1l h
   rw[r8t hc'.1 hs (fun q hq=>hb q (by omega)),Al hc]
   exact s5j hs h hb
  ·cases h
theorem r69 {T:Hs} {s:Hs} {nx:Int} :∀ {m:Nat} {at_:Int} {acc l:Hu Hs} {E:Int},u4p T m at_ acc=(l,E,true)→u0u T E=(s,nx,true)→s.size≠0→u4p T (m+1) at_ acc=(l++ [s],nx,true)
 | 0,at_,acc,l,E,h,hr,hne=>by
  unfold u4p at h
  cases h
  unfold u4p
  have:z7l s emp=false:=by
   have:=r5a (t:=s)
   rw[p68] at this
   rw[this]
   simpa using hne
  rw[hr]
  simp only[this,Bh,Dt,Bl]
  rfl
 | m+1,at_,acc,l,E,h,hr,hne=>by
  unfold u4p at h
  split at h
  ·rename_i hc
   unfold u4p
   rw[Al hc]
   exact r69 h hr hne
  ·cases h
def u8s (l:Hu Int):Hu UInt8:=l.map fun n=>UInt8.ofNat n.toNat
theorem r39:∀(f i acc n N:Nat) (r:Hu UInt8),0<f→n<128^f→acc+n*128^i=N→N≤1000000000→(t7b N).length=i+(t7b n).length→s7j f i acc (u8s (t7b n)++r)=some (N,i+(t7b n).length)
 | 0,i,acc,n,N,r,hf,_,_,_,_=>by omega
 | f+1,i,acc,n,N,r,_,hn,hN,hb,hl=>by
  by_cases h:n<128
  ·rw[s6l h] at hl ⊢
   have e:(UInt8.ofNat ((n:Int)).toNat).toNat=n:=by
    rw[zTn,Gg]
    omega
   simp only[u8s,C8,Eh,Ef,Cf,s7j,e,h,Bl,Aw] at hl ⊢
   rw[Nat.mod_eq_of_lt h,hN,Al ⟨hb,hl⟩]
  ·rw[r38 h] at hl ⊢
   have e:(UInt8.ofNat (((n % 128+128:Nat):Int)).toNat).toNat=n % 128+128:=by
    rw[zTn,Gg]
    omega
   have hh: ¬n % 128+128<128:=by omega
   simp only[u8s,C8,Ef,s7j,e,hh,Bk,Bc] at hl ⊢
   have e2:(n % 128+128) % 128=n % 128:=by omega
   rw[e2]
   have:=r39 f (i+1) (acc+n % 128*128^i) (n / 128) N r (by rcases f with _ | f<;>simp at hn ⊢;omega) (by rw[Gr] at hn;omega) (by
    rw[←hN,Gr]
    have:n=n % 128+128*(n / 128):=by omega
    conv=>rhs;rw[this]
    rw[Cl]
    have:n / 128*(128^i*128)=128*(n / 128)*128^i:=by rw[Fk (128^i) 128,←Nat.mul_assoc,Fk (n / 128) 128]
    omega) hb (by omega)
   show s7j f (i+1) (acc+n % 128*128^i) (u8s (t7b (n / 128))++r)=_
   rw[this]
   congr 2
   omega
end
section
theorem t61 (l:Hu Int):(y7e l).data.toList=u8s l:=by
 unfold y7e u8s
 simp
theorem r32 {T t:Hs} {E:Nat} (h0:t.size≠0) (h1:t.size≤3008) (hE:E+(u02 t).size≤T.size) (hb:∀q,q<(u02 t).size→t48 T (E+q)=t48 (u02 t) q):
 u0u T (E:Int)=(t,((E+(u02 t).size:Nat):Int),true):=by
 have hsz:(u02 t).size=(t7b t.size).length+t.size:=by unfold u02;rw[Af,u2j]
 have hlist:(u02 t).data.toList=u8s (t7b t.size)++t.data.toList:=by
  unfold u02
  rw[Ft,Ha,t61]
 have hdrop:∃r,T.data.toList.drop E=u8s (t7b t.size)++r:=by
  refine⟨(T.data.toList.drop E).drop (u8s (t7b t.size)).length,?_⟩
  have:(T.data.toList.drop E).take (u8s (t7b t.size)).length=u8s (t7b t.size):=by
   apply Gj
   intro q
   rw[Ca]
   split
   ·rename_i hq
    have hq' :q<(t7b t.size).length:=by simpa[u8s] using hq
    rw[Dg,r2d (by omega),hb q (by omega),←r2d (by omega),hlist,Aj hq]
   ·rename_i hq
    rw[Be (Fz hq)]
  conv=>lhs;rw[←En (u8s (t7b t.size)).length (T.data.toList.drop E)]
  rw[this]
 obtain⟨r,hr⟩:=hdrop
 have hv:=r39 5 0 0 t.size t.size r (by omega) (by omega) (by simp) (by omega) (by omega)
 have hread:u0x T (E:Int)=((t.size:Int),(E:Int)+((t7b t.size).length:Int),true):=by
  unfold u0x
  rw[Al (by omega),zTn,hr,hv]
  simp[r84]
 unfold u0u
 rw[hread]
 simp only
 rw[Al (by simp only[true_and];omega)]
 have e1:((E:Int)+((t7b t.size).length:Int)).toNat=E+(t7b t.size).length:=by omega
 have e2:((E:Int)+((t7b t.size).length:Int)+(t.size:Int)).toNat=E+(t7b t.size).length+t.size:=by omega
 rw[e1,e2]
 have et:T.extract (E+(t7b t.size).length) (E+(t7b t.size).length+t.size)=t:=by
  apply r2c
  ·rw[Bd];omega
  ·intro i hi
   rw[Bd] at hi
   rw[u1u,Al (by omega)]
   have:=hb ((t7b t.size).length+i) (by omega)
   rw[show E+(t7b t.size).length+i=E+((t7b t.size).length+i) by omega,this]
   unfold u02
   rw[u29,Ao (by rw[u2j];omega),u2j]
   congr 1
   omega
 rw[et]
 congr 2
 rw[hsz]
 omega
def o2v (d:u0j):Prop:= ∀k:Nat,k<97→(u0i d (k:Int)).2=true∧(u0i d (k:Int)).1.size=64
theorem t6h {d:u0j} (hk:u09 d=true) (hl:d.1.length=97):o2v d:=by
 intro k hlt
 obtain⟨k1,k2,k3,k4⟩:=q1s.mp hk
 have hc:(0:Int)≤(k:Int)∧(k:Int)<(d.1.length:Int):=by omega
 unfold u0i
 rw[Al hc]
 refine⟨rfl,?_⟩
 cases hp:u8d d.2 (k:Int) with
 | none=>
  have hlt' :k<d.1.length:=by omega
  have e:rdL Ty.str d.1 k=d.1[k] :=y8l (t:=Ty.str) hlt'
  simp only[Eo,zTn]
  rw[e]
  exact k3 _ (Ag hlt')
 | some s=>
  obtain⟨p,hp1,hp2⟩:=s95 hp
  simp only[Eb]
  rw[←hp2]
  exact(k4 p hp1).2
theorem r8x {d:u0j} {F:Nat} (h:∀q:Nat,q<47→(u0i d ((F+q:Nat):Int)).2=true∧(u0i d ((F+q:Nat):Int)).1.size=64):∀(m i:Nat) (acc:Hs),i+m≤47→
 ∃T,r34 d (F:Int) m i acc=(T,true)∧T.size=acc.size+64*m∧ ∀j,j<T.size→t48 T j=if j<acc.size then t48 acc j else t48 (u0i d ((F+i+(j - acc.size) / 64:Nat):Int)).1 ((j - acc.size) % 64)
 | 0,i,acc,_=>⟨acc,rfl,by omega,fun j hj=>by rw[Al hj]⟩
 | m+1,i,acc,hm=>by
  have hq:=h i (by omega)
  have e:(F:Int)+(i:Int)=((F+i:Nat):Int):=by omega
  obtain⟨T,t1,t2,t3⟩:=r8x h m (i+1) (acc++(u0i d ((F+i:Nat):Int)).1) (by omega)
  refine⟨T,?_,?_,fun j hj=> ?_⟩
  ·unfold r34
   rw[e,Al hq.1]
   exact t1
  ·rw[t2,Af,hq.2];omega
  ·rw[t3 j hj,Af,hq.2,u29]
   by_cases h1:j<acc.size
   ·rw[Al (by omega),Al h1,Al h1]
   ·rw[Ao h1,Ao h1]
    by_cases h2:j<acc.size+64
    ·rw[Al h2]
     have z1:(j - acc.size) / 64=0:=by omega
     have z2:(j - acc.size) % 64=j - acc.size:=by omega
     rw[z1,z2,Df]
    ·rw[Ao h2]
     have z1:F+(i+1)+(j - (acc.size+64)) / 64=F+i+(j - acc.size) / 64:=by omega
     have z2:(j - (acc.size+64)) % 64=(j - acc.size) % 64:=by omega
     rw[z1,z2]
def t47 (a:Int):Nat:=(u0d a+1).toNat
def s09 (d:u0j) (a:Int):Hs:=(u8l d (u0d a+1) 47).1
theorem u23 {d:u0j} (hf:o2v d) {a:Int} (ha:a=0∨a=1):u8l d (u0d a+1) 47=(s09 d a,true)∧(s09 d a).size=3008∧ ∀j,j<3008→t48 (s09 d a) j=t48 (u0i d ((t47 a+j / 64:Nat):Int)).1 (j % 64):=by
 have hfa:u0d a=1+a*48:=by unfold u0d;rw[Al (p5d.mpr ha)]
 have hF:(u0d a+1:Int)=((t47 a:Nat):Int):=by unfold t47;rcases ha with rfl | rfl<;>omega
 have hb:t47 a+47≤97:=by unfold t47;rcases ha with rfl | rfl<;>omega
 obtain⟨T,t1,t2,t3⟩:=r8x (d:=d) (F:=t47 a) (fun q hq=>hf (t47 a+q) (by omega)) 47 0 emp (by omega)
 have he:emp.size=0:=rfl
 have hs:u8l d (u0d a+1) 47=(T,true):=by
  unfold u8l
  rw[Al (by omega),hF]
  exact t1
 have hT:s09 d a=T:=by unfold s09;rw[hs]
 rw[hT]
 rw[he] at t2 t3
 refine⟨hs,by omega,fun j hj=> ?_⟩
 rw[t3 j (by omega),Ao (by omega),Df,Nat.sub_zero]
theorem u57 {d:u0j} (hf:o2v d) {a:Int} (ha:a=0∨a=1):u0c d a=u4p (s09 d a) (u05 d a).toNat 0 [] :=by
 have h:=(u23 hf ha).1
 have hi:p05 a=true:=p5d.mpr ha
 unfold u0c
 rw[h,hi]
 rfl
end
section
theorem q9e {a b:Hs} (h:a.data.toList=b.data.toList):a=b:=by
 apply Gf
 exact Array.toList_inj.mp h
theorem r7a (a b:Hs):(a++b).data.toList=a.data.toList++b.data.toList:=by rw[Ft,Ha]
theorem t5n (a b c:Hs):a++b++c=a++(b++c):=q9e (by simp only[r7a,Bi])
theorem p25 (a:Hs):emp++a=a:=q9e (by rw[r7a];rfl)
theorem p2x (a:Hs):a++emp=a:=q9e (by rw[r7a];simp[emp])
theorem s9x (a:Hs):a.size=a.data.toList.length:=q68 a
def r20 (n:Int):Hs:=y7e (t7b n.toNat)
def p0s (b:Bool):Hs:=y7e [if b then 1 else 0]
def r9d {E:Type} (f:E→Hs) (l:Hu E):Hs:=l.foldl (fun s x=>s++f x) emp
def p1j (r:t25):Hs:=u02 r.1++u02 r.2
def wrT (w:WrT):Hs:=u02 w.1++(u02 w.2.1++p0s w.2.2)
def p1x (v:u1m):Hs:=u02 v.1++(u02 v.2.1++(p0s v.2.2.1++r20 v.2.2.2))
def t2n (t:u0f):Hs:=
 r20 t.1++(r20 t.2.1++(r20 t.2.2.1++(r20 t.2.2.2.1++(r20 (t.2.2.2.2.1.length:Int)++(r9d p1j t.2.2.2.2.1++(r20 (t.2.2.2.2.2.1.length:Int)++(r9d wrT t.2.2.2.2.2.1++(p0s t.2.2.2.2.2.2.1++u02 t.2.2.2.2.2.2.2))))))))
def r5c (l:Hu u0f):Hs:=r20 (l.length:Int)++r9d t2n l
def t6c (b:u0k):Hs:=r20 b.2.2.2.1++(r20 b.2.2.2.2++(r20 (b.1.length:Int)++(r9d p1x b.1++(r5c b.2.1++r5c b.2.2.1))))
theorem r1q {E:Type} (f:E→Hs):∀(l:Hu E) (s:Hs),l.foldl (fun s x=>s++f x) s=s++r9d f l
 | [],s=>(p2x s).symm
 | x::l,s=>by
  rw[Bs,r1q f l]
  unfold r9d
  rw[Bs,r1q f l (emp++f x),p25,t5n]
  rfl
theorem q5m {E:Type} (f:E→Hs) (x:E) (l:Hu E):r9d f (x::l)=f x++r9d f l:=by
 unfold r9d
 rw[Bs,r1q,p25]
 rfl
theorem q9g {E:Type} (f:E→Hs):r9d f [] =emp:=rfl
def u9l (T:Hs) (a:Nat) (s:Hs):Prop:= ∃r,T.data.toList.drop a=s.data.toList++r
theorem p89 {T:Hs} {a:Nat} {s u:Hs} :u9l T a (s++u)↔u9l T a s∧u9l T (a+s.size) u:=by
 unfold u9l
 rw[r7a,s9x s]
 constructor
 ·rintro⟨r,h⟩
  refine⟨⟨u.data.toList++r,by rw[h,Bi]⟩,r,?_⟩
  rw[←Gl,h,Bi,Hg]
 ·rintro⟨⟨r,h⟩,r',h'⟩
  rw[←Gl,h,Hg] at h'
  exact⟨r',by rw[h,h',Bi]⟩
theorem r2t {T:Hs} {a:Nat} {s:Hs} (h:u9l T a s) (hs:s.size≠0):a+s.size≤T.size:=by
 obtain⟨r,h⟩:=h
 have:=Dj List.length h
 rw[F0,Ba,←s9x,←s9x] at this
 omega
theorem p1p {a s b:Hs} :u9l (a++s++b) a.size s:=⟨b.data.toList,by rw[r7a,r7a,s9x,Bi,Hg]⟩
theorem t62 (n:Int):(r20 n).size=(t7b n.toNat).length:=u2j _
theorem r2z (n:Nat):0<(t7b n).length:=by
 by_cases h:n<128
 ·rw[s6l h];simp
 ·rw[r38 h];simp
theorem s9h {T:Hs} {a:Nat} {n:Int} (h0:0≤n) (hn:n≤1000000000) (h:u9l T a (r20 n)):u0x T (a:Int)=(n,((a+(r20 n).size:Nat):Int),true):=by
 have hle:=r2t h (by rw[t62];have:=r2z n.toNat;omega)
 obtain⟨r,h⟩:=h
 unfold r20 at h
 rw[t61] at h
 have hv:=r39 5 0 0 n.toNat n.toNat r (by omega) (by omega) (by simp) (by omega) (by omega)
 unfold u0x
 rw[Al (by omega),zTn,h,hv]
 simp only[r84]
 rw[t62]
 congr 1
 ·omega
 ·congr 1
  omega
theorem r6b {T:Hs} {a:Nat} {s:Hs} (hs:s.size≤20000) (h:u9l T a (u02 s)):u0u T (a:Int)=(s,((a+(u02 s).size:Nat):Int),true):=by
 have e:u02 s=r20 (s.size:Int)++s:=rfl
 rw[e] at h
 obtain⟨h1,h2⟩:=p89.mp h
 have hv:=s9h (by omega) (by omega) h1
 have hle1:=r2t h1 (by rw[t62];have:=r2z (s.size:Int).toNat;omega)
 unfold u0u
 rw[hv]
 have hle:a+(r20 (s.size:Int)).size+s.size≤T.size:=by
  by_cases q:s.size=0
  ·omega
  ·exact r2t h2 q
 rw[Al (by simp only[true_and];omega)]
 have hx:T.extract (((a+(r20 (s.size:Int)).size:Nat):Int)).toNat ((((a+(r20 (s.size:Int)).size:Nat):Int)+(s.size:Int))).toNat=s:=by
  rw[zTn,show(((a+(r20 (s.size:Int)).size:Nat):Int)+(s.size:Int)).toNat=a+(r20 (s.size:Int)).size+s.size by omega]
  rw[s5o _ _ _ hle]
  obtain⟨r,hr⟩:=h2
  rw[hr,Nat.add_sub_cancel_left,s9x,List.take_left]
 simp only[hx]
 rw[e,Af]
 congr 2
 omega
abbrev Cur:=Int×Bool
def u2k (s:Hs) (c:Cur):Int×Cur:=if c.2=true∨(u0x s c.1).2.2=false then(0,c.1,true) else((u0x s c.1).1,(u0x s c.1).2.1,false)
def u11 (s:Hs) (c:Cur):Hs×Cur:=if c.2=true∨(u0u s c.1).2.2=false then(emp,c.1,true) else((u0u s c.1).1,(u0u s c.1).2.1,false)
def u9o (s:Hs) (i:Nat):Nat:=(s.data.toList.getD i 0).toNat
def r8o (s:Hs) (c:Cur):Bool×Cur:=if c.2=true∨ ¬(0≤c.1∧c.1<(s.size:Int))∨1<u9o s c.1.toNat then(false,c.1,true) else(decide (u9o s c.1.toNat=1),c.1+1,false)
def u2r {E:Type} (f:Cur→E×Cur):Nat→Cur→Hu E→Hu E×Cur
 | 0,c,a=>(a,c)
 | n+1,c,a=>if c.2=true then(a,c) else u2r f n (f c).2 (a++ [(f c).1])
def q9z (s:Hs) (c:Cur):t25×Cur:=(((u11 s c).1,(u11 s (u11 s c).2).1),(u11 s (u11 s c).2).2)
def rWr (s:Hs) (c:Cur):WrT×Cur:=
 (((u11 s c).1,(u11 s (u11 s c).2).1,(r8o s (u11 s (u11 s c).2).2).1),(r8o s (u11 s (u11 s c).2).2).2)
def q91 (s:Hs) (c:Cur):u1m×Cur:=
 let w:=rWr s c
 ((w.1.1,w.1.2.1,w.1.2.2,(u2k s w.2).1),(u2k s w.2).2)
def q09 (m:Nat) (s:Hs) (c:Cur):u0f×Cur:=
 let a:=u2k s c
 let b:=u2k s a.2
 let d:=u2k s b.2
 let e:=u2k s d.2
 let n:=u2k s e.2
 let rs:=u2r (q9z s) (min n.1.toNat m) n.2 []
 let k:=u2k s rs.2
 let ws:=u2r (rWr s) (min k.1.toNat m) k.2 []
 let o:=r8o s ws.2
 let nm:=u11 s o.2
 ((a.1,b.1,d.1,e.1,rs.1,ws.1,o.1,nm.1),nm.2)
theorem u56 {s:Hs} {c:Cur} (h:c.2=true):(u2k s c).2.2=true:=by unfold u2k;rw[Al (.inl h)]
theorem s0h {s:Hs} {c:Cur} (h:c.2=true):(u11 s c).2.2=true:=by unfold u11;rw[Al (.inl h)]
theorem r2p {s:Hs} {c:Cur} (h:c.2=true):(r8o s c).2.2=true:=by unfold r8o;rw[Al (.inl h)]
theorem u9w {E:Type} {f:Cur→E×Cur} {n:Nat} {c:Cur} {a:Hu E} (h:c.2=true):u2r f n c a=(a,c):=by
 cases n with
 | zero=>rfl
 | succ n=>simp only[u2r];rw[Al h]
theorem q6x {E:Type} {f:Cur→E×Cur} :∀ {n:Nat} {c:Cur} {a:Hu E},(u2r f n c a).2.2=false→(u2r f n c a).1.length=a.length+n
 | 0,c,a,_=>rfl
 | n+1,c,a,h=>by
  simp only[u2r] at h ⊢
  split at h
  ·rename_i q;rw[q] at h;cases h
  ·rename_i q
   rw[Ao q,q6x h]
   simp;omega
theorem u34 {s:Hs} {a:Nat} {n:Int} (h0:0≤n) (hn:n≤1000000000) (h:u9l s a (r20 n)):u2k s ((a:Int),false)=(n,((a+(r20 n).size:Nat):Int),false):=by
 unfold u2k
 rw[s9h h0 hn h,Ao (by simp)]
theorem t1g {s:Hs} {a:Nat} {x:Hs} (hx:x.size≤20000) (h:u9l s a (u02 x)):u11 s ((a:Int),false)=(x,((a+(u02 x).size:Nat):Int),false):=by
 unfold u11
 rw[r6b hx h,Ao (by simp)]
theorem u3i (b:Bool):(p0s b).size=1:=u2j _
theorem s98 {s:Hs} {a:Nat} {b:Bool} (h:u9l s a (p0s b)):r8o s ((a:Int),false)=(b,((a+1:Nat):Int),false):=by
 have hle:=r2t h (by rw[u3i];omega)
 rw[u3i] at hle
 obtain⟨r,hr⟩:=h
 unfold p0s at hr
 rw[t61] at hr
 have hb:u9o s a=if b then 1 else 0:=by
  unfold u9o
  have:s.data.toList.getD a 0=(s.data.toList.drop a).getD 0 0:=by
   rw[A5,A5,Dg,Df]
  rw[this,hr]
  cases b<;>rfl
 unfold r8o
 simp only[zTn,hb]
 rw[Ao]
 ·cases b<;>simp
 ·rintro(q | q | q)
  ·cases q
  ·omega
  ·cases b<;>simp at q
theorem t4e {E:Type} {f:Cur→E×Cur} {g:E→Hs} {s:Hs} :∀ {l:Hu E} {a:Nat} {acc:Hu E},(∀x∈l,∀a:Nat,u9l s a (g x)→f ((a:Int),false)=(x,((a+(g x).size:Nat):Int),false))→
 u9l s a (r9d g l)→u2r f l.length ((a:Int),false) acc=(acc++l,((a+(r9d g l).size:Nat):Int),false)
 | [],a,acc,_,_=>by rw[q9g];simp[u2r,emp,ByteArray.size]
 | x::l,a,acc,hf,h=>by
  rw[q5m] at h ⊢
  obtain⟨h1,h2⟩:=p89.mp h
  have e:=hf x (by simp) a h1
  simp only[Bc,u2r]
  rw[Ao (by simp),e]
  rw[t4e (l:=l) (fun y hy=>hf y (by simp[hy])) h2,Af]
  simp[D9]
theorem q8k {s:Hs} {a:Nat} {r:t25} (h1:r.1.size≤20000) (h2:r.2.size≤20000) (h:u9l s a (p1j r)):q9z s ((a:Int),false)=(r,((a+(p1j r).size:Nat):Int),false):=by
 obtain⟨k1,k2⟩:=p89.mp h
 unfold q9z
 rw[t1g h1 k1]
 simp only
 rw[t1g h2 k2]
 unfold p1j
 rw[Af,D9]
theorem q18 {s:Hs} {a:Nat} {w:WrT} (h1:w.1.size≤20000) (h2:w.2.1.size≤20000) (h:u9l s a (wrT w)):rWr s ((a:Int),false)=(w,((a+(wrT w).size:Nat):Int),false):=by
 obtain⟨k1,k2⟩:=p89.mp h
 obtain⟨k2,k3⟩:=p89.mp k2
 unfold rWr
 rw[t1g h1 k1]
 simp only
 rw[t1g h2 k2]
 simp only
 rw[s98 k3]
 unfold wrT
 rw[Af,Af,u3i,D9,D9]
theorem q8m {s:Hs} {a:Nat} {v:u1m} (h1:v.1.size≤20000) (h2:v.2.1.size≤20000) (h3:0≤v.2.2.2∧v.2.2.2≤1000000000) (h:u9l s a (p1x v)):q91 s ((a:Int),false)=(v,((a+(p1x v).size:Nat):Int),false):=by
 have e:p1x v=wrT (v.1,v.2.1,v.2.2.1)++r20 v.2.2.2:=by unfold p1x wrT;simp only[t5n]
 rw[e] at h ⊢
 obtain⟨k1,k2⟩:=p89.mp h
 unfold q91
 rw[q18 (w:=(v.1,v.2.1,v.2.2.1)) h1 h2 k1]
 simp only
 rw[u34 h3.1 h3.2 k2,Af,D9]
theorem TxnR.small {t:u0f} (h:TxnR t):(∀r∈t.2.2.2.2.1,r.1.size≤3∧r.2.size≤3)∧(∀w∈t.2.2.2.2.2.1,w.1.size≤3∧w.2.1.size≤12)∧t.2.2.2.2.2.2.2.size≤3∧t.2.2.2.2.2.1.length≤8∧0≤t.2.2.2.1∧t.2.2.2.1≤9999:=by
 obtain⟨w1,w2,w3⟩:=p7i.mp h.ws
 refine⟨fun r hr=> ?_,fun w hw=> ?_,?_,w3,?_⟩
 ·have:=h.rs r hr
  unfold u12 at this
  rw[Ai,Ai] at this
  exact⟨(u1w this.1).2,(u1w this.2.1).2⟩
 ·have:=w1 w hw
  unfold u2i at this
  rw[Ai,Ai,Ar] at this
  exact⟨(u1w this.1).2,this.2.1⟩
 ·by_cases e:t.2.1=2
  ·exact(u1w (h.name e)).2
  ·rw[h.noname e];omega
 ·by_cases e:t.2.1=3
  ·have:=h.done e;have:=h.snap;omega
  ·rw[h.nocs e];omega
theorem q8l {s:Hs} {a:Nat} {t:u0f} {m:Nat} (hm:8≤m) (ht:TxnR t) (h:u9l s a (t2n t)):q09 m s ((a:Int),false)=(t,((a+(t2n t).size:Nat):Int),false):=by
 obtain⟨z1,z2,z3,z4,z5⟩:=ht.small
 have hi:=ht.id;have hst:=ht.st;have hsn:=ht.snap;have hrl:=ht.rlen
 unfold t2n at h ⊢
 obtain⟨k1,h⟩:=p89.mp h
 obtain⟨k2,h⟩:=p89.mp h
 obtain⟨k3,h⟩:=p89.mp h
 obtain⟨k4,h⟩:=p89.mp h
 obtain⟨k5,h⟩:=p89.mp h
 obtain⟨k6,h⟩:=p89.mp h
 obtain⟨k7,h⟩:=p89.mp h
 obtain⟨k8,h⟩:=p89.mp h
 obtain⟨k9,k10⟩:=p89.mp h
 unfold q09
 rw[u34 (by omega) (by omega) k1]
 simp only
 rw[u34 (by omega) (by omega) k2]
 simp only
 rw[u34 (by omega) (by omega) k3]
 simp only
 rw[u34 (by omega) (by omega) k4]
 simp only
 rw[u34 (by omega) (by omega) k5]
 simp only
 rw[show min ((t.2.2.2.2.1.length:Int)).toNat m=t.2.2.2.2.1.length by omega,t4e (g:=p1j) (fun r hr a hs=>q8k (by have:=(z1 r hr).1;omega) (by have:=(z1 r hr).2;omega) hs) k6]
 simp only
 rw[u34 (by omega) (by omega) k7]
 simp only
 rw[show min ((t.2.2.2.2.2.1.length:Int)).toNat m=t.2.2.2.2.2.1.length by omega,t4e (g:=wrT) (fun w hw a hs=>q18 (by have:=(z2 w hw).1;omega) (by have:=(z2 w hw).2;omega) hs) k8]
 simp only
 rw[s98 k9]
 simp only
 rw[u3i] at k10
 rw[t1g (by omega) k10]
 simp only[Cf,Af,u3i]
 simp only[D9]
end
section
def u6v (m:Nat) (s:Hs) (c:Cur):u0f×Cur:=((q09 m s c).1,(q09 m s c).2.1,(q09 m s c).2.2 || !t23 (q09 m s c).1)
def t1k (m k:Nat) (s:Hs) (c:Cur):Hu u0f×Cur:=u2r (u6v m s) (min (u2k s c).1.toNat k) (u2k s c).2 []
structure Lim where
 t:Nat
 v:Nat
 p:Nat
 r:Nat
def s4i (m:Lim) (s:Hs) (c:Cur):u0k×Cur:=
 let a:=u2k s c
 let b:=u2k s a.2
 let n:=u2k s b.2
 let vs:=u2r (q91 s) (min n.1.toNat m.v) n.2 []
 let ps:=t1k m.t m.p s vs.2
 let rs:=t1k m.t m.r s ps.2
 ((vs.1,ps.1,rs.1,a.1,b.1),rs.2)
theorem p3n {m:Nat} {s:Hs} {c:Cur} (h:c.2=true):(u6v m s c).2.2=true:=by
 have:(q09 m s c).2.2=true:=by
  unfold q09
  have h1:=u56 (s:=s) h
  have h2:=u56 (s:=s) h1
  have h3:=u56 (s:=s) h2
  have h4:=u56 (s:=s) h3
  have h5:=u56 (s:=s) h4
  simp only
  rw[u9w h5]
  have h6:=u56 (s:=s) h5
  simp only
  rw[u9w h6]
  exact s0h (r2p h6)
 unfold u6v
 simp only[this,Dx]
theorem s67 {E:Type} {f:Cur→E×Cur} {n k:Nat} {c:Cur} (hk:k≤n):(u2r f n c []).2.2=true∨k≤(u2r f n c []).1.length:=by
 cases h:(u2r f n c []).2.2 with
 | true=>exact .inl rfl
 | false=>rw[q6x h];exact .inr (by simp;exact hk)
theorem q6p {m m' :Nat} (hm:9≤m) (hm' :9≤m') {s:Hs} {c:Cur} (h:(u6v m s c).2.2=false):u6v m' s c=u6v m s c:=by
 have hb:(q09 m s c).2.2=false∧t23 (q09 m s c).1=true:=by
  unfold u6v at h
  simp only[Es,Bool.not_eq_false'] at h
  exact h
 have hR:=r2x.mp hb.2
 have hw:=(p7i.mp hR.ws).2.2
 suffices e:q09 m' s c=q09 m s c by unfold u6v;rw[e]
 have b1:=hb.1
 have hr:=hR.rlen
 unfold q09 at b1 hr hw ⊢
 simp only at b1 hr hw ⊢
 generalize hn:u2k s (u2k s (u2k s (u2k s (u2k s c).2).2).2).2=n at b1 hr hw ⊢
 have k1:n.1.toNat≤8∨(u2r (q9z s) (min n.1.toNat m) n.2 []).2.2=true:=by
  rcases B8 8 n.1.toNat with q | q
  ·rcases s67 (f:=q9z s) (n:=min n.1.toNat m) (k:=9) (c:=n.2) (by omega) with z | z
   ·exact .inr z
   ·omega
  ·exact .inl q
 have k1:n.1.toNat≤8:=k1.resolve_right fun k1=>by
  have h1:=u56 (s:=s) k1
  rw[u9w h1] at b1
  rw[s0h (r2p h1)] at b1
  cases b1
 have e1:min n.1.toNat m=min n.1.toNat m' :=by omega
 rw[e1] at b1 hw ⊢
 generalize hk:u2k s (u2r (q9z s) (min n.1.toNat m') n.2 []).2=k at b1 hw ⊢
 have k2:k.1.toNat≤8∨(u2r (rWr s) (min k.1.toNat m) k.2 []).2.2=true:=by
  rcases B8 8 k.1.toNat with q | q
  ·rcases s67 (f:=rWr s) (n:=min k.1.toNat m) (k:=9) (c:=k.2) (by omega) with z | z
   ·exact .inr z
   ·omega
  ·exact .inl q
 have k2:k.1.toNat≤8:=k2.resolve_right fun k2=>by
  rw[s0h (r2p k2)] at b1
  cases b1
 have e2:min k.1.toNat m=min k.1.toNat m' :=by omega
 rw[e2]
theorem r8p {E:Type} {f g:Cur→E×Cur} (hf:∀c,(f c).2.2=false→g c=f c) (hfb:∀c,c.2=true→(f c).2.2=true):∀ {n:Nat} {c:Cur} {a:Hu E},(u2r f n c a).2.2=false→u2r g n c a=u2r f n c a
 | 0,c,a,_=>rfl
 | n+1,c,a,h=>by
  simp only[u2r] at h ⊢
  split at h
  ·rename_i q;rw[q] at h;cases h
  ·rename_i q
   rw[Ao q,Ao q]
   have:(f c).2.2=false:=by
    cases z:(f c).2.2 with
    | false=>rfl
    | true=>rw[u9w z] at h;rw[z] at h;cases h
   rw[hf c this]
   exact r8p hf hfb h
def t39 (m:Lim) (s:Hs) (c:Cur):u0k×Cur:=((s4i m s c).1,(s4i m s c).2.1,(s4i m s c).2.2 || !t2p (s4i m s c).1)
def Lim.ok (m:Lim):Prop:=9≤m.t∧121≤m.v∧13≤m.p∧4≤m.r
theorem s6e {m k:Nat} {s:Hs} {c:Cur} (h:c.2=true):(t1k m k s c).2.2=true:=by
 unfold t1k;rw[u9w (u56 h)];exact u56 h
theorem q6z {m m' k k' N:Nat} (hm:9≤m) (hm' :9≤m') (hk:N<k) (hk' :N<k') {s:Hs} {c:Cur} (h:(t1k m k s c).2.2=false) (hl:(t1k m k s c).1.length≤N):t1k m' k' s c=t1k m k s c:=by
 unfold t1k at h hl ⊢
 have q:(u2k s c).1.toNat≤N:=by
  rcases B8 N (u2k s c).1.toNat with q | q
  ·rcases s67 (f:=u6v m s) (n:=min (u2k s c).1.toNat k) (k:=N+1) (c:=(u2k s c).2) (by omega) with z | z
   ·rw[z] at h;cases h
   ·omega
  ·exact q
 have e:min (u2k s c).1.toNat k=min (u2k s c).1.toNat k' :=by omega
 rw[e] at h ⊢
 exact r8p (fun c hc=>q6p hm hm' hc) (fun c hc=>p3n hc) h
theorem p08 {m m' :Lim} (hm:m.ok) (hm' :m'.ok) {s:Hs} {c:Cur} (h:(t39 m s c).2.2=false):t39 m' s c=t39 m s c:=by
 obtain⟨a1,a2,a3,a4⟩:=hm
 obtain⟨b1,b2,b3,b4⟩:=hm'
 have hb:(s4i m s c).2.2=false∧t2p (s4i m s c).1=true:=by
  unfold t39 at h
  simp only[Es,Bool.not_eq_false'] at h
  exact h
 have hR:=q1n.mp hb.2
 have v1:=(p4m.mp hR.vs).2.2
 have v2:=hR.plen
 have v3:=hR.rlen
 have h0:=hb.1
 suffices e:s4i m' s c=s4i m s c by unfold t39;rw[e]
 unfold s4i at h0 v1 v2 v3 ⊢
 simp only at h0 v1 v2 v3 ⊢
 generalize hn:u2k s (u2k s (u2k s c).2).2=n at h0 v1 v2 v3 ⊢
 have k1:n.1.toNat≤120:=by
  rcases B8 120 n.1.toNat with q | q
  ·rcases s67 (f:=q91 s) (n:=min n.1.toNat m.v) (k:=121) (c:=n.2) (by omega) with z | z
   ·exfalso
    rw[s6e (s6e z)] at h0
    cases h0
   ·omega
  ·exact q
 have e1:min n.1.toNat m.v=min n.1.toNat m'.v:=by omega
 rw[e1] at h0 v2 v3 ⊢
 generalize hv:u2r (q91 s) (min n.1.toNat m'.v) n.2 [] =vs at h0 v2 v3 ⊢
 have hp:(t1k m.t m.p s vs.2).2.2=false:=by
  cases z:(t1k m.t m.p s vs.2).2.2 with
  | false=>rfl
  | true=>rw[s6e z] at h0;cases h0
 rw[q6z (N:=12) a1 b1 (by omega) (by omega) hp v2]
 rw[q6z (N:=3) a1 b1 (by omega) (by omega) h0 v3]
theorem s6a {s:Hs} {a:Nat} {t:u0f} {m:Nat} (hm:8≤m) (ht:TxnR t) (h:u9l s a (t2n t)):u6v m s ((a:Int),false)=(t,((a+(t2n t).size:Nat):Int),false):=by
 unfold u6v
 rw[q8l hm ht h]
 simp only[r2x.mpr ht,Ap,Fp]
theorem r45 {s:Hs} {a:Nat} {l:Hu u0f} {m k:Nat} (hm:8≤m) (hk:l.length≤k) (hl:l.length≤1000000000) (ht:∀t∈l,TxnR t) (h:u9l s a (r5c l)):t1k m k s ((a:Int),false)=(l,((a+(r5c l).size:Nat):Int),false):=by
 unfold r5c at h ⊢
 obtain⟨k1,k2⟩:=p89.mp h
 unfold t1k
 rw[u34 (by omega) (by omega) k1]
 simp only
 rw[show min ((l.length:Int)).toNat k=l.length by omega,t4e (g:=t2n) (fun t h a hs=>s6a hm (ht t h) hs) k2]
 rw[Af,Cf,D9]
theorem s1y {v:u1m} (h:s7k v=true):v.1.size≤3∧v.2.1.size≤12∧1≤v.2.2.2∧v.2.2.2≤9999:=by
 unfold s7k at h
 simp only[Ai,Ar,r3v] at h
 exact⟨(u1w h.1).2,h.2.1,h.2.2.2⟩
theorem q6w {s:Hs} {a:Nat} {b:u0k} {m:Lim} (hm:m.ok) (hb:BaseR b) (h:u9l s a (t6c b)):s4i m s ((a:Int),false)=(b,((a+(t6c b).size:Nat):Int),false):=by
 obtain⟨a1,a2,a3,a4⟩:=hm
 obtain⟨v1,v2,v3⟩:=p4m.mp hb.vs
 have hc:=hb.cs;have hx:=hb.next;have hp:=hb.plen;have hr:=hb.rlen
 unfold t6c at h ⊢
 obtain⟨k1,h⟩:=p89.mp h
 obtain⟨k2,h⟩:=p89.mp h
 obtain⟨k3,h⟩:=p89.mp h
 obtain⟨k4,h⟩:=p89.mp h
 obtain⟨k5,k6⟩:=p89.mp h
 unfold s4i
 rw[u34 (by omega) (by omega) k1]
 simp only
 rw[u34 (by omega) (by omega) k2]
 simp only
 rw[u34 (by omega) (by omega) k3]
 simp only
 rw[show min ((b.1.length:Int)).toNat m.v=b.1.length by omega,t4e (g:=p1x) (fun v hv a hs=>by
  have:=s1y (v1 v hv)
  exact q8m (by omega) (by omega) (by omega) hs) k4]
 simp only
 rw[r45 (by omega) (by omega) (by omega) (fun t ht=>(hb.past t ht).1) k5]
 simp only
 rw[r45 (by omega) (by omega) (by omega) (fun t ht=>(hb.ready t ht).1) k6]
 simp only[Cf,Af,D9]
theorem q7g {n:Nat} (h:n<16384):(t7b n).length≤2:=by
 by_cases q:n<128
 ·rw[s6l q];simp
 ·rw[r38 q,s6l (by omega)];simp
theorem u2d {n:Int} (h:n<16384):(r20 n).size≤2:=by rw[t62];exact q7g (by omega)
theorem u1j {s:Hs} (h:s.size<16384):(u02 s).size≤s.size+2:=by
 unfold u02
 rw[Af,u2j]
 have:=q7g h
 omega
theorem t7p {E:Type} {f:E→Hs} {k:Nat} :∀ {l:Hu E},(∀x∈l,(f x).size≤k)→(r9d f l).size≤l.length*k
 | [],_=>by rw[q9g];simp[emp,ByteArray.size]
 | x::l,h=>by
  rw[q5m,Af,Bc,C7]
  have h1:=h x (by simp)
  have h2:=t7p (l:=l) (fun y hy=>h y (by simp[hy]))
  omega
theorem s0n {t:u0f} (h:TxnR t):(t2n t).size≤300:=by
 obtain⟨z1,z2,z3,z4,z5⟩:=h.small
 have hi:=h.id;have hst:=h.st;have hsn:=h.snap;have hrl:=h.rlen
 have r1:(r9d p1j t.2.2.2.2.1).size≤t.2.2.2.2.1.length*10:=t7p fun r hr=>by
  have:=z1 r hr
  have q1:=u1j (s:=r.1) (by omega)
  have q2:=u1j (s:=r.2) (by omega)
  unfold p1j;rw[Af];omega
 have r2:(r9d wrT t.2.2.2.2.2.1).size≤t.2.2.2.2.2.1.length*20:=t7p fun w hw=>by
  have:=z2 w hw
  have q1:=u1j (s:=w.1) (by omega)
  have q2:=u1j (s:=w.2.1) (by omega)
  unfold wrT;rw[Af,Af,u3i];omega
 have v1:=u2d (n:=t.1) (by omega)
 have v2:=u2d (n:=t.2.1) (by omega)
 have v3:=u2d (n:=t.2.2.1) (by omega)
 have v4:=u2d (n:=t.2.2.2.1) (by omega)
 have v5:=u2d (n:=(t.2.2.2.2.1.length:Int)) (by omega)
 have v6:=u2d (n:=(t.2.2.2.2.2.1.length:Int)) (by omega)
 have v7:=u1j (s:=t.2.2.2.2.2.2.2) (by omega)
 unfold t2n
 simp only[Af,u3i]
 omega
theorem s7b {l:Hu u0f} (hl:l.length<16384) (h:∀t∈l,TxnR t):(r5c l).size≤2+l.length*300:=by
 unfold r5c
 rw[Af]
 have v1:=u2d (n:=(l.length:Int)) (by omega)
 have v2:=t7p (f:=t2n) (k:=300) (l:=l) (fun t ht=>s0n (h t ht))
 omega
theorem q4t {v:u1m} (h:s7k v=true):(p1x v).size≤22:=by
 have:=s1y h
 have q1:=u1j (s:=v.1) (by omega)
 have q2:=u1j (s:=v.2.1) (by omega)
 have q3:=u2d (n:=v.2.2.2) (by omega)
 unfold p1x
 simp only[Af,u3i]
 omega
theorem q1o {b:u0k} (hb:BaseR b):(t6c b).size≤10+b.1.length*22+b.2.1.length*300+b.2.2.1.length*300:=by
 obtain⟨v1,v2,v3⟩:=p4m.mp hb.vs
 have hc:=hb.cs;have hx:=hb.next;have hp:=hb.plen;have hr:=hb.rlen
 have q1:=u2d (n:=b.2.2.2.1) (by omega)
 have q2:=u2d (n:=b.2.2.2.2) (by omega)
 have q3:=u2d (n:=(b.1.length:Int)) (by omega)
 have q4:=t7p (f:=p1x) (k:=22) (l:=b.1) (fun v hv=>q4t (v1 v hv))
 have q5:=s7b (l:=b.2.1) (by omega) (fun t ht=>(hb.past t ht).1)
 have q6:=s7b (l:=b.2.2.1) (by omega) (fun t ht=>(hb.ready t ht).1)
 unfold t6c
 simp only[Af]
 omega
end
section
def o04 (a b:Int):Int:=IntKind.u32.wrap ((BitVec.ofInt IntKind.u32.bits a^^^BitVec.ofInt IntKind.u32.bits b).toNat:Int)
def p37 (x:Int):Int:=bif decide (Int.tmod x 2=1) then o04 (IntKind.u32.wrap (Int.tdiv x 2)) 3558460437 else IntKind.u32.wrap (Int.tdiv x 2)
def r81:Nat→Int→Int
 | 0,x=>x
 | n+1,x=>r81 n (p37 x)
def q8q (x:Int) (b:UInt8):Int:=r81 8 (o04 x (IntKind.u32.wrap (b.toNat:Int)))
def p8w (t:Hs):Int:=t.data.toList.foldl q8q 4294967295
def p8q (x:Int) (k:Nat):Int:=IntKind.u8.wrap (Int.fdiv x (2^k))
def o1w (x:Int):Hs:=y7e [p8q x 24,p8q x 16,p8q x 8,IntKind.u8.wrap x]
def s7i (t:Hs):Hs:=t++o1w (p8w t)
def q94 (t:Hs):Hs×Bool:=if t.size≤20000 then(s7i t,true) else(emp,false)
def t3w (t:Hs):Ht Hs:=if 4≤t.size∧t.size - 4≤20000∧s7i (t.extract 0 (t.size - 4))=t then some (t.extract 0 (t.size - 4)) else none
theorem p29 (x:Int):(o1w x).size=4:=u2j _
theorem q2b (t:Hs):(s7i t).size=t.size+4:=by unfold s7i;rw[Af,p29]
theorem r2y {t:Hs} (h:t.size≤20000):t3w (s7i t)=some t:=by
 have hs:=q2b t
 have e:(s7i t).extract 0 ((s7i t).size - 4)=t:=by
  rw[hs,Nat.add_sub_cancel]
  exact ByteArray.extract_append_eq_left rfl
 unfold t3w
 rw[e,Al ⟨by omega,by omega,rfl⟩]
abbrev t9h:=Int×u0f×Hs×Bool×u0k
def u30:u0f:=(0,0,0,0, [], [],false,emp)
def u2f:u0k:=([], [], [],0,0)
def noT (t:u0f):Bool:=decide (t.1=0)&&(decide (t.2.1=0)&&(decide (t.2.2.1=0)&&(decide (t.2.2.2.1=0)&&(decide (t.2.2.2.2.1.length=0)&&(decide (t.2.2.2.2.2.1.length=0)&&(!t.2.2.2.2.2.2.1&&decide (t.2.2.2.2.2.2.2.size=0)))))))
def noB (b:u0k):Bool:=decide (b.1.length=0)&&(decide (b.2.1.length=0)&&(decide (b.2.2.1.length=0)&&(decide (b.2.2.2.1=0)&&decide (b.2.2.2.2=0))))
def u9f (r:t9h):Bool:=
 if r.1=1 then t23 r.2.1&&(decide (r.2.1.2.1=3)&&(decide (r.2.2.1.size=0)&&(!r.2.2.2.1&&noB r.2.2.2.2)))
 else if r.1=2 then t23 r.2.1&&(decide (r.2.1.2.1=2)&&(decide (r.2.2.1.size=0)&&(!r.2.2.2.1&&noB r.2.2.2.2)))
 else if r.1=3 then noT r.2.1&&(u38 r.2.2.1&&noB r.2.2.2.2)
 else if r.1=4 then noT r.2.1&&(decide (r.2.2.1.size=0)&&(!r.2.2.2.1&&t2p r.2.2.2.2))
 else false
def s6i (r:t9h):Hs:=y7e [IntKind.u8.wrap r.1] ++(if r.1=3 then u02 r.2.2.1++p0s r.2.2.2.1 else if r.1=4 then t6c r.2.2.2.2 else t2n r.2.1)
def u0z (r:t9h):Hs×Bool:=if u9f r=true then q94 (s6i r) else(emp,false)
theorem p58 {s:Hs} (h:s.size=0):s=emp:=q9e (by
 rw[s9x] at h
 rw[Dk.mp h];rfl)
theorem p3l {t:u0f} :noT t=true↔t=u30:=by
 unfold noT u30
 simp only[Ai,Ar,Bj]
 constructor
 ·rintro⟨h1,h2,h3,h4,h5,h6,h7,h8⟩
  obtain⟨t1,t2,t3,t4,t5,t6,t7,t8⟩:=t
  simp only at h1 h2 h3 h4 h5 h6 h7 h8
  rw[h1,h2,h3,h4,Dk.mp h5,Dk.mp h6,h7,p58 h8]
 ·rintro rfl
  exact⟨rfl,rfl,rfl,rfl,rfl,rfl,rfl,rfl⟩
theorem q8f {b:u0k} :noB b=true↔b=u2f:=by
 unfold noB u2f
 simp only[Ai,Ar]
 constructor
 ·rintro⟨h1,h2,h3,h4,h5⟩
  obtain⟨t1,t2,t3,t4,t5⟩:=b
  simp only at h1 h2 h3 h4 h5
  rw[h4,h5,Dk.mp h1,Dk.mp h2,Dk.mp h3]
 ·rintro rfl
  exact⟨rfl,rfl,rfl,rfl,rfl⟩
inductive RecR:t9h→Prop where
 | thr (t:u0f) (h:TxnR t) (hs:t.2.1=3):RecR (1,t,emp,false,u2f)
 | rdy (t:u0f) (h:TxnR t) (hs:t.2.1=2):RecR (2,t,emp,false,u2f)
 | fin (n:Hs) (y:Bool) (h:u38 n=true):RecR (3,u30,n,y,u2f)
 | bas (b:u0k) (h:BaseR b):RecR (4,u30,emp,false,b)
theorem p7e {r:t9h} :u9f r=true↔RecR r:=by
 obtain⟨k,t,n,y,b⟩:=r
 unfold u9f
 simp only
 constructor
 ·intro h
  split at h
  ·rename_i e
   simp only[Ai,Ar,Bj,r2x,q8f] at h
   obtain⟨h1,h2,h3,h4,h5⟩:=h
   rw[e,p58 h3,h4,h5];exact .thr t h1 h2
  ·split at h
   ·rename_i _ e
    simp only[Ai,Ar,Bj,r2x,q8f] at h
    obtain⟨h1,h2,h3,h4,h5⟩:=h
    rw[e,p58 h3,h4,h5];exact .rdy t h1 h2
   ·split at h
    ·rename_i _ _ e
     simp only[Ai,p3l,q8f] at h
     obtain⟨h1,h2,h3⟩:=h
     rw[e,h1,h3];exact .fin n y h2
    ·split at h
     ·rename_i _ _ _ e
      simp only[Ai,Ar,Bj,p3l,q1n] at h
      obtain⟨h1,h2,h3,h4⟩:=h
      rw[e,h1,p58 h2,h3];exact .bas b h4
     ·cases h
 ·intro h
  cases h with
  | thr t h hs=>simp[r2x.mpr h,hs,q8f.mpr rfl,emp,ByteArray.size]
  | rdy t h hs=>simp[r2x.mpr h,hs,q8f.mpr rfl,emp,ByteArray.size]
  | fin n y h=>simp[h,q8f.mpr rfl,p3l.mpr rfl]
  | bas b h=>simp[q1n.mpr h,p3l.mpr rfl,emp,ByteArray.size]
theorem s0j {r:t9h} (h:RecR r):2≤(s6i r).size∧(s6i r).size≤10000:=by
 have h1:∀n:Int,(y7e [n]).size=1:=fun n=>u2j _
 cases h with
 | thr t h hs=>
  have:=s0n h
  have q:1≤(t2n t).size:=by
   unfold t2n;rw[Af,t62];have:=r2z t.1.toNat;omega
  show 2≤(y7e _++t2n t).size∧(y7e _++t2n t).size≤10000
  rw[Af,h1];omega
 | rdy t h hs=>
  have:=s0n h
  have q:1≤(t2n t).size:=by
   unfold t2n;rw[Af,t62];have:=r2z t.1.toNat;omega
  show 2≤(y7e _++t2n t).size∧(y7e _++t2n t).size≤10000
  rw[Af,h1];omega
 | fin n y h=>
  have:=u1w h
  have q:=u1j (s:=n) (by omega)
  show 2≤(y7e _++(u02 n++p0s y)).size∧(y7e _++(u02 n++p0s y)).size≤10000
  have:=(t8b n).1
  rw[Af,Af,h1,u3i];omega
 | bas b h=>
  have:=q1o h
  have a1:=(p4m.mp h.vs).2.2
  have a2:=h.plen
  have a3:=h.rlen
  have q:1≤(t6c b).size:=by
   unfold t6c;rw[Af,t62];have:=r2z b.2.2.2.1.toNat;omega
  show 2≤(y7e _++t6c b).size∧(y7e _++t6c b).size≤10000
  rw[Af,h1];omega
theorem u8k {r:t9h} (h:RecR r):u0z r=(s7i (s6i r),true):=by
 unfold u0z q94
 rw[Al (p7e.mpr h),Al (by have:=(s0j h).2;omega)]
def o28:Lim:=⟨9,121,13,4⟩
theorem p3h:o28.ok:=⟨by decide,by decide,by decide,by decide⟩
def t2k (s:Hs):t9h×Bool:=
 if u9o s 0=3 then((3,u30,(u11 s (1,false)).1,(r8o s (u11 s (1,false)).2).1,u2f),(r8o s (u11 s (1,false)).2).2.2)
 else if u9o s 0=4 then((4,u30,emp,false,(t39 o28 s (1,false)).1),(t39 o28 s (1,false)).2.2)
 else(((u9o s 0:Int),(u6v 9 s (1,false)).1,emp,false,u2f),(u6v 9 s (1,false)).2.2)
def u25 (t:Hs):Ht t9h:=
 match t3w t with
 | none=>none
 | some s=>if s.size=0 then none else if(t2k s).2=true∨u0z (t2k s).1≠(t,true) then none else some (t2k s).1
theorem q2z {k:Nat} (h:k<256) (s:Hs):u9o (y7e [IntKind.u8.wrap (k:Int)] ++s) 0=k:=by
 unfold u9o
 rw[r7a,t61]
 have:IntKind.u8.wrap (k:Int)=(k:Int):=p4f h
 rw[this]
 show(UInt8.ofNat ((k:Int)).toNat).toNat=k
 rw[zTn]
 simp
 omega
theorem s68 {r:t9h} (h:RecR r):t2k (s6i r)=(r,false):=by
 have st:∀(x:Int) (s:Hs),u9l (y7e [x] ++s) 1 s:=fun x s=>by
  have:=p1p (a:=y7e [x]) (s:=s) (b:=emp)
  rw[p2x,u2j] at this
  exact this
 cases h with
 | thr t h hs=>
  have e:s6i (1,t,emp,false,u2f)=y7e [IntKind.u8.wrap ((1:Nat):Int)] ++t2n t:=rfl
  rw[e]
  unfold t2k
  rw[q2z (by omega),Ao (by omega),Ao (by omega)]
  have q:=s6a (m:=9) (by omega) h (st (IntKind.u8.wrap ((1:Nat):Int)) (t2n t))
  have q:u6v 9 (y7e [IntKind.u8.wrap ((1:Nat):Int)] ++t2n t) (1,false)=_:=q
  rw[q];rfl
 | rdy t h hs=>
  have e:s6i (2,t,emp,false,u2f)=y7e [IntKind.u8.wrap ((2:Nat):Int)] ++t2n t:=rfl
  rw[e]
  unfold t2k
  rw[q2z (by omega),Ao (by omega),Ao (by omega)]
  have q:=s6a (m:=9) (by omega) h (st (IntKind.u8.wrap ((2:Nat):Int)) (t2n t))
  have q:u6v 9 (y7e [IntKind.u8.wrap ((2:Nat):Int)] ++t2n t) (1,false)=_:=q
  rw[q];rfl
 | fin n y h=>
  have e:s6i (3,u30,n,y,u2f)=y7e [IntKind.u8.wrap ((3:Nat):Int)] ++(u02 n++p0s y):=rfl
  rw[e]
  unfold t2k
  rw[q2z (by omega),Al rfl]
  obtain⟨k1,k2⟩:=p89.mp (st (IntKind.u8.wrap ((3:Nat):Int)) (u02 n++p0s y))
  have q1:=t1g (by have:=u1w h;omega) k1
  have q1:u11 (y7e [IntKind.u8.wrap ((3:Nat):Int)] ++(u02 n++p0s y)) (1,false)=_:=q1
  rw[q1]
  simp only
  rw[s98 k2]
 | bas b h=>
  have e:s6i (4,u30,emp,false,b)=y7e [IntKind.u8.wrap ((4:Nat):Int)] ++t6c b:=rfl
  rw[e]
  unfold t2k
  rw[q2z (by omega),Ao (by omega),Al rfl]
  have q:=q6w p3h h (st (IntKind.u8.wrap ((4:Nat):Int)) (t6c b))
  have q:s4i o28 (y7e [IntKind.u8.wrap ((4:Nat):Int)] ++t6c b) (1,false)=_:=q
  unfold t39
  rw[q]
  simp only[q1n.mpr h,Ap,Fp]
theorem s6f {r:t9h} (h:RecR r):u25 (s7i (s6i r))=some r:=by
 have hs:=s0j h
 unfold u25
 rw[r2y (by omega)]
 simp only
 rw[Ao (by omega),s68 h]
 simp only
 rw[u8k h,Ao (by simp)]
theorem r2r {t:Hs} {r:t9h} (h:u25 t=some r):RecR r∧t=s7i (s6i r):=by
 unfold u25 at h
 split at h
 ·cases h
 ·rename_i s hs
  split at h
  ·cases h
  ·split at h
   ·cases h
   ·rename_i hc
    simp only[Hr,ne_eq,Decidable.not_not] at hc
    have e:=Ds h
    rw[e] at hc
    have hr:u9f r=true:=by
     cases q:u9f r with
     | true=>rfl
     | false=>
      have:=hc.2
      unfold u0z at this
      rw[Ao (by simp[q])] at this
      simp at this
    have hR:=p7e.mp hr
    refine⟨hR,?_⟩
    have:=hc.2
    rw[u8k hR] at this
    exact(Dv this).1.symm
def u1k (b:u0k) (r:t9h):Ht u0k:=
 if r.1=1 then(if r.2.1.2.2.2.1=b.2.2.2.1+1 then some (u04 b r.2.1) else none)
 else if r.1=2 then(if b.2.2.1.length<3∧u0n b r.2.1.2.2.2.2.2.2.2<0 then some (u1a b r.2.1 r.2.1.2.2.2.2.2.2.2) else none)
 else if r.1=3 then(if u0n b r.2.2.1<0 then none else if r.2.2.2.1=true then some (u04 b (rdL u1f b.2.2.1 (u0n b r.2.2.1).toNat)) else some (u50 b r.2.2.1))
 else some r.2.2.2.2
def u5l (b:u0k) (r:t9h):Ht u0k:=
 if t2p b=true∧u9f r=true then(match u1k b r with
  | none=>none
  | some x=>if t2p (u2c x [])=true then some (u2c x []) else none)
 else none
def r8l:u0k:=([], [], [],0,1)
def t6r:u0k→Hu Hs→Ht u0k
 | b, [] =>some b
 | b,t::l=>match u25 t with
  | none=>none
  | some r=>match u5l b r with
   | none=>none
   | some x=>t6r x l
def u51 (l:Hu Hs):Ht u0k:=t6r r8l l
theorem p1b (b:u0k):∀(l m:Hu Hs),t6r b (l++m)=(t6r b l).bind fun x=>t6r x m:=by
 intro l
 induction l generalizing b with
 | nil=>intro m;rfl
 | cons t l ih=>
  intro m
  simp only[Ef,t6r]
  cases u25 t with
  | none=>rfl
  | some r=>
   simp only
   cases u5l b r with
   | none=>rfl
   | some x=>exact ih x m
end
section
theorem r80 {s:Hu Hs} {p:Int×Hs} {k i:Nat} {b:UInt8} (hk:k<s.length) (hp0:0≤p.1) (h1:t48 (rdL Ty.str s k) i=b) (h2:p.1=(k:Int)→t48 p.2 i=b):t48 (rdL Ty.str (t5g s p) k) i=b:=by
 have:=q67 (s:=s) (p:=p) (j:=(k:Int)) hp0 (by omega) (by simpa using hk)
 rw[zTn] at this
 rw[this]
 split
 ·rename_i e;exact h2 e
 ·exact h1
theorem p0v {x:u0j} (hk:u09 x=true) (keep:Hu Int) (tear:Int) {k i:Nat} (hkl:k<x.1.length) (hi:i<64) {b:UInt8} (h1:t48 (rdL Ty.str x.1 k) i=b) (h2:∀p∈x.2,p.1=(k:Int)→t48 p.2 i=b):
 t48 (rdL Ty.str (u5z x keep tear).1 k) i=b:=by
 obtain⟨k1,k2,k3,k4⟩:=q1s.mp hk
 have ht:=(r6p tear).1
 have e:(u5z x keep tear).1=t45 x keep (u00 keep x.2.length) (u8m tear) x.2.length:=by unfold u5z;rw[Al hk];rfl
 rw[e]
 have key:∀n,n≤x.2.length→t48 (rdL Ty.str (t45 x keep (u00 keep x.2.length) (u8m tear) n) k) i=b:=by
  intro n
  induction n with
  | zero=>intro _;exact h1
  | succ n ih=>
   intro hn
   have ih:=ih (by omega)
   obtain⟨i1,i2⟩:=s62 hk keep ht (last:=u00 keep x.2.length) n (by omega)
   have hp:=k4 x.2[n] (Ag (by omega))
   have hpb:=h2 x.2[n] (Ag (by omega))
   rw[s1a]
   generalize hS:t45 x keep (u00 keep x.2.length) (u8m tear) n=S at*
   unfold u6u
   rw[y8l (t:=q9c) (show n<x.2.length by omega)]
   split
   ·split
    ·refine r80 (by omega) hp.1.1 ih (fun z=> ?_)
     have z:(x.2[n]).1=(k:Int):=z
     have hold:rdL Ty.str S (x.2[n]).1.toNat=rdL Ty.str S k:=by rw[z,zTn]
     have h64:(rdL Ty.str S k).size=64:=by
      have e:rdL Ty.str S k=S[k]'(by omega):=y8l (t:=Ty.str) (by omega)
      rw[e]
      exact i2 _ (Ag _)
     simp only[hold]
     rw[u29,u1u,u1u,Bd,hp.2,h64]
     split
     ·rw[Co]
      exact hpb z
     ·rw[Al (by omega)]
      rw[show u8m tear+(i - (min (u8m tear) 64 - 0))=i by omega]
      exact ih
    ·exact r80 (by omega) hp.1.1 ih hpb
   ·exact ih
 exact key _ (Au _)
theorem q7h:∀ {f:Nat} {d x:u0j} {k at_:Nat} {t:Hs},q2j f d k at_ t=some x→at_<64→ ∀p∈x.2,p∈d.2∨ ∃j:Nat,p.1=(j:Int)∧k≤j∧j*64<k*64+at_+t.size∧ ∀i,i<64→j*64+i<k*64+at_→t48 p.2 i=t48 (u0i d (j:Int)).1 i
 | 0,d,x,k,at_,t,h,_,p,hp=>by cases h;exact .inl hp
 | f+1,d,x,k,at_,t,h,hat,p,hp=>by
  rw[q2j] at h
  split at h
  ·cases h;exact .inl hp
  ·rename_i hz
   split at h
   ·rename_i hrd
    cases hw:u3o d (k:Int) ((u0i d (k:Int)).1.extract 0 at_++t.extract 0 (min t.size (64 - at_))++(u0i d (k:Int)).1.extract (at_+min t.size (64 - at_)) 64) with
    | none=>rw[hw] at h;cases h
    | some y=>
     rw[hw] at h
     simp only[zOb] at h
     rcases q7h h (by omega) p hp with q | ⟨j,h1,h2,h3,h4⟩
     ·rw[(u8n hw).2] at q
      simp only[Ay,Ax] at q
      rcases q with q | q
      ·exact .inl q
      ·refine .inr ⟨k,by rw[q],Au _,by omega,fun i hi hlt=> ?_⟩
       rw[q]
       simp only
       rw[u29,u29,u1u]
       simp only[Af,Bd,hrd.2]
       rw[Al (by omega),Al (by omega),Al (by omega),Co]
     ·refine .inr ⟨j,h1,by omega,?_,fun i hi hlt=>by omega⟩
      rw[Bd] at h3
      omega
   ·cases h
end
section
def SameLog (d e:u0j):Prop:=u1i e=true∧u0q e=u0q d∧u0c e 0=u0c d 0∧u0c e 1=u0c d 1
theorem u4q {a:Int} (ha:a=0∨a=1):u0d a=1+a*48∧(t47 a:Int)=2+a*48:=by
 have hfa:u0d a=1+a*48:=by unfold u0d;rw[Al (p5d.mpr ha)]
 refine⟨hfa,?_⟩
 unfold t47
 rcases ha with rfl | rfl<;>omega
theorem r2k {e:u0j} (h1:u09 e=true) (h2:e.1.length=97) (h3:e.2= []) (h4:(u0c e 0).2.2=true) (h5:(u0c e 1).2.2=true):u1i e=true:=by
 unfold u1i
 rw[h1,h4,h5]
 simp[h2,h3]
theorem t8w {d e:u0j} (h:u0i e 0=u0i d 0):u0q e=u0q d:=by
 unfold u0q u2v
 rw[h]
theorem p3d {d e:u0j} (hl:u1i d=true) {a:Int} (ha:a=0∨a=1) (h1:u09 e=true) (h2:e.1.length=97) (h3:e.2= [])
 (h4:∀k:Nat,k<97→ ¬(t47 a≤k∧k<t47 a+47)→u0i e (k:Int)=u0i d (k:Int))
 (h5:∀j:Nat,(j:Int)<(u0c d a).2.1→j<3008→t48 (s09 e a) j=t48 (s09 d a) j):SameLog d e:=by
 obtain⟨d1,d2,d3,d4,d5⟩:=u13 hl
 have fd:=t6h d1 d2
 have fe:=t6h h1 h2
 obtain⟨f1,f2⟩:=u4q ha
 have hact:u0q e=u0q d:=t8w (h4 0 (by omega) (by omega))
 have hcnt:u05 e a=u05 d a:=by
  unfold u05 u2v
  have hk:u0d a=(((u0d a).toNat:Nat):Int):=by rcases ha with rfl | rfl<;>omega
  have:=h4 (u0d a).toNat (by rcases ha with rfl | rfl<;>omega) (by rcases ha with rfl | rfl<;>omega)
  rw[←hk] at this
  rw[this]
 have hra:u0c e a=u0c d a:=by
  have hda:=u57 fd ha
  have hok:(u0c d a).2.2=true:=by rcases ha with rfl | rfl<;>assumption
  rw[u57 fe ha,hcnt]
  obtain⟨l,E,r⟩:∃l E,u0c d a=(l,E,true):=⟨_,_,by rw[←hok]⟩
  rw[r] at h5 ⊢
  rw[r] at hda
  have hsz:(s09 e a).size=(s09 d a).size:=by rw[(u23 fe ha).2.1,(u23 fd ha).2.1]
  have hat:=r68 (s09 d a) (u05 d a).toNat 0 [] (by simp)
  rw[←hda] at hat
  refine s5j hsz hda.symm (fun q hq=>h5 q hq ?_)
  have:=(u23 fd ha).2.1
  simp only at hat
  omega
 have hro:u0c e (1 - a)=u0c d (1 - a):=by
  refine u65 (fun q hq=> ?_)
  have ho:=(u4q (a:=1 - a) (by omega)).1
  obtain⟨j,hj⟩:∃j:Nat,u0d (1 - a)+(q:Int)=(j:Int):=⟨(u0d (1 - a)+(q:Int)).toNat,by rcases ha with rfl | rfl<;>omega⟩
  rw[hj]
  exact h4 j (by rcases ha with rfl | rfl<;>omega) (by rcases ha with rfl | rfl<;>omega)
 have both:u0c e 0=u0c d 0∧u0c e 1=u0c d 1:=by
  rcases ha with rfl | rfl
  ·exact⟨hra,by simpa using hro⟩
  ·exact⟨by simpa using hro,hra⟩
 exact⟨r2k h1 h2 h3 (by rw[both.1];exact d4) (by rw[both.2];exact d5),hact,both.1,both.2⟩
theorem r6h {d x:u0j} {a:Int} {t:Hs} (h:u7r d a t=some x):∃E:Nat,(u0c d a).2.1=(E:Int)∧E+(u02 t).size≤3008∧q2j ((u02 t).size+1) d (t47 a+E / 64) (E % 64) (u02 t)=some x∧t.size≠0∧t.size≤3008∧u05 d a<255:=by
 have hat:=s99 d a
 unfold u7r at h
 split at h
 ·cases h
 ·rename_i hc
  simp only[Hr] at hc
  unfold u15 at h
  split at h
  ·exact⟨(u0c d a).2.1.toNat,by omega,by omega,h,hc.2.1,by omega,by omega⟩
  ·cases h
theorem s1t {d:u0j} (h:d.2= []) {k:Nat} (hk:k<d.1.length):u0i d (k:Int)=(rdL Ty.str d.1 k,true):=by
 unfold u0i
 rw[Al (by omega),h,zTn]
 rfl
theorem q73 {d x:u0j} {a:Int} {t:Hs} (hl:u1i d=true) (ha:a=0∨a=1) (h:u7r d a t=some x) (keep:Hu Int) (tear:Int):SameLog d (u5z x keep tear):=by
 obtain⟨d1,d2,d3,d4,d5⟩:=u13 hl
 obtain⟨_,x1,x2,_⟩:=t7o h
 obtain⟨E,e1,e2,e3,_⟩:=r6h h
 obtain⟨c1,c2,c3⟩:=q21 x1 keep tear
 have hxl:x.1.length=97:=by rw[x2];exact d2
 have hcl:(u5z x keep tear).1.length=97:=by rw[c3];exact hxl
 obtain⟨f1,f2⟩:=u4q ha
 have fd:=t6h d1 d2
 have fe:=t6h c1 hcl
 have puts:=fun p hp=>(q7h e3 (Ev _ (by omega)) p hp).resolve_left (by rw[d3];intro z;cases z)
 have byte:∀k i:Nat,k<97→i<64→(k*64+i<t47 a*64+E∨ ¬(t47 a≤k∧k<t47 a+47))→t48 (u0i (u5z x keep tear) (k:Int)).1 i=t48 (u0i d (k:Int)).1 i:=fun k i hk hi hc=>by
  rw[s1t c2 (by omega),s1t d3 (by omega)]
  simp only
  refine p0v x1 keep tear (by omega) hi (by rw[x2]) (fun p hp hpk=> ?_)
  obtain⟨j,j1,j2,j3,j4⟩:=puts p hp
  have hjk:j=k:=by omega
  subst hjk
  rcases hc with hc | hc
  ·rw[j4 i hi (by omega),s1t d3 (by omega)]
  ·exfalso
   exact hc ⟨by omega,by omega⟩
 refine p3d hl ha c1 hcl c2 (fun k hk hn=> ?_) (fun j hj hj2=> ?_)
 ·have q1:=fe k hk
  have q2:=fd k hk
  apply Prod.ext
  ·exact r2c (by rw[q1.2,q2.2]) (fun i hi=>byte k i hk (by omega) (.inr hn))
  ·rw[q1.1,q2.1]
 ·rw[(u23 fe ha).2.2 j hj2,(u23 fd ha).2.2 j hj2]
  have hj' :j<E:=by omega
  refine byte _ _ ?_ (Ev _ (by omega)) (.inl (by omega))
  rcases ha with rfl | rfl<;>omega
theorem SameLog.tx {d e:u0j} (h:SameLog d e):u0h e=u0h d:=by
 obtain⟨_,h2,h3,h4⟩:=h
 unfold u0h
 rw[h2]
 rcases u5y d with q | q<;>rw[q]
 ·rw[h3]
 ·rw[h4]
end
section
theorem r79 {d x:u0j} {a:Int} {t:Hs} (hl:u1i d=true) (ha:a=0∨a=1) (h:u7r d a t=some x):
 SameLog d (flush x)∧ ∀E:Nat,(u0c d a).2.1=(E:Int)→ ∀q,q<(u02 t).size→t48 (s09 (flush x) a) (E+q)=t48 (u02 t) q:=by
 obtain⟨d1,d2,d3,d4,d5⟩:=u13 hl
 obtain⟨_,x1,x2,_⟩:=t7o h
 obtain⟨E,e1,e2,e3,_⟩:=r6h h
 obtain⟨c1,c2,c3⟩:=t0u x1
 have hxl:x.1.length=97:=by rw[x2];exact d2
 have hcl:(flush x).1.length=97:=by rw[c3];exact hxl
 obtain⟨f1,f2⟩:=u4q ha
 have fd:=t6h d1 d2
 have fe:=t6h c1 hcl
 have hb97:t47 a+47≤97:=by rcases ha with rfl | rfl<;>omega
 have hbytes:=fun j i (hi:i<64) (hj:j<97)=>q2k e3 (by omega) (Ev _ (by omega)) j i hi (by omega)
 refine⟨p3d hl ha c1 hcl c2 (fun k hk hn=> ?_) (fun j hj hj2=> ?_),fun E' hE' q hq=> ?_⟩
 ·rw[u8c x1]
  exact s7c e3 (Ev _ (by omega)) k (fun z=>hn ⟨by omega,by omega⟩)
 ·rw[(u23 fe ha).2.2 j hj2,(u23 fd ha).2.2 j hj2,u8c x1,hbytes _ _ (Ev _ (by omega)) (by omega),Ao (by omega)]
 ·have hEE:E' =E:=by omega
  subst hEE
  rw[(u23 fe ha).2.2 (E' +q) (by omega),u8c x1,hbytes _ _ (Ev _ (by omega)) (by omega),Al (by omega)]
  congr 1
  omega
theorem r3h (t:Hs):r5i t=((t48 t 0).toNat:Int):=rfl
theorem r7e (n:Int) (r:Hs) (h0:0≤n) (h1:n<256):r5i (u9p n++r)=n:=by
 rw[r3h,u29,Al (by rw[u1z];omega)]
 unfold u9p t48
 rw[t61]
 have w:IntKind.u8.wrap n=n:=by rw[p4g];omega
 rw[w]
 simp only[u8s,C8,Eh,List.getD_cons_zero]
 rw[Gg]
 omega
theorem p3y {d y:u0j} {a:Int} {t:Hs} (hl:u1i d=true) (ha:a=0∨a=1) (h:r9f d a t=some y):
 u1i y=true∧u0q y=u0q d∧u0c y (1 - a)=u0c d (1 - a)∧u05 y a=u05 d a+1∧u0c y a=((u0c d a).1++ [t],(u0c d a).2.1+((u02 t).size:Int),true):=by
 obtain⟨d1,d2,d3,d4,d5⟩:=u13 hl
 obtain⟨x,hx,x1,y1,y2,y3,hy⟩:=q9w d2 h
 obtain⟨s1,s2⟩:=r79 hl ha hx
 obtain⟨E,e1,e2,e3,e4,e5,e6⟩:=r6h hx
 obtain⟨c1,c2,c3⟩:=t0u x1
 have hxl:(flush x).1.length=97:=(u13 s1.1).2.1
 obtain⟨f1,f2⟩:=u4q ha
 have hcl:=r3j d a
 have hc1:t33 d a=u05 d a+1:=by unfold t33;exact y4u (by omega) (by omega)
 have hob:=s97 (s:=u0d a) c1 c2 (by omega) (by rw[hxl];rcases ha with rfl | rfl<;>omega) (u1z (t33 d a))
 have hcz:t9t (flush x) a (t33 d a)=some ((flush x).1, [(u0d a,u9p (t33 d a)++(rdL Ty.str (flush x).1 (u0d a).toNat).extract 1 64)]):=hob
 have hz1:=(u3n hob).2.1
 rw[hcz] at hy
 simp only[orD] at hy
 have hrd:∀j:Int,u0i y j=if j=u0d a then(u9p (t33 d a)++(rdL Ty.str (flush x).1 (u0d a).toNat).extract 1 64,true) else u0i (flush x) j:=fun j=>by
  rw[hy,u8c hz1]
  by_cases e:j=u0d a
  ·rw[Al e,e]
   unfold u0i
   rw[Al (by show _∧_<((flush x).1.length:Int);rw[hxl];rcases ha with rfl | rfl<;>omega)]
   simp[u8d]
  ·rw[Ao e]
   have hne: ¬u0d a=j:=fun z=>e z.symm
   unfold u0i
   simp only[u8d,Bs,List.foldl_nil,hne,Bk,c2]
 have fy:=t6h y1 y3
 have fx:=t6h c1 hxl
 have fd:=t6h d1 d2
 have hcnt:u05 y a=u05 d a+1:=by
  unfold u05 at hc1 ⊢
  rw[p5d.mpr ha,Al rfl] at*
  unfold u2v at*
  rw[hrd,Al rfl]
  simp only
  have:u05 d a=r5i (u0i d (u0d a)).1:=by unfold u05 u2v;rw[p5d.mpr ha,Al rfl]
  rw[hc1]
  exact r7e _ _ (by omega) (by omega)
 have hareaT:∀j,j<3008→t48 (s09 y a) j=t48 (s09 (flush x) a) j:=fun j hj=>by
  rw[(u23 fy ha).2.2 j hj,(u23 fx ha).2.2 j hj,hrd,Ao (by rcases ha with rfl | rfl<;>omega)]
 have hother:u0c y (1 - a)=u0c (flush x) (1 - a):=by
  refine u65 (fun q hq=> ?_)
  have ho:=(u4q (a:=1 - a) (by omega)).1
  rw[hrd,Ao (by rcases ha with rfl | rfl<;>omega)]
 have hother2:u0c (flush x) (1 - a)=u0c d (1 - a):=by
  rcases ha with rfl | rfl
  ·exact s1.2.2.2
  ·exact s1.2.2.1
 have hact:u0q y=u0q d:=by
  rw[←s1.2.1]
  exact t8w (by rw[hrd,Ao (by rcases ha with rfl | rfl<;>omega)])
 have hok:(u0c d a).2.2=true:=by rcases ha with rfl | rfl<;>assumption
 have hda:u4p (s09 d a) (u05 d a).toNat 0 [] =((u0c d a).1,(E:Int),true):=by
  rw[←u57 fd ha,←e1,←hok]
 have hfx:u4p (s09 (flush x) a) (u05 (flush x) a).toNat 0 [] =((u0c d a).1,(E:Int),true):=by
  have:u0c (flush x) a=u0c d a:=by
   rcases ha with rfl | rfl
   ·exact s1.2.2.1
   ·exact s1.2.2.2
  rw[←u57 fx ha,this,←e1,←hok]
 have hcx:u05 (flush x) a=u05 d a:=by
  unfold u05 u2v
  have hk:u0d a=(((u0d a).toNat:Nat):Int):=by rcases ha with rfl | rfl<;>omega
  have h2:=s7c e3 (Ev _ (by omega)) (u0d a).toNat (by rcases ha with rfl | rfl<;>omega)
  rw[←hk] at h2
  rw[u8c x1,h2]
 have hsz:(s09 y a).size=(s09 (flush x) a).size:=by rw[(u23 fy ha).2.1,(u23 fx ha).2.1]
 have hra:u0c y a=((u0c d a).1++ [t],(u0c d a).2.1+((u02 t).size:Int),true):=by
  rw[u57 fy ha,hcnt,e1]
  have hm:(u05 d a+1).toNat=(u05 d a).toNat+1:=by omega
  rw[hm]
  have hloc:=s5j hsz hfx (fun q hq=>hareaT q (by omega))
  rw[hcx] at hloc
  have hrs:=r32 (T:=s09 y a) (E:=E) e4 e5 (by rw[(u23 fy ha).2.1];exact e2) (fun q hq=>by rw[hareaT _ (by omega)];exact s2 E e1 q hq)
  have:=r69 hloc hrs e4
  rw[this]
  congr 2
 have hlog:u1i y=true:=by
  rw[hother2] at hother
  refine r2k y1 y3 y2 ?_ ?_
  ·rcases ha with rfl | rfl
   ·rw[hra]
   ·have:u0c y 0=u0c d 0:=by simpa using hother
    rw[this];exact d4
  ·rcases ha with rfl | rfl
   ·have:u0c y 1=u0c d 1:=by simpa using hother
    rw[this];exact d5
   ·rw[hra]
 exact⟨hlog,hact,hother.trans hother2,hcnt,hra⟩
end
section
theorem p30 {d:u0j} (hk:u09 d=true) {k:Nat} (hlt:k<d.1.length):(u0i d (k:Int)).2=true∧(u0i d (k:Int)).1.size=64:=by
 obtain⟨k1,k2,k3,k4⟩:=q1s.mp hk
 have hc:(0:Int)≤(k:Int)∧(k:Int)<(d.1.length:Int):=by omega
 unfold u0i
 rw[Al hc]
 refine⟨rfl,?_⟩
 cases hp:u8d d.2 (k:Int) with
 | none=>
  have e:rdL Ty.str d.1 k=d.1[k] :=y8l (t:=Ty.str) hlt
  simp only[Eo,zTn]
  rw[e]
  exact k3 _ (Ag hlt)
 | some s=>
  obtain⟨p,hp1,hp2⟩:=s95 hp
  simp only[Eb]
  rw[←hp2]
  exact(k4 p hp1).2
theorem q7i:∀(f:Nat) {d:u0j} {k at_:Nat} {t:Hs},u09 d=true→at_<64→k*64+at_+t.size≤d.1.length*64→d.2.length+(at_+t.size+63) / 64≤60→ ∃x,q2j f d k at_ t=some x
 | 0,d,k,at_,t,_,_,_,_=>⟨d,rfl⟩
 | f+1,d,k,at_,t,hk,hat,h1,h2=>by
  rw[q2j]
  by_cases hz:t.size=0
  ·exact⟨d,by rw[Al hz]⟩
  ·have hr:=p30 hk (k:=k) (by omega)
   rw[Ao hz,Al hr]
   have hsz:((u0i d (k:Int)).1.extract 0 at_++t.extract 0 (min t.size (64 - at_))++(u0i d (k:Int)).1.extract (at_+min t.size (64 - at_)) 64).size=64:=by
    simp only[Af,Bd,hr.2];omega
   have hin:r0d (k:Int) 0 ((d.1.length:Int) - 1)=true:=by simp[r0d];omega
   have hok:u09 (d.1,d.2++ [((k:Int),(u0i d (k:Int)).1.extract 0 at_++t.extract 0 (min t.size (64 - at_))++(u0i d (k:Int)).1.extract (at_+min t.size (64 - at_)) 64)])=true:=by
    rw[s9z,hk,hin,hsz]
    simp;omega
   have hw:u3o d (k:Int) ((u0i d (k:Int)).1.extract 0 at_++t.extract 0 (min t.size (64 - at_))++(u0i d (k:Int)).1.extract (at_+min t.size (64 - at_)) 64)=some (d.1,d.2++ [((k:Int),(u0i d (k:Int)).1.extract 0 at_++t.extract 0 (min t.size (64 - at_))++(u0i d (k:Int)).1.extract (at_+min t.size (64 - at_)) 64)]):=by
    unfold u3o
    rw[Al hok]
   rw[hw]
   simp only[zOb]
   have hs2:(t.extract (min t.size (64 - at_)) t.size).size=t.size - min t.size (64 - at_):=by rw[Bd];omega
   refine q7i f hok (by omega) ?_ ?_
   ·rw[hs2];show _≤d.1.length*64;omega
   ·rw[hs2];simp only[Ba,Aw];omega
theorem p0r {d:u0j} {a:Int} {t:Hs} (hl:u1i d=true) (ha:a=0∨a=1) (h0:t.size≠0) (h1:t.size≤3008) (h2:u05 d a<255) (h3:(u0c d a).2.1+((u02 t).size:Int)≤3008):∃x,u7r d a t=some x:=by
 obtain⟨d1,d2,d3,d4,d5⟩:=u13 hl
 obtain⟨f1,f2⟩:=u4q ha
 have hat:=s99 d a
 have hok:(u0c d a).2.2=true:=by rcases ha with rfl | rfl<;>assumption
 have hsp:=t8b t
 unfold u7r
 rw[Ao (by rw[hok];simp only[Fm,false_or];omega)]
 unfold u15
 have hc:(r0d (u0c d a).2.1 0 6400&&r0d (u0d a+1) 0 ((d.1.length:Int) - 1)&&u09 d)=true:=by
  rw[d1,d2]
  simp only[r0d,Ai,Ar,and_true]
  rcases ha with rfl | rfl<;>omega
 rw[Al hc]
 refine q7i _ d1 (Ev _ (by omega)) ?_ ?_
 ·rw[d2]
  rcases ha with rfl | rfl<;>omega
 ·rw[d3]
  simp only[Cc]
  omega
theorem p51 {d:u0j} {a:Int} {t:Hs} (hl:u1i d=true) (ha:a=0∨a=1) (h0:t.size≠0) (h1:t.size≤3008) (h2:u05 d a<255) (h3:(u0c d a).2.1+((u02 t).size:Int)≤3008):∃y,r9f d a t=some y:=by
 obtain⟨x,hx⟩:=p0r hl ha h0 h1 h2 h3
 unfold r9f
 rw[hx]
 exact⟨_,rfl⟩
def q8o (l:Hu Hs):Nat:=(l.map fun t=>(u02 t).size).sum
theorem q56 {a:Int} (ha:a=0∨a=1):∀ {l:Hu Hs} {x:u0j},u1i x=true→u05 x a+(l.length:Int)≤255→(u0c x a).2.1+(q8o l:Int)≤3008→(∀t∈l,t.size≠0∧t.size≤3008)→
 ∃y,s87 a l x=some y∧u1i y=true∧u0q y=u0q x∧u0c y (1 - a)=u0c x (1 - a)∧(u0c y a).1=(u0c x a).1++l
 | [],x,hl,_,_,_=>⟨x,rfl,hl,rfl,rfl,by simp⟩
 | t::l,x,hl,hc,hr,ht=>by
  have h0:=ht t (C9 ..)
  have hs:q8o (t::l)=(u02 t).size+q8o l:=by simp[q8o]
  simp only[Bc] at hc
  obtain⟨y,hy⟩:=p51 hl ha h0.1 h0.2 (by omega) (by omega)
  obtain⟨p1,p2,p3,p4,p5⟩:=p3y hl ha hy
  obtain⟨z,z1,z2,z3,z4,z5⟩:=q56 ha (l:=l) p1 (by omega) (by rw[p5];simp only;omega) (fun t h=>ht t (Bm _ h))
  refine⟨z,?_,z2,z3.trans p2,z4.trans p3,?_⟩
  ·unfold s87;rw[hy];exact z1
  ·rw[z5,p5];simp
theorem p0t {d:u0j} (hl:u1i d=true) {a n:Int} (ha:a=0∨a=1):∃z r,t9t d a n=some z∧u09 z=true∧z.1=d.1∧z.2= [(u0d a,u9p n++r)] ∧ ∀j:Int,u0i (flush z) j=if j=u0d a then(u9p n++r,true) else u0i d j:=by
 obtain⟨d1,d2,d3,d4,d5⟩:=u13 hl
 obtain⟨f1,f2⟩:=u4q ha
 have hob:=s97 (s:=u0d a) d1 d3 (by omega) (by rw[d2];rcases ha with rfl | rfl<;>omega) (u1z n)
 have hz1:=(u3n hob).2.1
 refine⟨_,_,hob,hz1,rfl,rfl,fun j=> ?_⟩
 rw[u8c hz1]
 by_cases e:j=u0d a
 ·rw[Al e,e]
  unfold u0i
  rw[Al (by show _∧_<(d.1.length:Int);rw[d2];rcases ha with rfl | rfl<;>omega)]
  simp[u8d]
 ·rw[Ao e]
  have hne: ¬u0d a=j:=fun z=>e z.symm
  unfold u0i
  simp only[u8d,Bs,List.foldl_nil,hne,Bk,d3]
theorem r78 {d:u0j} (hl:u1i d=true):u1i (t9x d)=true∧u0q (t9x d)=u0q d∧u0c (t9x d) (u0q d)=u0c d (u0q d)∧u0c (t9x d) (u3l d)=([],0,true)∧u05 (t9x d) (u3l d)=0:=by
 obtain⟨a1,a2⟩:=t2w d
 obtain⟨z,r,hz,hz1,hz2,hz3,hrd⟩:=p0t hl (n:=0) a1
 obtain⟨d1,d2,d3,d4,d5⟩:=u13 hl
 have e:t9x d=flush z:=by unfold t9x;rw[hz];rfl
 obtain⟨c1,c2,c3⟩:=t0u hz1
 have hlen:(flush z).1.length=97:=by rw[c3,hz2];exact d2
 obtain⟨f1,f2⟩:=u4q a1
 rw[e]
 have hcnt:u05 (flush z) (u3l d)=0:=by
  unfold u05 u2v
  rw[p5d.mpr a1,Al rfl,hrd,Al rfl]
  exact r7e 0 r (by omega) (by omega)
 have ho:u0c (flush z) (u3l d)=([],0,true):=by
  rw[u57 (t6h c1 hlen) a1,hcnt]
  rfl
 have hother:u0c (flush z) (1 - u3l d)=u0c d (1 - u3l d):=by
  refine u65 (fun q hq=> ?_)
  have ho:=(u4q (a:=1 - u3l d) (by omega)).1
  rw[hrd,Ao (by omega)]
 rw[←a2] at hother
 have hact:u0q (flush z)=u0q d:=t8w (by rw[hrd,Ao (by omega)])
 have hok:(u0c d (u0q d)).2.2=true:=by rcases u5y d with q | q<;>rw[q] <;>assumption
 refine⟨r2k c1 hlen c2 ?_ ?_,hact,hother,ho,hcnt⟩
 ·rcases a1 with q | q
  ·rw[q] at ho;rw[ho]
  ·have q2:u0q d=0:=by omega
   rw[q2] at hother hok
   rw[hother];exact hok
 ·rcases a1 with q | q
  ·have q2:u0q d=1:=by omega
   rw[q2] at hother hok
   rw[hother];exact hok
  ·rw[q] at ho;rw[ho]
end
end
end Go.Proofs.YtdeadnnhblaflaaGreatDoor.Ab
