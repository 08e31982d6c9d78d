import Derived.Test.YtkdpclfhapphhaaGreatAbSoundWorldT1
import Derived.Test.YtkdpclfhapphhaaGreatAbK2
import Derived.Test.YtkdpclfhapphhaaGreatAbF4
import Derived.Test.YtkdpclfhapphhaaGreatAbS2
namespace Go.Proofs.YtkdpclfhapphhaaGreat.Ab
open Go
set_option linter.unusedVariables false
set_option linter.unusedSimpArgs false
set_option linter.unnecessarySimpa false
section
section
abbrev u02:=Hu Hs×Hu (Int×Hs)
theorem o64:(⟨#[]⟩:Hs)=emp:=rfl
def p6l (a b c:Int):Bool:=decide (b≤a)&&decide (a≤c)
theorem t98 (a b c:Int):u1b (a,b,c)=some (p6l a b c):=by
 rw[p42];unfold q1i p6l
 simp only[ge_iff_le]
 cases decide (b≤a)<;>rfl
theorem s9v (a b c:Int):u03 (a,b,c)=some (p6l a b c):=by
 rw[p7u];unfold q5w p6l
 simp only[ge_iff_le]
 cases decide (b≤a)<;>rfl
theorem s7e {d:u02} :d.1.length≤p4i.wt d:=by simp only[Ty.wt];omega
theorem s7d {d:u02} :d.2.length≤p4i.wt d:=by simp only[Ty.wt];omega
theorem o6b {d:u02} {s:Hs} (h:s∈d.1):s.size≤p4i.wt d:=by
 have h1:p4i.wt d=(d.1.length+(d.1.map Ty.str.wt).sum)+(d.2.length+(d.2.map s9p.wt).sum):=rfl
 have h2:=s1g (f:=Ty.str.wt) h
 have h3:Ty.str.wt s=s.size:=rfl
 omega
theorem o56 {d:u02} {p:Int×Hs} (h:p∈d.2):p.2.size≤p4i.wt d:=by
 have h1:p4i.wt d=(d.1.length+(d.1.map Ty.str.wt).sum)+(d.2.length+(d.2.map s9p.wt).sum):=rfl
 have h2:=s1g (f:=s9p.wt) h
 have h3:s9p.wt p=0+p.2.size:=rfl
 omega
def s9w (c:Hu (Int×Hs)) (at_:Int):Ht Hs:=c.foldl (fun t p=>if p.1=at_ then some p.2 else t) none
def u3x (d:u02) (at_:Int):Hs×Bool:=if 0≤at_∧at_<d.1.length then((s9w d.2 at_).getD (rdL Ty.str d.1 at_.toNat),true) else(emp,false)
theorem p73 (c:Hu (Int×Hs)) (p:Int×Hs) (at_:Int):s9w (c++ [p]) at_=if p.1=at_ then some p.2 else s9w c at_:=by
 simp[s9w,List.foldl_append]
theorem p9v {c:Hu (Int×Hs)} {at_:Int} {s:Hs} (h:s9w c at_=some s):∃p∈c,p.2=s:=by
 have key:∀(c:Hu (Int×Hs)) (z:Ht Hs),c.foldl (fun t p=>if p.1=at_ then some p.2 else t) z=some s→z=some s∨ ∃p∈c,p.2=s:=by
  intro c
  induction c with
  | nil=>intro z h;exact .inl h
  | cons p c ih=>
   intro z h
   rw[Bs] at h
   rcases ih _ h with h | ⟨q,hq,h⟩
   ·split at h
    ·exact .inr ⟨p,by simp,by simpa using h⟩
    ·exact .inl h
   ·exact .inr ⟨q,by simp[hq],h⟩
 rcases key c none h with h | h
 ·cases h
 ·exact h
theorem r6o (d:u02) (at_:Int):(u3x d at_).1.size≤p4i.wt d:=by
 unfold u3x
 split
 ·rename_i h
  cases hl:s9w d.2 at_ with
  | none=>
   simp only[Eo]
   have hi:at_.toNat<d.1.length:=by omega
   rw[y8k (t:=Ty.str) hi]
   exact o6b (Ag hi)
  | some s=>
   simp only[Eb]
   obtain⟨p,hp,rfl⟩:=p9v hl
   exact o56 hp
 ·show 0≤_;omega
theorem o2a (c:Hu (Int×Hs)) (at_:Int) (z:Hs):c.foldl (fun t p=>if p.1=at_ then p.2 else t) z=(s9w c at_).getD z:=by
 have key:∀(c:Hu (Int×Hs)) (o:Ht Hs) (z:Hs),c.foldl (fun t p=>if p.1=at_ then p.2 else t) (o.getD z)=(c.foldl (fun t p=>if p.1=at_ then some p.2 else t) o).getD z:=by
  intro c
  induction c with
  | nil=>intro o z;rfl
  | cons p c ih=>
   intro o z
   simp only[Bs]
   by_cases h:p.1=at_
   ·simp only[h,Bl];exact ih (some p.2) z
   ·simp only[h,Bk];exact ih o z
 exact key c none z
theorem o0p (d:u02) (at_:Int) (hd:d.1.length≤u0e):p6l at_ 0 (IntKind.i64.wrap ((d.1.length:Int) - 1))=decide (0≤at_∧at_<d.1.length):=by
 unfold u0e at hd
 rw[y4y (by omega) (by omega)]
 unfold p6l
 by_cases h:0≤at_∧at_<d.1.length
 ·rw[Bb h,Bb h.1,Bb (by omega)];rfl
 ·rw[A7 h]
  by_cases h0:0≤at_
  ·rw[Bb h0,A7 (by omega)];rfl
  ·rw[A7 h0];rfl
theorem r3y (d:u02) (at_:Int) (hd:p4i.wt d≤u0e):t2w (d,at_)=some (u3x d at_):=by
 have h1:d.1.length≤u0e:=A9 s7e hd
 have h2:d.2.length≤u0e:=A9 s7d hd
 rw[q32];unfold s6s
 simp only[t98,o0p d at_ h1,zOb]
 unfold u3x
 unfold u0e at h1 h2
 by_cases h:0≤at_∧at_<d.1.length
 ·have hg:y4q at_ d.1.length=true:=by simp[y4q,h]
  have L:=u61 u8u d.2 (fun t i=>(at_,t,d.2,(d.2.length:Int),i)) (fun t p=>if p.1=at_ then p.2 else t) (fun t=> .inl t) (fun _ _=>True)
   (fun a _=>by rw[s3r];simp only[u8l,u0b,Am,Ah,Aa])
   (fun i hi a _=>⟨trivial,by
    rw[s3r];simp only[u8l,u0b,hi,Ae,Ad,y7t hi,zTn,y8k (t:=s9p) hi]
    rw[y7l (by omega)]
    by_cases hp:(d.2[i]).1=at_
    ·simp only[hp,Ae,Ad,Bl]
    ·simp only[hp,Ah,Aa,Bk]⟩) (rdL Ty.str d.1 at_.toNat) trivial
  simp only[h,and_self,Ae,Ap,Aa,hg,Ad,L,zOb,Bl,o2a]
 ·simp only[h,Ah,Bh,Ad,Bk];rfl
theorem r3z (d:u02) (at_:Int) (hd:p4i.wt d≤u0e):t23 (d,at_)=some (u3x d at_):=by
 have h1:d.1.length≤u0e:=A9 s7e hd
 have h2:d.2.length≤u0e:=A9 s7d hd
 rw[q4g];unfold s66
 simp only[s9v,o0p d at_ h1,zOb]
 unfold u3x
 unfold u0e at h1 h2
 by_cases h:0≤at_∧at_<d.1.length
 ·have hg:y4q at_ d.1.length=true:=by simp[y4q,h]
  have L:∀n:Nat,n≤d.2.length→u8y (at_,d,(n:Int) - 1)=some (match s9w (d.2.take n) at_ with
   | some s=> .inr (s,true)
   | none=> .inl (at_,d)):=by
   intro n
   induction n with
   | zero=>
    intro _
    rw[s3w];simp only[u8q]
    rfl
   | succ n ih=>
    intro hn
    have hlt:n<d.2.length:=by omega
    rw[s3w];simp only[u8q]
    have e0:((n+1:Nat):Int) - 1=(n:Int):=by simp
    have e1:decide ((n:Int)≥0)=true:=by simp
    simp only[e0,e1,Ad,y7t hlt,zTn,y8k (t:=s9p) hlt]
    rw[B9 hlt,p73]
    by_cases hp:(d.2[n]).1=at_
    ·simp only[hp,Ae,Ad,Bl]
    ·simp only[hp,Ah,Aa,Bk]
     rw[y4y (by omega) (by omega)]
     exact ih (by omega)
  have L:=L d.2.length (Au _)
  rw[Cq] at L
  have wl:IntKind.i64.wrap ((d.2.length:Int) - 1)=(d.2.length:Int) - 1:=y4y (by omega) (by omega)
  simp only[h,and_self,Ae,Ap,Aa,Bl]
  rw[wl,L]
  cases s9w d.2 at_ with
  | none=>simp only[zOb,hg,Ad,Eo]
  | some s=>rfl
 ·simp only[h,Ah,Bh,Ad,Bk];rfl
def q94 (d:u02) (from_:Int):Nat→Nat→Hs→Hs×Bool
 | 0,_,acc=>(acc,true)
 | m+1,i,acc=>if(u3x d (from_+(i:Int))).2 then q94 d from_ m (i+1) (acc++(u3x d (from_+(i:Int))).1) else(emp,false)
def t7n (d:u02) (from_ n:Int):Hs×Bool:=if 0≤n∧n≤100 then q94 d from_ n.toNat 0 emp else(emp,false)
theorem u6c (s:Hs):(z7t s).length=s.size:=by simp[z7t]
theorem t56 (a b:Hs):z7t (a++b)=z7t a++z7t b:=by simp[z7t,Ft]
theorem t5w (s:Hs):y7g (z7t s)=s:=by
 cases s with
 | mk d=>
  unfold y7g z7t
  simp only[List.map_map]
  have:(d.toList.map ((fun n=>UInt8.ofNat n.toNat) ∘fun b=>(b.toNat:Int)))=d.toList:=by
   conv=>rhs;rw[←List.map_id d.toList]
   apply Ff
   intro b _
   simp
  rw[this]
theorem s5u {a b c:Int} :p6l a b c=decide (b≤a∧a≤c):=by
 unfold p6l
 by_cases h:b≤a<;>by_cases g:a≤c<;>simp[h,g]
theorem q7w (d:u02) (from_ n:Int) (hd:p4i.wt d≤1073741824) (h1: -4611686018427387904≤from_) (h2:from_≤4611686018427387904):t75 (d,from_,n)=some (t7n d from_ n):=by
 have hb:p4i.wt d≤u0e:=by unfold u0e;omega
 rw[q35];unfold s6v t7n
 simp only[t98,s5u,zOb]
 by_cases h:0≤n∧n≤100
 ·obtain⟨m,rfl⟩:∃m:Nat,n=m:=⟨n.toNat,by omega⟩
  have L:=s1i (fun x=>(u8v x).bind fun r=>match r with
   | .inl o=>some (y7g o,true)
   | .inr z=>some z) m (fun(a:Hs) i=>(from_,(m:Int),d,z7t a,i)) (fun i a=>q94 d from_ (m - i) i a) (fun i a=>a.size≤i*1073741824)
   (fun a _=>by
    rw[s3s];simp only[u8m,u0b,Am,Ah,Aa,zOb,t5w,Dw,q94])
   (fun i a hi ha=>by
    have e:m - i=(m - (i+1))+1:=by omega
    have hs:=r6o d (from_+(i:Int))
    rw[s3s];simp only[u8m,u0b,hi,Ae,Ad]
    rw[y4y (n:=from_+(i:Int)) (by omega) (by omega),r3y d _ hb,e]
    simp only[zOb,q94]
    cases hr:(u3x d (from_+(i:Int))).2 with
    | false=>left;rfl
    | true=>
     right
     refine⟨a++(u3x d (from_+(i:Int))).1,by rw[Af];omega,by simp,?_⟩
     simp only[Ap,Aa,u6c,u0m (show a.size+(u3x d (from_+(i:Int))).1.size≤1099511627776 by omega),Ad,t56]
     rw[y7l (by omega)]) 0 emp (by omega) (by show 0≤_;omega)
  rw[Bb h,Al h,Ap,Aa]
  exact L
 ·rw[A7 h,Ao h];rfl
theorem q7x (d:u02) (from_ n:Int) (hd:p4i.wt d≤1073741824) (h1: -4611686018427387904≤from_) (h2:from_≤4611686018427387904):t8e (d,from_,n)=some (t7n d from_ n):=by
 have hb:p4i.wt d≤u0e:=by unfold u0e;omega
 rw[q4i];unfold s68 t7n
 simp only[s9v,s5u,zOb]
 by_cases h:0≤n∧n≤100
 ·obtain⟨m,rfl⟩:∃m:Nat,n=m:=⟨n.toNat,by omega⟩
  have L:=s1i (fun x=>(u8z x).bind fun r=>match r with
   | .inl o=>some (o,true)
   | .inr z=>some z) m (fun(a:Hs) i=>(from_,(m:Int),d,a,i)) (fun i a=>q94 d from_ (m - i) i a) (fun i a=>a.size≤i*1073741824∧(i=0∨0≤from_))
   (fun a _=>by
    rw[s3x];simp only[u8r,u0b,Am,Ah,Aa,zOb,Dw,q94])
   (fun i a hi ha=>by
    have e:m - i=(m - (i+1))+1:=by omega
    have hs:=r6o d (from_+(i:Int))
    rw[s3x];simp only[u8r,u0b,hi,Ae,Ad]
    rw[e]
    simp only[q94]
    by_cases hf:from_<0∨from_ >(d.1.length:Int)
    ·left
     have hno:(u3x d (from_+(i:Int))).2=false:=by
      unfold u3x
      rw[Ao (by omega)]
     rw[hno]
     by_cases hf1:from_<0
     ·rw[Bb hf1];rfl
     ·have hf2:from_ >(d.1.length:Int):=by omega
      rw[A7 hf1,Bb hf2];rfl
    ·have hf1: ¬from_<0:=by omega
     have hf2: ¬from_ >(d.1.length:Int):=by omega
     rw[A7 hf1,A7 hf2]
     simp only[Aa,zOb]
     rw[y4y (n:=from_+(i:Int)) (by omega) (by omega),r3z d _ hb]
     simp only[zOb]
     cases hr:(u3x d (from_+(i:Int))).2 with
     | false=>left;rfl
     | true=>
      right
      refine⟨a++(u3x d (from_+(i:Int))).1,⟨by rw[Af];omega,by omega⟩,by simp,?_⟩
      simp only[Ap,Aa,Bb (show a.size+(u3x d (from_+(i:Int))).1.size≤140737488355328 by omega),Ad]
      rw[y7l (by omega)]) 0 emp (by omega) ⟨by show 0≤_;omega, .inl rfl⟩
  rw[Bb h,Al h,Ap,Aa]
  exact L
 ·rw[A7 h,Ao h];rfl
end
section
theorem o3n (v:Nat):(bif decide ((v:Int)<97) then some true else some (decide ((v:Int) >122)))=some (!(decide (97≤v)&&decide (v≤122))):=by
 have e1:decide ((v:Int)<97)= !decide (97≤v):=by by_cases h:97≤v<;>simp[h] <;>omega
 have e2:decide ((v:Int) >122)= !decide (v≤122):=by by_cases h:v≤122<;>simp[h] <;>omega
 rw[e1,e2]
 cases decide (97≤v)<;>cases decide (v≤122)<;>rfl
theorem r7j (a b c:Int):u1b (a,b,c)=some (inB a b c):=t98 a b c
theorem s7j (a b c:Int):u03 (a,b,c)=some (inB a b c):=s9v a b c
theorem u9e {X R:Type} (W:X→Ht R) (n:Nat) (mk:Int→X) (ok:Nat→Bool) (yes no:R) (hend:W (mk (n:Int))=some yes)
 (hstep:∀(i:Nat),i<n→W (mk (i:Int))=bif ok i then W (mk ((i+1:Nat):Int)) else some no):W (mk 0)=some (bif (List.range n).all ok then yes else no):=by
 have key:∀d i:Nat,i+d=n→W (mk (i:Int))=some (bif (List.range d).all (fun j=>ok (i+j)) then yes else no):=by
  intro d
  induction d with
  | zero=>intro i hi;have:i=n:=by omega
          subst this;simpa using hend
  | succ d ih=>
   intro i hi
   rw[hstep i (by omega),ih (i+1) (by omega),List.range_succ_eq_map,Gc,List.all_map,Df]
   have e:((fun j=>ok (i+j)) ∘Nat.succ)=fun j=>ok (i+1+j):=by funext j;simp only[Function.comp];congr 1;omega
   rw[e]
   cases ok i<;>rfl
 have:=key n 0 (by omega)
 simpa using this
theorem t63 {t:Ty} (l:Hu t.den) (f:t.den→Bool):((List.range l.length).all fun i=>f (rdL t l i))=l.all f:=by
 rw[Cd,Bg,Bg]
 constructor
 ·intro h x hx
  obtain⟨i,hi,rfl⟩:=B7 hx
  have:=h i (Bq.mpr hi)
  rwa [y8k hi] at this
 ·intro h i hi
  rw[y8k (Bq.mp hi)]
  exact h _ (Ag _)
theorem o3j {α:Type} (l:Hu α) (f g:α→Bool):(l.all fun i=>f i&&g i)=(l.all f&&l.all g):=by
 induction l with
 | nil=>rfl
 | cons x l ih=>simp only[Gc,ih];cases f x<;>cases g x<;>simp
theorem s5s {t:Ty} (l:Hu t.den) (f:t.den→Bool) (lt:t.den→t.den→Bool):
 ((List.range l.length).all fun i=>f (rdL t l i)&&(decide (i=0) || lt (rdL t l (i - 1)) (rdL t l i)))=(l.all f&&p0y t lt l):=by
 rw[o3j (List.range l.length) (fun i=>f (rdL t l i)) (fun i=>decide (i=0) || lt (rdL t l (i - 1)) (rdL t l i)),t63]
 rfl
theorem t82 (i:Nat):decide ((i:Int) >0)= !decide (i=0):=by by_cases h:i=0<;>simp[h] <;>omega
theorem t36 {i:Nat} (h:i<4611686018427387904) (h0:i≠0):IntKind.i64.wrap ((i:Int) - (1:Int))=((i - 1:Nat):Int):=by
 rw[y4y (by omega) (by omega)];omega
theorem p50 (s:Hs) {i:Nat} (h:i<s.size):s.data.toList.getD i 0=s.data.toList[i]'h:=by
 rw[A5,A4 h];rfl
theorem s1v (s:Hs) (hs:s.size≤u0e):u8f s=some (t9s s):=by
 have hb:u0e=1099511627776:=rfl
 have L:=u9e t8u s.size (fun i=>(s,i)) (fun i=>(fun b:UInt8=>decide (97≤b.toNat)&&decide (b.toNat≤122)) (s.data.toList.getD i 0)) (.inl s) (.inr false)
  (by rw[r90];simp only[t8k,u0b,Am,Ah,Aa])
  (fun i hi=>by
   rw[r90];simp only[t8k,u0b,hi,Ae,Ad,y7t hi,zTn,y7l (show i<4611686018427387904 by omega)]
   rw[o3n];simp only[zOb]
   cases (decide (97≤(s.data.toList.getD i 0).toNat)&&decide ((s.data.toList.getD i 0).toNat≤122))<;>rfl)
 have hA:((List.range s.size).all fun i=>(fun b:UInt8=>decide (97≤b.toNat)&&decide (b.toNat≤122)) (s.data.toList.getD i 0))=s.data.toList.all (fun b=>decide (97≤b.toNat)&&decide (b.toNat≤122)):=by
  rw[Cd,Bg,Bg]
  constructor
  ·intro h x hx
   obtain⟨i,hi,rfl⟩:=B7 hx
   have:=h i (Bq.mpr hi)
   rwa [p50 s hi] at this
  ·intro h i hi
   rw[p50 s (Bq.mp hi)]
   exact h _ (Ag _)
 rw[hA] at L
 rw[p7c];unfold q5f
 simp only[L,zOb]
 unfold t9s
 cases s.data.toList.all (fun b=>decide (97≤b.toNat)&&decide (b.toNat≤122))
 ·rfl
 ·simp only[Ad,r7j,zOb,Bz]
  unfold inB
  congr 1
  have e1:decide ((1:Int)≤(s.size:Int))=decide (1≤s.size):=by simp;omega
  have e2:decide ((s.size:Int)≤3)=decide (s.size≤3):=by simp;omega
  rw[e1,e2]
theorem s1w (s:Hs) (hs:s.size≤u0e):u8h s=some (t9s s):=by
 have hb:u0e=1099511627776:=rfl
 have L:=u9e t8x s.size (fun i=>(s,i)) (fun i=>(fun b:UInt8=>decide (97≤b.toNat)&&decide (b.toNat≤122)) (s.data.toList.getD i 0)) (.inl s) (.inr false)
  (by rw[r94];simp only[t8o,u0b,Am,Ah,Aa])
  (fun i hi=>by
   rw[r94];simp only[t8o,u0b,hi,Ae,Ad,y7t hi,zTn,y7l (show i<4611686018427387904 by omega)]
   rw[o3n];simp only[zOb]
   cases (decide (97≤(s.data.toList.getD i 0).toNat)&&decide ((s.data.toList.getD i 0).toNat≤122))<;>rfl)
 have hA:((List.range s.size).all fun i=>(fun b:UInt8=>decide (97≤b.toNat)&&decide (b.toNat≤122)) (s.data.toList.getD i 0))=s.data.toList.all (fun b=>decide (97≤b.toNat)&&decide (b.toNat≤122)):=by
  rw[Cd,Bg,Bg]
  constructor
  ·intro h x hx
   obtain⟨i,hi,rfl⟩:=B7 hx
   have:=h i (Bq.mpr hi)
   rwa [p50 s hi] at this
  ·intro h i hi
   rw[p50 s (Bq.mp hi)]
   exact h _ (Ag _)
 rw[hA] at L
 rw[p7p];unfold q5r
 simp only[L,zOb]
 unfold t9s
 cases s.data.toList.all (fun b=>decide (97≤b.toNat)&&decide (b.toNat≤122))
 ·rfl
 ·simp only[Ad,s7j,zOb,Bz]
  unfold inB
  congr 1
  have e1:decide ((1:Int)≤(s.size:Int))=decide (1≤s.size):=by simp;omega
  have e2:decide ((s.size:Int)≤3)=decide (s.size≤3):=by simp;omega
  rw[e1,e2]
theorem p6w (r:p20) (h1:r.1.size≤u0e) (h2:r.2.size≤u0e):s5w r=some (t5v r):=by
 rw[p06];unfold r72 t5v
 simp only[s1v _ h1,s1v _ h2,zOb]
 cases t9s r.1<;>cases t9s r.2<;>rfl
theorem p6x (r:p20) (h1:r.1.size≤u0e) (h2:r.2.size≤u0e):s57 r=some (t5v r):=by
 rw[p11];unfold r8u t5v
 simp only[s1w _ h1,s1w _ h2,zOb]
 cases t9s r.1<;>cases t9s r.2<;>rfl
theorem t2v (s:Hs):z7o s (⟨#[]⟩:Hs)=decide (s.size=0):=by
 rw[Cd,y7f,Ar]
 constructor
 ·intro h;subst h;rfl
 ·intro h;exact Gf (Fi h)
theorem j5a (s:Hs):decide ((s.size:Int)≤12)=decide (s.size≤12):=by simp;omega
theorem p66 (w:WrT) (h1:w.1.size≤u0e):s50 w=some (t1n w):=by
 rw[p1g];unfold r8c t1n
 simp only[s1v _ h1,zOb,t2v,j5a]
 cases t9s w.1<;>cases decide (w.2.1.size≤12)<;>cases w.2.2<;>rfl
theorem p67 (w:WrT) (h1:w.1.size≤u0e):s6b w=some (t1n w):=by
 rw[p2b];unfold r84 t1n
 simp only[s1w _ h1,zOb,t2v,j5a]
 cases t9s w.1<;>cases decide (w.2.1.size≤12)<;>cases w.2.2<;>rfl
theorem p3x {l:Hu WrT} {w:WrT} (h:w∈l):w.1.size≤(Ty.sl u0o).wt l∧w.2.1.size≤(Ty.sl u0o).wt l:=by
 have h1:(Ty.sl u0o).wt l=l.length+(l.map u0o.wt).sum:=rfl
 have h2:=s1g (f:=u0o.wt) h
 have h3:u0o.wt w=w.1.size+(w.2.1.size+0):=rfl
 omega
theorem p3i {l:Hu p20} {w:p20} (h:w∈l):w.1.size≤(Ty.sl u1u).wt l∧w.2.size≤(Ty.sl u1u).wt l:=by
 have h1:(Ty.sl u1u).wt l=l.length+(l.map u1u.wt).sum:=rfl
 have h2:=s1g (f:=u1u.wt) h
 have h3:u1u.wt w=w.1.size+w.2.size:=rfl
 omega
theorem t3a {t:Ty} (l:Hu t.den):l.length≤(Ty.sl t).wt l:=by
 have h1:(Ty.sl t).wt l=l.length+(l.map t.wt).sum:=rfl
 omega
theorem le8 (n:Nat):decide ((n:Int)≤8)=decide (n≤8):=by simp;omega
theorem gt8 (n:Nat):decide ((n:Int) >8)= !decide (n≤8):=by by_cases h:n≤8<;>simp[h] <;>omega
theorem p4g (l:Hu WrT) (hl:(Ty.sl u0o).wt l≤u0e):s20 l=some (t7r l):=by
 have hb:u0e=1099511627776:=rfl
 have hn:=t3a (t:=u0o) l
 have L:=u9e t2k l.length (fun i=>(l,l,(l.length:Int),i)) (fun i=>t1n (rdL u0o l i)&&(decide (i=0) || (fun a b:WrT=>y3c a.1 b.1) (rdL u0o l (i - 1)) (rdL u0o l i))) (.inl l) (.inr false)
  (by rw[s8z];simp only[t1w,u0b,Am,Ah,Aa])
  (fun i hi=>by
   have hm:rdL u0o l i∈l:=by rw[y8k hi];exact Ag hi
   rw[s8z];simp only[t1w,u0b,hi,Ae,Ad,y7t hi,zTn,y7l (show i<4611686018427387904 by omega),p66 _ (A9 (p3x hm).1 hl),zOb,t82]
   by_cases h0:i=0
   ·subst h0;simp only[Ae,Ap,Aa,Dx,Cz]
    cases t1n (rdL u0o l 0)<;>rfl
   ·simp only[h0,Ah,Bh,Ad,Ci,t36 (show i<4611686018427387904 by omega) h0,y7t (show i - 1<l.length by omega),zTn]
    cases t1n (rdL u0o l i)
    ·rfl
    ·simp only[Ap,Aa,zOb,Bz]
     cases y3c (rdL u0o l (i - 1)).1 (rdL u0o l i).1<;>rfl)
 rw[s5s (t:=u0o) l t1n (fun a b=>y3c a.1 b.1)] at L
 rw[q8o];unfold r4r
 simp only[L,zOb]
 unfold t7r
 cases l.all t1n
 ·rfl
 ·cases p0y u0o (fun a b=>y3c a.1 b.1) l
  ·rfl
  ·simp only[Bz,Ad]
   rw[le8]
theorem p4h (l:Hu WrT) (hl:(Ty.sl u0o).wt l≤u0e):s3m l=some (t7r l):=by
 have hb:u0e=1099511627776:=rfl
 have hn:=t3a (t:=u0o) l
 have L:=u9e t2s l.length (fun i=>(l,i)) (fun i=>t1n (rdL u0o l i)&&(decide (i=0) || (fun a b:WrT=>y3c a.1 b.1) (rdL u0o l (i - 1)) (rdL u0o l i))) (.inl l) (.inr false)
  (by rw[s9d];simp only[t2b,u0b,Am,Ah,Aa])
  (fun i hi=>by
   have hm:rdL u0o l i∈l:=by rw[y8k hi];exact Ag hi
   rw[s9d];simp only[t2b,u0b,hi,Ae,Ad,y7t hi,zTn,y7l (show i<4611686018427387904 by omega),p67 _ (A9 (p3x hm).1 hl),zOb,t82]
   by_cases h0:i=0
   ·subst h0;simp only[Ae,Ap,Aa,Dx,Cz]
    cases t1n (rdL u0o l 0)<;>rfl
   ·simp only[h0,Ah,Bh,Ad,Ci,t36 (show i<4611686018427387904 by omega) h0,y7t (show i - 1<l.length by omega),zTn]
    cases t1n (rdL u0o l i)
    ·rfl
    ·simp only[Ap,Aa,zOb,Bz]
     cases y3c (rdL u0o l (i - 1)).1 (rdL u0o l i).1<;>rfl)
 rw[s5s (t:=u0o) l t1n (fun a b=>y3c a.1 b.1)] at L
 rw[q9f];unfold r5j
 simp only[L,zOb]
 unfold t7r
 cases l.all t1n
 ·rfl
 ·cases p0y u0o (fun a b=>y3c a.1 b.1) l
  ·rfl
  ·simp only[Bz,Ad]
   rw[le8]
theorem o09 (t:u0g):u0i.wt t=0+(0+(0+(0+((Ty.sl u1u).wt t.2.2.2.2.1+((Ty.sl u0o).wt t.2.2.2.2.2.1+(0+t.2.2.2.2.2.2.2.size)))))):=rfl
theorem s1x (t:u0g) (ht:u0i.wt t≤u0e):u6u t=some (u5r t):=by
 have hb:u0e=1099511627776:=rfl
 have hw:=o09 t
 have hn:=t3a (t:=u1u) t.2.2.2.2.1
 have L:=u9e t8w t.2.2.2.2.1.length (fun i=>(t,t.2.2.2.2.1,(t.2.2.2.2.1.length:Int),i)) (fun i=>t5v (rdL u1u t.2.2.2.2.1 i)) (.inl t) (.inr false)
  (by rw[r93];simp only[t8n,u0b,Am,Ah,Aa])
  (fun i hi=>by
   have hm:rdL u1u t.2.2.2.2.1 i∈t.2.2.2.2.1:=by rw[y8k hi];exact Ag hi
   have hz:=p3i hm
   rw[r93];simp only[t8n,u0b,hi,Ae,Ad,y7t hi,zTn,y7l (show i<4611686018427387904 by omega),p6w (rdL u1u t.2.2.2.2.1 i) (A9 hz.1 (by omega)) (A9 hz.2 (by omega)),zOb]
   cases t5v (rdL u1u t.2.2.2.2.1 i)<;>rfl)
 rw[t63 (t:=u1u) t.2.2.2.2.1 t5v] at L
 rw[p7h];unfold q5k
 have k1:=p4g t.2.2.2.2.2.1 (by omega)
 have k2:=s1v t.2.2.2.2.2.2.2 (by omega)
 simp only[L,zOb]
 unfold u5r
 cases t.2.2.2.2.1.all t5v
 ·simp only[Aa,Fx,Fy]
 ·simp only[Ad,r7j,k1,k2,zOb,t2v,gt8,Bz]
  cases h3:inB t.2.2.1 0 9999
  ·cases inB t.1 1 9999<;>cases inB t.2.1 1 3<;>simp
  ·have h3' :=q9n.mp h3
   rw[y4y (n:=t.2.2.1+1) (by omega) (by omega)]
   cases inB t.1 1 9999<;>cases inB t.2.1 1 3<;>cases decide (t.2.2.2.2.1.length≤8)<;>cases t7r t.2.2.2.2.2.1<;>simp
   generalize inB t.2.2.2.1 (t.2.2.1+1) 9999=b1
   generalize t9s t.2.2.2.2.2.2.2=b2
   by_cases e3:t.2.1=3
   ·cases t.2.2.2.2.2.2.1<;>cases b1<;>simp[e3]
   ·by_cases e2:t.2.1=2
    ·cases t.2.2.2.2.2.2.1<;>cases b2<;>by_cases e5:t.2.2.2.1=0<;>simp[e2,e5]
    ·by_cases e1:t.2.1=1<;>cases t.2.2.2.2.2.2.1<;>by_cases e5:t.2.2.2.1=0<;>simp[e1,e2,e3,e5]
theorem s1y (t:u0g) (ht:u0i.wt t≤u0e):u8i t=some (u5r t):=by
 have hb:u0e=1099511627776:=rfl
 have hw:=o09 t
 have hn:=t3a (t:=u1u) t.2.2.2.2.1
 have L:=u9e t80 t.2.2.2.2.1.length (fun i=>(t,i)) (fun i=>t5v (rdL u1u t.2.2.2.2.1 i)) (.inl t) (.inr false)
  (by rw[r98];simp only[t8s,u0b,Am,Ah,Aa])
  (fun i hi=>by
   have hm:rdL u1u t.2.2.2.2.1 i∈t.2.2.2.2.1:=by rw[y8k hi];exact Ag hi
   have hz:=p3i hm
   rw[r98];simp only[t8s,u0b,hi,Ae,Ad,y7t hi,zTn,y7l (show i<4611686018427387904 by omega),p6x (rdL u1u t.2.2.2.2.1 i) (A9 hz.1 (by omega)) (A9 hz.2 (by omega)),zOb]
   cases t5v (rdL u1u t.2.2.2.2.1 i)<;>rfl)
 rw[t63 (t:=u1u) t.2.2.2.2.1 t5v] at L
 rw[p7t];unfold q5v
 have k1:=p4h t.2.2.2.2.2.1 (by omega)
 have k2:=s1w t.2.2.2.2.2.2.2 (by omega)
 simp only[L,s7j,k1,k2,zOb,t2v,gt8]
 unfold u5r
 cases t.2.2.2.2.1.all t5v
 ·cases inB t.1 1 9999<;>cases inB t.2.1 1 3<;>cases inB t.2.2.1 0 9999<;>cases decide (t.2.2.2.2.1.length≤8)<;>cases t7r t.2.2.2.2.2.1<;>simp
 ·simp only[Ad,Bz,s7j,k2,zOb,t2v]
  cases h3:inB t.2.2.1 0 9999
  ·cases inB t.1 1 9999<;>cases inB t.2.1 1 3<;>simp
  ·have h3' :=q9n.mp h3
   rw[y4y (n:=t.2.2.1+1) (by omega) (by omega)]
   cases inB t.1 1 9999<;>cases inB t.2.1 1 3<;>cases decide (t.2.2.2.2.1.length≤8)<;>cases t7r t.2.2.2.2.2.1<;>try rfl
   generalize decide (t.2.2.2.2.2.2.2.size=0)=b4
   generalize inB t.2.2.2.1 (t.2.2.1+1) 9999=b1
   generalize t9s t.2.2.2.2.2.2.2=b2
   by_cases e3:t.2.1=3
   ·cases t.2.2.2.2.2.2.1<;>cases b1<;>cases b4<;>simp[e3]
   ·by_cases e2:t.2.1=2
    ·cases t.2.2.2.2.2.2.1<;>cases b2<;>by_cases e5:t.2.2.2.1=0<;>simp[e2,e5]
    ·by_cases e1:t.2.1=1<;>cases t.2.2.2.2.2.2.1<;>cases b4<;>by_cases e5:t.2.2.2.1=0<;>simp[e1,e2,e3,e5]
end
section
section
variable {l:Hu u0i.den} (hl:o92 l) {u:Hu Nat} (ho:p53 l=some u)
include hl
include ho
def pre (l:Hu u0i.den) (u:Hu Nat) (a:Nat):Hu u0i.den:=(u.take a).map fun i=>rdL u0i l i
end
end
section
def j5z (w:u0o.den):Prop:=w.1.size≤4∧w.2.1.size≤13
def j5y (n:Nat) (t:u0i.den):Prop:=t.2.2.2.2.1.length≤n∧(∀r∈t.2.2.2.2.1,r.1.size≤2∧r.2.size≤2)∧t.2.2.2.2.2.1.length≤n∧(∀r∈t.2.2.2.2.2.1,j5z r)∧t.2.2.2.2.2.2.2.size≤16
end
section
theorem o1d {l:Hu u3a} {w:u3a} (h:w∈l):w.1.size≤(Ty.sl u0c).wt l∧w.2.1.size≤(Ty.sl u0c).wt l:=by
 have h1:(Ty.sl u0c).wt l=l.length+(l.map u0c.wt).sum:=rfl
 have h2:=s1g (f:=u0c.wt) h
 have h3:u0c.wt w=w.1.size+(w.2.1.size+(0+0)):=rfl
 omega
theorem j1f (n:Nat):decide ((n:Int) >12)= !decide (n≤12):=by by_cases h:n≤12<;>simp[h] <;>omega
theorem o90 (n:Nat):decide ((n:Int)≤120)=decide (n≤120):=by simp;omega
theorem q55 (a b:Int):decide (a≥b)= !decide (a<b):=by
 by_cases h:a<b
 ·have: ¬a≥b:=by omega
  simp[h,this]
 ·have:a≥b:=by omega
  simp[h,this]
theorem r5q (a b:Int):decide (a >b)= !decide (a≤b):=by
 by_cases h:a≤b
 ·have: ¬a >b:=by omega
  simp[h,this]
 ·have:a >b:=by omega
  simp[h,this]
theorem o7t (a b:u3a):∃r,u4w (a,b)=some r∧decide (r≥0)= !s5e a b:=by
 rw[t9p];unfold t1e s5e
 simp only[p2s,zOb]
 rcases p6c a.1 b.1 with h | h | h
 ·exact⟨-1,by simp[h],by simp[h]⟩
 ·simp only[h,s3n,y6l,Br,Bk,Bl,Ae,Ap,Aa,o22,zOb,Ci,Bz]
  refine⟨_,rfl,?_⟩
  by_cases h3:a.2.2.2<b.2.2.2
  ·simp[h3]
  ·by_cases h4:a.2.2.2 >b.2.2.2<;>simp[h3,h4]
 ·have e1:=q24 h
  have e2:z7o a.1 b.1=false:=p96.mpr (fun e=>by rw[e,s3n] at h;cases h)
  exact⟨1,by simp[e1,e2],by simp[e1,e2]⟩
theorem q7y (l:Hu u3a) (hl:(Ty.sl u0c).wt l≤u0e):t77 l=some (t0d l):=by
 have hb:u0e=1099511627776:=rfl
 have hn:=t3a (t:=u0c) l
 have L:=u9e u8w l.length (fun i=>(l,l,(l.length:Int),i)) (fun i=>q4r (rdL u0c l i)&&(decide (i=0) || s5e (rdL u0c l (i - 1)) (rdL u0c l i))) (.inl l) (.inr false)
  (by rw[s3t];simp only[u8n,u0b,Am,Ah,Aa])
  (fun i hi=>by
   have hm:rdL u0c l i∈l:=by rw[y8k hi];exact Ag hi
   rw[s3t];simp only[u8n,u0b,hi,Ae,Ad,y7t hi,zTn,y7l (show i<4611686018427387904 by omega),s1v _ (A9 (o1d hm).1 hl),r7j,zOb,t82,t2v,j1f]
   unfold q4r
   generalize t9s (rdL u0c l i).1=b1
   generalize decide ((rdL u0c l i).2.1.size≤12)=b2
   generalize decide ((rdL u0c l i).2.1.size=0)=b3
   generalize (rdL u0c l i).2.2.1=b4
   generalize inB (rdL u0c l i).2.2.2 1 9999=b5
   by_cases h0:i=0
   ·subst h0;simp only[Ae,Ap,Aa,Dx,Cz]
    cases b1<;>cases b2<;>cases b3<;>cases b4<;>cases b5<;>rfl
   ·obtain⟨r,hr,hr2⟩:=o7t (rdL u0c l (i - 1)) (rdL u0c l i)
    simp only[h0,Ah,Bh,Ad,Ci,t36 (show i<4611686018427387904 by omega) h0,y7t (show i - 1<l.length by omega),zTn,hr,hr2,zOb]
    cases s5e (rdL u0c l (i - 1)) (rdL u0c l i)<;>cases b1<;>cases b2<;>cases b3<;>cases b4<;>cases b5<;>rfl)
 rw[s5s (t:=u0c) l q4r s5e] at L
 rw[q37];unfold s6x
 simp only[L,zOb]
 unfold t0d
 cases l.all q4r
 ·rfl
 ·cases p0y u0c s5e l
  ·rfl
  ·simp only[Bz,Ad]
   rw[o90]
theorem q7z (l:Hu u3a) (hl:(Ty.sl u0c).wt l≤u0e):t8g l=some (t0d l):=by
 have hb:u0e=1099511627776:=rfl
 have hn:=t3a (t:=u0c) l
 have L:=u9e u80 l.length (fun i=>(l,i)) (fun i=>q4r (rdL u0c l i)&&(decide (i=0) || s5e (rdL u0c l (i - 1)) (rdL u0c l i))) (.inl l) (.inr false)
  (by rw[s3y];simp only[u8t,u0b,Am,Ah,Aa])
  (fun i hi=>by
   have hm:rdL u0c l i∈l:=by rw[y8k hi];exact Ag hi
   rw[s3y];simp only[u8t,u0b,hi,Ae,Ad,y7t hi,zTn,y7l (show i<4611686018427387904 by omega),s1w _ (A9 (o1d hm).1 hl),s7j,zOb,t82,t2v,j1f]
   unfold q4r s5e
   generalize t9s (rdL u0c l i).1=b1
   generalize decide ((rdL u0c l i).2.1.size≤12)=b2
   generalize decide ((rdL u0c l i).2.1.size=0)=b3
   generalize (rdL u0c l i).2.2.1=b4
   generalize inB (rdL u0c l i).2.2.2 1 9999=b5
   by_cases h0:i=0
   ·subst h0;simp only[Ae,Ap,Aa,Dx,Cz]
    cases b1<;>cases b2<;>cases b3<;>cases b4<;>cases b5<;>rfl
   ·simp only[h0,Ah,Bh,Ad,Ci,t36 (show i<4611686018427387904 by omega) h0,y7t (show i - 1<l.length by omega),zTn,zOb]
    rcases p6c (rdL u0c l (i - 1)).1 (rdL u0c l i).1 with h | h | h
    ·have e2:z7o (rdL u0c l (i - 1)).1 (rdL u0c l i).1=false:=p96.mpr (fun e=>by rw[e,s3n] at h;cases h)
     rw[h,e2]
     cases b1<;>cases b2<;>cases b3<;>cases b4<;>cases b5<;>rfl
    ·rw[h,s3n,y6l]
     rw[q55]
     cases decide ((rdL u0c l (i - 1)).2.2.2<(rdL u0c l i).2.2.2)<;>cases b1<;>cases b2<;>cases b3<;>cases b4<;>cases b5<;>rfl
    ·have e1:=q24 h
     have e2:z7o (rdL u0c l (i - 1)).1 (rdL u0c l i).1=false:=p96.mpr (fun e=>by rw[e,s3n] at h;cases h)
     rw[e1,e2]
     cases b1<;>cases b2<;>cases b3<;>cases b4<;>cases b5<;>rfl)
 rw[s5s (t:=u0c) l q4r s5e] at L
 rw[q4k];unfold s7a
 simp only[L,zOb]
 unfold t0d
 cases l.all q4r
 ·rfl
 ·cases p0y u0c s5e l
  ·rfl
  ·simp only[Bz,Ad]
   rw[o90]
theorem o5f (n:Nat) (hn:n≤1099511627776):t0g ((),(n:Int))=some [] :=by
 rw[r3r];unfold t7v
 have e0:IntKind.i64.wrap ((0:Int) - (0:Int))=0:=by rw[y4y (by omega) (by omega)];rfl
 have e1:IntKind.i64.wrap ((n:Int) - 0)=(n:Int):=by rw[y4y (by omega) (by omega)];omega
 have e2:decide ((n:Int)<0)=false:=A7 (by omega)
 simp only[e0,e1,e2,Aa]
 by_cases h:n=0
 ·subst h;simp
 ·have e3:decide ((n:Int) >0)=true:=by simp;omega
  have e4:(decide ((1:Int)≤(n:Int))&&decide ((n:Int)≤1099511627776))=true:=by simp;omega
  simp only[e3,e4,Ad]
  simp
theorem p2t (ls:Hu (Hu u0g)) (h:ls.flatten.length≤1099511627776) (hn:ls.length≤1099511627776):u27 ls=some ls.flatten:=by
 have fl:∀(i:Nat),i≤ls.length→(ls.take i).flatten.length≤ls.flatten.length:=fun i _=>by
  have:=En i ls
  have h2:ls.flatten=(ls.take i).flatten++(ls.drop i).flatten:=by rw[←Ga,this]
  rw[h2,Ba];omega
 have st:∀(i:Nat) (hi:i<ls.length),(ls.take (i+1)).flatten=(ls.take i).flatten++ls[i] :=fun i hi=>by
  rw[Gm,A4 hi,Ga];simp
 have L1:=s1i u2e ls.length (fun(n:Nat) i=>(ls,(n:Int),ls,(ls.length:Int),i)) (fun _ _=> .inl (ls,(ls.flatten.length:Int))) (fun i n=>n=(ls.take i).flatten.length)
  (fun n hP=>by
   rw[Cq] at hP;subst hP
   rw[t3b];simp only[u4c,u0b,Am,Ah,Aa])
  (fun i n hi hP=> .inr ⟨(ls.take (i+1)).flatten.length,rfl,rfl,by
   have h1:=fl (i+1) (by omega)
   have h2:(ls.take (i+1)).flatten.length=n+ls[i].length:=by rw[st i hi,Ba,hP]
   have e1:IntKind.i64.wrap ((n:Int)+((ls[i].length:Nat):Int))=((n+ls[i].length:Nat):Int):=by rw[y4y (by omega) (by omega)];omega
   have e2:decide (((n+ls[i].length:Nat):Int)<0)=false:=by simp;omega
   rw[t3b];simp only[u4c,u0b,hi,Ae,Ad,y7t hi,zTn,y8k (t:=Ty.sl u0i) hi,y7l (show i<4611686018427387904 by omega),h2]
   rw[e1,e2];rfl⟩) 0 0 (by omega) rfl
 have L2:=s1i u17 ls.length (fun(a:Hu u0g) i=>(a,ls,(ls.length:Int),i)) (fun _ _=> .inl ls.flatten) (fun i a=>a=(ls.take i).flatten)
  (fun a hP=>by
   rw[Cq] at hP;subst hP
   rw[t1k];simp only[u3n,u0b,Am,Ah,Aa])
  (fun i a hi hP=> .inr ⟨(ls.take (i+1)).flatten,rfl,rfl,by
   have h1:=fl (i+1) (by omega)
   have h2:(ls.take (i+1)).flatten.length=a.length+ls[i].length:=by rw[st i hi,Ba,hP]
   rw[t1k];simp only[u3n,u0b,hi,Ae,Ad,y7t hi,zTn,y8k (t:=Ty.sl u0i) hi,y7l (show i<4611686018427387904 by omega)]
   rw[u0m (show a.length+ls[i].length≤1099511627776 by omega),st i hi,hP];rfl⟩) 0 [] (by omega) rfl
 rw[s7h];unfold t54
 have L1' :u2e (ls,(0:Int),ls,(ls.length:Int),0)=some (.inl (ls,(ls.flatten.length:Int))):=L1
 have L2' :u17 ([],ls,(ls.length:Int),0)=some (.inl ls.flatten):=L2
 simp only[L1',zOb,o5f _ h,L2']
end
section
theorem o33 (l:Hu u0g) (n:Int):((List.range l.length).all fun i=>decide ((rdL u0i l i).1<n)&& !((l.take i).any fun y=>decide (y.1=(rdL u0i l i).1)))=q0i (u85 l) n:=by
 rw[Cd,Bg,r5r]
 unfold u85
 constructor
 ·intro h
  constructor
  ·intro x hx
   obtain⟨t,ht,rfl⟩:=Bx.mp hx
   obtain⟨i,hi,rfl⟩:=B7 ht
   have:=h i (Bq.mpr hi)
   rw[Ai,Ar,y8k hi] at this
   exact this.1
  ·rw[D8,Dl,Cp]
   intro i j hi hj hij e
   have:=h j (Bq.mpr hj)
   rw[Ai,Bj,y8k hj] at this
   have hm:l[i] ∈l.take j:=by
    rw[Gy]
    exact⟨i,by simp;omega,by simp⟩
   have:=Ct.mp this.2 _ hm
   simp only[Ar] at this
   exact this e
 ·rintro⟨h1,h2⟩ i hi
  have hi:=Bq.mp hi
  rw[Ai,Ar,y8k hi,Bj]
  refine⟨h1 _ (Bx.mpr ⟨_,Ag hi,rfl⟩),?_⟩
  rw[Ct]
  intro y hy
  rw[Gy] at hy
  obtain⟨j,hj,rfl⟩:=hy
  simp only[Ec] at hj
  rw[D8,Dl,Cp] at h2
  simp only[Fc,Ar]
  exact h2 j i (by omega) hi (by omega)
theorem r9k (l:Hu u0g) (n:Int) (hl:l.length≤1099511627776):u94 (l,n)=some (q0i (u85 l) n):=by
 have hsome:∀(m:Hu u0g) (t:u0g),m.length≤1099511627776→u5p (m,t)=some (m.any fun y=>decide (y.1=t.1)):=by
  intro m t hm
  have L:=Q.first (T:=u0i) (c:=u0g) (W:=u0w) (q:=t7b) (p:=fun y:u0g=>decide (y.1=t.1)) (fun x=>u62 x) m t (by omega) (fun x _=>by rw[q2m];rfl)
  simp only[s1k,t0x,u6z,u2o,u77,u3g,L,zOb]
  rw[←q9l]
  by_cases h:u1e (fun y:u0g=>decide (y.1=t.1)) m<m.length
  ·simp[h]
  ·simp[h]
 have L:=u9e t0t l.length (fun i=>(l,n,l,(l.length:Int),i)) (fun i=>decide ((rdL u0i l i).1<n)&& !((l.take i).any fun y=>decide (y.1=(rdL u0i l i).1))) (.inl ()) (.inr false)
  (by rw[s5j];simp only[t0l,u0b,Am,Ah,Aa])
  (fun i hi=>by
   have e1:(decide ((0:Int)≤0)&&decide ((0:Int)≤(i:Int))&&decide ((i:Int)≤(l.length:Int)))=true:=by simp;omega
   have e2:(l.take i).drop ((0:Int)).toNat=l.take i:=by simp
   have e3:=hsome (l.take i) (rdL u0i l i) (by simp;omega)
   rw[s5j];simp only[t0l,u0b,hi,Ae,Ad,y7t hi,zTn,y7l (show i<4611686018427387904 by omega),q55 (rdL u0i l i).1 n,e1]
   rw[e2,e3]
   cases decide ((rdL u0i l i).1<n)
   ·rfl
   ·simp only[Ap,Aa,zOb,Bz]
    cases (l.take i).any fun y=>decide (y.1=(rdL u0i l i).1)<;>rfl)
 rw[o33] at L
 rw[q60];unfold r05
 simp only[L,zOb]
 cases q0i (u85 l) n<;>rfl
theorem s9r (b:u0h):p0w.wt b=(Ty.sl u0c).wt b.1+((Ty.sl u0i).wt b.2.1+((Ty.sl u0i).wt b.2.2.1+(0+0))):=rfl
theorem r6u {l:Hu u0g} {t:u0g} (h:t∈l):u0i.wt t≤(Ty.sl u0i).wt l:=by
 have h1:(Ty.sl u0i).wt l=l.length+(l.map u0i.wt).sum:=rfl
 have h2:=s1g (f:=u0i.wt) h
 omega
theorem gt3 (n:Nat):decide ((n:Int) >3)= !decide (n≤3):=by by_cases h:n≤3<;>simp[h] <;>omega
theorem gt4 (n:Nat):decide ((n:Int) >4)= !decide (n≤4):=by by_cases h:n≤4<;>simp[h] <;>omega
theorem q56 (t:u0g):t86 t=some (decide (t.2.1=2)):=by rw[p1i];rfl
theorem u8k (b:u0h) (hw:p0w.wt b≤u0e):u2c b=some (u6r b):=by
 have hb:u0e=1099511627776:=rfl
 have hbw:=s9r b
 have n1:=t3a (t:=u0c) b.1
 have n2:=t3a (t:=u0i) b.2.1
 have n3:=t3a (t:=u0i) b.2.2.1
 have L1:=u9e t05 b.1.length (fun i=>(b,b.1,(b.1.length:Int),i)) (fun i=>(fun v:u3a=>decide (v.2.2.2≤b.2.2.2.1)) (rdL u0c b.1 i)) (.inl b) (.inr false)
  (by rw[r6y];simp only[t6d,u0b,Am,Ah,Aa])
  (fun i hi=>by
   rw[r6y];simp only[t6d,u0b,hi,Ae,Ad,y7t hi,zTn,y7l (show i<4611686018427387904 by omega),r5q (rdL u0c b.1 i).2.2.2 b.2.2.2.1]
   cases decide ((rdL u0c b.1 i).2.2.2≤b.2.2.2.1)<;>rfl)
 rw[t63 (t:=u0c) b.1 (fun v:u3a=>decide (v.2.2.2≤b.2.2.2.1))] at L1
 have L2:=u9e u9f b.2.1.length (fun i=>(b,b.2.1,(b.2.1.length:Int),i)) (fun i=>(fun t:u0g=>u5r t&&(decide (t.2.1=3)&&decide (t.2.2.2.1≤b.2.2.2.1))) (rdL u0i b.2.1 i)&&(decide (i=0) || (fun x y:u0g=>decide (x.2.2.2.1<y.2.2.2.1)) (rdL u0i b.2.1 (i - 1)) (rdL u0i b.2.1 i))) (.inl b) (.inr false)
  (by rw[r2s];simp only[t38,u0b,Am,Ah,Aa])
  (fun i hi=>by
   have hm:rdL u0i b.2.1 i∈b.2.1:=by rw[y8k hi];exact Ag hi
   have ht:=r6u hm
   have hk:=s1x (rdL u0i b.2.1 i) (by omega)
   rw[r2s];simp only[t38,u0b,hi,Ae,Ad,y7t hi,zTn,y7l (show i<4611686018427387904 by omega),r5q (rdL u0i b.2.1 i).2.2.2.1 b.2.2.2.1,t82,q0k,zOb]
   rw[hk]
   simp only[zOb]
   generalize u5r (rdL u0i b.2.1 i)=b1
   generalize decide ((rdL u0i b.2.1 i).2.1=3)=b2
   generalize decide ((rdL u0i b.2.1 i).2.2.2.1≤b.2.2.2.1)=b3
   by_cases h0:i=0
   ·subst h0;simp only[Ae,Ap,Aa,Dx,Cz]
    cases b1<;>cases b2<;>cases b3<;>rfl
   ·simp only[h0,Ah,Bh,Ad,Ci,t36 (show i<4611686018427387904 by omega) h0,y7t (show i - 1<b.2.1.length by omega),zTn,q55 (rdL u0i b.2.1 (i - 1)).2.2.2.1 (rdL u0i b.2.1 i).2.2.2.1]
    generalize decide ((rdL u0i b.2.1 (i - 1)).2.2.2.1<(rdL u0i b.2.1 i).2.2.2.1)=b4
    cases b1<;>cases b2<;>cases b3<;>cases b4<;>rfl)
 rw[s5s (t:=u0i) b.2.1 (fun t:u0g=>u5r t&&(decide (t.2.1=3)&&decide (t.2.2.2.1≤b.2.2.2.1))) (fun x y:u0g=>decide (x.2.2.2.1<y.2.2.2.1))] at L2
 have L3:=u9e u9g b.2.2.1.length (fun i=>(b,b.2.2.1,(b.2.2.1.length:Int),i)) (fun i=>(fun t:u0g=>u5r t&&(decide (t.2.1=2)&&decide (t.2.2.1≤b.2.2.2.1))) (rdL u0i b.2.2.1 i)&&(decide (i=0) || (fun x y:u0g=>y3c x.2.2.2.2.2.2.2 y.2.2.2.2.2.2.2) (rdL u0i b.2.2.1 (i - 1)) (rdL u0i b.2.2.1 i))) (.inl b) (.inr false)
  (by rw[r2t];simp only[t39,u0b,Am,Ah,Aa])
  (fun i hi=>by
   have hm:rdL u0i b.2.2.1 i∈b.2.2.1:=by rw[y8k hi];exact Ag hi
   have ht:=r6u hm
   have hk:=s1x (rdL u0i b.2.2.1 i) (by omega)
   rw[r2t];simp only[t39,u0b,hi,Ae,Ad,y7t hi,zTn,y7l (show i<4611686018427387904 by omega),r5q (rdL u0i b.2.2.1 i).2.2.1 b.2.2.2.1,t82,q56,zOb]
   rw[hk]
   simp only[zOb]
   generalize u5r (rdL u0i b.2.2.1 i)=b1
   generalize decide ((rdL u0i b.2.2.1 i).2.1=2)=b2
   generalize decide ((rdL u0i b.2.2.1 i).2.2.1≤b.2.2.2.1)=b3
   by_cases h0:i=0
   ·subst h0;simp only[Ae,Ap,Aa,Dx,Cz]
    cases b1<;>cases b2<;>cases b3<;>rfl
   ·simp only[h0,Ah,Bh,Ad,Ci,t36 (show i<4611686018427387904 by omega) h0,y7t (show i - 1<b.2.2.1.length by omega),zTn]
    generalize y3c (rdL u0i b.2.2.1 (i - 1)).2.2.2.2.2.2.2 (rdL u0i b.2.2.1 i).2.2.2.2.2.2.2=b4
    cases b1<;>cases b2<;>cases b3<;>cases b4<;>rfl)
 rw[s5s (t:=u0i) b.2.2.1 (fun t:u0g=>u5r t&&(decide (t.2.1=2)&&decide (t.2.2.1≤b.2.2.2.1))) (fun x y:u0g=>y3c x.2.2.2.2.2.2.2 y.2.2.2.2.2.2.2)] at L3
 have hC:=p2t [b.2.1,b.2.2.1] (by simp only[List.flatten_cons,List.flatten_nil,Bw,Ba];omega) (by simp)
 have hf: [b.2.1,b.2.2.1].flatten=b.2.1++b.2.2.1:=by simp
 rw[hf] at hC
 have hI:=r9k (b.2.1++b.2.2.1) b.2.2.2.2 (by rw[Ba];omega)
 have hV:=q7y b.1 (by omega)
 rw[p4n];unfold q02
 rw[hV]
 simp only[r7j,j1f,gt3,zOb]
 unfold u6r o00 p6b
 generalize t0d b.1=c1
 generalize inB b.2.2.2.1 0 9999=c3
 generalize inB b.2.2.2.2 1 9999=c4
 generalize decide (b.2.1.length≤12)=c5
 generalize decide (b.2.2.1.length≤3)=c6
 generalize ha1:b.1.all (fun v:u3a=>decide (v.2.2.2≤b.2.2.2.1))=a1 at L1
 generalize ha2:b.2.1.all (fun t:u0g=>u5r t&&(decide (t.2.1=3)&&decide (t.2.2.2.1≤b.2.2.2.1)))=a2 at L2
 generalize ha3:p0y u0i (fun x y:u0g=>decide (x.2.2.2.1<y.2.2.2.1)) b.2.1=a3 at L2
 generalize ha4:b.2.2.1.all (fun t:u0g=>u5r t&&(decide (t.2.1=2)&&decide (t.2.2.1≤b.2.2.2.1)))=a4 at L3
 generalize ha5:p0y u0i (fun x y:u0g=>y3c x.2.2.2.2.2.2.2 y.2.2.2.2.2.2.2) b.2.2.1=a5 at L3
 generalize q0i (u85 (b.2.1++b.2.2.1)) b.2.2.2.2=a6 at hI
 have hR:((t05 (b,b.1,(b.1.length:Int),0)).bind fun r5=>match r5 with
  | .inl o6=>(u9f (o6,o6.2.1,(o6.2.1.length:Int),0)).bind fun r10=>match r10 with
   | .inl o11=>(u9g (o11,o11.2.2.1,(o11.2.2.1.length:Int),0)).bind fun r15=>match r15 with
    | .inl o16=>(u27 [o16.2.1,o16.2.2.1]).bind fun y17=>(u94 (y17,o16.2.2.2.2)).bind fun y18=>some y18
    | .inr z19=>some z19
   | .inr z20=>some z20
  | .inr z21=>some z21)=some (a1&&((a2&&a3)&&((a4&&a5)&&a6))):=by
  rw[L1]
  cases a1
  ·rfl
  ·simp only[Ad,zOb,Bz]
   rw[L2]
   cases (a2&&a3)
   ·rfl
   ·simp only[Ad,zOb,Bz]
    rw[L3]
    cases (a4&&a5)
    ·rfl
    ·simp only[Ad,zOb,Bz]
     rw[hC]
     simp only[zOb]
     rw[hI];rfl
 cases c1<;>cases c3<;>cases c4<;>cases c5<;>cases c6<;>simp only[Ap,Bh,Ad,Aa,zOb,Fx,Fy,Bz,Cz]
 exact hR
theorem o2b (l:Hu Int) (n:Int):((List.range l.length).all fun i=>((List.range i).all fun j=> !decide (rdL (Ty.int .i64) l j=rdL (Ty.int .i64) l i))&&decide (rdL (Ty.int .i64) l i<n))=q0i l n:=by
 rw[Cd,Bg,r5r]
 constructor
 ·intro h
  constructor
  ·intro x hx
   obtain⟨i,hi,rfl⟩:=B7 hx
   have:=h i (Bq.mpr hi)
   rw[Ai,Ar,y8k (t:=Ty.int .i64) hi] at this
   exact this.2
  ·rw[D8,Cp]
   intro i j hi hj hij e
   have:=h j (Bq.mpr hj)
   rw[Ai,Bg] at this
   have:=this.1 i (Bq.mpr hij)
   rw[y8k (t:=Ty.int .i64) hi,y8k (t:=Ty.int .i64) hj,Bj,Bu] at this
   exact this e
 ·rintro⟨h1,h2⟩ i hi
  have hi:=Bq.mp hi
  rw[Ai,Ar,y8k (t:=Ty.int .i64) hi,Bg]
  refine⟨fun j hj=> ?_,h1 _ (Ag hi)⟩
  have hj:=Bq.mp hj
  rw[D8,Cp] at h2
  rw[y8k (t:=Ty.int .i64) (show j<l.length by omega),Bj,Bu]
  exact h2 j i (by omega) hi hj
theorem p6m (b:u0h) (l:Hu Int) (hl:l.length≤1099511627776):u6b (b,l,0)=some (bif q0i l b.2.2.2.2 then .inl () else .inr false):=by
 have inner:∀i:Nat,i<l.length→u9m (b,l,(i:Int),0)=some (bif (List.range i).all (fun j=> !decide (rdL (Ty.int .i64) l j=rdL (Ty.int .i64) l i)) then .inl (b,l,(i:Int)) else .inr false):=by
  intro i hi
  exact u9e u9m i (fun j=>(b,l,(i:Int),j)) (fun j=> !decide (rdL (Ty.int .i64) l j=rdL (Ty.int .i64) l i)) (.inl (b,l,(i:Int))) (.inr false)
   (by rw[r27];simp only[t4n,u0b,Am,Ah,Aa])
   (fun j hj=>by
    rw[r27];simp only[t4n,u0b,hj,Ae,Ad,y7t hi,y7t (show j<l.length by omega),zTn,y7l (show j<4611686018427387904 by omega)]
    by_cases e:rdL (Ty.int .i64) l j=rdL (Ty.int .i64) l i
    ·rw[Bb e];rfl
    ·rw[A7 e];rfl)
 have L:=u9e u6b l.length (fun i=>(b,l,i)) (fun i=>((List.range i).all fun j=> !decide (rdL (Ty.int .i64) l j=rdL (Ty.int .i64) l i))&&decide (rdL (Ty.int .i64) l i<b.2.2.2.2)) (.inl ()) (.inr false)
  (by rw[r26];simp only[t4m,u0b,Am,Ah,Aa])
  (fun i hi=>by
   rw[r26];simp only[t4m,u0b,hi,Ae,Ad]
   rw[inner i hi]
   cases (List.range i).all fun j=> !decide (rdL (Ty.int .i64) l j=rdL (Ty.int .i64) l i)
   ·rfl
   ·simp only[Ad,zOb,y7t hi,zTn,y7l (show i<4611686018427387904 by omega),Bz]
    rw[q55]
    cases decide (rdL (Ty.int .i64) l i<b.2.2.2.2)<;>rfl)
 rw[o2b] at L
 exact L
theorem o0o (l:Hu u0g) {i:Nat} (h:i<l.length):u85 (l.take i)++ [(rdL u0i l i).1] =u85 (l.take (i+1)):=by
 rw[y8k h];unfold u85
 rw[Gm,A4 h,Dh];rfl
theorem t7z (b:u0h) (hw:p0w.wt b≤549755813888):u6w b=some (u6r b):=by
 have hb:u0e=1099511627776:=rfl
 have hbw:=s9r b
 have n1:=t3a (t:=u0c) b.1
 have n2:=t3a (t:=u0i) b.2.1
 have n3:=t3a (t:=u0i) b.2.2.1
 have L1:=u9e t1d b.1.length (fun i=>(b,i)) (fun i=>(fun v:u3a=>decide (v.2.2.2≤b.2.2.2.1)) (rdL u0c b.1 i)) (.inl b) (.inr false)
  (by rw[r65];simp only[t6k,u0b,Am,Ah,Aa])
  (fun i hi=>by
   rw[r65];simp only[t6k,u0b,hi,Ae,Ad,y7t hi,zTn,y7l (show i<4611686018427387904 by omega),r5q (rdL u0c b.1 i).2.2.2 b.2.2.2.1]
   cases decide ((rdL u0c b.1 i).2.2.2≤b.2.2.2.1)<;>rfl)
 rw[t63 (t:=u0c) b.1 (fun v:u3a=>decide (v.2.2.2≤b.2.2.2.1))] at L1
 have il:∀(l:Hu u0g) (i:Nat),i≤l.length→(u85 (l.take i)).length=i:=fun l i h=>by unfold u85;simp;omega
 have L2:=u9e u6a b.2.1.length (fun i=>(b,u85 (b.2.1.take i.toNat),i)) (fun i=>(fun t:u0g=>u5r t&&(decide (t.2.1=3)&&decide (t.2.2.2.1≤b.2.2.2.1))) (rdL u0i b.2.1 i)&&(decide (i=0) || (fun x y:u0g=>decide (x.2.2.2.1<y.2.2.2.1)) (rdL u0i b.2.1 (i - 1)) (rdL u0i b.2.1 i))) (.inl (b,u85 b.2.1)) (.inr false)
  (by rw[r24];simp only[t4k,u0b,Am,Ah,Aa,zTn,Cq])
  (fun i hi=>by
   have hm:rdL u0i b.2.1 i∈b.2.1:=by rw[y8k hi];exact Ag hi
   have ht:=r6u hm
   have hk:=s1y (rdL u0i b.2.1 i) (by omega)
   rw[r24];simp only[t4k,u0b,hi,Ae,Ad,y7t hi,zTn,y7l (show i<4611686018427387904 by omega),r5q (rdL u0i b.2.1 i).2.2.2.1 b.2.2.2.1,t82,zOb]
   rw[hk]
   have hc:Nat.ble ((u85 (b.2.1.take i)).length+ [(rdL u0i b.2.1 i).1].length) z7w=true:=u0m (by rw[il _ _ (by omega)];simp;omega)
   simp only[zOb]
   rw[hc,o0o _ hi]
   generalize u5r (rdL u0i b.2.1 i)=b1
   generalize decide ((rdL u0i b.2.1 i).2.1=3)=b2
   generalize decide ((rdL u0i b.2.1 i).2.2.2.1≤b.2.2.2.1)=b3
   by_cases h0:i=0
   ·subst h0;simp only[Ae,Ap,Aa,Dx,Cz]
    cases b1<;>cases b2<;>cases b3<;>rfl
   ·simp only[h0,Ah,Bh,Ad,Ci,t36 (show i<4611686018427387904 by omega) h0,y7t (show i - 1<b.2.1.length by omega),zTn,q55 (rdL u0i b.2.1 (i - 1)).2.2.2.1 (rdL u0i b.2.1 i).2.2.2.1]
    generalize decide ((rdL u0i b.2.1 (i - 1)).2.2.2.1<(rdL u0i b.2.1 i).2.2.2.1)=b4
    cases b1<;>cases b2<;>cases b3<;>cases b4<;>rfl)
 rw[s5s (t:=u0i) b.2.1 (fun t:u0g=>u5r t&&(decide (t.2.1=3)&&decide (t.2.2.2.1≤b.2.2.2.1))) (fun x y:u0g=>decide (x.2.2.2.1<y.2.2.2.1))] at L2
 have L3:=u9e u9l b.2.2.1.length (fun i=>(b,u85 b.2.1++u85 (b.2.2.1.take i.toNat),i)) (fun i=>(fun t:u0g=>u5r t&&(decide (t.2.1=2)&&decide (t.2.2.1≤b.2.2.2.1))) (rdL u0i b.2.2.1 i)&&(decide (i=0) || (fun x y:u0g=>y3c x.2.2.2.2.2.2.2 y.2.2.2.2.2.2.2) (rdL u0i b.2.2.1 (i - 1)) (rdL u0i b.2.2.1 i))) (.inl (b,u85 (b.2.1++b.2.2.1))) (.inr false)
  (by rw[r25];simp only[t4l,u0b,Am,Ah,Aa,zTn,Cq];unfold u85;rw[Dh])
  (fun i hi=>by
   have hm:rdL u0i b.2.2.1 i∈b.2.2.1:=by rw[y8k hi];exact Ag hi
   have ht:=r6u hm
   have hk:=s1y (rdL u0i b.2.2.1 i) (by omega)
   rw[r25];simp only[t4l,u0b,hi,Ae,Ad,y7t hi,zTn,y7l (show i<4611686018427387904 by omega),r5q (rdL u0i b.2.2.1 i).2.2.1 b.2.2.2.1,t82,zOb]
   rw[hk]
   have hz:(u85 b.2.1).length=b.2.1.length:=by unfold u85;simp
   have hc:Nat.ble ((u85 b.2.1++u85 (b.2.2.1.take i)).length+ [(rdL u0i b.2.2.1 i).1].length) z7w=true:=u0m (by rw[Ba,il _ _ (by omega),hz];simp;omega)
   simp only[zOb]
   rw[hc,Bi,o0o _ hi]
   generalize u5r (rdL u0i b.2.2.1 i)=b1
   generalize decide ((rdL u0i b.2.2.1 i).2.1=2)=b2
   generalize decide ((rdL u0i b.2.2.1 i).2.2.1≤b.2.2.2.1)=b3
   by_cases h0:i=0
   ·subst h0;simp only[Ae,Ap,Aa,Dx,Cz]
    cases b1<;>cases b2<;>cases b3<;>rfl
   ·simp only[h0,Ah,Bh,Ad,Ci,t36 (show i<4611686018427387904 by omega) h0,y7t (show i - 1<b.2.2.1.length by omega),zTn]
    generalize y3c (rdL u0i b.2.2.1 (i - 1)).2.2.2.2.2.2.2 (rdL u0i b.2.2.1 i).2.2.2.2.2.2.2=b4
    cases b1<;>cases b2<;>cases b3<;>cases b4<;>rfl)
 rw[s5s (t:=u0i) b.2.2.1 (fun t:u0g=>u5r t&&(decide (t.2.1=2)&&decide (t.2.2.1≤b.2.2.2.1))) (fun x y:u0g=>y3c x.2.2.2.2.2.2.2 y.2.2.2.2.2.2.2)] at L3
 have L2' :u6a (b, [],0)=_:=L2
 have e:u85 b.2.1++u85 (b.2.2.1.take (0:Int).toNat)=u85 b.2.1:=by simp[u85]
 rw[e] at L3
 have hI:=p6m b (u85 (b.2.1++b.2.2.1)) (by unfold u85;rw[Da,Ba];omega)
 have hV:=q7z b.1 (by omega)
 rw[p5i];unfold q1y
 rw[hV]
 simp only[s7j,j1f,gt3,zOb]
 unfold u6r o00 p6b
 generalize t0d b.1=c1
 generalize inB b.2.2.2.1 0 9999=c3
 generalize inB b.2.2.2.2 1 9999=c4
 generalize decide (b.2.1.length≤12)=c5
 generalize decide (b.2.2.1.length≤3)=c6
 generalize ha1:b.1.all (fun v:u3a=>decide (v.2.2.2≤b.2.2.2.1))=a1 at L1
 generalize ha2:b.2.1.all (fun t:u0g=>u5r t&&(decide (t.2.1=3)&&decide (t.2.2.2.1≤b.2.2.2.1)))=a2 at L2'
 generalize ha3:p0y u0i (fun x y:u0g=>decide (x.2.2.2.1<y.2.2.2.1)) b.2.1=a3 at L2'
 generalize ha4:b.2.2.1.all (fun t:u0g=>u5r t&&(decide (t.2.1=2)&&decide (t.2.2.1≤b.2.2.2.1)))=a4 at L3
 generalize ha5:p0y u0i (fun x y:u0g=>y3c x.2.2.2.2.2.2.2 y.2.2.2.2.2.2.2) b.2.2.1=a5 at L3
 generalize q0i (u85 (b.2.1++b.2.2.1)) b.2.2.2.2=a6 at hI
 have hR:((t1d (b,0)).bind fun r5=>match r5 with
  | .inl o6=>(u6a (o6, [],0)).bind fun r9=>match r9 with
   | .inl o10=>(u9l (o10.1,o10.2,0)).bind fun r13=>match r13 with
    | .inl o14=>(u6b (o14.1,o14.2,0)).bind fun r18=>match r18 with
     | .inl o19=>some true
     | .inr z20=>some z20
    | .inr z21=>some z21
   | .inr z22=>some z22
  | .inr z23=>some z23)=some (a1&&((a2&&a3)&&((a4&&a5)&&a6))):=by
  rw[L1]
  cases a1
  ·rfl
  ·simp only[Ad,zOb,Bz]
   rw[L2']
   cases (a2&&a3)
   ·rfl
   ·simp only[Ad,zOb,Bz]
    rw[L3]
    cases (a4&&a5)
    ·rfl
    ·simp only[Ad,zOb,Bz]
     rw[hI]
     cases a6<;>rfl
 cases c1<;>cases c3<;>cases c4<;>cases c5<;>cases c6<;>simp only[Ap,Bh,Ad,Aa,zOb,Fx,Fy,Bz,Cz]
 exact hR
theorem o3r (e:p0o):s9o.wt e=p0w.wt e.1+(Ty.sl u0i).wt e.2:=rfl
theorem p36 (e:p0o) (hw:s9o.wt e≤u0e):s2v e=some (p5x e):=by
 have hb:u0e=1099511627776:=rfl
 have hew:=o3r e
 have hbw:=s9r e.1
 have n1:=t3a (t:=u0i) e.2
 have n2:=t3a (t:=u0i) e.1.2.1
 have n3:=t3a (t:=u0i) e.1.2.2.1
 have L:=u9e t2f e.2.length (fun i=>(e,e.2,(e.2.length:Int),i)) (fun i=>(fun t:u0g=>u5r t&&(decide (t.2.1=1)&&decide (t.2.2.1≤e.1.2.2.2.1))) (rdL u0i e.2 i)&&(decide (i=0) || (fun x y:u0g=>decide (x.1<y.1)) (rdL u0i e.2 (i - 1)) (rdL u0i e.2 i))) (.inl ()) (.inr false)
  (by rw[s8s];simp only[t1p,u0b,Am,Ah,Aa])
  (fun i hi=>by
   have hm:rdL u0i e.2 i∈e.2:=by rw[y8k hi];exact Ag hi
   have ht:=r6u hm
   have hk:=s1x (rdL u0i e.2 i) (by omega)
   rw[s8s];simp only[t1p,u0b,hi,Ae,Ad,y7t hi,zTn,y7l (show i<4611686018427387904 by omega),r5q (rdL u0i e.2 i).2.2.1 e.1.2.2.2.1,t82,zOb]
   rw[hk]
   simp only[zOb]
   generalize u5r (rdL u0i e.2 i)=b1
   generalize decide ((rdL u0i e.2 i).2.1=1)=b2
   generalize decide ((rdL u0i e.2 i).2.2.1≤e.1.2.2.2.1)=b3
   by_cases h0:i=0
   ·subst h0;simp only[Ae,Ap,Aa,Dx,Cz]
    cases b1<;>cases b2<;>cases b3<;>rfl
   ·simp only[h0,Ah,Bh,Ad,Ci,t36 (show i<4611686018427387904 by omega) h0,y7t (show i - 1<e.2.length by omega),zTn,q55 (rdL u0i e.2 (i - 1)).1 (rdL u0i e.2 i).1]
    generalize decide ((rdL u0i e.2 (i - 1)).1<(rdL u0i e.2 i).1)=b4
    cases b1<;>cases b2<;>cases b3<;>cases b4<;>rfl)
 rw[s5s (t:=u0i) e.2 (fun t:u0g=>u5r t&&(decide (t.2.1=1)&&decide (t.2.2.1≤e.1.2.2.2.1))) (fun x y:u0g=>decide (x.1<y.1))] at L
 have hC:=p2t [e.1.2.1,e.1.2.2.1,e.2] (by simp only[List.flatten_cons,List.flatten_nil,Bw,Ba];omega) (by simp)
 have hf: [e.1.2.1,e.1.2.2.1,e.2].flatten=e.1.2.1++e.1.2.2.1++e.2:=by simp
 rw[hf] at hC
 have hI:=r9k (e.1.2.1++e.1.2.2.1++e.2) e.1.2.2.2.2 (by rw[Ba,Ba];omega)
 have hB:=u8k e.1 (by omega)
 rw[q8f];unfold r4j
 rw[hB]
 simp only[zOb,gt4]
 rw[hC]
 simp only[zOb]
 rw[hI]
 simp only[zOb]
 rw[L]
 unfold p5x o0v
 cases u6r e.1<;>cases decide (e.2.length≤4)<;>cases q0i (u85 (e.1.2.1++e.1.2.2.1++e.2)) e.1.2.2.2.2<;>try rfl
 all_goals
  cases e.2.all (fun t:u0g=>u5r t&&(decide (t.2.1=1)&&decide (t.2.2.1≤e.1.2.2.2.1)))<;>cases p0y u0i (fun x y:u0g=>decide (x.1<y.1)) e.2<;>rfl
theorem o5r {b:u0h} {o:Hu u0g} (hb:q0i (u85 (b.2.1++b.2.2.1)) b.2.2.2.2=true) (ho:p0y u0i (fun x y:u0g=>decide (x.1<y.1)) o=true):
 q0i (u85 (b.2.1++b.2.2.1++o)) b.2.2.2.2=o.all (fun t=>decide (t.1<b.2.2.2.2)&&((b.2.1.all fun x=> !decide (x.1=t.1))&&(b.2.2.1.all fun x=> !decide (x.1=t.1)))):=by
 rw[j2o (f:=fun t=>t.1)] at ho
 obtain⟨h1,h2⟩:=r5r.mp hb
 rw[Cd,r5r,Bg]
 simp only[Ai,Ar,Bg,Bj,Bu]
 unfold u85 at*
 constructor
 ·rintro⟨k1,k2⟩ t ht
  rw[Dh,Gp] at k2
  refine⟨k1 _ (Bx.mpr ⟨t,by simp[ht],rfl⟩),fun x hx=> ?_,fun x hx=> ?_⟩
  ·exact k2.2.2 _ (Bx.mpr ⟨x,by simp[hx],rfl⟩) _ (Bx.mpr ⟨t,ht,rfl⟩)
  ·exact k2.2.2 _ (Bx.mpr ⟨x,by simp[hx],rfl⟩) _ (Bx.mpr ⟨t,ht,rfl⟩)
 ·intro k
  constructor
  ·intro x hx
   obtain⟨t,ht,rfl⟩:=Bx.mp hx
   rcases Ay.mp ht with q | q
   ·exact h1 _ (Bx.mpr ⟨t,q,rfl⟩)
   ·exact(k t q).1
  ·rw[Dh,Gp]
   refine⟨h2,?_,?_⟩
   ·rw[D8,Dl]
    exact ho.imp fun {a b} q e=>by omega
   ·intro a ha c hc e
    obtain⟨x,hx,rfl⟩:=Bx.mp ha
    obtain⟨t,ht,rfl⟩:=Bx.mp hc
    rcases Ay.mp hx with q | q
    ·exact(k t ht).2.1 x q e
    ·exact(k t ht).2.2 x q e
theorem p37 (e:p0o) (hw:s9o.wt e≤549755813888):s3g e=some (p5x e):=by
 have hb:u0e=1099511627776:=rfl
 have hew:=o3r e
 have hbw:=s9r e.1
 have n1:=t3a (t:=u0i) e.2
 have n2:=t3a (t:=u0i) e.1.2.1
 have n3:=t3a (t:=u0i) e.1.2.2.1
 have I1:∀(j:Int) (t:u0g),u6q (e,j,t,0)=some (bif (e.1.2.1.all fun x=> !decide (x.1=t.1)) then .inl (e,j,t) else .inr false):=fun j t=>by
  have L:=u9e u6q e.1.2.1.length (fun i=>(e,j,t,i)) (fun i=>(fun x:u0g=> !decide (x.1=t.1)) (rdL u0i e.1.2.1 i)) (.inl (e,j,t)) (.inr false)
   (by rw[s5l];simp only[t0n,u0b,Am,Ah,Aa])
   (fun i hi=>by
    rw[s5l];simp only[t0n,u0b,hi,Ae,Ad,y7t hi,zTn,y7l (show i<4611686018427387904 by omega)]
    cases decide ((rdL u0i e.1.2.1 i).1=t.1)<;>rfl)
  rw[t63 (t:=u0i) e.1.2.1 (fun x:u0g=> !decide (x.1=t.1))] at L
  exact L
 have I2:∀(j:Int) (t:u0g),u44 (e,j,t,0)=some (bif (e.1.2.2.1.all fun x=> !decide (x.1=t.1)) then .inl (e,j) else .inr false):=fun j t=>by
  have L:=u9e u44 e.1.2.2.1.length (fun i=>(e,j,t,i)) (fun i=>(fun x:u0g=> !decide (x.1=t.1)) (rdL u0i e.1.2.2.1 i)) (.inl (e,j)) (.inr false)
   (by rw[s5m];simp only[t0o,u0b,Am,Ah,Aa])
   (fun i hi=>by
    rw[s5m];simp only[t0o,u0b,hi,Ae,Ad,y7t hi,zTn,y7l (show i<4611686018427387904 by omega)]
    cases decide ((rdL u0i e.1.2.2.1 i).1=t.1)<;>rfl)
  rw[t63 (t:=u0i) e.1.2.2.1 (fun x:u0g=> !decide (x.1=t.1))] at L
  exact L
 have L:=u9e u5w e.2.length (fun i=>(e,i)) (fun i=>(fun t:u0g=>(u5r t&&(decide (t.2.1=1)&&decide (t.2.2.1≤e.1.2.2.2.1)))&&(decide (t.1<e.1.2.2.2.2)&&((e.1.2.1.all fun x=> !decide (x.1=t.1))&&(e.1.2.2.1.all fun x=> !decide (x.1=t.1))))) (rdL u0i e.2 i)&&(decide (i=0) || (fun x y:u0g=>decide (x.1<y.1)) (rdL u0i e.2 (i - 1)) (rdL u0i e.2 i))) (.inl ()) (.inr false)
  (by rw[s83];simp only[t11,u0b,Am,Ah,Aa])
  (fun i hi=>by
   have hm:rdL u0i e.2 i∈e.2:=by rw[y8k hi];exact Ag hi
   have ht:=r6u hm
   have hk:=s1y (rdL u0i e.2 i) (by omega)
   have k1:=I1 (i:Int) (rdL u0i e.2 i)
   have k2:=I2 (i:Int) (rdL u0i e.2 i)
   rw[s83];simp only[t11,u0b,hi,Ae,Ad,y7t hi,zTn,y7l (show i<4611686018427387904 by omega),r5q (rdL u0i e.2 i).2.2.1 e.1.2.2.2.1,q55 (rdL u0i e.2 i).1 e.1.2.2.2.2,t82,zOb]
   rw[hk,k1]
   simp only[zOb]
   generalize u5r (rdL u0i e.2 i)=b1
   generalize decide ((rdL u0i e.2 i).2.1=1)=b2
   generalize decide ((rdL u0i e.2 i).2.2.1≤e.1.2.2.2.1)=b3
   generalize decide ((rdL u0i e.2 i).1<e.1.2.2.2.2)=b5
   generalize (e.1.2.1.all fun x=> !decide (x.1=(rdL u0i e.2 i).1))=b6
   generalize (e.1.2.2.1.all fun x=> !decide (x.1=(rdL u0i e.2 i).1))=b7 at k2 ⊢
   have tail:((bif b6 then Sum.inl (e,(i:Int),rdL u0i e.2 i) else Sum.inr false:(p0o×Int×u0g)⊕Bool) |>fun r5=>(match r5 with
    | .inl o6=>(u44 (o6.1,o6.2.1,o6.2.2,0)).bind fun r7=>match r7 with
     | .inl o8=>u5w (o8.1,IntKind.i64.wrap (o8.2+1))
     | .inr z9=>some (.inr z9)
    | .inr z10=>some (.inr z10)))=bif b6&&b7 then u5w (e,((i+1:Nat):Int)) else some (.inr false):=by
    cases b6
    ·rfl
    ·simp only[Ad]
     rw[k2]
     cases b7
     ·rfl
     ·simp only[Ad,zOb,y7l (show i<4611686018427387904 by omega)];rfl
   by_cases h0:i=0
   ·subst h0;simp only[Ae,Ap,Aa,Dx,Cz]
    cases b1<;>cases b2<;>cases b3<;>cases b5<;>try rfl
    exact tail
   ·simp only[h0,Ah,Bh,Ad,Ci,t36 (show i<4611686018427387904 by omega) h0,y7t (show i - 1<e.2.length by omega),zTn,q55 (rdL u0i e.2 (i - 1)).1 (rdL u0i e.2 i).1]
    generalize decide ((rdL u0i e.2 (i - 1)).1<(rdL u0i e.2 i).1)=b4
    cases b1<;>cases b2<;>cases b3<;>cases b5<;>cases b4<;>(first | rfl | (rw[Fy];rfl) | (rw[Cz];exact tail)))
 rw[s5s (t:=u0i) e.2 (fun t:u0g=>(u5r t&&(decide (t.2.1=1)&&decide (t.2.2.1≤e.1.2.2.2.1)))&&(decide (t.1<e.1.2.2.2.2)&&((e.1.2.1.all fun x=> !decide (x.1=t.1))&&(e.1.2.2.1.all fun x=> !decide (x.1=t.1))))) (fun x y:u0g=>decide (x.1<y.1)),o3j] at L
 have hB:=t7z e.1 (by omega)
 rw[q86];unfold r49
 rw[hB]
 simp only[zOb,gt4]
 rw[L]
 unfold p5x o0v
 cases h1:u6r e.1
 ·rfl
 ·have hbi:q0i (u85 (e.1.2.1++e.1.2.2.1)) e.1.2.2.2.2=true:=by
   have:=p25.mp h1
   exact r5r.mpr ⟨this.below,this.nodup⟩
  cases ha:p0y u0i (fun x y:u0g=>decide (x.1<y.1)) e.2
  ·cases decide (e.2.length≤4)<;>simp
  ·rw[o5r hbi ha]
   cases decide (e.2.length≤4)
   ·rfl
   ·simp only[Ap,Aa,zOb,Bz,Cz]
    cases (e.2.all fun t:u0g=>u5r t&&(decide (t.2.1=1)&&decide (t.2.2.1≤e.1.2.2.2.1)))
    ·rfl
    ·simp only[Bz]
     cases (e.2.all fun t:u0g=>decide (t.1<e.1.2.2.2.2)&&((e.1.2.1.all fun x=> !decide (x.1=t.1))&&(e.1.2.2.1.all fun x=> !decide (x.1=t.1))))<;>rfl
end
section
theorem q3y {E:Type} (a:Hu E) (n:Nat) (h:n≤a.length) (z:Hu E):(a.take n++z).take n=a.take n:=by
 rw[List.take_append_of_le_length (by rw[Ec];omega),List.take_take,Nat.min_self]
theorem u92 {E:Type} (p:E→Bool) (l:Hu E):(l.filter p).length≤l.length:=Cs _ _
theorem p9b (l:Hu u0g) (c:Int) (hl:l.length≤8388608):u1z (l,c)=some (l.filter fun x=> !decide (x.2.2.2.1≤c)):=by
 have hq:∀x∈l,u70 (x,c)=some (decide (x.2.2.2.1≤c)):=fun x _=>by rw[q8m];rfl
 have L:=Q.first (T:=u0i) (c:=Int) (W:=u1a) (q:=u70) (p:=fun x:u0g=>decide (x.2.2.2.1≤c)) (fun x=>u9c x) l c (by omega) hq
 rw[u9y];unfold u34
 simp only[t0f,u4h,L,zOb]
 by_cases hk:u1e (fun x:u0g=>decide (x.2.2.2.1≤c)) l<l.length
 ·obtain⟨a,e1,e2,e3⟩:=Q.delete (T:=u0i) (c:=Int) (W:=u04) (q:=u70) (p:=fun x:u0g=>decide (x.2.2.2.1≤c)) (fun x=>u79 x) l c (by omega) hq hk
  have hn:=u92 (fun x:u0g=> !decide (x.2.2.2.1≤c)) l
  obtain⟨n,hne⟩:∃n,n=(l.filter fun x:u0g=> !decide (x.2.2.2.1≤c)).length:=⟨_,rfl⟩
  rw[←hne] at e1 e3 hn
  have c1:decide (((u1e (fun x:u0g=>decide (x.2.2.2.1≤c)) l:Nat):Int)= -1)=false:=by simp
  have c2:decide ((0:Int)≤(n:Int))=true:=by simp
  have c3:decide ((n:Int)≤(a.length:Int))=true:=by simp;omega
  have c4:decide ((a.length:Int)≤(a.length:Int))=true:=by simp
  have hw:=y7l (i:=u1e (fun x:u0g=>decide (x.2.2.2.1≤c)) l) (by omega)
  simp only[Al hk,zOb,c1,Aa,hw,e1,c2,c3,c4,Dt,Ad,zTn,Ae,Bv]
  have c5:decide ((n:Int)≤((a.take n++List.replicate (a.length - n) u0i.zero++a.drop (n+(a.length - n))).length:Int))=true:=by simp;omega
  have c6:(a.take n++List.replicate (a.length - n) u0i.zero++a.drop (n+(a.length - n))).take (n - (0:Int).toNat)=l.filter fun x:u0g=> !decide (x.2.2.2.1≤c):=by
   rw[Bi,Ho,Nat.sub_zero,q3y a n (by omega),e3]
  simp only[c5,Dt,Ad,c6]
 ·have hall:(l.filter fun x:u0g=> !decide (x.2.2.2.1≤c))=l:=by
   rw[F9]
   intro x hx
   obtain⟨i,hi,rfl⟩:=B7 hx
   rw[t57 (p:=fun x:u0g=>decide (x.2.2.2.1≤c)) hi (by omega)]
   rfl
  simp only[Ao hk,zOb,Ae,Ad,hall]
end
section
def t7y (b:u0h) (o:Hu u0g):u0h:=(r6t b.1 (s8i b o),b.2.1.filter (fun x=> !decide (x.2.2.2.1≤s8i b o)),b.2.2)
theorem t04 (b:u0h) (o:Hu u0g) (hb:p2m b) (ho:o.length≤4194304):u2w (b,o)=some (t7y b o):=by
 have h1:=t70 b hb
 have h2:=p9g b o ho
 have h3:=p9b b.2.1 (s8i b o) (by have:=hb.2.1.1;omega)
 have h4:=p63 b.1 (s8i b o) (by have:=hb.1;omega)
 rw[p4x];unfold q1c t7y
 simp only[h1,h2,h3,h4,zOb]
theorem s9l (b:u0h) (o:Hu u0g) (hb:p2m b) (ho:o.length≤4194304):u88 (b,o)=some (t7y b o):=by
 have h1:=t71 b hb
 have h2:=p9h b o ho
 have h4:=p64 b.1 (s8i b o) (by have:=hb.1;omega)
 have hl:=hb.2.1.1
 have L:=t9n t60 b.2.1 (fun a i=>(b,(([], [], [],0,0):u0h),(b.1,a,b.2.2),s8i b o,i)) (fun x=> !decide (x.2.2.2.1≤s8i b o)) (fun x=>x) (fun a=> .inl (b,(([], [], [],0,0):u0h),(b.1,a,b.2.2),s8i b o)) (by omega)
  (fun a _=>by rw[r69];simp only[t6o,u0b,Am,Ah,Aa])
  (fun i hi a ha=>by
   have hc:=t9k b.2.1[i] (hb.2.1.2 _ (Ag hi))
   rw[r69]
   simp only[t6o,u0b,hi,Ae,Ad,y7t hi,zTn,y8k (t:=u0i) hi,hc,zOb,Aw,u0m (show a.length+1≤1099511627776 by omega)]
   rw[y7l (by omega)]
   by_cases h:b.2.1[i].2.2.2.1≤s8i b o
   ·have h' : ¬b.2.1[i].2.2.2.1 >s8i b o:=Hk.mpr h
    simp[h,h']
   ·have h' :b.2.1[i].2.2.2.1 >s8i b o:=Int.not_le.mp h
    simp[h,h'])
 rw[Er] at L
 rw[p5s];unfold q18 t7y
 simp only[h1,h2,zOb,L,h4]
end
section
theorem o1q (l:Hu u0g) (c:u0g) (hl:l.length≤8388608):u1c (l,c)=some (l.filter fun x=> !decide (x.1=c.1)):=by
 have hq:∀x∈l,u6f (x,c)=some (decide (x.1=c.1)):=fun x _=>by rw[q6w];rfl
 have L:=Q.first (T:=u0i) (c:=u0g) (W:=u07) (q:=u6f) (p:=fun x:u0g=>decide (x.1=c.1)) (fun x=>u8c x) l c (by omega) hq
 rw[u84];unfold u3t
 simp only[u91,u37,L,zOb]
 by_cases hk:u1e (fun x:u0g=>decide (x.1=c.1)) l<l.length
 ·obtain⟨a,e1,e2,e3⟩:=Q.delete (T:=u0i) (c:=u0g) (W:=u00) (q:=u6f) (p:=fun x:u0g=>decide (x.1=c.1)) (fun x=>u76 x) l c (by omega) hq hk
  have hn:=u92 (fun x:u0g=> !decide (x.1=c.1)) l
  obtain⟨n,hne⟩:∃n,n=(l.filter fun x:u0g=> !decide (x.1=c.1)).length:=⟨_,rfl⟩
  rw[←hne] at e1 e3 hn
  have c1:decide (((u1e (fun x:u0g=>decide (x.1=c.1)) l:Nat):Int)= -1)=false:=by simp
  have c2:decide ((0:Int)≤(n:Int))=true:=by simp
  have c3:decide ((n:Int)≤(a.length:Int))=true:=by simp;omega
  have c4:decide ((a.length:Int)≤(a.length:Int))=true:=by simp
  have hw:=y7l (i:=u1e (fun x:u0g=>decide (x.1=c.1)) l) (by omega)
  simp only[Al hk,zOb,c1,Aa,hw,e1,c2,c3,c4,Dt,Ad,zTn,Ae,Bv]
  have c5:decide ((n:Int)≤((a.take n++List.replicate (a.length - n) u0i.zero++a.drop (n+(a.length - n))).length:Int))=true:=by simp;omega
  have c6:(a.take n++List.replicate (a.length - n) u0i.zero++a.drop (n+(a.length - n))).take (n - (0:Int).toNat)=l.filter fun x:u0g=> !decide (x.1=c.1):=by
   rw[Bi,Ho,Nat.sub_zero,q3y a n (by omega),e3]
  simp only[c5,Dt,Ad,c6]
 ·have hall:(l.filter fun x:u0g=> !decide (x.1=c.1))=l:=by
   rw[F9]
   intro x hx
   obtain⟨i,hi,rfl⟩:=B7 hx
   rw[t57 (p:=fun x:u0g=>decide (x.1=c.1)) hi (by omega)]
   rfl
  simp only[Ao hk,zOb,Ae,Ad,hall]
def p5z (d x:u0g):u0g:=(x.1,x.2.1,x.2.2.1,x.2.2.2.1,x.2.2.2.2.1,x.2.2.2.2.2.1,(x.2.2.2.2.2.2.1 || ahead x d),x.2.2.2.2.2.2.2)
end
section
theorem o0g (t:u0g) (b0:u0h) (v:Hu u3a) (p R:Hu u0g) (c n:Int) (d:u0g) (hR:p6k R) (hd:p0p d):
 u59 (t,b0,(v,p,R,c,n),d,(),(R.length:Int),0)=some (.inl (t,b0,(v,p,R.map (p5z d),c,n),d)):=by
 have hl:=hR.1
 have L:=q72 u59 R.length (fun(a:Hu u0g) i=>(t,b0,((v,p,a,c,n):u0h),d,(),(R.length:Int),i)) (fun i=>(R.take i).map (p5z d)++R.drop i) (.inl (t,b0,((v,p,R.map (p5z d),c,n):u0h),d))
  (by
   rw[r2z]
   simp only[t4f,u0b,Am,Ah,Aa,Cq,F5,Bw])
  (fun i hi=>by
   have hm:((R.take i).map (p5z d)).length=i:=by simp;omega
   have hd1:R.drop i=R[i] ::R.drop (i+1):=Ce hi
   have hal:i<((R.take i).map (p5z d)++R.drop i).length:=by simp;omega
   have hg:((R.take i).map (p5z d)++R.drop i)[i] =R[i] :=by
    rw[Cv (by omega),List.getElem_drop]
    congr 1
    omega
   have hset:∀y:u0g,((R.take i).map (p5z d)++R.drop i).set i y=(R.take i).map (p5z d)++y::R.drop (i+1):=fun y=>by
    rw[List.set_append_right _ _ (by omega),hm,Dw,hd1,Hj]
   have hnx:(R.take (i+1)).map (p5z d)++R.drop (i+1)=(R.take i).map (p5z d)++p5z d R[i] ::R.drop (i+1):=by
    rw[B9 hi,Dh]
    simp
   have ha:=p2q R[i] d (p7w (hR.2 _ (Ag hi)).1) (p7w hd.2)
   rw[r2z]
   simp only[t4f,u0b,hi,Ae,Ad,y7t hal,zTn,y8k (t:=u0i) hal,hg,ha,zOb,hset]
   rw[y7l (by omega),hnx]
   unfold p5z
   cases h1:R[i].2.2.2.2.2.2.1 with
   | true=>simp
   | false=>simp)
 simpa using L
end
section
def q2h (b:u0h) (t:u0g):u0g:=(t.1,(3:Int),t.2.2.1,IntKind.i64.wrap (b.2.2.2.1+1),t.2.2.2.2.1,t.2.2.2.2.2.1,(t.2.2.2.2.2.2.1 || p54 t b.2.1),(⟨#[]⟩:Hs))
def u7h (b:u0h) (t:u0g):u0h:=
 (r7q b.1 t.2.2.2.2.2.1 (IntKind.i64.wrap (b.2.2.2.1+1)),b.2.1++ [q2h b t],(b.2.2.1.filter fun x=> !decide (x.1=t.1)).map (p5z (q2h b t)),IntKind.i64.wrap (b.2.2.2.1+1),y8h b.2.2.2.2 (IntKind.i64.wrap (t.1+1)))
theorem q5c (b:u0h) (t:u0g) (hb:p2m b) (ht:p0p t):u98 (b,t)=some (u7h b t):=by
 have h1:=t70 b hb
 have h2:=q7s t ht
 have h3:=r0p b.1 t.2.2.2.2.2.1 (IntKind.i64.wrap (b.2.2.2.1+1)) (by have:=hb.1;have:=ht.2;omega)
 have h4:=o1q b.2.2.1 t (by have:=hb.2.2.1;omega)
 have h5:=p2x t b.2.1 ht hb.2.1
 have hf:p6k (b.2.2.1.filter fun x=> !decide (x.1=t.1)):=⟨A9 (u92 _ _) hb.2.2.1,fun x hx=>hb.2.2.2 x (A6.mp hx).1⟩
 have hp:=hb.2.1.1
 have hc:∀d:u0g,Nat.ble (b.2.1.length+([d] :Hu u0g).length) z7w=true:=fun d=>u0m (by simp;omega)
 rw[p1b];unfold r77 u7h q2h
 simp only[h1,h2,h3,h4,h5,zOb]
 cases ho:t.2.2.2.2.2.2.1 with
 | true=>
  have hd:p0p ((t.1,(3:Int),t.2.2.1,IntKind.i64.wrap (b.2.2.2.1+1),t.2.2.2.2.1,t.2.2.2.2.2.1,true,(⟨#[]⟩:Hs)):u0g):=ht
  have L:=o0g t ([], [], [],0,0) (r7q b.1 t.2.2.2.2.2.1 (IntKind.i64.wrap (b.2.2.2.1+1))) b.2.1 (b.2.2.1.filter fun x=> !decide (x.1=t.1)) (IntKind.i64.wrap (b.2.2.2.1+1)) b.2.2.2.2 _ hf hd
  simp only[Ad,L,zOb,hc,Dx]
 | false=>
  have hd:p0p ((t.1,(3:Int),t.2.2.1,IntKind.i64.wrap (b.2.2.2.1+1),t.2.2.2.2.1,t.2.2.2.2.2.1,p54 t b.2.1,(⟨#[]⟩:Hs)):u0g):=ht
  have L:=o0g t ([], [], [],0,0) (r7q b.1 t.2.2.2.2.2.1 (IntKind.i64.wrap (b.2.2.2.1+1))) b.2.1 (b.2.2.1.filter fun x=> !decide (x.1=t.1)) (IntKind.i64.wrap (b.2.2.2.1+1)) b.2.2.2.2 _ hf hd
  simp only[Aa,Ad,h5,zOb,L,hc,Ci]
end
section
def r7h (b:u0h) (t:u0g):u0h:=
 ((u7h b t).1,(u7h b t).2.1,(u7h b t).2.2.1,(u7h b t).2.2.2.1,if t.1≥b.2.2.2.2 then IntKind.i64.wrap (t.1+1) else b.2.2.2.2)
theorem p62 (b:u0h) (t:u0g) (b0:u0h) (v:Hu u3a) (p:Hu u0g) (c n:Int) (d:u0g) (hb:p2m b) (hd:p0p d):
 u5y (b,t,b0,(v,p, [],c,n),d,0)=some (.inl (t,b0,(v,p,(b.2.2.1.filter fun x=> !decide (x.1=t.1)).map (p5z d),c,n))):=by
 have hl:=hb.2.2.1
 exact t9n u5y b.2.2.1 (fun a i=>(b,t,b0,((v,p,a,c,n):u0h),d,i)) (fun x=> !decide (x.1=t.1)) (p5z d) (fun a=> .inl (t,b0,((v,p,a,c,n):u0h))) (by omega)
  (fun a _=>by rw[s89];simp only[t17,u0b,Am,Ah,Aa])
  (fun i hi a ha=>by
   have h1:=t9k b.2.2.1[i] (hb.2.2.2 _ (Ag hi))
   have h2:=p2r b.2.2.1[i] d (p7w (hb.2.2.2 _ (Ag hi)).1) (p7w hd.2)
   rw[s89]
   simp only[t17,u0b,hi,Ae,Ad,y7t hi,zTn,y8k (t:=u0i) hi,h1,h2,zOb,Aw,u0m (show a.length+1≤1099511627776 by omega)]
   rw[y7l (by omega)]
   cases decide (b.2.2.1[i].1=t.1) with
   | true=>rfl
   | false=>
    simp only[Aa,Bh,Ad]
    unfold p5z
    cases ahead b.2.2.1[i] d with
    | true=>simp
    | false=>simp)
end
section
theorem q5d (b:u0h) (t:u0g) (hb:p2m b) (ht:p0p t):t0b (b,t)=some (r7h b t):=by
 have h1:=t71 b hb
 have h2:=t9k t ht
 have h3:=r0q b.1 t.2.2.2.2.2.1 (IntKind.i64.wrap (b.2.2.2.1+1)) (by have:=hb.1;have:=ht.2;omega)
 have h5:=p2y t b.2.1 ht hb.2.1
 have hp:=hb.2.1.1
 have hc:∀d:u0g,Nat.ble (b.2.1.length+([d] :Hu u0g).length) z7w=true:=fun d=>u0m (by simp;omega)
 rw[p17];unfold r80 r7h u7h q2h
 simp only[h1,h2,h3,h5,zOb]
 cases ho:t.2.2.2.2.2.2.1 with
 | true=>
  have hd:p0p ((t.1,(3:Int),t.2.2.1,IntKind.i64.wrap (b.2.2.2.1+1),t.2.2.2.2.1,t.2.2.2.2.2.1,true,(⟨#[]⟩:Hs)):u0g):=ht
  have L:=fun p=>p62 b t ([], [], [],0,0) (r7q b.1 t.2.2.2.2.2.1 (IntKind.i64.wrap (b.2.2.2.1+1))) p (IntKind.i64.wrap (b.2.2.2.1+1)) b.2.2.2.2 _ hb hd
  simp only[Ad,L,zOb,hc,Dx]
  by_cases h:t.1≥b.2.2.2.2<;>simp[h]
 | false=>
  have hd:p0p ((t.1,(3:Int),t.2.2.1,IntKind.i64.wrap (b.2.2.2.1+1),t.2.2.2.2.1,t.2.2.2.2.2.1,p54 t b.2.1,(⟨#[]⟩:Hs)):u0g):=ht
  have L:=fun p=>p62 b t ([], [], [],0,0) (r7q b.1 t.2.2.2.2.2.1 (IntKind.i64.wrap (b.2.2.2.1+1))) p (IntKind.i64.wrap (b.2.2.2.1+1)) b.2.2.2.2 _ hb hd
  simp only[Aa,Ad,h5,zOb,L,hc,Ci]
  by_cases h:t.1≥b.2.2.2.2<;>simp[h]
end
section
def smallB (b:u0h):Prop:=b.1.length≤1048576∧(b.2.1.length≤1048576∧ ∀t∈b.2.1,p0p t)∧b.2.2.1.length≤1048576∧ ∀t∈b.2.2.1,p0p t
theorem smallB.few {b:u0h} (h:smallB b):p2m b:=⟨by have:=h.1;omega,⟨by have:=h.2.1.1;omega,h.2.1.2⟩,⟨by have:=h.2.2.1;omega,h.2.2.2⟩⟩
theorem q6e {b:u0h} {t:u0g} (h:smallB b) (ht:p0p t):p2m (u7h b t):=by
 have hd:p0p (q2h b t):=ht
 refine⟨?_,⟨?_,fun x hx=> ?_⟩,⟨?_,fun x hx=> ?_⟩⟩
 ·have e:(u7h b t).1.length=b.1.length+t.2.2.2.2.2.1.length:=s8k _ _ _
  have:=h.1;have:=ht.2
  omega
 ·have e:(u7h b t).2.1.length=b.2.1.length+1:=by simp[u7h]
  have:=h.2.1.1
  omega
 ·have hx:x∈b.2.1++ [q2h b t] :=hx
  rcases Ay.mp hx with q | q
  ·exact h.2.1.2 x q
  ·simp only[Ax] at q
   subst q;exact hd
 ·have e:(u7h b t).2.2.1.length≤b.2.2.1.length:=by
   simp only[u7h,Da]
   exact u92 _ _
  have:=h.2.2.1
  omega
 ·have hx:x∈(b.2.2.1.filter fun x=> !decide (x.1=t.1)).map (p5z (q2h b t)):=hx
  obtain⟨y,hy,rfl⟩:=Bx.mp hx
  exact h.2.2.2 y (A6.mp hy).1
theorem p8p {b:u0h} {t:u0g} (h:smallB b) (ht:p0p t):p2m (r7h b t):=q6e h ht
end
section
def p9s (b:u0h):Bool:=decide ((b.2.1.length:Int)≥12) || (decide ((b.1.length:Int) >100) || decide (b.2.2.2.1≥9999))
theorem o3z (b:u0h):s6g b=some (p9s b):=by
 rw[p2l];unfold r9f p9s
 cases decide ((b.2.1.length:Int)≥12)<;>cases decide ((b.1.length:Int) >100)<;>rfl
theorem o3y (b:u0h):q0m b=some (p9s b):=by
 rw[p9p];unfold q74 p9s
 cases decide ((b.2.1.length:Int)≥12)<;>cases decide ((b.1.length:Int) >100)<;>rfl
theorem p3k (b:u0h) {n:Hs} {i:Nat} (hi:i<b.2.2.1.length) (hn:b.2.2.1[i].2.2.2.2.2.2.2=n):∃k:Nat,k<b.2.2.1.length∧u1g b n=(k:Int):=by
 have h:u1e (fun x:u0g=>z7o x.2.2.2.2.2.2.2 n) b.2.2.1<b.2.2.1.length:=by
  rcases B8 (u1e (fun x:u0g=>z7o x.2.2.2.2.2.2.2 n) b.2.2.1) b.2.2.1.length with q | q
  ·exact q
  ·have:=t57 (p:=fun x:u0g=>z7o x.2.2.2.2.2.2.2 n) hi (by omega)
   rw[y7f.mpr hn] at this
   cases this
 exact⟨_,h,Al h⟩
end
section
def t9z (n i:Int):Int:=if i<n then n else i+1
def o1y (b:u0h) (t:u0g):u0g:=(t.1,(3:Int),t.2.2.1,b.2.2.2.1+1,t.2.2.2.2.1,t.2.2.2.2.2.1,(t.2.2.2.2.2.2.1 || p54 t b.2.1),(⟨#[]⟩:Hs))
def u7i (b:u0h) (t:u0g):u0h:=
 (r7q b.1 t.2.2.2.2.2.1 (b.2.2.2.1+1),b.2.1++ [o1y b t],(b.2.2.1.filter fun x=> !decide (x.1=t.1)).map (p5z (o1y b t)),b.2.2.2.1+1,t9z b.2.2.2.2 t.1)
def o03 (b:u0h) (t:u0g) (n:Hs):u0g:=(t.1,(2:Int),t.2.2.1,t.2.2.2.1,t.2.2.2.2.1,t.2.2.2.2.2.1,(t.2.2.2.2.2.2.1 || p54 t b.2.1),n)
def s8g (b:u0h) (t:u0g) (n:Hs):u0h:=
 (b.1,b.2.1,(b.2.2.1.filter fun x=>y3c x.2.2.2.2.2.2.2 n)++ [o03 b t n] ++(b.2.2.1.filter fun x=> !y3c x.2.2.2.2.2.2.2 n),b.2.2.2.1,t9z b.2.2.2.2 t.1)
def s9u (b:u0h) (n:Hs):u0h:=(b.1,b.2.1,(b.2.2.1.filter fun x=> !z7o x.2.2.2.2.2.2.2 n),b.2.2.2.1,b.2.2.2.2)
def o50 (n:Int):Prop:= -1000000≤n∧n≤1000000
theorem s5q {n:Int} (h:o50 n):IntKind.i64.wrap (n+1)=n+1:=by
 obtain⟨h1,h2⟩:=h
 rw[y4y (by omega) (by omega)]
theorem p0a {b:u0h} {t:u0g} (hc:o50 b.2.2.2.1) (hi:o50 t.1):u7h b t=u7i b t:=by
 have e:q2h b t=o1y b t:=by unfold q2h o1y;rw[s5q hc]
 unfold u7h u7i
 rw[e,s5q hc,s5q hi]
 unfold y8h t9z
 congr 4
 by_cases h:t.1<b.2.2.2.2
 ·rw[Al h,Ao (by omega)]
 ·rw[Ao h,Al (by omega)]
theorem p98 {b:u0h} {t:u0g} (hc:o50 b.2.2.2.1) (hi:o50 t.1):r7h b t=u7i b t:=by
 unfold r7h
 rw[p0a hc hi,s5q hi]
 unfold u7i t9z
 congr 4
 by_cases h:t.1<b.2.2.2.2
 ·rw[Al h,Ao (by omega)]
 ·rw[Ao h,Al (by omega)]
def uq (l:Hu u0g):Prop:=l.Pairwise fun a b=>a.1≠b.1
end
section
def j5d (e:p0o) (id:Int):Hu u0g:=e.2.filter fun x=> !decide (x.1=id)
def j52 (e:p0o) (t:u0g):p0o:=(t7y (u7i e.1 t) e.2,e.2)
def noE (e:p0o) (n:Hs):p0o:=(t7y (s9u e.1 n) e.2,e.2)
end
section
def q3c (n:Nat):Hu Int:=if h:n<128 then[(n:Int)] else((n % 128+128:Nat):Int)::q3c (n / 128)
termination_by n
decreasing_by omega
theorem r6v {n:Nat} (h:n<128):q3c n= [(n:Int)] :=by rw[q3c,dif_pos h]
theorem q4q {n:Nat} (h: ¬n<128):q3c n=((n % 128+128:Nat):Int)::q3c (n / 128):=by rw[q3c,dif_neg h]
theorem o1a (n:Nat):(q3c n).length≤n+1:=by
 induction n using Nat.strongRecOn with
 | _ n ih=>
  by_cases h:n<128
  ·rw[r6v h];simp
  ·rw[q4q h]
   have:=ih (n / 128) (by omega)
   simp only[Bc];omega
theorem o1c {S:Type} {W:Int×Hu Int→Ht ((Int×Hu Int)⊕S)}
 (hW:∀x,W x=(bif (decide (x.1 >(127:Int))) then(bif (Nat.ble (x.2.length+([(IntKind.u8.wrap (IntKind.i64.wrap ((Int.tmod x.1 (128:Int))+(128:Int))))] :Hu Int).length) z7w) then
  (W ((IntKind.i64.wrap (Int.tdiv x.1 (128:Int))),(x.2++([(IntKind.u8.wrap (IntKind.i64.wrap ((Int.tmod x.1 (128:Int))+(128:Int))))] :Hu Int)))) else none) else(some (.inl x)))):
 ∀(n:Nat) (acc:Hu Int),acc.length+n≤1000000000000→ ∃m:Nat,∃acc' :Hu Int,W ((n:Int),acc)=some (.inl ((m:Int),acc'))∧m<128∧acc' ++ [(m:Int)] =acc++q3c n∧acc'.length≤acc.length+n:=by
 intro n
 induction n using Nat.strongRecOn with
 | _ n ih=>
  intro acc hn
  rw[hW]
  by_cases h:n<128
  ·have:decide ((n:Int) >(127:Int))=false:=by simp;omega
   simp only[this,Aa]
   exact⟨n,acc,rfl,h,by rw[r6v h],by omega⟩
  ·have h1:decide ((n:Int) >(127:Int))=true:=by simp;omega
   have h2:Int.tmod (n:Int) (128:Int)=((n % 128:Nat):Int):=o8h n 128
   have h3:Int.tdiv (n:Int) (128:Int)=((n / 128:Nat):Int):=j2t n 128
   have h4:IntKind.u8.wrap (IntKind.i64.wrap (((n % 128:Nat):Int)+(128:Int)))=((n % 128+128:Nat):Int):=by
    rw[y4y (by omega) (by omega)]
    have:((n % 128:Nat):Int)+128=((n % 128+128:Nat):Int):=by simp
    rw[this,o6n (by omega)]
   simp only[h1,h2,h3,h4,Ad,Aw,u0m (show acc.length+1≤1099511627776 by omega)]
   rw[y8b (by omega)]
   obtain⟨m,acc',e1,e2,e3,e4⟩:=ih (n / 128) (by omega) (acc++ [((n % 128+128:Nat):Int)]) (by simp;omega)
   refine⟨m,acc',e1,e2,?_,?_⟩
   ·rw[e3,q4q h,Bi];rfl
   ·have:(acc++ [((n % 128+128:Nat):Int)]).length=acc.length+1:=by simp
    omega
theorem p71 (n:Nat) (hn:n≤100000000000):u1r (n:Int)=some (y7g (q3c n)):=by
 rw[p5u];unfold q2a
 obtain⟨m,acc',e1,e2,e3,e4⟩:=o1c (W:=t62) (fun x=>p0l x) n [] (by simp;omega)
 have e4:acc'.length≤n:=by simpa using e4
 simp only[e1,zOb,Aw,u0m (show acc'.length+1≤1099511627776 by omega),Ad]
 rw[o6n (by omega),e3];rfl
theorem r4d (n:Int):t0a n=some (if 0≤n∧n≤1000000000 then(y7g (q3c n.toNat),true) else(emp,false)):=by
 rw[p1f];unfold r8b
 simp only[t98,s5u,zOb]
 by_cases h:0≤n∧n≤1000000000
 ·obtain⟨m,rfl⟩:∃m:Nat,n=m:=⟨n.toNat,by omega⟩
  obtain⟨k,acc',e1,e2,e3,e4⟩:=o1c (W:=t49) (fun x=>q7j x) m [] (by simp;omega)
  have e4:acc'.length≤m:=by simpa using e4
  rw[Bb h,Al h]
  simp only[e1,zOb,Ap,Aa,Aw,u0m (show acc'.length+1≤1099511627776 by omega),Ad]
  rw[o6n (by omega),e3];rfl
 ·rw[A7 h,Ao h];rfl
def q0p:Nat→Nat→Nat→Hu UInt8→Ht (Nat×Nat)
 | 0,_,_,_=>none
 | _+1,_,_, [] =>none
 | f+1,i,n,b::l=>
  if b.toNat<128 then(if n+b.toNat % 128*128^i≤1000000000∧(q3c (n+b.toNat % 128*128^i)).length=i+1 then some (n+b.toNat % 128*128^i,i+1) else none)
  else q0p f (i+1) (n+b.toNat % 128*128^i) l
def p0b (at_:Int) (r:Ht (Nat×Nat)):Int×Int×Bool:=match r with
 | some (n,k)=>((n:Int),at_+(k:Int),true)
 | none=>(0,0,false)
def u0r (t:Hs) (at_:Int):Int×Int×Bool:=if 0≤at_∧at_≤t.size then p0b at_ (q0p 5 0 0 (t.data.toList.drop at_.toNat)) else(0,0,false)
theorem o1b:∀(f i n:Nat) (l:Hu UInt8) (v k:Nat),q0p f i n l=some (v,k)→v≤1000000000∧k≤i+l.length∧i<k
 | 0,_,_,_,_,_,h=>by cases h
 | _+1,_,_, [],_,_,h=>by cases h
 | f+1,i,n,b::l,v,k,h=>by
  simp only[q0p] at h
  split at h
  ·split at h
   ·rename_i h2
    simp only[Ac,Ak] at h
    obtain⟨rfl,rfl⟩:=h
    exact⟨h2.1,by simp,by omega⟩
   ·cases h
  ·have:=o1b f (i+1) _ l v k h
   simp only[Bc]
   omega
theorem s8n {t:Hs} {at_:Int} (h:(u0r t at_).2.2=true):0≤(u0r t at_).1∧(u0r t at_).1≤1000000000∧0≤at_∧at_<(u0r t at_).2.1∧(u0r t at_).2.1≤t.size:=by
 unfold u0r at h ⊢
 split at h
 ·rename_i hc
  rw[Al hc]
  cases hv:q0p 5 0 0 (t.data.toList.drop at_.toNat) with
  | none=>rw[hv] at h;cases h
  | some r=>
   obtain⟨v,k⟩:=r
   have:=o1b 5 0 0 _ v k hv
   have hl:(t.data.toList.drop at_.toNat).length=t.size - at_.toNat:=by simp
   simp only[p0b]
   omega
 ·cases h
theorem o98 (i:Nat) (h:i<5):(2:Int)^(min (IntKind.i64.wrap (7*(i:Int))).toNat IntKind.i64.bits)=((128^i:Nat):Int):=by
 rcases i with _ | _ | _ | _ | _ | i
 all_goals first | rfl | omega
theorem o67 (i:Nat) (h:i≤5):128^i≤34359738368:=by
 rcases i with _ | _ | _ | _ | _ | _ | i
 all_goals first | decide | omega
theorem q48 (t:Hs) (at_:Int) (ht:t.size≤u0e):t85 (t,at_)=some (u0r t at_):=by
 unfold u0e at ht
 rw[p07];unfold r73 u0r
 simp only[t98,s5u,zOb]
 by_cases h:0≤at_∧at_≤t.size
 ·obtain⟨p,rfl⟩:∃p:Nat,at_=p:=⟨at_.toNat,by omega⟩
  have hp:p≤t.size:=by omega
  rw[Bb h,Al h]
  have L:∀(f i n:Nat),i+f=5→n<128^i→p+i≤t.size→((t44 (t,(p:Int),(n:Int),(i:Int))).bind fun r=>match r with
   | .inl o=>some ((0:Int),(0:Int),false)
   | .inr z=>some z)=some (p0b p (q0p f i n (t.data.toList.drop (p+i)))):=by
   intro f
   induction f with
   | zero=>
    intro i n hi hn hpi
    have:i=5:=by omega
    subst this
    rw[r2x];simp only[t4d]
    rfl
   | succ f ih=>
    intro i n hi hn hpi
    have hi5:i<5:=by omega
    have hpw:=o67 i (by omega)
    rw[r2x];simp only[t4d]
    have w1:IntKind.i64.wrap ((p:Int)+(i:Int))=((p+i:Nat):Int):=by rw[y4y (by omega) (by omega)];simp
    have e1:decide ((i:Int)<(5:Int))=true:=by simp;omega
    by_cases hlt:p+i<t.size
    ·have hd:t.data.toList.drop (p+i)=(t.data.toList[p+i]'(by simpa using hlt))::t.data.toList.drop (p+i+1):=Ce (by simpa using hlt)
     have hb:(t.data.toList[p+i]'(by simpa using hlt)).toNat<256:=Fw _
     rw[hd]
     generalize hc:(t.data.toList[p+i]'(by simpa using hlt))=c at hb
     have e2:decide (((p+i:Nat):Int)<(t.size:Int))=true:=by simp;omega
     have e3:decide (0≤IntKind.i64.wrap (7*(i:Int)))=true:=by rw[y4y (by omega) (by omega)];simp;omega
     have t2:Int.tmod ((c.toNat:Nat):Int) (128:Int)=((c.toNat % 128:Nat):Int):=o8h _ 128
     have hm:c.toNat % 128*128^i≤127*34359738368:=Ei (by omega) hpw
     have w2:IntKind.i64.wrap (((c.toNat % 128:Nat):Int)*((128^i:Nat):Int))=((c.toNat % 128*128^i:Nat):Int):=by
      rw[←Int.natCast_mul];exact y8b (by omega)
     have w3:IntKind.i64.wrap ((n:Int)+((c.toNat % 128*128^i:Nat):Int))=((n+c.toNat % 128*128^i:Nat):Int):=by
      rw[←Int.natCast_add];exact y8b (by omega)
     simp only[e1,Ad,zOb,w1,e2,y7t hlt,e3,zTn,o0l hlt,hc,y8b (show c.toNat≤4611686018427387904 by omega),t2,o98 i hi5,w2,w3,q0p]
     by_cases hc1:c.toNat<128
     ·have e4:decide (((c.toNat:Nat):Int)<(128:Int))=true:=by simp;omega
      simp only[e4,Ad,Al hc1,r4d,zOb]
      have wi:IntKind.i64.wrap ((i:Int)+1)=((i+1:Nat):Int):=y7l (by omega)
      by_cases hv:n+c.toNat % 128*128^i≤1000000000
      ·rw[Al (show(0:Int)≤((n+c.toNat % 128*128^i:Nat):Int)∧((n+c.toNat % 128*128^i:Nat):Int)≤1000000000 by omega)]
       simp only[Ap,Aa,zTn,u73,wi,zOb]
       by_cases hl:(q3c (n+c.toNat % 128*128^i)).length=i+1
       ·rw[Al ⟨hv,hl⟩,hl]
        simp only[Ae,Ap,Aa,zOb,p0b]
        rw[y4y (by omega) (by omega)]
        simp[Int.add_assoc]
       ·rw[Ao (fun hh=>hl hh.2)]
        rw[A7 (show ¬(((q3c (n+c.toNat % 128*128^i)).length:Nat):Int)=((i+1:Nat):Int) by omega)]
        rfl
      ·rw[Ao (show ¬((0:Int)≤((n+c.toNat % 128*128^i:Nat):Int)∧((n+c.toNat % 128*128^i:Nat):Int)≤1000000000) by omega),Ao (fun hh=>hv hh.1)]
       rfl
     ·have e4:decide (((c.toNat:Nat):Int)<(128:Int))=false:=by simp;omega
      simp only[e4,Aa,Ao hc1]
      rw[y7l (by omega)]
      have:=ih (i+1) (n+c.toNat % 128*128^i) (by omega) (by
       have:128^(i+1)=128^i*128:=Gr 128 i
       have h2:c.toNat % 128*128^i≤127*128^i:=Ei (by omega) (Au _)
       omega) (by omega)
      exact this
    ·have e2:decide (((p+i:Nat):Int)<(t.size:Int))=false:=by simp;omega
     have hd:t.data.toList.drop (p+i)= [] :=Dp (by simp;omega)
     rw[hd]
     simp only[e1,Ad,w1,e2,zOb,Aa,q0p]
     rfl
  exact L 5 0 0 rfl (by decide) (by omega)
 ·rw[A7 h,Ao h];rfl
def p3w:Hu UInt8→Nat
 | [] =>0
 | b::l=>b.toNat % 128+128*p3w l
theorem o40 (l:Hu UInt8) (b:UInt8):p3w (l++ [b])=p3w l+b.toNat % 128*128^l.length:=by
 induction l with
 | nil=>simp[p3w]
 | cons x l ih=>
  simp only[Ef,p3w,ih,Bc,Gr]
  rw[Nat.mul_add]
  have:128*(b.toNat % 128*128^l.length)=b.toNat % 128*(128^l.length*128):=by
   rw[Fk 128,Nat.mul_assoc]
  omega
theorem o8o (l:Hu UInt8) (b:UInt8) (hl:∀x∈l,¬x.toNat<128) (hb:b.toNat<128) (h:(q3c (p3w (l++ [b]))).length=l.length+1):q3c (p3w (l++ [b]))=(l++ [b]).map fun x=>(x.toNat:Int):=by
 induction l with
 | nil=>
  have:p3w ([] ++ [b])=b.toNat:=by simp[p3w];omega
  rw[this,r6v hb];rfl
 | cons x l ih=>
  have hx:x.toNat<256:=Fw x
  have hx2:=hl x (by simp)
  simp only[Ef,p3w] at h ⊢
  by_cases hs:x.toNat % 128+128*p3w (l++ [b])<128
  ·rw[r6v hs] at h
   simp at h
  ·rw[q4q hs] at h ⊢
   have e1:(x.toNat % 128+128*p3w (l++ [b])) / 128=p3w (l++ [b]):=by omega
   have e2:(x.toNat % 128+128*p3w (l++ [b])) % 128+128=x.toNat:=by omega
   rw[e1] at h ⊢
   rw[e2]
   simp only[Bc,Nat.add_right_cancel_iff] at h
   rw[ih (fun y hy=>hl y (by simp[hy])) h]
   rfl
theorem o6d (l:Hu UInt8):y7g (l.map fun x=>(x.toNat:Int))=⟨l.toArray⟩:=by
 unfold y7g
 simp only[List.map_map]
 have:(l.map ((fun n=>UInt8.ofNat n.toNat) ∘fun b=>(b.toNat:Int)))=l:=by
  conv=>rhs;rw[←List.map_id l]
  apply Ff
  intro b _
  simp
 rw[this]
theorem q54 (t:Hs) (a b:Nat) (h:b≤t.size):t.extract a b=⟨((t.data.toList.drop a).take (b - a)).toArray⟩:=by
 apply Gf
 simp only[ByteArray.data_extract]
 apply Fj
 simp[F7]
theorem o91 {q:Nat} (h:q≤1000000000):decide ((q:Int) >(1000000000:Int))=false:=by simp;omega
theorem o9y {q:Nat} (h: ¬q≤1000000000):decide ((q:Int) >(1000000000:Int))=true:=by simp;omega
theorem q49 (t:Hs) (at_:Int) (ht:t.size≤u0e):t9g (t,at_)=some (u0r t at_):=by
 unfold u0e at ht
 rw[p13];unfold r8w u0r
 simp only[s9v,s5u,zOb]
 by_cases h:0≤at_∧at_≤t.size
 ·obtain⟨p,rfl⟩:∃p:Nat,at_=p:=⟨at_.toNat,by omega⟩
  have hp:p≤t.size:=by omega
  rw[Bb h,Al h]
  have L:∀(f i:Nat),i+f=5→p+i≤t.size→(∀x∈(t.data.toList.drop p).take i,¬x.toNat<128)→p3w ((t.data.toList.drop p).take i)<128^i→
   ((t5b (t,(p:Int),((p3w ((t.data.toList.drop p).take i):Nat):Int),((128^i:Nat):Int),((p+i:Nat):Int))).bind fun r=>match r with
   | .inl o=>some ((0:Int),(0:Int),false)
   | .inr z=>some z)=some (p0b p (q0p f i (p3w ((t.data.toList.drop p).take i)) (t.data.toList.drop (p+i)))):=by
   intro f
   induction f with
   | zero=>
    intro i hi hpi hall hn
    have:i=5:=by omega
    subst this
    rw[r3d];simp only[t4t]
    have e1:decide (((p+5:Nat):Int)<IntKind.i64.wrap ((p:Int)+5))=false:=by rw[y4y (by omega) (by omega)];simp
    rw[e1]
    cases decide (((p+5:Nat):Int)<(t.size:Int))<;>rfl
   | succ f ih=>
    intro i hi hpi hall hn
    have hi5:i<5:=by omega
    have hpw:=o67 i (by omega)
    rw[r3d];simp only[t4t]
    have e1:decide (((p+i:Nat):Int)<IntKind.i64.wrap ((p:Int)+5))=true:=by rw[y4y (by omega) (by omega)];simp;omega
    by_cases hlt:p+i<t.size
    ·have hd:t.data.toList.drop (p+i)=(t.data.toList[p+i]'(by simpa using hlt))::t.data.toList.drop (p+i+1):=Ce (by simpa using hlt)
     have hb:(t.data.toList[p+i]'(by simpa using hlt)).toNat<256:=Fw _
     have htk:(t.data.toList.drop p).take (i+1)=(t.data.toList.drop p).take i++ [t.data.toList[p+i]'(by simpa using hlt)] :=by
      rw[B9 (by simp;omega)]
      simp
     have htl:((t.data.toList.drop p).take i).length=i:=by simp;omega
     have hvs:=o40 ((t.data.toList.drop p).take i) (t.data.toList[p+i]'(by simpa using hlt))
     rw[htl] at hvs
     rw[hd]
     generalize hc:(t.data.toList[p+i]'(by simpa using hlt))=c at hb htk hvs
     generalize hn' :p3w ((t.data.toList.drop p).take i)=n at hn hvs ⊢
     have e2:decide (((p+i:Nat):Int)<(t.size:Int))=true:=by simp;omega
     have t2:Int.tmod ((c.toNat:Nat):Int) (128:Int)=((c.toNat % 128:Nat):Int):=o8h _ 128
     have hm:c.toNat % 128*128^i≤127*34359738368:=Ei (by omega) hpw
     have w2:IntKind.i64.wrap (((c.toNat % 128:Nat):Int)*((128^i:Nat):Int))=((c.toNat % 128*128^i:Nat):Int):=by
      rw[←Int.natCast_mul];exact y8b (by omega)
     have w3:IntKind.i64.wrap ((n:Int)+((c.toNat % 128*128^i:Nat):Int))=((n+c.toNat % 128*128^i:Nat):Int):=by
      rw[←Int.natCast_add];exact y8b (by omega)
     have wp:IntKind.i64.wrap (((p+i:Nat):Int)+1)=((p+i+1:Nat):Int):=y7l (by omega)
     have ws:IntKind.i64.wrap (((128^i:Nat):Int)*128)=((128^(i+1):Nat):Int):=by
      rw[Gr,Int.natCast_mul]
      exact y4y (by omega) (by omega)
     simp only[e1,e2,Ad,zOb,y7t hlt,zTn,o0l hlt,hc,y8b (show c.toNat≤4611686018427387904 by omega),t2,w2,w3,wp,ws,q0p]
     by_cases hc1:c.toNat<128
     ·have e4:decide (((c.toNat:Nat):Int)<(128:Int))=true:=by simp;omega
      simp only[e4,Ad,Al hc1]
      by_cases hv:n+c.toNat % 128*128^i≤1000000000
      ·have e5:decide (((n+c.toNat % 128*128^i:Nat):Int) >(1000000000:Int))=false:=o91 hv
       have e6:(decide (0≤(p:Int))&&decide ((p:Int)≤((p+i+1:Nat):Int))&&decide (((p+i+1:Nat):Int)≤(t.size:Int)))=true:=by simp;omega
       simp only[e5,Aa,p71 _ (show n+c.toNat % 128*128^i≤100000000000 by omega),zOb,e6,Ad]
       have hx:t.extract p (p+i+1)=⟨((t.data.toList.drop p).take (i+1)).toArray⟩:=by
        rw[q54 t p (p+i+1) (by omega)]
        have:p+i+1 - p=i+1:=by omega
        rw[this]
       rw[hx]
       have hv' :n+c.toNat % 128*128^i=p3w ((t.data.toList.drop p).take i++ [c]):=hvs.symm
       by_cases hl:(q3c (n+c.toNat % 128*128^i)).length=i+1
       ·rw[Al ⟨hv,hl⟩]
        have key:q3c (n+c.toNat % 128*128^i)=((t.data.toList.drop p).take (i+1)).map fun x=>(x.toNat:Int):=by
         rw[hv',htk]
         exact o8o _ c hall hc1 (by rw[←hv',hl,htl])
        rw[key,o6d,y6l]
        simp only[Ap,Aa,zOb,p0b]
        simp[Int.add_assoc]
       ·rw[Ao (fun hh=>hl hh.2)]
        have hne:z7o (y7g (q3c (n+c.toNat % 128*128^i))) ⟨((t.data.toList.drop p).take (i+1)).toArray⟩=false:=by
         rw[←Ey,y7f]
         intro hh
         have:=Dj ByteArray.size hh
         rw[u73] at this
         apply hl
         rw[this]
         show((t.data.toList.drop p).take (i+1)).toArray.size=_
         simp;omega
        rw[hne];rfl
      ·have e5:decide (((n+c.toNat % 128*128^i:Nat):Int) >(1000000000:Int))=true:=o9y hv
       rw[Ao (fun hh=>hv hh.1),e5];rfl
     ·have e4:decide (((c.toNat:Nat):Int)<(128:Int))=false:=by simp;omega
      simp only[e4,Aa,Ao hc1]
      have:=ih (i+1) (by omega) (by omega) (by
       rw[htk]
       intro x hx
       rcases Ay.mp hx with hx | hx
       ·exact hall x hx
       ·simp at hx;rw[hx];exact hc1) (by
       rw[htk,hvs]
       have:128^(i+1)=128^i*128:=Gr 128 i
       have h2:c.toNat % 128*128^i≤127*128^i:=Ei (by omega) (Au _)
       omega)
      rw[htk,hvs] at this
      exact this
    ·have e2:decide (((p+i:Nat):Int)<(t.size:Int))=false:=by simp;omega
     have hd:t.data.toList.drop (p+i)= [] :=Dp (by simp;omega)
     rw[hd]
     simp only[e2,zOb,Aa,q0p]
     rfl
  exact L 5 0 rfl (by omega) (by simp) (by simp[p3w])
 ·rw[A7 h,Ao h];rfl
end
section
def u0v (t:Hs) (at_:Int):Hs×Int×Bool:=
 if(u0r t at_).2.2=true∧(u0r t at_).1≤20000∧(u0r t at_).1≤(t.size:Int) - (u0r t at_).2.1 then
  (t.extract (u0r t at_).2.1.toNat ((u0r t at_).2.1+(u0r t at_).1).toNat,(u0r t at_).2.1+(u0r t at_).1,true)
 else(emp,0,false)
theorem p8j {t:Hs} {at_:Int} (h:(u0v t at_).2.2=true):0≤(u0v t at_).2.1∧(u0v t at_).2.1≤t.size:=by
 unfold u0v at h ⊢
 split at h
 ·rename_i hc
  rw[Al hc]
  have:=s8n hc.1
  simp only
  omega
 ·cases h
theorem p3r (t:Hs) (at_:Int) (ht:t.size≤u0e):
 (((bif (!(u0r t at_).2.2) then(some true) else(bif (decide ((u0r t at_).1 >(20000:Int))) then(some true) else(some (decide ((u0r t at_).1 >(IntKind.i64.wrap ((t.size:Int) - (u0r t at_).2.1))))))):Ht Bool).bind fun j2=>
  (bif j2 then(some ((⟨#[]⟩:Hs),((0:Int),false))) else(bif (decide (0≤(u0r t at_).2.1)&&decide ((u0r t at_).2.1≤(IntKind.i64.wrap ((u0r t at_).2.1+(u0r t at_).1)))&&decide ((IntKind.i64.wrap ((u0r t at_).2.1+(u0r t at_).1))≤(t.size:Int))) then
   (some ((t.extract ((u0r t at_).2.1).toNat ((IntKind.i64.wrap ((u0r t at_).2.1+(u0r t at_).1))).toNat),((IntKind.i64.wrap ((u0r t at_).2.1+(u0r t at_).1)),true))) else none)))=some (u0v t at_):=by
 unfold u0e at ht
 unfold u0v
 cases ho:(u0r t at_).2.2 with
 | false=>rfl
 | true=>
  have hk:=s8n ho
  rw[y4y (n:=(t.size:Int) - (u0r t at_).2.1) (by omega) (by omega),y4y (n:=(u0r t at_).2.1+(u0r t at_).1) (by omega) (by omega)]
  by_cases h1:(u0r t at_).1 >20000
  ·rw[Ao (by omega),Bb h1];rfl
  ·rw[A7 h1]
   by_cases h2:(u0r t at_).1 >(t.size:Int) - (u0r t at_).2.1
   ·rw[Ao (by omega),Bb h2];rfl
   ·rw[Al ⟨rfl,by omega,by omega⟩,A7 h2]
    simp only[Ap,Aa,zOb]
    rw[Bb (show 0≤(u0r t at_).2.1 by omega),Bb (show(u0r t at_).2.1≤(u0r t at_).2.1+(u0r t at_).1 by omega),Bb (show(u0r t at_).2.1+(u0r t at_).1≤(t.size:Int) by omega)]
    rfl
theorem r7u (t:Hs) (at_:Int) (ht:t.size≤u0e):t5u (t,at_)=some (u0v t at_):=by
 rw[q7d];unfold r1h
 simp only[q49 t at_ ht,zOb]
 exact p3r t at_ ht
theorem r7t (t:Hs) (at_:Int) (ht:t.size≤u0e):t5j (t,at_)=some (u0v t at_):=by
 rw[q6s];unfold r0y
 simp only[q48 t at_ ht,zOb]
 exact p3r t at_ ht
def o3m (t:Hs):Int:=((t.data.toList.getD 0 0).toNat:Int)
theorem o5m (t:Hs):0≤o3m t∧o3m t<256:=by
 unfold o3m
 have:(t.data.toList.getD 0 0).toNat<256:=Fw _
 omega
def q9m (d:u02) (s:Int):Int:=o3m (u3x d s).1
theorem p3j {d:u02} {s:Int} (h:(u3x d s).2=false):(u3x d s).1=emp:=by
 unfold u3x at h ⊢
 split at h
 ·cases h
 ·rename_i hc;rw[Ao hc]
theorem p28 (r:Hs×Bool) (h:r.2=false→r.1=emp):
 (((bif (!r.2) then(some true) else(some (z7o r.1 (⟨#[]⟩:Hs)))):Ht Bool).bind fun j2=>(bif j2 then(some (0:Int)) else(bif (y4q (0:Int) r.1.size) then(some (IntKind.i64.wrap ((r.1.data.toList.getD ((0:Int)).toNat 0).toNat:Int))) else none)))=some (o3m r.1):=by
 obtain⟨t,o⟩:=r
 cases o with
 | false=>
  have:t=emp:=h rfl
  subst this;rfl
 | true=>
  simp only[Ap,Aa,zOb]
  by_cases he:t=emp
  ·subst he
   have:z7o emp (⟨#[]⟩:Hs)=true:=y6l emp
   simp only[this,Ad];rfl
  ·have h1:z7o t (⟨#[]⟩:Hs)=false:=by
    rw[←Ey,y7f];exact he
   have h2:t.size≠0:=by
    intro hz
    apply he
    apply Gf
    apply Fi
    exact hz
   have h3:y4q (0:Int) t.size=true:=by simp[y4q];omega
   have hb:(t.data.toList.getD 0 0).toNat<256:=Fw _
   simp only[h1,Aa,h3,Ad,Ho]
   rw[y8b (by omega)];rfl
theorem r9j (d:u02) (s:Int) (hd:p4i.wt d≤u0e):t5m (d,s)=some (q9m d s):=by
 rw[q6z];unfold r04
 simp only[r3y d s hd,zOb]
 exact p28 _ (fun h=>p3j h)
theorem q57 (d:u02) (s:Int) (hd:p4i.wt d≤u0e):t9i (d,s)=some (q9m d s):=by
 rw[p2d];unfold r87
 simp only[r3z d s hd,zOb]
 exact p28 _ (fun h=>p3j h)
def s9q (d:u02):Int:=Int.tmod (q9m d 0) 2
theorem p32 (d:u02) (hd:p4i.wt d≤u0e):s2s d=some (s9q d):=by
 rw[q8c];unfold r4g
 simp only[r9j d 0 hd,zOb];rfl
theorem p33 (d:u02) (hd:p4i.wt d≤u0e):s3e d=some (s9q d):=by
 rw[q84];unfold r47
 simp only[q57 d 0 hd,zOb];rfl
def p8w (a:Int):Bool:=decide (a=0) || decide (a=1)
def u1v (a:Int):Int:=if p8w a then 1+a*48 else 0
theorem o5u {a:Int} :p8w a=true↔a=0∨a=1:=by simp[p8w]
theorem q5z (a:Int):0≤u1v a∧u1v a≤49:=by
 unfold u1v
 split
 ·rename_i h;have:=o5u.mp h;omega
 ·omega
theorem q0j (a:Int):t7c a=some (p8w a):=by
 rw[p4z];unfold q1f p8w
 cases decide (a=0)<;>rfl
theorem q4n (a:Int):u03 (a,0,1)=some (p8w a):=by
 rw[s9v,s5u]
 congr 1
 rw[Cd,o5u,decide_eq_true_iff];omega
theorem r7r (a:Int):t5i a=some (u1v a):=by
 rw[q6n];unfold r0u u1v
 simp only[q0j,zOb]
 cases h:p8w a with
 | false=>rfl
 | true=>
  have:=o5u.mp h
  simp only[Ap,Aa,Bl]
  rw[y4y (n:=a*48) (by omega) (by omega),y4y (by omega) (by omega)]
theorem r7s (a:Int):t5t a=some (u1v a):=by
 rw[q69];unfold r1d u1v
 simp only[q4n,zOb]
 cases h:p8w a with
 | false=>rfl
 | true=>
  have:=o5u.mp h
  simp only[Ap,Aa,Bl]
  rw[y4y (n:=a*48) (by omega) (by omega),y4y (by omega) (by omega)]
def u81 (d:u02) (a:Int):Int:=if p8w a then q9m d (u1v a) else 0
theorem q3x (d:u02) (a:Int):0≤u81 d a∧u81 d a<256:=by
 unfold u81
 split
 ·exact o5m _
 ·omega
theorem q44 (d:u02) (a:Int) (hd:p4i.wt d≤u0e):s5v (d,a)=some (u81 d a):=by
 rw[p00];unfold r7w u81
 simp only[q0j,r7r,r9j d _ hd,zOb]
 cases p8w a<;>rfl
theorem q45 (d:u02) (a:Int) (hd:p4i.wt d≤u0e):s56 (d,a)=some (u81 d a):=by
 rw[p1w];unfold r8p u81
 simp only[q4n,r7s,q57 d _ hd,zOb]
 cases p8w a<;>rfl
def s7c (t:Hs):Nat→Int→Hu Hs→Hu Hs×Int×Bool
 | 0,at_,acc=>(acc,at_,true)
 | m+1,at_,acc=>if(u0v t at_).2.2&& !z7o (u0v t at_).1 emp then s7c t m (u0v t at_).2.1 (acc++ [(u0v t at_).1]) else([],0,false)
def u4f (d:u02) (a:Int):Hu Hs×Int×Bool:=
 if p8w a&&(t7n d (u1v a+1) 47).2 then s7c (t7n d (u1v a+1) 47).1 (u81 d a).toNat 0 [] else([],0,false)
theorem p3q (d:u02) (from_:Int):∀(m i:Nat) (acc:Hs),(q94 d from_ m i acc).1.size≤acc.size+m*p4i.wt d
 | 0,i,acc=>by simp[q94]
 | m+1,i,acc=>by
  unfold q94
  split
  ·have h1:=p3q d from_ m (i+1) (acc++(u3x d (from_+(i:Int))).1)
   have h2:=r6o d (from_+(i:Int))
   rw[Af] at h1
   have:(m+1)*p4i.wt d=m*p4i.wt d+p4i.wt d:=C7 _ _
   omega
  ·show 0≤_;omega
theorem q6d (d:u02) (from_ n:Int):(t7n d from_ n).1.size≤100*p4i.wt d:=by
 unfold t7n
 split
 ·have h:=p3q d from_ n.toNat 0 emp
  have h2:emp.size=0:=rfl
  have h3:n.toNat*p4i.wt d≤100*p4i.wt d:=Ei (by omega) (Au _)
  omega
 ·show 0≤_;omega
theorem q0x (d:u02) (a:Int) (hd:p4i.wt d≤1073741824):t1g (d,a)=some (u4f d a):=by
 have hb:p4i.wt d≤u0e:=by unfold u0e;omega
 have hf:=q5z a
 have hz:(t7n d (u1v a+1) 47).1.size≤u0e:=by have:=q6d d (u1v a+1) 47;unfold u0e;omega
 have hc:=q3x d a
 rw[q8j];unfold r4n u4f
 simp only[r7r,zOb]
 rw[y4y (n:=u1v a+1) (by omega) (by omega)]
 simp only[q7w d (u1v a+1) 47 hd (by omega) (by omega),q0j,zOb]
 generalize t7n d (u1v a+1) 47=s at hz
 cases hs:s.2 with
 | false=>cases p8w a<;>rfl
 | true=>
  cases ha:p8w a with
  | false=>rfl
  | true=>
   have L:=s1i (fun x=>(t2h x).bind fun r=>match r with
    | .inl o=>some (o.1,o.2,true)
    | .inr z=>some z) (u81 d a).toNat (fun(p:Hu Hs×Int) i=>(a,d,s.1,p.1,p.2,i)) (fun i p=>s7c s.1 ((u81 d a).toNat - i) p.2 p.1) (fun i p=>p.1.length≤i)
    (fun p _=>by
     rw[s8v];simp only[t1s,q44 d a hb,zOb]
     rw[A7 (by omega)]
     simp only[Aa,zOb,Dw,s7c])
    (fun i p hi hp=>by
     have e:(u81 d a).toNat - i=((u81 d a).toNat - (i+1))+1:=by omega
     rw[s8v];simp only[t1s,q44 d a hb,zOb]
     rw[Bb (by omega),e]
     simp only[Ad,r7t s.1 p.2 hz,zOb,s7c,o64]
     cases hr:(u0v s.1 p.2).2.2 with
     | false=>left;rfl
     | true=>
      cases hq:z7o (u0v s.1 p.2).1 emp with
      | true=>left;rfl
      | false=>
       right
       refine⟨(p.1++ [(u0v s.1 p.2).1],(u0v s.1 p.2).2.1),by simp;omega,by simp,?_⟩
       simp only[Ap,Aa,zOb,Aw,u0m (show p.1.length+1≤1099511627776 by omega),Ad]
       rw[y7l (by omega)]) 0 ([],0) (by omega) (by simp)
   simp only[Ap,Aa,zOb,Dt,Bl]
   exact L
theorem q0y (d:u02) (a:Int) (hd:p4i.wt d≤1073741824):t1j (d,a)=some (u4f d a):=by
 have hb:p4i.wt d≤u0e:=by unfold u0e;omega
 have hf:=q5z a
 have hz:(t7n d (u1v a+1) 47).1.size≤u0e:=by have:=q6d d (u1v a+1) 47;unfold u0e;omega
 have hc:=q3x d a
 rw[q9a];unfold r5d u4f
 simp only[q4n,r7s,zOb]
 rw[y4y (n:=u1v a+1) (by omega) (by omega)]
 simp only[q7x d (u1v a+1) 47 hd (by omega) (by omega),zOb]
 generalize t7n d (u1v a+1) 47=s at hz
 cases hs:s.2 with
 | false=>cases p8w a<;>rfl
 | true=>
  cases ha:p8w a with
  | false=>rfl
  | true=>
   have L:=s1i (fun x=>(t0w x).bind fun r=>match r with
    | .inl o=>some (o.1,o.2,true)
    | .inr z=>some z) (u81 d a).toNat (fun(p:Hu Hs×Int) i=>(a,d, [],s.1,p.1,p.2,i)) (fun i p=>s7c s.1 ((u81 d a).toNat - i) p.2 p.1) (fun i p=>p.1.length≤i)
    (fun p _=>by
     rw[s5p];simp only[t0r,q45 d a hb,zOb]
     rw[A7 (by omega)]
     simp only[Aa,zOb,Dw,s7c])
    (fun i p hi hp=>by
     have e:(u81 d a).toNat - i=((u81 d a).toNat - (i+1))+1:=by omega
     rw[s5p];simp only[t0r,q45 d a hb,zOb]
     rw[Bb (by omega),e]
     simp only[Ad,r7u s.1 p.2 hz,zOb,s7c,o64]
     cases hr:(u0v s.1 p.2).2.2 with
     | false=>left;rfl
     | true=>
      cases hq:z7o (u0v s.1 p.2).1 emp with
      | true=>left;rfl
      | false=>
       right
       refine⟨(p.1++ [(u0v s.1 p.2).1],(u0v s.1 p.2).2.1),by simp;omega,by simp,?_⟩
       simp only[Ap,Aa,zOb,Aw,u0m (show p.1.length+1≤1099511627776 by omega),Ad]
       rw[y7l (by omega)]) 0 ([],0) (by omega) (by simp)
   simp only[Ap,Aa,zOb,Dt,Bl]
   exact L
def u0f (d:u02):Hu Hs:=(u4f d (s9q d)).1
theorem p38 (d:u02) (hd:p4i.wt d≤1073741824):s2w d=some (u0f d):=by
 rw[q8h];unfold r4l
 simp only[p32 d (show p4i.wt d≤u0e by unfold u0e;omega),q0x d _ hd,zOb];rfl
theorem p24 (t:Hs):∀(m:Nat) (at_:Int) (acc:Hu Hs),(s7c t m at_ acc).1.length≤acc.length+m
 | 0,at_,acc=>by simp[s7c]
 | m+1,at_,acc=>by
  unfold s7c
  split
  ·have:=p24 t m (u0v t at_).2.1 (acc++ [(u0v t at_).1])
   simp at this;omega
  ·simp
theorem p8g (d:u02) (a:Int):(u4f d a).1.length<256:=by
 unfold u4f
 split
 ·have h:=p24 (t7n d (u1v a+1) 47).1 (u81 d a).toNat 0 []
  have:=q3x d a
  simp at h;omega
 ·simp
end
section
def r1l (d:u02):Bool:=decide (1≤d.1.length∧d.1.length≤100)&&decide (d.2.length≤60)&&d.1.all (fun s=>decide (s.size=64))&&d.2.all (fun p=>p6l p.1 0 ((d.1.length:Int) - 1)&&decide (p.2.size=64))
theorem p4j {α:Type} (l:Hu α) (p:α→Bool):l.any (fun x=> !p x)= !l.all p:=by
 induction l with
 | nil=>rfl
 | cons x l ih=>simp only[Gd,Gc,ih,Bool.not_and]
theorem p9d (d:u02) (hd:p4i.wt d≤u0e):r0i d=some (r1l d):=by
 have h1:d.1.length≤u0e:=A9 s7e hd
 have h2:d.2.length≤u0e:=A9 s7d hd
 unfold u0e at h1 h2
 have L1:=r4e t6x d.1 (fun i=>(d,i)) (fun s=> !decide (s.size=64)) (.inr false) (.inl d)
  (by rw[r66];simp only[t6l,u0b,Am,Ah,Aa])
  (fun i hi=>by
   rw[r66];simp only[t6l,u0b,hi,Ae,Ad,y7t hi,zTn,y8k (t:=Ty.str) hi]
   rw[y7l (by omega)]
   have:decide (((d.1[i]).size:Int)=(64:Int))=decide ((d.1[i]).size=64):=by simp only[Cu];omega
   rw[this])
 have L2:=r4e t6y d.2 (fun i=>(d,i)) (fun p=> !(p6l p.1 0 ((d.1.length:Int) - 1)&&decide (p.2.size=64))) (.inr false) (.inl ())
  (by rw[r67];simp only[t6m,u0b,Am,Ah,Aa])
  (fun i hi=>by
   rw[r67];simp only[t6m,u0b,hi,Ae,Ad,y7t hi,zTn,y8k (t:=s9p) hi,s9v,zOb]
   rw[y7l (by omega),y4y (n:=(d.1.length:Int) - 1) (by omega) (by omega)]
   have:decide (((d.2[i]).2.size:Int)=(64:Int))=decide ((d.2[i]).2.size=64):=by simp only[Cu];omega
   rw[this]
   cases p6l (d.2[i]).1 0 ((d.1.length:Int) - 1)<;>rfl)
 rw[p5l];unfold q11 r1l
 simp only[s9v,s5u (a:=(d.1.length:Int)),L1,zOb]
 have e1:decide ((1:Int)≤(d.1.length:Int)∧(d.1.length:Int)≤100)=decide (1≤d.1.length∧d.1.length≤100):=by simp only[Cu];omega
 have e2:decide ((d.2.length:Int) >60)= !decide (d.2.length≤60):=by
  rw[←decide_not,Cu];omega
 rw[e1,e2,p4j]
 cases decide (1≤d.1.length∧d.1.length≤100) with
 | false=>rfl
 | true=>
  cases decide (d.2.length≤60) with
  | false=>rfl
  | true=>
   cases d.1.all (fun s=>decide (s.size=64)) with
   | false=>rfl
   | true=>
    simp only[Ap,Aa,zOb,L2,p4j]
    cases d.2.all _<;>rfl
theorem p9c (d:u02) (hd:p4i.wt d≤u0e):s9z d=some (r1l d):=by
 have h1:d.1.length≤u0e:=A9 s7e hd
 have h2:d.2.length≤u0e:=A9 s7d hd
 unfold u0e at h1 h2
 have L1:=r4e t6q d.1 (fun i=>(d,d.1,(d.1.length:Int),i)) (fun s=> !decide (s.size=64)) (.inr false) (.inl d)
  (by rw[r6z];simp only[t6e,u0b,Am,Ah,Aa])
  (fun i hi=>by
   rw[r6z];simp only[t6e,u0b,hi,Ae,Ad,y7t hi,zTn,y8k (t:=Ty.str) hi]
   rw[y7l (by omega)]
   have:decide (((d.1[i]).size:Int)=(64:Int))=decide ((d.1[i]).size=64):=by simp only[Cu];omega
   rw[this])
 have L2:=r4e t6r d.2 (fun i=>(d,d.2,(d.2.length:Int),i)) (fun p=> !(p6l p.1 0 ((d.1.length:Int) - 1)&&decide (p.2.size=64))) (.inr false) (.inl d)
  (by rw[r60];simp only[t6f,u0b,Am,Ah,Aa])
  (fun i hi=>by
   rw[r60];simp only[t6f,u0b,hi,Ae,Ad,y7t hi,zTn,y8k (t:=s9p) hi,t98,zOb]
   rw[y7l (by omega),y4y (n:=(d.1.length:Int) - 1) (by omega) (by omega)]
   have:decide (((d.2[i]).2.size:Int)=(64:Int))=decide ((d.2[i]).2.size=64):=by simp only[Cu];omega
   rw[this]
   cases p6l (d.2[i]).1 0 ((d.1.length:Int) - 1)<;>rfl)
 rw[p4q];unfold q05 r1l
 simp only[L1,zOb]
 have e1:decide ((1:Int)≤(d.1.length:Int)∧(d.1.length:Int)≤100)=decide (1≤d.1.length∧d.1.length≤100):=by simp only[Cu];omega
 have e2:decide ((d.2.length:Int)≤60)=decide (d.2.length≤60):=by rw[Cu];omega
 rw[p4j]
 cases d.1.all (fun s=>decide (s.size=64)) with
 | false=>simp
 | true=>
  simp only[Ap,Aa,zOb,L2,p4j]
  cases d.2.all (fun p=>p6l p.1 0 ((d.1.length:Int) - 1)&&decide (p.2.size=64)) with
  | false=>simp
  | true=>
   simp only[Ap,Aa,zOb,t98,s5u (a:=(d.1.length:Int)),e1,e2]
   cases decide (1≤d.1.length∧d.1.length≤100)<;>cases decide (d.2.length≤60)<;>rfl
def q2y (d:u02):Bool:=r1l d&&decide (d.1.length=97)&&decide (d.2.length=0)&&(u4f d 0).2.2&&(u4f d 1).2.2
theorem p2w (d:u02) (hd:p4i.wt d≤1073741824):s47 d=some (q2y d):=by
 have hb:p4i.wt d≤u0e:=by unfold u0e;omega
 rw[p7q];unfold q5s q2y
 have hs:t8h ()=some 97:=by rw[q4l];rfl
 simp only[p9d d hb,hs,q0y d _ hd,zOb]
 have e1:decide ((d.1.length:Int)=97)=decide (d.1.length=97):=by rw[Cu];omega
 have e2:decide ((d.2.length:Int) >0)= !decide (d.2.length=0):=by rw[←decide_not,Cu];omega
 rw[e1,e2]
 cases r1l d<;>cases decide (d.1.length=97)<;>cases decide (d.2.length=0)<;>cases (u4f d 0).2.2<;>cases (u4f d 1).2.2<;>rfl
theorem p2v (d:u02) (hd:p4i.wt d≤1073741824):s4x d=some (q2y d):=by
 have hb:p4i.wt d≤u0e:=by unfold u0e;omega
 rw[p7d];unfold q5g q2y
 simp only[p9c d hb,q0x d _ hd,zOb]
 have e1:decide ((d.1.length:Int)=97)=decide (d.1.length=97):=by rw[Cu];omega
 have e2:decide ((d.2.length:Int)=0)=decide (d.2.length=0):=by rw[Cu];omega
 rw[e1,e2]
 cases r1l d<;>cases decide (d.1.length=97)<;>cases decide (d.2.length=0)<;>cases (u4f d 0).2.2<;>cases (u4f d 1).2.2<;>rfl
end
section
theorem o1n (d:u02) (hd:p4i.wt d≤u0e):s6c d=some d:=by
 have h1:d.1.length≤u0e:=A9 s7e hd
 have h2:d.2.length≤u0e:=A9 s7d hd
 unfold u0e at h1 h2
 rw[p2c];unfold r86
 have a1:Nat.ble (([] :Hu Hs).length+d.1.length) z7w=true:=u0m (by simp;omega)
 have a2:Nat.ble (([] :Hu q7m.den).length+d.2.length) z7w=true:=u0m (by simp;omega)
 simp only[a1,a2,Ad,Cf]
theorem o1m (d:u02) (hd:p4i.wt d≤u0e):s21 d=some d:=by
 have h1:d.1.length≤u0e:=A9 s7e hd
 have h2:d.2.length≤u0e:=A9 s7d hd
 unfold u0e at h1 h2
 rw[q8q];unfold r4t
 simp only[u0m h1,u0m h2,Ad]
def o6o (d:u02) (k:Int) (t:Hs):Ht u02:=if r1l (d.1,d.2++ [(k,t)]) then some (d.1,d.2++ [(k,t)]) else none
def orD (d:u02):Ht u02→u02×Bool
 | some x=>(x,true)
 | none=>(d,false)
def j5f:Nat→u02→Nat→Nat→Hs→Ht u02
 | 0,d,_,_,_=>some d
 | f+1,d,k,at_,t=>if t.size=0 then some d else
  if(u3x d (k:Int)).2=true∧(u3x d (k:Int)).1.size=64 then
   (o6o d (k:Int) ((u3x d (k:Int)).1.extract 0 at_++t.extract 0 (min t.size (64 - at_))++(u3x d (k:Int)).1.extract (at_+min t.size (64 - at_)) 64)).bind fun x=>
    j5f f x (k+1) 0 (t.extract (min t.size (64 - at_)) t.size)
  else none
def q4y (d:u02) (sector at_:Int) (t:Hs):Ht u02:=
 if p6l at_ 0 6400&&p6l sector 0 ((d.1.length:Int) - 1)&&r1l d then j5f (t.size+1) d (sector.toNat+at_.toNat / 64) (at_.toNat % 64) t else none
end
section
def o4n (s:Hu Hs) (p:Int×Hs):Hu Hs:=s.set p.1.toNat p.2
def o18 (d:u02):u02:=if r1l d then(d.2.foldl o4n d.1, []) else d
def j49 (keep:Hu Int) (i:Nat):Bool:=decide (i<keep.length)&& !decide (Int.tmod (rdL (Ty.int .i64) keep i) 2=0)
def o0q (keep:Hu Int):Nat→Int
 | 0=> -1
 | n+1=>if j49 keep n then(n:Int) else o0q keep n
def j0b (tear:Int):Nat:=(if Int.tmod tear 65<0 then Int.tmod tear 65+65 else Int.tmod tear 65).toNat
def o3q (d:u02) (keep:Hu Int) (last:Int) (n:Nat) (s:Hu Hs) (i:Nat):Hu Hs:=
 if j49 keep i then
  (if(i:Int)=last then o4n s ((rdL s9p d.2 i).1,(rdL s9p d.2 i).2.extract 0 n++(rdL Ty.str s (rdL s9p d.2 i).1.toNat).extract n (rdL Ty.str s (rdL s9p d.2 i).1.toNat).size)
   else o4n s (rdL s9p d.2 i))
 else s
def o9r (d:u02) (keep:Hu Int) (tear:Int):u02:=
 if r1l d then((List.range d.2.length).foldl (o3q d keep (o0q keep d.2.length) (j0b tear)) d.1, []) else d
section
variable {d:u02} (hk:r1l d=true) (keep:Hu Int)
include hk in
include hk in
include hk
end
end
section
def u20 (t:Hs):Hs:=y7g (q3c t.size)++t
theorem p8n (t:Hs):t.size≤(u20 t).size∧(u20 t).size≤2*t.size+1:=by
 unfold u20
 rw[Af,u73]
 have:=o1a t.size
 omega
def o9p (d:u02) (a:Int) (t:Hs):Ht u02:=
 if(u4f d a).2.2=false∨t.size=0∨3008<t.size∨255≤u81 d a∨3008<(u4f d a).2.1+((u20 t).size:Int) then none
 else q4y d (u1v a+1) (u4f d a).2.1 (u20 t)
theorem p6y (t:Hs) (ht:t.size≤1048576):t5l t=some (if 20000<t.size then(emp,false) else(u20 t,true)):=by
 rw[q6v];unfold r01
 have e1:decide ((t.size:Int) >(20000:Int))=decide (20000<t.size):=by simp only[Cu];omega
 rw[e1]
 by_cases h:20000<t.size
 ·simp only[h,Ae,Ad,Bl];rfl
 ·have c:decide ((y7g (q3c t.size)).size+t.size≤140737488355328)=true:=by
   rw[u73]
   have:=o1a t.size
   simp;omega
  have hv:(0:Int)≤(t.size:Int)∧(t.size:Int)≤1000000000:=by omega
  simp only[h,Ah,Aa,r4d,Al hv,zOb,zTn,c,Ad,Bk]
  rfl
def o63 (n:Int):Hs:=y7g [IntKind.u8.wrap n]
def o3p (d:u02) (a n:Int):Ht u02:=q4y d (u1v a) 0 (o63 n)
end
section
def o9q (d:u02) (a:Int):Int:=IntKind.i64.wrap (u81 d a+1)
def j5c (d:u02) (a:Int) (t:Hs):Ht u02:=(o9p d a t).map fun x=>o18 (orD (o18 x) (o3p (o18 x) a (o9q d a))).1
def append_ (d:u02) (t:Hs):Ht u02:=if q2y d then j5c d (s9q d) t else none
section
variable {d:u02} {t:Hs} (hd:p4i.wt d≤10000000) (ht:t.size≤1048576)
include hd ht
end
end
section
def j0s (a:Int) (d d' :u02):Prop:= ∀j:Nat,¬(u1v a≤(j:Int)∧(j:Int)<u1v a+48)→u3x d' (j:Int)=u3x d (j:Int)
def o65 (a:Int):Hu Hs→u02→Ht u02
 | [],x=>some x
 | t::l,x=>(j5c x a t).bind (o65 a l)
end
section
def p90 (d:u02):Int:=1 - s9q d
def j2p (d:u02):u02:=o18 (orD d (o3p d (p90 d) 0)).1
def o9x (d:u02) (l:Hu Hs):Ht u02:=if q2y d then o65 (p90 d) l (j2p d) else none
def o8n (x:u02):Ht u02:=q4y x 0 0 (o63 (IntKind.i64.wrap (q9m x 0+1)))
def o8b (d:u02) (l:Hu Hs):Ht u02:=(o9x d l).map fun x=>o18 (orD x (o8n x)).1
section
variable {d:u02} {l:Hu Hs} (hd:p4i.wt d≤10000000) (hl:l.length≤1048576) (hs:∀t∈l,t.size≤1048576)
include hd hl hs
def o9s (d:u02) (l:Hu Hs) (step:Int) (keep:Hu Int) (tear:Int):u02:=
 match o9x d l with
 | none=>d
 | some x=>
  if step=0 then o9r (orD d (o3p d (p90 d) 0)).1 keep tear
  else if step=1 then x
  else if step=2 then o9r (orD x (o8n x)).1 keep tear
  else o18 (orD x (o8n x)).1
end
end
section
def j57 (s:Hs) (i:Nat):UInt8:=s.data.toList.getD i 0
end
section
theorem o4o (a:Hs):a.size=a.data.toList.length:=by simp only[B6];rfl
def u8s (l:Hu Int):Hu UInt8:=l.map fun n=>UInt8.ofNat n.toNat
theorem p3v:∀(f i acc n N:Nat) (r:Hu UInt8),0<f→n<128^f→acc+n*128^i=N→N≤1000000000→(q3c N).length=i+(q3c n).length→q0p f i acc (u8s (q3c n)++r)=some (N,i+(q3c n).length)
 | 0,i,acc,n,N,r,hf,_,_,_,_=>by omega
 | f+1,i,acc,n,N,r,_,hn,hN,hb,hl=>by
  by_cases h:n<128
  ·rw[r6v h] at hl ⊢
   have e:(UInt8.ofNat ((n:Int)).toNat).toNat=n:=by
    rw[zTn,Gg]
    omega
   simp only[u8s,C8,Eh,Ef,Cf,q0p,e,h,Bl,Aw] at hl ⊢
   rw[Nat.mod_eq_of_lt h,hN,Al ⟨hb,hl⟩]
  ·rw[q4q h] at hl ⊢
   have e:(UInt8.ofNat (((n % 128+128:Nat):Int)).toNat).toNat=n % 128+128:=by
    rw[zTn,Gg]
    omega
   have hh: ¬n % 128+128<128:=by omega
   simp only[u8s,C8,Ef,q0p,e,hh,Bk,Bc] at hl ⊢
   have e2:(n % 128+128) % 128=n % 128:=by omega
   rw[e2]
   have:=p3v f (i+1) (acc+n % 128*128^i) (n / 128) N r (by rcases f with _ | f<;>simp at hn ⊢;omega) (by rw[Gr] at hn;omega) (by
    rw[←hN,Gr]
    have:n=n % 128+128*(n / 128):=by omega
    conv=>rhs;rw[this]
    rw[Cl]
    have:n / 128*(128^i*128)=128*(n / 128)*128^i:=by rw[Fk (128^i) 128,←Nat.mul_assoc,Fk (n / 128) 128]
    omega) hb (by omega)
   show q0p f (i+1) (acc+n % 128*128^i) (u8s (q3c (n / 128))++r)=_
   rw[this]
   congr 2
   omega
end
section
theorem q96 (l:Hu Int):(y7g l).data.toList=u8s l:=by
 unfold y7g u8s
 simp
def j55 (d:u02):Prop:= ∀k:Nat,k<97→(u3x d (k:Int)).2=true∧(u3x d (k:Int)).1.size=64
def j48 (a:Int):Nat:=(u1v a+1).toNat
def j5u (d:u02) (a:Int):Hs:=(t7n d (u1v a+1) 47).1
end
section
theorem o0j {a b:Hs} (h:a.data.toList=b.data.toList):a=b:=by
 apply Gf
 exact Array.toList_inj.mp h
theorem q77 (a b:Hs):(a++b).data.toList=a.data.toList++b.data.toList:=by rw[Ft,Ha]
theorem u7g (a b c:Hs):a++b++c=a++(b++c):=o0j (by simp only[q77,Bi])
theorem p9q (a:Hs):emp++a=a:=o0j (by rw[q77];rfl)
theorem p9n (a:Hs):a++emp=a:=o0j (by rw[q77];simp[emp])
theorem q0c (a:Hs):a.size=a.data.toList.length:=o4o a
def r6w (n:Int):Hs:=y7g (q3c n.toNat)
def p9o (b:Bool):Hs:=y7g [if b then 1 else 0]
def r3q {E:Type} (f:E→Hs) (l:Hu E):Hs:=l.foldl (fun s x=>s++f x) emp
def p8z (r:p20):Hs:=u20 r.1++u20 r.2
def wrT (w:WrT):Hs:=u20 w.1++(u20 w.2.1++p9o w.2.2)
def p8t (v:u3a):Hs:=u20 v.1++(u20 v.2.1++(p9o v.2.2.1++r6w v.2.2.2))
def u78 (t:u0g):Hs:=
 r6w t.1++(r6w t.2.1++(r6w t.2.2.1++(r6w t.2.2.2.1++(r6w (t.2.2.2.2.1.length:Int)++(r3q p8z t.2.2.2.2.1++(r6w (t.2.2.2.2.2.1.length:Int)++(r3q wrT t.2.2.2.2.2.1++(p9o t.2.2.2.2.2.2.1++u20 t.2.2.2.2.2.2.2))))))))
def s8q (l:Hu u0g):Hs:=r6w (l.length:Int)++r3q u78 l
def t9o (b:u0h):Hs:=r6w b.2.2.2.1++(r6w b.2.2.2.2++(r6w (b.1.length:Int)++(r3q p8t b.1++(s8q b.2.1++s8q b.2.2.1))))
theorem q2f {E:Type} (f:E→Hs):∀(l:Hu E) (s:Hs),l.foldl (fun s x=>s++f x) s=s++r3q f l
 | [],s=>(p9n s).symm
 | x::l,s=>by
  rw[Bs,q2f f l]
  unfold r3q
  rw[Bs,q2f f l (emp++f x),p9q,u7g]
  rfl
theorem s2b {E:Type} (f:E→Hs) (x:E) (l:Hu E):r3q f (x::l)=f x++r3q f l:=by
 unfold r3q
 rw[Bs,q2f,p9q]
 rfl
theorem p4m {E:Type} (f:E→Hs):r3q f [] =emp:=rfl
def t3j (T:Hs) (a:Nat) (s:Hs):Prop:= ∃r,T.data.toList.drop a=s.data.toList++r
theorem o89 {T:Hs} {a:Nat} {s u:Hs} :t3j T a (s++u)↔t3j T a s∧t3j T (a+s.size) u:=by
 unfold t3j
 rw[q77,q0c s]
 constructor
 ·rintro⟨r,h⟩
  refine⟨⟨u.data.toList++r,by rw[h,Bi]⟩,r,?_⟩
  rw[←Gl,h,Bi,Hg]
 ·rintro⟨⟨r,h⟩,r',h'⟩
  rw[←Gl,h,Hg] at h'
  exact⟨r',by rw[h,h',Bi]⟩
theorem q27 {T:Hs} {a:Nat} {s:Hs} (h:t3j T a s) (hs:s.size≠0):a+s.size≤T.size:=by
 obtain⟨r,h⟩:=h
 have:=Dj List.length h
 rw[F0,Ba,←q0c,←q0c] at this
 omega
theorem o2m {a s b:Hs} :t3j (a++s++b) a.size s:=⟨b.data.toList,by rw[q77,q77,q0c,Bi,Hg]⟩
theorem s3p (n:Int):(r6w n).size=(q3c n.toNat).length:=u73 _
theorem q3d (n:Nat):0<(q3c n).length:=by
 by_cases h:n<128
 ·rw[r6v h];simp
 ·rw[q4q h];simp
theorem r9z {T:Hs} {a:Nat} {n:Int} (h0:0≤n) (hn:n≤1000000000) (h:t3j T a (r6w n)):u0r T (a:Int)=(n,((a+(r6w n).size:Nat):Int),true):=by
 have hle:=q27 h (by rw[s3p];have:=q3d n.toNat;omega)
 obtain⟨r,h⟩:=h
 unfold r6w at h
 rw[q96] at h
 have hv:=p3v 5 0 0 n.toNat n.toNat r (by omega) (by omega) (by simp) (by omega) (by omega)
 unfold u0r
 rw[Al (by omega),zTn,h,hv]
 simp only[p0b]
 rw[s3p]
 congr 1
 ·omega
 ·congr 1
  omega
theorem q7h {T:Hs} {a:Nat} {s:Hs} (hs:s.size≤20000) (h:t3j T a (u20 s)):u0v T (a:Int)=(s,((a+(u20 s).size:Nat):Int),true):=by
 have e:u20 s=r6w (s.size:Int)++s:=rfl
 rw[e] at h
 obtain⟨h1,h2⟩:=o89.mp h
 have hv:=r9z (by omega) (by omega) h1
 have hle1:=q27 h1 (by rw[s3p];have:=q3d (s.size:Int).toNat;omega)
 unfold u0v
 rw[hv]
 have hle:a+(r6w (s.size:Int)).size+s.size≤T.size:=by
  by_cases q:s.size=0
  ·omega
  ·exact q27 h2 q
 rw[Al (by simp only[true_and];omega)]
 have hx:T.extract (((a+(r6w (s.size:Int)).size:Nat):Int)).toNat ((((a+(r6w (s.size:Int)).size:Nat):Int)+(s.size:Int))).toNat=s:=by
  rw[zTn,show(((a+(r6w (s.size:Int)).size:Nat):Int)+(s.size:Int)).toNat=a+(r6w (s.size:Int)).size+s.size by omega]
  rw[q54 _ _ _ hle]
  obtain⟨r,hr⟩:=h2
  rw[hr,Nat.add_sub_cancel_left,q0c,List.take_left]
 simp only[hx]
 rw[e,Af]
 congr 2
 omega
abbrev Cur:=Int×Bool
def u11 (s:Hs) (c:Cur):Int×Cur:=if c.2=true∨(u0r s c.1).2.2=false then(0,c.1,true) else((u0r s c.1).1,(u0r s c.1).2.1,false)
def u18 (s:Hs) (c:Cur):Hs×Cur:=if c.2=true∨(u0v s c.1).2.2=false then(emp,c.1,true) else((u0v s c.1).1,(u0v s c.1).2.1,false)
def u57 (s:Hs) (i:Nat):Nat:=(s.data.toList.getD i 0).toNat
def q3o (s:Hs) (c:Cur):Bool×Cur:=if c.2=true∨ ¬(0≤c.1∧c.1<(s.size:Int))∨1<u57 s c.1.toNat then(false,c.1,true) else(decide (u57 s c.1.toNat=1),c.1+1,false)
def u19 {E:Type} (f:Cur→E×Cur):Nat→Cur→Hu E→Hu E×Cur
 | 0,c,a=>(a,c)
 | n+1,c,a=>if c.2=true then(a,c) else u19 f n (f c).2 (a++ [(f c).1])
def p58 (s:Hs) (c:Cur):p20×Cur:=(((u18 s c).1,(u18 s (u18 s c).2).1),(u18 s (u18 s c).2).2)
def rWr (s:Hs) (c:Cur):WrT×Cur:=
 (((u18 s c).1,(u18 s (u18 s c).2).1,(q3o s (u18 s (u18 s c).2).2).1),(q3o s (u18 s (u18 s c).2).2).2)
def p6a (s:Hs) (c:Cur):u3a×Cur:=
 let w:=rWr s c
 ((w.1.1,w.1.2.1,w.1.2.2,(u11 s w.2).1),(u11 s w.2).2)
def q7q (m:Nat) (s:Hs) (c:Cur):u0g×Cur:=
 let a:=u11 s c
 let b:=u11 s a.2
 let d:=u11 s b.2
 let e:=u11 s d.2
 let n:=u11 s e.2
 let rs:=u19 (p58 s) (min n.1.toNat m) n.2 []
 let k:=u11 s rs.2
 let ws:=u19 (rWr s) (min k.1.toNat m) k.2 []
 let o:=q3o s ws.2
 let nm:=u18 s o.2
 ((a.1,b.1,d.1,e.1,rs.1,ws.1,o.1,nm.1),nm.2)
theorem u89 {s:Hs} {c:Cur} (h:c.2=true):(u11 s c).2.2=true:=by unfold u11;rw[Al (.inl h)]
theorem s8m {s:Hs} {c:Cur} (h:c.2=true):(u18 s c).2.2=true:=by unfold u18;rw[Al (.inl h)]
theorem q2z {s:Hs} {c:Cur} (h:c.2=true):(q3o s c).2.2=true:=by unfold q3o;rw[Al (.inl h)]
theorem t33 {E:Type} {f:Cur→E×Cur} {n:Nat} {c:Cur} {a:Hu E} (h:c.2=true):u19 f n c a=(a,c):=by
 cases n with
 | zero=>rfl
 | succ n=>simp only[u19];rw[Al h]
theorem p8e {E:Type} {f:Cur→E×Cur} :∀ {n:Nat} {c:Cur} {a:Hu E},(u19 f n c a).2.2=false→(u19 f n c a).1.length=a.length+n
 | 0,c,a,_=>rfl
 | n+1,c,a,h=>by
  simp only[u19] at h ⊢
  split at h
  ·rename_i q;rw[q] at h;cases h
  ·rename_i q
   rw[Ao q,p8e h]
   simp;omega
theorem u54 {s:Hs} {a:Nat} {n:Int} (h0:0≤n) (hn:n≤1000000000) (h:t3j s a (r6w n)):u11 s ((a:Int),false)=(n,((a+(r6w n).size:Nat):Int),false):=by
 unfold u11
 rw[r9z h0 hn h,Ao (by simp)]
theorem t6b {s:Hs} {a:Nat} {x:Hs} (hx:x.size≤20000) (h:t3j s a (u20 x)):u18 s ((a:Int),false)=(x,((a+(u20 x).size:Nat):Int),false):=by
 unfold u18
 rw[q7h hx h,Ao (by simp)]
theorem u2p (b:Bool):(p9o b).size=1:=u73 _
theorem q0n {s:Hs} {a:Nat} {b:Bool} (h:t3j s a (p9o b)):q3o s ((a:Int),false)=(b,((a+1:Nat):Int),false):=by
 have hle:=q27 h (by rw[u2p];omega)
 rw[u2p] at hle
 obtain⟨r,hr⟩:=h
 unfold p9o at hr
 rw[q96] at hr
 have hb:u57 s a=if b then 1 else 0:=by
  unfold u57
  have:s.data.toList.getD a 0=(s.data.toList.drop a).getD 0 0:=by
   rw[A5,A5,Dg,Df]
  rw[this,hr]
  cases b<;>rfl
 unfold q3o
 simp only[zTn,hb]
 rw[Ao]
 ·cases b<;>simp
 ·rintro(q | q | q)
  ·cases q
  ·omega
  ·cases b<;>simp at q
theorem t91 {E:Type} {f:Cur→E×Cur} {g:E→Hs} {s:Hs} :∀ {l:Hu E} {a:Nat} {acc:Hu E},(∀x∈l,∀a:Nat,t3j s a (g x)→f ((a:Int),false)=(x,((a+(g x).size:Nat):Int),false))→
 t3j s a (r3q g l)→u19 f l.length ((a:Int),false) acc=(acc++l,((a+(r3q g l).size:Nat):Int),false)
 | [],a,acc,_,_=>by rw[p4m];simp[u19,emp,ByteArray.size]
 | x::l,a,acc,hf,h=>by
  rw[s2b] at h ⊢
  obtain⟨h1,h2⟩:=o89.mp h
  have e:=hf x (by simp) a h1
  simp only[Bc,u19]
  rw[Ao (by simp),e]
  rw[t91 (l:=l) (fun y hy=>hf y (by simp[hy])) h2,Af]
  simp[D9]
theorem p93 {s:Hs} {a:Nat} {r:p20} (h1:r.1.size≤20000) (h2:r.2.size≤20000) (h:t3j s a (p8z r)):p58 s ((a:Int),false)=(r,((a+(p8z r).size:Nat):Int),false):=by
 obtain⟨k1,k2⟩:=o89.mp h
 unfold p58
 rw[t6b h1 k1]
 simp only
 rw[t6b h2 k2]
 unfold p8z
 rw[Af,D9]
theorem p3h {s:Hs} {a:Nat} {w:WrT} (h1:w.1.size≤20000) (h2:w.2.1.size≤20000) (h:t3j s a (wrT w)):rWr s ((a:Int),false)=(w,((a+(wrT w).size:Nat):Int),false):=by
 obtain⟨k1,k2⟩:=o89.mp h
 obtain⟨k2,k3⟩:=o89.mp k2
 unfold rWr
 rw[t6b h1 k1]
 simp only
 rw[t6b h2 k2]
 simp only
 rw[q0n k3]
 unfold wrT
 rw[Af,Af,u2p,D9,D9]
theorem p95 {s:Hs} {a:Nat} {v:u3a} (h1:v.1.size≤20000) (h2:v.2.1.size≤20000) (h3:0≤v.2.2.2∧v.2.2.2≤1000000000) (h:t3j s a (p8t v)):p6a s ((a:Int),false)=(v,((a+(p8t v).size:Nat):Int),false):=by
 have e:p8t v=wrT (v.1,v.2.1,v.2.2.1)++r6w v.2.2.2:=by unfold p8t wrT;simp only[u7g]
 rw[e] at h ⊢
 obtain⟨k1,k2⟩:=o89.mp h
 unfold p6a
 rw[p3h (w:=(v.1,v.2.1,v.2.2.1)) h1 h2 k1]
 simp only
 rw[u54 h3.1 h3.2 k2,Af,D9]
theorem TxnR.small {t:u0g} (h:TxnR t):(∀r∈t.2.2.2.2.1,r.1.size≤3∧r.2.size≤3)∧(∀w∈t.2.2.2.2.2.1,w.1.size≤3∧w.2.1.size≤12)∧t.2.2.2.2.2.2.2.size≤3∧t.2.2.2.2.2.1.length≤8∧0≤t.2.2.2.1∧t.2.2.2.1≤9999:=by
 obtain⟨w1,w2,w3⟩:=o7a.mp h.ws
 refine⟨fun r hr=> ?_,fun w hw=> ?_,?_,w3,?_⟩
 ·have:=h.rs r hr
  unfold t5v at this
  rw[Ai,Ai] at this
  exact⟨(u6d this.1).2,(u6d this.2.1).2⟩
 ·have:=w1 w hw
  unfold t1n at this
  rw[Ai,Ai,Ar] at this
  exact⟨(u6d this.1).2,this.2.1⟩
 ·by_cases e:t.2.1=2
  ·exact(u6d (h.name e)).2
  ·rw[h.noname e];omega
 ·by_cases e:t.2.1=3
  ·have:=h.done e;have:=h.snap;omega
  ·rw[h.nocs e];omega
theorem p94 {s:Hs} {a:Nat} {t:u0g} {m:Nat} (hm:8≤m) (ht:TxnR t) (h:t3j s a (u78 t)):q7q m s ((a:Int),false)=(t,((a+(u78 t).size:Nat):Int),false):=by
 obtain⟨z1,z2,z3,z4,z5⟩:=ht.small
 have hi:=ht.id;have hst:=ht.st;have hsn:=ht.snap;have hrl:=ht.rlen
 unfold u78 at h ⊢
 obtain⟨k1,h⟩:=o89.mp h
 obtain⟨k2,h⟩:=o89.mp h
 obtain⟨k3,h⟩:=o89.mp h
 obtain⟨k4,h⟩:=o89.mp h
 obtain⟨k5,h⟩:=o89.mp h
 obtain⟨k6,h⟩:=o89.mp h
 obtain⟨k7,h⟩:=o89.mp h
 obtain⟨k8,h⟩:=o89.mp h
 obtain⟨k9,k10⟩:=o89.mp h
 unfold q7q
 rw[u54 (by omega) (by omega) k1]
 simp only
 rw[u54 (by omega) (by omega) k2]
 simp only
 rw[u54 (by omega) (by omega) k3]
 simp only
 rw[u54 (by omega) (by omega) k4]
 simp only
 rw[u54 (by omega) (by omega) k5]
 simp only
 rw[show min ((t.2.2.2.2.1.length:Int)).toNat m=t.2.2.2.2.1.length by omega,t91 (g:=p8z) (fun r hr a hs=>p93 (by have:=(z1 r hr).1;omega) (by have:=(z1 r hr).2;omega) hs) k6]
 simp only
 rw[u54 (by omega) (by omega) k7]
 simp only
 rw[show min ((t.2.2.2.2.2.1.length:Int)).toNat m=t.2.2.2.2.2.1.length by omega,t91 (g:=wrT) (fun w hw a hs=>p3h (by have:=(z2 w hw).1;omega) (by have:=(z2 w hw).2;omega) hs) k8]
 simp only
 rw[q0n k9]
 simp only
 rw[u2p] at k10
 rw[t6b (by omega) k10]
 simp only[Cf,Af,u2p]
 simp only[D9]
end
section
def u5o (m:Nat) (s:Hs) (c:Cur):u0g×Cur:=((q7q m s c).1,(q7q m s c).2.1,(q7q m s c).2.2 || !u5r (q7q m s c).1)
def u96 (m k:Nat) (s:Hs) (c:Cur):Hu u0g×Cur:=u19 (u5o m s) (min (u11 s c).1.toNat k) (u11 s c).2 []
structure Lim where
 t:Nat
 v:Nat
 p:Nat
 r:Nat
def s8l (m:Lim) (s:Hs) (c:Cur):u0h×Cur:=
 let a:=u11 s c
 let b:=u11 s a.2
 let n:=u11 s b.2
 let vs:=u19 (p6a s) (min n.1.toNat m.v) n.2 []
 let ps:=u96 m.t m.p s vs.2
 let rs:=u96 m.t m.r s ps.2
 ((vs.1,ps.1,rs.1,a.1,b.1),rs.2)
theorem o4a {m:Nat} {s:Hs} {c:Cur} (h:c.2=true):(u5o m s c).2.2=true:=by
 have:(q7q m s c).2.2=true:=by
  unfold q7q
  have h1:=u89 (s:=s) h
  have h2:=u89 (s:=s) h1
  have h3:=u89 (s:=s) h2
  have h4:=u89 (s:=s) h3
  have h5:=u89 (s:=s) h4
  simp only
  rw[t33 h5]
  have h6:=u89 (s:=s) h5
  simp only
  rw[t33 h6]
  exact s8m (q2z h6)
 unfold u5o
 simp only[this,Dx]
theorem r7g {E:Type} {f:Cur→E×Cur} {n k:Nat} {c:Cur} (hk:k≤n):(u19 f n c []).2.2=true∨k≤(u19 f n c []).1.length:=by
 cases h:(u19 f n c []).2.2 with
 | true=>exact .inl rfl
 | false=>rw[p8e h];exact .inr (by simp;exact hk)
theorem q9v {m m' :Nat} (hm:9≤m) (hm' :9≤m') {s:Hs} {c:Cur} (h:(u5o m s c).2.2=false):u5o m' s c=u5o m s c:=by
 have hb:(q7q m s c).2.2=false∧u5r (q7q m s c).1=true:=by
  unfold u5o at h
  simp only[Es,Bool.not_eq_false'] at h
  exact h
 have hR:=q29.mp hb.2
 have hw:=(o7a.mp hR.ws).2.2
 suffices e:q7q m' s c=q7q m s c by unfold u5o;rw[e]
 have b1:=hb.1
 have hr:=hR.rlen
 unfold q7q at b1 hr hw ⊢
 simp only at b1 hr hw ⊢
 generalize hn:u11 s (u11 s (u11 s (u11 s (u11 s c).2).2).2).2=n at b1 hr hw ⊢
 have k1:n.1.toNat≤8∨(u19 (p58 s) (min n.1.toNat m) n.2 []).2.2=true:=by
  rcases B8 8 n.1.toNat with q | q
  ·rcases r7g (f:=p58 s) (n:=min n.1.toNat m) (k:=9) (c:=n.2) (by omega) with z | z
   ·exact .inr z
   ·omega
  ·exact .inl q
 have k1:n.1.toNat≤8:=k1.resolve_right fun k1=>by
  have h1:=u89 (s:=s) k1
  rw[t33 h1] at b1
  rw[s8m (q2z h1)] at b1
  cases b1
 have e1:min n.1.toNat m=min n.1.toNat m' :=by omega
 rw[e1] at b1 hw ⊢
 generalize hk:u11 s (u19 (p58 s) (min n.1.toNat m') n.2 []).2=k at b1 hw ⊢
 have k2:k.1.toNat≤8∨(u19 (rWr s) (min k.1.toNat m) k.2 []).2.2=true:=by
  rcases B8 8 k.1.toNat with q | q
  ·rcases r7g (f:=rWr s) (n:=min k.1.toNat m) (k:=9) (c:=k.2) (by omega) with z | z
   ·exact .inr z
   ·omega
  ·exact .inl q
 have k2:k.1.toNat≤8:=k2.resolve_right fun k2=>by
  rw[s8m (q2z k2)] at b1
  cases b1
 have e2:min k.1.toNat m=min k.1.toNat m' :=by omega
 rw[e2]
theorem q9w {E:Type} {f g:Cur→E×Cur} (hf:∀c,(f c).2.2=false→g c=f c) (hfb:∀c,c.2=true→(f c).2.2=true):∀ {n:Nat} {c:Cur} {a:Hu E},(u19 f n c a).2.2=false→u19 g n c a=u19 f n c a
 | 0,c,a,_=>rfl
 | n+1,c,a,h=>by
  simp only[u19] at h ⊢
  split at h
  ·rename_i q;rw[q] at h;cases h
  ·rename_i q
   rw[Ao q,Ao q]
   have:(f c).2.2=false:=by
    cases z:(f c).2.2 with
    | false=>rfl
    | true=>rw[t33 z] at h;rw[z] at h;cases h
   rw[hf c this]
   exact q9w hf hfb h
def t29 (m:Lim) (s:Hs) (c:Cur):u0h×Cur:=((s8l m s c).1,(s8l m s c).2.1,(s8l m s c).2.2 || !u6r (s8l m s c).1)
def Lim.ok (m:Lim):Prop:=9≤m.t∧121≤m.v∧13≤m.p∧4≤m.r
theorem r6m {m k:Nat} {s:Hs} {c:Cur} (h:c.2=true):(u96 m k s c).2.2=true:=by
 unfold u96;rw[t33 (u89 h)];exact u89 h
theorem p8f {m m' k k' N:Nat} (hm:9≤m) (hm' :9≤m') (hk:N<k) (hk' :N<k') {s:Hs} {c:Cur} (h:(u96 m k s c).2.2=false) (hl:(u96 m k s c).1.length≤N):u96 m' k' s c=u96 m k s c:=by
 unfold u96 at h hl ⊢
 have q:(u11 s c).1.toNat≤N:=by
  rcases B8 N (u11 s c).1.toNat with q | q
  ·rcases r7g (f:=u5o m s) (n:=min (u11 s c).1.toNat k) (k:=N+1) (c:=(u11 s c).2) (by omega) with z | z
   ·rw[z] at h;cases h
   ·omega
  ·exact q
 have e:min (u11 s c).1.toNat k=min (u11 s c).1.toNat k' :=by omega
 rw[e] at h ⊢
 exact q9w (fun c hc=>q9v hm hm' hc) (fun c hc=>o4a hc) h
theorem p3b {m m' :Lim} (hm:m.ok) (hm' :m'.ok) {s:Hs} {c:Cur} (h:(t29 m s c).2.2=false):t29 m' s c=t29 m s c:=by
 obtain⟨a1,a2,a3,a4⟩:=hm
 obtain⟨b1,b2,b3,b4⟩:=hm'
 have hb:(s8l m s c).2.2=false∧u6r (s8l m s c).1=true:=by
  unfold t29 at h
  simp only[Es,Bool.not_eq_false'] at h
  exact h
 have hR:=p25.mp hb.2
 have v1:=(o49.mp hR.vs).2.2
 have v2:=hR.plen
 have v3:=hR.rlen
 have h0:=hb.1
 suffices e:s8l m' s c=s8l m s c by unfold t29;rw[e]
 unfold s8l at h0 v1 v2 v3 ⊢
 simp only at h0 v1 v2 v3 ⊢
 generalize hn:u11 s (u11 s (u11 s c).2).2=n at h0 v1 v2 v3 ⊢
 have k1:n.1.toNat≤120:=by
  rcases B8 120 n.1.toNat with q | q
  ·rcases r7g (f:=p6a s) (n:=min n.1.toNat m.v) (k:=121) (c:=n.2) (by omega) with z | z
   ·exfalso
    rw[r6m (r6m z)] at h0
    cases h0
   ·omega
  ·exact q
 have e1:min n.1.toNat m.v=min n.1.toNat m'.v:=by omega
 rw[e1] at h0 v2 v3 ⊢
 generalize hv:u19 (p6a s) (min n.1.toNat m'.v) n.2 [] =vs at h0 v2 v3 ⊢
 have hp:(u96 m.t m.p s vs.2).2.2=false:=by
  cases z:(u96 m.t m.p s vs.2).2.2 with
  | false=>rfl
  | true=>rw[r6m z] at h0;cases h0
 rw[p8f (N:=12) a1 b1 (by omega) (by omega) hp v2]
 rw[p8f (N:=3) a1 b1 (by omega) (by omega) h0 v3]
theorem r6f {s:Hs} {a:Nat} {t:u0g} {m:Nat} (hm:8≤m) (ht:TxnR t) (h:t3j s a (u78 t)):u5o m s ((a:Int),false)=(t,((a+(u78 t).size:Nat):Int),false):=by
 unfold u5o
 rw[p94 hm ht h]
 simp only[q29.mpr ht,Ap,Fp]
theorem q6b {s:Hs} {a:Nat} {l:Hu u0g} {m k:Nat} (hm:8≤m) (hk:l.length≤k) (hl:l.length≤1000000000) (ht:∀t∈l,TxnR t) (h:t3j s a (s8q l)):u96 m k s ((a:Int),false)=(l,((a+(s8q l).size:Nat):Int),false):=by
 unfold s8q at h ⊢
 obtain⟨k1,k2⟩:=o89.mp h
 unfold u96
 rw[u54 (by omega) (by omega) k1]
 simp only
 rw[show min ((l.length:Int)).toNat k=l.length by omega,t91 (g:=u78) (fun t h a hs=>r6f hm (ht t h) hs) k2]
 rw[Af,Cf,D9]
theorem s3q {v:u3a} (h:q4r v=true):v.1.size≤3∧v.2.1.size≤12∧1≤v.2.2.2∧v.2.2.2≤9999:=by
 unfold q4r at h
 simp only[Ai,Ar,q9n] at h
 exact⟨(u6d h.1).2,h.2.1,h.2.2.2⟩
theorem p8d {s:Hs} {a:Nat} {b:u0h} {m:Lim} (hm:m.ok) (hb:BaseR b) (h:t3j s a (t9o b)):s8l m s ((a:Int),false)=(b,((a+(t9o b).size:Nat):Int),false):=by
 obtain⟨a1,a2,a3,a4⟩:=hm
 obtain⟨v1,v2,v3⟩:=o49.mp hb.vs
 have hc:=hb.cs;have hx:=hb.next;have hp:=hb.plen;have hr:=hb.rlen
 unfold t9o at h ⊢
 obtain⟨k1,h⟩:=o89.mp h
 obtain⟨k2,h⟩:=o89.mp h
 obtain⟨k3,h⟩:=o89.mp h
 obtain⟨k4,h⟩:=o89.mp h
 obtain⟨k5,k6⟩:=o89.mp h
 unfold s8l
 rw[u54 (by omega) (by omega) k1]
 simp only
 rw[u54 (by omega) (by omega) k2]
 simp only
 rw[u54 (by omega) (by omega) k3]
 simp only
 rw[show min ((b.1.length:Int)).toNat m.v=b.1.length by omega,t91 (g:=p8t) (fun v hv a hs=>by
  have:=s3q (v1 v hv)
  exact p95 (by omega) (by omega) (by omega) hs) k4]
 simp only
 rw[q6b (by omega) (by omega) (by omega) (fun t ht=>(hb.past t ht).1) k5]
 simp only
 rw[q6b (by omega) (by omega) (by omega) (fun t ht=>(hb.ready t ht).1) k6]
 simp only[Cf,Af,D9]
theorem p8s {n:Nat} (h:n<16384):(q3c n).length≤2:=by
 by_cases q:n<128
 ·rw[r6v q];simp
 ·rw[q4q q,r6v (by omega)];simp
theorem u1m {n:Int} (h:n<16384):(r6w n).size≤2:=by rw[s3p];exact p8s (by omega)
theorem u0p {s:Hs} (h:s.size<16384):(u20 s).size≤s.size+2:=by
 unfold u20
 rw[Af,u73]
 have:=p8s h
 omega
theorem t64 {E:Type} {f:E→Hs} {k:Nat} :∀ {l:Hu E},(∀x∈l,(f x).size≤k)→(r3q f l).size≤l.length*k
 | [],_=>by rw[p4m];simp[emp,ByteArray.size]
 | x::l,h=>by
  rw[s2b,Af,Bc,C7]
  have h1:=h x (by simp)
  have h2:=t64 (l:=l) (fun y hy=>h y (by simp[hy]))
  omega
theorem t7o {t:u0g} (h:TxnR t):(u78 t).size≤300:=by
 obtain⟨z1,z2,z3,z4,z5⟩:=h.small
 have hi:=h.id;have hst:=h.st;have hsn:=h.snap;have hrl:=h.rlen
 have r1:(r3q p8z t.2.2.2.2.1).size≤t.2.2.2.2.1.length*10:=t64 fun r hr=>by
  have:=z1 r hr
  have q1:=u0p (s:=r.1) (by omega)
  have q2:=u0p (s:=r.2) (by omega)
  unfold p8z;rw[Af];omega
 have r2:(r3q wrT t.2.2.2.2.2.1).size≤t.2.2.2.2.2.1.length*20:=t64 fun w hw=>by
  have:=z2 w hw
  have q1:=u0p (s:=w.1) (by omega)
  have q2:=u0p (s:=w.2.1) (by omega)
  unfold wrT;rw[Af,Af,u2p];omega
 have v1:=u1m (n:=t.1) (by omega)
 have v2:=u1m (n:=t.2.1) (by omega)
 have v3:=u1m (n:=t.2.2.1) (by omega)
 have v4:=u1m (n:=t.2.2.2.1) (by omega)
 have v5:=u1m (n:=(t.2.2.2.2.1.length:Int)) (by omega)
 have v6:=u1m (n:=(t.2.2.2.2.2.1.length:Int)) (by omega)
 have v7:=u0p (s:=t.2.2.2.2.2.2.2) (by omega)
 unfold u78
 simp only[Af,u2p]
 omega
theorem s1z {l:Hu u0g} (hl:l.length<16384) (h:∀t∈l,TxnR t):(s8q l).size≤2+l.length*300:=by
 unfold s8q
 rw[Af]
 have v1:=u1m (n:=(l.length:Int)) (by omega)
 have v2:=t64 (f:=u78) (k:=300) (l:=l) (fun t ht=>t7o (h t ht))
 omega
theorem q3e {v:u3a} (h:q4r v=true):(p8t v).size≤22:=by
 have:=s3q h
 have q1:=u0p (s:=v.1) (by omega)
 have q2:=u0p (s:=v.2.1) (by omega)
 have q3:=u1m (n:=v.2.2.2) (by omega)
 unfold p8t
 simp only[Af,u2p]
 omega
theorem q3v {b:u0h} (hb:BaseR b):(t9o b).size≤10+b.1.length*22+b.2.1.length*300+b.2.2.1.length*300:=by
 obtain⟨v1,v2,v3⟩:=o49.mp hb.vs
 have hc:=hb.cs;have hx:=hb.next;have hp:=hb.plen;have hr:=hb.rlen
 have q1:=u1m (n:=b.2.2.2.1) (by omega)
 have q2:=u1m (n:=b.2.2.2.2) (by omega)
 have q3:=u1m (n:=(b.1.length:Int)) (by omega)
 have q4:=t64 (f:=p8t) (k:=22) (l:=b.1) (fun v hv=>q3e (v1 v hv))
 have q5:=s1z (l:=b.2.1) (by omega) (fun t ht=>(hb.past t ht).1)
 have q6:=s1z (l:=b.2.2.1) (by omega) (fun t ht=>(hb.ready t ht).1)
 unfold t9o
 simp only[Af]
 omega
end
end
end Go.Proofs.YtkdpclfhapphhaaGreat.Ab
