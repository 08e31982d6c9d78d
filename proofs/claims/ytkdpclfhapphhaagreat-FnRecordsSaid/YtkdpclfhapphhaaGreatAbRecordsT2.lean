import Derived.Test.YtkdpclfhapphhaaGreatAbRecordsT1
import Derived.Test.YtkdpclfhapphhaaGreatAbK2
import Derived.Test.YtkdpclfhapphhaaGreatAbF4
import Derived.Test.YtkdpclfhapphhaaGreatAbS2
import Derived.Test.YtkdpclfhapphhaaGreatAbS3
namespace Go.Proofs.YtkdpclfhapphhaaGreat.Ab
open Go
set_option linter.unusedVariables false
set_option linter.unusedSimpArgs false
set_option linter.unnecessarySimpa false
section
section
def u1l (n i:Int):Int:=if i<n then n else i+1
def t6y (b:u0i) (t:u0j):u0j:=(t.1,(3:Int),t.2.2.1,b.2.2.2.1+1,t.2.2.2.2.1,t.2.2.2.2.2.1,(t.2.2.2.2.2.2.1 || q2h t b.2.1),(⟨#[]⟩:Hs))
def u1n (b:u0i) (t:u0j):u0i:=
 (t4b b.1 t.2.2.2.2.2.1 (b.2.2.2.1+1),b.2.1++ [t6y b t],(b.2.2.1.filter fun x=> !decide (x.1=t.1)).map (p04 (t6y b t)),b.2.2.2.1+1,u1l b.2.2.2.2 t.1)
def u3r (b:u0i) (t:u0j) (n:Hs):u0j:=(t.1,(2:Int),t.2.2.1,t.2.2.2.1,t.2.2.2.2.1,t.2.2.2.2.2.1,(t.2.2.2.2.2.2.1 || q2h t b.2.1),n)
def u2e (b:u0i) (t:u0j) (n:Hs):u0i:=
 (b.1,b.2.1,(b.2.2.1.filter fun x=>y3c x.2.2.2.2.2.2.2 n)++ [u3r b t n] ++(b.2.2.1.filter fun x=> !y3c x.2.2.2.2.2.2.2 n),b.2.2.2.1,u1l b.2.2.2.2 t.1)
def t98 (b:u0i) (n:Hs):u0i:=(b.1,b.2.1,(b.2.2.1.filter fun x=> !z7o x.2.2.2.2.2.2.2 n),b.2.2.2.1,b.2.2.2.2)
def p4n (n:Int):Prop:= -1000000≤n∧n≤1000000
theorem s3k {n:Int} (h:p4n n):IntKind.i64.wrap (n+1)=n+1:=by
 obtain⟨h1,h2⟩:=h
 rw[y4y (by omega) (by omega)]
theorem q9a {b:u0i} {t:u0j} (hc:p4n b.2.2.2.1) (hi:p4n t.1):s3h b t=u1n b t:=by
 have e:q6u b t=t6y b t:=by unfold q6u t6y;rw[s3k hc]
 unfold s3h u1n
 rw[e,s3k hc,s3k hi]
 unfold y8h u1l
 congr 4
 by_cases h:t.1<b.2.2.2.2
 ·rw[Al h,Ao (by omega)]
 ·rw[Ao h,Al (by omega)]
theorem q0k {b:u0i} {t:u0j} (hc:p4n b.2.2.2.1) (hi:p4n t.1):r8f b t=u1n b t:=by
 unfold r8f
 rw[q9a hc hi,s3k hi]
 unfold u1n u1l
 congr 4
 by_cases h:t.1<b.2.2.2.2
 ·rw[Al h,Ao (by omega)]
 ·rw[Ao h,Al (by omega)]
def uq (l:Hu u0j):Prop:=l.Pairwise fun a b=>a.1≠b.1
theorem q3k {l:Hu u0j} :(u28 l).Nodup↔uq l:=by
 unfold u28 uq;rw[D8,Dl]
theorem o21 {a b:Hu u0j} :uq (a++b)↔uq a∧uq b∧ ∀x∈a,∀y∈b,x.1≠y.1:=Cg
theorem q0n {l:Hu u0j} (h:uq l) (p:u0j→Bool):uq (l.filter p):=Dz p h
theorem p8u {l:Hu u0j} (f:u0j→u0j) (hf:∀x,(f x).1=x.1) (h:uq l):uq (l.map f):=by
 unfold uq;rw[Dl];simp only[hf];exact h
theorem p51 {t:u0j} :uq [t] :=Eu _ _
theorem p8v {l:Hu u0j} :uq l→ ∀x∈l,∀y∈l,x.1=y.1→x=y:=by
 induction l with
 | nil=>intro _ x hx;cases hx
 | cons z l ih=>
  intro h x hx y hy e
  have h' :=Ch.mp h
  rcases A8.mp hx with rfl | hx' <;>rcases A8.mp hy with rfl | hy'
  ·rfl
  ·exact absurd e (h'.1 y hy')
  ·exact absurd e.symm (h'.1 x hx')
  ·exact ih h'.2 x hx' y hy' e
theorem t7p {l:Hu u0j} {n:Int} :(∀x∈u28 l,x<n)↔ ∀t∈l,t.1<n:=by
 unfold u28
 constructor
 ·exact fun h t ht=>h _ (Bx.mpr ⟨t,ht,rfl⟩)
 ·intro h x hx
  obtain⟨t,ht,rfl⟩:=Bx.mp hx
  exact h t ht
theorem p8a {d x:u0j} (h:TxnR x) (hs:x.2.1=2):TxnR (p04 d x):=
 ⟨h.id,h.st,h.snap,h.rlen,h.ws,h.rs,h.done,h.nocs,h.name,h.noname,fun e=>by have e:x.2.1=1:=e;omega⟩
theorem q8o {b:u0i} {t:u0j} (ht:TxnR t) (hs:t.2.2.1≤b.2.2.2.1) (hc:b.2.2.2.1<9999):TxnR (t6y b t):=
 ⟨ht.id,⟨by show(1:Int)≤3;omega,by show(3:Int)≤3;omega⟩,ht.snap,ht.rlen,ht.ws,ht.rs,fun _=>⟨by show t.2.2.1+1≤b.2.2.2.1+1;omega,by show b.2.2.2.1+1≤9999;omega⟩,
   fun e=>absurd rfl e,fun e=>by have e:(3:Int)=2:=e;omega,fun _=>rfl,fun e=>by have e:(3:Int)=1:=e;omega⟩
theorem q5l {b:u0i} {t:u0j} {n:Hs} (ht:TxnR t) (hs:t.2.1≠3) (hn:u4z n=true):TxnR (u3r b t n):=
 ⟨ht.id,⟨by show(1:Int)≤2;omega,by show(2:Int)≤3;omega⟩,ht.snap,ht.rlen,ht.ws,ht.rs,fun e=>by have e:(2:Int)=3:=e;omega,
   fun _=>ht.nocs hs,fun _=>hn,fun e=>absurd rfl e,fun e=>by have e:(2:Int)=1:=e;omega⟩
theorem p5d {w:WrT} {c:Int} (h:u19 w=true) (h1:1≤c) (h2:c≤9999):r2k (w.1,w.2.1,w.2.2,c)=true:=by
 unfold u19 at h
 unfold r2k
 simp only[Ai,r5s] at h ⊢
 exact⟨h.1,h.2.1,h.2.2,h1,h2⟩
theorem p4w {l:Hu u2b} {ws:Hu WrT} {c:Int} (hl:u5a l=true) (hv:∀v∈l,v.2.2.2≤c) (hw:u22 ws=true) (h0:0≤c) (h9:c<9999) (hn:l.length≤112):
 u5a (t4b l ws (c+1))=true∧ ∀v∈t4b l ws (c+1),v.2.2.2≤c+1:=by
 obtain⟨h1,h2,h3⟩:=p3w.mp hl
 obtain⟨w1,w2,w3⟩:=p52.mp hw
 refine⟨p3w.mpr ⟨fun v h=> ?_,r4f ws h2 (q76 hw) fun x hx w _ q=>by have:=hv x hx;have:vCs x=c+1:=q.2;unfold vCs at this;omega,by rw[r4g];omega⟩,fun v h=> ?_⟩
 ·rcases(t3i ws l (c+1)).mp h with h | ⟨w,hw,rfl⟩
  ·exact h1 v h
  ·exact p5d (w1 w hw) (by omega) (by omega)
 ·rcases(t3i ws l (c+1)).mp h with h | ⟨w,hw,rfl⟩
  ·have:=hv v h;omega
  ·exact Bv _
theorem q7l {n i:Int} (h:i<n):u1l n i=n:=Al h
theorem t5u (n i:Int):n≤u1l n i∧i<u1l n i:=by unfold u1l;split<;>omega
theorem q71 {b:u0i} {t:u0j} (hb:BaseR b) (ht:TxnR t) (hs:t.2.2.1≤b.2.2.2.1) (hc:b.2.2.2.1<9999) (hp:b.2.1.length<12) (hv:b.1.length≤112)
 (hid:∀x∈b.2.1,x.1≠t.1) (hn:t.1<9999):BaseR (u1n b t):=by
 have c0:=hb.cs.1
 obtain⟨v1,v2⟩:=p4w hb.vs hb.vcs ht.ws c0 hc hv
 have hu:=q3k.mp hb.nodup
 have hbl:=t7p.mp hb.below
 obtain⟨u1,u2,u3⟩:=o21.mp hu
 have hg:=t5u b.2.2.2.2 t.1
 have hnx:u1l b.2.2.2.2 t.1≤9999:=by have:=hb.next.2;unfold u1l;split<;>omega
 refine⟨v1,v2,⟨by show 0≤b.2.2.2.1+1;omega,by show b.2.2.2.1+1≤9999;omega⟩,⟨by show 1≤u1l b.2.2.2.2 t.1;have:=hb.next.1;omega,hnx⟩,?_,?_,?_,?_,?_,?_,?_,?_⟩
 ·show(b.2.1++ [t6y b t]).length≤12
  simp only[Ba,Aw];omega
 ·intro x hx
  rcases Ay.mp hx with hx | hx
  ·obtain⟨q1,q2,q3⟩:=hb.past x hx
   exact⟨q1,q2,by show x.2.2.2.1≤b.2.2.2.1+1;omega⟩
  ·rw[Ax] at hx
   subst hx
   exact⟨q8o ht hs hc,rfl,Bv _⟩
 ·show(b.2.1++ [t6y b t]).Pairwise _
  rw[Cg]
  refine⟨hb.pasc,Eu _ _,fun x hx y hy=> ?_⟩
  rw[Ax] at hy
  subst hy
  have:=(hb.past x hx).2.2
  show x.2.2.2.1<b.2.2.2.1+1
  omega
 ·show((b.2.2.1.filter _).map _).length≤3
  rw[Da]
  exact A9 (Cs _ _) hb.rlen
 ·intro x hx
  obtain⟨y,hy,rfl⟩:=Bx.mp hx
  obtain⟨q1,q2,q3⟩:=hb.ready y (A6.mp hy).1
  exact⟨p8a q1 q2,q2,by show y.2.2.1≤b.2.2.2.1+1;omega⟩
 ·show((b.2.2.1.filter _).map _).Pairwise _
  rw[Dl]
  exact(Dz _ hb.rasc)
 ·rw[t7p]
  intro x hx
  show x.1<u1l b.2.2.2.2 t.1
  rcases Ay.mp hx with hx | hx
  ·rcases Ay.mp hx with hx | hx
   ·have:=hbl x (Bf _ hx);omega
   ·rw[Ax] at hx;subst hx;exact hg.2
  ·obtain⟨y,hy,rfl⟩:=Bx.mp hx
   have:=hbl y (Az _ (A6.mp hy).1)
   show y.1<_
   omega
 ·rw[q3k]
  refine o21.mpr ⟨o21.mpr ⟨u1,p51,fun x hx y hy=> ?_⟩,p8u _ (fun _=>rfl) (q0n u2 _),fun x hx y hy=> ?_⟩
  ·rw[Ax] at hy;subst hy;exact hid x hx
  ·obtain⟨z,hz,rfl⟩:=Bx.mp hy
   obtain⟨z1,z2⟩:=A6.mp hz
   show x.1≠z.1
   rcases Ay.mp hx with hx | hx
   ·exact u3 x hx z z1
   ·rw[Ax] at hx;subst hx
    intro e
    simp only[Bj,Bu] at z2
    exact z2 e.symm
theorem t5l {b:u0i} (hb:BaseR b) (o:Hu u0j):BaseR (u4y b o):=by
 obtain⟨h1,h2,h3⟩:=p3w.mp hb.vs
 have sv:=u61 b.1 (t7z b o)
 have sp:(b.2.1.filter fun x=> !decide (x.2.2.2.1≤t7z b o)).Sublist b.2.1:=Fg
 have si:((b.2.1.filter fun x=> !decide (x.2.2.2.1≤t7z b o))++b.2.2.1).Sublist (b.2.1++b.2.2.1):=sp.append (Dm _)
 refine⟨p3w.mpr ⟨fun v h=>h1 v (sv.subset h),h2.sublist sv,A9 sv.length_le h3⟩,fun v h=>hb.vcs v (sv.subset h),hb.cs,hb.next,A9 sp.length_le hb.plen,
  fun t h=>hb.past t (sp.subset h),hb.pasc.sublist sp,hb.rlen,hb.ready,hb.rasc,?_,?_⟩
 ·rw[t7p]
  intro x hx
  exact t7p.mp hb.below x (si.subset hx)
 ·rw[q3k]
  exact Ez si (q3k.mp hb.nodup)
theorem r2e {b:u0i} {t:u0j} {n:Hs} (hb:BaseR b) (ht:TxnR t) (h3:t.2.1≠3) (hs:t.2.2.1≤b.2.2.2.1) (hk:u4z n=true) (hl:b.2.2.1.length<3)
 (hn:∀x∈b.2.2.1,x.2.2.2.2.2.2.2≠n) (hid:∀x∈b.2.1++b.2.2.1,x.1≠t.1) (h9:t.1<9999):BaseR (u2e b t n):=by
 have hu:=q3k.mp hb.nodup
 have hbl:=t7p.mp hb.below
 obtain⟨u1,u2,u3⟩:=o21.mp hu
 have hg:=t5u b.2.2.2.2 t.1
 have hnx:u1l b.2.2.2.2 t.1≤9999:=by have:=hb.next.2;unfold u1l;split<;>omega
 have mem:∀ {x:u0j},x∈(b.2.2.1.filter fun x=>y3c x.2.2.2.2.2.2.2 n)++ [u3r b t n] ++(b.2.2.1.filter fun x=> !y3c x.2.2.2.2.2.2.2 n)→x∈b.2.2.1∨x=u3r b t n:=fun {x} hx=>by
  rcases Ay.mp hx with hx | hx
  ·rcases Ay.mp hx with hx | hx
   ·exact .inl (A6.mp hx).1
   ·rw[Ax] at hx;exact .inr hx
  ·exact .inl (A6.mp hx).1
 have len:∀(l:Hu u0j) (p:u0j→Bool),(l.filter p).length+(l.filter fun x=> !p x).length=l.length:=fun l p=>by
  induction l with
  | nil=>rfl
  | cons x l ih=>cases hp:p x<;>simp[Di,hp] <;>omega
 refine⟨hb.vs,hb.vcs,hb.cs,⟨by show 1≤u1l b.2.2.2.2 t.1;have:=hb.next.1;omega,hnx⟩,hb.plen,hb.past,hb.pasc,?_,?_,?_,?_,?_⟩
 ·show((b.2.2.1.filter fun x=>y3c x.2.2.2.2.2.2.2 n)++ [u3r b t n] ++(b.2.2.1.filter fun x=> !y3c x.2.2.2.2.2.2.2 n)).length≤3
  have:=len b.2.2.1 fun x=>y3c x.2.2.2.2.2.2.2 n
  simp only[Ba,Aw]
  omega
 ·intro x hx
  rcases mem hx with hx | rfl
  ·exact hb.ready x hx
  ·exact⟨q5l ht h3 hk,rfl,hs⟩
 ·show((b.2.2.1.filter fun x=>y3c x.2.2.2.2.2.2.2 n)++ [u3r b t n] ++(b.2.2.1.filter fun x=> !y3c x.2.2.2.2.2.2.2 n)).Pairwise _
  have up:∀y∈b.2.2.1,(!y3c y.2.2.2.2.2.2.2 n)=true→y3c n y.2.2.2.2.2.2.2=true:=fun y hy h=>by
   rcases r2j y.2.2.2.2.2.2.2 n with c | c | c
   ·rw[c] at h;cases h
   ·exact absurd c (hn y hy)
   ·exact c
  rw[Bi,Cg]
  refine⟨Dz _ hb.rasc,?_,?_⟩
  ·rw[Fs,Ch]
   refine⟨fun y hy=> ?_,Dz _ hb.rasc⟩
   obtain⟨y1,y2⟩:=A6.mp hy
   exact up y y1 y2
  ·intro x hx y hy
   obtain⟨x1,x2⟩:=A6.mp hx
   rcases Ay.mp hy with hy | hy
   ·rw[Ax] at hy;subst hy;exact x2
   ·obtain⟨y1,y2⟩:=A6.mp hy
    exact r4l x2 (up y y1 y2)
 ·rw[t7p]
  intro x hx
  show x.1<u1l b.2.2.2.2 t.1
  rcases Ay.mp hx with hx | hx
  ·have:=hbl x (Bf _ hx);omega
  ·rcases mem hx with hx | rfl
   ·have:=hbl x (Az _ hx);omega
   ·exact hg.2
 ·rw[q3k]
  refine o21.mpr ⟨u1,?_,fun x hx y hy=> ?_⟩
  ·show uq ((b.2.2.1.filter fun x=>y3c x.2.2.2.2.2.2.2 n)++ [u3r b t n] ++(b.2.2.1.filter fun x=> !y3c x.2.2.2.2.2.2.2 n))
   rw[Bi]
   refine o21.mpr ⟨q0n u2 _,?_,fun x hx y hy=> ?_⟩
   ·rw[Fs]
    refine Ch.mpr ⟨fun y hy=> ?_,q0n u2 _⟩
    exact(hid y (Az _ (A6.mp hy).1)).symm
   ·obtain⟨x1,x2⟩:=A6.mp hx
    rcases Ay.mp hy with hy | hy
    ·rw[Ax] at hy;subst hy
     exact hid x (Az _ x1)
    ·obtain⟨y1,y2⟩:=A6.mp hy
     intro e
     have:=p8v u2 x x1 y y1 e
     subst this
     rw[x2] at y2;cases y2
  ·rcases mem hy with hy | rfl
   ·exact u3 x hx y hy
   ·exact hid x (Bf _ hx)
theorem r9v {b:u0i} (hb:BaseR b) (n:Hs):BaseR (t98 b n):=by
 have sp:(b.2.2.1.filter fun x=> !z7o x.2.2.2.2.2.2.2 n).Sublist b.2.2.1:=Fg
 have si:(b.2.1++(b.2.2.1.filter fun x=> !z7o x.2.2.2.2.2.2.2 n)).Sublist (b.2.1++b.2.2.1):=(Dm _).append sp
 refine⟨hb.vs,hb.vcs,hb.cs,hb.next,hb.plen,hb.past,hb.pasc,A9 sp.length_le hb.rlen,fun t h=>hb.ready t (sp.subset h),hb.rasc.sublist sp,?_,?_⟩
 ·rw[t7p]
  intro x hx
  exact t7p.mp hb.below x (si.subset hx)
 ·rw[q3k]
  exact Ez si (q3k.mp hb.nodup)
end
section
def p9o (id snap:Int):u0j:=(id,(1:Int),snap,(0:Int), [], [],false,(⟨#[]⟩:Hs))
def p5r (e:u2s):u2s:=((e.1.1,e.1.2.1,e.1.2.2.1,e.1.2.2.2.1,e.1.2.2.2.2+1),e.2++ [p9o e.1.2.2.2.2 e.1.2.2.2.1])
def q88 (e:u2s) (k:Nat) (t:u0j):u2s:=(e.1,e.2.set k t)
def s8i (e:u2s) (id:Int):Hu u0j:=e.2.filter fun x=> !decide (x.1=id)
def s1y (e:u2s) (id:Int):u2s:=(u4y e.1 (s8i e id),s8i e id)
def r8u (e:u2s) (t:u0j):u2s:=(u4y (u1n e.1 t) (s8i e t.1),s8i e t.1)
def p26 (e:u2s) (t:u0j) (n:Hs):u2s:=(u4y (u2e e.1 t n) (s8i e t.1),s8i e t.1)
def o0t (e:u2s) (t:u0j):u2s:=(u4y (u1n e.1 t) e.2,e.2)
def noE (e:u2s) (n:Hs):u2s:=(u4y (t98 e.1 n) e.2,e.2)
theorem EngR.uq {e:u2s} (h:EngR e):uq (e.1.2.1++e.1.2.2.1++e.2):=q3k.mp h.nodup
theorem EngR.bel {e:u2s} (h:EngR e):∀t∈e.1.2.1++e.1.2.2.1++e.2,t.1<e.1.2.2.2.2:=t7p.mp h.below
theorem EngR.apart {e:u2s} (h:EngR e):∀x∈e.1.2.1++e.1.2.2.1,∀y∈e.2,x.1≠y.1:=(o21.mp h.uq).2.2
theorem EngR.uqo {e:u2s} (h:EngR e):Ab.uq e.2:=(o21.mp h.uq).2.1
theorem q7k {e:u2s} {b:u0i} {o:Hu u0j} (h:EngR e) (hb:BaseR b) (ho:o.Sublist e.2) (hc:e.1.2.2.2.1≤b.2.2.2.1) (hn:e.1.2.2.2.2≤b.2.2.2.2) (hu:∀x∈b.2.1++b.2.2.1,∀y∈o,x.1≠y.1):EngR (b,o):=by
 refine⟨hb,A9 ho.length_le h.olen,fun t ht=> ?_,h.oasc.sublist ho,?_,?_⟩
 ·obtain⟨q1,q2,q3⟩:=h.open_ t (ho.subset ht)
  exact⟨q1,q2,by show t.2.2.1≤b.2.2.2.1;omega⟩
 ·rw[t7p]
  intro x hx
  rcases Ay.mp hx with hx | hx
  ·exact t7p.mp hb.below x hx
  ·have:=h.bel x (Az _ (ho.subset hx))
   show x.1<b.2.2.2.2
   omega
 ·rw[q3k]
  exact o21.mpr ⟨q3k.mp hb.nodup,Ez ho h.uqo,hu⟩
theorem s13 {b:u0i} {o:Hu u0j} {x:u0j} (h:x∈(u4y b o).2.1++(u4y b o).2.2.1):x∈b.2.1++b.2.2.1:=by
 rcases Ay.mp h with h | h
 ·exact Bf _ (A6.mp h).1
 ·exact Az _ h
theorem s3e (e:u2s) (id:Int):(s8i e id).Sublist e.2:=Fg
theorem p3d {e:u2s} {id:Int} {x:u0j} (h:x∈s8i e id):x.1≠id:=by
 have:=(A6.mp h).2
 simpa using this
theorem p6n {e:u2s} (h:EngR e) (hl:e.2.length<4) (hn:e.1.2.2.2.2<9999):EngR (p5r e):=by
 have hb:=h.base
 have n1:=hb.next.1
 have hT:TxnR (p9o e.1.2.2.2.2 e.1.2.2.2.1):=
  ⟨⟨n1,by show e.1.2.2.2.2≤9999;omega⟩,⟨by show(1:Int)≤1;omega,by show(1:Int)≤3;omega⟩,hb.cs,Cn _,rfl,fun r hr=>(by cases hr),fun e=>by have e:(1:Int)=3:=e;omega,fun _=>rfl,fun e=>by have e:(1:Int)=2:=e;omega,fun _=>rfl,fun _=>rfl⟩
 have hbel:=h.bel
 refine⟨⟨hb.vs,hb.vcs,hb.cs,⟨by show 1≤e.1.2.2.2.2+1;omega,by show e.1.2.2.2.2+1≤9999;omega⟩,hb.plen,hb.past,hb.pasc,hb.rlen,hb.ready,hb.rasc,?_,hb.nodup⟩,?_,?_,?_,?_,?_⟩
 ·rw[t7p]
  intro x hx
  have:=hbel x (Bf _ hx)
  show x.1<e.1.2.2.2.2+1
  omega
 ·show(e.2++ [_]).length≤4
  simp only[Ba,Aw];omega
 ·intro t ht
  rcases Ay.mp ht with ht | ht
  ·exact h.open_ t ht
  ·rw[Ax] at ht;subst ht
   exact⟨hT,rfl,Bv _⟩
 ·show(e.2++ [_]).Pairwise _
  rw[Cg]
  refine⟨h.oasc,Eu _ _,fun x hx y hy=> ?_⟩
  rw[Ax] at hy;subst hy
  exact hbel x (Az _ hx)
 ·rw[t7p]
  intro x hx
  show x.1<e.1.2.2.2.2+1
  have hx:x∈e.1.2.1++e.1.2.2.1++(e.2++ [p9o e.1.2.2.2.2 e.1.2.2.2.1]):=hx
  rw[←Bi] at hx
  rcases Ay.mp hx with hx | hx
  ·have:=hbel x hx;omega
  ·rw[Ax] at hx;subst hx
   show e.1.2.2.2.2<_
   omega
 ·rw[q3k]
  show uq (e.1.2.1++e.1.2.2.1++(e.2++ [p9o e.1.2.2.2.2 e.1.2.2.2.1]))
  rw[←Bi]
  refine o21.mpr ⟨h.uq,p51,fun x hx y hy=> ?_⟩
  rw[Ax] at hy;subst hy
  have:=hbel x hx
  show x.1≠e.1.2.2.2.2
  omega
theorem q7i {α β:Type} (f:α→β) (l:Hu α) (k:Nat) (a:α) (h:k<l.length) (ha:f a=f l[k]):(l.set k a).map f=l.map f:=by
 apply Gw (by simp)
 intro i h1 h2
 simp only[F6,List.getElem_set]
 split
 ·rename_i e;subst e;exact ha
 ·rfl
theorem q5n {α:Type} {l:Hu α} {k:Nat} {a x:α} (h:x∈l.set k a):x∈l∨x=a:=E0 h
theorem q7x {e:u2s} (h:EngR e) {k:Nat} (hk:k<e.2.length) {t:u0j} (ht:TxnR t) (h1:t.1=e.2[k].1) (h2:t.2.1=1) (h3:t.2.2.1=e.2[k].2.2.1):EngR (q88 e k t):=by
 have hm:u28 (e.2.set k t)=u28 e.2:=q7i _ _ _ _ hk h1
 have hid:u28 (e.1.2.1++e.1.2.2.1++e.2.set k t)=u28 (e.1.2.1++e.1.2.2.1++e.2):=by
  have:∀a b:Hu u0j,u28 (a++b)=u28 a++u28 b:=fun a b=>by simp[u28]
  rw[this,hm,←this]
 refine⟨h.base,by show(e.2.set k t).length≤4;rw[Dq];exact h.olen,fun x hx=> ?_,?_,?_,?_⟩
 ·rcases q5n hx with hx | rfl
  ·exact h.open_ x hx
  ·have:=(h.open_ _ (Ag hk)).2.2
   exact⟨ht,h2,by rw[h3];exact this⟩
 ·have q:(u28 (e.2.set k t)).Pairwise fun a b=>a<b:=by
   rw[hm];unfold u28;rw[Dl];exact h.oasc
  unfold u28 at q
  rw[Dl] at q
  exact q
 ·show ∀x∈u28 (e.1.2.1++e.1.2.2.1++e.2.set k t),x<e.1.2.2.2.2
  rw[hid];exact h.below
 ·show(u28 (e.1.2.1++e.1.2.2.1++e.2.set k t)).Nodup
  rw[hid];exact h.nodup
theorem p6u {e:u2s} (h:EngR e) (id:Int):EngR (s1y e id):=
 q7k h (t5l h.base _) (s3e e id) (Bv _) (Bv _) fun x hx y hy=>h.apart x (s13 hx) y ((s3e e id).subset hy)
theorem q47 {b:u0i} (h:r5r b=false):b.2.1.length<12∧b.1.length≤100∧b.2.2.2.1<9999:=by
 unfold r5r at h
 simp only[Es,Bu] at h
 obtain⟨h1,h2,h3⟩:=h
 exact⟨by omega,by omega,by omega⟩
theorem s88 {e:u2s} (h:EngR e) {t:u0j} (ht:t∈e.2∨t∈e.1.2.2.1) (hf:r5r e.1=false):BaseR (u1n e.1 t):=by
 obtain⟨f1,f2,f3⟩:=q47 hf
 have hq:TxnR t∧t.2.2.1≤e.1.2.2.2.1:=by
  rcases ht with ht | ht
  ·exact⟨(h.open_ t ht).1,(h.open_ t ht).2.2⟩
  ·exact⟨(h.base.ready t ht).1,(h.base.ready t ht).2.2⟩
 have hlt:t.1<e.1.2.2.2.2:=by
  rcases ht with ht | ht
  ·exact h.bel t (Az _ ht)
  ·exact h.bel t (Bf _ (Az _ ht))
 refine q71 h.base hq.1 hq.2 f3 f1 (by omega) (fun x hx=> ?_) (by have:=h.base.next.2;omega)
 rcases ht with ht | ht
 ·exact h.apart x (Bf _ hx) t ht
 ·exact(o21.mp (o21.mp h.uq).1).2.2 x hx t ht
theorem q0l {b:u0i} {t x:u0j} (h:x∈(u1n b t).2.1++(u1n b t).2.2.1):x.1=t.1∨ ∃y∈b.2.1++b.2.2.1,y.1=x.1:=by
 rcases Ay.mp h with h | h
 ·rcases Ay.mp h with h | h
  ·exact .inr ⟨x,Bf _ h,rfl⟩
  ·rw[Ax] at h;subst h;exact .inl rfl
 ·obtain⟨y,hy,rfl⟩:=Bx.mp h
  exact .inr ⟨y,Az _ (A6.mp hy).1,rfl⟩
theorem p38 {e:u2s} (h:EngR e) {t:u0j} (ht:t∈e.2) (hf:r5r e.1=false):EngR (r8u e t):=by
 have hg:=t5u e.1.2.2.2.2 t.1
 refine q7k h (t5l (s88 h (.inl ht) hf) _) (s3e e t.1) (by show e.1.2.2.2.1≤e.1.2.2.2.1+1;omega) hg.1 fun x hx y hy=> ?_
 rcases q0l (s13 hx) with q | ⟨z,hz,q⟩
 ·rw[q];exact(p3d hy).symm
 ·rw[←q];exact h.apart z hz y ((s3e e t.1).subset hy)
theorem o0u {e:u2s} (h:EngR e) {t:u0j} (ht:t∈e.1.2.2.1) (hf:r5r e.1=false):EngR (o0t e t):=by
 have hg:=t5u e.1.2.2.2.2 t.1
 refine q7k h (t5l (s88 h (.inr ht) hf) _) (Dm _) (by show e.1.2.2.2.1≤e.1.2.2.2.1+1;omega) hg.1 fun x hx y hy=> ?_
 rcases q0l (s13 hx) with q | ⟨z,hz,q⟩
 ·rw[q];exact h.apart t (Az _ ht) y hy
 ·rw[←q];exact h.apart z hz y hy
theorem o3i {e:u2s} (h:EngR e) (n:Hs):EngR (noE e n):=by
 refine q7k h (t5l (r9v h.base n) _) (Dm _) (Bv _) (Bv _) fun x hx y hy=> ?_
 rcases Ay.mp (s13 hx) with hx | hx
 ·exact h.apart x (Bf _ hx) y hy
 ·exact h.apart x (Az _ (A6.mp hx).1) y hy
theorem p8q {e:u2s} (h:EngR e) {t:u0j} (ht:t∈e.2) {n:Hs} (hk:u4z n=true) (hl:e.1.2.2.1.length<3) (hn:∀x∈e.1.2.2.1,x.2.2.2.2.2.2.2≠n):EngR (p26 e t n):=by
 obtain⟨q1,q2,q3⟩:=h.open_ t ht
 have hlt:=h.bel t (Az _ ht)
 have hg:=t5u e.1.2.2.2.2 t.1
 have hb:BaseR (u2e e.1 t n):=r2e h.base q1 (by omega) q3 hk hl hn (fun x hx=>h.apart x hx t ht) (by have:=h.base.next.2;omega)
 refine q7k h (t5l hb _) (s3e e t.1) (Bv _) hg.1 fun x hx y hy=> ?_
 have hy' :=(s3e e t.1).subset hy
 rcases Ay.mp (s13 hx) with hx | hx
 ·exact h.apart x (Bf _ hx) y hy'
 ·rcases Ay.mp hx with hx | hx
  ·rcases Ay.mp hx with hx | hx
   ·exact h.apart x (Az _ (A6.mp hx).1) y hy'
   ·rw[Ax] at hx;subst hx;exact(p3d hy).symm
  ·exact h.apart x (Az _ (A6.mp hx).1) y hy'
end
section
def t6t (n:Nat):Hu Int:=if h:n<128 then[(n:Int)] else((n % 128+128:Nat):Int)::t6t (n / 128)
termination_by n
decreasing_by omega
theorem s8n {n:Nat} (h:n<128):t6t n= [(n:Int)] :=by rw[t6t,dif_pos h]
theorem r53 {n:Nat} (h: ¬n<128):t6t n=((n % 128+128:Nat):Int)::t6t (n / 128):=by rw[t6t,dif_neg h]
theorem p0d (n:Nat):(t6t n).length≤n+1:=by
 induction n using Nat.strongRecOn with
 | _ n ih=>
  by_cases h:n<128
  ·rw[s8n h];simp
  ·rw[r53 h]
   have:=ih (n / 128) (by omega)
   simp only[Bc];omega
theorem p0e {S:Type} {W:Int×Hu Int→Ht ((Int×Hu Int)⊕S)}
 (hW:∀x,W x=(bif (decide (x.1 >(127:Int))) then(bif (Nat.ble (x.2.length+([(IntKind.u8.wrap (IntKind.i64.wrap ((Int.tmod x.1 (128:Int))+(128:Int))))] :Hu Int).length) z7w) then
  (W ((IntKind.i64.wrap (Int.tdiv x.1 (128:Int))),(x.2++([(IntKind.u8.wrap (IntKind.i64.wrap ((Int.tmod x.1 (128:Int))+(128:Int))))] :Hu Int)))) else none) else(some (.inl x)))):
 ∀(n:Nat) (acc:Hu Int),acc.length+n≤1000000000000→ ∃m:Nat,∃acc' :Hu Int,W ((n:Int),acc)=some (.inl ((m:Int),acc'))∧m<128∧acc' ++ [(m:Int)] =acc++t6t n∧acc'.length≤acc.length+n:=by
 intro n
 induction n using Nat.strongRecOn with
 | _ n ih=>
  intro acc hn
  rw[hW]
  by_cases h:n<128
  ·have:decide ((n:Int) >(127:Int))=false:=by simp;omega
   simp only[this,Aa]
   exact⟨n,acc,rfl,h,by rw[s8n h],by omega⟩
  ·have h1:decide ((n:Int) >(127:Int))=true:=by simp;omega
   have h2:Int.tmod (n:Int) (128:Int)=((n % 128:Nat):Int):=p1k n 128
   have h3:Int.tdiv (n:Int) (128:Int)=((n / 128:Nat):Int):=p8t n 128
   have h4:IntKind.u8.wrap (IntKind.i64.wrap (((n % 128:Nat):Int)+(128:Int)))=((n % 128+128:Nat):Int):=by
    rw[y4y (by omega) (by omega)]
    have:((n % 128:Nat):Int)+128=((n % 128+128:Nat):Int):=by simp
    rw[this,p5e (by omega)]
   simp only[h1,h2,h3,h4,Ad,Aw,u1c (show acc.length+1≤1099511627776 by omega)]
   rw[y8b (by omega)]
   obtain⟨m,acc',e1,e2,e3,e4⟩:=ih (n / 128) (by omega) (acc++ [((n % 128+128:Nat):Int)]) (by simp;omega)
   refine⟨m,acc',e1,e2,?_,?_⟩
   ·rw[e3,r53 h,Bi];rfl
   ·have:(acc++ [((n % 128+128:Nat):Int)]).length=acc.length+1:=by simp
    omega
theorem r9y (n:Nat) (hn:n≤100000000000):u1d (n:Int)=some (y7g (t6t n)):=by
 rw[q4v];unfold r3g
 obtain⟨m,acc',e1,e2,e3,e4⟩:=p0e (W:=t3e) (fun x=>q0p x) n [] (by simp;omega)
 have e4:acc'.length≤n:=by simpa using e4
 simp only[e1,zOb,Aw,u1c (show acc'.length+1≤1099511627776 by omega),Ad]
 rw[p5e (by omega),e3];rfl
theorem s6m (n:Int):u7u n=some (if 0≤n∧n≤1000000000 then(y7g (t6t n.toNat),true) else(emp,false)):=by
 rw[q05];unfold s9t
 simp only[r4y,s7w,zOb]
 by_cases h:0≤n∧n≤1000000000
 ·obtain⟨m,rfl⟩:∃m:Nat,n=m:=⟨n.toNat,by omega⟩
  obtain⟨k,acc',e1,e2,e3,e4⟩:=p0e (W:=t11) (fun x=>r74 x) m [] (by simp;omega)
  have e4:acc'.length≤m:=by simpa using e4
  rw[Bb h,Al h]
  simp only[e1,zOb,Ap,Aa,Aw,u1c (show acc'.length+1≤1099511627776 by omega),Ad]
  rw[p5e (by omega),e3];rfl
 ·rw[A7 h,Ao h];rfl
def s3j:Nat→Nat→Nat→Hu UInt8→Ht (Nat×Nat)
 | 0,_,_,_=>none
 | _+1,_,_, [] =>none
 | f+1,i,n,b::l=>
  if b.toNat<128 then(if n+b.toNat % 128*128^i≤1000000000∧(t6t (n+b.toNat % 128*128^i)).length=i+1 then some (n+b.toNat % 128*128^i,i+1) else none)
  else s3j f (i+1) (n+b.toNat % 128*128^i) l
def r4u (at_:Int) (r:Ht (Nat×Nat)):Int×Int×Bool:=match r with
 | some (n,k)=>((n:Int),at_+(k:Int),true)
 | none=>(0,0,false)
def u0q (t:Hs) (at_:Int):Int×Int×Bool:=if 0≤at_∧at_≤t.size then r4u at_ (s3j 5 0 0 (t.data.toList.drop at_.toNat)) else(0,0,false)
theorem q5s:∀(f i n:Nat) (l:Hu UInt8) (v k:Nat),s3j f i n l=some (v,k)→v≤1000000000∧k≤i+l.length∧i<k
 | 0,_,_,_,_,_,h=>by cases h
 | _+1,_,_, [],_,_,h=>by cases h
 | f+1,i,n,b::l,v,k,h=>by
  simp only[s3j] at h
  split at h
  ·split at h
   ·rename_i h2
    simp only[Ac,Ak] at h
    obtain⟨rfl,rfl⟩:=h
    exact⟨h2.1,by simp,by omega⟩
   ·cases h
  ·have:=q5s f (i+1) _ l v k h
   simp only[Bc]
   omega
theorem t20 {t:Hs} {at_:Int} (h:(u0q t at_).2.2=true):0≤(u0q t at_).1∧(u0q t at_).1≤1000000000∧0≤at_∧at_<(u0q t at_).2.1∧(u0q t at_).2.1≤t.size:=by
 unfold u0q at h ⊢
 split at h
 ·rename_i hc
  rw[Al hc]
  cases hv:s3j 5 0 0 (t.data.toList.drop at_.toNat) with
  | none=>rw[hv] at h;cases h
  | some r=>
   obtain⟨v,k⟩:=r
   have:=q5s 5 0 0 _ v k hv
   have hl:(t.data.toList.drop at_.toNat).length=t.size - at_.toNat:=by simp
   simp only[r4u]
   omega
 ·cases h
theorem p8o (i:Nat) (h:i<5):(2:Int)^(min (IntKind.i64.wrap (7*(i:Int))).toNat IntKind.i64.bits)=((128^i:Nat):Int):=by
 rcases i with _ | _ | _ | _ | _ | i
 all_goals first | rfl | omega
theorem p5y (i:Nat) (h:i≤5):128^i≤34359738368:=by
 rcases i with _ | _ | _ | _ | _ | _ | i
 all_goals first | decide | omega
theorem r58 (t:Hs) (at_:Int) (ht:t.size≤u0l):t46 (t,at_)=some (u0q t at_):=by
 unfold u0l at ht
 rw[q02];unfold s9q u0q
 simp only[r4y,s7w,zOb]
 by_cases h:0≤at_∧at_≤t.size
 ·obtain⟨p,rfl⟩:∃p:Nat,at_=p:=⟨at_.toNat,by omega⟩
  have hp:p≤t.size:=by omega
  rw[Bb h,Al h]
  have L:∀(f i n:Nat),i+f=5→n<128^i→p+i≤t.size→((t1x (t,(p:Int),(n:Int),(i:Int))).bind fun r=>match r with
   | .inl o=>some ((0:Int),(0:Int),false)
   | .inr z=>some z)=some (r4u p (s3j f i n (t.data.toList.drop (p+i)))):=by
   intro f
   induction f with
   | zero=>
    intro i n hi hn hpi
    have:i=5:=by omega
    subst this
    rw[s5i];simp only[t08]
    rfl
   | succ f ih=>
    intro i n hi hn hpi
    have hi5:i<5:=by omega
    have hpw:=p5y i (by omega)
    rw[s5i];simp only[t08]
    have w1:IntKind.i64.wrap ((p:Int)+(i:Int))=((p+i:Nat):Int):=by rw[y4y (by omega) (by omega)];simp
    have e1:decide ((i:Int)<(5:Int))=true:=by simp;omega
    by_cases hlt:p+i<t.size
    ·have hd:t.data.toList.drop (p+i)=(t.data.toList[p+i]'(by simpa using hlt))::t.data.toList.drop (p+i+1):=Ce (by simpa using hlt)
     have hb:(t.data.toList[p+i]'(by simpa using hlt)).toNat<256:=Fw _
     rw[hd]
     generalize hc:(t.data.toList[p+i]'(by simpa using hlt))=c at hb
     have e2:decide (((p+i:Nat):Int)<(t.size:Int))=true:=by simp;omega
     have e3:decide (0≤IntKind.i64.wrap (7*(i:Int)))=true:=by rw[y4y (by omega) (by omega)];simp;omega
     have t2:Int.tmod ((c.toNat:Nat):Int) (128:Int)=((c.toNat % 128:Nat):Int):=p1k _ 128
     have hm:c.toNat % 128*128^i≤127*34359738368:=Ei (by omega) hpw
     have w2:IntKind.i64.wrap (((c.toNat % 128:Nat):Int)*((128^i:Nat):Int))=((c.toNat % 128*128^i:Nat):Int):=by
      rw[←Int.natCast_mul];exact y8b (by omega)
     have w3:IntKind.i64.wrap ((n:Int)+((c.toNat % 128*128^i:Nat):Int))=((n+c.toNat % 128*128^i:Nat):Int):=by
      rw[←Int.natCast_add];exact y8b (by omega)
     simp only[e1,Ad,zOb,w1,e2,y7t hlt,e3,zTn,q9v hlt,hc,y8b (show c.toNat≤4611686018427387904 by omega),t2,p8o i hi5,w2,w3,s3j]
     by_cases hc1:c.toNat<128
     ·have e4:decide (((c.toNat:Nat):Int)<(128:Int))=true:=by simp;omega
      simp only[e4,Ad,Al hc1,s6m,zOb]
      have wi:IntKind.i64.wrap ((i:Int)+1)=((i+1:Nat):Int):=y7l (by omega)
      by_cases hv:n+c.toNat % 128*128^i≤1000000000
      ·rw[Al (show(0:Int)≤((n+c.toNat % 128*128^i:Nat):Int)∧((n+c.toNat % 128*128^i:Nat):Int)≤1000000000 by omega)]
       simp only[Ap,Aa,zTn,u21,wi,zOb]
       by_cases hl:(t6t (n+c.toNat % 128*128^i)).length=i+1
       ·rw[Al ⟨hv,hl⟩,hl]
        simp only[Ae,Ap,Aa,zOb,r4u]
        rw[y4y (by omega) (by omega)]
        simp[Int.add_assoc]
       ·rw[Ao (fun hh=>hl hh.2)]
        rw[A7 (show ¬(((t6t (n+c.toNat % 128*128^i)).length:Nat):Int)=((i+1:Nat):Int) by omega)]
        rfl
      ·rw[Ao (show ¬((0:Int)≤((n+c.toNat % 128*128^i:Nat):Int)∧((n+c.toNat % 128*128^i:Nat):Int)≤1000000000) by omega),Ao (fun hh=>hv hh.1)]
       rfl
     ·have e4:decide (((c.toNat:Nat):Int)<(128:Int))=false:=by simp;omega
      simp only[e4,Aa,Ao hc1]
      rw[y7l (by omega)]
      have:=ih (i+1) (n+c.toNat % 128*128^i) (by omega) (by
       have:128^(i+1)=128^i*128:=Gr 128 i
       have h2:c.toNat % 128*128^i≤127*128^i:=Ei (by omega) (Au _)
       omega) (by omega)
      exact this
    ·have e2:decide (((p+i:Nat):Int)<(t.size:Int))=false:=by simp;omega
     have hd:t.data.toList.drop (p+i)= [] :=Dp (by simp;omega)
     rw[hd]
     simp only[e1,Ad,w1,e2,zOb,Aa,s3j]
     rfl
  exact L 5 0 0 rfl (by decide) (by omega)
 ·rw[A7 h,Ao h];rfl
def q3l:Hu UInt8→Nat
 | [] =>0
 | b::l=>b.toNat % 128+128*q3l l
theorem p3n (l:Hu UInt8) (b:UInt8):q3l (l++ [b])=q3l l+b.toNat % 128*128^l.length:=by
 induction l with
 | nil=>simp[q3l]
 | cons x l ih=>
  simp only[Ef,q3l,ih,Bc,Gr]
  rw[Nat.mul_add]
  have:128*(b.toNat % 128*128^l.length)=b.toNat % 128*(128^l.length*128):=by
   rw[Fk 128,Nat.mul_assoc]
  omega
theorem p65 (l:Hu UInt8) (b:UInt8) (hl:∀x∈l,¬x.toNat<128) (hb:b.toNat<128) (h:(t6t (q3l (l++ [b]))).length=l.length+1):t6t (q3l (l++ [b]))=(l++ [b]).map fun x=>(x.toNat:Int):=by
 induction l with
 | nil=>
  have:q3l ([] ++ [b])=b.toNat:=by simp[q3l];omega
  rw[this,s8n hb];rfl
 | cons x l ih=>
  have hx:x.toNat<256:=Fw x
  have hx2:=hl x (by simp)
  simp only[Ef,q3l] at h ⊢
  by_cases hs:x.toNat % 128+128*q3l (l++ [b])<128
  ·rw[s8n hs] at h
   simp at h
  ·rw[r53 hs] at h ⊢
   have e1:(x.toNat % 128+128*q3l (l++ [b])) / 128=q3l (l++ [b]):=by omega
   have e2:(x.toNat % 128+128*q3l (l++ [b])) % 128+128=x.toNat:=by omega
   rw[e1] at h ⊢
   rw[e2]
   simp only[Bc,Nat.add_right_cancel_iff] at h
   rw[ih (fun y hy=>hl y (by simp[hy])) h]
   rfl
theorem p47 (l:Hu UInt8):y7g (l.map fun x=>(x.toNat:Int))=⟨l.toArray⟩:=by
 unfold y7g
 simp only[List.map_map]
 have:(l.map ((fun n=>UInt8.ofNat n.toNat) ∘fun b=>(b.toNat:Int)))=l:=by
  conv=>rhs;rw[←List.map_id l]
  apply Ff
  intro b _
  simp
 rw[this]
theorem r6w (t:Hs) (a b:Nat) (h:b≤t.size):t.extract a b=⟨((t.data.toList.drop a).take (b - a)).toArray⟩:=by
 apply Gf
 simp only[ByteArray.data_extract]
 apply Fj
 simp[F7]
theorem p8e {q:Nat} (h:q≤1000000000):decide ((q:Int) >(1000000000:Int))=false:=by simp;omega
theorem p8b {q:Nat} (h: ¬q≤1000000000):decide ((q:Int) >(1000000000:Int))=true:=by simp;omega
theorem r59 (t:Hs) (at_:Int) (ht:t.size≤u0l):t5e (t,at_)=some (u0q t at_):=by
 unfold u0l at ht
 rw[q1j];unfold s97 u0q
 simp only[t45,s7w,zOb]
 by_cases h:0≤at_∧at_≤t.size
 ·obtain⟨p,rfl⟩:∃p:Nat,at_=p:=⟨at_.toNat,by omega⟩
  have hp:p≤t.size:=by omega
  rw[Bb h,Al h]
  have L:∀(f i:Nat),i+f=5→p+i≤t.size→(∀x∈(t.data.toList.drop p).take i,¬x.toNat<128)→q3l ((t.data.toList.drop p).take i)<128^i→
   ((t13 (t,(p:Int),((q3l ((t.data.toList.drop p).take i):Nat):Int),((128^i:Nat):Int),((p+i:Nat):Int))).bind fun r=>match r with
   | .inl o=>some ((0:Int),(0:Int),false)
   | .inr z=>some z)=some (r4u p (s3j f i (q3l ((t.data.toList.drop p).take i)) (t.data.toList.drop (p+i)))):=by
   intro f
   induction f with
   | zero=>
    intro i hi hpi hall hn
    have:i=5:=by omega
    subst this
    rw[s5x];simp only[t1m]
    have e1:decide (((p+5:Nat):Int)<IntKind.i64.wrap ((p:Int)+5))=false:=by rw[y4y (by omega) (by omega)];simp
    rw[e1]
    cases decide (((p+5:Nat):Int)<(t.size:Int))<;>rfl
   | succ f ih=>
    intro i hi hpi hall hn
    have hi5:i<5:=by omega
    have hpw:=p5y i (by omega)
    rw[s5x];simp only[t1m]
    have e1:decide (((p+i:Nat):Int)<IntKind.i64.wrap ((p:Int)+5))=true:=by rw[y4y (by omega) (by omega)];simp;omega
    by_cases hlt:p+i<t.size
    ·have hd:t.data.toList.drop (p+i)=(t.data.toList[p+i]'(by simpa using hlt))::t.data.toList.drop (p+i+1):=Ce (by simpa using hlt)
     have hb:(t.data.toList[p+i]'(by simpa using hlt)).toNat<256:=Fw _
     have htk:(t.data.toList.drop p).take (i+1)=(t.data.toList.drop p).take i++ [t.data.toList[p+i]'(by simpa using hlt)] :=by
      rw[B9 (by simp;omega)]
      simp
     have htl:((t.data.toList.drop p).take i).length=i:=by simp;omega
     have hvs:=p3n ((t.data.toList.drop p).take i) (t.data.toList[p+i]'(by simpa using hlt))
     rw[htl] at hvs
     rw[hd]
     generalize hc:(t.data.toList[p+i]'(by simpa using hlt))=c at hb htk hvs
     generalize hn' :q3l ((t.data.toList.drop p).take i)=n at hn hvs ⊢
     have e2:decide (((p+i:Nat):Int)<(t.size:Int))=true:=by simp;omega
     have t2:Int.tmod ((c.toNat:Nat):Int) (128:Int)=((c.toNat % 128:Nat):Int):=p1k _ 128
     have hm:c.toNat % 128*128^i≤127*34359738368:=Ei (by omega) hpw
     have w2:IntKind.i64.wrap (((c.toNat % 128:Nat):Int)*((128^i:Nat):Int))=((c.toNat % 128*128^i:Nat):Int):=by
      rw[←Int.natCast_mul];exact y8b (by omega)
     have w3:IntKind.i64.wrap ((n:Int)+((c.toNat % 128*128^i:Nat):Int))=((n+c.toNat % 128*128^i:Nat):Int):=by
      rw[←Int.natCast_add];exact y8b (by omega)
     have wp:IntKind.i64.wrap (((p+i:Nat):Int)+1)=((p+i+1:Nat):Int):=y7l (by omega)
     have ws:IntKind.i64.wrap (((128^i:Nat):Int)*128)=((128^(i+1):Nat):Int):=by
      rw[Gr,Int.natCast_mul]
      exact y4y (by omega) (by omega)
     simp only[e1,e2,Ad,zOb,y7t hlt,zTn,q9v hlt,hc,y8b (show c.toNat≤4611686018427387904 by omega),t2,w2,w3,wp,ws,s3j]
     by_cases hc1:c.toNat<128
     ·have e4:decide (((c.toNat:Nat):Int)<(128:Int))=true:=by simp;omega
      simp only[e4,Ad,Al hc1]
      by_cases hv:n+c.toNat % 128*128^i≤1000000000
      ·have e5:decide (((n+c.toNat % 128*128^i:Nat):Int) >(1000000000:Int))=false:=p8e hv
       have e6:(decide (0≤(p:Int))&&decide ((p:Int)≤((p+i+1:Nat):Int))&&decide (((p+i+1:Nat):Int)≤(t.size:Int)))=true:=by simp;omega
       simp only[e5,Aa,r9y _ (show n+c.toNat % 128*128^i≤100000000000 by omega),zOb,e6,Ad]
       have hx:t.extract p (p+i+1)=⟨((t.data.toList.drop p).take (i+1)).toArray⟩:=by
        rw[r6w t p (p+i+1) (by omega)]
        have:p+i+1 - p=i+1:=by omega
        rw[this]
       rw[hx]
       have hv' :n+c.toNat % 128*128^i=q3l ((t.data.toList.drop p).take i++ [c]):=hvs.symm
       by_cases hl:(t6t (n+c.toNat % 128*128^i)).length=i+1
       ·rw[Al ⟨hv,hl⟩]
        have key:t6t (n+c.toNat % 128*128^i)=((t.data.toList.drop p).take (i+1)).map fun x=>(x.toNat:Int):=by
         rw[hv',htk]
         exact p65 _ c hall hc1 (by rw[←hv',hl,htl])
        rw[key,p47,y6l]
        simp only[Ap,Aa,zOb,r4u]
        simp[Int.add_assoc]
       ·rw[Ao (fun hh=>hl hh.2)]
        have hne:z7o (y7g (t6t (n+c.toNat % 128*128^i))) ⟨((t.data.toList.drop p).take (i+1)).toArray⟩=false:=by
         rw[←Ey,y7f]
         intro hh
         have:=Dj ByteArray.size hh
         rw[u21] at this
         apply hl
         rw[this]
         show((t.data.toList.drop p).take (i+1)).toArray.size=_
         simp;omega
        rw[hne];rfl
      ·have e5:decide (((n+c.toNat % 128*128^i:Nat):Int) >(1000000000:Int))=true:=p8b hv
       rw[Ao (fun hh=>hv hh.1),e5];rfl
     ·have e4:decide (((c.toNat:Nat):Int)<(128:Int))=false:=by simp;omega
      simp only[e4,Aa,Ao hc1]
      have:=ih (i+1) (by omega) (by omega) (by
       rw[htk]
       intro x hx
       rcases Ay.mp hx with hx | hx
       ·exact hall x hx
       ·simp at hx;rw[hx];exact hc1) (by
       rw[htk,hvs]
       have:128^(i+1)=128^i*128:=Gr 128 i
       have h2:c.toNat % 128*128^i≤127*128^i:=Ei (by omega) (Au _)
       omega)
      rw[htk,hvs] at this
      exact this
    ·have e2:decide (((p+i:Nat):Int)<(t.size:Int))=false:=by simp;omega
     have hd:t.data.toList.drop (p+i)= [] :=Dp (by simp;omega)
     rw[hd]
     simp only[e2,zOb,Aa,s3j]
     rfl
  exact L 5 0 rfl (by omega) (by simp) (by simp[q3l])
 ·rw[A7 h,Ao h];rfl
end
section
def u0p (t:Hs) (at_:Int):Hs×Int×Bool:=
 if(u0q t at_).2.2=true∧(u0q t at_).1≤20000∧(u0q t at_).1≤(t.size:Int) - (u0q t at_).2.1 then
  (t.extract (u0q t at_).2.1.toNat ((u0q t at_).2.1+(u0q t at_).1).toNat,(u0q t at_).2.1+(u0q t at_).1,true)
 else(emp,0,false)
theorem s8f {t:Hs} {at_:Int} (h:(u0p t at_).2.2=true):0≤(u0p t at_).2.1∧(u0p t at_).2.1≤t.size:=by
 unfold u0p at h ⊢
 split at h
 ·rename_i hc
  rw[Al hc]
  have:=t20 hc.1
  simp only
  omega
 ·cases h
theorem q3e (t:Hs) (at_:Int) (ht:t.size≤u0l):
 (((bif (!(u0q t at_).2.2) then(some true) else(bif (decide ((u0q t at_).1 >(20000:Int))) then(some true) else(some (decide ((u0q t at_).1 >(IntKind.i64.wrap ((t.size:Int) - (u0q t at_).2.1))))))):Ht Bool).bind fun j2=>
  (bif j2 then(some ((⟨#[]⟩:Hs),((0:Int),false))) else(bif (decide (0≤(u0q t at_).2.1)&&decide ((u0q t at_).2.1≤(IntKind.i64.wrap ((u0q t at_).2.1+(u0q t at_).1)))&&decide ((IntKind.i64.wrap ((u0q t at_).2.1+(u0q t at_).1))≤(t.size:Int))) then
   (some ((t.extract ((u0q t at_).2.1).toNat ((IntKind.i64.wrap ((u0q t at_).2.1+(u0q t at_).1))).toNat),((IntKind.i64.wrap ((u0q t at_).2.1+(u0q t at_).1)),true))) else none)))=some (u0p t at_):=by
 unfold u0l at ht
 unfold u0p
 cases ho:(u0q t at_).2.2 with
 | false=>rfl
 | true=>
  have hk:=t20 ho
  rw[y4y (n:=(t.size:Int) - (u0q t at_).2.1) (by omega) (by omega),y4y (n:=(u0q t at_).2.1+(u0q t at_).1) (by omega) (by omega)]
  by_cases h1:(u0q t at_).1 >20000
  ·rw[Ao (by omega),Bb h1];rfl
  ·rw[A7 h1]
   by_cases h2:(u0q t at_).1 >(t.size:Int) - (u0q t at_).2.1
   ·rw[Ao (by omega),Bb h2];rfl
   ·rw[Al ⟨rfl,by omega,by omega⟩,A7 h2]
    simp only[Ap,Aa,zOb]
    rw[Bb (show 0≤(u0q t at_).2.1 by omega),Bb (show(u0q t at_).2.1≤(u0q t at_).2.1+(u0q t at_).1 by omega),Bb (show(u0q t at_).2.1+(u0q t at_).1≤(t.size:Int) by omega)]
    rfl
theorem s9o (t:Hs) (at_:Int) (ht:t.size≤u0l):t2e (t,at_)=some (u0p t at_):=by
 rw[r7u];unfold s34
 simp only[r59 t at_ ht,zOb]
 exact q3e t at_ ht
theorem q0x (t:Hs) (at_:Int) (ht:t.size≤u0l):t57 (t,at_)=some (u0p t at_):=by
 rw[r7g];unfold s3q
 simp only[r58 t at_ ht,zOb]
 exact q3e t at_ ht
def r7f (t:Hs):Int:=((t.data.toList.getD 0 0).toNat:Int)
theorem q35 (t:Hs):0≤r7f t∧r7f t<256:=by
 unfold r7f
 have:(t.data.toList.getD 0 0).toNat<256:=Fw _
 omega
def u3b (d:u0k) (s:Int):Int:=r7f (u0h d s).1
theorem p1g {d:u0k} {s:Int} (h:(u0h d s).2=false):(u0h d s).1=emp:=by
 unfold u0h at h ⊢
 split at h
 ·cases h
 ·rename_i hc;rw[Ao hc]
theorem p03 (r:Hs×Bool) (h:r.2=false→r.1=emp):
 (((bif (!r.2) then(some true) else(some (z7o r.1 (⟨#[]⟩:Hs)))):Ht Bool).bind fun j2=>(bif j2 then(some (0:Int)) else(bif (y4q (0:Int) r.1.size) then(some (IntKind.i64.wrap ((r.1.data.toList.getD ((0:Int)).toNat 0).toNat:Int))) else none)))=some (r7f r.1):=by
 obtain⟨t,o⟩:=r
 cases o with
 | false=>
  have:t=emp:=h rfl
  subst this;rfl
 | true=>
  simp only[Ap,Aa,zOb]
  by_cases he:t=emp
  ·subst he
   have:z7o emp (⟨#[]⟩:Hs)=true:=y6l emp
   simp only[this,Ad];rfl
  ·have h1:z7o t (⟨#[]⟩:Hs)=false:=by
    rw[←Ey,y7f];exact he
   have h2:t.size≠0:=by
    intro hz
    apply he
    apply Gf
    apply Fi
    exact hz
   have h3:y4q (0:Int) t.size=true:=by simp[y4q];omega
   have hb:(t.data.toList.getD 0 0).toNat<256:=Fw _
   simp only[h1,Aa,h3,Ad,Ho]
   rw[y8b (by omega)];rfl
theorem s7x (d:u0k) (s:Int) (hd:o3d.wt d≤u0l):t00 (d,s)=some (u3b d s):=by
 rw[q1x];unfold r0m
 simp only[t7c d s hd,zOb]
 exact p03 _ (fun h=>p1g h)
def u0z (d:u0k):Int:=Int.tmod (u3b d 0) 2
theorem t2k (d:u0k):u0z d=0∨u0z d=1:=by
 have:=q35 (u0h d 0).1
 unfold u0z u3b
 have e:=Int.tmod_eq_emod_of_nonneg (b:=2) this.1
 rw[e];omega
theorem s2o (d:u0k) (hd:o3d.wt d≤u0l):u84 d=some (u0z d):=by
 rw[r87];unfold s6z
 simp only[s7x d 0 hd,zOb];rfl
def p07 (a:Int):Bool:=decide (a=0) || decide (a=1)
def u0e (a:Int):Int:=if p07 a then 1+a*48 else 0
theorem p4g {a:Int} :p07 a=true↔a=0∨a=1:=by simp[p07]
theorem t9a (a:Int):0≤u0e a∧u0e a≤49:=by
 unfold u0e
 split
 ·rename_i h;have:=p4g.mp h;omega
 ·omega
theorem s83 (a:Int):u0r (a,0,1)=some (p07 a):=by
 rw[t45,s7w]
 congr 1
 rw[Cd,p4g,decide_eq_true_iff];omega
theorem t4n (a:Int):u46 a=some (u0e a):=by
 rw[r7o];unfold s3y u0e
 simp only[s83,zOb]
 cases h:p07 a with
 | false=>rfl
 | true=>
  have:=p4g.mp h
  simp only[Ap,Aa,Bl]
  rw[y4y (n:=a*48) (by omega) (by omega),y4y (by omega) (by omega)]
def u05 (d:u0k) (a:Int):Int:=if p07 a then u3b d (u0e a) else 0
theorem r49 (d:u0k) (a:Int):0≤u05 d a∧u05 d a<256:=by
 unfold u05
 split
 ·exact q35 _
 ·omega
theorem t8y (d:u0k) (a:Int) (hd:o3d.wt d≤u0l):t0x (d,a)=some (u05 d a):=by
 rw[q1a];unfold s9y u05
 simp only[s83,t4n,s7x d _ hd,zOb]
 cases p07 a<;>rfl
def u5j (t:Hs):Nat→Int→Hu Hs→Hu Hs×Int×Bool
 | 0,at_,acc=>(acc,at_,true)
 | m+1,at_,acc=>if(u0p t at_).2.2&& !z7o (u0p t at_).1 emp then u5j t m (u0p t at_).2.1 (acc++ [(u0p t at_).1]) else([],0,false)
def u0c (d:u0k) (a:Int):Hu Hs×Int×Bool:=
 if p07 a&&(u9a d (u0e a+1) 47).2 then u5j (u9a d (u0e a+1) 47).1 (u05 d a).toNat 0 [] else([],0,false)
theorem q3d (d:u0k) (from_:Int):∀(m i:Nat) (acc:Hs),(r50 d from_ m i acc).1.size≤acc.size+m*o3d.wt d
 | 0,i,acc=>by simp[r50]
 | m+1,i,acc=>by
  unfold r50
  split
  ·have h1:=q3d d from_ m (i+1) (acc++(u0h d (from_+(i:Int))).1)
   have h2:=r63 d (from_+(i:Int))
   rw[Af] at h1
   have:(m+1)*o3d.wt d=m*o3d.wt d+o3d.wt d:=C7 _ _
   omega
  ·show 0≤_;omega
theorem r68 (d:u0k) (from_ n:Int):(u9a d from_ n).1.size≤100*o3d.wt d:=by
 unfold u9a
 split
 ·have h:=q3d d from_ n.toNat 0 emp
  have h2:emp.size=0:=rfl
  have h3:n.toNat*o3d.wt d≤100*o3d.wt d:=Ei (by omega) (Au _)
  omega
 ·show 0≤_;omega
theorem s2t (d:u0k) (a:Int) (hd:o3d.wt d≤1073741824):u6c (d,a)=some (u0c d a):=by
 have hb:o3d.wt d≤u0l:=by unfold u0l;omega
 have hf:=t9a a
 have hz:(u9a d (u0e a+1) 47).1.size≤u0l:=by have:=r68 d (u0e a+1) 47;unfold u0l;omega
 have hc:=r49 d a
 rw[r9e];unfold s66 u0c
 simp only[s83,t4n,zOb]
 rw[y4y (n:=u0e a+1) (by omega) (by omega)]
 simp only[r8m d (u0e a+1) 47 hd (by omega) (by omega),zOb]
 generalize u9a d (u0e a+1) 47=s at hz
 cases hs:s.2 with
 | false=>cases p07 a<;>rfl
 | true=>
  cases ha:p07 a with
  | false=>rfl
  | true=>
   have L:=r7d (fun x=>(u8d x).bind fun r=>match r with
    | .inl o=>some (o.1,o.2,true)
    | .inr z=>some z) (u05 d a).toNat (fun(p:Hu Hs×Int) i=>(a,d, [],s.1,p.1,p.2,i)) (fun i p=>u5j s.1 ((u05 d a).toNat - i) p.2 p.1) (fun i p=>p.1.length≤i)
    (fun p _=>by
     rw[t92];simp only[u76,t8y d a hb,zOb]
     rw[A7 (by omega)]
     simp only[Aa,zOb,Dw,u5j])
    (fun i p hi hp=>by
     have e:(u05 d a).toNat - i=((u05 d a).toNat - (i+1))+1:=by omega
     rw[t92];simp only[u76,t8y d a hb,zOb]
     rw[Bb (by omega),e]
     simp only[Ad,s9o s.1 p.2 hz,zOb,u5j,p5t]
     cases hr:(u0p s.1 p.2).2.2 with
     | false=>left;rfl
     | true=>
      cases hq:z7o (u0p s.1 p.2).1 emp with
      | true=>left;rfl
      | false=>
       right
       refine⟨(p.1++ [(u0p s.1 p.2).1],(u0p s.1 p.2).2.1),by simp;omega,by simp,?_⟩
       simp only[Ap,Aa,zOb,Aw,u1c (show p.1.length+1≤1099511627776 by omega),Ad]
       rw[y7l (by omega)]) 0 ([],0) (by omega) (by simp)
   simp only[Ap,Aa,zOb,Dt,Bl]
   exact L
def u0m (d:u0k):Hu Hs:=(u0c d (u0z d)).1
theorem q2t (t:Hs):∀(m:Nat) (at_:Int) (acc:Hu Hs),(u5j t m at_ acc).1.length≤acc.length+m
 | 0,at_,acc=>by simp[u5j]
 | m+1,at_,acc=>by
  unfold u5j
  split
  ·have:=q2t t m (u0p t at_).2.1 (acc++ [(u0p t at_).1])
   simp at this;omega
  ·simp
theorem q7s (d:u0k) (a:Int):(u0c d a).1.length<256:=by
 unfold u0c
 split
 ·have h:=q2t (u9a d (u0e a+1) 47).1 (u05 d a).toNat 0 []
  have:=r49 d a
  simp at h;omega
 ·simp
end
section
def u1q (d:u0k):Bool:=decide (1≤d.1.length∧d.1.length≤100)&&decide (d.2.length≤60)&&d.1.all (fun s=>decide (s.size=64))&&d.2.all (fun p=>s82 p.1 0 ((d.1.length:Int) - 1)&&decide (p.2.size=64))
theorem p2l {α:Type} (l:Hu α) (p:α→Bool):l.any (fun x=> !p x)= !l.all p:=by
 induction l with
 | nil=>rfl
 | cons x l ih=>simp only[Gd,Gc,ih,Bool.not_and]
theorem s2p (d:u0k) (hd:o3d.wt d≤u0l):u99 d=some (u1q d):=by
 have h1:d.1.length≤u0l:=A9 s09 hd
 have h2:d.2.length≤u0l:=A9 s7o hd
 unfold u0l at h1 h2
 have L1:=s6c t3a d.1 (fun i=>(d,i)) (fun s=> !decide (s.size=64)) (.inr false) (.inl d)
  (by rw[s8s];simp only[t25,u0b,Am,Ah,Aa])
  (fun i hi=>by
   rw[s8s];simp only[t25,u0b,hi,Ae,Ad,y7t hi,zTn,y8k (t:=Ty.str) hi]
   rw[y7l (by omega)]
   have:decide (((d.1[i]).size:Int)=(64:Int))=decide ((d.1[i]).size=64):=by simp only[Cu];omega
   rw[this])
 have L2:=s6c t3b d.2 (fun i=>(d,i)) (fun p=> !(s82 p.1 0 ((d.1.length:Int) - 1)&&decide (p.2.size=64))) (.inr false) (.inl ())
  (by rw[s8t];simp only[t26,u0b,Am,Ah,Aa])
  (fun i hi=>by
   rw[s8t];simp only[t26,u0b,hi,Ae,Ad,y7t hi,zTn,y8k (t:=p3v) hi,t45,zOb]
   rw[y7l (by omega),y4y (n:=(d.1.length:Int) - 1) (by omega) (by omega)]
   have:decide (((d.2[i]).2.size:Int)=(64:Int))=decide ((d.2[i]).2.size=64):=by simp only[Cu];omega
   rw[this]
   cases s82 (d.2[i]).1 0 ((d.1.length:Int) - 1)<;>rfl)
 rw[q4j];unfold r24 u1q
 simp only[t45,s7w (a:=(d.1.length:Int)),L1,zOb]
 have e1:decide ((1:Int)≤(d.1.length:Int)∧(d.1.length:Int)≤100)=decide (1≤d.1.length∧d.1.length≤100):=by simp only[Cu];omega
 have e2:decide ((d.2.length:Int) >60)= !decide (d.2.length≤60):=by
  rw[←decide_not,Cu];omega
 rw[e1,e2,p2l]
 cases decide (1≤d.1.length∧d.1.length≤100) with
 | false=>rfl
 | true=>
  cases decide (d.2.length≤60) with
  | false=>rfl
  | true=>
   cases d.1.all (fun s=>decide (s.size=64)) with
   | false=>rfl
   | true=>
    simp only[Ap,Aa,zOb,L2,p2l]
    cases d.2.all _<;>rfl
def u25 (d:u0k):Bool:=u1q d&&decide (d.1.length=97)&&decide (d.2.length=0)&&(u0c d 0).2.2&&(u0c d 1).2.2
theorem q2q (d:u0k) (hd:o3d.wt d≤1073741824):t9p d=some (u25 d):=by
 have hb:o3d.wt d≤u0l:=by unfold u0l;omega
 rw[q63];unfold r6k u25
 have hs:u6f ()=some 97:=by rw[s1b];rfl
 simp only[s2p d hb,hs,s2t d _ hd,zOb]
 have e1:decide ((d.1.length:Int)=97)=decide (d.1.length=97):=by rw[Cu];omega
 have e2:decide ((d.2.length:Int) >0)= !decide (d.2.length=0):=by rw[←decide_not,Cu];omega
 rw[e1,e2]
 cases u1q d<;>cases decide (d.1.length=97)<;>cases decide (d.2.length=0)<;>cases (u0c d 0).2.2<;>cases (u0c d 1).2.2<;>rfl
end
section
theorem p6p (d:u0k):o3d.wt d=(d.1.length+(d.1.map ByteArray.size).sum)+(d.2.length+(d.2.map fun p=>0+p.2.size).sum):=rfl
theorem q3g {α:Type} {l:Hu α} {f:α→Nat} {k:Nat} (h:∀x∈l,f x≤k):(l.map f).sum≤l.length*k:=by
 induction l with
 | nil=>simp
 | cons x l ih=>
  have h1:=h x (C9 ..)
  have h2:=ih (fun y hy=>h y (Bm _ hy))
  simp only[C8,Ge,Bc,C7]
  omega
theorem q20 {d:u0k} :u1q d=true↔(1≤d.1.length∧d.1.length≤100)∧d.2.length≤60∧(∀s∈d.1,s.size=64)∧ ∀p∈d.2,(0≤p.1∧p.1<(d.1.length:Int))∧p.2.size=64:=by
 unfold u1q
 simp only[Ai,Ar,Bg,s82,and_assoc]
 constructor
 ·rintro⟨a,b,c,e,f⟩
  exact⟨a,b,c,e,fun p hp=>by obtain⟨x,y,z⟩:=f p hp;exact⟨x,by omega,z⟩⟩
 ·rintro⟨a,b,c,e,f⟩
  exact⟨a,b,c,e,fun p hp=>by obtain⟨x,y,z⟩:=f p hp;exact⟨x,by omega,z⟩⟩
theorem t3h {d:u0k} (h:u1q d=true):o3d.wt d≤11000:=by
 obtain⟨h1,h2,h3,h4⟩:=q20.mp h
 have a1:=q3g (l:=d.1) (f:=ByteArray.size) (k:=64) (fun s hs=>by rw[h3 s hs];exact Au _)
 have a2:=q3g (l:=d.2) (f:=fun p=>0+p.2.size) (k:=64) (fun p hp=>by rw[(h4 p hp).2];exact Au _)
 rw[p6p]
 omega
theorem u9e (d:u0k) (hd:o3d.wt d≤u0l):u04 d=some d:=by
 have h1:d.1.length≤u0l:=A9 s09 hd
 have h2:d.2.length≤u0l:=A9 s7o hd
 unfold u0l at h1 h2
 rw[q1v];unfold r0k
 have a1:Nat.ble (([] :Hu Hs).length+d.1.length) z7w=true:=u1c (by simp;omega)
 have a2:Nat.ble (([] :Hu p1t.den).length+d.2.length) z7w=true:=u1c (by simp;omega)
 simp only[a1,a2,Ad,Cf]
def u5w (d:u0k) (k:Int) (t:Hs):Ht u0k:=if u1q (d.1,d.2++ [(k,t)]) then some (d.1,d.2++ [(k,t)]) else none
def orD (d:u0k):Ht u0k→u0k×Bool
 | some x=>(x,true)
 | none=>(d,false)
theorem r1w (d:u0k) (k:Int) (t:Hs):u1q (d.1,d.2++ [(k,t)])=(u1q d&&(s82 k 0 ((d.1.length:Int) - 1)&&(decide (t.size=64)&& !decide (60≤d.2.length)))):=by
 rw[Cd]
 simp only[Ai,Bj,Ar,Bu]
 rw[q20,q20]
 simp only[Ba,Aw,Ay,Ax,s82,Ai,Ar]
 constructor
 ·rintro⟨a,b,c,e⟩
  have:=e (k,t) (.inr rfl)
  exact⟨⟨a,by omega,c,fun p hp=>e p (.inl hp)⟩,⟨this.1.1,by have:=this.1.2;omega⟩,this.2,by omega⟩
 ·rintro⟨⟨a,b,c,e⟩,⟨f1,f2⟩,g,h⟩
  refine⟨a,by omega,c,fun p hp=> ?_⟩
  rcases hp with hp | rfl
  ·exact e p hp
  ·exact⟨⟨f1,by show k<(d.1.length:Int);omega⟩,g⟩
theorem r7e (d:u0k) (k:Int) (t:Hs) (hd:o3d.wt d≤1073741824) (ht:t.size≤1073741824):u8j (d,k,t)=some (orD d (u5w d k t)):=by
 have h2:d.2.length≤1073741824:=A9 s7o hd
 have h1:d.1.length≤1073741824:=A9 s09 hd
 have a:Nat.ble (d.2.length+([(k,t)] :Hu p1t.den).length) z7w=true:=u1c (by simp;omega)
 have w:IntKind.i64.wrap ((d.1.length:Int) - 1)=(d.1.length:Int) - 1:=y4y (by omega) (by omega)
 have e1:decide ((t.size:Int)=(64:Int))=decide (t.size=64):=by simp only[Cu];omega
 have e2:decide ((d.2.length:Int)≥(60:Int))=decide (60≤d.2.length):=by simp only[Cu];omega
 rw[r33];unfold t87
 simp only[u9e d (by unfold u0l;omega),s2p d (by unfold u0l;omega),zOb,a,Ad,t45,w,e1,e2]
 unfold u5w
 rw[r1w]
 cases u1q d<;>cases s82 k 0 ((d.1.length:Int) - 1)<;>cases decide (t.size=64)<;>cases decide (60≤d.2.length)<;>rfl
def q50:Nat→u0k→Nat→Nat→Hs→Ht u0k
 | 0,d,_,_,_=>some d
 | f+1,d,k,at_,t=>if t.size=0 then some d else
  if(u0h d (k:Int)).2=true∧(u0h d (k:Int)).1.size=64 then
   (u5w d (k:Int) ((u0h d (k:Int)).1.extract 0 at_++t.extract 0 (min t.size (64 - at_))++(u0h d (k:Int)).1.extract (at_+min t.size (64 - at_)) 64)).bind fun x=>
    q50 f x (k+1) 0 (t.extract (min t.size (64 - at_)) t.size)
  else none
theorem q5t (f:Nat) (d:u0k) (k at_:Nat) {t:Hs} (h:t.size=0):q50 f d k at_ t=some d:=by
 cases f with
 | zero=>rfl
 | succ f=>rw[q50,Al h]
theorem t4m {d x:u0k} {k:Int} {t:Hs} (h:u5w d k t=some x):u1q x=true∧x=(d.1,d.2++ [(k,t)]):=by
 unfold u5w at h
 split at h
 ·rename_i hk;cases h;exact⟨hk,rfl⟩
 ·cases h
theorem r69 {t:Hs} :z7o t ⟨#[]⟩=decide (t.size=0):=by
 rw[Cd,y7f,Ar]
 constructor
 ·rintro rfl;rfl
 ·intro h
  have:t.data= #[] :=by apply Fi;exact h
  cases t;simp at this;rw[this]
theorem p3r (d0 jk:u0k) (sec at_:Nat) (t:Hs) (hsec:sec≤2000000000) (hat:at_≤6400) (ht:t.size≤1048576) (h0:o3d.wt d0≤1073741824):∀(f i:Nat) (out:u0k),i≤t.size→t.size - i<f→o3d.wt out≤1073741824→
 u27 ((sec:Int),(at_:Int),t,d0,jk,out,(i:Int))=some (match q50 f out (sec+(at_+i) / 64) ((at_+i) % 64) (t.extract i t.size) with
  | some x=> .inl (jk,x)
  | none=> .inr (d0,false))
 | 0,i,out,_,h,_=>by omega
 | f+1,i,out,hi,hf,ho=>by
  have hsz:(t.extract i t.size).size=t.size - i:=by simp only[Bd];omega
  have w0:IntKind.i64.wrap ((at_:Int)+(i:Int))=((at_+i:Nat):Int):=by rw[y4y (by omega) (by omega)];omega
  have t1:Int.tdiv ((at_+i:Nat):Int) (64:Int)=(((at_+i) / 64:Nat):Int):=p8t (at_+i) 64
  have t2:Int.tmod ((at_+i:Nat):Int) (64:Int)=(((at_+i) % 64:Nat):Int):=p1k (at_+i) 64
  obtain⟨q,hq⟩:∃q,q=(at_+i) / 64:=⟨_,rfl⟩
  obtain⟨m,hm⟩:∃m,m=(at_+i) % 64:=⟨_,rfl⟩
  have w1:IntKind.i64.wrap ((q:Int))=(q:Int):=y4y (by omega) (by omega)
  have w2:IntKind.i64.wrap ((sec:Int)+(q:Int))=((sec+q:Nat):Int):=by rw[y4y (by omega) (by omega)];omega
  have w3:IntKind.i64.wrap ((64:Int) - (m:Int))=((64 - m:Nat):Int):=by rw[y4y (by omega) (by omega)];omega
  have w4:IntKind.i64.wrap ((t.size:Int) - (i:Int))=((t.size - i:Nat):Int):=by rw[y4y (by omega) (by omega)];omega
  rw[r2l]
  simp only[t2j,w0,t1,t2,←hq,←hm,w1,w2,w3,w4,t7c out ((sec+q:Nat):Int) (by unfold u0l;omega),u9e d0 (by unfold u0l;omega),zOb,u0b]
  rw[q50,hsz]
  by_cases hz:i<t.size
  ·have hz' : ¬t.size - i=0:=by omega
   simp only[hz,Ae,Ad,hz',Bk]
   generalize u0h out ((sec+q:Nat):Int)=r
   obtain⟨old,rok⟩:=r
   cases rok with
   | false=>simp
   | true=>
    have e64:decide ((old.size:Int)=(64:Int))=decide (old.size=64):=by simp only[Cu];omega
    simp only[Ap,Aa,zOb,e64]
    by_cases hs:old.size=64
    ·obtain⟨n,hn⟩:∃n,n=min (t.size - i) (64 - m):=⟨_,rfl⟩
     have z0:((0:Int)).toNat=0:=rfl
     have hm64:m<64:=by omega
     have body:∀N:Nat,N=n→IntKind.i64.wrap ((i:Int)+(N:Int))=((i+n:Nat):Int)∧IntKind.i64.wrap ((m:Int)+(N:Int))=((m+n:Nat):Int):=fun N hN=>by
      subst hN
      exact⟨by rw[y4y (by omega) (by omega)];omega,by rw[y4y (by omega) (by omega)];omega⟩
     have c1:(decide ((0:Int)≤0)&&decide ((0:Int)≤(m:Int))&&decide ((m:Int)≤((64:Nat):Int)))=true:=by simp;omega
     have c2:(decide ((0:Int)≤(i:Int))&&decide ((i:Int)≤((i+n:Nat):Int))&&decide (((i+n:Nat):Int)≤(t.size:Int)))=true:=by simp;omega
     have c3:decide ((old.extract 0 m).size+(t.extract i (i+n)).size≤140737488355328)=true:=by simp only[Bd,Ar];omega
     have c4:(decide ((0:Int)≤((m+n:Nat):Int))&&decide (((m+n:Nat):Int)≤((64:Nat):Int))&&decide (((64:Nat):Int)≤((64:Nat):Int)))=true:=by simp;omega
     have c5:decide ((old.extract 0 m++t.extract i (i+n)).size+(old.extract (m+n) 64).size≤140737488355328)=true:=by simp only[Af,Bd,Ar];omega
     have hx1:(t.extract i t.size).extract 0 n=t.extract i (i+n):=by
      rw[ByteArray.extract_extract];congr 1;omega
     have hx2:(t.extract i t.size).extract n (t.size - i)=t.extract (i+n) t.size:=by
      rw[ByteArray.extract_extract];congr 1;omega
     have hw:=r7e out ((sec+q:Nat):Int) (old.extract 0 m++t.extract i (i+n)++old.extract (m+n) 64) ho (by simp only[Af,Bd];omega)
     have ih:∀x:u0k,u1q x=true→u27 ((sec:Int),(at_:Int),t,d0,jk,x,((i+n:Nat):Int))=some (match q50 f x (sec+q+1) 0 (t.extract (i+n) t.size) with
      | some x=> .inl (jk,x)
      | none=> .inr (d0,false)):=fun x hx=>by
      have:=p3r d0 jk sec at_ t hsec hat ht h0 f (i+n) x (by omega) (by omega) (A9 (t3h hx) (by omega))
      rw[this]
      by_cases he:i+n=t.size
      ·have hsz2:(t.extract (i+n) t.size).size=0:=by simp only[Bd];omega
       rw[q5t _ _ _ _ hsz2,q5t _ _ _ _ hsz2]
      ·have hn2:n=64 - m:=by omega
       have e1:sec+(at_+(i+n)) / 64=sec+q+1:=by omega
       have e2:(at_+(i+n)) % 64=0:=by omega
       rw[e1,e2]
     rw[←hn,hx1,hx2]
     simp only[hs,Ae,Ap,Aa,and_self,Bl]
     by_cases hb:t.size - i<64 - m
     ·obtain⟨b1,b2⟩:=body (t.size - i) (by omega)
      simp only[hb,Ae,Ad,b1,b2,zTn,z0,c3,c5]
      rw[c1,c2,c4]
      simp only[Ad,hw,zOb]
      cases hx:u5w out ((sec+q:Nat):Int) (old.extract 0 m++t.extract i (i+n)++old.extract (m+n) 64) with
      | none=>simp[orD]
      | some x=>
       simp only[orD,Ap,Aa,zOb]
       exact ih x (t4m hx).1
     ·obtain⟨b1,b2⟩:=body (64 - m) (by omega)
      simp only[hb,Ah,Aa,b1,b2,zTn,z0,c3,c5]
      rw[c1,c2,c4]
      simp only[Ad,hw,zOb]
      cases hx:u5w out ((sec+q:Nat):Int) (old.extract 0 m++t.extract i (i+n)++old.extract (m+n) 64) with
      | none=>simp[orD]
      | some x=>
       simp only[orD,Ap,Aa,zOb]
       exact ih x (t4m hx).1
    ·simp[hs]
  ·have hz' :t.size - i=0:=by omega
   simp only[hz,Ah,Aa,hz',Bl]
def u4s (d:u0k) (sector at_:Int) (t:Hs):Ht u0k:=
 if s82 at_ 0 6400&&s82 sector 0 ((d.1.length:Int) - 1)&&u1q d then q50 (t.size+1) d (sector.toNat+at_.toNat / 64) (at_.toNat % 64) t else none
theorem t7f (d:u0k) (sector at_:Int) (t:Hs) (hd:o3d.wt d≤1073741824) (ht:t.size≤1048576):u6e (d,sector,at_,t)=some (orD d (u4s d sector at_ t)):=by
 have h1:d.1.length≤1073741824:=A9 s09 hd
 have w:IntKind.i64.wrap ((d.1.length:Int) - 1)=(d.1.length:Int) - 1:=y4y (by omega) (by omega)
 rw[r5n];unfold s04 u4s
 simp only[u9e d (by unfold u0l;omega),s2p d (by unfold u0l;omega),zOb,t45,w]
 cases ha:s82 at_ 0 6400 with
 | false=>rfl
 | true=>
  cases hs:s82 sector 0 ((d.1.length:Int) - 1) with
  | false=>rfl
  | true=>
   cases hk:u1q d with
   | false=>rfl
   | true=>
    simp only[s82,Ai,Ar] at ha hs
    obtain⟨s,rfl⟩:∃s:Nat,sector=(s:Int):=⟨sector.toNat,by omega⟩
    obtain⟨a,rfl⟩:∃a:Nat,at_=(a:Int):=⟨at_.toNat,by omega⟩
    have L:=p3r d ([], []) s a t (by omega) (by omega) ht hd (t.size+1) 0 d (by omega) (by omega) hd
    have L:u27 ((s:Int),(a:Int),t,d,([], []),d,0)=_:=L
    have e:t.extract 0 t.size=t:=Fu
    simp only[Ap,Aa,zOb,L,Dt,Bl,zTn,Df,e]
    cases q50 (t.size+1) d (s+a / 64) (a % 64) t<;>rfl
end
section
def t8g (s:Hu Hs) (p:Int×Hs):Hu Hs:=s.set p.1.toNat p.2
def flush (d:u0k):u0k:=if u1q d then(d.2.foldl t8g d.1, []) else d
theorem r51 (s:Hu Hs) (p:Int×Hs):(t8g s p).length=s.length:=by simp[t8g]
theorem r2b:∀(c:Hu (Int×Hs)) (s:Hu Hs),(c.foldl t8g s).length=s.length
 | [],s=>rfl
 | p::c,s=>by rw[Bs,r2b c,r51]
theorem q22:∀(c:Hu (Int×Hs)) (s:Hu Hs),(∀p∈c,p.2.size=64)→(∀x∈s,x.size=64)→ ∀x∈c.foldl t8g s,x.size=64
 | [],s,_,h=>h
 | p::c,s,hc,h=>by
  rw[Bs]
  refine q22 c _ (fun q hq=>hc q (Bm _ hq)) (fun x hx=> ?_)
  rcases E0 hx with hx | rfl
  ·exact h x hx
  ·exact hc p (C9 ..)
theorem t43 {d:u0k} (h:u1q d=true):u1q (flush d)=true∧(flush d).2= [] ∧(flush d).1.length=d.1.length:=by
 unfold flush
 rw[Al h]
 obtain⟨h1,h2,h3,h4⟩:=q20.mp h
 refine⟨q20.mpr ⟨by rw[r2b];exact h1,by simp,q22 _ _ (fun p hp=>(h4 p hp).2) h3,fun p hp=>by cases hp⟩,rfl,r2b _ _⟩
theorem t4o (d:u0k) (hd:o3d.wt d≤1073741824):u47 d=some (flush d):=by
 have h1:d.1.length≤1073741824:=A9 s09 hd
 have h2:d.2.length≤1073741824:=A9 s7o hd
 rw[r7q];unfold s30 flush
 simp only[u9e d (by unfold u0l;omega),s2p d (by unfold u0l;omega),zOb]
 cases hk:u1q d with
 | false=>rfl
 | true=>
  obtain⟨k1,k2,k3,k4⟩:=q20.mp hk
  have L:=t2v u8c d.2 (fun s i=>(d,([], []),(s,d.2),i)) t8g (fun s=> .inl (([], []),(s,d.2))) (fun _ s=>s.length=d.1.length)
   (fun s _=>by rw[t90];simp only[u74,u0b,Am,Ah,Aa])
   (fun i hi s hs=>by
    refine⟨by rw[r51];exact hs,?_⟩
    have hp:=(k4 d.2[i] (Ag hi)).1
    have hg:y4q (d.2[i]).1 s.length=true:=by simp[y4q,hs,hp.1,hp.2]
    rw[t90];simp only[u74,u0b,hi,Ae,Ad,y7t hi,zTn,y8k (t:=p3v) hi,hg]
    rw[y7l (by omega)]
    rfl) d.1 rfl
  simp only[Ap,Aa,L,zOb,Bl]
def q8t (keep:Hu Int) (i:Nat):Bool:=decide (i<keep.length)&& !decide (Int.tmod (rdL (Ty.int .i64) keep i) 2=0)
def r4d (keep:Hu Int):Nat→Int
 | 0=> -1
 | n+1=>if q8t keep n then(n:Int) else r4d keep n
def t8j (tear:Int):Nat:=(if Int.tmod tear 65<0 then Int.tmod tear 65+65 else Int.tmod tear 65).toNat
def r3v (d:u0k) (keep:Hu Int) (last:Int) (n:Nat) (s:Hu Hs) (i:Nat):Hu Hs:=
 if q8t keep i then
  (if(i:Int)=last then t8g s ((rdL p3v d.2 i).1,(rdL p3v d.2 i).2.extract 0 n++(rdL Ty.str s (rdL p3v d.2 i).1.toNat).extract n (rdL Ty.str s (rdL p3v d.2 i).1.toNat).size)
   else t8g s (rdL p3v d.2 i))
 else s
def t8v (d:u0k) (keep:Hu Int) (tear:Int):u0k:=
 if u1q d then((List.range d.2.length).foldl (r3v d keep (r4d keep d.2.length) (t8j tear)) d.1, []) else d
theorem p48 (tear:Int):t8j tear≤64∧((t8j tear:Nat):Int)=(if Int.tmod tear 65<0 then Int.tmod tear 65+65 else Int.tmod tear 65):=by
 have h1:Int.tmod tear 65<65:=Int.tmod_lt_of_pos _ (by omega)
 have h2: -65<Int.tmod tear 65:=by
  have:=Int.lt_tmod_of_pos tear (show(0:Int)<65 by omega)
  exact this
 unfold t8j
 split<;>omega
section
variable {d:u0k} (hk:u1q d=true) (keep:Hu Int)
include hk in
include hk in
include hk
end
end
section
theorem r8q (t:Hs):∀(m:Nat) (at_:Int) (acc:Hu Hs),0≤at_∧at_≤t.size→0≤(u5j t m at_ acc).2.1∧(u5j t m at_ acc).2.1≤t.size
 | 0,at_,acc,h=>h
 | m+1,at_,acc,h=>by
  unfold u5j
  split
  ·rename_i hc
   simp only[Ai] at hc
   exact r8q t m _ _ (s8f hc.1)
  ·simp
theorem r2i (d:u0k) (a:Int):0≤(u0c d a).2.1∧(u0c d a).2.1≤(100*o3d.wt d:Nat):=by
 unfold u0c
 split
 ·have h1:=r8q (u9a d (u0e a+1) 47).1 (u05 d a).toNat 0 [] (by simp)
  have h2:=r68 d (u0e a+1) 47
  omega
 ·simp only[Bv,true_and]
  omega
def u0s (t:Hs):Hs:=y7g (t6t t.size)++t
theorem s8j (t:Hs):t.size≤(u0s t).size∧(u0s t).size≤2*t.size+1:=by
 unfold u0s
 rw[Af,u21]
 have:=p0d t.size
 omega
def t3f (d:u0k) (a:Int) (t:Hs):Ht u0k:=
 if(u0c d a).2.2=false∨t.size=0∨3008<t.size∨255≤u05 d a∨3008<(u0c d a).2.1+((u0s t).size:Int) then none
 else u4s d (u0e a+1) (u0c d a).2.1 (u0s t)
theorem q8u (d:u0k) (a:Int) (t:Hs) (hd:o3d.wt d≤10000000) (ht:t.size≤1048576):t8d (d,a,t)=some (orD d (t3f d a t)):=by
 have hr:=r2i d a
 have hs:=s8j t
 have ha:=t9a a
 rw[r9n];unfold s7g t3f
 simp only[s2t d a (by omega),u9e d (by unfold u0l;omega),t8y d a (by unfold u0l;omega),r9y t.size (by omega),t4n,zOb,r69]
 have e1:decide ((t.size:Int) >(3008:Int))=decide (3008<t.size):=by simp only[Cu];omega
 have w1:IntKind.i64.wrap ((3008:Int) - (u0c d a).2.1)=3008 - (u0c d a).2.1:=y4y (by omega) (by omega)
 have w2:IntKind.i64.wrap (u0e a+1)=u0e a+1:=y4y (by omega) (by omega)
 rw[e1]
 cases h1:(u0c d a).2.2 with
 | false=>simp[orD]
 | true=>
  by_cases h2:t.size=0
  ·simp[h2,orD]
  ·by_cases h3:3008<t.size
   ·simp[h2,h3,orD]
   ·by_cases h4:255≤u05 d a
    ·have:decide (u05 d a≥255)=true:=by simpa using h4
     simp[h2,h3,h4,orD]
    ·have e4:decide (u05 d a≥255)=false:=by simp;omega
     have c:decide ((y7g (t6t t.size)).size+t.size≤140737488355328)=true:=by
      have h5:(u0s t).size=(y7g (t6t t.size)).size+t.size:=by unfold u0s;rw[Af]
      simp;omega
     simp only[h2,h3,Ah,Ap,Aa,zOb,e4,c,Ad,w1,w2]
     have hsz:y7g (t6t t.size)++t=u0s t:=rfl
     rw[hsz]
     by_cases h6:3008<(u0c d a).2.1+((u0s t).size:Int)
     ·have:decide (((u0s t).size:Int) >3008 - (u0c d a).2.1)=true:=by simp;omega
      simp[this,h6,orD]
     ·have:decide (((u0s t).size:Int) >3008 - (u0c d a).2.1)=false:=by simp;omega
      simp only[this,Aa,t7f d (u0e a+1) (u0c d a).2.1 (u0s t) (by omega) (by omega),zOb]
      rw[Ao (by simp[h2,h3,h6];omega)]
theorem q6b (t:Hs) (ht:t.size≤1048576):t2a t=some (if 20000<t.size then(emp,false) else(u0s t,true)):=by
 rw[r7h];unfold s3r
 have e1:decide ((t.size:Int) >(20000:Int))=decide (20000<t.size):=by simp only[Cu];omega
 rw[e1]
 by_cases h:20000<t.size
 ·simp only[h,Ae,Ad,Bl];rfl
 ·have c:decide ((y7g (t6t t.size)).size+t.size≤140737488355328)=true:=by
   rw[u21]
   have:=p0d t.size
   simp;omega
  have hv:(0:Int)≤(t.size:Int)∧(t.size:Int)≤1000000000:=by omega
  simp only[h,Ah,Aa,s6m,Al hv,zOb,zTn,c,Ad,Bk]
  rfl
def t37 (n:Int):Hs:=y7g [IntKind.u8.wrap n]
theorem u2y (n:Int):(t37 n).size=1:=by unfold t37;rw[u21];rfl
def s7n (d:u0k) (a n:Int):Ht u0k:=u4s d (u0e a) 0 (t37 n)
theorem r9z (d:u0k) (a n:Int) (hd:o3d.wt d≤1073741824):t3u (d,a,n)=some (orD d (s7n d a n)):=by
 rw[r9o];unfold s7h
 have h1:t3v n=some (t37 n):=by rw[r34];rfl
 simp only[t4n,h1,zOb,t7f d (u0e a) 0 (t37 n) hd (by rw[u2y];omega)]
 rfl
theorem p3q:∀ {f:Nat} {d x:u0k} {k at_:Nat} {t:Hs},q50 f d k at_ t=some x→(u1q d=true→u1q x=true)∧x.1=d.1∧(t.size≠0→0<f→u1q x=true)
 | 0,d,x,k,at_,t,h=>by cases h;exact⟨id,rfl,fun _ h=>by omega⟩
 | f+1,d,x,k,at_,t,h=>by
  rw[q50] at h
  split at h
  ·rename_i hz
   cases h;exact⟨id,rfl,fun hne=>absurd hz hne⟩
  ·split at h
   ·cases hw:u5w d (k:Int) ((u0h d (k:Int)).1.extract 0 at_++t.extract 0 (min t.size (64 - at_))++(u0h d (k:Int)).1.extract (at_+min t.size (64 - at_)) 64) with
    | none=>rw[hw] at h;cases h
    | some y=>
     rw[hw] at h
     simp only[zOb] at h
     obtain⟨k1,k2⟩:=t4m hw
     obtain⟨i1,i2,_⟩:=p3q h
     exact⟨fun _=>i1 k1,by rw[i2,k2],fun _ _=>i1 k1⟩
   ·cases h
theorem u5n {d x:u0k} {s at_:Int} {t:Hs} (h:u4s d s at_ t=some x):u1q d=true∧u1q x=true∧x.1=d.1:=by
 unfold u4s at h
 split at h
 ·rename_i hc
  simp only[Ai] at hc
  obtain⟨i1,i2,_⟩:=p3q h
  exact⟨hc.2,i1 hc.2,i2⟩
 ·cases h
theorem s2z {d x:u0k} {a:Int} {t:Hs} (h:t3f d a t=some x):u1q d=true∧u1q x=true∧x.1=d.1∧(u0c d a).2.2=true:=by
 unfold t3f at h
 split at h
 ·cases h
 ·rename_i hc
  have:=u5n h
  simp only[Hr] at hc
  exact⟨this.1,this.2.1,this.2.2,by simpa using hc.1⟩
theorem r2f {d:u0k} (hk:u1q d=true) (h2:d.2= []) {s:Int} (h0:0≤s) (h1:s<(d.1.length:Int)) {b:Hs} (hb:b.size=1):
 u4s d s 0 b=some (d.1, [(s,b++(rdL Ty.str d.1 s.toNat).extract 1 64)]):=by
 obtain⟨k1,k2,k3,k4⟩:=q20.mp hk
 have hlt:s.toNat<d.1.length:=by omega
 have hold:(rdL Ty.str d.1 s.toNat).size=64:=by
  have e:rdL Ty.str d.1 s.toNat=d.1[s.toNat] :=y8k (t:=Ty.str) hlt
  rw[e]
  exact k3 _ (Ag hlt)
 have hs:((s.toNat:Nat):Int)=s:=by omega
 have hrd:u0h d s=(rdL Ty.str d.1 s.toNat,true):=by
  unfold u0h
  rw[Al ⟨h0,h1⟩,h2]
  rfl
 have c:(s82 0 0 6400&&s82 s 0 ((d.1.length:Int) - 1)&&u1q d)=true:=by
  rw[hk]
  simp[s82]
  omega
 have e1:(rdL Ty.str d.1 s.toNat).extract 0 0=ByteArray.empty:=by
  apply Gf
  simp
 have e2:b.extract 0 1=b:=by rw[←hb];exact Fu
 have hw:u5w d s (b++(rdL Ty.str d.1 s.toNat).extract 1 64)=some (d.1, [(s,b++(rdL Ty.str d.1 s.toNat).extract 1 64)]):=by
  unfold u5w
  rw[r1w,hk,h2]
  have:s82 s 0 ((d.1.length:Int) - 1)=true:=by simp[s82];omega
  rw[this]
  have hz:(b++(rdL Ty.str d.1 s.toNat).extract 1 64).size=64:=by
   rw[Af,Bd,hb,hold];omega
  simp[hz]
 unfold u4s
 rw[Al c]
 have z:(0:Int).toNat=0:=rfl
 simp only[z,Nat.zero_div,Nat.zero_mod,Df,hb]
 rw[q50,Ao (by omega)]
 rw[hs,hrd]
 simp only[hold,and_self,Bl,hb]
 have m1:min 1 (64 - 0)=1:=by decide
 rw[m1,e1,e2]
 have e3:ByteArray.empty++b++(rdL Ty.str d.1 s.toNat).extract (0+1) 64=b++(rdL Ty.str d.1 s.toNat).extract 1 64:=by
  rw[ByteArray.empty_append]
 rw[e3,hw]
 simp only[zOb]
 exact q5t _ _ _ _ (by rw[Bd,hb];decide)
end
section
def s4c (d:u0k) (a:Int):Int:=IntKind.i64.wrap (u05 d a+1)
def q27 (d:u0k) (a:Int) (t:Hs):Ht u0k:=(t3f d a t).map fun x=>flush (orD (flush x) (s7n (flush x) a (s4c d a))).1
theorem p0w {d x:u0k} {a:Int} {t:Hs} (h:t3f d a t=some x):p07 a=true:=by
 have:=(s2z h).2.2.2
 unfold u0c at this
 split at this
 ·rename_i hc
  simp only[Ai] at hc
  exact hc.1
 ·cases this
theorem q38 {d x:u0k} {a n:Int} {t:Hs} (hlen:d.1.length=97) (h:t3f d a t=some x):∃y,s7n (flush x) a n=some y∧u1q y=true∧y.1.length=97:=by
 obtain⟨h1,h2,h3,_⟩:=s2z h
 obtain⟨f1,f2,f3⟩:=t43 h2
 have hl:(flush x).1.length=97:=by rw[f3,h3];exact hlen
 have ha:=t9a a
 have ho:=r2f (s:=u0e a) f1 f2 (by omega) (by rw[hl];omega) (u2y n)
 have:=u5n ho
 exact⟨_,ho,this.2.1,by rw[this.2.2];exact hl⟩
theorem u4t {d:u0k} (h:u25 d=true):u1q d=true∧d.1.length=97∧d.2= [] ∧(u0c d 0).2.2=true∧(u0c d 1).2.2=true:=by
 unfold u25 at h
 simp only[Ai,Ar] at h
 obtain⟨⟨⟨⟨a,b⟩,c⟩,e⟩,f⟩:=h
 exact⟨a,b,Dk.mp c,e,f⟩
theorem q7f (d:u0k) (a:Int) (t:Hs) (hd:o3d.wt d≤10000000) (ht:t.size≤1048576) (hlen:d.1.length=97):t64 (d,a,t)=some (orD d (q27 d a t)):=by
 rw[q4w];unfold r3h q27
 simp only[q8u d a t hd ht,zOb]
 cases hb:t3f d a t with
 | none=>rfl
 | some x=>
  have hx:=t3h (s2z hb).2.1
  have hf:=t3h (t43 (s2z hb).2.1).1
  obtain⟨y,hy,hy2,_⟩:=q38 (n:=s4c d a) hlen hb
  have hyw:=t3h hy2
  simp only[orD,Ap,Aa,t4o x (by omega),t8y d a (by unfold u0l;omega),zOb,r9z (flush x) a _ (by omega)]
  have hc:IntKind.i64.wrap (u05 d a+1)=s4c d a:=rfl
  rw[hc,hy]
  simp only[orD,t4o y (by omega),zOb,Dc,hy]
theorem q0w (d:u0k) (a:Int) (t:Hs) (hd:o3d.wt d≤10000000) (ht:t.size≤1048576):t6a (d,a,t)=some (orD d (if u25 d then q27 d a t else none)):=by
 rw[r7s];unfold s32
 simp only[q2q d (by omega),s83,u9e d (by unfold u0l;omega),zOb]
 cases hl:u25 d with
 | false=>simp[orD]
 | true=>
  cases ha:p07 a with
  | false=>
   have hn:q27 d a t=none:=by
    unfold q27
    cases hb:t3f d a t with
    | none=>rfl
    | some x=>rw[p0w hb] at ha;cases ha
   simp[hn,orD]
  | true=>
   simp only[Ap,Aa,zOb,q7f d a t hd ht (u4t hl).2.1,Bl]
   cases q27 d a t<;>simp[orD]
def append_ (d:u0k) (t:Hs):Ht u0k:=if u25 d then q27 d (u0z d) t else none
theorem s9l (d:u0k) (t:Hs) (hd:o3d.wt d≤10000000) (ht:t.size≤1048576):t2c (d,t)=some (orD d (append_ d t)):=by
 rw[r7n];unfold s3x append_
 simp only[s2o d (by unfold u0l;omega),zOb,q0w d _ t hd ht]
theorem p3b {d y:u0k} {a:Int} {t:Hs} (hlen:d.1.length=97) (h:q27 d a t=some y):∃x,t3f d a t=some x∧u1q x=true∧u1q y=true∧y.2= [] ∧y.1.length=97∧y=flush (orD (flush x) (s7n (flush x) a (s4c d a))).1:=by
 unfold q27 at h
 cases hb:t3f d a t with
 | none=>rw[hb] at h;cases h
 | some x=>
  rw[hb] at h
  simp only[Dc,Ac] at h
  obtain⟨z,hz,hz2,hz3⟩:=q38 (n:=s4c d a) hlen hb
  rw[hz] at h
  simp only[orD] at h
  obtain⟨f1,f2,f3⟩:=t43 hz2
  rw[←h]
  exact⟨x,rfl,(s2z hb).2.1,f1,f2,by rw[f3];exact hz3,by rw[hz];rfl⟩
section
variable {d:u0k} {t:Hs} (hd:o3d.wt d≤10000000) (ht:t.size≤1048576)
include hd ht
end
end
section
theorem r1q {d x:u0k} {k:Int} {s:Hs} (h:u5w d k s=some x) {j:Int} (hj:j≠k):u0h x j=u0h d j:=by
 have:=(t4m h).2
 subst this
 have hne: ¬k=j:=fun z=>hj z.symm
 unfold u0h
 simp only[s79,hne,Bk]
theorem s9b:∀ {f:Nat} {d x:u0k} {k at_:Nat} {t:Hs},q50 f d k at_ t=some x→at_<64→ ∀j:Nat,¬(k≤j∧j*64<k*64+at_+t.size)→u0h x (j:Int)=u0h d (j:Int)
 | 0,d,x,k,at_,t,h,_,j,_=>by cases h;rfl
 | f+1,d,x,k,at_,t,h,hat,j,hj=>by
  rw[q50] at h
  split at h
  ·cases h;rfl
  ·rename_i hz
   split at h
   ·cases hw:u5w d (k:Int) ((u0h d (k:Int)).1.extract 0 at_++t.extract 0 (min t.size (64 - at_))++(u0h d (k:Int)).1.extract (at_+min t.size (64 - at_)) 64) with
    | none=>rw[hw] at h;cases h
    | some y=>
     rw[hw] at h
     simp only[zOb] at h
     have hne:j≠k:=fun z=>hj ⟨by omega,by omega⟩
     rw[←r1q hw (j:=(j:Int)) (by omega)]
     refine s9b h (by omega) j (fun z=>hj ?_)
     rw[Bd] at z
     omega
   ·cases h
theorem p3h {s:Hu Hs} {p:Int×Hs} {j:Int} (hp:0≤p.1) (hj0:0≤j) (hj:j.toNat<s.length):rdL Ty.str (t8g s p) j.toNat=if p.1=j then p.2 else rdL Ty.str s j.toNat:=by
 have h' :j.toNat<(s.set p.1.toNat p.2).length:=by rw[Dq];exact hj
 have e1:rdL Ty.str (s.set p.1.toNat p.2) j.toNat=(s.set p.1.toNat p.2)[j.toNat] :=y8k (t:=Ty.str) h'
 have e2:rdL Ty.str s j.toNat=s[j.toNat] :=y8k (t:=Ty.str) hj
 show rdL Ty.str (s.set p.1.toNat p.2) j.toNat=_
 rw[e1,e2,List.getElem_set]
 by_cases e:p.1=j
 ·rw[Al (by rw[e]),Al e]
 ·rw[Ao (by omega),Ao e]
theorem q23 {j:Int} (hj0:0≤j) (z:Hs):∀(c:Hu (Int×Hs)) (s:Hu Hs) (t:Ht Hs),(∀p∈c,0≤p.1)→j.toNat<s.length→rdL Ty.str s j.toNat=t.getD z→
 rdL Ty.str (c.foldl t8g s) j.toNat=(c.foldl (fun t p=>if p.1=j then some p.2 else t) t).getD z
 | [],s,t,_,_,h=>h
 | p::c,s,t,hc,hl,h=>by
  rw[Bs,Bs]
  refine q23 hj0 z c _ _ (fun q hq=>hc q (Bm _ hq)) (by rw[r51];exact hl) ?_
  rw[p3h (hc p (C9 ..)) hj0 hl]
  split
  ·rfl
  ·exact h
theorem u80 {d:u0k} (hk:u1q d=true) (j:Int):u0h (flush d) j=u0h d j:=by
 obtain⟨_,f2,f3⟩:=t43 hk
 obtain⟨k1,k2,k3,k4⟩:=q20.mp hk
 unfold u0h
 rw[f3]
 split
 ·rename_i hj
  have e1:u82 (flush d).2 j=none:=by rw[f2];rfl
  rw[e1]
  have e2:(flush d).1=d.2.foldl t8g d.1:=by unfold flush;rw[Al hk]
  rw[e2]
  have:=q23 hj.1 (rdL Ty.str d.1 j.toNat) d.2 d.1 none (fun p hp=>(k4 p hp).1.1) (by omega) rfl
  show(rdL Ty.str (d.2.foldl t8g d.1) j.toNat,true)=_
  rw[this]
  rfl
 ·rfl
theorem q0g {d d' :u0k} {from_:Int} :∀(m i:Nat) (acc:Hs),(∀q:Nat,i≤q→q<i+m→u0h d' (from_+(q:Int))=u0h d (from_+(q:Int)))→r50 d' from_ m i acc=r50 d from_ m i acc
 | 0,i,acc,h=>rfl
 | m+1,i,acc,h=>by
  unfold r50
  rw[h i (by omega) (by omega)]
  split
  ·exact q0g m (i+1) _ (fun q h1 h2=>h q (by omega) (by omega))
  ·rfl
theorem u7w {d d' :u0k} {o:Int} (h:∀q:Nat,q<48→u0h d' (u0e o+(q:Int))=u0h d (u0e o+(q:Int))):u0c d' o=u0c d o:=by
 have h1:u9a d' (u0e o+1) 47=u9a d (u0e o+1) 47:=by
  unfold u9a
  rw[Al (by omega),Al (by omega)]
  refine q0g _ _ _ (fun q _ hq=> ?_)
  have:=h (q+1) (by simp at hq;omega)
  rw[show u0e o+1+(q:Int)=u0e o+((q+1:Nat):Int) by omega]
  exact this
 have h2:u05 d' o=u05 d o:=by
  unfold u05 u3b
  have:=h 0 (by omega)
  rw[show u0e o+((0:Nat):Int)=u0e o by omega] at this
  rw[this]
 unfold u0c
 rw[h1,h2]
def OnlyArea (a:Int) (d d' :u0k):Prop:= ∀j:Nat,¬(u0e a≤(j:Int)∧(j:Int)<u0e a+48)→u0h d' (j:Int)=u0h d (j:Int)
theorem OnlyArea.other {a o:Int} {d d' :u0k} (h:OnlyArea a d d') (ha:a=0∨a=1) (ho:o=1 - a):u0c d' o=u0c d o:=by
 refine u7w (fun q hq=> ?_)
 have hf:u0e o=1+o*48:=by unfold u0e;rw[Al (p4g.mpr (by omega))]
 have hfa:u0e a=1+a*48:=by unfold u0e;rw[Al (p4g.mpr ha)]
 obtain⟨j,hj⟩:∃j:Nat,u0e o+(q:Int)=(j:Int):=⟨(u0e o+(q:Int)).toNat,by rcases ha with rfl | rfl<;>omega⟩
 rw[hj]
 exact h j (by rcases ha with rfl | rfl<;>omega)
theorem OnlyArea.trans {a:Int} {d d' e:u0k} (h1:OnlyArea a d d') (h2:OnlyArea a d' e):OnlyArea a d e:=fun j hj=>(h2 j hj).trans (h1 j hj)
theorem OnlyArea.flush {a:Int} {d d' :u0k} (h:OnlyArea a d d') (hk:u1q d' =true):OnlyArea a d (flush d'):=fun j hj=>(u80 hk _).trans (h j hj)
theorem s59 {d x:u0k} {s at_:Int} {t:Hs} (h:u4s d s at_ t=some x) {j:Nat} (hj: ¬(s≤(j:Int)∧(j:Int)*64<s*64+at_+(t.size:Int))):u0h x (j:Int)=u0h d (j:Int):=by
 unfold u4s at h
 split at h
 ·rename_i hc
  simp only[Ai,s82,Ar] at hc
  refine s9b h (Ev _ (by omega)) j (fun z=>hj ?_)
  omega
 ·cases h
theorem p0x {d x:u0k} {a:Int} {t:Hs} (h:t3f d a t=some x):OnlyArea a d x:=by
 have h0:=h
 unfold t3f at h
 split at h
 ·cases h
 ·rename_i hc
  simp only[Hr] at hc
  intro j hj
  refine s59 h (fun z=>hj ?_)
  omega
theorem q2y {d x:u0k} {a n:Int} (h:s7n d a n=some x):OnlyArea a d x:=by
 intro j hj
 refine s59 h (fun z=>hj ?_)
 rw[u2y] at z
 omega
theorem p4x {d y:u0k} {a:Int} {t:Hs} (hlen:d.1.length=97) (h:q27 d a t=some y):OnlyArea a d y:=by
 unfold q27 at h
 cases hb:t3f d a t with
 | none=>rw[hb] at h;cases h
 | some x=>
  rw[hb] at h
  simp only[Dc,Ac] at h
  obtain⟨z,hz,hz2,hz3⟩:=q38 (n:=s4c d a) hlen hb
  rw[hz] at h
  subst h
  exact(((p0x hb).flush (s2z hb).2.1).trans (q2y hz)).flush hz2
structure Mid (o:Int) (x:u0k):Prop where
 ok:u1q x=true
 len:x.1.length=97
 nil:x.2= []
 other:(u0c x o).2.2=true
theorem Mid.put {a o:Int} {x y:u0k} {t:Hs} (h:Mid o x) (ha:a=0∨a=1) (ho:o=1 - a) (hp:q27 x a t=some y):Mid o y:=by
 obtain⟨_,_,_,p1,p2,p3,_⟩:=p3b h.len hp
 exact⟨p1,p3,p2,by rw[(p4x h.len hp).other ha ho];exact h.other⟩
def r06 (a:Int):Hu Hs→u0k→Ht u0k
 | [],x=>some x
 | t::l,x=>(q27 x a t).bind (r06 a l)
theorem q21 {a o:Int} (ha:a=0∨a=1) (ho:o=1 - a):∀ {l:Hu Hs} {x y:u0k},Mid o x→r06 a l x=some y→Mid o y
 | [],x,y,h,hy=>by cases hy;exact h
 | t::l,x,y,h,hy=>by
  unfold r06 at hy
  cases hp:q27 x a t with
  | none=>rw[hp] at hy;cases hy
  | some z=>
   rw[hp] at hy
   exact q21 ha ho (h.put ha ho hp) hy
theorem q7b {a o:Int} (ha:a=0∨a=1) (ho:o=1 - a) (jk:u0k) (list:Hu Hs) (hl:list.length≤1048576) (hs:∀t∈list,t.size≤1048576):∀(r i:Nat) (x:u0k),i+r=list.length→Mid o x→
 ∃q,u7n (list,jk,a,x,true,(i:Int))=some (.inl (jk,q))∧(match r06 a (list.drop i) x with
  | some y=>q=(y,true)
  | none=>q.2=false)
 | 0,i,x,hi,hm=>by
  have:i=list.length:=by omega
  subst this
  rw[t6g]
  simp only[u67,u0b,Am,Ah,Aa,F5,r06,zOb]
  exact⟨_,rfl,rfl⟩
 | r+1,i,x,hi,hm=>by
  have h:i<list.length:=by omega
  have hw:=t3h hm.ok
  have hts:=hs list[i] (Ag h)
  have hr:rdL Ty.str list i=list[i] :=y8k (t:=Ty.str) h
  rw[t6g,Ce h]
  simp only[u67,u0b,h,Ae,Ad,y7t h,zTn,hr,q7f x a list[i] (by omega) hts hm.len,zOb,r06]
  rw[y7l (by omega)]
  cases hp:q27 x a list[i] with
  | none=>
   simp only[orD,Option.bind_none]
   rw[t6g]
   simp only[u67,u0b]
   cases decide (i+1<list.length)<;>exact⟨_,rfl,rfl⟩
  | some y=>
   simp only[orD,zOb]
   exact q7b ha ho jk list hl hs r (i+1) y (by omega) (hm.put ha ho hp)
end
section
def u4b (d:u0k):Int:=1 - u0z d
theorem t4a (d:u0k):(u4b d=0∨u4b d=1)∧u0z d=1 - u4b d:=by
 unfold u4b
 have:=t2k d
 omega
def s1d (d:u0k):u0k:=flush (orD d (s7n d (u4b d) 0)).1
def s9i (d:u0k) (l:Hu Hs):Ht u0k:=if u25 d then r06 (u4b d) l (s1d d) else none
def p1n (x:u0k):Ht u0k:=u4s x 0 0 (t37 (IntKind.i64.wrap (u3b x 0+1)))
def s8l (d:u0k) (l:Hu Hs):Ht u0k:=(s9i d l).map fun x=>flush (orD x (p1n x)).1
theorem q6s {d:u0k} (hl:u25 d=true) (a n:Int):∃z,s7n d a n=some z∧u1q z=true∧z.1.length=97:=by
 obtain⟨h1,h2,h3,_⟩:=u4t hl
 have ha:=t9a a
 have ho:=r2f (s:=u0e a) h1 h3 (by omega) (by omega) (u2y n)
 have:=u5n ho
 exact⟨_,ho,this.2.1,by rw[this.2.2];exact h2⟩
theorem q69 {d:u0k} (hl:u25 d=true):Mid (u0z d) (s1d d):=by
 obtain⟨z,hz,hz2,hz3⟩:=q6s hl (u4b d) 0
 obtain⟨a1,a2⟩:=t4a d
 obtain⟨h1,h2,h3,h4,h5⟩:=u4t hl
 obtain⟨f1,f2,f3⟩:=t43 hz2
 have e:s1d d=flush z:=by unfold s1d;rw[hz];rfl
 have hr:(u0c d (u0z d)).2.2=true:=by
  rcases t2k d with h | h<;>rw[h] <;>assumption
 rw[e]
 exact⟨f1,by rw[f3];exact hz3,f2,by rw[((q2y hz).flush hz2).other a1 a2];exact hr⟩
theorem p63 {x:u0k} {o:Int} (h:Mid o x):∃y,p1n x=some y∧u1q y=true:=by
 have ho:=r2f (s:=0) h.ok h.nil (by omega) (by rw[h.len];omega) (u2y (IntKind.i64.wrap (u3b x 0+1)))
 exact⟨_,ho,(u5n ho).2.1⟩
section
variable {d:u0k} {l:Hu Hs} (hd:o3d.wt d≤10000000) (hl:l.length≤1048576) (hs:∀t∈l,t.size≤1048576)
include hd hl hs
omit hd hl hs in
theorem p66:IntKind.i64.wrap ((1:Int) - u0z d)=u4b d:=by
 unfold u4b
 have:=t2k d
 rw[y4y (by omega) (by omega)]
omit hd hl hs in
theorem p2q {x:u0k} (h:s9i d l=some x):u25 d=true∧Mid (u0z d) x:=by
 unfold s9i at h
 split at h
 ·rename_i hlo
  obtain⟨a1,a2⟩:=t4a d
  exact⟨hlo,q21 a1 a2 (q69 hlo) h⟩
 ·cases h
theorem q7e (hlo:u25 d=true):∃q,s0k (d,l)=some q∧(match s9i d l with
 | some y=>q=(y,true)
 | none=>q.2=false):=by
 obtain⟨z,hz,hz2,hz3⟩:=q6s hlo (u4b d) 0
 have hzw:=t3h hz2
 obtain⟨a1,a2⟩:=t4a d
 have e:flush z=s1d d:=by unfold s1d;rw[hz];rfl
 obtain⟨q,L,hq⟩:=q7b a1 a2 ([], []) l hl hs l.length 0 (s1d d) (by omega) (q69 hlo)
 have L:u7n (l,([], []),u4b d,s1d d,true,0)=_:=L
 rw[Fh] at hq
 refine⟨q,?_,by unfold s9i;rw[hlo,Al rfl];exact hq⟩
 rw[q1y];unfold r0n
 simp only[s2o d (by unfold u0l;omega),p66 (d:=d),r9z d _ _ (by omega),zOb,hz,orD,t4o z (by omega),e,L]
omit hd hl hs in
theorem p09 (x:u0k) (hx:o3d.wt x≤10000000):s0l x=some (orD x (p1n x)):=by
 rw[q1z];unfold r0o
 have h1:∀n,t3v n=some (t37 n):=fun n=>by rw[r34];rfl
 simp only[s7x x 0 (by unfold u0l;omega),h1,zOb,t7f x 0 0 (t37 (IntKind.i64.wrap (u3b x 0+1))) (by omega) (by rw[u2y];omega)]
 rfl
theorem q0y:t6b (d,l)=some (orD d (s8l d l)):=by
 rw[r7v];unfold s35 s8l
 simp only[q2q d (by omega),u9e d (by unfold u0l;omega),zOb]
 cases hlo:u25 d with
 | false=>
  have:s9i d l=none:=by unfold s9i;rw[hlo];rfl
  rw[this]
  rfl
 | true=>
  obtain⟨q,hq,hq2⟩:=q7e hd hl hs hlo
  simp only[Ap,Aa,hq,zOb]
  cases hf:s9i d l with
  | none=>
   rw[hf] at hq2
   simp only at hq2
   simp only[hq2,Bh,Ad]
   rfl
  | some x=>
   rw[hf] at hq2
   simp only at hq2
   subst hq2
   obtain⟨_,hm⟩:=p2q hf
   have hx:=t3h hm.ok
   obtain⟨y,hy,hy2⟩:=p63 hm
   have hyw:=t3h hy2
   simp only[orD,Ap,Aa,p09 x (by omega),hy,zOb,t4o y (by omega),Dc]
def u8y (d:u0k) (l:Hu Hs) (step:Int) (keep:Hu Int) (tear:Int):u0k:=
 match s9i d l with
 | none=>d
 | some x=>
  if step=0 then t8v (orD d (s7n d (u4b d) 0)).1 keep tear
  else if step=1 then x
  else if step=2 then t8v (orD x (p1n x)).1 keep tear
  else flush (orD x (p1n x)).1
end
end
section
def s22 (s:Hs) (i:Nat):UInt8:=s.data.toList.getD i 0
theorem u6w (a b:Hs) (i:Nat):s22 (a++b) i=if i<a.size then s22 a i else s22 b (i - a.size):=by
 unfold s22
 have hs:a.size=a.data.toList.length:=by simp only[B6];rfl
 rw[Ft,Ha,A5,hs]
 split
 ·rename_i h
  rw[Aj h,A5]
 ·rename_i h
  rw[Aq (Fz h),A5]
theorem u3c (a:Hs) (b e i:Nat):s22 (a.extract b e) i=if i<min e a.size - b then s22 a (b+i) else 0:=by
 unfold s22
 have hd:(a.extract b e).data.toList=(a.data.toList.drop b).take (min e a.size - b):=by
  have hs:a.size=a.data.toList.length:=by simp only[B6];rfl
  rw[ByteArray.data_extract]
  rw[Array.toList_extract,F7]
  apply Gj
  intro n
  rw[Ca,Ca,Dg]
  split<;>split<;>first | rfl | skip
  ·rename_i h1 h2
   rw[Be (by omega)]
  ·rename_i h1 h2
   rw[Be (by omega)]
 rw[hd,A5,Ca]
 split
 ·rw[Dg,A5]
 ·rfl
theorem r8c {a b:Hs} (hs:a.size=b.size) (h:∀i,i<a.size→s22 a i=s22 b i):a=b:=by
 have ha:a.size=a.data.toList.length:=by simp only[B6];rfl
 have hb:b.size=b.data.toList.length:=by simp only[B6];rfl
 have:a.data.toList=b.data.toList:=by
  apply Gw (by omega)
  intro i h1 h2
  have:=h i (by omega)
  unfold s22 at this
  rw[A5,A5,A4 h1,A4 h2] at this
  exact this
 apply Gf
 apply Fj
 exact this
theorem q5u {d x:u0k} {k:Int} {s:Hs} (h:u5w d k s=some x):u0h x k=(s,true):=by
 obtain⟨h1,h2⟩:=t4m h
 obtain⟨_,_,_,h4⟩:=q20.mp h1
 subst h2
 have:=(h4 (k,s) (by simp)).1
 have hk:0≤k∧k<(d.1.length:Int):=this
 unfold u0h
 simp only[s79]
 rw[Al hk]
 simp
theorem q3m:∀ {f:Nat} {d x:u0k} {k at_:Nat} {t:Hs},q50 f d k at_ t=some x→t.size<f→at_<64→ ∀(j i:Nat),i<64→j<d.1.length→
 s22 (u0h x (j:Int)).1 i=if k*64+at_≤j*64+i∧j*64+i<k*64+at_+t.size then s22 t (j*64+i - (k*64+at_)) else s22 (u0h d (j:Int)).1 i
 | 0,d,x,k,at_,t,h,hf,_,j,i,_,_=>by omega
 | f+1,d,x,k,at_,t,h,hf,hat,j,i,hi,hj=>by
  rw[q50] at h
  split at h
  ·rename_i hz
   cases h
   rw[Ao (by omega)]
  ·rename_i hz
   split at h
   ·rename_i hrd
    cases hw:u5w d (k:Int) ((u0h d (k:Int)).1.extract 0 at_++t.extract 0 (min t.size (64 - at_))++(u0h d (k:Int)).1.extract (at_+min t.size (64 - at_)) 64) with
    | none=>rw[hw] at h;cases h
    | some y=>
     rw[hw] at h
     simp only[zOb] at h
     obtain⟨n,hn⟩:∃n,n=min t.size (64 - at_):=⟨_,rfl⟩
     rw[←hn] at h hw
     have hyl:y.1.length=d.1.length:=by rw[(t4m hw).2]
     have hsz:(t.extract n t.size).size=t.size - n:=by rw[Bd];omega
     have ih:=q3m h (by omega) (by omega) j i hi (by omega)
     rw[ih,hsz]
     by_cases hjk:j=k
     ·subst hjk
      rw[Ao (by omega),q5u hw]
      simp only
      rw[u6w,u6w,u3c,u3c,u3c]
      simp only[Af,Bd,hrd.2]
      by_cases h1:i<at_
      ·have e1:i<min at_ 64 - 0:=by omega
       rw[Al (by omega),Al e1,Al e1,Ao (by omega),Co]
      ·by_cases h2:i<at_+n
       ·rw[Al (by omega),Ao (by omega),Al (by omega),Al (by omega)]
        congr 1
        omega
       ·rw[Ao (by omega),Al (by omega),Ao (by omega)]
        congr 1
        omega
     ·have hfr:u0h y (j:Int)=u0h d (j:Int):=r1q hw (by omega)
      rw[hfr]
      by_cases h1:(k+1)*64+0≤j*64+i∧j*64+i<(k+1)*64+0+(t.size - n)
      ·rw[Al h1,Al (by omega),u3c,Al (by omega)]
       congr 1
       omega
      ·rw[Ao h1,Ao (by omega)]
   ·cases h
end
section
theorem q7y (a:Hs):a.size=a.data.toList.length:=by simp only[B6];rfl
theorem r4a {a:Hs} {i:Nat} (h:i<a.size):a.data.toList[i]? =some (s22 a i):=by
 unfold s22
 rw[q7y] at h
 rw[A5,A4 h]
 rfl
theorem q0o:∀ {f i n:Nat} {l l' :Hu UInt8} {v k:Nat},s3j f i n l=some (v,k)→(∀q,q<k - i→l'[q]? =l[q]?)→s3j f i n l' =some (v,k)
 | 0,_,_,_,_,_,_,h,_=>by cases h
 | _+1,_,_, [],_,_,_,h,_=>by cases h
 | f+1,i,n,b::l,l',v,k,h,hl=>by
  have hk:=(q5s _ _ _ _ _ _ h).2.2
  have h0:=hl 0 (by omega)
  cases l' with
  | nil=>simp at h0
  | cons b' l' =>
   simp only[Bt,Ac] at h0
   subst h0
   simp only[s3j] at h ⊢
   split at h
   ·rename_i h1
    rw[Al h1]
    exact h
   ·rename_i h1
    rw[Ao h1]
    exact q0o h (fun q hq=>by have:=hl (q+1) (by omega);simpa using this)
theorem q5j {T T' :Hs} {at_:Int} (h:(u0q T at_).2.2=true) (hs:T'.size=T.size) (hb:∀q:Nat,(q:Int)<(u0q T at_).2.1→s22 T' q=s22 T q):u0q T' at_=u0q T at_:=by
 have hok:=t20 h
 unfold u0q at h hb hok ⊢
 split at h
 ·rename_i hc
  rw[Al hc] at hb hok
  rw[Al (by rw[hs];exact hc),Al hc]
  cases hv:s3j 5 0 0 (T.data.toList.drop at_.toNat) with
  | none=>rw[hv] at h;cases h
  | some r=>
   obtain⟨v,k⟩:=r
   rw[hv] at hb hok
   simp only[r4u] at hb hok
   rw[q0o hv (fun q hq=>by
    have hlt:at_.toNat+q<T.size:=by omega
    rw[Dg,Dg,r4a (by omega),r4a hlt,hb (at_.toNat+q) (by omega)])]
 ·cases h
theorem r1g {T:Hs} {at_:Int} (h:(u0p T at_).2.2=true):0≤at_∧at_<(u0p T at_).2.1∧(u0p T at_).2.1≤T.size:=by
 have h2:=s8f h
 unfold u0p at h h2 ⊢
 split at h
 ·rename_i hc
  rw[Al hc] at h2
  rw[Al hc]
  have:=t20 hc.1
  simp only at h2 ⊢
  omega
 ·cases h
theorem q0b {T T' :Hs} {at_:Int} (h:(u0p T at_).2.2=true) (hs:T'.size=T.size) (hb:∀q:Nat,(q:Int)<(u0p T at_).2.1→s22 T' q=s22 T q):u0p T' at_=u0p T at_:=by
 have hn:=r1g h
 unfold u0p at h hb hn ⊢
 split at h
 ·rename_i hc
  rw[Al hc] at hb hn
  simp only at hb hn
  have hok:=t20 hc.1
  have e:u0q T' at_=u0q T at_:=q5j hc.1 hs (fun q hq=>hb q (by omega))
  rw[e,Al (by rw[hs];exact hc),Al hc]
  congr 1
  apply r8c
  ·rw[Bd,Bd,hs]
  ·intro i hi
   rw[Bd] at hi
   rw[u3c,u3c,hs]
   split
   ·exact hb _ (by omega)
   ·rfl
 ·cases h
theorem q2s {T:Hs} :∀ {m:Nat} {at_:Int} {acc l:Hu Hs} {E:Int},u5j T m at_ acc=(l,E,true)→at_≤E
 | 0,at_,acc,l,E,h=>by unfold u5j at h;cases h;exact Bv _
 | m+1,at_,acc,l,E,h=>by
  unfold u5j at h
  split at h
  ·rename_i hc
   simp only[Ai] at hc
   have h1:=(r1g hc.1).2.1
   have h2:=q2s h
   omega
  ·cases h
theorem s7l {T T' :Hs} (hs:T'.size=T.size):∀ {m:Nat} {at_:Int} {acc l:Hu Hs} {E:Int},u5j T m at_ acc=(l,E,true)→(∀q:Nat,(q:Int)<E→s22 T' q=s22 T q)→u5j T' m at_ acc=(l,E,true)
 | 0,at_,acc,l,E,h,_=>by unfold u5j at h ⊢;exact h
 | m+1,at_,acc,l,E,h,hb=>by
  unfold u5j at h ⊢
  split at h
  ·rename_i hc
   have hc' :=hc
   simp only[Ai] at hc'
   have h2:=q2s h
   rw[q0b hc'.1 hs (fun q hq=>hb q (by omega)),Al hc]
   exact s7l hs h hb
  ·cases h
theorem r8r {T:Hs} {s:Hs} {nx:Int} :∀ {m:Nat} {at_:Int} {acc l:Hu Hs} {E:Int},u5j T m at_ acc=(l,E,true)→u0p T E=(s,nx,true)→s.size≠0→u5j T (m+1) at_ acc=(l++ [s],nx,true)
 | 0,at_,acc,l,E,h,hr,hne=>by
  unfold u5j at h
  cases h
  unfold u5j
  have:z7o s emp=false:=by
   have:=r69 (t:=s)
   rw[p5t] at this
   rw[this]
   simpa using hne
  rw[hr]
  simp only[this,Bh,Dt,Bl]
  rfl
 | m+1,at_,acc,l,E,h,hr,hne=>by
  unfold u5j at h
  split at h
  ·rename_i hc
   unfold u5j
   rw[Al hc]
   exact r8r h hr hne
  ·cases h
def u8s (l:Hu Int):Hu UInt8:=l.map fun n=>UInt8.ofNat n.toNat
theorem r54:∀(f i acc n N:Nat) (r:Hu UInt8),0<f→n<128^f→acc+n*128^i=N→N≤1000000000→(t6t N).length=i+(t6t n).length→s3j f i acc (u8s (t6t n)++r)=some (N,i+(t6t n).length)
 | 0,i,acc,n,N,r,hf,_,_,_,_=>by omega
 | f+1,i,acc,n,N,r,_,hn,hN,hb,hl=>by
  by_cases h:n<128
  ·rw[s8n h] at hl ⊢
   have e:(UInt8.ofNat ((n:Int)).toNat).toNat=n:=by
    rw[zTn,Gg]
    omega
   simp only[u8s,C8,Eh,Ef,Cf,s3j,e,h,Bl,Aw] at hl ⊢
   rw[Nat.mod_eq_of_lt h,hN,Al ⟨hb,hl⟩]
  ·rw[r53 h] at hl ⊢
   have e:(UInt8.ofNat (((n % 128+128:Nat):Int)).toNat).toNat=n % 128+128:=by
    rw[zTn,Gg]
    omega
   have hh: ¬n % 128+128<128:=by omega
   simp only[u8s,C8,Ef,s3j,e,hh,Bk,Bc] at hl ⊢
   have e2:(n % 128+128) % 128=n % 128:=by omega
   rw[e2]
   have:=r54 f (i+1) (acc+n % 128*128^i) (n / 128) N r (by rcases f with _ | f<;>simp at hn ⊢;omega) (by rw[Gr] at hn;omega) (by
    rw[←hN,Gr]
    have:n=n % 128+128*(n / 128):=by omega
    conv=>rhs;rw[this]
    rw[Cl]
    have:n / 128*(128^i*128)=128*(n / 128)*128^i:=by rw[Fk (128^i) 128,←Nat.mul_assoc,Fk (n / 128) 128]
    omega) hb (by omega)
   show s3j f (i+1) (acc+n % 128*128^i) (u8s (t6t (n / 128))++r)=_
   rw[this]
   congr 2
   omega
end
section
theorem t8i (l:Hu Int):(y7g l).data.toList=u8s l:=by
 unfold y7g u8s
 simp
theorem r5x {T t:Hs} {E:Nat} (h0:t.size≠0) (h1:t.size≤3008) (hE:E+(u0s t).size≤T.size) (hb:∀q,q<(u0s t).size→s22 T (E+q)=s22 (u0s t) q):
 u0p T (E:Int)=(t,((E+(u0s t).size:Nat):Int),true):=by
 have hsz:(u0s t).size=(t6t t.size).length+t.size:=by unfold u0s;rw[Af,u21]
 have hlist:(u0s t).data.toList=u8s (t6t t.size)++t.data.toList:=by
  unfold u0s
  rw[Ft,Ha,t8i]
 have hdrop:∃r,T.data.toList.drop E=u8s (t6t t.size)++r:=by
  refine⟨(T.data.toList.drop E).drop (u8s (t6t t.size)).length,?_⟩
  have:(T.data.toList.drop E).take (u8s (t6t t.size)).length=u8s (t6t t.size):=by
   apply Gj
   intro q
   rw[Ca]
   split
   ·rename_i hq
    have hq' :q<(t6t t.size).length:=by simpa[u8s] using hq
    rw[Dg,r4a (by omega),hb q (by omega),←r4a (by omega),hlist,Aj hq]
   ·rename_i hq
    rw[Be (Fz hq)]
  conv=>lhs;rw[←En (u8s (t6t t.size)).length (T.data.toList.drop E)]
  rw[this]
 obtain⟨r,hr⟩:=hdrop
 have hv:=r54 5 0 0 t.size t.size r (by omega) (by omega) (by simp) (by omega) (by omega)
 have hread:u0q T (E:Int)=((t.size:Int),(E:Int)+((t6t t.size).length:Int),true):=by
  unfold u0q
  rw[Al (by omega),zTn,hr,hv]
  simp[r4u]
 unfold u0p
 rw[hread]
 simp only
 rw[Al (by simp only[true_and];omega)]
 have e1:((E:Int)+((t6t t.size).length:Int)).toNat=E+(t6t t.size).length:=by omega
 have e2:((E:Int)+((t6t t.size).length:Int)+(t.size:Int)).toNat=E+(t6t t.size).length+t.size:=by omega
 rw[e1,e2]
 have et:T.extract (E+(t6t t.size).length) (E+(t6t t.size).length+t.size)=t:=by
  apply r8c
  ·rw[Bd];omega
  ·intro i hi
   rw[Bd] at hi
   rw[u3c,Al (by omega)]
   have:=hb ((t6t t.size).length+i) (by omega)
   rw[show E+(t6t t.size).length+i=E+((t6t t.size).length+i) by omega,this]
   unfold u0s
   rw[u6w,Ao (by rw[u21];omega),u21]
   congr 1
   omega
 rw[et]
 congr 2
 rw[hsz]
 omega
def o0e (d:u0k):Prop:= ∀k:Nat,k<97→(u0h d (k:Int)).2=true∧(u0h d (k:Int)).1.size=64
theorem s21 {d:u0k} (hk:u1q d=true) (hl:d.1.length=97):o0e d:=by
 intro k hlt
 obtain⟨k1,k2,k3,k4⟩:=q20.mp hk
 have hc:(0:Int)≤(k:Int)∧(k:Int)<(d.1.length:Int):=by omega
 unfold u0h
 rw[Al hc]
 refine⟨rfl,?_⟩
 cases hp:u82 d.2 (k:Int) with
 | none=>
  have hlt' :k<d.1.length:=by omega
  have e:rdL Ty.str d.1 k=d.1[k] :=y8k (t:=Ty.str) hlt'
  simp only[Eo,zTn]
  rw[e]
  exact k3 _ (Ag hlt')
 | some s=>
  obtain⟨p,hp1,hp2⟩:=r2d hp
  simp only[Eb]
  rw[←hp2]
  exact(k4 p hp1).2
theorem q0f {d:u0k} {F:Nat} (h:∀q:Nat,q<47→(u0h d ((F+q:Nat):Int)).2=true∧(u0h d ((F+q:Nat):Int)).1.size=64):∀(m i:Nat) (acc:Hs),i+m≤47→
 ∃T,r50 d (F:Int) m i acc=(T,true)∧T.size=acc.size+64*m∧ ∀j,j<T.size→s22 T j=if j<acc.size then s22 acc j else s22 (u0h d ((F+i+(j - acc.size) / 64:Nat):Int)).1 ((j - acc.size) % 64)
 | 0,i,acc,_=>⟨acc,rfl,by omega,fun j hj=>by rw[Al hj]⟩
 | m+1,i,acc,hm=>by
  have hq:=h i (by omega)
  have e:(F:Int)+(i:Int)=((F+i:Nat):Int):=by omega
  obtain⟨T,t1,t2,t3⟩:=q0f h m (i+1) (acc++(u0h d ((F+i:Nat):Int)).1) (by omega)
  refine⟨T,?_,?_,fun j hj=> ?_⟩
  ·unfold r50
   rw[e,Al hq.1]
   exact t1
  ·rw[t2,Af,hq.2];omega
  ·rw[t3 j hj,Af,hq.2,u6w]
   by_cases h1:j<acc.size
   ·rw[Al (by omega),Al h1,Al h1]
   ·rw[Ao h1,Ao h1]
    by_cases h2:j<acc.size+64
    ·rw[Al h2]
     have z1:(j - acc.size) / 64=0:=by omega
     have z2:(j - acc.size) % 64=j - acc.size:=by omega
     rw[z1,z2,Df]
    ·rw[Ao h2]
     have z1:F+(i+1)+(j - (acc.size+64)) / 64=F+i+(j - acc.size) / 64:=by omega
     have z2:(j - (acc.size+64)) % 64=(j - acc.size) % 64:=by omega
     rw[z1,z2]
def s1e (a:Int):Nat:=(u0e a+1).toNat
def s2y (d:u0k) (a:Int):Hs:=(u9a d (u0e a+1) 47).1
theorem u44 {d:u0k} (hf:o0e d) {a:Int} (ha:a=0∨a=1):u9a d (u0e a+1) 47=(s2y d a,true)∧(s2y d a).size=3008∧ ∀j,j<3008→s22 (s2y d a) j=s22 (u0h d ((s1e a+j / 64:Nat):Int)).1 (j % 64):=by
 have hfa:u0e a=1+a*48:=by unfold u0e;rw[Al (p4g.mpr ha)]
 have hF:(u0e a+1:Int)=((s1e a:Nat):Int):=by unfold s1e;rcases ha with rfl | rfl<;>omega
 have hb:s1e a+47≤97:=by unfold s1e;rcases ha with rfl | rfl<;>omega
 obtain⟨T,t1,t2,t3⟩:=q0f (d:=d) (F:=s1e a) (fun q hq=>hf (s1e a+q) (by omega)) 47 0 emp (by omega)
 have he:emp.size=0:=rfl
 have hs:u9a d (u0e a+1) 47=(T,true):=by
  unfold u9a
  rw[Al (by omega),hF]
  exact t1
 have hT:s2y d a=T:=by unfold s2y;rw[hs]
 rw[hT]
 rw[he] at t2 t3
 refine⟨hs,by omega,fun j hj=> ?_⟩
 rw[t3 j (by omega),Ao (by omega),Df,Nat.sub_zero]
theorem u60 {d:u0k} (hf:o0e d) {a:Int} (ha:a=0∨a=1):u0c d a=u5j (s2y d a) (u05 d a).toNat 0 [] :=by
 have h:=(u44 hf ha).1
 have hi:p07 a=true:=p4g.mpr ha
 unfold u0c
 rw[h,hi]
 rfl
end
section
theorem q9t {a b:Hs} (h:a.data.toList=b.data.toList):a=b:=by
 apply Gf
 exact Array.toList_inj.mp h
theorem r8s (a b:Hs):(a++b).data.toList=a.data.toList++b.data.toList:=by rw[Ft,Ha]
theorem u5u (a b c:Hs):a++b++c=a++(b++c):=q9t (by simp only[r8s,Bi])
theorem q8q (a:Hs):emp++a=a:=q9t (by rw[r8s];rfl)
theorem q8k (a:Hs):a++emp=a:=q9t (by rw[r8s];simp[emp])
theorem r1u (a:Hs):a.size=a.data.toList.length:=q7y a
def s8o (n:Int):Hs:=y7g (t6t n.toNat)
def q8m (b:Bool):Hs:=y7g [if b then 1 else 0]
def s6d {E:Type} (f:E→Hs) (l:Hu E):Hs:=l.foldl (fun s x=>s++f x) emp
def q79 (r:t80):Hs:=u0s r.1++u0s r.2
def wrT (w:WrT):Hs:=u0s w.1++(u0s w.2.1++q8m w.2.2)
def q74 (v:u2b):Hs:=u0s v.1++(u0s v.2.1++(q8m v.2.2.1++s8o v.2.2.2))
def u9b (t:u0j):Hs:=
 s8o t.1++(s8o t.2.1++(s8o t.2.2.1++(s8o t.2.2.2.1++(s8o (t.2.2.2.2.1.length:Int)++(s6d q79 t.2.2.2.2.1++(s8o (t.2.2.2.2.2.1.length:Int)++(s6d wrT t.2.2.2.2.2.1++(q8m t.2.2.2.2.2.2.1++u0s t.2.2.2.2.2.2.2))))))))
def s14 (l:Hu u0j):Hs:=s8o (l.length:Int)++s6d u9b l
def u7r (b:u0i):Hs:=s8o b.2.2.2.1++(s8o b.2.2.2.2++(s8o (b.1.length:Int)++(s6d q74 b.1++(s14 b.2.1++s14 b.2.2.1))))
theorem r3t {E:Type} (f:E→Hs):∀(l:Hu E) (s:Hs),l.foldl (fun s x=>s++f x) s=s++s6d f l
 | [],s=>(q8k s).symm
 | x::l,s=>by
  rw[Bs,r3t f l]
  unfold s6d
  rw[Bs,r3t f l (emp++f x),q8q,u5u]
  rfl
theorem t7q {E:Type} (f:E→Hs) (x:E) (l:Hu E):s6d f (x::l)=f x++s6d f l:=by
 unfold s6d
 rw[Bs,r3t,q8q]
 rfl
theorem q37 {E:Type} (f:E→Hs):s6d f [] =emp:=rfl
def t0r (T:Hs) (a:Nat) (s:Hs):Prop:= ∃r,T.data.toList.drop a=s.data.toList++r
theorem p7o {T:Hs} {a:Nat} {s u:Hs} :t0r T a (s++u)↔t0r T a s∧t0r T (a+s.size) u:=by
 unfold t0r
 rw[r8s,r1u s]
 constructor
 ·rintro⟨r,h⟩
  refine⟨⟨u.data.toList++r,by rw[h,Bi]⟩,r,?_⟩
  rw[←Gl,h,Bi,Hg]
 ·rintro⟨⟨r,h⟩,r',h'⟩
  rw[←Gl,h,Hg] at h'
  exact⟨r',by rw[h,h',Bi]⟩
theorem r4n {T:Hs} {a:Nat} {s:Hs} (h:t0r T a s) (hs:s.size≠0):a+s.size≤T.size:=by
 obtain⟨r,h⟩:=h
 have:=Dj List.length h
 rw[F0,Ba,←r1u,←r1u] at this
 omega
theorem q3f {a s b:Hs} :t0r (a++s++b) a.size s:=⟨b.data.toList,by rw[r8s,r8s,r1u,Bi,Hg]⟩
theorem t8k (n:Int):(s8o n).size=(t6t n.toNat).length:=u21 _
theorem r4t (n:Nat):0<(t6t n).length:=by
 by_cases h:n<128
 ·rw[s8n h];simp
 ·rw[r53 h];simp
theorem r1h {T:Hs} {a:Nat} {n:Int} (h0:0≤n) (hn:n≤1000000000) (h:t0r T a (s8o n)):u0q T (a:Int)=(n,((a+(s8o n).size:Nat):Int),true):=by
 have hle:=r4n h (by rw[t8k];have:=r4t n.toNat;omega)
 obtain⟨r,h⟩:=h
 unfold s8o at h
 rw[t8i] at h
 have hv:=r54 5 0 0 n.toNat n.toNat r (by omega) (by omega) (by simp) (by omega) (by omega)
 unfold u0q
 rw[Al (by omega),zTn,h,hv]
 simp only[r4u]
 rw[t8k]
 congr 1
 ·omega
 ·congr 1
  omega
theorem r72 {T:Hs} {a:Nat} {s:Hs} (hs:s.size≤20000) (h:t0r T a (u0s s)):u0p T (a:Int)=(s,((a+(u0s s).size:Nat):Int),true):=by
 have e:u0s s=s8o (s.size:Int)++s:=rfl
 rw[e] at h
 obtain⟨h1,h2⟩:=p7o.mp h
 have hv:=r1h (by omega) (by omega) h1
 have hle1:=r4n h1 (by rw[t8k];have:=r4t (s.size:Int).toNat;omega)
 unfold u0p
 rw[hv]
 have hle:a+(s8o (s.size:Int)).size+s.size≤T.size:=by
  by_cases q:s.size=0
  ·omega
  ·exact r4n h2 q
 rw[Al (by simp only[true_and];omega)]
 have hx:T.extract (((a+(s8o (s.size:Int)).size:Nat):Int)).toNat ((((a+(s8o (s.size:Int)).size:Nat):Int)+(s.size:Int))).toNat=s:=by
  rw[zTn,show(((a+(s8o (s.size:Int)).size:Nat):Int)+(s.size:Int)).toNat=a+(s8o (s.size:Int)).size+s.size by omega]
  rw[r6w _ _ _ hle]
  obtain⟨r,hr⟩:=h2
  rw[hr,Nat.add_sub_cancel_left,r1u,List.take_left]
 simp only[hx]
 rw[e,Af]
 congr 2
 omega
abbrev Cur:=Int×Bool
def u1u (s:Hs) (c:Cur):Int×Cur:=if c.2=true∨(u0q s c.1).2.2=false then(0,c.1,true) else((u0q s c.1).1,(u0q s c.1).2.1,false)
def u1y (s:Hs) (c:Cur):Hs×Cur:=if c.2=true∨(u0p s c.1).2.2=false then(emp,c.1,true) else((u0p s c.1).1,(u0p s c.1).2.1,false)
def u4w (s:Hs) (i:Nat):Nat:=(s.data.toList.getD i 0).toNat
def r41 (s:Hs) (c:Cur):Bool×Cur:=if c.2=true∨ ¬(0≤c.1∧c.1<(s.size:Int))∨1<u4w s c.1.toNat then(false,c.1,true) else(decide (u4w s c.1.toNat=1),c.1+1,false)
def u10 {E:Type} (f:Cur→E×Cur):Nat→Cur→Hu E→Hu E×Cur
 | 0,c,a=>(a,c)
 | n+1,c,a=>if c.2=true then(a,c) else u10 f n (f c).2 (a++ [(f c).1])
def q5g (s:Hs) (c:Cur):t80×Cur:=(((u1y s c).1,(u1y s (u1y s c).2).1),(u1y s (u1y s c).2).2)
def rWr (s:Hs) (c:Cur):WrT×Cur:=
 (((u1y s c).1,(u1y s (u1y s c).2).1,(r41 s (u1y s (u1y s c).2).2).1),(r41 s (u1y s (u1y s c).2).2).2)
def q5i (s:Hs) (c:Cur):u2b×Cur:=
 let w:=rWr s c
 ((w.1.1,w.1.2.1,w.1.2.2,(u1u s w.2).1),(u1u s w.2).2)
def r8e (m:Nat) (s:Hs) (c:Cur):u0j×Cur:=
 let a:=u1u s c
 let b:=u1u s a.2
 let d:=u1u s b.2
 let e:=u1u s d.2
 let n:=u1u s e.2
 let rs:=u10 (q5g s) (min n.1.toNat m) n.2 []
 let k:=u1u s rs.2
 let ws:=u10 (rWr s) (min k.1.toNat m) k.2 []
 let o:=r41 s ws.2
 let nm:=u1y s o.2
 ((a.1,b.1,d.1,e.1,rs.1,ws.1,o.1,nm.1),nm.2)
theorem u6z {s:Hs} {c:Cur} (h:c.2=true):(u1u s c).2.2=true:=by unfold u1u;rw[Al (.inl h)]
theorem s10 {s:Hs} {c:Cur} (h:c.2=true):(u1y s c).2.2=true:=by unfold u1y;rw[Al (.inl h)]
theorem r4i {s:Hs} {c:Cur} (h:c.2=true):(r41 s c).2.2=true:=by unfold r41;rw[Al (.inl h)]
theorem t04 {E:Type} {f:Cur→E×Cur} {n:Nat} {c:Cur} {a:Hu E} (h:c.2=true):u10 f n c a=(a,c):=by
 cases n with
 | zero=>rfl
 | succ n=>simp only[u10];rw[Al h]
theorem q7q {E:Type} {f:Cur→E×Cur} :∀ {n:Nat} {c:Cur} {a:Hu E},(u10 f n c a).2.2=false→(u10 f n c a).1.length=a.length+n
 | 0,c,a,_=>rfl
 | n+1,c,a,h=>by
  simp only[u10] at h ⊢
  split at h
  ·rename_i q;rw[q] at h;cases h
  ·rename_i q
   rw[Ao q,q7q h]
   simp;omega
theorem u4u {s:Hs} {a:Nat} {n:Int} (h0:0≤n) (hn:n≤1000000000) (h:t0r s a (s8o n)):u1u s ((a:Int),false)=(n,((a+(s8o n).size:Nat):Int),false):=by
 unfold u1u
 rw[r1h h0 hn h,Ao (by simp)]
theorem t2z {s:Hs} {a:Nat} {x:Hs} (hx:x.size≤20000) (h:t0r s a (u0s x)):u1y s ((a:Int),false)=(x,((a+(u0s x).size:Nat):Int),false):=by
 unfold u1y
 rw[r72 hx h,Ao (by simp)]
theorem u2d (b:Bool):(q8m b).size=1:=u21 _
theorem r2h {s:Hs} {a:Nat} {b:Bool} (h:t0r s a (q8m b)):r41 s ((a:Int),false)=(b,((a+1:Nat):Int),false):=by
 have hle:=r4n h (by rw[u2d];omega)
 rw[u2d] at hle
 obtain⟨r,hr⟩:=h
 unfold q8m at hr
 rw[t8i] at hr
 have hb:u4w s a=if b then 1 else 0:=by
  unfold u4w
  have:s.data.toList.getD a 0=(s.data.toList.drop a).getD 0 0:=by
   rw[A5,A5,Dg,Df]
  rw[this,hr]
  cases b<;>rfl
 unfold r41
 simp only[zTn,hb]
 rw[Ao]
 ·cases b<;>simp
 ·rintro(q | q | q)
  ·cases q
  ·omega
  ·cases b<;>simp at q
theorem t5x {E:Type} {f:Cur→E×Cur} {g:E→Hs} {s:Hs} :∀ {l:Hu E} {a:Nat} {acc:Hu E},(∀x∈l,∀a:Nat,t0r s a (g x)→f ((a:Int),false)=(x,((a+(g x).size:Nat):Int),false))→
 t0r s a (s6d g l)→u10 f l.length ((a:Int),false) acc=(acc++l,((a+(s6d g l).size:Nat):Int),false)
 | [],a,acc,_,_=>by rw[q37];simp[u10,emp,ByteArray.size]
 | x::l,a,acc,hf,h=>by
  rw[t7q] at h ⊢
  obtain⟨h1,h2⟩:=p7o.mp h
  have e:=hf x (by simp) a h1
  simp only[Bc,u10]
  rw[Ao (by simp),e]
  rw[t5x (l:=l) (fun y hy=>hf y (by simp[hy])) h2,Af]
  simp[D9]
theorem q84 {s:Hs} {a:Nat} {r:t80} (h1:r.1.size≤20000) (h2:r.2.size≤20000) (h:t0r s a (q79 r)):q5g s ((a:Int),false)=(r,((a+(q79 r).size:Nat):Int),false):=by
 obtain⟨k1,k2⟩:=p7o.mp h
 unfold q5g
 rw[t2z h1 k1]
 simp only
 rw[t2z h2 k2]
 unfold q79
 rw[Af,D9]
theorem q29 {s:Hs} {a:Nat} {w:WrT} (h1:w.1.size≤20000) (h2:w.2.1.size≤20000) (h:t0r s a (wrT w)):rWr s ((a:Int),false)=(w,((a+(wrT w).size:Nat):Int),false):=by
 obtain⟨k1,k2⟩:=p7o.mp h
 obtain⟨k2,k3⟩:=p7o.mp k2
 unfold rWr
 rw[t2z h1 k1]
 simp only
 rw[t2z h2 k2]
 simp only
 rw[r2h k3]
 unfold wrT
 rw[Af,Af,u2d,D9,D9]
theorem q86 {s:Hs} {a:Nat} {v:u2b} (h1:v.1.size≤20000) (h2:v.2.1.size≤20000) (h3:0≤v.2.2.2∧v.2.2.2≤1000000000) (h:t0r s a (q74 v)):q5i s ((a:Int),false)=(v,((a+(q74 v).size:Nat):Int),false):=by
 have e:q74 v=wrT (v.1,v.2.1,v.2.2.1)++s8o v.2.2.2:=by unfold q74 wrT;simp only[u5u]
 rw[e] at h ⊢
 obtain⟨k1,k2⟩:=p7o.mp h
 unfold q5i
 rw[q29 (w:=(v.1,v.2.1,v.2.2.1)) h1 h2 k1]
 simp only
 rw[u4u h3.1 h3.2 k2,Af,D9]
theorem TxnR.small {t:u0j} (h:TxnR t):(∀r∈t.2.2.2.2.1,r.1.size≤3∧r.2.size≤3)∧(∀w∈t.2.2.2.2.2.1,w.1.size≤3∧w.2.1.size≤12)∧t.2.2.2.2.2.2.2.size≤3∧t.2.2.2.2.2.1.length≤8∧0≤t.2.2.2.1∧t.2.2.2.1≤9999:=by
 obtain⟨w1,w2,w3⟩:=p52.mp h.ws
 refine⟨fun r hr=> ?_,fun w hw=> ?_,?_,w3,?_⟩
 ·have:=h.rs r hr
  unfold u18 at this
  rw[Ai,Ai] at this
  exact⟨(u2q this.1).2,(u2q this.2.1).2⟩
 ·have:=w1 w hw
  unfold u19 at this
  rw[Ai,Ai,Ar] at this
  exact⟨(u2q this.1).2,this.2.1⟩
 ·by_cases e:t.2.1=2
  ·exact(u2q (h.name e)).2
  ·rw[h.noname e];omega
 ·by_cases e:t.2.1=3
  ·have:=h.done e;have:=h.snap;omega
  ·rw[h.nocs e];omega
theorem q85 {s:Hs} {a:Nat} {t:u0j} {m:Nat} (hm:8≤m) (ht:TxnR t) (h:t0r s a (u9b t)):r8e m s ((a:Int),false)=(t,((a+(u9b t).size:Nat):Int),false):=by
 obtain⟨z1,z2,z3,z4,z5⟩:=ht.small
 have hi:=ht.id;have hst:=ht.st;have hsn:=ht.snap;have hrl:=ht.rlen
 unfold u9b at h ⊢
 obtain⟨k1,h⟩:=p7o.mp h
 obtain⟨k2,h⟩:=p7o.mp h
 obtain⟨k3,h⟩:=p7o.mp h
 obtain⟨k4,h⟩:=p7o.mp h
 obtain⟨k5,h⟩:=p7o.mp h
 obtain⟨k6,h⟩:=p7o.mp h
 obtain⟨k7,h⟩:=p7o.mp h
 obtain⟨k8,h⟩:=p7o.mp h
 obtain⟨k9,k10⟩:=p7o.mp h
 unfold r8e
 rw[u4u (by omega) (by omega) k1]
 simp only
 rw[u4u (by omega) (by omega) k2]
 simp only
 rw[u4u (by omega) (by omega) k3]
 simp only
 rw[u4u (by omega) (by omega) k4]
 simp only
 rw[u4u (by omega) (by omega) k5]
 simp only
 rw[show min ((t.2.2.2.2.1.length:Int)).toNat m=t.2.2.2.2.1.length by omega,t5x (g:=q79) (fun r hr a hs=>q84 (by have:=(z1 r hr).1;omega) (by have:=(z1 r hr).2;omega) hs) k6]
 simp only
 rw[u4u (by omega) (by omega) k7]
 simp only
 rw[show min ((t.2.2.2.2.2.1.length:Int)).toNat m=t.2.2.2.2.2.1.length by omega,t5x (g:=wrT) (fun w hw a hs=>q29 (by have:=(z2 w hw).1;omega) (by have:=(z2 w hw).2;omega) hs) k8]
 simp only
 rw[r2h k9]
 simp only
 rw[u2d] at k10
 rw[t2z (by omega) k10]
 simp only[Cf,Af,u2d]
 simp only[D9]
end
section
def u4a (m:Nat) (s:Hs) (c:Cur):u0j×Cur:=((r8e m s c).1,(r8e m s c).2.1,(r8e m s c).2.2 || !u6h (r8e m s c).1)
def u7t (m k:Nat) (s:Hs) (c:Cur):Hu u0j×Cur:=u10 (u4a m s) (min (u1u s c).1.toNat k) (u1u s c).2 []
structure Lim where
 t:Nat
 v:Nat
 p:Nat
 r:Nat
def t8e (m:Lim) (s:Hs) (c:Cur):u0i×Cur:=
 let a:=u1u s c
 let b:=u1u s a.2
 let n:=u1u s b.2
 let vs:=u10 (q5i s) (min n.1.toNat m.v) n.2 []
 let ps:=u7t m.t m.p s vs.2
 let rs:=u7t m.t m.r s ps.2
 ((vs.1,ps.1,rs.1,a.1,b.1),rs.2)
theorem p20 {m:Nat} {s:Hs} {c:Cur} (h:c.2=true):(u4a m s c).2.2=true:=by
 have:(r8e m s c).2.2=true:=by
  unfold r8e
  have h1:=u6z (s:=s) h
  have h2:=u6z (s:=s) h1
  have h3:=u6z (s:=s) h2
  have h4:=u6z (s:=s) h3
  have h5:=u6z (s:=s) h4
  simp only
  rw[t04 h5]
  have h6:=u6z (s:=s) h5
  simp only
  rw[t04 h6]
  exact s10 (r4i h6)
 unfold u4a
 simp only[this,Dx]
theorem s87 {E:Type} {f:Cur→E×Cur} {n k:Nat} {c:Cur} (hk:k≤n):(u10 f n c []).2.2=true∨k≤(u10 f n c []).1.length:=by
 cases h:(u10 f n c []).2.2 with
 | true=>exact .inl rfl
 | false=>rw[q7q h];exact .inr (by simp;exact hk)
theorem r95 {m m' :Nat} (hm:9≤m) (hm' :9≤m') {s:Hs} {c:Cur} (h:(u4a m s c).2.2=false):u4a m' s c=u4a m s c:=by
 have hb:(r8e m s c).2.2=false∧u6h (r8e m s c).1=true:=by
  unfold u4a at h
  simp only[Es,Bool.not_eq_false'] at h
  exact h
 have hR:=r4r.mp hb.2
 have hw:=(p52.mp hR.ws).2.2
 suffices e:r8e m' s c=r8e m s c by unfold u4a;rw[e]
 have b1:=hb.1
 have hr:=hR.rlen
 unfold r8e at b1 hr hw ⊢
 simp only at b1 hr hw ⊢
 generalize hn:u1u s (u1u s (u1u s (u1u s (u1u s c).2).2).2).2=n at b1 hr hw ⊢
 have k1:n.1.toNat≤8∨(u10 (q5g s) (min n.1.toNat m) n.2 []).2.2=true:=by
  rcases B8 8 n.1.toNat with q | q
  ·rcases s87 (f:=q5g s) (n:=min n.1.toNat m) (k:=9) (c:=n.2) (by omega) with z | z
   ·exact .inr z
   ·omega
  ·exact .inl q
 have k1:n.1.toNat≤8:=k1.resolve_right fun k1=>by
  have h1:=u6z (s:=s) k1
  rw[t04 h1] at b1
  rw[s10 (r4i h1)] at b1
  cases b1
 have e1:min n.1.toNat m=min n.1.toNat m' :=by omega
 rw[e1] at b1 hw ⊢
 generalize hk:u1u s (u10 (q5g s) (min n.1.toNat m') n.2 []).2=k at b1 hw ⊢
 have k2:k.1.toNat≤8∨(u10 (rWr s) (min k.1.toNat m) k.2 []).2.2=true:=by
  rcases B8 8 k.1.toNat with q | q
  ·rcases s87 (f:=rWr s) (n:=min k.1.toNat m) (k:=9) (c:=k.2) (by omega) with z | z
   ·exact .inr z
   ·omega
  ·exact .inl q
 have k2:k.1.toNat≤8:=k2.resolve_right fun k2=>by
  rw[s10 (r4i k2)] at b1
  cases b1
 have e2:min k.1.toNat m=min k.1.toNat m' :=by omega
 rw[e2]
theorem r98 {E:Type} {f g:Cur→E×Cur} (hf:∀c,(f c).2.2=false→g c=f c) (hfb:∀c,c.2=true→(f c).2.2=true):∀ {n:Nat} {c:Cur} {a:Hu E},(u10 f n c a).2.2=false→u10 g n c a=u10 f n c a
 | 0,c,a,_=>rfl
 | n+1,c,a,h=>by
  simp only[u10] at h ⊢
  split at h
  ·rename_i q;rw[q] at h;cases h
  ·rename_i q
   rw[Ao q,Ao q]
   have:(f c).2.2=false:=by
    cases z:(f c).2.2 with
    | false=>rfl
    | true=>rw[t04 z] at h;rw[z] at h;cases h
   rw[hf c this]
   exact r98 hf hfb h
def u4x (m:Lim) (s:Hs) (c:Cur):u0i×Cur:=((t8e m s c).1,(t8e m s c).2.1,(t8e m s c).2.2 || !u4v (t8e m s c).1)
def Lim.ok (m:Lim):Prop:=9≤m.t∧121≤m.v∧13≤m.p∧4≤m.r
theorem s8d {m k:Nat} {s:Hs} {c:Cur} (h:c.2=true):(u7t m k s c).2.2=true:=by
 unfold u7t;rw[t04 (u6z h)];exact u6z h
theorem q7r {m m' k k' N:Nat} (hm:9≤m) (hm' :9≤m') (hk:N<k) (hk' :N<k') {s:Hs} {c:Cur} (h:(u7t m k s c).2.2=false) (hl:(u7t m k s c).1.length≤N):u7t m' k' s c=u7t m k s c:=by
 unfold u7t at h hl ⊢
 have q:(u1u s c).1.toNat≤N:=by
  rcases B8 N (u1u s c).1.toNat with q | q
  ·rcases s87 (f:=u4a m s) (n:=min (u1u s c).1.toNat k) (k:=N+1) (c:=(u1u s c).2) (by omega) with z | z
   ·rw[z] at h;cases h
   ·omega
  ·exact q
 have e:min (u1u s c).1.toNat k=min (u1u s c).1.toNat k' :=by omega
 rw[e] at h ⊢
 exact r98 (fun c hc=>r95 hm hm' hc) (fun c hc=>p20 hc) h
theorem s85 {m m' :Lim} (hm:m.ok) (hm' :m'.ok) {s:Hs} {c:Cur} (h:(u4x m s c).2.2=false):u4x m' s c=u4x m s c:=by
 obtain⟨a1,a2,a3,a4⟩:=hm
 obtain⟨b1,b2,b3,b4⟩:=hm'
 have hb:(t8e m s c).2.2=false∧u4v (t8e m s c).1=true:=by
  unfold u4x at h
  simp only[Es,Bool.not_eq_false'] at h
  exact h
 have hR:=q2w.mp hb.2
 have v1:=(p3w.mp hR.vs).2.2
 have v2:=hR.plen
 have v3:=hR.rlen
 have h0:=hb.1
 suffices e:t8e m' s c=t8e m s c by unfold u4x;rw[e]
 unfold t8e at h0 v1 v2 v3 ⊢
 simp only at h0 v1 v2 v3 ⊢
 generalize hn:u1u s (u1u s (u1u s c).2).2=n at h0 v1 v2 v3 ⊢
 have k1:n.1.toNat≤120:=by
  rcases B8 120 n.1.toNat with q | q
  ·rcases s87 (f:=q5i s) (n:=min n.1.toNat m.v) (k:=121) (c:=n.2) (by omega) with z | z
   ·exfalso
    rw[s8d (s8d z)] at h0
    cases h0
   ·omega
  ·exact q
 have e1:min n.1.toNat m.v=min n.1.toNat m'.v:=by omega
 rw[e1] at h0 v2 v3 ⊢
 generalize hv:u10 (q5i s) (min n.1.toNat m'.v) n.2 [] =vs at h0 v2 v3 ⊢
 have hp:(u7t m.t m.p s vs.2).2.2=false:=by
  cases z:(u7t m.t m.p s vs.2).2.2 with
  | false=>rfl
  | true=>rw[s8d z] at h0;cases h0
 rw[q7r (N:=12) a1 b1 (by omega) (by omega) hp v2]
 rw[q7r (N:=3) a1 b1 (by omega) (by omega) h0 v3]
theorem s8a {s:Hs} {a:Nat} {t:u0j} {m:Nat} (hm:8≤m) (ht:TxnR t) (h:t0r s a (u9b t)):u4a m s ((a:Int),false)=(t,((a+(u9b t).size:Nat):Int),false):=by
 unfold u4a
 rw[q85 hm ht h]
 simp only[r4r.mpr ht,Ap,Fp]
theorem r62 {s:Hs} {a:Nat} {l:Hu u0j} {m k:Nat} (hm:8≤m) (hk:l.length≤k) (hl:l.length≤1000000000) (ht:∀t∈l,TxnR t) (h:t0r s a (s14 l)):u7t m k s ((a:Int),false)=(l,((a+(s14 l).size:Nat):Int),false):=by
 unfold s14 at h ⊢
 obtain⟨k1,k2⟩:=p7o.mp h
 unfold u7t
 rw[u4u (by omega) (by omega) k1]
 simp only
 rw[show min ((l.length:Int)).toNat k=l.length by omega,t5x (g:=u9b) (fun t h a hs=>s8a hm (ht t h) hs) k2]
 rw[Af,Cf,D9]
theorem t8l {v:u2b} (h:r2k v=true):v.1.size≤3∧v.2.1.size≤12∧1≤v.2.2.2∧v.2.2.2≤9999:=by
 unfold r2k at h
 simp only[Ai,Ar,r5s] at h
 exact⟨(u2q h.1).2,h.2.1,h.2.2.2⟩
theorem r61 {s:Hs} {a:Nat} {b:u0i} {m:Lim} (hm:m.ok) (hb:BaseR b) (h:t0r s a (u7r b)):t8e m s ((a:Int),false)=(b,((a+(u7r b).size:Nat):Int),false):=by
 obtain⟨a1,a2,a3,a4⟩:=hm
 obtain⟨v1,v2,v3⟩:=p3w.mp hb.vs
 have hc:=hb.cs;have hx:=hb.next;have hp:=hb.plen;have hr:=hb.rlen
 unfold u7r at h ⊢
 obtain⟨k1,h⟩:=p7o.mp h
 obtain⟨k2,h⟩:=p7o.mp h
 obtain⟨k3,h⟩:=p7o.mp h
 obtain⟨k4,h⟩:=p7o.mp h
 obtain⟨k5,k6⟩:=p7o.mp h
 unfold t8e
 rw[u4u (by omega) (by omega) k1]
 simp only
 rw[u4u (by omega) (by omega) k2]
 simp only
 rw[u4u (by omega) (by omega) k3]
 simp only
 rw[show min ((b.1.length:Int)).toNat m.v=b.1.length by omega,t5x (g:=q74) (fun v hv a hs=>by
  have:=t8l (v1 v hv)
  exact q86 (by omega) (by omega) (by omega) hs) k4]
 simp only
 rw[r62 (by omega) (by omega) (by omega) (fun t ht=>(hb.past t ht).1) k5]
 simp only
 rw[r62 (by omega) (by omega) (by omega) (fun t ht=>(hb.ready t ht).1) k6]
 simp only[Cf,Af,D9]
theorem q73 {n:Nat} (h:n<16384):(t6t n).length≤2:=by
 by_cases q:n<128
 ·rw[s8n q];simp
 ·rw[r53 q,s8n (by omega)];simp
theorem u1e {n:Int} (h:n<16384):(s8o n).size≤2:=by rw[t8k];exact q73 (by omega)
theorem u0u {s:Hs} (h:s.size<16384):(u0s s).size≤s.size+2:=by
 unfold u0s
 rw[Af,u21]
 have:=q73 h
 omega
theorem t3g {E:Type} {f:E→Hs} {k:Nat} :∀ {l:Hu E},(∀x∈l,(f x).size≤k)→(s6d f l).size≤l.length*k
 | [],_=>by rw[q37];simp[emp,ByteArray.size]
 | x::l,h=>by
  rw[t7q,Af,Bc,C7]
  have h1:=h x (by simp)
  have h2:=t3g (l:=l) (fun y hy=>h y (by simp[hy]))
  omega
theorem t32 {t:u0j} (h:TxnR t):(u9b t).size≤300:=by
 obtain⟨z1,z2,z3,z4,z5⟩:=h.small
 have hi:=h.id;have hst:=h.st;have hsn:=h.snap;have hrl:=h.rlen
 have r1:(s6d q79 t.2.2.2.2.1).size≤t.2.2.2.2.1.length*10:=t3g fun r hr=>by
  have:=z1 r hr
  have q1:=u0u (s:=r.1) (by omega)
  have q2:=u0u (s:=r.2) (by omega)
  unfold q79;rw[Af];omega
 have r2:(s6d wrT t.2.2.2.2.2.1).size≤t.2.2.2.2.2.1.length*20:=t3g fun w hw=>by
  have:=z2 w hw
  have q1:=u0u (s:=w.1) (by omega)
  have q2:=u0u (s:=w.2.1) (by omega)
  unfold wrT;rw[Af,Af,u2d];omega
 have v1:=u1e (n:=t.1) (by omega)
 have v2:=u1e (n:=t.2.1) (by omega)
 have v3:=u1e (n:=t.2.2.1) (by omega)
 have v4:=u1e (n:=t.2.2.2.1) (by omega)
 have v5:=u1e (n:=(t.2.2.2.2.1.length:Int)) (by omega)
 have v6:=u1e (n:=(t.2.2.2.2.2.1.length:Int)) (by omega)
 have v7:=u0u (s:=t.2.2.2.2.2.2.2) (by omega)
 unfold u9b
 simp only[Af,u2d]
 omega
theorem t7b {l:Hu u0j} (hl:l.length<16384) (h:∀t∈l,TxnR t):(s14 l).size≤2+l.length*300:=by
 unfold s14
 rw[Af]
 have v1:=u1e (n:=(l.length:Int)) (by omega)
 have v2:=t3g (f:=u9b) (k:=300) (l:=l) (fun t ht=>t32 (h t ht))
 omega
theorem r4v {v:u2b} (h:r2k v=true):(q74 v).size≤22:=by
 have:=t8l h
 have q1:=u0u (s:=v.1) (by omega)
 have q2:=u0u (s:=v.2.1) (by omega)
 have q3:=u1e (n:=v.2.2.2) (by omega)
 unfold q74
 simp only[Af,u2d]
 omega
theorem s8z {b:u0i} (hb:BaseR b):(u7r b).size≤10+b.1.length*22+b.2.1.length*300+b.2.2.1.length*300:=by
 obtain⟨v1,v2,v3⟩:=p3w.mp hb.vs
 have hc:=hb.cs;have hx:=hb.next;have hp:=hb.plen;have hr:=hb.rlen
 have q1:=u1e (n:=b.2.2.2.1) (by omega)
 have q2:=u1e (n:=b.2.2.2.2) (by omega)
 have q3:=u1e (n:=(b.1.length:Int)) (by omega)
 have q4:=t3g (f:=q74) (k:=22) (l:=b.1) (fun v hv=>r4v (v1 v hv))
 have q5:=t7b (l:=b.2.1) (by omega) (fun t ht=>(hb.past t ht).1)
 have q6:=t7b (l:=b.2.2.1) (by omega) (fun t ht=>(hb.ready t ht).1)
 unfold u7r
 simp only[Af]
 omega
end
section
def p67 (a b:Int):Int:=IntKind.u32.wrap ((BitVec.ofInt IntKind.u32.bits a^^^BitVec.ofInt IntKind.u32.bits b).toNat:Int)
def p3k (x:Int):Int:=bif decide (Int.tmod x 2=1) then p67 (IntKind.u32.wrap (Int.tdiv x 2)) 3558460437 else IntKind.u32.wrap (Int.tdiv x 2)
def q0i:Nat→Int→Int
 | 0,x=>x
 | n+1,x=>q0i n (p3k x)
def q0j (x:Int) (b:UInt8):Int:=q0i 8 (p67 x (IntKind.u32.wrap (b.toNat:Int)))
def p61 (t:Hs):Int:=t.data.toList.foldl q0j 4294967295
def p6z (x:Int) (k:Nat):Int:=IntKind.u8.wrap (Int.fdiv x (2^k))
def p9j (x:Int):Hs:=y7g [p6z x 24,p6z x 16,p6z x 8,IntKind.u8.wrap x]
def s11 (t:Hs):Hs:=t++p9j (p61 t)
def r67 (t:Hs):Hs×Bool:=if t.size≤20000 then(s11 t,true) else(emp,false)
def u62 (t:Hs):Ht Hs:=if 4≤t.size∧t.size - 4≤20000∧s11 (t.extract 0 (t.size - 4))=t then some (t.extract 0 (t.size - 4)) else none
theorem p2t (x:Int):(p9j x).size=4:=u21 _
theorem r5z (t:Hs):(s11 t).size=t.size+4:=by unfold s11;rw[Af,p2t]
theorem r4s {t:Hs} (h:t.size≤20000):u62 (s11 t)=some t:=by
 have hs:=r5z t
 have e:(s11 t).extract 0 ((s11 t).size - 4)=t:=by
  rw[hs,Nat.add_sub_cancel]
  exact ByteArray.extract_append_eq_left rfl
 unfold u62
 rw[e,Al ⟨by omega,by omega,rfl⟩]
abbrev t8z:=Int×u0j×Hs×Bool×u0i
def u4e:u0j:=(0,0,0,0, [], [],false,emp)
def u2k:u0i:=([], [], [],0,0)
def noT (t:u0j):Bool:=decide (t.1=0)&&(decide (t.2.1=0)&&(decide (t.2.2.1=0)&&(decide (t.2.2.2.1=0)&&(decide (t.2.2.2.2.1.length=0)&&(decide (t.2.2.2.2.2.1.length=0)&&(!t.2.2.2.2.2.2.1&&decide (t.2.2.2.2.2.2.2.size=0)))))))
def noB (b:u0i):Bool:=decide (b.1.length=0)&&(decide (b.2.1.length=0)&&(decide (b.2.2.1.length=0)&&(decide (b.2.2.2.1=0)&&decide (b.2.2.2.2=0))))
def u3s (r:t8z):Bool:=
 if r.1=1 then u6h r.2.1&&(decide (r.2.1.2.1=3)&&(decide (r.2.2.1.size=0)&&(!r.2.2.2.1&&noB r.2.2.2.2)))
 else if r.1=2 then u6h r.2.1&&(decide (r.2.1.2.1=2)&&(decide (r.2.2.1.size=0)&&(!r.2.2.2.1&&noB r.2.2.2.2)))
 else if r.1=3 then noT r.2.1&&(u4z r.2.2.1&&noB r.2.2.2.2)
 else if r.1=4 then noT r.2.1&&(decide (r.2.2.1.size=0)&&(!r.2.2.2.1&&u4v r.2.2.2.2))
 else false
def s3d (r:t8z):Hs:=y7g [IntKind.u8.wrap r.1] ++(if r.1=3 then u0s r.2.2.1++q8m r.2.2.2.1 else if r.1=4 then u7r r.2.2.2.2 else u9b r.2.1)
def u0o (r:t8z):Hs×Bool:=if u3s r=true then r67 (s3d r) else(emp,false)
theorem p45 {s:Hs} (h:s.size=0):s=emp:=q9t (by
 rw[r1u] at h
 rw[Dk.mp h];rfl)
theorem p2z {t:u0j} :noT t=true↔t=u4e:=by
 unfold noT u4e
 simp only[Ai,Ar,Bj]
 constructor
 ·rintro⟨h1,h2,h3,h4,h5,h6,h7,h8⟩
  obtain⟨t1,t2,t3,t4,t5,t6,t7,t8⟩:=t
  simp only at h1 h2 h3 h4 h5 h6 h7 h8
  rw[h1,h2,h3,h4,Dk.mp h5,Dk.mp h6,h7,p45 h8]
 ·rintro rfl
  exact⟨rfl,rfl,rfl,rfl,rfl,rfl,rfl,rfl⟩
theorem q80 {b:u0i} :noB b=true↔b=u2k:=by
 unfold noB u2k
 simp only[Ai,Ar]
 constructor
 ·rintro⟨h1,h2,h3,h4,h5⟩
  obtain⟨t1,t2,t3,t4,t5⟩:=b
  simp only at h1 h2 h3 h4 h5
  rw[h4,h5,Dk.mp h1,Dk.mp h2,Dk.mp h3]
 ·rintro rfl
  exact⟨rfl,rfl,rfl,rfl,rfl⟩
inductive RecR:t8z→Prop where
 | thr (t:u0j) (h:TxnR t) (hs:t.2.1=3):RecR (1,t,emp,false,u2k)
 | rdy (t:u0j) (h:TxnR t) (hs:t.2.1=2):RecR (2,t,emp,false,u2k)
 | fin (n:Hs) (y:Bool) (h:u4z n=true):RecR (3,u4e,n,y,u2k)
 | bas (b:u0i) (h:BaseR b):RecR (4,u4e,emp,false,b)
theorem p50 {r:t8z} :u3s r=true↔RecR r:=by
 obtain⟨k,t,n,y,b⟩:=r
 unfold u3s
 simp only
 constructor
 ·intro h
  split at h
  ·rename_i e
   simp only[Ai,Ar,Bj,r4r,q80] at h
   obtain⟨h1,h2,h3,h4,h5⟩:=h
   rw[e,p45 h3,h4,h5];exact .thr t h1 h2
  ·split at h
   ·rename_i _ e
    simp only[Ai,Ar,Bj,r4r,q80] at h
    obtain⟨h1,h2,h3,h4,h5⟩:=h
    rw[e,p45 h3,h4,h5];exact .rdy t h1 h2
   ·split at h
    ·rename_i _ _ e
     simp only[Ai,p2z,q80] at h
     obtain⟨h1,h2,h3⟩:=h
     rw[e,h1,h3];exact .fin n y h2
    ·split at h
     ·rename_i _ _ _ e
      simp only[Ai,Ar,Bj,p2z,q2w] at h
      obtain⟨h1,h2,h3,h4⟩:=h
      rw[e,h1,p45 h2,h3];exact .bas b h4
     ·cases h
 ·intro h
  cases h with
  | thr t h hs=>simp[r4r.mpr h,hs,q80.mpr rfl,emp,ByteArray.size]
  | rdy t h hs=>simp[r4r.mpr h,hs,q80.mpr rfl,emp,ByteArray.size]
  | fin n y h=>simp[h,q80.mpr rfl,p2z.mpr rfl]
  | bas b h=>simp[q2w.mpr h,p2z.mpr rfl,emp,ByteArray.size]
theorem t7a {r:t8z} (h:RecR r):2≤(s3d r).size∧(s3d r).size≤10000:=by
 have h1:∀n:Int,(y7g [n]).size=1:=fun n=>u21 _
 cases h with
 | thr t h hs=>
  have:=t32 h
  have q:1≤(u9b t).size:=by
   unfold u9b;rw[Af,t8k];have:=r4t t.1.toNat;omega
  show 2≤(y7g _++u9b t).size∧(y7g _++u9b t).size≤10000
  rw[Af,h1];omega
 | rdy t h hs=>
  have:=t32 h
  have q:1≤(u9b t).size:=by
   unfold u9b;rw[Af,t8k];have:=r4t t.1.toNat;omega
  show 2≤(y7g _++u9b t).size∧(y7g _++u9b t).size≤10000
  rw[Af,h1];omega
 | fin n y h=>
  have:=u2q h
  have q:=u0u (s:=n) (by omega)
  show 2≤(y7g _++(u0s n++q8m y)).size∧(y7g _++(u0s n++q8m y)).size≤10000
  have:=(s8j n).1
  rw[Af,Af,h1,u2d];omega
 | bas b h=>
  have:=s8z h
  have a1:=(p3w.mp h.vs).2.2
  have a2:=h.plen
  have a3:=h.rlen
  have q:1≤(u7r b).size:=by
   unfold u7r;rw[Af,t8k];have:=r4t b.2.2.2.1.toNat;omega
  show 2≤(y7g _++u7r b).size∧(y7g _++u7r b).size≤10000
  rw[Af,h1];omega
theorem u4m {r:t8z} (h:RecR r):u0o r=(s11 (s3d r),true):=by
 unfold u0o r67
 rw[Al (p50.mpr h),Al (by have:=(t7a h).2;omega)]
def o0m:Lim:=⟨9,121,13,4⟩
theorem q8w:o0m.ok:=⟨by decide,by decide,by decide,by decide⟩
def u8l (s:Hs):t8z×Bool:=
 if u4w s 0=3 then((3,u4e,(u1y s (1,false)).1,(r41 s (u1y s (1,false)).2).1,u2k),(r41 s (u1y s (1,false)).2).2.2)
 else if u4w s 0=4 then((4,u4e,emp,false,(u4x o0m s (1,false)).1),(u4x o0m s (1,false)).2.2)
 else(((u4w s 0:Int),(u4a 9 s (1,false)).1,emp,false,u2k),(u4a 9 s (1,false)).2.2)
def u2r (t:Hs):Ht t8z:=
 match u62 t with
 | none=>none
 | some s=>if s.size=0 then none else if(u8l s).2=true∨u0o (u8l s).1≠(t,true) then none else some (u8l s).1
theorem q36 {k:Nat} (h:k<256) (s:Hs):u4w (y7g [IntKind.u8.wrap (k:Int)] ++s) 0=k:=by
 unfold u4w
 rw[r8s,t8i]
 have:IntKind.u8.wrap (k:Int)=(k:Int):=p5e h
 rw[this]
 show(UInt8.ofNat ((k:Int)).toNat).toNat=k
 rw[zTn]
 simp
 omega
theorem t4j {r:t8z} (h:RecR r):u8l (s3d r)=(r,false):=by
 have st:∀(x:Int) (s:Hs),t0r (y7g [x] ++s) 1 s:=fun x s=>by
  have:=q3f (a:=y7g [x]) (s:=s) (b:=emp)
  rw[q8k,u21] at this
  exact this
 cases h with
 | thr t h hs=>
  have e:s3d (1,t,emp,false,u2k)=y7g [IntKind.u8.wrap ((1:Nat):Int)] ++u9b t:=rfl
  rw[e]
  unfold u8l
  rw[q36 (by omega),Ao (by omega),Ao (by omega)]
  have q:=s8a (m:=9) (by omega) h (st (IntKind.u8.wrap ((1:Nat):Int)) (u9b t))
  have q:u4a 9 (y7g [IntKind.u8.wrap ((1:Nat):Int)] ++u9b t) (1,false)=_:=q
  rw[q];rfl
 | rdy t h hs=>
  have e:s3d (2,t,emp,false,u2k)=y7g [IntKind.u8.wrap ((2:Nat):Int)] ++u9b t:=rfl
  rw[e]
  unfold u8l
  rw[q36 (by omega),Ao (by omega),Ao (by omega)]
  have q:=s8a (m:=9) (by omega) h (st (IntKind.u8.wrap ((2:Nat):Int)) (u9b t))
  have q:u4a 9 (y7g [IntKind.u8.wrap ((2:Nat):Int)] ++u9b t) (1,false)=_:=q
  rw[q];rfl
 | fin n y h=>
  have e:s3d (3,u4e,n,y,u2k)=y7g [IntKind.u8.wrap ((3:Nat):Int)] ++(u0s n++q8m y):=rfl
  rw[e]
  unfold u8l
  rw[q36 (by omega),Al rfl]
  obtain⟨k1,k2⟩:=p7o.mp (st (IntKind.u8.wrap ((3:Nat):Int)) (u0s n++q8m y))
  have q1:=t2z (by have:=u2q h;omega) k1
  have q1:u1y (y7g [IntKind.u8.wrap ((3:Nat):Int)] ++(u0s n++q8m y)) (1,false)=_:=q1
  rw[q1]
  simp only
  rw[r2h k2]
 | bas b h=>
  have e:s3d (4,u4e,emp,false,b)=y7g [IntKind.u8.wrap ((4:Nat):Int)] ++u7r b:=rfl
  rw[e]
  unfold u8l
  rw[q36 (by omega),Ao (by omega),Al rfl]
  have q:=r61 q8w h (st (IntKind.u8.wrap ((4:Nat):Int)) (u7r b))
  have q:t8e o0m (y7g [IntKind.u8.wrap ((4:Nat):Int)] ++u7r b) (1,false)=_:=q
  unfold u4x
  rw[q]
  simp only[q2w.mpr h,Ap,Fp]
theorem t9t {r:t8z} (h:RecR r):u2r (s11 (s3d r))=some r:=by
 have hs:=t7a h
 unfold u2r
 rw[r4s (by omega)]
 simp only
 rw[Ao (by omega),t4j h]
 simp only
 rw[u4m h,Ao (by simp)]
theorem s3c {t:Hs} {r:t8z} (h:u2r t=some r):RecR r∧t=s11 (s3d r):=by
 unfold u2r at h
 split at h
 ·cases h
 ·rename_i s hs
  split at h
  ·cases h
  ·split at h
   ·cases h
   ·rename_i hc
    simp only[Hr,ne_eq,Decidable.not_not] at hc
    have e:=Ds h
    rw[e] at hc
    have hr:u3s r=true:=by
     cases q:u3s r with
     | true=>rfl
     | false=>
      have:=hc.2
      unfold u0o at this
      rw[Ao (by simp[q])] at this
      simp at this
    have hR:=p50.mp hr
    refine⟨hR,?_⟩
    have:=hc.2
    rw[u4m hR] at this
    exact(Dv this).1.symm
def u2f (b:u0i) (r:t8z):Ht u0i:=
 if r.1=1 then(if r.2.1.2.2.2.1=b.2.2.2.1+1 then some (u1n b r.2.1) else none)
 else if r.1=2 then(if b.2.2.1.length<3∧u07 b r.2.1.2.2.2.2.2.2.2<0 then some (u2e b r.2.1 r.2.1.2.2.2.2.2.2.2) else none)
 else if r.1=3 then(if u07 b r.2.2.1<0 then none else if r.2.2.2.1=true then some (u1n b (rdL u1b b.2.2.1 (u07 b r.2.2.1).toNat)) else some (t98 b r.2.2.1))
 else some r.2.2.2.2
def u6i (b:u0i) (r:t8z):Ht u0i:=
 if u4v b=true∧u3s r=true then(match u2f b r with
  | none=>none
  | some x=>if u4v (u4y x [])=true then some (u4y x []) else none)
 else none
def q78:u0i:=([], [], [],0,1)
def t72:u0i→Hu Hs→Ht u0i
 | b, [] =>some b
 | b,t::l=>match u2r t with
  | none=>none
  | some r=>match u6i b r with
   | none=>none
   | some x=>t72 x l
def t0p (l:Hu Hs):Ht u0i:=t72 q78 l
theorem p1c (b:u0i):∀(l m:Hu Hs),t72 b (l++m)=(t72 b l).bind fun x=>t72 x m:=by
 intro l
 induction l generalizing b with
 | nil=>intro m;rfl
 | cons t l ih=>
  intro m
  simp only[Ef,t72]
  cases u2r t with
  | none=>rfl
  | some r=>
   simp only
   cases u6i b r with
   | none=>rfl
   | some x=>exact ih x m
end
section
theorem p9m (n:Nat):decide ((n:Int)=0)=decide (n=0):=by simp
theorem p4r (t:u0j):t75 t=some (noT t):=by
 rw[r83];unfold s6v noT
 simp only[p9m,u96]
 cases decide (t.1=0)<;>cases decide (t.2.1=0)<;>cases decide (t.2.2.1=0)<;>cases decide (t.2.2.2.1=0)<;>cases decide (t.2.2.2.2.1.length=0)<;>cases decide (t.2.2.2.2.2.1.length=0)<;>cases t.2.2.2.2.2.2.1<;>rfl
theorem p4s (t:u0j):t3z t=some (noT t):=by
 rw[r9q];unfold s7j noT
 simp only[p9m,u96]
 cases decide (t.1=0)<;>cases decide (t.2.1=0)<;>cases decide (t.2.2.1=0)<;>cases decide (t.2.2.2.1=0)<;>cases decide (t.2.2.2.2.1.length=0)<;>cases decide (t.2.2.2.2.2.1.length=0)<;>cases t.2.2.2.2.2.2.1<;>rfl
theorem p4o (b:u0i):t58 b=some (noB b):=by
 rw[r7i];unfold s3s noB
 simp only[p9m]
 cases decide (b.1.length=0)<;>cases decide (b.2.1.length=0)<;>cases decide (b.2.2.1.length=0)<;>cases decide (b.2.2.2.1=0)<;>rfl
theorem p4p (b:u0i):t6d b=some (noB b):=by
 rw[r7y];unfold s38 noB
 simp only[p9m]
 cases decide (b.1.length=0)<;>cases decide (b.2.1.length=0)<;>cases decide (b.2.2.1.length=0)<;>cases decide (b.2.2.2.1=0)<;>cases decide (b.2.2.2.2=0)<;>rfl
theorem s8h (r:t8z):o0g.wt r=0+(u1b.wt r.2.1+(r.2.2.1.size+(0+p73.wt r.2.2.2.2))):=rfl
theorem r2s (r:t8z) (hw:o0g.wt r≤549755813888):t3n r=some (u3s r):=by
 have hb:u0l=1099511627776:=rfl
 have hr:=s8h r
 have k1:=s0q r.2.1 (by omega)
 have k2:=r1s r.2.2.2.2 (by omega)
 have k3:=t68 r.2.2.1 (by omega)
 rw[r80];unfold s6s
 rw[p4r,p4o]
 simp only[k1,k2,k3,r9x,r6x,zOb,u96]
 unfold u3s
 generalize u6h r.2.1=c1
 generalize u4v r.2.2.2.2=c2
 generalize u4z r.2.2.1=c3
 generalize noT r.2.1=c4
 generalize noB r.2.2.2.2=c5
 generalize decide (r.2.2.1.size=0)=c6
 generalize decide (r.2.1.2.1=3)=c7
 generalize decide (r.2.1.2.1=2)=c8
 generalize r.2.2.2.1=c9
 by_cases h1:r.1=1
 ·simp only[h1,Ae,Ad,Bl]
  cases c1<;>cases c5<;>cases c6<;>cases c7<;>cases c9<;>rfl
 ·by_cases h2:r.1=2
  ·simp only[h2,Ae,Ad,Bl]
   cases c1<;>cases c5<;>cases c6<;>cases c8<;>cases c9<;>rfl
  ·by_cases h3:r.1=3
   ·simp only[h3,Ae,Ad,Bl]
    cases c3<;>cases c4<;>cases c5<;>cases c9<;>rfl
   ·by_cases h4:r.1=4
    ·simp only[h4,Ae,Ad,Bl]
     cases c2<;>cases c4<;>cases c6<;>cases c9<;>rfl
    ·simp only[h1,h2,h3,h4,Ah,Aa,Bk]
theorem s2u (r:t8z) (hw:o0g.wt r≤549755813888):u89 r=some (u3s r):=by
 have hb:u0l=1099511627776:=rfl
 have hr:=s8h r
 have k1:=t2t r.2.1 (by omega)
 have k2:=t2h r.2.2.2.2 (by omega)
 have k3:=t2r r.2.2.1 (by omega)
 rw[r9g];unfold s68
 simp only[k1,k2,k3,s1f,p4s,p4p,zOb,u96]
 unfold u3s
 generalize u6h r.2.1=c1
 generalize u4v r.2.2.2.2=c2
 generalize u4z r.2.2.1=c3
 generalize noT r.2.1=c4
 generalize noB r.2.2.2.2=c5
 generalize decide (r.2.2.1.size=0)=c6
 generalize r.2.2.2.1=c9
 by_cases h1:r.1=1
 ·simp only[h1,show inB 1 1 4=true from rfl,Ae,Ad,Bl]
  generalize decide (r.2.1.2.1=3)=c7
  generalize decide (r.2.1.2.1=2)=c8
  cases c1<;>cases c5<;>cases c6<;>cases c7<;>cases c8<;>cases c9<;>rfl
 ·by_cases h2:r.1=2
  ·simp only[h2,show inB 2 1 4=true from rfl,Ae,Ad,Bl]
   generalize decide (r.2.1.2.1=3)=c7
   generalize decide (r.2.1.2.1=2)=c8
   cases c1<;>cases c5<;>cases c6<;>cases c7<;>cases c8<;>cases c9<;>rfl
  ·by_cases h3:r.1=3
   ·simp only[h3,show inB 3 1 4=true from rfl,Ae,Ad,Bl]
    cases c3<;>cases c4<;>cases c5<;>cases c9<;>rfl
   ·by_cases h4:r.1=4
    ·simp only[h4,show inB 4 1 4=true from rfl,Ae,Ad,Bl]
     cases c2<;>cases c4<;>cases c6<;>cases c9<;>rfl
    ·have:inB r.1 1 4=false:=by
      cases h:inB r.1 1 4
      ·rfl
      ·have:=r5s.mp h;omega
     simp only[h1,h2,h3,h4,this,Ah,Aa,Bk,Bh,Ad]
end
section
theorem r01 {α:Type} {P:Prop} [Decidable P] {a b:α} (h:P):(bif decide P then a else b)=a:=by rw[Bb h];rfl
theorem q0s {α:Type} {n:Nat} {a b:α} (h:n≤1099511627776):(bif Nat.ble n z7w then a else b)=a:=by rw[u1c h];rfl
theorem u30 {n:Int} (h0:0≤n) (h1:n≤1000000000):u1d n=some (s8o n):=by
 obtain⟨m,rfl⟩:∃m:Nat,n=m:=⟨n.toNat,by omega⟩
 rw[r9y m (by omega)];rfl
theorem q9h {n:Int} (h0:0≤n) (h1:n≤1000000000):u7u n=some (s8o n,true):=by
 rw[s6m,Al ⟨h0,h1⟩];rfl
theorem t2s {s:Hs} (h:s.size≤10000):u2j s=some (u0s s):=by
 rw[r9p];unfold s7i
 rw[u30 (by omega) (by omega)]
 simp only[zOb]
 have:=u1e (n:=(s.size:Int)) (by omega)
 rw[r01 (by omega)];rfl
theorem p0r {s:Hs} (h:s.size≤10000):t2a s=some (u0s s,true):=by
 rw[q6b s (by omega),Ao (by omega)]
theorem r78 (b:Bool):t0g b=some (q8m b):=by
 rw[q40];unfold r3l
 cases b<;>rfl
theorem r4k {r:t80} (h:r.1.size≤100∧r.2.size≤100):(q79 r).size≤204:=by
 have q1:=u0u (s:=r.1) (by omega)
 have q2:=u0u (s:=r.2) (by omega)
 unfold q79;rw[Af];omega
theorem t44 {E:Type} (f:E→Hs) (l:Hu E) (s:Hs):l.foldl (fun s x=>s++f x) s=s++s6d f l:=r3t f l s
theorem s6l (t:u0j) (ht:u1b.wt t≤549755813888):t5f t=some (if u6h t=true then(u9b t,true) else(emp,false)):=by
 have hb:u0l=1099511627776:=rfl
 rw[q1p];unfold r0d
 rw[t2t t (by omega)]
 simp only[zOb]
 cases hc:u6h t
 ·rfl
 ·have h:=r4r.mp hc
  obtain⟨z1,z2,z3,z4,z5⟩:=h.small
  have hi:=h.id;have hst:=h.st;have hsn:=h.snap;have hrl:=h.rlen
  have v1:=u1e (n:=t.1) (by omega)
  have v2:=u1e (n:=t.2.1) (by omega)
  have v3:=u1e (n:=t.2.2.1) (by omega)
  have v4:=u1e (n:=t.2.2.2.1) (by omega)
  have v5:=u1e (n:=(t.2.2.2.2.1.length:Int)) (by omega)
  have v6:=u1e (n:=(t.2.2.2.2.2.1.length:Int)) (by omega)
  have v7:=u0u (s:=t.2.2.2.2.2.2.2) (by omega)
  have L1:∀A:Hs,A.size≤1000→u7m (t,A,0)=some (.inl (t,A++s6d q79 t.2.2.2.2.1)):=fun A hA=>by
   have:=t2v u7m t.2.2.2.2.1 (fun(A:Hs) i=>(t,A,i)) (fun A r=>A++q79 r) (fun A=> .inl (t,A)) (fun i A=>A.size≤1000+i*204)
    (fun A _=>by rw[s53];simp only[t1r,u0b,Am,Ah,Aa])
    (fun i hi A hP=>by
     have hr:=z1 _ (Ag hi)
     have hs:=r4k (r:=t.2.2.2.2.1[i]) (by omega)
     have hs' :=hs
     unfold q79 at hs'
     rw[Af] at hs'
     refine⟨by rw[Af,C7];omega,?_⟩
     rw[s53];simp only[t1r,u0b,hi,Ae,Ad,y7t hi,zTn,y8k (t:=u8f) hi,y7l (show i<4611686018427387904 by omega)]
     rw[t2s (by omega),t2s (by omega)]
     simp only[zOb]
     rw[r01 (by omega),r01 (by rw[Af];omega),u5u];rfl) A (by omega)
   rw[t44] at this
   exact this
  have L2:∀A:Hs,A.size≤10000→u55 (t,A,0)=some (.inl (t,A++s6d wrT t.2.2.2.2.2.1)):=fun A hA=>by
   have:=t2v u55 t.2.2.2.2.2.1 (fun(A:Hs) i=>(t,A,i)) (fun A r=>A++wrT r) (fun A=> .inl (t,A)) (fun i A=>A.size≤10000+i*304)
    (fun A _=>by rw[s2k];simp only[u9u,u0b,Am,Ah,Aa])
    (fun i hi A hP=>by
     have hr:=z2 _ (Ag hi)
     have q1:=u0u (s:=(t.2.2.2.2.2.1[i]).1) (by omega)
     have q2:=u0u (s:=(t.2.2.2.2.2.1[i]).2.1) (by omega)
     have q3:=u2d (t.2.2.2.2.2.1[i]).2.2
     refine⟨by unfold wrT;simp only[Af,C7];omega,?_⟩
     rw[s2k];simp only[u9u,u0b,hi,Ae,Ad,y7t hi,zTn,y8k (t:=u1x) hi,y7l (show i<4611686018427387904 by omega)]
     rw[t2s (by omega),t2s (by omega),r78]
     simp only[zOb]
     rw[r01 (by omega),r01 (by rw[Af];omega),r01 (by simp only[Af];omega),u5u,u5u];rfl) A (by omega)
   rw[t44] at this
   exact this
  have n1:(s6d q79 t.2.2.2.2.1).size≤t.2.2.2.2.1.length*204:=t3g fun r hr=>r4k (by have:=z1 r hr;omega)
  have n2:(s6d wrT t.2.2.2.2.2.1).size≤t.2.2.2.2.2.1.length*304:=t3g fun w hw=>by
   have:=z2 w hw
   have q1:=u0u (s:=w.1) (by omega)
   have q2:=u0u (s:=w.2.1) (by omega)
   unfold wrT;rw[Af,Af,u2d];omega
  simp only[Ap,Aa,Bl]
  rw[u30 (n:=t.1) (by omega) (by omega),u30 (n:=t.2.1) (by omega) (by omega),u30 (n:=t.2.2.1) (by omega) (by omega),u30 (n:=t.2.2.2.1) (by omega) (by omega),u30 (n:=(t.2.2.2.2.1.length:Int)) (by omega) (by omega)]
  simp only[zOb]
  rw[r01 (by omega),r01 (by simp only[Af];omega),r01 (by simp only[Af];omega),r01 (by simp only[Af];omega),L1 _ (by simp only[Af];omega)]
  simp only[zOb]
  rw[u30 (n:=(t.2.2.2.2.2.1.length:Int)) (by omega) (by omega)]
  simp only[zOb]
  rw[r01 (by simp only[Af];omega),L2 _ (by simp only[Af];omega)]
  simp only[zOb]
  rw[r78,t2s (by omega)]
  simp only[zOb]
  rw[r01 (by simp only[Af,u2d];omega),r01 (by simp only[Af,u2d];omega)]
  unfold u9b
  simp only[u5u]
theorem p3l {l:Hu u0j} {t:u0j} (h:t∈l) (hl:(Ty.sl u1b).wt l≤549755813888):u1b.wt t≤549755813888:=A9 (r52 h) hl
theorem q6h (l:Hu u0j) (hl:(Ty.sl u1b).wt l≤549755813888) (hn:l.length≤10000) (h:∀t∈l,TxnR t):t5h l=some (s14 l):=by
 have v1:=u1e (n:=(l.length:Int)) (by omega)
 have L:u7p (l,s8o (l.length:Int),0)=some (.inl (s8o (l.length:Int)++s6d u9b l)):=by
  have:=t2v u7p l (fun(A:Hs) i=>(l,A,i)) (fun A r=>A++u9b r) (fun A=> .inl A) (fun i A=>A.size≤2+i*300)
   (fun A _=>by rw[s58];simp only[t1w,u0b,Am,Ah,Aa])
   (fun i hi A hP=>by
    have hm:=Ag hi
    have hr:=t32 (h _ hm)
    refine⟨by rw[Af,C7];omega,?_⟩
    rw[s58];simp only[t1w,u0b,hi,Ae,Ad,y7t hi,zTn,y8k (t:=u1b) hi,y7l (show i<4611686018427387904 by omega)]
    rw[s6l _ (p3l hm hl),Al (r4r.mpr (h _ hm))]
    simp only[zOb]
    rw[r01 (by omega)]) (s8o (l.length:Int)) (by omega)
  rw[t44] at this
  exact this
 rw[q15];unfold r0u
 rw[u30 (by omega) (by omega)]
 simp only[zOb]
 rw[L];rfl
theorem r2q (b:u0i) (hw:p73.wt b≤549755813888):u85 b=some (if u4v b=true then(u7r b,true) else(emp,false)):=by
 have hbw:=r1v b
 rw[r88];unfold s60
 rw[t2h b hw]
 simp only[zOb]
 cases hc:u4v b
 ·rfl
 ·have h:=q2w.mp hc
  obtain⟨w1,w2,w3⟩:=p3w.mp h.vs
  have hcs:=h.cs;have hx:=h.next;have hp:=h.plen;have hr:=h.rlen
  have q1:=u1e (n:=b.2.2.2.1) (by omega)
  have q2:=u1e (n:=b.2.2.2.2) (by omega)
  have q3:=u1e (n:=(b.1.length:Int)) (by omega)
  have q4:=t3g (f:=q74) (k:=22) (l:=b.1) (fun v hv=>r4v (w1 v hv))
  have q5:=t7b (l:=b.2.1) (by omega) (fun t ht=>(h.past t ht).1)
  have q6:=t7b (l:=b.2.2.1) (by omega) (fun t ht=>(h.ready t ht).1)
  have L:∀A:Hs,A.size≤1000→u51 (b,A,0)=some (.inl (b,A++s6d q74 b.1)):=fun A hA=>by
   have:=t2v u51 b.1 (fun(A:Hs) i=>(b,A,i)) (fun A r=>A++q74 r) (fun A=> .inl (b,A)) (fun i A=>A.size≤1000+i*22)
    (fun A _=>by rw[s2a];simp only[u9k,u0b,Am,Ah,Aa])
    (fun i hi A hP=>by
     have hm:=w1 _ (Ag hi)
     have hr:=r4v hm
     have hv:=t8l hm
     have s1:=u0u (s:=(b.1[i]).1) (by omega)
     have s2:=u0u (s:=(b.1[i]).2.1) (by omega)
     have s3:=u2d (b.1[i]).2.2.1
     have s4:=u1e (n:=(b.1[i]).2.2.2) (by omega)
     refine⟨by rw[Af,C7];omega,?_⟩
     rw[s2a];simp only[u9k,u0b,hi,Ae,Ad,y7t hi,zTn,y8k (t:=u0d) hi,y7l (show i<4611686018427387904 by omega)]
     rw[t2s (by omega),t2s (by omega),r78,u30 (by omega) (by omega)]
     simp only[zOb]
     rw[r01 (by omega),r01 (by simp only[Af];omega),r01 (by simp only[Af];omega),r01 (by simp only[Af];omega)]
     unfold q74
     simp only[u5u]) A (by omega)
   rw[t44] at this
   exact this
  simp only[Ap,Aa,Bl]
  rw[u30 (n:=b.2.2.2.1) (by omega) (by omega),u30 (n:=b.2.2.2.2) (by omega) (by omega),u30 (n:=(b.1.length:Int)) (by omega) (by omega)]
  simp only[zOb]
  rw[r01 (by omega),r01 (by simp only[Af];omega),L _ (by simp only[Af];omega)]
  simp only[zOb]
  rw[q6h b.2.1 (by omega) (by omega) (fun t ht=>(h.past t ht).1),q6h b.2.2.1 (by omega) (by omega) (fun t ht=>(h.ready t ht).1)]
  simp only[zOb]
  rw[r01 (by simp only[Af];omega),r01 (by simp only[Af];omega)]
  unfold u7r
  simp only[u5u]
end
end
end Go.Proofs.YtkdpclfhapphhaaGreat.Ab
