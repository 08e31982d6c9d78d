import Derived.Test.YtkdpclfhapphhaaGreatAbLivesSerialT1
import Derived.Test.YtkdpclfhapphhaaGreatAbK2
import Derived.Test.YtkdpclfhapphhaaGreatAbF4
import Derived.Test.YtkdpclfhapphhaaGreatAbS2
namespace Go.Proofs.YtkdpclfhapphhaaGreat.Ab
open Go
set_option linter.unusedSectionVars false
set_option linter.unusedVariables false
set_option linter.unusedSimpArgs false
set_option linter.unnecessarySimpa false
section
section
def smallB (b:u0j):Prop:=b.1.length≤1048576∧(b.2.1.length≤1048576∧ ∀t∈b.2.1,r6x t)∧b.2.2.1.length≤1048576∧ ∀t∈b.2.2.1,r6x t
theorem smallB.few {b:u0j} (h:smallB b):fewB b:=⟨by have:=h.1;omega,⟨by have:=h.2.1.1;omega,h.2.1.2⟩,⟨by have:=h.2.2.1;omega,h.2.2.2⟩⟩
theorem o4o {b:u0j} {t:u0c} (h:smallB b) (ht:r6x t):fewB (u89 b t):=by
 have hd:r6x (q6k b t):=ht
 refine⟨?_,⟨?_,fun x hx=> ?_⟩,⟨?_,fun x hx=> ?_⟩⟩
 ·have e:(u89 b t).1.length=b.1.length+t.2.2.2.2.2.1.length:=r1a _ _ _
  have:=h.1;have:=ht.2
  omega
 ·have e:(u89 b t).2.1.length=b.2.1.length+1:=by simp[u89]
  have:=h.2.1.1
  omega
 ·have hx:x∈b.2.1++ [q6k b t] :=hx
  rcases Ay.mp hx with q | q
  ·exact h.2.1.2 x q
  ·simp only[Ax] at q
   subst q;exact hd
 ·have e:(u89 b t).2.2.1.length≤b.2.2.1.length:=by
   simp only[u89,Da]
   exact t13 _ _
  have:=h.2.2.1
  omega
 ·have hx:x∈(b.2.2.1.filter fun x=> !decide (x.1=t.1)).map (q3e (q6k b t)):=hx
  obtain⟨y,hy,rfl⟩:=Bx.mp hx
  exact h.2.2.2 y (A6.mp hy).1
end
section
def s4p (b:u0j):Bool:=decide ((b.2.1.length:Int)≥12) || (decide ((b.1.length:Int) >100) || decide (b.2.2.2.1≥9999))
theorem o3o (b:u0j):s15 b=some (s4p b):=by
 rw[p7g];unfold q20 s4p
 cases decide ((b.2.1.length:Int)≥12)<;>cases decide ((b.1.length:Int) >100)<;>rfl
theorem j0s (b:u0j):q4v b=some (s4p b):=by
 rw[o5p];unfold p2o s4p
 cases decide ((b.2.1.length:Int)≥12)<;>cases decide ((b.1.length:Int) >100)<;>rfl
theorem p8o (b:u0j) {n:Hs} {i:Nat} (hi:i<b.2.2.1.length) (hn:b.2.2.1[i].2.2.2.2.2.2.2=n):∃k:Nat,k<b.2.2.1.length∧u0i b n=(k:Int):=by
 have h:u0s (fun x:u0c=>z7o x.2.2.2.2.2.2.2 n) b.2.2.1<b.2.2.1.length:=by
  rcases B8 (u0s (fun x:u0c=>z7o x.2.2.2.2.2.2.2 n) b.2.2.1) b.2.2.1.length with q | q
  ·exact q
  ·have:=t2b (p:=fun x:u0c=>z7o x.2.2.2.2.2.2.2 n) hi (by omega)
   rw[y7f.mpr hn] at this
   cases this
 exact⟨_,h,Al h⟩
end
section
def u2a (n i:Int):Int:=if i<n then n else i+1
def u9o (b:u0j) (t:u0c):u0c:=(t.1,(3:Int),t.2.2.1,b.2.2.2.1+1,t.2.2.2.2.1,t.2.2.2.2.2.1,(t.2.2.2.2.2.2.1 || r2s t b.2.1),(⟨#[]⟩:Hs))
def u0y (b:u0j) (t:u0c):u0j:=
 (t5k b.1 t.2.2.2.2.2.1 (b.2.2.2.1+1),b.2.1++ [u9o b t],(b.2.2.1.filter fun x=> !decide (x.1=t.1)).map (q3e (u9o b t)),b.2.2.2.1+1,u2a b.2.2.2.2 t.1)
def u4r (b:u0j) (t:u0c) (n:Hs):u0c:=(t.1,(2:Int),t.2.2.1,t.2.2.2.1,t.2.2.2.2.1,t.2.2.2.2.2.1,(t.2.2.2.2.2.2.1 || r2s t b.2.1),n)
def u12 (b:u0j) (t:u0c) (n:Hs):u0j:=
 (b.1,b.2.1,(b.2.2.1.filter fun x=>y3c x.2.2.2.2.2.2.2 n)++ [u4r b t n] ++(b.2.2.1.filter fun x=> !y3c x.2.2.2.2.2.2.2 n),b.2.2.2.1,u2a b.2.2.2.2 t.1)
def u7p (b:u0j) (n:Hs):u0j:=(b.1,b.2.1,(b.2.2.1.filter fun x=> !z7o x.2.2.2.2.2.2.2 n),b.2.2.2.1,b.2.2.2.2)
def o8q (n:Int):Prop:= -1000000≤n∧n≤1000000
theorem s0e {n:Int} (h:o8q n):IntKind.i64.wrap (n+1)=n+1:=by
 obtain⟨h1,h2⟩:=h
 rw[y4y (by omega) (by omega)]
theorem p5b {b:u0j} {t:u0c} (hc:o8q b.2.2.2.1) (hi:o8q t.1):u89 b t=u0y b t:=by
 have e:q6k b t=u9o b t:=by unfold q6k u9o;rw[s0e hc]
 unfold u89 u0y
 rw[e,s0e hc,s0e hi]
 unfold y8h u2a
 congr 4
 by_cases h:t.1<b.2.2.2.2
 ·rw[Al h,Ao (by omega)]
 ·rw[Ao h,Al (by omega)]
theorem p5c {b:u0j} {t:u0c} (hc:o8q b.2.2.2.1) (hi:o8q t.1):p14 b t=u0y b t:=by
 unfold p14
 rw[p5b hc hi,s0e hi]
 unfold u0y u2a
 congr 4
 by_cases h:t.1<b.2.2.2.2
 ·rw[Al h,Ao (by omega)]
 ·rw[Ao h,Al (by omega)]
def uq (l:Hu u0c):Prop:=l.Pairwise fun a b=>a.1≠b.1
theorem p8y {l:Hu u0c} :(u5a l).Nodup↔uq l:=by
 unfold u5a uq;rw[D8,Dl]
theorem d4q {a b:Hu u0c} :uq (a++b)↔uq a∧uq b∧ ∀x∈a,∀y∈b,x.1≠y.1:=Cg
theorem p5d {l:Hu u0c} (h:uq l) (p:u0c→Bool):uq (l.filter p):=Dz p h
theorem j8z {l:Hu u0c} (f:u0c→u0c) (hf:∀x,(f x).1=x.1) (h:uq l):uq (l.map f):=by
 unfold uq;rw[Dl];simp only[hf];exact h
theorem o7o {t:u0c} :uq [t] :=Eu _ _
theorem j80 {l:Hu u0c} :uq l→ ∀x∈l,∀y∈l,x.1=y.1→x=y:=by
 induction l with
 | nil=>intro _ x hx;cases hx
 | cons z l ih=>
  intro h x hx y hy e
  have h' :=Ch.mp h
  rcases A8.mp hx with rfl | hx' <;>rcases A8.mp hy with rfl | hy'
  ·rfl
  ·exact absurd e (h'.1 y hy')
  ·exact absurd e.symm (h'.1 x hx')
  ·exact ih h'.2 x hx' y hy' e
theorem s5f {l:Hu u0c} {n:Int} :(∀x∈u5a l,x<n)↔ ∀t∈l,t.1<n:=by
 unfold u5a
 constructor
 ·exact fun h t ht=>h _ (Bx.mpr ⟨t,ht,rfl⟩)
 ·intro h x hx
  obtain⟨t,ht,rfl⟩:=Bx.mp hx
  exact h t ht
theorem j8d {d x:u0c} (h:TxnR x) (hs:x.2.1=2):TxnR (q3e d x):=
 ⟨h.id,h.st,h.snap,h.rlen,h.ws,h.rs,h.done,h.nocs,h.name,h.noname,fun e=>by have e:x.2.1=1:=e;omega⟩
theorem o5o {b:u0j} {t:u0c} (ht:TxnR t) (hs:t.2.2.1≤b.2.2.2.1) (hc:b.2.2.2.1<9999):TxnR (u9o b t):=
 ⟨ht.id,⟨by show(1:Int)≤3;omega,by show(3:Int)≤3;omega⟩,ht.snap,ht.rlen,ht.ws,ht.rs,fun _=>⟨by show t.2.2.1+1≤b.2.2.2.1+1;omega,by show b.2.2.2.1+1≤9999;omega⟩,
   fun e=>absurd rfl e,fun e=>by have e:(3:Int)=2:=e;omega,fun _=>rfl,fun e=>by have e:(3:Int)=1:=e;omega⟩
theorem o1g {b:u0j} {t:u0c} {n:Hs} (ht:TxnR t) (hs:t.2.1≠3) (hn:u7b n=true):TxnR (u4r b t n):=
 ⟨ht.id,⟨by show(1:Int)≤2;omega,by show(2:Int)≤3;omega⟩,ht.snap,ht.rlen,ht.ws,ht.rs,fun e=>by have e:(2:Int)=3:=e;omega,
   fun _=>ht.nocs hs,fun _=>hn,fun e=>absurd rfl e,fun e=>by have e:(2:Int)=1:=e;omega⟩
theorem j4f {w:WrT} {c:Int} (h:u3t w=true) (h1:1≤c) (h2:c≤9999):r90 (w.1,w.2.1,w.2.2,c)=true:=by
 unfold u3t at h
 unfold r90
 simp only[Ai,q8v] at h ⊢
 exact⟨h.1,h.2.1,h.2.2,h1,h2⟩
theorem j3x {l:Hu u2b} {ws:Hu WrT} {c:Int} (hl:u5i l=true) (hv:∀v∈l,v.2.2.2≤c) (hw:u6b ws=true) (h0:0≤c) (h9:c<9999) (hn:l.length≤112):
 u5i (t5k l ws (c+1))=true∧ ∀v∈t5k l ws (c+1),v.2.2.2≤c+1:=by
 obtain⟨h1,h2,h3⟩:=j2n.mp hl
 obtain⟨w1,w2,w3⟩:=j46.mp hw
 refine⟨j2n.mpr ⟨fun v h=> ?_,r9f ws h2 (q7p hw) fun x hx w _ q=>by have:=hv x hx;have:vCs x=c+1:=q.2;unfold vCs at this;omega,by rw[r1a];omega⟩,fun v h=> ?_⟩
 ·rcases(u7h ws l (c+1)).mp h with h | ⟨w,hw,rfl⟩
  ·exact h1 v h
  ·exact j4f (w1 w hw) (by omega) (by omega)
 ·rcases(u7h ws l (c+1)).mp h with h | ⟨w,hw,rfl⟩
  ·have:=hv v h;omega
  ·exact Bv _
theorem u97 (n i:Int):n≤u2a n i∧i<u2a n i:=by unfold u2a;split<;>omega
theorem o4p {b:u0j} {t:u0c} (hb:BaseR b) (ht:TxnR t) (hs:t.2.2.1≤b.2.2.2.1) (hc:b.2.2.2.1<9999) (hp:b.2.1.length<12) (hv:b.1.length≤112)
 (hid:∀x∈b.2.1,x.1≠t.1) (hn:t.1<9999):BaseR (u0y b t):=by
 have c0:=hb.cs.1
 obtain⟨v1,v2⟩:=j3x hb.vs hb.vcs ht.ws c0 hc hv
 have hu:=p8y.mp hb.nodup
 have hbl:=s5f.mp hb.below
 obtain⟨u1,u2,u3⟩:=d4q.mp hu
 have hg:=u97 b.2.2.2.2 t.1
 have hnx:u2a b.2.2.2.2 t.1≤9999:=by have:=hb.next.2;unfold u2a;split<;>omega
 refine⟨v1,v2,⟨by show 0≤b.2.2.2.1+1;omega,by show b.2.2.2.1+1≤9999;omega⟩,⟨by show 1≤u2a b.2.2.2.2 t.1;have:=hb.next.1;omega,hnx⟩,?_,?_,?_,?_,?_,?_,?_,?_⟩
 ·show(b.2.1++ [u9o b t]).length≤12
  simp only[Ba,Aw];omega
 ·intro x hx
  rcases Ay.mp hx with hx | hx
  ·obtain⟨q1,q2,q3⟩:=hb.past x hx
   exact⟨q1,q2,by show x.2.2.2.1≤b.2.2.2.1+1;omega⟩
  ·rw[Ax] at hx
   subst hx
   exact⟨o5o ht hs hc,rfl,Bv _⟩
 ·show(b.2.1++ [u9o b t]).Pairwise _
  rw[Cg]
  refine⟨hb.pasc,Eu _ _,fun x hx y hy=> ?_⟩
  rw[Ax] at hy
  subst hy
  have:=(hb.past x hx).2.2
  show x.2.2.2.1<b.2.2.2.1+1
  omega
 ·show((b.2.2.1.filter _).map _).length≤3
  rw[Da]
  exact A9 (Cs _ _) hb.rlen
 ·intro x hx
  obtain⟨y,hy,rfl⟩:=Bx.mp hx
  obtain⟨q1,q2,q3⟩:=hb.ready y (A6.mp hy).1
  exact⟨j8d q1 q2,q2,by show y.2.2.1≤b.2.2.2.1+1;omega⟩
 ·show((b.2.2.1.filter _).map _).Pairwise _
  rw[Dl]
  exact(Dz _ hb.rasc)
 ·rw[s5f]
  intro x hx
  show x.1<u2a b.2.2.2.2 t.1
  rcases Ay.mp hx with hx | hx
  ·rcases Ay.mp hx with hx | hx
   ·have:=hbl x (Bf _ hx);omega
   ·rw[Ax] at hx;subst hx;exact hg.2
  ·obtain⟨y,hy,rfl⟩:=Bx.mp hx
   have:=hbl y (Az _ (A6.mp hy).1)
   show y.1<_
   omega
 ·rw[p8y]
  refine d4q.mpr ⟨d4q.mpr ⟨u1,o7o,fun x hx y hy=> ?_⟩,j8z _ (fun _=>rfl) (p5d u2 _),fun x hx y hy=> ?_⟩
  ·rw[Ax] at hy;subst hy;exact hid x hx
  ·obtain⟨z,hz,rfl⟩:=Bx.mp hy
   obtain⟨z1,z2⟩:=A6.mp hz
   show x.1≠z.1
   rcases Ay.mp hx with hx | hx
   ·exact u3 x hx z z1
   ·rw[Ax] at hx;subst hx
    intro e
    simp only[Bj,Bu] at z2
    exact z2 e.symm
theorem s0b {b:u0j} (hb:BaseR b) (o:Hu u0c):BaseR (u2y b o):=by
 obtain⟨h1,h2,h3⟩:=j2n.mp hb.vs
 have sv:=t4c b.1 (t9w b o)
 have sp:(b.2.1.filter fun x=> !decide (x.2.2.2.1≤t9w b o)).Sublist b.2.1:=Fg
 have si:((b.2.1.filter fun x=> !decide (x.2.2.2.1≤t9w b o))++b.2.2.1).Sublist (b.2.1++b.2.2.1):=sp.append (Dm _)
 refine⟨j2n.mpr ⟨fun v h=>h1 v (sv.subset h),h2.sublist sv,A9 sv.length_le h3⟩,fun v h=>hb.vcs v (sv.subset h),hb.cs,hb.next,A9 sp.length_le hb.plen,
  fun t h=>hb.past t (sp.subset h),hb.pasc.sublist sp,hb.rlen,hb.ready,hb.rasc,?_,?_⟩
 ·rw[s5f]
  intro x hx
  exact s5f.mp hb.below x (si.subset hx)
 ·rw[p8y]
  exact Ez si (p8y.mp hb.nodup)
theorem r2r {b:u0j} {t:u0c} {n:Hs} (hb:BaseR b) (ht:TxnR t) (h3:t.2.1≠3) (hs:t.2.2.1≤b.2.2.2.1) (hk:u7b n=true) (hl:b.2.2.1.length<3)
 (hn:∀x∈b.2.2.1,x.2.2.2.2.2.2.2≠n) (hid:∀x∈b.2.1++b.2.2.1,x.1≠t.1) (h9:t.1<9999):BaseR (u12 b t n):=by
 have hu:=p8y.mp hb.nodup
 have hbl:=s5f.mp hb.below
 obtain⟨u1,u2,u3⟩:=d4q.mp hu
 have hg:=u97 b.2.2.2.2 t.1
 have hnx:u2a b.2.2.2.2 t.1≤9999:=by have:=hb.next.2;unfold u2a;split<;>omega
 have mem:∀ {x:u0c},x∈(b.2.2.1.filter fun x=>y3c x.2.2.2.2.2.2.2 n)++ [u4r b t n] ++(b.2.2.1.filter fun x=> !y3c x.2.2.2.2.2.2.2 n)→x∈b.2.2.1∨x=u4r b t n:=fun {x} hx=>by
  rcases Ay.mp hx with hx | hx
  ·rcases Ay.mp hx with hx | hx
   ·exact .inl (A6.mp hx).1
   ·rw[Ax] at hx;exact .inr hx
  ·exact .inl (A6.mp hx).1
 have len:∀(l:Hu u0c) (p:u0c→Bool),(l.filter p).length+(l.filter fun x=> !p x).length=l.length:=fun l p=>by
  induction l with
  | nil=>rfl
  | cons x l ih=>cases hp:p x<;>simp[Di,hp] <;>omega
 refine⟨hb.vs,hb.vcs,hb.cs,⟨by show 1≤u2a b.2.2.2.2 t.1;have:=hb.next.1;omega,hnx⟩,hb.plen,hb.past,hb.pasc,?_,?_,?_,?_,?_⟩
 ·show((b.2.2.1.filter fun x=>y3c x.2.2.2.2.2.2.2 n)++ [u4r b t n] ++(b.2.2.1.filter fun x=> !y3c x.2.2.2.2.2.2.2 n)).length≤3
  have:=len b.2.2.1 fun x=>y3c x.2.2.2.2.2.2.2 n
  simp only[Ba,Aw]
  omega
 ·intro x hx
  rcases mem hx with hx | rfl
  ·exact hb.ready x hx
  ·exact⟨o1g ht h3 hk,rfl,hs⟩
 ·show((b.2.2.1.filter fun x=>y3c x.2.2.2.2.2.2.2 n)++ [u4r b t n] ++(b.2.2.1.filter fun x=> !y3c x.2.2.2.2.2.2.2 n)).Pairwise _
  have up:∀y∈b.2.2.1,(!y3c y.2.2.2.2.2.2.2 n)=true→y3c n y.2.2.2.2.2.2.2=true:=fun y hy h=>by
   rcases q4z y.2.2.2.2.2.2.2 n with c | c | c
   ·rw[c] at h;cases h
   ·exact absurd c (hn y hy)
   ·exact c
  rw[Bi,Cg]
  refine⟨Dz _ hb.rasc,?_,?_⟩
  ·rw[Fs,Ch]
   refine⟨fun y hy=> ?_,Dz _ hb.rasc⟩
   obtain⟨y1,y2⟩:=A6.mp hy
   exact up y y1 y2
  ·intro x hx y hy
   obtain⟨x1,x2⟩:=A6.mp hx
   rcases Ay.mp hy with hy | hy
   ·rw[Ax] at hy;subst hy;exact x2
   ·obtain⟨y1,y2⟩:=A6.mp hy
    exact r9t x2 (up y y1 y2)
 ·rw[s5f]
  intro x hx
  show x.1<u2a b.2.2.2.2 t.1
  rcases Ay.mp hx with hx | hx
  ·have:=hbl x (Bf _ hx);omega
  ·rcases mem hx with hx | rfl
   ·have:=hbl x (Az _ hx);omega
   ·exact hg.2
 ·rw[p8y]
  refine d4q.mpr ⟨u1,?_,fun x hx y hy=> ?_⟩
  ·show uq ((b.2.2.1.filter fun x=>y3c x.2.2.2.2.2.2.2 n)++ [u4r b t n] ++(b.2.2.1.filter fun x=> !y3c x.2.2.2.2.2.2.2 n))
   rw[Bi]
   refine d4q.mpr ⟨p5d u2 _,?_,fun x hx y hy=> ?_⟩
   ·rw[Fs]
    refine Ch.mpr ⟨fun y hy=> ?_,p5d u2 _⟩
    exact(hid y (Az _ (A6.mp hy).1)).symm
   ·obtain⟨x1,x2⟩:=A6.mp hx
    rcases Ay.mp hy with hy | hy
    ·rw[Ax] at hy;subst hy
     exact hid x (Az _ x1)
    ·obtain⟨y1,y2⟩:=A6.mp hy
     intro e
     have:=j80 u2 x x1 y y1 e
     subst this
     rw[x2] at y2;cases y2
  ·rcases mem hy with hy | rfl
   ·exact u3 x hx y hy
   ·exact hid x (Bf _ hx)
theorem r8q {b:u0j} (hb:BaseR b) (n:Hs):BaseR (u7p b n):=by
 have sp:(b.2.2.1.filter fun x=> !z7o x.2.2.2.2.2.2.2 n).Sublist b.2.2.1:=Fg
 have si:(b.2.1++(b.2.2.1.filter fun x=> !z7o x.2.2.2.2.2.2.2 n)).Sublist (b.2.1++b.2.2.1):=(Dm _).append sp
 refine⟨hb.vs,hb.vcs,hb.cs,hb.next,hb.plen,hb.past,hb.pasc,A9 sp.length_le hb.rlen,fun t h=>hb.ready t (sp.subset h),hb.rasc.sublist sp,?_,?_⟩
 ·rw[s5f]
  intro x hx
  exact s5f.mp hb.below x (si.subset hx)
 ·rw[p8y]
  exact Ez si (p8y.mp hb.nodup)
end
section
def j96 (id snap:Int):u0c:=(id,(1:Int),snap,(0:Int), [], [],false,(⟨#[]⟩:Hs))
def j4w (e:u3e):u3e:=((e.1.1,e.1.2.1,e.1.2.2.1,e.1.2.2.2.1,e.1.2.2.2.2+1),e.2++ [j96 e.1.2.2.2.2 e.1.2.2.2.1])
def p46 (e:u3e) (k:Nat) (t:u0c):u3e:=(e.1,e.2.set k t)
def s39 (e:u3e) (id:Int):Hu u0c:=e.2.filter fun x=> !decide (x.1=id)
def leaveE (e:u3e) (id:Int):u3e:=(u2y e.1 (s39 e id),s39 e id)
def s5h (e:u3e) (t:u0c):u3e:=(u2y (u0y e.1 t) (s39 e t.1),s39 e t.1)
def j1g (e:u3e) (t:u0c) (n:Hs):u3e:=(u2y (u12 e.1 t n) (s39 e t.1),s39 e t.1)
def j4m (e:u3e) (t:u0c):u3e:=(u2y (u0y e.1 t) e.2,e.2)
def noE (e:u3e) (n:Hs):u3e:=(u2y (u7p e.1 n) e.2,e.2)
theorem EngR.uq {e:u3e} (h:EngR e):uq (e.1.2.1++e.1.2.2.1++e.2):=p8y.mp h.nodup
theorem EngR.bel {e:u3e} (h:EngR e):∀t∈e.1.2.1++e.1.2.2.1++e.2,t.1<e.1.2.2.2.2:=s5f.mp h.below
theorem EngR.apart {e:u3e} (h:EngR e):∀x∈e.1.2.1++e.1.2.2.1,∀y∈e.2,x.1≠y.1:=(d4q.mp h.uq).2.2
theorem EngR.uqo {e:u3e} (h:EngR e):Ab.uq e.2:=(d4q.mp h.uq).2.1
theorem r9c {e:u3e} {b:u0j} {o:Hu u0c} (h:EngR e) (hb:BaseR b) (ho:o.Sublist e.2) (hc:e.1.2.2.2.1≤b.2.2.2.1) (hn:e.1.2.2.2.2≤b.2.2.2.2) (hu:∀x∈b.2.1++b.2.2.1,∀y∈o,x.1≠y.1):EngR (b,o):=by
 refine⟨hb,A9 ho.length_le h.olen,fun t ht=> ?_,h.oasc.sublist ho,?_,?_⟩
 ·obtain⟨q1,q2,q3⟩:=h.open_ t (ho.subset ht)
  exact⟨q1,q2,by show t.2.2.1≤b.2.2.2.1;omega⟩
 ·rw[s5f]
  intro x hx
  rcases Ay.mp hx with hx | hx
  ·exact s5f.mp hb.below x hx
  ·have:=h.bel x (Az _ (ho.subset hx))
   show x.1<b.2.2.2.2
   omega
 ·rw[p8y]
  exact d4q.mpr ⟨p8y.mp hb.nodup,Ez ho h.uqo,hu⟩
theorem s42 {b:u0j} {o:Hu u0c} {x:u0c} (h:x∈(u2y b o).2.1++(u2y b o).2.2.1):x∈b.2.1++b.2.2.1:=by
 rcases Ay.mp h with h | h
 ·exact Bf _ (A6.mp h).1
 ·exact Az _ h
theorem u8j (e:u3e) (id:Int):(s39 e id).Sublist e.2:=Fg
theorem o1h {e:u3e} {id:Int} {x:u0c} (h:x∈s39 e id):x.1≠id:=by
 have:=(A6.mp h).2
 simpa using this
theorem j52 {e:u3e} (h:EngR e) (hl:e.2.length<4) (hn:e.1.2.2.2.2<9999):EngR (j4w e):=by
 have hb:=h.base
 have n1:=hb.next.1
 have hT:TxnR (j96 e.1.2.2.2.2 e.1.2.2.2.1):=
  ⟨⟨n1,by show e.1.2.2.2.2≤9999;omega⟩,⟨by show(1:Int)≤1;omega,by show(1:Int)≤3;omega⟩,hb.cs,Cn _,rfl,fun r hr=>(by cases hr),fun e=>by have e:(1:Int)=3:=e;omega,fun _=>rfl,fun e=>by have e:(1:Int)=2:=e;omega,fun _=>rfl,fun _=>rfl⟩
 have hbel:=h.bel
 refine⟨⟨hb.vs,hb.vcs,hb.cs,⟨by show 1≤e.1.2.2.2.2+1;omega,by show e.1.2.2.2.2+1≤9999;omega⟩,hb.plen,hb.past,hb.pasc,hb.rlen,hb.ready,hb.rasc,?_,hb.nodup⟩,?_,?_,?_,?_,?_⟩
 ·rw[s5f]
  intro x hx
  have:=hbel x (Bf _ hx)
  show x.1<e.1.2.2.2.2+1
  omega
 ·show(e.2++ [_]).length≤4
  simp only[Ba,Aw];omega
 ·intro t ht
  rcases Ay.mp ht with ht | ht
  ·exact h.open_ t ht
  ·rw[Ax] at ht;subst ht
   exact⟨hT,rfl,Bv _⟩
 ·show(e.2++ [_]).Pairwise _
  rw[Cg]
  refine⟨h.oasc,Eu _ _,fun x hx y hy=> ?_⟩
  rw[Ax] at hy;subst hy
  exact hbel x (Az _ hx)
 ·rw[s5f]
  intro x hx
  show x.1<e.1.2.2.2.2+1
  have hx:x∈e.1.2.1++e.1.2.2.1++(e.2++ [j96 e.1.2.2.2.2 e.1.2.2.2.1]):=hx
  rw[←Bi] at hx
  rcases Ay.mp hx with hx | hx
  ·have:=hbel x hx;omega
  ·rw[Ax] at hx;subst hx
   show e.1.2.2.2.2<_
   omega
 ·rw[p8y]
  show uq (e.1.2.1++e.1.2.2.1++(e.2++ [j96 e.1.2.2.2.2 e.1.2.2.2.1]))
  rw[←Bi]
  refine d4q.mpr ⟨h.uq,o7o,fun x hx y hy=> ?_⟩
  rw[Ax] at hy;subst hy
  have:=hbel x hx
  show x.1≠e.1.2.2.2.2
  omega
theorem o3x {α β:Type} (f:α→β) (l:Hu α) (k:Nat) (a:α) (h:k<l.length) (ha:f a=f l[k]):(l.set k a).map f=l.map f:=by
 apply Gw (by simp)
 intro i h1 h2
 simp only[F6,List.getElem_set]
 split
 ·rename_i e;subst e;exact ha
 ·rfl
theorem o7j {α:Type} {l:Hu α} {k:Nat} {a x:α} (h:x∈l.set k a):x∈l∨x=a:=E0 h
theorem o4k {e:u3e} (h:EngR e) {k:Nat} (hk:k<e.2.length) {t:u0c} (ht:TxnR t) (h1:t.1=e.2[k].1) (h2:t.2.1=1) (h3:t.2.2.1=e.2[k].2.2.1):EngR (p46 e k t):=by
 have hm:u5a (e.2.set k t)=u5a e.2:=o3x _ _ _ _ hk h1
 have hid:u5a (e.1.2.1++e.1.2.2.1++e.2.set k t)=u5a (e.1.2.1++e.1.2.2.1++e.2):=by
  have:∀a b:Hu u0c,u5a (a++b)=u5a a++u5a b:=fun a b=>by simp[u5a]
  rw[this,hm,←this]
 refine⟨h.base,by show(e.2.set k t).length≤4;rw[Dq];exact h.olen,fun x hx=> ?_,?_,?_,?_⟩
 ·rcases o7j hx with hx | rfl
  ·exact h.open_ x hx
  ·have:=(h.open_ _ (Ag hk)).2.2
   exact⟨ht,h2,by rw[h3];exact this⟩
 ·have q:(u5a (e.2.set k t)).Pairwise fun a b=>a<b:=by
   rw[hm];unfold u5a;rw[Dl];exact h.oasc
  unfold u5a at q
  rw[Dl] at q
  exact q
 ·show ∀x∈u5a (e.1.2.1++e.1.2.2.1++e.2.set k t),x<e.1.2.2.2.2
  rw[hid];exact h.below
 ·show(u5a (e.1.2.1++e.1.2.2.1++e.2.set k t)).Nodup
  rw[hid];exact h.nodup
theorem j6a {e:u3e} (h:EngR e) (id:Int):EngR (leaveE e id):=
 r9c h (s0b h.base _) (u8j e id) (Bv _) (Bv _) fun x hx y hy=>h.apart x (s42 hx) y ((u8j e id).subset hy)
theorem j6q {e:u3e} (h:EngR e):EngR (u2y e.1 e.2,e.2):=
 r9c h (s0b h.base _) (Dm _) (Bv _) (Bv _) fun x hx y hy=>h.apart x (s42 hx) y hy
theorem q61 {b:u0j} (h:s4p b=false):b.2.1.length<12∧b.1.length≤100∧b.2.2.2.1<9999:=by
 unfold s4p at h
 simp only[Es,Bu] at h
 obtain⟨h1,h2,h3⟩:=h
 exact⟨by omega,by omega,by omega⟩
theorem t82 {e:u3e} (h:EngR e) {t:u0c} (ht:t∈e.2∨t∈e.1.2.2.1) (hf:s4p e.1=false):BaseR (u0y e.1 t):=by
 obtain⟨f1,f2,f3⟩:=q61 hf
 have hq:TxnR t∧t.2.2.1≤e.1.2.2.2.1:=by
  rcases ht with ht | ht
  ·exact⟨(h.open_ t ht).1,(h.open_ t ht).2.2⟩
  ·exact⟨(h.base.ready t ht).1,(h.base.ready t ht).2.2⟩
 have hlt:t.1<e.1.2.2.2.2:=by
  rcases ht with ht | ht
  ·exact h.bel t (Az _ ht)
  ·exact h.bel t (Bf _ (Az _ ht))
 refine o4p h.base hq.1 hq.2 f3 f1 (by omega) (fun x hx=> ?_) (by have:=h.base.next.2;omega)
 rcases ht with ht | ht
 ·exact h.apart x (Bf _ hx) t ht
 ·exact(d4q.mp (d4q.mp h.uq).1).2.2 x hx t ht
theorem r3d {b:u0j} {t x:u0c} (h:x∈(u0y b t).2.1++(u0y b t).2.2.1):x.1=t.1∨ ∃y∈b.2.1++b.2.2.1,y.1=x.1:=by
 rcases Ay.mp h with h | h
 ·rcases Ay.mp h with h | h
  ·exact .inr ⟨x,Bf _ h,rfl⟩
  ·rw[Ax] at h;subst h;exact .inl rfl
 ·obtain⟨y,hy,rfl⟩:=Bx.mp h
  exact .inr ⟨y,Az _ (A6.mp hy).1,rfl⟩
theorem o6x {e:u3e} (h:EngR e) {t:u0c} (ht:t∈e.2) (hf:s4p e.1=false):EngR (s5h e t):=by
 have hg:=u97 e.1.2.2.2.2 t.1
 refine r9c h (s0b (t82 h (.inl ht) hf) _) (u8j e t.1) (by show e.1.2.2.2.1≤e.1.2.2.2.1+1;omega) hg.1 fun x hx y hy=> ?_
 rcases r3d (s42 hx) with q | ⟨z,hz,q⟩
 ·rw[q];exact(o1h hy).symm
 ·rw[←q];exact h.apart z hz y ((u8j e t.1).subset hy)
theorem d1x {e:u3e} (h:EngR e) {t:u0c} (ht:t∈e.1.2.2.1) (hf:s4p e.1=false):EngR (j4m e t):=by
 have hg:=u97 e.1.2.2.2.2 t.1
 refine r9c h (s0b (t82 h (.inr ht) hf) _) (Dm _) (by show e.1.2.2.2.1≤e.1.2.2.2.1+1;omega) hg.1 fun x hx y hy=> ?_
 rcases r3d (s42 hx) with q | ⟨z,hz,q⟩
 ·rw[q];exact h.apart t (Az _ ht) y hy
 ·rw[←q];exact h.apart z hz y hy
theorem d5a {e:u3e} (h:EngR e) (n:Hs):EngR (noE e n):=by
 refine r9c h (s0b (r8q h.base n) _) (Dm _) (Bv _) (Bv _) fun x hx y hy=> ?_
 rcases Ay.mp (s42 hx) with hx | hx
 ·exact h.apart x (Bf _ hx) y hy
 ·exact h.apart x (Az _ (A6.mp hx).1) y hy
theorem j8u {e:u3e} (h:EngR e) {t:u0c} (ht:t∈e.2) {n:Hs} (hk:u7b n=true) (hl:e.1.2.2.1.length<3) (hn:∀x∈e.1.2.2.1,x.2.2.2.2.2.2.2≠n):EngR (j1g e t n):=by
 obtain⟨q1,q2,q3⟩:=h.open_ t ht
 have hlt:=h.bel t (Az _ ht)
 have hg:=u97 e.1.2.2.2.2 t.1
 have hb:BaseR (u12 e.1 t n):=r2r h.base q1 (by omega) q3 hk hl hn (fun x hx=>h.apart x hx t ht) (by have:=h.base.next.2;omega)
 refine r9c h (s0b hb _) (u8j e t.1) (Bv _) hg.1 fun x hx y hy=> ?_
 have hy' :=(u8j e t.1).subset hy
 rcases Ay.mp (s42 hx) with hx | hx
 ·exact h.apart x (Bf _ hx) y hy'
 ·rcases Ay.mp hx with hx | hx
  ·rcases Ay.mp hx with hx | hx
   ·exact h.apart x (Az _ (A6.mp hx).1) y hy'
   ·rw[Ax] at hx;subst hx;exact(o1h hy).symm
  ·exact h.apart x (Az _ (A6.mp hx).1) y hy'
end
section
def j0w (x:u0c):Bool:=decide (x.2.1=2) || decide (x.2.1=3)
def o62 (t:u0c) (l:Hu u0c):Bool:=l.any fun x=>j0w x&&ahead x t
def q4e (t:u0c) (l:Hu u0c):Bool:=l.any fun x=> !decide (x.1=t.1)&&((decide (x.2.1=2) || (decide (x.2.1=3)&&decide (x.2.2.2.1 >t.2.2.1)))&&s81 x.2.2.2.2.2.1 t.2.2.2.2.2.1)
def p2y (f:u0c→Bool) (t:u0c) (l:Hu u0c):Bool:=
 (o62 t l&&r2s t l) || (l.any (fun x=>j0w x&&(x.2.2.2.2.2.2.1&&ahead t x)) ||
  l.any fun p=>decide (p.2.1=2)&&(ahead p t&&(ahead t p || l.any fun x=>decide (x.2.1=2)&&(f x&&ahead x p))))
def q27 (t:u0c) (l:Hu u0c):Bool:=p2y (fun x=> !decide (x.1=t.1)) t l
def r9q (f:u0c→Bool) (t:u0c) (l:Hu u0c):Bool:=
 p2y f t l || ((o62 t l&&l.any fun x=>decide (x.2.1=2)&&ahead t x) || l.any fun x=>(decide (x.2.1=2)&&ahead t x)&&l.any fun y=>decide (y.2.1=2)&&(!decide (y.1=t.1)&&ahead x y))
def t8k (t:u0c) (l:Hu u0c):Bool:=r9q (fun x=> !decide (x.1=t.1)) t l
theorem s2a {a b:u0c} :ahead a b=true↔a.1≠b.1∧ ¬(a.2.1=3∧a.2.2.2.1≤b.2.2.1)∧ ¬(b.2.1=3∧b.2.2.2.1≤a.2.2.1)∧t2m a.2.2.2.2.1 b.2.2.2.2.2.1=true:=by
 unfold ahead q25 p4q
 simp only[Ai,Bj,Bool.and_eq_false_iff,Bu,not_and,and_assoc]
 constructor
 ·rintro⟨h1,h2,h3,h4⟩
  exact⟨h1,fun e=>h2.resolve_left (fun q=>q e),fun e=>h3.resolve_left (fun q=>q e),h4⟩
 ·rintro⟨h1,h2,h3,h4⟩
  refine⟨h1,?_,?_,h4⟩
  ·by_cases e:a.2.1=3
   ·exact .inr (h2 e)
   ·exact .inl e
  ·by_cases e:b.2.1=3
   ·exact .inr (h3 e)
   ·exact .inl e
structure SameC (x y:u0c):Prop where
 id:x.1=y.1
 st:x.2.1=y.2.1
 snap:x.2.2.1=y.2.2.1
 cs:x.2.2.2.1=y.2.2.2.1
 rs:x.2.2.2.2.1=y.2.2.2.2.1
 ws:x.2.2.2.2.2.1=y.2.2.2.2.2.1
theorem SameC.refl (x:u0c):SameC x x:=⟨rfl,rfl,rfl,rfl,rfl,rfl⟩
theorem SameC.symm {x y:u0c} (h:SameC x y):SameC y x:=⟨h.id.symm,h.st.symm,h.snap.symm,h.cs.symm,h.rs.symm,h.ws.symm⟩
theorem SameC.ahead {x x' y y' :u0c} (h:SameC x x') (k:SameC y y'):Ab.ahead x y=Ab.ahead x' y' :=by
 unfold Ab.ahead q25 p4q
 rw[h.id,h.st,h.snap,h.cs,h.rs,k.id,k.st,k.snap,k.cs,k.ws]
theorem q6z (d x:u0c):SameC (q3e d x) x:=⟨rfl,rfl,rfl,rfl,rfl,rfl⟩
theorem q0i {b:u0j} {t d y:u0c} (hd:SameC d (u9o b t)) (ht:t.2.1≠3) (hy:y.2.2.1≤b.2.2.2.1):ahead d y=ahead t y∧ahead y d=ahead y t:=by
 have h1:ahead d y=ahead (u9o b t) y:=hd.ahead (SameC.refl y)
 have h2:ahead y d=ahead y (u9o b t):=(SameC.refl y).ahead hd
 rw[h1,h2]
 constructor
 ·apply Cd.mpr
  rw[s2a,s2a]
  refine Fo fun _=>Hc ?_ (Hc Hp Hp)
  constructor
  ·exact fun _ q=>ht q.1
  ·rintro _ ⟨_,q⟩
   have q:b.2.2.2.1+1≤y.2.2.1:=q
   omega
 ·apply Cd.mpr
  rw[s2a,s2a]
  refine Fo fun _=>Hc Hp (Hc ?_ Hp)
  constructor
  ·exact fun _ q=>ht q.1
  ·rintro _ ⟨_,q⟩
   have q:b.2.2.2.1+1≤y.2.2.1:=q
   omega
theorem p8e (a b:Hu WrT):s81 a b=s81 b a:=by
 unfold s81
 apply Cd.mpr
 simp only[Cm]
 constructor
 ·rintro⟨x,hx,y,hy,h⟩;exact⟨y,hy,x,hx,by rw[p8u];exact h⟩
 ·rintro⟨x,hx,y,hy,h⟩;exact⟨y,hy,x,hx,by rw[p8u];exact h⟩
structure Ser (H:Hu u0c) (e:u3e):Prop where
 eng:EngR e
 st:∀x∈H,x.2.1=3
 snap:∀x∈H,x.2.2.1<x.2.2.2.1∧x.2.2.2.1≤e.1.2.2.2.1
 asc:H.Pairwise fun x y=>x.2.2.2.1<y.2.2.2.1
 uqh:uq (H++(e.1.2.2.1++e.2))
 bel:∀x∈H,x.1<e.1.2.2.2.2
 pin:∀x∈e.1.2.1,∃y∈H,SameC x y
 cov:∀y∈H,∀o∈e.2,o.2.2.1<y.2.2.2.1→ ∃x∈e.1.2.1,SameC x y
 outp:∀x∈e.1.2.1,∀y∈H,ahead x y=true→y.2.2.2.1<x.2.2.2.1→x.2.2.2.2.2.2.1=true
 outr:∀p∈e.1.2.2.1,∀y∈H,ahead p y=true→p.2.2.2.2.2.2.1=true
 no3:∀x∈H,∀y∈H,∀z∈H,ahead x y=true→ahead y z=true→z.2.2.2.1<y.2.2.2.1→z.2.2.2.1≤x.2.2.2.1→False
 noA:∀x∈H,∀p∈e.1.2.2.1,∀z∈H,ahead x p=true→ahead p z=true→z.2.2.2.1≤x.2.2.2.1→False
 noB:∀p∈e.1.2.2.1,∀y∈H,∀z∈H,ahead p y=true→ahead y z=true→z.2.2.2.1<y.2.2.2.1→False
 noD:∀p∈e.1.2.2.1,∀q∈e.1.2.2.1,∀z∈H,ahead p q=true→ahead q z=true→False
 noE:∀p∈e.1.2.2.1,∀q∈e.1.2.2.1,∀r∈e.1.2.2.1,ahead p q=true→ahead q r=true→False
 ww:∀x∈H,∀y∈H,x.2.2.2.1<y.2.2.2.1→s81 x.2.2.2.2.2.1 y.2.2.2.2.2.1=true→x.2.2.2.1≤y.2.2.1
 wr:∀p∈e.1.2.2.1,∀y∈H,s81 y.2.2.2.2.2.1 p.2.2.2.2.2.1=true→y.2.2.2.1≤p.2.2.1
 rr:∀p∈e.1.2.2.1,∀q∈e.1.2.2.1,p.1≠q.1→s81 p.2.2.2.2.2.1 q.2.2.2.2.2.1=true→False
def r6v (c:Int) (t:u0c):u0c:=(t.1,(3:Int),t.2.2.1,c,t.2.2.2.2.1,t.2.2.2.2.2.1,t.2.2.2.2.2.2.1,(⟨#[]⟩:Hs))
theorem o7h (b:u0j) (t:u0c):SameC (r6v (b.2.2.2.1+1) t) (u9o b t):=⟨rfl,rfl,rfl,rfl,rfl,rfl⟩
theorem Ser.opens {H:Hu u0c} {e e' :u3e} (h:Ser H e) (hR:EngR e') (h1:e'.1.2.1=e.1.2.1) (h2:e'.1.2.2.1=e.1.2.2.1) (h3:e'.1.2.2.2.1=e.1.2.2.2.1) (h4:e.1.2.2.2.2≤e'.1.2.2.2.2)
 (ho:∀o∈e'.2,(∃p∈e.2,p.1=o.1∧p.2.2.1=o.2.2.1)∨(e.1.2.2.2.2≤o.1∧o.2.2.1=e.1.2.2.2.1)):Ser H e' :=by
 obtain⟨u1,u2,u3⟩:=d4q.mp h.uqh
 refine⟨hR,h.st,by rw[h3];exact h.snap,h.asc,?_,fun x hx=>by have:=h.bel x hx;omega,by rw[h1];exact h.pin,?_,by rw[h1];exact h.outp,by rw[h2];exact h.outr,h.no3,by rw[h2];exact h.noA,by rw[h2];exact h.noB,by rw[h2];exact h.noD,by rw[h2];exact h.noE,h.ww,by rw[h2];exact h.wr,by rw[h2];exact h.rr⟩
 ·have hu:=hR.uq
  rw[Bi] at hu
  refine d4q.mpr ⟨u1,(d4q.mp hu).2.1,fun x hx y hy=> ?_⟩
  rcases Ay.mp hy with hy | hy
  ·rw[h2] at hy;exact u3 x hx y (Bf _ hy)
  ·rcases ho y hy with ⟨p,hp,e1,_⟩ | ⟨e1,_⟩
   ·rw[←e1];exact u3 x hx p (Az _ hp)
   ·have:=h.bel x hx;omega
 ·intro y hy o ho' hlt
  rw[h1]
  rcases ho o ho' with ⟨p,hp,_,e2⟩ | ⟨_,e2⟩
  ·exact h.cov y hy p hp (by omega)
  ·have:=(h.snap y hy).2;omega
theorem o50 (b:u0j):∀(o:Hu u0c),∀t∈o,t9w b o≤t.2.2.1:=by
 have le:∀(o:Hu u0c) (m:Int),o.foldl (fun m t=>if t.2.2.1<m then t.2.2.1 else m) m≤m:=by
  intro o
  induction o with
  | nil=>intro m;exact Bv _
  | cons t o ih=>
   intro m
   rw[Bs]
   refine Int.le_trans (ih _) ?_
   split<;>omega
 have key:∀(o:Hu u0c) (m:Int),∀t∈o,o.foldl (fun m t=>if t.2.2.1<m then t.2.2.1 else m) m≤t.2.2.1:=by
  intro o
  induction o with
  | nil=>intro m t ht;cases ht
  | cons x o ih=>
   intro m t ht
   rw[Bs]
   rcases A8.mp ht with rfl | ht
   ·refine Int.le_trans (le o _) ?_
    split<;>omega
   ·exact ih _ t ht
 exact fun o t ht=>key o _ t ht
theorem Ser.tidy {H:Hu u0c} {e:u3e} (h:Ser H e):Ser H (u2y e.1 e.2,e.2):=by
 have sub:∀x∈(u2y e.1 e.2).2.1,x∈e.1.2.1:=fun x hx=>(A6.mp hx).1
 refine⟨j6q h.eng,h.st,h.snap,h.asc,h.uqh,h.bel,fun x hx=>h.pin x (sub x hx),?_,fun x hx=>h.outp x (sub x hx),h.outr,h.no3,h.noA,h.noB,h.noD,h.noE,h.ww,h.wr,h.rr⟩
 intro y hy o ho hlt
 obtain⟨x,hx,hs⟩:=h.cov y hy o ho hlt
 refine⟨x,A6.mpr ⟨hx,?_⟩,hs⟩
 have:=o50 e.1 e.2 o ho
 have:=hs.cs
 simp only[Bj,Bu]
 omega
theorem Ser.fall {H:Hu u0c} {e:u3e} {b:u0j} (h:Ser H e) (hb:BaseR b) (h1:b.2.1= []) (h2:b.2.2.1=e.1.2.2.1) (h3:b.2.2.2.1=e.1.2.2.2.1) (h4:∀x∈H,x.1<b.2.2.2.2):Ser H (b, []):=by
 have hE:EngR (b, []):=⟨hb,Cn _,fun t ht=>(by cases ht),List.Pairwise.nil,by simpa using hb.below,by simpa using hb.nodup⟩
 refine⟨hE,h.st,by rw[h3];exact h.snap,h.asc,?_,h4,(by rw[h1];intro x hx;cases hx),fun y _ o ho=>(by cases ho),(by rw[h1];intro x hx;cases hx),by rw[h2];exact h.outr,h.no3,by rw[h2];exact h.noA,by rw[h2];exact h.noB,by rw[h2];exact h.noD,by rw[h2];exact h.noE,h.ww,by rw[h2];exact h.wr,by rw[h2];exact h.rr⟩
 show uq (H++(b.2.2.1++ []))
 rw[Bw,h2]
 refine Ez ?_ h.uqh
 exact(Dm H).append (List.sublist_append_left _ _)
structure Passed (t:u0c) (P R:Hu u0c):Prop where
 nb:∀x∈P++R,x.1≠t.1→(x.2.1=2∨(x.2.1=3∧x.2.2.2.1 >t.2.2.1))→s81 x.2.2.2.2.2.1 t.2.2.2.2.2.1=true→False
 d1:∀x∈P++R,∀y∈P,ahead x t=true→ahead t y=true→False
 d2:∀x∈P++R,x.2.2.2.2.2.2.1=true→ahead t x=true→False
 d3:∀p∈R,ahead p t=true→ahead t p=true→False
 d4:∀p∈R,∀x∈R,ahead p t=true→ahead x p=true→x.1≠t.1→False
theorem o36 {t:u0c} {P R:Hu u0c} (hp:∀x∈P,x.2.1=3) (hr:∀x∈R,x.2.1=2) (h1:q4e t (P++R)=false) (h2:q27 t (P++R)=false):Passed t P R:=by
 have rd:∀x∈P++R,j0w x=true:=fun x hx=>by
  unfold j0w
  rcases Ay.mp hx with hx | hx
  ·simp[hp x hx]
  ·simp[hr x hx]
 unfold q27 p2y at h2
 simp only[Es] at h2
 obtain⟨g1,g2,g3⟩:=h2
 refine⟨fun x hx hne hs hm=> ?_,fun x hx y hy q1 q2=> ?_,fun x hx q1 q2=> ?_,fun p hp' q1 q2=> ?_,fun p hp' x hx q1 q2 hne=> ?_⟩
 ·have:=Ct.mp h1 x hx
  simp only[Ai,Cr,Bj,Ar,Bu,not_and] at this
  exact this hne hs hm
 ·have a1:o62 t (P++R)=true:=Cm.mpr ⟨x,hx,by rw[rd x hx,q1];rfl⟩
  have a2:r2s t (P++R)=true:=Cm.mpr ⟨y,Bf _ hy,by rw[hp y hy,q2];rfl⟩
  rw[a1,a2] at g1;cases g1
 ·have:=Ct.mp g2 x hx
  rw[rd x hx,q1,q2] at this
  exact this rfl
 ·have:=Ct.mp g3 p (Az _ hp')
  rw[hr p hp',q1,q2] at this
  exact this rfl
 ·have:=Ct.mp g3 p (Az _ hp')
  rw[hr p hp',q1] at this
  have a:((P++R).any fun x=>decide (x.2.1=2)&&(!decide (x.1=t.1)&&ahead x p))=true:=Cm.mpr ⟨x,Az _ hx,by rw[hr x hx,q2];simp[hne]⟩
  rw[a] at this
  simp at this
theorem Ser.inPast {H:Hu u0c} {e:u3e} (h:Ser H e) {t:u0c} (ht:t∈e.2) {y:u0c} (hy:y∈H) (ha:ahead t y=true∨ahead y t=true):∃x∈e.1.2.1,SameC x y:=by
 refine h.cov y hy t ht ?_
 have hs:=h.st y hy
 rcases ha with ha | ha
 ·have:=(s2a.mp ha).2.2.1
  exact Int.not_le.mp fun q=>this ⟨hs,q⟩
 ·have:=(s2a.mp ha).2.1
  exact Int.not_le.mp fun q=>this ⟨hs,q⟩
theorem Ser.commit {H:Hu u0c} {e:u3e} (h:Ser H e) {t:u0c} (ht:t∈e.2) (hf:s4p e.1=false) (hp:Passed t e.1.2.1 e.1.2.2.1):Ser (H++ [r6v (e.1.2.2.2.1+1) t]) (u0y e.1 t,s39 e t.1):=by
 have hE:=h.eng
 obtain⟨tR,t1,ts⟩:=hE.open_ t ht
 have t3:t.2.1≠3:=by omega
 have hsame:=o7h e.1 t
 have hgn:=u97 e.1.2.2.2.2 t.1
 have hHs:∀y∈H,y.2.2.1≤e.1.2.2.2.1:=fun y hy=>by have:=h.snap y hy;omega
 have hRs:∀y∈e.1.2.2.1,y.2.2.1≤e.1.2.2.2.1:=fun y hy=>(hE.base.ready y hy).2.2
 have hPs:∀y∈e.1.2.1,y.2.2.1≤e.1.2.2.2.1:=fun y hy=>by obtain⟨z,hz,q⟩:=h.pin y hy;rw[q.snap];exact hHs z hz
 have aL:∀y:u0c,y.2.2.1≤e.1.2.2.2.1→ahead (r6v (e.1.2.2.2.1+1) t) y=ahead t y:=fun y hy=>(q0i hsame t3 hy).1
 have aR:∀y:u0c,y.2.2.1≤e.1.2.2.2.1→ahead y (r6v (e.1.2.2.2.1+1) t)=ahead y t:=fun y hy=>(q0i hsame t3 hy).2
 have self:∀x:u0c,ahead x x=false:=fun x=>by
  cases q:ahead x x with
  | false=>rfl
  | true=>exact absurd rfl (s2a.mp q).1
 have inP:∀y∈H,ahead y t=true→ ∃x∈e.1.2.1,ahead x t=true:=fun y hy q=>by
  obtain⟨x,hx,hs⟩:=h.inPast ht hy (.inr q)
  exact⟨x,hx,by rw[hs.ahead (SameC.refl t)];exact q⟩
 have outP:∀y∈H,ahead t y=true→ ∃x∈e.1.2.1,SameC x y∧ahead t x=true:=fun y hy q=>by
  obtain⟨x,hx,hs⟩:=h.inPast ht hy (.inl q)
  exact⟨x,hx,hs,by rw[(SameC.refl t).ahead hs];exact q⟩
 have ready' :∀p∈(u0y e.1 t).2.2.1,∃q∈e.1.2.2.1,p=q3e (u9o e.1 t) q:=fun p hp=>by
  obtain⟨q,hq,rfl⟩:=Bx.mp hp
  exact⟨q,(A6.mp hq).1,rfl⟩
 have snoc:∀ {x:u0c},x∈H++ [r6v (e.1.2.2.2.1+1) t] →x∈H∨x=r6v (e.1.2.2.2.1+1) t:=fun {x} hx=>by
  rcases Ay.mp hx with hx | hx
  ·exact .inl hx
  ·exact .inr (Ax.mp hx)
 have csN:(r6v (e.1.2.2.2.1+1) t).2.2.2.1=e.1.2.2.2.1+1:=rfl
 have fl:∀(q y:u0c),ahead (q3e (u9o e.1 t) q) y=ahead q y:=fun q y=>(q6z _ q).ahead (SameC.refl y)
 have fr:∀(q y:u0c),ahead y (q3e (u9o e.1 t) q)=ahead y q:=fun q y=>(SameC.refl y).ahead (q6z _ q)
 obtain⟨u1,u2,u3⟩:=d4q.mp h.uqh
 obtain⟨u4,u5,u6⟩:=d4q.mp u2
 have hEc:=o6x hE ht hf
 have hE' :EngR (u0y e.1 t,s39 e t.1):=r9c hE (t82 hE (.inl ht) hf) (u8j e t.1) (by show e.1.2.2.2.1≤e.1.2.2.2.1+1;omega) hgn.1 fun x hx y hy=>by
  rcases r3d hx with q | ⟨z,hz,q⟩
  ·rw[q];exact(o1h hy).symm
  ·rw[←q];exact hE.apart z hz y ((u8j e t.1).subset hy)
 refine⟨hE',?_,?_,?_,?_,?_,?_,?_,?_,?_,?_,?_,?_,?_,?_,?_,?_,?_⟩
 ·-- st
  intro x hx
  rcases snoc hx with hx | rfl
  ·exact h.st x hx
  ·rfl
 ·-- snap
  intro x hx
  show x.2.2.1<x.2.2.2.1∧x.2.2.2.1≤e.1.2.2.2.1+1
  rcases snoc hx with hx | rfl
  ·have:=h.snap x hx;omega
  ·show t.2.2.1<e.1.2.2.2.1+1∧e.1.2.2.2.1+1≤e.1.2.2.2.1+1
   omega
 ·-- asc
  rw[Cg]
  refine⟨h.asc,Eu _ _,fun x hx y hy=> ?_⟩
  rw[Ax] at hy;subst hy
  have:=(h.snap x hx).2
  show x.2.2.2.1<e.1.2.2.2.1+1
  omega
 ·-- uq
  have hu:=hE'.uq
  rw[Bi] at hu
  obtain⟨k1,k2,k3⟩:=d4q.mp hu
  refine d4q.mpr ⟨d4q.mpr ⟨u1,o7o,fun x hx y hy=> ?_⟩,k2,fun x hx y hy=> ?_⟩
  ·rw[Ax] at hy;subst hy
   exact u3 x hx t (Az _ ht)
  ·rcases snoc hx with hx | rfl
   ·rcases Ay.mp hy with hy | hy
    ·obtain⟨q,hq,rfl⟩:=ready' y hy
     exact u3 x hx q (Bf _ hq)
    ·exact u3 x hx y (Az _ ((u8j e t.1).subset hy))
   ·exact k3 (u9o e.1 t) (by show _∈e.1.2.1++ [u9o e.1 t];simp) y hy
 ·-- below
  intro x hx
  show x.1<u2a e.1.2.2.2.2 t.1
  rcases snoc hx with hx | rfl
  ·have:=h.bel x hx;omega
  ·exact hgn.2
 ·-- pin
  intro x hx
  rcases Ay.mp hx with hx | hx
  ·obtain⟨y,hy,q⟩:=h.pin x hx
   exact⟨y,Bf _ hy,q⟩
  ·rw[Ax] at hx;subst hx
   exact⟨_,Az _ (Ax.mpr rfl),hsame.symm⟩
 ·-- cov
  intro y hy o ho hlt
  rcases snoc hy with hy | rfl
  ·obtain⟨x,hx,q⟩:=h.cov y hy o ((u8j e t.1).subset ho) hlt
   exact⟨x,Bf _ hx,q⟩
  ·exact⟨u9o e.1 t,Az _ (Ax.mpr rfl),hsame.symm⟩
 ·-- outp
  intro x hx y hy ha hlt
  rcases Ay.mp hx with hx | hx
  ·rcases snoc hy with hy | rfl
   ·exact h.outp x hx y hy ha hlt
   ·obtain⟨z,hz,q⟩:=h.pin x hx
    have:=(h.snap z hz).2
    have:=q.cs
    have hlt:e.1.2.2.2.1+1<x.2.2.2.1:=hlt
    omega
  ·rw[Ax] at hx;subst hx
   rcases snoc hy with hy | rfl
   ·have q:ahead t y=true:=by
     rw[hsame.symm.ahead (SameC.refl y),aL y (hHs y hy)] at ha;exact ha
    obtain⟨z,hz,hs,hz2⟩:=outP y hy q
    show(t.2.2.2.2.2.2.1 || r2s t e.1.2.1)=true
    have:r2s t e.1.2.1=true:=Cm.mpr ⟨z,hz,by rw[(hE.base.past z hz).2.1,hz2];rfl⟩
    rw[this,Ew]
   ·rw[hsame.symm.ahead (SameC.refl _),self] at ha;cases ha
 ·-- outr
  intro p hp' y hy ha
  obtain⟨q,hq,rfl⟩:=ready' p hp'
  rw[fl] at ha
  show(q.2.2.2.2.2.2.1 || ahead q (u9o e.1 t))=true
  rcases snoc hy with hy | rfl
  ·rw[h.outr q hq y hy ha];rfl
  ·rw[(SameC.refl q).ahead hsame] at ha
   rw[ha,Ew]
 ·-- no3
  intro x hx y hy z hz q1 q2 l1 l2
  rcases snoc hz with hz | rfl
  ·rcases snoc hy with hy | rfl
   ·rcases snoc hx with hx | rfl
    ·exact h.no3 x hx y hy z hz q1 q2 l1 l2
    ·-- it reads ahead of y,which is Out
     rw[aL y (hHs y hy)] at q1
     obtain⟨w,hw,hs,hw2⟩:=outP y hy q1
     refine hp.d2 w (Bf _ hw) (h.outp w hw z hz ?_ (by rw[hs.cs];exact l1)) hw2
     rw[hs.ahead (SameC.refl z)];exact q2
   ·rw[aL z (hHs z hz)] at q2
    obtain⟨w,hw,_,hw2⟩:=outP z hz q2
    rcases snoc hx with hx | rfl
    ·rw[aR x (hHs x hx)] at q1
     obtain⟨v,hv,hv2⟩:=inP x hx q1
     exact hp.d1 v (Bf _ hv) w hw hv2 hw2
    ·rw[self] at q1;cases q1
  ·rcases snoc hy with hy | rfl
   ·have:=(h.snap y hy).2
    rw[csN] at l1
    omega
   ·rw[self] at q2;cases q2
 ·-- noA
  intro x hx p hp' z hz q1 q2 l
  obtain⟨q,hq,rfl⟩:=ready' p hp'
  rw[fr] at q1;rw[fl] at q2
  rcases snoc hz with hz | rfl
  ·rcases snoc hx with hx | rfl
   ·exact h.noA x hx q hq z hz q1 q2 l
   ·rw[aL q (hRs q hq)] at q1
    exact hp.d2 q (Az _ hq) (h.outr q hq z hz q2) q1
  ·rcases snoc hx with hx | rfl
   ·have:=(h.snap x hx).2
    rw[csN] at l
    omega
   ·rw[aL q (hRs q hq)] at q1
    rw[aR q (hRs q hq)] at q2
    exact hp.d3 q hq q2 q1
 ·-- noB
  intro p hp' y hy z hz q1 q2 l
  obtain⟨q,hq,rfl⟩:=ready' p hp'
  rw[fl] at q1
  rcases snoc hz with hz | rfl
  ·rcases snoc hy with hy | rfl
   ·exact h.noB q hq y hy z hz q1 q2 l
   ·rw[aR q (hRs q hq)] at q1
    rw[aL z (hHs z hz)] at q2
    obtain⟨w,hw,_,hw2⟩:=outP z hz q2
    exact hp.d1 q (Az _ hq) w hw q1 hw2
  ·rcases snoc hy with hy | rfl
   ·have:=(h.snap y hy).2
    rw[csN] at l
    omega
   ·rw[self] at q2;cases q2
 ·-- noD
  intro p hp' p2 hp2 z hz q1 q2
  obtain⟨q,hq,rfl⟩:=ready' p hp'
  obtain⟨r,hr,rfl⟩:=ready' p2 hp2
  rw[fl,fr] at q1;rw[fl] at q2
  rcases snoc hz with hz | rfl
  ·exact h.noD q hq r hr z hz q1 q2
  ·rw[aR r (hRs r hr)] at q2
   exact hp.d4 r hr q hq q2 q1 (hE.apart q (Az _ hq) t ht)
 ·-- noE
  intro p hp' p2 hp2 p3 hp3 q1 q2
  obtain⟨q,hq,rfl⟩:=ready' p hp'
  obtain⟨r,hr,rfl⟩:=ready' p2 hp2
  obtain⟨s,hs,rfl⟩:=ready' p3 hp3
  rw[fl,fr] at q1;rw[fl,fr] at q2
  exact h.noE q hq r hr s hs q1 q2
 ·-- ww
  intro x hx y hy l m
  rcases snoc hy with hy | rfl
  ·rcases snoc hx with hx | rfl
   ·exact h.ww x hx y hy l m
   ·have:=(h.snap y hy).2
    rw[csN] at l
    omega
  ·rcases snoc hx with hx | rfl
   ·show x.2.2.2.1≤t.2.2.1
    apply Hk.mp
    intro hlt
    obtain⟨w,hw,hs⟩:=h.cov x hx t ht hlt
    refine hp.nb w (Bf _ hw) (hE.apart w (Bf _ hw) t ht) (.inr ⟨(hE.base.past w hw).2.1,by rw[hs.cs];exact hlt⟩) ?_
    rw[hs.ws];exact m
   ·rw[csN] at l;omega
 ·-- wr
  intro p hp' y hy m
  obtain⟨q,hq,rfl⟩:=ready' p hp'
  show y.2.2.2.1≤q.2.2.1
  rcases snoc hy with hy | rfl
  ·exact h.wr q hq y hy m
  ·exfalso
   refine hp.nb q (Az _ hq) (hE.apart q (Az _ hq) t ht) (.inl (hE.base.ready q hq).2.1) ?_
   rw[p8e];exact m
 ·-- rr
  intro p hp' p2 hp2 hne m
  obtain⟨q,hq,rfl⟩:=ready' p hp'
  obtain⟨r,hr,rfl⟩:=ready' p2 hp2
  exact h.rr q hq r hr hne m
end
section
theorem j6s {r:Hu t3b.den} {w:Hu u2i.den} :t2m r w=true↔ ∃x∈r,∃y∈w,inR x y.1=true:=by simp[t2m]
theorem j8p {a b:Hu u2i.den} :s81 a b=true↔ ∃x∈a,∃y∈b,x.1=y.1:=by simp[s81,y7f]
theorem j0h {a b:u0q.den} (h1:tSt a=3) (h2:tSt b=3) (h3:tId a≠tId b) (h4:tCs a≤o6b b) {r:t3b.den} (hr:r∈b.2.2.2.2.1) {k:Hs} (hk:inR r k=true) (hw:wrs a k):t1w a b=true:=by
 obtain⟨w,hw,rfl⟩:=hw
 have ht:t2m b.2.2.2.2.1 a.2.2.2.2.2.1=true:=j6s.mpr ⟨r,hr,w,hw,hk⟩
 unfold tSt at h1 h2;unfold tId at h3;unfold tCs o6b at h4
 unfold t1w
 simp[h1,h2,h3,h4,ht]
theorem j0g {a b:u0q.den} (h1:tSt a=3) (h2:tSt b=3) (h3:tId a≠tId b) (h4:o6b a<tCs b) {r:t3b.den} (hr:r∈a.2.2.2.2.1) {k:Hs} (hk:inR r k=true) (hw:wrs b k):t1w a b=true:=by
 obtain⟨w,hw,rfl⟩:=hw
 have ht:t2m a.2.2.2.2.1 b.2.2.2.2.2.1=true:=j6s.mpr ⟨r,hr,w,hw,hk⟩
 unfold tSt at h1 h2;unfold tId at h3;unfold tCs o6b at h4
 unfold t1w
 simp[h1,h2,h3,h4,ht]
theorem j0i {a b:u0q.den} (h1:tSt a=3) (h2:tSt b=3) (h3:tId a≠tId b) (h4:tCs a<tCs b) {k:Hs} (ha:wrs a k) (hb:wrs b k):t1w a b=true:=by
 obtain⟨w,hw,rfl⟩:=ha
 obtain⟨z,hz,e⟩:=hb
 have ht:s81 a.2.2.2.2.2.1 b.2.2.2.2.2.1=true:=j8p.mpr ⟨w,hw,z,hz,e.symm⟩
 unfold tSt at h1 h2;unfold tId at h3;unfold tCs at h4
 unfold t1w
 simp[h1,h2,h3,h4,ht]
theorem o30:∀(n:Nat) (u:Hu Nat),u.Nodup→(∀i∈u,i<n)→u.length≤n
 | 0,u,_,h=>by
  cases u with
  | nil=>exact Au _
  | cons x u=>exact absurd (h x (C9 ..)) (Ee x)
 | n+1,u,hu,h=>by
  have ih:=o30 n (u.erase n) (hu.erase n) (fun i hi=>by
   have h1:=h i (List.mem_of_mem_erase hi)
   have h2:i≠n:=fun e=>by
    subst e
    exact(List.Nodup.not_mem_erase hu) hi
   omega)
  have:=List.length_erase (a:=n) (l:=u)
  split at this<;>omega
section
variable {l:Hu u0q.den} (hl:j4z l) {u:Hu Nat} (ho:o33 l=some u)
include hl
theorem j8q {i j:Nat} (hi:i<l.length) (hj:j<l.length) (h:i<j):tId l[i] ≠tId l[j] ∧tCs l[i] <tCs l[j] :=(Cp.mp hl.2) i j hi hj h
theorem j3q {i j:Nat} (hi:i<l.length) (hj:j<l.length) (h:i≠j):tId l[i] ≠tId l[j] ∧tCs l[i] ≠tCs l[j] :=by
 rcases Hd h with h | h
 ·have:=j8q hl hi hj h
  exact⟨this.1,by omega⟩
 ·have:=j8q hl hj hi h
  exact⟨fun e=>this.1 e.symm,by omega⟩
theorem j8r:∀a∈l,∀b∈l,tCs a=tCs b→a=b:=by
 intro a ha b hb e
 obtain⟨i,hi,rfl⟩:=B7 ha
 obtain⟨j,hj,rfl⟩:=B7 hb
 by_cases h:i=j
 ·subst h;rfl
 ·exact absurd e (j3q hl hi hj h).2
include ho
theorem o51 {p q:Nat} (h:p<q) (hq:q<u.length):∃(hp' :u[p] <l.length) (hq' :u[q] <l.length),u[p] ≠u[q] ∧t1w l[u[q]] l[u[p]] =false:=by
 obtain⟨_,g2,g3,g4⟩:=s0q ho
 have m1:=g2 u[p] (Ag (by omega))
 have m2:=g2 u[q] (Ag hq)
 refine⟨m1,m2,(Cp.mp g3) p q (by omega) hq h,?_⟩
 have:=g4 p q h hq
 unfold o9j at this
 rwa [y8k (t:=u0q) m1,y8k (t:=u0q) m2] at this
def pre (l:Hu u0q.den) (u:Hu Nat) (a:Nat):Hu u0q.den:=(u.take a).map fun i=>rdL u0q l i
theorem j03 {a:Nat} (ha:a≤u.length) {x:u0q.den} :x∈pre l u a↔ ∃(p:Nat) (hp:p<u.length) (h:u[p] <l.length),p<a∧l[u[p]] =x:=by
 obtain⟨_,g2,_⟩:=s0q ho
 unfold pre
 rw[Bx]
 constructor
 ·rintro⟨i,hi,rfl⟩
  obtain⟨p,hp,rfl⟩:=B7 hi
  have hp1:p<a∧p<u.length:=by have:=hp;rw[Ec] at this;omega
  have m:=g2 u[p] (Ag hp1.2)
  refine⟨p,hp1.2,m,hp1.1,?_⟩
  rw[Fc,y8k (t:=u0q) m]
 ·rintro⟨p,hp,m,hpa,rfl⟩
  refine⟨u[p],?_,y8k (t:=u0q) m⟩
  rw[List.mem_take_iff_getElem]
  exact⟨p,by omega,rfl⟩
theorem j3u {a:Nat} (ha:a≤u.length):(pre l u a).Pairwise (fun x y=> ∀k,wrs x k→wrs y k→tCs x<tCs y):=by
 obtain⟨_,g2,_⟩:=s0q ho
 unfold pre
 rw[Dl,Cp]
 intro p q hp hq hpq k h1 h2
 have hp1:p<a∧p<u.length:=by have:=hp;rw[Ec] at this;omega
 have hq1:q<a∧q<u.length:=by have:=hq;rw[Ec] at this;omega
 obtain⟨m1,m2,hne,hb⟩:=o51 hl ho hpq hq1.2
 simp only[Fc] at h1 h2 ⊢
 rw[y8k (t:=u0q) m1] at h1 ⊢
 rw[y8k (t:=u0q) m2] at h2 ⊢
 have hn:=j3q hl m1 m2 hne
 apply Ed
 intro hlt
 have:=j0i (hl.1 _ (Ag m2)).1 (hl.1 _ (Ag m1)).1 (fun e=>hn.1 e.symm) (by omega:tCs l[u[q]] <tCs l[u[p]]) h2 h1
 rw[this] at hb
 cases hb
theorem j6k {a:Nat} (ha:a<u.length) (m:u[a] <l.length):q4y (q7w l) (s24 (pre l u a)) l[u[a]] =false:=by
 obtain⟨g1,g2,g3,_⟩:=s0q ho
 unfold q4y
 rw[Ct]
 intro r hr
 have key:s6r (s24 (pre l u a)) r=t5y (q7w l) r l[u[a]].2.2.1:=by
  refine PAsc.ext (o1m (p4r _) r) (q7e _ _ _) fun⟨k,v⟩=> ?_
  have hkd:∀t∈pre l u a,KD t.2.2.2.2.2.1:=fun t ht=>by
   obtain⟨p,hp,mp,_,rfl⟩:=(j03 hl ho (by omega)).mp ht
   exact(hl.1 _ (Ag mp)).2.2
  have e1:(k,v)∈s6r (s24 (pre l u a)) r↔inR r k=true∧p4l (pre l u a) k v (fun _=>True):=by
   unfold s6r
   rw[A6,j02 _ _ rfl hkd (j3u hl ho (by omega))]
   exact And.comm
  rw[e1,o5x (fun t ht=>(hl.1 t ht).2.2) (j8r hl)]
  refine Fo fun hk=> ?_
  have hst:=(hl.1 _ (Ag m)).1
  have sees:∀x,wrs x k→(x∈pre l u a↔x∈l∧tCs x≤o6b l[u[a]]):=by
   intro x hx
   rw[j03 hl ho (by omega)]
   constructor
   ·rintro⟨p,hp,mp,hpa,rfl⟩
    refine⟨Ag mp,?_⟩
    obtain⟨_,_,hne,hb⟩:=o51 hl ho hpa ha
    apply Ed
    intro hlt
    have hn:=j3q hl mp m hne
    have:=j0g hst (hl.1 _ (Ag mp)).1 (fun e=>hn.1 e.symm) (by omega:o6b l[u[a]] <tCs l[u[p]]) hr hk hx
    rw[this] at hb
    cases hb
   ·rintro⟨hxl,hc⟩
    obtain⟨j,hj,rfl⟩:=B7 hxl
    have hju:j∈u:=by
     apply Ed
     intro hju
     have:=o30 l.length (j::u) (List.nodup_cons.mpr ⟨hju,g3⟩) (fun i hi=>by
      rcases A8.mp hi with rfl | hi
      ·exact hj
      ·exact g2 i hi)
     simp only[Bc] at this
     omega
    obtain⟨p,hp,hpj⟩:=B7 hju
    have hjm:u[p] <l.length:=by omega
    refine⟨p,hp,hjm,?_,by simp[hpj]⟩
    rcases Gk p a with z | z | z
    ·exact z
    ·exfalso
     subst z
     have:=(hl.1 _ (Ag m)).2.1
     have e:tCs l[j] =tCs l[u[p]] :=by congr 1;simp[hpj]
     omega
    ·exfalso
     obtain⟨_,_,hne,hb⟩:=o51 hl ho z hp
     have hn:=j3q hl m hjm hne
     have e:l[j] =l[u[p]] :=by simp[hpj]
     rw[e] at hc hx
     have:=j0h (hl.1 _ (Ag hjm)).1 hst (fun e=>hn.1 e.symm) hc hr hk hx
     rw[this] at hb
     cases hb
  unfold p4l
  constructor
  ·rintro⟨t,ht,_,⟨w,hw,q⟩,h3⟩
   have s:=(sees t ⟨w,hw,q.1⟩).mp ht
   exact⟨t,s.1,s.2,⟨w,hw,q⟩,fun x hx hc hk=>h3 x ((sees x hk).mpr ⟨hx,hc⟩) trivial hk⟩
  ·rintro⟨t,ht,hc,⟨w,hw,q⟩,h3⟩
   exact⟨t,(sees t ⟨w,hw,q.1⟩).mpr ⟨ht,hc⟩,trivial,⟨w,hw,q⟩,fun x hx _ hk=>h3 x ((sees x hk).mp hx).1 ((sees x hk).mp hx).2 hk⟩
 simp[key]
theorem j3t:o39 l u= .inl ():=by
 obtain⟨g1,g2,_⟩:=s0q ho
 have key:∀(d i:Nat),i+d=u.length→o3r (j1d l (q7w l)) (fun _=>(.inl ():Unit⊕Bool)) i ((u11 u).drop i) (s24 (pre l u i))= .inl ():=by
  intro d
  induction d with
  | zero=>
   intro i hi
   rw[Dp (by rw[u55];omega)]
   rfl
  | succ d ih=>
   intro i hi
   have hiu:i<u.length:=by omega
   have m:=g2 u[i] (Ag hiu)
   have hx:(u11 u)[i]'(by rw[u55];exact hiu)=(u[i] :Int):=by simp[u11]
   rw[Ce (by rw[u55];exact hiu)]
   simp only[o3r,j1d,hx,zTn,y8k (t:=u0q) m,j6k hl ho hiu m,Br,Bk]
   have e:u6w (s24 (pre l u i)) l[u[i]].2.2.2.2.2.1=s24 (pre l u (i+1)):=by
    unfold pre
    rw[B9 hiu,Dh,List.map_singleton,q0t,y8k (t:=u0q) m]
   rw[e]
   exact ih (i+1) (by omega)
 have:=key u.length 0 (by omega)
 simpa[o39,pre,s24] using this
end
end
section
theorem s0p (x:u0c):ahead x x=false:=by
 cases q:ahead x x with
 | false=>rfl
 | true=>exact absurd rfl (s2a.mp q).1
theorem Ser.yes {H:Hu u0c} {e:u3e} (h:Ser H e) {t:u0c} (ht:t∈e.1.2.2.1) (hf:s4p e.1=false):Ser (H++ [r6v (e.1.2.2.2.1+1) t]) (u0y e.1 t,e.2):=by
 have hE:=h.eng
 obtain⟨tR,t2,ts⟩:=hE.base.ready t ht
 have t3:t.2.1≠3:=by omega
 have hsame:=o7h e.1 t
 have hgn:=u97 e.1.2.2.2.2 t.1
 have hHs:∀y∈H,y.2.2.1≤e.1.2.2.2.1:=fun y hy=>by have:=h.snap y hy;omega
 have hRs:∀y∈e.1.2.2.1,y.2.2.1≤e.1.2.2.2.1:=fun y hy=>(hE.base.ready y hy).2.2
 have aL:∀y:u0c,y.2.2.1≤e.1.2.2.2.1→ahead (r6v (e.1.2.2.2.1+1) t) y=ahead t y:=fun y hy=>(q0i hsame t3 hy).1
 have aR:∀y:u0c,y.2.2.1≤e.1.2.2.2.1→ahead y (r6v (e.1.2.2.2.1+1) t)=ahead y t:=fun y hy=>(q0i hsame t3 hy).2
 have ready' :∀p∈(u0y e.1 t).2.2.1,∃q∈e.1.2.2.1,p=q3e (u9o e.1 t) q:=fun p hp=>by
  obtain⟨q,hq,rfl⟩:=Bx.mp hp
  exact⟨q,(A6.mp hq).1,rfl⟩
 have readyN:∀p∈(u0y e.1 t).2.2.1,p.1≠t.1:=fun p hp=>by
  obtain⟨q,hq,rfl⟩:=Bx.mp hp
  have:=(A6.mp hq).2
  simp only[Bj,Bu] at this
  exact this
 have snoc:∀ {x:u0c},x∈H++ [r6v (e.1.2.2.2.1+1) t] →x∈H∨x=r6v (e.1.2.2.2.1+1) t:=fun {x} hx=>by
  rcases Ay.mp hx with hx | hx
  ·exact .inl hx
  ·exact .inr (Ax.mp hx)
 have csN:(r6v (e.1.2.2.2.1+1) t).2.2.2.1=e.1.2.2.2.1+1:=rfl
 have fl:∀(q y:u0c),ahead (q3e (u9o e.1 t) q) y=ahead q y:=fun q y=>(q6z _ q).ahead (SameC.refl y)
 have fr:∀(q y:u0c),ahead y (q3e (u9o e.1 t) q)=ahead y q:=fun q y=>(SameC.refl y).ahead (q6z _ q)
 obtain⟨u1,u2,u3⟩:=d4q.mp h.uqh
 obtain⟨u4,u5,u6⟩:=d4q.mp u2
 have hE' :EngR (u0y e.1 t,e.2):=r9c hE (t82 hE (.inr ht) hf) (Dm _) (by show e.1.2.2.2.1≤e.1.2.2.2.1+1;omega) hgn.1 fun x hx y hy=>by
  rcases r3d hx with q | ⟨z,hz,q⟩
  ·rw[q];exact hE.apart t (Az _ ht) y hy
  ·rw[←q];exact hE.apart z hz y hy
 refine⟨hE',?_,?_,?_,?_,?_,?_,?_,?_,?_,?_,?_,?_,?_,?_,?_,?_,?_⟩
 ·-- st
  intro x hx
  rcases snoc hx with hx | rfl
  ·exact h.st x hx
  ·rfl
 ·-- snap
  intro x hx
  show x.2.2.1<x.2.2.2.1∧x.2.2.2.1≤e.1.2.2.2.1+1
  rcases snoc hx with hx | rfl
  ·have:=h.snap x hx;omega
  ·show t.2.2.1<e.1.2.2.2.1+1∧e.1.2.2.2.1+1≤e.1.2.2.2.1+1
   omega
 ·-- asc
  rw[Cg]
  refine⟨h.asc,Eu _ _,fun x hx y hy=> ?_⟩
  rw[Ax] at hy;subst hy
  have:=(h.snap x hx).2
  show x.2.2.2.1<e.1.2.2.2.1+1
  omega
 ·-- uq
  have hu:=hE'.uq
  rw[Bi] at hu
  obtain⟨k1,k2,k3⟩:=d4q.mp hu
  refine d4q.mpr ⟨d4q.mpr ⟨u1,o7o,fun x hx y hy=> ?_⟩,k2,fun x hx y hy=> ?_⟩
  ·rw[Ax] at hy;subst hy
   exact u3 x hx t (Bf _ ht)
  ·rcases snoc hx with hx | rfl
   ·rcases Ay.mp hy with hy | hy
    ·obtain⟨q,hq,rfl⟩:=ready' y hy
     exact u3 x hx q (Bf _ hq)
    ·exact u3 x hx y (Az _ hy)
   ·exact k3 (u9o e.1 t) (by show _∈e.1.2.1++ [u9o e.1 t];simp) y hy
 ·-- below
  intro x hx
  show x.1<u2a e.1.2.2.2.2 t.1
  rcases snoc hx with hx | rfl
  ·have:=h.bel x hx;omega
  ·exact hgn.2
 ·-- pin
  intro x hx
  rcases Ay.mp hx with hx | hx
  ·obtain⟨y,hy,q⟩:=h.pin x hx
   exact⟨y,Bf _ hy,q⟩
  ·rw[Ax] at hx;subst hx
   exact⟨_,Az _ (Ax.mpr rfl),hsame.symm⟩
 ·-- cov
  intro y hy o ho hlt
  rcases snoc hy with hy | rfl
  ·obtain⟨x,hx,q⟩:=h.cov y hy o ho hlt
   exact⟨x,Bf _ hx,q⟩
  ·exact⟨u9o e.1 t,Az _ (Ax.mpr rfl),hsame.symm⟩
 ·-- outp
  intro x hx y hy ha hlt
  rcases Ay.mp hx with hx | hx
  ·rcases snoc hy with hy | rfl
   ·exact h.outp x hx y hy ha hlt
   ·obtain⟨z,hz,q⟩:=h.pin x hx
    have:=(h.snap z hz).2
    have:=q.cs
    have hlt:e.1.2.2.2.1+1<x.2.2.2.1:=hlt
    omega
  ·rw[Ax] at hx;subst hx
   rcases snoc hy with hy | rfl
   ·have q:ahead t y=true:=by
     rw[hsame.symm.ahead (SameC.refl y),aL y (hHs y hy)] at ha;exact ha
    show(t.2.2.2.2.2.2.1 || r2s t e.1.2.1)=true
    rw[h.outr t ht y hy q];rfl
   ·rw[hsame.symm.ahead (SameC.refl _),s0p] at ha;cases ha
 ·-- outr
  intro p hp' y hy ha
  obtain⟨q,hq,rfl⟩:=ready' p hp'
  rw[fl] at ha
  show(q.2.2.2.2.2.2.1 || ahead q (u9o e.1 t))=true
  rcases snoc hy with hy | rfl
  ·rw[h.outr q hq y hy ha];rfl
  ·rw[(SameC.refl q).ahead hsame] at ha
   rw[ha,Ew]
 ·-- no3
  intro x hx y hy z hz q1 q2 l1 l2
  rcases snoc hz with hz | rfl
  ·rcases snoc hy with hy | rfl
   ·rcases snoc hx with hx | rfl
    ·exact h.no3 x hx y hy z hz q1 q2 l1 l2
    ·rw[aL y (hHs y hy)] at q1
     exact h.noB t ht y hy z hz q1 q2 l1
   ·rw[aL z (hHs z hz)] at q2
    rcases snoc hx with hx | rfl
    ·rw[aR x (hHs x hx)] at q1
     exact h.noA x hx t ht z hz q1 q2 l2
    ·rw[s0p] at q1;cases q1
  ·rcases snoc hy with hy | rfl
   ·have:=(h.snap y hy).2
    rw[csN] at l1
    omega
   ·rw[s0p] at q2;cases q2
 ·-- noA
  intro x hx p hp' z hz q1 q2 l
  obtain⟨q,hq,rfl⟩:=ready' p hp'
  rw[fr] at q1;rw[fl] at q2
  rcases snoc hz with hz | rfl
  ·rcases snoc hx with hx | rfl
   ·exact h.noA x hx q hq z hz q1 q2 l
   ·rw[aL q (hRs q hq)] at q1
    exact h.noD t ht q hq z hz q1 q2
  ·rcases snoc hx with hx | rfl
   ·have:=(h.snap x hx).2
    rw[csN] at l
    omega
   ·rw[aL q (hRs q hq)] at q1
    rw[aR q (hRs q hq)] at q2
    exact h.noE t ht q hq t ht q1 q2
 ·-- noB
  intro p hp' y hy z hz q1 q2 l
  obtain⟨q,hq,rfl⟩:=ready' p hp'
  rw[fl] at q1
  rcases snoc hz with hz | rfl
  ·rcases snoc hy with hy | rfl
   ·exact h.noB q hq y hy z hz q1 q2 l
   ·rw[aR q (hRs q hq)] at q1
    rw[aL z (hHs z hz)] at q2
    exact h.noD q hq t ht z hz q1 q2
  ·rcases snoc hy with hy | rfl
   ·have:=(h.snap y hy).2
    rw[csN] at l
    omega
   ·rw[s0p] at q2;cases q2
 ·-- noD
  intro p hp' p2 hp2 z hz q1 q2
  obtain⟨q,hq,rfl⟩:=ready' p hp'
  obtain⟨r,hr,rfl⟩:=ready' p2 hp2
  rw[fl,fr] at q1;rw[fl] at q2
  rcases snoc hz with hz | rfl
  ·exact h.noD q hq r hr z hz q1 q2
  ·rw[aR r (hRs r hr)] at q2
   exact h.noE q hq r hr t ht q1 q2
 ·-- noE
  intro p hp' p2 hp2 p3 hp3 q1 q2
  obtain⟨q,hq,rfl⟩:=ready' p hp'
  obtain⟨r,hr,rfl⟩:=ready' p2 hp2
  obtain⟨s,hs,rfl⟩:=ready' p3 hp3
  rw[fl,fr] at q1;rw[fl,fr] at q2
  exact h.noE q hq r hr s hs q1 q2
 ·-- ww
  intro x hx y hy l m
  rcases snoc hy with hy | rfl
  ·rcases snoc hx with hx | rfl
   ·exact h.ww x hx y hy l m
   ·have:=(h.snap y hy).2
    rw[csN] at l
    omega
  ·rcases snoc hx with hx | rfl
   ·exact h.wr t ht x hx m
   ·rw[csN] at l;omega
 ·-- wr
  intro p hp' y hy m
  have hne:=readyN p hp'
  obtain⟨q,hq,rfl⟩:=ready' p hp'
  show y.2.2.2.1≤q.2.2.1
  rcases snoc hy with hy | rfl
  ·exact h.wr q hq y hy m
  ·exact(h.rr t ht q hq (fun e=>hne e.symm) m).elim
 ·-- rr
  intro p hp' p2 hp2 hne m
  obtain⟨q,hq,rfl⟩:=ready' p hp'
  obtain⟨r,hr,rfl⟩:=ready' p2 hp2
  exact h.rr q hq r hr hne m
structure PassedR (t:u0c) (P R:Hu u0c):Prop extends Passed t P R where
 e1:∀x∈P++R,∀y∈R,ahead x t=true→ahead t y=true→False
 e2:∀x∈R,∀y∈R,ahead t x=true→ahead x y=true→y.1≠t.1→False
theorem p8h {t:u0c} {P R:Hu u0c} (hp:∀x∈P,x.2.1=3) (hr:∀x∈R,x.2.1=2) (h1:q4e t (P++R)=false) (h2:t8k t (P++R)=false):PassedR t P R:=by
 have rd:∀x∈P++R,j0w x=true:=fun x hx=>by
  unfold j0w
  rcases Ay.mp hx with hx | hx
  ·simp[hp x hx]
  ·simp[hr x hx]
 unfold t8k r9q at h2
 simp only[Es] at h2
 obtain⟨g1,g2,g3⟩:=h2
 refine {toPassed:=o36 hp hr h1 g1,e1:=fun x hx y hy q1 q2=> ?_,e2:=fun x hx y hy q1 q2 hne=> ?_}
 ·have a1:o62 t (P++R)=true:=Cm.mpr ⟨x,hx,by rw[rd x hx,q1];rfl⟩
  have a2:((P++R).any fun x=>decide (x.2.1=2)&&ahead t x)=true:=Cm.mpr ⟨y,Az _ hy,by rw[hr y hy,q2];rfl⟩
  rw[a1,a2] at g2;cases g2
 ·have:=Ct.mp g3 x (Az _ hx)
  have a:((P++R).any fun y=>decide (y.2.1=2)&&(!decide (y.1=t.1)&&ahead x y))=true:=Cm.mpr ⟨y,Az _ hy,by rw[hr y hy,q2];simp[hne]⟩
  rw[a,hr x hx,q1] at this
  exact this rfl
theorem Ser.ready {H:Hu u0c} {e:u3e} (h:Ser H e) {t:u0c} {n:Hs} (ht:t∈e.2) (hk:u7b n=true) (hl:e.1.2.2.1.length<3) (hn:∀x∈e.1.2.2.1,x.2.2.2.2.2.2.2≠n) (hp:PassedR t e.1.2.1 e.1.2.2.1):
 Ser H (u12 e.1 t n,s39 e t.1):=by
 have hE:=h.eng
 obtain⟨tR,t1,ts⟩:=hE.open_ t ht
 have t3:t.2.1≠3:=by omega
 have hgn:=u97 e.1.2.2.2.2 t.1
 have hHs:∀y∈H,y.2.2.1≤e.1.2.2.2.1:=fun y hy=>by have:=h.snap y hy;omega
 have hRs:∀y∈e.1.2.2.1,y.2.2.1≤e.1.2.2.2.1:=fun y hy=>(hE.base.ready y hy).2.2
 have aL:∀y:u0c,ahead (u4r e.1 t n) y=ahead t y:=fun y=>by
  apply Cd.mpr
  rw[s2a,s2a]
  refine Fo fun _=>Hc ⟨fun _ q=>t3 q.1,fun _ q=> ?_⟩ Hp
  have q:(2:Int)=3:=q.1
  omega
 have aR:∀y:u0c,ahead y (u4r e.1 t n)=ahead y t:=fun y=>by
  apply Cd.mpr
  rw[s2a,s2a]
  refine Fo fun _=>Hc Hp (Hc ⟨fun _ q=>t3 q.1,fun _ q=> ?_⟩ Hp)
  have q:(2:Int)=3:=q.1
  omega
 have inP:∀y∈H,ahead y t=true→ ∃x∈e.1.2.1,ahead x t=true:=fun y hy q=>by
  obtain⟨x,hx,hs⟩:=h.inPast ht hy (.inr q)
  exact⟨x,hx,by rw[hs.ahead (SameC.refl t)];exact q⟩
 have outP:∀y∈H,ahead t y=true→ ∃x∈e.1.2.1,SameC x y∧ahead t x=true:=fun y hy q=>by
  obtain⟨x,hx,hs⟩:=h.inPast ht hy (.inl q)
  exact⟨x,hx,hs,by rw[(SameC.refl t).ahead hs];exact q⟩
 have ready' :∀ {p:u0c},p∈(u12 e.1 t n).2.2.1→p∈e.1.2.2.1∨p=u4r e.1 t n:=fun {x} hx=>by
  rcases Ay.mp hx with hx | hx
  ·rcases Ay.mp hx with hx | hx
   ·exact .inl (A6.mp hx).1
   ·rw[Ax] at hx;exact .inr hx
  ·exact .inl (A6.mp hx).1
 obtain⟨u1,u2,u3⟩:=d4q.mp h.uqh
 have hB:BaseR (u12 e.1 t n):=r2r hE.base tR t3 ts hk hl hn (fun x hx=>hE.apart x hx t ht) (by have:=hE.bel t (Az _ ht);have:=hE.base.next.2;omega)
 have hE' :EngR (u12 e.1 t n,s39 e t.1):=r9c hE hB (u8j e t.1) (Bv _) hgn.1 fun x hx y hy=>by
  have hy' :=(u8j e t.1).subset hy
  rcases Ay.mp hx with hx | hx
  ·exact hE.apart x (Bf _ hx) y hy'
  ·rcases ready' hx with hx | rfl
   ·exact hE.apart x (Az _ hx) y hy'
   ·exact(o1h hy).symm
 have apart:∀q∈e.1.2.2.1,q.1≠t.1:=fun q hq=>hE.apart q (Az _ hq) t ht
 refine⟨hE',h.st,h.snap,h.asc,?_,?_,h.pin,?_,h.outp,?_,h.no3,?_,?_,?_,?_,h.ww,?_,?_⟩
 ·-- uq
  have hu:=hE'.uq
  rw[Bi] at hu
  obtain⟨k1,k2,k3⟩:=d4q.mp hu
  refine d4q.mpr ⟨u1,k2,fun x hx y hy=> ?_⟩
  rcases Ay.mp hy with hy | hy
  ·rcases ready' hy with hy | rfl
   ·exact u3 x hx y (Bf _ hy)
   ·exact u3 x hx t (Az _ ht)
  ·exact u3 x hx y (Az _ ((u8j e t.1).subset hy))
 ·intro x hx
  have:=h.bel x hx
  show x.1<u2a e.1.2.2.2.2 t.1
  omega
 ·exact fun y hy o ho=>h.cov y hy o ((u8j e t.1).subset ho)
 ·-- outr
  intro p hp' y hy ha
  rcases ready' hp' with hp' | rfl
  ·exact h.outr p hp' y hy ha
  ·rw[aL] at ha
   obtain⟨z,hz,_,hz2⟩:=outP y hy ha
   show(t.2.2.2.2.2.2.1 || r2s t e.1.2.1)=true
   have:r2s t e.1.2.1=true:=Cm.mpr ⟨z,hz,by rw[(hE.base.past z hz).2.1,hz2];rfl⟩
   rw[this,Ew]
 ·-- noA
  intro x hx p hp' z hz q1 q2 l
  rcases ready' hp' with hp' | rfl
  ·exact h.noA x hx p hp' z hz q1 q2 l
  ·rw[aR] at q1;rw[aL] at q2
   obtain⟨v,hv,hv2⟩:=inP x hx q1
   obtain⟨w,hw,_,hw2⟩:=outP z hz q2
   exact hp.d1 v (Bf _ hv) w hw hv2 hw2
 ·-- noB
  intro p hp' y hy z hz q1 q2 l
  rcases ready' hp' with hp' | rfl
  ·exact h.noB p hp' y hy z hz q1 q2 l
  ·rw[aL] at q1
   obtain⟨w,hw,hs,hw2⟩:=outP y hy q1
   refine hp.d2 w (Bf _ hw) (h.outp w hw z hz ?_ (by rw[hs.cs];exact l)) hw2
   rw[hs.ahead (SameC.refl z)];exact q2
 ·-- noD
  intro p hp' q hq z hz q1 q2
  rcases ready' hp' with hp' | rfl
  ·rcases ready' hq with hq | rfl
   ·exact h.noD p hp' q hq z hz q1 q2
   ·rw[aR] at q1;rw[aL] at q2
    obtain⟨w,hw,_,hw2⟩:=outP z hz q2
    exact hp.d1 p (Az _ hp') w hw q1 hw2
  ·rcases ready' hq with hq | rfl
   ·rw[aL] at q1
    exact hp.d2 q (Az _ hq) (h.outr q hq z hz q2) q1
   ·rw[s0p] at q1;cases q1
 ·-- noE
  intro p hp' q hq r hr q1 q2
  rcases ready' hq with hq | rfl
  ·rcases ready' hp' with hp' | rfl
   ·rcases ready' hr with hr | rfl
    ·exact h.noE p hp' q hq r hr q1 q2
    ·rw[aR] at q2
     exact hp.d4 q hq p hp' q2 q1 (apart p hp')
   ·rw[aL] at q1
    rcases ready' hr with hr | rfl
    ·exact hp.e2 q hq r hr q1 q2 (apart r hr)
    ·rw[aR] at q2
     exact hp.d3 q hq q2 q1
  ·rw[aR] at q1;rw[aL] at q2
   rcases ready' hp' with hp' | rfl
   ·rcases ready' hr with hr | rfl
    ·exact hp.e1 p (Az _ hp') r hr q1 q2
    ·rw[aR,s0p] at q2;cases q2
   ·rw[aL,s0p] at q1;cases q1
 ·-- wr
  intro p hp' y hy m
  rcases ready' hp' with hp' | rfl
  ·exact h.wr p hp' y hy m
  ·show y.2.2.2.1≤t.2.2.1
   apply Hk.mp
   intro hlt
   obtain⟨w,hw,hs⟩:=h.cov y hy t ht hlt
   refine hp.nb w (Bf _ hw) (hE.apart w (Bf _ hw) t ht) (.inr ⟨(hE.base.past w hw).2.1,by rw[hs.cs];exact hlt⟩) ?_
   rw[hs.ws];exact m
 ·-- rr
  intro p hp' q hq hne m
  rcases ready' hp' with hp' | rfl
  ·rcases ready' hq with hq | rfl
   ·exact h.rr p hp' q hq hne m
   ·exact hp.nb p (Az _ hp') (apart p hp') (.inl (hE.base.ready p hp').2.1) m
  ·rcases ready' hq with hq | rfl
   ·refine hp.nb q (Az _ hq) (apart q hq) (.inl (hE.base.ready q hq).2.1) ?_
    rw[p8e];exact m
   ·exact hne rfl
theorem Ser.no {H:Hu u0c} {e:u3e} (h:Ser H e) (n:Hs):Ser H (u7p e.1 n,e.2):=by
 have sub:(u7p e.1 n).2.2.1.Sublist e.1.2.2.1:=Fg
 have m:∀ {x:u0c},x∈(u7p e.1 n).2.2.1→x∈e.1.2.2.1:=fun hx=>sub.subset hx
 have hE:=h.eng
 have hE' :EngR (u7p e.1 n,e.2):=r9c hE (r8q hE.base n) (Dm _) (Bv _) (Bv _) fun x hx y hy=>by
  rcases Ay.mp hx with hx | hx
  ·exact hE.apart x (Bf _ hx) y hy
  ·exact hE.apart x (Az _ (m hx)) y hy
 exact⟨hE',h.st,h.snap,h.asc,Ez ((Dm H).append (sub.append (Dm _))) h.uqh,h.bel,h.pin,h.cov,h.outp,fun p hp=>h.outr p (m hp),h.no3,
  fun x hx p hp=>h.noA x hx p (m hp),fun p hp=>h.noB p (m hp),fun p hp q hq=>h.noD p (m hp) q (m hq),fun p hp q hq r hr=>h.noE p (m hp) q (m hq) r (m hr),h.ww,fun p hp=>h.wr p (m hp),fun p hp q hq=>h.rr p (m hp) q (m hq)⟩
theorem j1u:∀ {u t:Hu Nat},u.Nodup→(∀x∈u,x∈t)→u.length≤t.length
 | [],t,_,_=>Cn _
 | x::u,t,hn,hs=>by
  have hn' :=List.nodup_cons.mp hn
  have hx:=hs x (by simp)
  have h1:=j1u (u:=u) (t:=t.erase x) hn'.2 (fun y hy=>(List.mem_erase_of_ne (fun e=>hn'.1 (by rw[←e];exact hy))).mpr (hs y (by simp[hy])))
  rw[List.length_erase_of_mem hx] at h1
  have h2:=List.length_pos_of_mem hx
  simp only[Bc];omega
theorem j40 {E:Type} (f:E→Int):∀(l:Hu E),l≠ [] → ∃x∈l,∀y∈l,f x≤f y
 | [],h=>absurd rfl h
 | [a],_=>⟨a,by simp,fun y hy=>by rw[Ax] at hy;subst hy;exact Bv _⟩
 | a::b::l,_=>by
  obtain⟨x,hx,h⟩:=j40 f (b::l) (by simp)
  by_cases q:f a≤f x
  ·refine⟨a,by simp,fun y hy=> ?_⟩
   rcases A8.mp hy with rfl | hy
   ·exact Bv _
   ·have:=h y hy;omega
  ·refine⟨x,Bm _ hx,fun y hy=> ?_⟩
   rcases A8.mp hy with rfl | hy
   ·omega
   ·exact h y hy
theorem j7j {a b:u0c} :t1w a b=true↔a.2.1=3∧b.2.1=3∧a.1≠b.1∧((a.2.2.2.1≤b.2.2.1∧t2m b.2.2.2.2.1 a.2.2.2.2.2.1=true)∨(a.2.2.2.1<b.2.2.2.1∧s81 a.2.2.2.2.2.1 b.2.2.2.2.2.1=true)∨(b.2.2.2.1 >a.2.2.1∧t2m a.2.2.2.2.1 b.2.2.2.2.2.1=true)):=by
 unfold t1w
 simp only[Ai,Cr,Ar,Bj,Bu]
 constructor
 ·intro h
  simp only[and_assoc] at h
  obtain⟨h1,h2,h3,h4⟩:=h
  exact⟨h1,h2,h3,by rcases h4 with (h4 | h4) | h4<;>simp_all⟩
 ·rintro⟨h1,h2,h3,h4⟩
  simp only[and_assoc]
  exact⟨h1,h2,h3,by rcases h4 with h4 | h4 | h4<;>simp_all⟩
theorem Ser.free {H:Hu u0c} {e:u3e} (h:Ser H e) (L:Hu u0c) (hL:∀x∈L,x∈H) (hne:L≠ []):∃x∈L,∀y∈L,y≠x→t1w y x=false:=by
 apply Ed
 intro hc
 have hc:∀x∈L,∃y∈L,y≠x∧t1w y x=true:=fun x hx=>by
  apply Ed
  intro q
  exact hc ⟨x,hx,fun y hy hn=>by
   cases hb:t1w y x with
   | false=>rfl
   | true=>exact absurd ⟨y,hy,hn,hb⟩ q⟩
 have csu:∀x∈H,∀y∈H,x.2.2.2.1=y.2.2.2.1→x=y:=by
  have key:∀(l:Hu u0c),l.Pairwise (fun x y=>x.2.2.2.1<y.2.2.2.1)→ ∀x∈l,∀y∈l,x.2.2.2.1=y.2.2.2.1→x=y:=by
   intro l
   induction l with
   | nil=>intro _ x hx;cases hx
   | cons z l ih=>
    intro hp x hx y hy e
    have hp' :=Ch.mp hp
    rcases A8.mp hx with rfl | hx' <;>rcases A8.mp hy with rfl | hy'
    ·rfl
    ·have:=hp'.1 y hy';omega
    ·have:=hp'.1 x hx';omega
    ·exact ih hp'.2 x hx' y hy' e
  exact key H h.asc
 obtain⟨z,hz,hmin⟩:=j40 (fun x:u0c=>x.2.2.2.1) L hne
 have hmin:∀y∈L,z.2.2.2.1≤y.2.2.2.1:=hmin
 obtain⟨y,hy,hyz,b1⟩:=hc z hz
 obtain⟨x,hx,hxy,b2⟩:=hc y hy
 obtain⟨sy,sz,iyz,c1⟩:=j7j.mp b1
 obtain⟨sx,_,ixy,c2⟩:=j7j.mp b2
 have zs:=h.snap z (hL z hz)
 have ys:=h.snap y (hL y hy)
 have xs:=h.snap x (hL x hx)
 have m1:=hmin y hy
 have m2:=hmin x hx
 have lt1:z.2.2.2.1<y.2.2.2.1:=by
  rcases Int.lt_or_eq_of_le m1 with q | q
  ·exact q
  ·exact absurd (csu y (hL y hy) z (hL z hz) q.symm) hyz
 have r1:z.2.2.2.1 >y.2.2.1∧t2m y.2.2.2.2.1 z.2.2.2.2.2.1=true:=by
  rcases c1 with q | q | q
  ·omega
  ·omega
  ·exact q
 have r2:y.2.2.2.1 >x.2.2.1∧t2m x.2.2.2.2.1 y.2.2.2.2.2.1=true:=by
  rcases c2 with q | q | q
  ·omega
  ·have:=h.ww x (hL x hx) y (hL y hy) q.1 q.2
   omega
  ·exact q
 refine h.no3 x (hL x hx) y (hL y hy) z (hL z hz) (s2a.mpr ⟨ixy,fun q=> ?_,fun q=> ?_,r2.2⟩) (s2a.mpr ⟨iyz,fun q=> ?_,fun q=> ?_,r1.2⟩) lt1 m2
 ·have:=q.2;omega
 ·have:=q.2;omega
 ·have:=q.2;omega
 ·have:=q.2;omega
theorem Ser.order {H:Hu u0c} {e:u3e} (h:Ser H e):∃u,o33 H=some u:=by
 have key:∀(k:Nat) (t:Hu Nat),t.length+k=H.length→(∀i∈t,i<H.length)→t.Nodup→ ∃u,o04 H k t=some u:=by
  intro k
  induction k with
  | zero=>intro t _ _ _;exact⟨t,rfl⟩
  | succ k ih=>
   intro t hk hin hnd
   have hleft:((List.range H.length).filter fun i=> !t.contains i)≠ [] :=by
    intro q
    have all:∀i,i<H.length→i∈t:=fun i hi=>by
     have:=List.filter_eq_nil_iff.mp q i (Bq.mpr hi)
     simpa using this
    have:(List.range H.length).length≤t.length:=j1u (List.nodup_range) (fun i hi=>all i (Bq.mp hi))
    rw[List.length_range] at this
    omega
   obtain⟨x,hx,hf⟩:=h.free (((List.range H.length).filter fun i=> !t.contains i).map fun i=>rdL u0q H i) (fun x hx=>by
    obtain⟨i,hi,rfl⟩:=Bx.mp hx
    have:=Bq.mp (A6.mp hi).1
    rw[y8k (t:=u0q) this]
    exact Ag this) (by simpa using hleft)
   obtain⟨i,hi,rfl⟩:=Bx.mp hx
   obtain⟨hi1,hi2⟩:=A6.mp hi
   have hi1:=Bq.mp hi1
   have hok:q3r H t i=true:=by
    unfold q3r
    rw[Ai,hi2,Bj]
    refine⟨rfl,Ct.mpr fun j hj=> ?_⟩
    have hj:=Bq.mp hj
    simp only[Ai,Bj,Bu,not_and]
    intro hne hcj hb
    have hb:t1w (rdL u0q H j) (rdL u0q H i)=true:=hb
    have hmem:rdL u0q H j∈((List.range H.length).filter fun i=> !t.contains i).map fun i=>rdL u0q H i:=Bx.mpr ⟨j,A6.mpr ⟨Bq.mpr hj,by rw[hcj];rfl⟩,rfl⟩
    have hne' :rdL u0q H j≠rdL u0q H i:=fun e=>by
     rw[e] at hb
     exact absurd rfl (j7j.mp hb).2.2.1
    rw[hf _ hmem hne'] at hb
    cases hb
   have hpick:∃i,q0s H t=some i:=by
    unfold q0s
    cases q:(List.range H.length).find? (q3r H t) with
    | some i=>exact⟨i,rfl⟩
    | none=>
     have:=List.find?_eq_none.mp q i (Bq.mpr hi1)
     rw[hok] at this
     exact absurd rfl this
   obtain⟨j,hj⟩:=hpick
   have hj2:=Gz hj
   have hj3:=Bq.mp (List.mem_of_find?_eq_some hj)
   have hjt:j ∉ t:=by
    unfold q3r at hj2
    rw[Ai,Bj] at hj2
    simpa using hj2.1
   simp only[o04,hj]
   refine ih (t++ [j]) (by simp;omega) (fun i hi=> ?_) ?_
   ·rcases Ay.mp hi with hi | hi
    ·exact hin i hi
    ·rw[Ax] at hi;subst hi;exact hj3
   ·rw[Gp]
    refine⟨hnd,by simp,fun a ha b hb e=> ?_⟩
    rw[Ax] at hb
    subst hb;subst e
    exact hjt ha
 exact key H.length [] (by simp) (fun i hi=>by cases hi) List.nodup_nil
end
section
theorem u35 (l:Hu Int):(y7g l).size=l.length:=by
 simp[y7g,ByteArray.size]
theorem o6v {s:Hs} {i:Nat} (h:i<s.size):s.data.toList.getD i 0=s.data.toList[i]'(by simpa using h):=by
 rw[A5,A4 (by simpa using h)]
 rfl
theorem j8y (n m:Nat):Int.tdiv (n:Int) (m:Int)=((n / m:Nat):Int):=(Int.ofNat_tdiv n m).symm
theorem o85 (n m:Nat):Int.tmod (n:Int) (m:Int)=((n % m:Nat):Int):=(Int.ofNat_tmod n m).symm
theorem j4i {n:Nat} (h:n<256):IntKind.u8.wrap (n:Int)=(n:Int):=by
 simp[IntKind.wrap,IntKind.bits,IntKind.signed]
 omega
end
section
abbrev u0l:=Hu Hs×Hu (Int×Hs)
theorem j0n:(⟨#[]⟩:Hs)=emp:=rfl
def r6u (a b c:Int):Bool:=decide (b≤a)&&decide (a≤c)
theorem s2z (a b c:Int):u1q (a,b,c)=some (r6u a b c):=by
 rw[o0b];unfold q5r r6u
 simp only[ge_iff_le]
 cases decide (b≤a)<;>rfl
theorem s1q (a b c:Int):u0r (a,b,c)=some (r6u a b c):=by
 rw[q93];unfold r8e r6u
 simp only[ge_iff_le]
 cases decide (b≤a)<;>rfl
theorem t9t {d:u0l} :d.1.length≤d1h.wt d:=by simp only[Ty.wt];omega
theorem s2f {d:u0l} :d.2.length≤d1h.wt d:=by simp only[Ty.wt];omega
theorem j38 {d:u0l} {s:Hs} (h:s∈d.1):s.size≤d1h.wt d:=by
 have h1:d1h.wt d=(d.1.length+(d.1.map Ty.str.wt).sum)+(d.2.length+(d.2.map o4y.wt).sum):=rfl
 have h2:=p83 (f:=Ty.str.wt) h
 have h3:Ty.str.wt s=s.size:=rfl
 omega
theorem j31 {d:u0l} {p:Int×Hs} (h:p∈d.2):p.2.size≤d1h.wt d:=by
 have h1:d1h.wt d=(d.1.length+(d.1.map Ty.str.wt).sum)+(d.2.length+(d.2.map o4y.wt).sum):=rfl
 have h2:=p83 (f:=o4y.wt) h
 have h3:o4y.wt p=0+p.2.size:=rfl
 omega
def t2k (c:Hu (Int×Hs)) (at_:Int):Ht Hs:=c.foldl (fun t p=>if p.1=at_ then some p.2 else t) none
def u0k (d:u0l) (at_:Int):Hs×Bool:=if 0≤at_∧at_<d.1.length then((t2k d.2 at_).getD (rdL Ty.str d.1 at_.toNat),true) else(emp,false)
theorem r9b (c:Hu (Int×Hs)) (p:Int×Hs) (at_:Int):t2k (c++ [p]) at_=if p.1=at_ then some p.2 else t2k c at_:=by
 simp[t2k,List.foldl_append]
theorem q4p {c:Hu (Int×Hs)} {at_:Int} {s:Hs} (h:t2k c at_=some s):∃p∈c,p.2=s:=by
 have key:∀(c:Hu (Int×Hs)) (z:Ht Hs),c.foldl (fun t p=>if p.1=at_ then some p.2 else t) z=some s→z=some s∨ ∃p∈c,p.2=s:=by
  intro c
  induction c with
  | nil=>intro z h;exact .inl h
  | cons p c ih=>
   intro z h
   rw[Bs] at h
   rcases ih _ h with h | ⟨q,hq,h⟩
   ·split at h
    ·exact .inr ⟨p,by simp,by simpa using h⟩
    ·exact .inl h
   ·exact .inr ⟨q,by simp[hq],h⟩
 rcases key c none h with h | h
 ·cases h
 ·exact h
theorem r9o (d:u0l) (at_:Int):(u0k d at_).1.size≤d1h.wt d:=by
 unfold u0k
 split
 ·rename_i h
  cases hl:t2k d.2 at_ with
  | none=>
   simp only[Eo]
   have hi:at_.toNat<d.1.length:=by omega
   rw[y8k (t:=Ty.str) hi]
   exact j38 (Ag hi)
  | some s=>
   simp only[Eb]
   obtain⟨p,hp,rfl⟩:=q4p hl
   exact j31 hp
 ·show 0≤_;omega
theorem o8m (c:Hu (Int×Hs)) (at_:Int) (z:Hs):c.foldl (fun t p=>if p.1=at_ then p.2 else t) z=(t2k c at_).getD z:=by
 have key:∀(c:Hu (Int×Hs)) (o:Ht Hs) (z:Hs),c.foldl (fun t p=>if p.1=at_ then p.2 else t) (o.getD z)=(c.foldl (fun t p=>if p.1=at_ then some p.2 else t) o).getD z:=by
  intro c
  induction c with
  | nil=>intro o z;rfl
  | cons p c ih=>
   intro o z
   simp only[Bs]
   by_cases h:p.1=at_
   ·simp only[h,Bl];exact ih (some p.2) z
   ·simp only[h,Bk];exact ih o z
 exact key c none z
theorem o63 (d:u0l) (at_:Int) (hd:d.1.length≤u0m):r6u at_ 0 (IntKind.i64.wrap ((d.1.length:Int) - 1))=decide (0≤at_∧at_<d.1.length):=by
 unfold u0m at hd
 rw[y4y (by omega) (by omega)]
 unfold r6u
 by_cases h:0≤at_∧at_<d.1.length
 ·rw[Bb h,Bb h.1,Bb (by omega)];rfl
 ·rw[A7 h]
  by_cases h0:0≤at_
  ·rw[Bb h0,A7 (by omega)];rfl
  ·rw[A7 h0];rfl
theorem r63 (d:u0l) (at_:Int) (hd:d1h.wt d≤u0m):t5l (d,at_)=some (u0k d at_):=by
 have h1:d.1.length≤u0m:=A9 t9t hd
 have h2:d.2.length≤u0m:=A9 s2f hd
 rw[q8b];unfold s9s
 simp only[s2z,o63 d at_ h1,zOb]
 unfold u0k
 unfold u0m at h1 h2
 by_cases h:0≤at_∧at_<d.1.length
 ·have hg:y4q at_ d.1.length=true:=by simp[y4q,h]
  have L:=u8w t0l d.2 (fun t i=>(at_,t,d.2,(d.2.length:Int),i)) (fun t p=>if p.1=at_ then p.2 else t) (fun t=> .inl t) (fun _ _=>True)
   (fun a _=>by rw[s6s];simp only[t0c,u0b,Am,Ah,Aa])
   (fun i hi a _=>⟨trivial,by
    rw[s6s];simp only[t0c,u0b,hi,Ae,Ad,y7t hi,zTn,y8k (t:=o4y) hi]
    rw[y7l (by omega)]
    by_cases hp:(d.2[i]).1=at_
    ·simp only[hp,Ae,Ad,Bl]
    ·simp only[hp,Ah,Aa,Bk]⟩) (rdL Ty.str d.1 at_.toNat) trivial
  simp only[h,and_self,Ae,Ap,Aa,hg,Ad,L,zOb,Bl,o8m]
 ·simp only[h,Ah,Bh,Ad,Bk];rfl
theorem s46 (d:u0l) (at_:Int) (hd:d1h.wt d≤u0m):u7c (d,at_)=some (u0k d at_):=by
 have h1:d.1.length≤u0m:=A9 t9t hd
 have h2:d.2.length≤u0m:=A9 s2f hd
 rw[q8l];unfold s92
 simp only[s1q,o63 d at_ h1,zOb]
 unfold u0k
 unfold u0m at h1 h2
 by_cases h:0≤at_∧at_<d.1.length
 ·have hg:y4q at_ d.1.length=true:=by simp[y4q,h]
  have L:∀n:Nat,n≤d.2.length→t0o (at_,d,(n:Int) - 1)=some (match t2k (d.2.take n) at_ with
   | some s=> .inr (s,true)
   | none=> .inl (at_,d)):=by
   intro n
   induction n with
   | zero=>
    intro _
    rw[s6x];simp only[t0h]
    rfl
   | succ n ih=>
    intro hn
    have hlt:n<d.2.length:=by omega
    rw[s6x];simp only[t0h]
    have e0:((n+1:Nat):Int) - 1=(n:Int):=by simp
    have e1:decide ((n:Int)≥0)=true:=by simp
    simp only[e0,e1,Ad,y7t hlt,zTn,y8k (t:=o4y) hlt]
    rw[B9 hlt,r9b]
    by_cases hp:(d.2[n]).1=at_
    ·simp only[hp,Ae,Ad,Bl]
    ·simp only[hp,Ah,Aa,Bk]
     rw[y4y (by omega) (by omega)]
     exact ih (by omega)
  have L:=L d.2.length (Au _)
  rw[Cq] at L
  have wl:IntKind.i64.wrap ((d.2.length:Int) - 1)=(d.2.length:Int) - 1:=y4y (by omega) (by omega)
  simp only[h,and_self,Ae,Ap,Aa,Bl]
  rw[wl,L]
  cases t2k d.2 at_ with
  | none=>simp only[zOb,hg,Ad,Eo]
  | some s=>rfl
 ·simp only[h,Ah,Bh,Ad,Bk];rfl
def q07 (d:u0l) (from_:Int):Nat→Nat→Hs→Hs×Bool
 | 0,_,acc=>(acc,true)
 | m+1,i,acc=>if(u0k d (from_+(i:Int))).2 then q07 d from_ m (i+1) (acc++(u0k d (from_+(i:Int))).1) else(emp,false)
def u8t (d:u0l) (from_ n:Int):Hs×Bool:=if 0≤n∧n≤100 then q07 d from_ n.toNat 0 emp else(emp,false)
theorem u7w (s:Hs):(z7t s).length=s.size:=by simp[z7t]
theorem t8w (a b:Hs):z7t (a++b)=z7t a++z7t b:=by simp[z7t,Ft]
theorem t8l (s:Hs):y7g (z7t s)=s:=by
 cases s with
 | mk d=>
  unfold y7g z7t
  simp only[List.map_map]
  have:(d.toList.map ((fun n=>UInt8.ofNat n.toNat) ∘fun b=>(b.toNat:Int)))=d.toList:=by
   conv=>rhs;rw[←List.map_id d.toList]
   apply Ff
   intro b _
   simp
  rw[this]
theorem s80 {a b c:Int} :r6u a b c=decide (b≤a∧a≤c):=by
 unfold r6u
 by_cases h:b≤a<;>by_cases g:a≤c<;>simp[h,g]
theorem p2i (d:u0l) (from_ n:Int) (hd:d1h.wt d≤1073741824) (h1: -4611686018427387904≤from_) (h2:from_≤4611686018427387904):s0v (d,from_,n)=some (u8t d from_ n):=by
 have hb:d1h.wt d≤u0m:=by unfold u0m;omega
 rw[q8e];unfold s9v u8t
 simp only[s2z,s80,zOb]
 by_cases h:0≤n∧n≤100
 ·obtain⟨m,rfl⟩:∃m:Nat,n=m:=⟨n.toNat,by omega⟩
  have L:=s9o (fun x=>(t0m x).bind fun r=>match r with
   | .inl o=>some (y7g o,true)
   | .inr z=>some z) m (fun(a:Hs) i=>(from_,(m:Int),d,z7t a,i)) (fun i a=>q07 d from_ (m - i) i a) (fun i a=>a.size≤i*1073741824)
   (fun a _=>by
    rw[s6t];simp only[t0d,u0b,Am,Ah,Aa,zOb,t8l,Dw,q07])
   (fun i a hi ha=>by
    have e:m - i=(m - (i+1))+1:=by omega
    have hs:=r9o d (from_+(i:Int))
    rw[s6t];simp only[t0d,u0b,hi,Ae,Ad]
    rw[y4y (n:=from_+(i:Int)) (by omega) (by omega),r63 d _ hb,e]
    simp only[zOb,q07]
    cases hr:(u0k d (from_+(i:Int))).2 with
    | false=>left;rfl
    | true=>
     right
     refine⟨a++(u0k d (from_+(i:Int))).1,by rw[Af];omega,by simp,?_⟩
     simp only[Ap,Aa,u7w,u0x (show a.size+(u0k d (from_+(i:Int))).1.size≤1099511627776 by omega),Ad,t8w]
     rw[y7l (by omega)]) 0 emp (by omega) (by show 0≤_;omega)
  rw[Bb h,Al h,Ap,Aa]
  exact L
 ·rw[A7 h,Ao h];rfl
theorem p2j (d:u0l) (from_ n:Int) (hd:d1h.wt d≤1073741824) (h1: -4611686018427387904≤from_) (h2:from_≤4611686018427387904):s00 (d,from_,n)=some (u8t d from_ n):=by
 have hb:d1h.wt d≤u0m:=by unfold u0m;omega
 rw[q8n];unfold s94 u8t
 simp only[s1q,s80,zOb]
 by_cases h:0≤n∧n≤100
 ·obtain⟨m,rfl⟩:∃m:Nat,n=m:=⟨n.toNat,by omega⟩
  have L:=s9o (fun x=>(t0p x).bind fun r=>match r with
   | .inl o=>some (o,true)
   | .inr z=>some z) m (fun(a:Hs) i=>(from_,(m:Int),d,a,i)) (fun i a=>q07 d from_ (m - i) i a) (fun i a=>a.size≤i*1073741824∧(i=0∨0≤from_))
   (fun a _=>by
    rw[s6y];simp only[t0i,u0b,Am,Ah,Aa,zOb,Dw,q07])
   (fun i a hi ha=>by
    have e:m - i=(m - (i+1))+1:=by omega
    have hs:=r9o d (from_+(i:Int))
    rw[s6y];simp only[t0i,u0b,hi,Ae,Ad]
    rw[e]
    simp only[q07]
    by_cases hf:from_<0∨from_ >(d.1.length:Int)
    ·left
     have hno:(u0k d (from_+(i:Int))).2=false:=by
      unfold u0k
      rw[Ao (by omega)]
     rw[hno]
     by_cases hf1:from_<0
     ·rw[Bb hf1];rfl
     ·have hf2:from_ >(d.1.length:Int):=by omega
      rw[A7 hf1,Bb hf2];rfl
    ·have hf1: ¬from_<0:=by omega
     have hf2: ¬from_ >(d.1.length:Int):=by omega
     rw[A7 hf1,A7 hf2]
     simp only[Aa,zOb]
     rw[y4y (n:=from_+(i:Int)) (by omega) (by omega),s46 d _ hb]
     simp only[zOb]
     cases hr:(u0k d (from_+(i:Int))).2 with
     | false=>left;rfl
     | true=>
      right
      refine⟨a++(u0k d (from_+(i:Int))).1,⟨by rw[Af];omega,by omega⟩,by simp,?_⟩
      simp only[Ap,Aa,Bb (show a.size+(u0k d (from_+(i:Int))).1.size≤140737488355328 by omega),Ad]
      rw[y7l (by omega)]) 0 emp (by omega) ⟨by show 0≤_;omega, .inl rfl⟩
  rw[Bb h,Al h,Ap,Aa]
  exact L
 ·rw[A7 h,Ao h];rfl
end
section
def s4b (n:Nat):Hu Int:=if h:n<128 then[(n:Int)] else((n % 128+128:Nat):Int)::s4b (n / 128)
termination_by n
decreasing_by omega
theorem r9y {n:Nat} (h:n<128):s4b n= [(n:Int)] :=by rw[s4b,dif_pos h]
theorem q82 {n:Nat} (h: ¬n<128):s4b n=((n % 128+128:Nat):Int)::s4b (n / 128):=by rw[s4b,dif_neg h]
theorem o7p (n:Nat):(s4b n).length≤n+1:=by
 induction n using Nat.strongRecOn with
 | _ n ih=>
  by_cases h:n<128
  ·rw[r9y h];simp
  ·rw[q82 h]
   have:=ih (n / 128) (by omega)
   simp only[Bc];omega
theorem o7q {S:Type} {W:Int×Hu Int→Ht ((Int×Hu Int)⊕S)}
 (hW:∀x,W x=(bif (decide (x.1 >(127:Int))) then(bif (Nat.ble (x.2.length+([(IntKind.u8.wrap (IntKind.i64.wrap ((Int.tmod x.1 (128:Int))+(128:Int))))] :Hu Int).length) z7w) then
  (W ((IntKind.i64.wrap (Int.tdiv x.1 (128:Int))),(x.2++([(IntKind.u8.wrap (IntKind.i64.wrap ((Int.tmod x.1 (128:Int))+(128:Int))))] :Hu Int)))) else none) else(some (.inl x)))):
 ∀(n:Nat) (acc:Hu Int),acc.length+n≤1000000000000→ ∃m:Nat,∃acc' :Hu Int,W ((n:Int),acc)=some (.inl ((m:Int),acc'))∧m<128∧acc' ++ [(m:Int)] =acc++s4b n∧acc'.length≤acc.length+n:=by
 intro n
 induction n using Nat.strongRecOn with
 | _ n ih=>
  intro acc hn
  rw[hW]
  by_cases h:n<128
  ·have:decide ((n:Int) >(127:Int))=false:=by simp;omega
   simp only[this,Aa]
   exact⟨n,acc,rfl,h,by rw[r9y h],by omega⟩
  ·have h1:decide ((n:Int) >(127:Int))=true:=by simp;omega
   have h2:Int.tmod (n:Int) (128:Int)=((n % 128:Nat):Int):=o85 n 128
   have h3:Int.tdiv (n:Int) (128:Int)=((n / 128:Nat):Int):=j8y n 128
   have h4:IntKind.u8.wrap (IntKind.i64.wrap (((n % 128:Nat):Int)+(128:Int)))=((n % 128+128:Nat):Int):=by
    rw[y4y (by omega) (by omega)]
    have:((n % 128:Nat):Int)+128=((n % 128+128:Nat):Int):=by simp
    rw[this,j4i (by omega)]
   simp only[h1,h2,h3,h4,Ad,Aw,u0x (show acc.length+1≤1099511627776 by omega)]
   rw[y8b (by omega)]
   obtain⟨m,acc',e1,e2,e3,e4⟩:=ih (n / 128) (by omega) (acc++ [((n % 128+128:Nat):Int)]) (by simp;omega)
   refine⟨m,acc',e1,e2,?_,?_⟩
   ·rw[e3,q82 h,Bi];rfl
   ·have:(acc++ [((n % 128+128:Nat):Int)]).length=acc.length+1:=by simp
    omega
theorem p4f (n:Nat) (hn:n≤100000000000):u13 (n:Int)=some (y7g (s4b n)):=by
 rw[o0s];unfold q58
 obtain⟨m,acc',e1,e2,e3,e4⟩:=o7q (W:=t9r) (fun x=>p5g x) n [] (by simp;omega)
 have e4:acc'.length≤n:=by simpa using e4
 simp only[e1,zOb,Aw,u0x (show acc'.length+1≤1099511627776 by omega),Ad]
 rw[j4i (by omega),e3];rfl
theorem r69 (n:Int):t2e n=some (if 0≤n∧n≤1000000000 then(y7g (s4b n.toNat),true) else(emp,false)):=by
 rw[p6d];unfold q1w
 simp only[s2z,s80,zOb]
 by_cases h:0≤n∧n≤1000000000
 ·obtain⟨m,rfl⟩:∃m:Nat,n=m:=⟨n.toNat,by omega⟩
  obtain⟨k,acc',e1,e2,e3,e4⟩:=o7q (W:=t7y) (fun x=>p1u x) m [] (by simp;omega)
  have e4:acc'.length≤m:=by simpa using e4
  rw[Bb h,Al h]
  simp only[e1,zOb,Ap,Aa,Aw,u0x (show acc'.length+1≤1099511627776 by omega),Ad]
  rw[j4i (by omega),e3];rfl
 ·rw[A7 h,Ao h];rfl
def r3e:Nat→Nat→Nat→Hu UInt8→Ht (Nat×Nat)
 | 0,_,_,_=>none
 | _+1,_,_, [] =>none
 | f+1,i,n,b::l=>
  if b.toNat<128 then(if n+b.toNat % 128*128^i≤1000000000∧(s4b (n+b.toNat % 128*128^i)).length=i+1 then some (n+b.toNat % 128*128^i,i+1) else none)
  else r3e f (i+1) (n+b.toNat % 128*128^i) l
def q7m (at_:Int) (r:Ht (Nat×Nat)):Int×Int×Bool:=match r with
 | some (n,k)=>((n:Int),at_+(k:Int),true)
 | none=>(0,0,false)
def u0t (t:Hs) (at_:Int):Int×Int×Bool:=if 0≤at_∧at_≤t.size then q7m at_ (r3e 5 0 0 (t.data.toList.drop at_.toNat)) else(0,0,false)
theorem o1l:∀(f i n:Nat) (l:Hu UInt8) (v k:Nat),r3e f i n l=some (v,k)→v≤1000000000∧k≤i+l.length∧i<k
 | 0,_,_,_,_,_,h=>by cases h
 | _+1,_,_, [],_,_,h=>by cases h
 | f+1,i,n,b::l,v,k,h=>by
  simp only[r3e] at h
  split at h
  ·split at h
   ·rename_i h2
    simp only[Ac,Ak] at h
    obtain⟨rfl,rfl⟩:=h
    exact⟨h2.1,by simp,by omega⟩
   ·cases h
  ·have:=o1l f (i+1) _ l v k h
   simp only[Bc]
   omega
theorem t81 {t:Hs} {at_:Int} (h:(u0t t at_).2.2=true):0≤(u0t t at_).1∧(u0t t at_).1≤1000000000∧0≤at_∧at_<(u0t t at_).2.1∧(u0t t at_).2.1≤t.size:=by
 unfold u0t at h ⊢
 split at h
 ·rename_i hc
  rw[Al hc]
  cases hv:r3e 5 0 0 (t.data.toList.drop at_.toNat) with
  | none=>rw[hv] at h;cases h
  | some r=>
   obtain⟨v,k⟩:=r
   have:=o1l 5 0 0 _ v k hv
   have hl:(t.data.toList.drop at_.toNat).length=t.size - at_.toNat:=by simp
   simp only[q7m]
   omega
 ·cases h
theorem j8t (i:Nat) (h:i<5):(2:Int)^(min (IntKind.i64.wrap (7*(i:Int))).toNat IntKind.i64.bits)=((128^i:Nat):Int):=by
 rcases i with _ | _ | _ | _ | _ | i
 all_goals first | rfl | omega
theorem j43 (i:Nat) (h:i≤5):128^i≤34359738368:=by
 rcases i with _ | _ | _ | _ | _ | _ | i
 all_goals first | decide | omega
theorem q9c (t:Hs) (at_:Int) (ht:t.size≤u0m):s1v (t,at_)=some (u0t t at_):=by
 unfold u0m at ht
 rw[p55];unfold q1o u0t
 simp only[s2z,s80,zOb]
 by_cases h:0≤at_∧at_≤t.size
 ·obtain⟨p,rfl⟩:∃p:Nat,at_=p:=⟨at_.toNat,by omega⟩
  have hp:p≤t.size:=by omega
  rw[Bb h,Al h]
  have L:∀(f i n:Nat),i+f=5→n<128^i→p+i≤t.size→((t7u (t,(p:Int),(n:Int),(i:Int))).bind fun r=>match r with
   | .inl o=>some ((0:Int),(0:Int),false)
   | .inr z=>some z)=some (q7m p (r3e f i n (t.data.toList.drop (p+i)))):=by
   intro f
   induction f with
   | zero=>
    intro i n hi hn hpi
    have:i=5:=by omega
    subst this
    rw[r5v];simp only[t62]
    rfl
   | succ f ih=>
    intro i n hi hn hpi
    have hi5:i<5:=by omega
    have hpw:=j43 i (by omega)
    rw[r5v];simp only[t62]
    have w1:IntKind.i64.wrap ((p:Int)+(i:Int))=((p+i:Nat):Int):=by rw[y4y (by omega) (by omega)];simp
    have e1:decide ((i:Int)<(5:Int))=true:=by simp;omega
    by_cases hlt:p+i<t.size
    ·have hd:t.data.toList.drop (p+i)=(t.data.toList[p+i]'(by simpa using hlt))::t.data.toList.drop (p+i+1):=Ce (by simpa using hlt)
     have hb:(t.data.toList[p+i]'(by simpa using hlt)).toNat<256:=Fw _
     rw[hd]
     generalize hc:(t.data.toList[p+i]'(by simpa using hlt))=c at hb
     have e2:decide (((p+i:Nat):Int)<(t.size:Int))=true:=by simp;omega
     have e3:decide (0≤IntKind.i64.wrap (7*(i:Int)))=true:=by rw[y4y (by omega) (by omega)];simp;omega
     have t2:Int.tmod ((c.toNat:Nat):Int) (128:Int)=((c.toNat % 128:Nat):Int):=o85 _ 128
     have hm:c.toNat % 128*128^i≤127*34359738368:=Ei (by omega) hpw
     have w2:IntKind.i64.wrap (((c.toNat % 128:Nat):Int)*((128^i:Nat):Int))=((c.toNat % 128*128^i:Nat):Int):=by
      rw[←Int.natCast_mul];exact y8b (by omega)
     have w3:IntKind.i64.wrap ((n:Int)+((c.toNat % 128*128^i:Nat):Int))=((n+c.toNat % 128*128^i:Nat):Int):=by
      rw[←Int.natCast_add];exact y8b (by omega)
     simp only[e1,Ad,zOb,w1,e2,y7t hlt,e3,zTn,o6v hlt,hc,y8b (show c.toNat≤4611686018427387904 by omega),t2,j8t i hi5,w2,w3,r3e]
     by_cases hc1:c.toNat<128
     ·have e4:decide (((c.toNat:Nat):Int)<(128:Int))=true:=by simp;omega
      simp only[e4,Ad,Al hc1,r69,zOb]
      have wi:IntKind.i64.wrap ((i:Int)+1)=((i+1:Nat):Int):=y7l (by omega)
      by_cases hv:n+c.toNat % 128*128^i≤1000000000
      ·rw[Al (show(0:Int)≤((n+c.toNat % 128*128^i:Nat):Int)∧((n+c.toNat % 128*128^i:Nat):Int)≤1000000000 by omega)]
       simp only[Ap,Aa,zTn,u35,wi,zOb]
       by_cases hl:(s4b (n+c.toNat % 128*128^i)).length=i+1
       ·rw[Al ⟨hv,hl⟩,hl]
        simp only[Ae,Ap,Aa,zOb,q7m]
        rw[y4y (by omega) (by omega)]
        simp[Int.add_assoc]
       ·rw[Ao (fun hh=>hl hh.2)]
        rw[A7 (show ¬(((s4b (n+c.toNat % 128*128^i)).length:Nat):Int)=((i+1:Nat):Int) by omega)]
        rfl
      ·rw[Ao (show ¬((0:Int)≤((n+c.toNat % 128*128^i:Nat):Int)∧((n+c.toNat % 128*128^i:Nat):Int)≤1000000000) by omega),Ao (fun hh=>hv hh.1)]
       rfl
     ·have e4:decide (((c.toNat:Nat):Int)<(128:Int))=false:=by simp;omega
      simp only[e4,Aa,Ao hc1]
      rw[y7l (by omega)]
      have:=ih (i+1) (n+c.toNat % 128*128^i) (by omega) (by
       have:128^(i+1)=128^i*128:=Gr 128 i
       have h2:c.toNat % 128*128^i≤127*128^i:=Ei (by omega) (Au _)
       omega) (by omega)
      exact this
    ·have e2:decide (((p+i:Nat):Int)<(t.size:Int))=false:=by simp;omega
     have hd:t.data.toList.drop (p+i)= [] :=Dp (by simp;omega)
     rw[hd]
     simp only[e1,Ad,w1,e2,zOb,Aa,r3e]
     rfl
  exact L 5 0 0 rfl (by decide) (by omega)
 ·rw[A7 h,Ao h];rfl
def p8z:Hu UInt8→Nat
 | [] =>0
 | b::l=>b.toNat % 128+128*p8z l
theorem j15 (l:Hu UInt8) (b:UInt8):p8z (l++ [b])=p8z l+b.toNat % 128*128^l.length:=by
 induction l with
 | nil=>simp[p8z]
 | cons x l ih=>
  simp only[Ef,p8z,ih,Bc,Gr]
  rw[Nat.mul_add]
  have:128*(b.toNat % 128*128^l.length)=b.toNat % 128*(128^l.length*128):=by
   rw[Fk 128,Nat.mul_assoc]
  omega
theorem j6v (l:Hu UInt8) (b:UInt8) (hl:∀x∈l,¬x.toNat<128) (hb:b.toNat<128) (h:(s4b (p8z (l++ [b]))).length=l.length+1):s4b (p8z (l++ [b]))=(l++ [b]).map fun x=>(x.toNat:Int):=by
 induction l with
 | nil=>
  have:p8z ([] ++ [b])=b.toNat:=by simp[p8z];omega
  rw[this,r9y hb];rfl
 | cons x l ih=>
  have hx:x.toNat<256:=Fw x
  have hx2:=hl x (by simp)
  simp only[Ef,p8z] at h ⊢
  by_cases hs:x.toNat % 128+128*p8z (l++ [b])<128
  ·rw[r9y hs] at h
   simp at h
  ·rw[q82 hs] at h ⊢
   have e1:(x.toNat % 128+128*p8z (l++ [b])) / 128=p8z (l++ [b]):=by omega
   have e2:(x.toNat % 128+128*p8z (l++ [b])) % 128+128=x.toNat:=by omega
   rw[e1] at h ⊢
   rw[e2]
   simp only[Bc,Nat.add_right_cancel_iff] at h
   rw[ih (fun y hy=>hl y (by simp[hy])) h]
   rfl
theorem j4a (l:Hu UInt8):y7g (l.map fun x=>(x.toNat:Int))=⟨l.toArray⟩:=by
 unfold y7g
 simp only[List.map_map]
 have:(l.map ((fun n=>UInt8.ofNat n.toNat) ∘fun b=>(b.toNat:Int)))=l:=by
  conv=>rhs;rw[←List.map_id l]
  apply Ff
  intro b _
  simp
 rw[this]
theorem q94 (t:Hs) (a b:Nat) (h:b≤t.size):t.extract a b=⟨((t.data.toList.drop a).take (b - a)).toArray⟩:=by
 apply Gf
 simp only[ByteArray.data_extract]
 apply Fj
 simp[F7]
theorem j8i {q:Nat} (h:q≤1000000000):decide ((q:Int) >(1000000000:Int))=false:=by simp;omega
theorem j8f {q:Nat} (h: ¬q≤1000000000):decide ((q:Int) >(1000000000:Int))=true:=by simp;omega
theorem q9d (t:Hs) (at_:Int) (ht:t.size≤u0m):s10 (t,at_)=some (u0t t at_):=by
 unfold u0m at ht
 rw[p6t];unfold q2c u0t
 simp only[s1q,s80,zOb]
 by_cases h:0≤at_∧at_≤t.size
 ·obtain⟨p,rfl⟩:∃p:Nat,at_=p:=⟨at_.toNat,by omega⟩
  have hp:p≤t.size:=by omega
  rw[Bb h,Al h]
  have L:∀(f i:Nat),i+f=5→p+i≤t.size→(∀x∈(t.data.toList.drop p).take i,¬x.toNat<128)→p8z ((t.data.toList.drop p).take i)<128^i→
   ((t71 (t,(p:Int),((p8z ((t.data.toList.drop p).take i):Nat):Int),((128^i:Nat):Int),((p+i:Nat):Int))).bind fun r=>match r with
   | .inl o=>some ((0:Int),(0:Int),false)
   | .inr z=>some z)=some (q7m p (r3e f i (p8z ((t.data.toList.drop p).take i)) (t.data.toList.drop (p+i)))):=by
   intro f
   induction f with
   | zero=>
    intro i hi hpi hall hn
    have:i=5:=by omega
    subst this
    rw[r6d];simp only[t7j]
    have e1:decide (((p+5:Nat):Int)<IntKind.i64.wrap ((p:Int)+5))=false:=by rw[y4y (by omega) (by omega)];simp
    rw[e1]
    cases decide (((p+5:Nat):Int)<(t.size:Int))<;>rfl
   | succ f ih=>
    intro i hi hpi hall hn
    have hi5:i<5:=by omega
    have hpw:=j43 i (by omega)
    rw[r6d];simp only[t7j]
    have e1:decide (((p+i:Nat):Int)<IntKind.i64.wrap ((p:Int)+5))=true:=by rw[y4y (by omega) (by omega)];simp;omega
    by_cases hlt:p+i<t.size
    ·have hd:t.data.toList.drop (p+i)=(t.data.toList[p+i]'(by simpa using hlt))::t.data.toList.drop (p+i+1):=Ce (by simpa using hlt)
     have hb:(t.data.toList[p+i]'(by simpa using hlt)).toNat<256:=Fw _
     have htk:(t.data.toList.drop p).take (i+1)=(t.data.toList.drop p).take i++ [t.data.toList[p+i]'(by simpa using hlt)] :=by
      rw[B9 (by simp;omega)]
      simp
     have htl:((t.data.toList.drop p).take i).length=i:=by simp;omega
     have hvs:=j15 ((t.data.toList.drop p).take i) (t.data.toList[p+i]'(by simpa using hlt))
     rw[htl] at hvs
     rw[hd]
     generalize hc:(t.data.toList[p+i]'(by simpa using hlt))=c at hb htk hvs
     generalize hn' :p8z ((t.data.toList.drop p).take i)=n at hn hvs ⊢
     have e2:decide (((p+i:Nat):Int)<(t.size:Int))=true:=by simp;omega
     have t2:Int.tmod ((c.toNat:Nat):Int) (128:Int)=((c.toNat % 128:Nat):Int):=o85 _ 128
     have hm:c.toNat % 128*128^i≤127*34359738368:=Ei (by omega) hpw
     have w2:IntKind.i64.wrap (((c.toNat % 128:Nat):Int)*((128^i:Nat):Int))=((c.toNat % 128*128^i:Nat):Int):=by
      rw[←Int.natCast_mul];exact y8b (by omega)
     have w3:IntKind.i64.wrap ((n:Int)+((c.toNat % 128*128^i:Nat):Int))=((n+c.toNat % 128*128^i:Nat):Int):=by
      rw[←Int.natCast_add];exact y8b (by omega)
     have wp:IntKind.i64.wrap (((p+i:Nat):Int)+1)=((p+i+1:Nat):Int):=y7l (by omega)
     have ws:IntKind.i64.wrap (((128^i:Nat):Int)*128)=((128^(i+1):Nat):Int):=by
      rw[Gr,Int.natCast_mul]
      exact y4y (by omega) (by omega)
     simp only[e1,e2,Ad,zOb,y7t hlt,zTn,o6v hlt,hc,y8b (show c.toNat≤4611686018427387904 by omega),t2,w2,w3,wp,ws,r3e]
     by_cases hc1:c.toNat<128
     ·have e4:decide (((c.toNat:Nat):Int)<(128:Int))=true:=by simp;omega
      simp only[e4,Ad,Al hc1]
      by_cases hv:n+c.toNat % 128*128^i≤1000000000
      ·have e5:decide (((n+c.toNat % 128*128^i:Nat):Int) >(1000000000:Int))=false:=j8i hv
       have e6:(decide (0≤(p:Int))&&decide ((p:Int)≤((p+i+1:Nat):Int))&&decide (((p+i+1:Nat):Int)≤(t.size:Int)))=true:=by simp;omega
       simp only[e5,Aa,p4f _ (show n+c.toNat % 128*128^i≤100000000000 by omega),zOb,e6,Ad]
       have hx:t.extract p (p+i+1)=⟨((t.data.toList.drop p).take (i+1)).toArray⟩:=by
        rw[q94 t p (p+i+1) (by omega)]
        have:p+i+1 - p=i+1:=by omega
        rw[this]
       rw[hx]
       have hv' :n+c.toNat % 128*128^i=p8z ((t.data.toList.drop p).take i++ [c]):=hvs.symm
       by_cases hl:(s4b (n+c.toNat % 128*128^i)).length=i+1
       ·rw[Al ⟨hv,hl⟩]
        have key:s4b (n+c.toNat % 128*128^i)=((t.data.toList.drop p).take (i+1)).map fun x=>(x.toNat:Int):=by
         rw[hv',htk]
         exact j6v _ c hall hc1 (by rw[←hv',hl,htl])
        rw[key,j4a,y6l]
        simp only[Ap,Aa,zOb,q7m]
        simp[Int.add_assoc]
       ·rw[Ao (fun hh=>hl hh.2)]
        have hne:z7o (y7g (s4b (n+c.toNat % 128*128^i))) ⟨((t.data.toList.drop p).take (i+1)).toArray⟩=false:=by
         rw[←Ey,y7f]
         intro hh
         have:=Dj ByteArray.size hh
         rw[u35] at this
         apply hl
         rw[this]
         show((t.data.toList.drop p).take (i+1)).toArray.size=_
         simp;omega
        rw[hne];rfl
      ·have e5:decide (((n+c.toNat % 128*128^i:Nat):Int) >(1000000000:Int))=true:=j8f hv
       rw[Ao (fun hh=>hv hh.1),e5];rfl
     ·have e4:decide (((c.toNat:Nat):Int)<(128:Int))=false:=by simp;omega
      simp only[e4,Aa,Ao hc1]
      have:=ih (i+1) (by omega) (by omega) (by
       rw[htk]
       intro x hx
       rcases Ay.mp hx with hx | hx
       ·exact hall x hx
       ·simp at hx;rw[hx];exact hc1) (by
       rw[htk,hvs]
       have:128^(i+1)=128^i*128:=Gr 128 i
       have h2:c.toNat % 128*128^i≤127*128^i:=Ei (by omega) (Au _)
       omega)
      rw[htk,hvs] at this
      exact this
    ·have e2:decide (((p+i:Nat):Int)<(t.size:Int))=false:=by simp;omega
     have hd:t.data.toList.drop (p+i)= [] :=Dp (by simp;omega)
     rw[hd]
     simp only[e2,zOb,Aa,r3e]
     rfl
  exact L 5 0 rfl (by omega) (by simp) (by simp[p8z])
 ·rw[A7 h,Ao h];rfl
end
section
def u0o (t:Hs) (at_:Int):Hs×Int×Bool:=
 if(u0t t at_).2.2=true∧(u0t t at_).1≤20000∧(u0t t at_).1≤(t.size:Int) - (u0t t at_).2.1 then
  (t.extract (u0t t at_).2.1.toNat ((u0t t at_).2.1+(u0t t at_).1).toNat,(u0t t at_).2.1+(u0t t at_).1,true)
 else(emp,0,false)
theorem r9p {t:Hs} {at_:Int} (h:(u0o t at_).2.2=true):0≤(u0o t at_).2.1∧(u0o t at_).2.1≤t.size:=by
 unfold u0o at h ⊢
 split at h
 ·rename_i hc
  rw[Al hc]
  have:=t81 hc.1
  simp only
  omega
 ·cases h
theorem p8t (t:Hs) (at_:Int) (ht:t.size≤u0m):
 (((bif (!(u0t t at_).2.2) then(some true) else(bif (decide ((u0t t at_).1 >(20000:Int))) then(some true) else(some (decide ((u0t t at_).1 >(IntKind.i64.wrap ((t.size:Int) - (u0t t at_).2.1))))))):Ht Bool).bind fun j2=>
  (bif j2 then(some ((⟨#[]⟩:Hs),((0:Int),false))) else(bif (decide (0≤(u0t t at_).2.1)&&decide ((u0t t at_).2.1≤(IntKind.i64.wrap ((u0t t at_).2.1+(u0t t at_).1)))&&decide ((IntKind.i64.wrap ((u0t t at_).2.1+(u0t t at_).1))≤(t.size:Int))) then
   (some ((t.extract ((u0t t at_).2.1).toNat ((IntKind.i64.wrap ((u0t t at_).2.1+(u0t t at_).1))).toNat),((IntKind.i64.wrap ((u0t t at_).2.1+(u0t t at_).1)),true))) else none)))=some (u0o t at_):=by
 unfold u0m at ht
 unfold u0o
 cases ho:(u0t t at_).2.2 with
 | false=>rfl
 | true=>
  have hk:=t81 ho
  rw[y4y (n:=(t.size:Int) - (u0t t at_).2.1) (by omega) (by omega),y4y (n:=(u0t t at_).2.1+(u0t t at_).1) (by omega) (by omega)]
  by_cases h1:(u0t t at_).1 >20000
  ·rw[Ao (by omega),Bb h1];rfl
  ·rw[A7 h1]
   by_cases h2:(u0t t at_).1 >(t.size:Int) - (u0t t at_).2.1
   ·rw[Ao (by omega),Bb h2];rfl
   ·rw[Al ⟨rfl,by omega,by omega⟩,A7 h2]
    simp only[Ap,Aa,zOb]
    rw[Bb (show 0≤(u0t t at_).2.1 by omega),Bb (show(u0t t at_).2.1≤(u0t t at_).2.1+(u0t t at_).1 by omega),Bb (show(u0t t at_).2.1+(u0t t at_).1≤(t.size:Int) by omega)]
    rfl
theorem q1f (t:Hs) (at_:Int) (ht:t.size≤u0m):t8f (t,at_)=some (u0o t at_):=by
 rw[p1j];unfold r4a
 simp only[q9d t at_ ht,zOb]
 exact p8t t at_ ht
theorem q1e (t:Hs) (at_:Int) (ht:t.size≤u0m):t79 (t,at_)=some (u0o t at_):=by
 rw[p0z];unfold r3q
 simp only[q9c t at_ ht,zOb]
 exact p8t t at_ ht
def p0t (t:Hs):Int:=((t.data.toList.getD 0 0).toNat:Int)
theorem p9q (t:Hs):0≤p0t t∧p0t t<256:=by
 unfold p0t
 have:(t.data.toList.getD 0 0).toNat<256:=Fw _
 omega
def u5g (d:u0l) (s:Int):Int:=p0t (u0k d s).1
theorem p8n {d:u0l} {s:Int} (h:(u0k d s).2=false):(u0k d s).1=emp:=by
 unfold u0k at h ⊢
 split at h
 ·cases h
 ·rename_i hc;rw[Ao hc]
theorem p8a (r:Hs×Bool) (h:r.2=false→r.1=emp):
 (((bif (!r.2) then(some true) else(some (z7o r.1 (⟨#[]⟩:Hs)))):Ht Bool).bind fun j2=>(bif j2 then(some (0:Int)) else(bif (y4q (0:Int) r.1.size) then(some (IntKind.i64.wrap ((r.1.data.toList.getD ((0:Int)).toNat 0).toNat:Int))) else none)))=some (p0t r.1):=by
 obtain⟨t,o⟩:=r
 cases o with
 | false=>
  have:t=emp:=h rfl
  subst this;rfl
 | true=>
  simp only[Ap,Aa,zOb]
  by_cases he:t=emp
  ·subst he
   have:z7o emp (⟨#[]⟩:Hs)=true:=y6l emp
   simp only[this,Ad];rfl
  ·have h1:z7o t (⟨#[]⟩:Hs)=false:=by
    rw[←Ey,y7f];exact he
   have h2:t.size≠0:=by
    intro hz
    apply he
    apply Gf
    apply Fi
    exact hz
   have h3:y4q (0:Int) t.size=true:=by simp[y4q];omega
   have hb:(t.data.toList.getD 0 0).toNat<256:=Fw _
   simp only[h1,Aa,h3,Ad,Ho]
   rw[y8b (by omega)];rfl
theorem q3d (d:u0l) (s:Int) (hd:d1h.wt d≤u0m):t8c (d,s)=some (u5g d s):=by
 rw[p06];unfold r3w
 simp only[r63 d s hd,zOb]
 exact p8a _ (fun h=>p8n h)
theorem r8t (d:u0l) (s:Int) (hd:d1h.wt d≤u0m):t6q (d,s)=some (u5g d s):=by
 rw[p67];unfold q2r
 simp only[s46 d s hd,zOb]
 exact p8a _ (fun h=>p8n h)
def u0n (d:u0l):Int:=Int.tmod (u5g d 0) 2
theorem t0s (d:u0l):u0n d=0∨u0n d=1:=by
 have:=p9q (u0k d 0).1
 unfold u0n u5g
 have e:=Int.tmod_eq_emod_of_nonneg (b:=2) this.1
 rw[e];omega
theorem p85 (d:u0l) (hd:d1h.wt d≤u0m):s5y d=some (u0n d):=by
 rw[p20];unfold r7c
 simp only[q3d d 0 hd,zOb];rfl
theorem s4j (d:u0l) (hd:d1h.wt d≤u0m):u9u d=some (u0n d):=by
 rw[p3j];unfold r7u
 simp only[r8t d 0 hd,zOb];rfl
def o01 (a:Int):Bool:=decide (a=0) || decide (a=1)
def u0g (a:Int):Int:=if o01 a then 1+a*48 else 0
theorem j3b {a:Int} :o01 a=true↔a=0∨a=1:=by simp[o01]
theorem s2c (a:Int):0≤u0g a∧u0g a≤49:=by
 unfold u0g
 split
 ·rename_i h;have:=j3b.mp h;omega
 ·omega
theorem q4m (a:Int):t91 a=some (o01 a):=by
 rw[p98];unfold q5o o01
 cases decide (a=0)<;>rfl
theorem q0o (a:Int):u0r (a,0,1)=some (o01 a):=by
 rw[s1q,s80]
 congr 1
 rw[Cd,j3b,decide_eq_true_iff];omega
theorem q1a (a:Int):t78 a=some (u0g a):=by
 rw[p0u];unfold r3m u0g
 simp only[q4m,zOb]
 cases h:o01 a with
 | false=>rfl
 | true=>
  have:=j3b.mp h
  simp only[Ap,Aa,Bl]
  rw[y4y (n:=a*48) (by omega) (by omega),y4y (by omega) (by omega)]
theorem s07 (a:Int):u70 a=some (u0g a):=by
 rw[p1b];unfold r31 u0g
 simp only[q0o,zOb]
 cases h:o01 a with
 | false=>rfl
 | true=>
  have:=j3b.mp h
  simp only[Ap,Aa,Bl]
  rw[y4y (n:=a*48) (by omega) (by omega),y4y (by omega) (by omega)]
def u0z (d:u0l) (a:Int):Int:=if o01 a then u5g d (u0g a) else 0
theorem q0k (d:u0l) (a:Int):0≤u0z d a∧u0z d a<256:=by
 unfold u0z
 split
 ·exact p9q _
 ·omega
theorem q88 (d:u0l) (a:Int) (hd:d1h.wt d≤u0m):s83 (d,a)=some (u0z d a):=by
 rw[p5y];unfold q1h u0z
 simp only[q4m,q1a,q3d d _ hd,zOb]
 cases o01 a<;>rfl
theorem s17 (d:u0l) (a:Int) (hd:d1h.wt d≤u0m):t2f (d,a)=some (u0z d a):=by
 rw[p6i];unfold q11 u0z
 simp only[q0o,s07,r8t d _ hd,zOb]
 cases o01 a<;>rfl
def u62 (t:Hs):Nat→Int→Hu Hs→Hu Hs×Int×Bool
 | 0,at_,acc=>(acc,at_,true)
 | m+1,at_,acc=>if(u0o t at_).2.2&& !z7o (u0o t at_).1 emp then u62 t m (u0o t at_).2.1 (acc++ [(u0o t at_).1]) else([],0,false)
def u0f (d:u0l) (a:Int):Hu Hs×Int×Bool:=
 if o01 a&&(u8t d (u0g a+1) 47).2 then u62 (u8t d (u0g a+1) 47).1 (u0z d a).toNat 0 [] else([],0,false)
theorem p8s (d:u0l) (from_:Int):∀(m i:Nat) (acc:Hs),(q07 d from_ m i acc).1.size≤acc.size+m*d1h.wt d
 | 0,i,acc=>by simp[q07]
 | m+1,i,acc=>by
  unfold q07
  split
  ·have h1:=p8s d from_ m (i+1) (acc++(u0k d (from_+(i:Int))).1)
   have h2:=r9o d (from_+(i:Int))
   rw[Af] at h1
   have:(m+1)*d1h.wt d=m*d1h.wt d+d1h.wt d:=C7 _ _
   omega
  ·show 0≤_;omega
theorem r9v (d:u0l) (from_ n:Int):(u8t d from_ n).1.size≤100*d1h.wt d:=by
 unfold u8t
 split
 ·have h:=p8s d from_ n.toNat 0 emp
  have h2:emp.size=0:=rfl
  have h3:n.toNat*d1h.wt d≤100*d1h.wt d:=Ei (by omega) (Au _)
  omega
 ·show 0≤_;omega
theorem q46 (d:u0l) (a:Int) (hd:d1h.wt d≤1073741824):t35 (d,a)=some (u0f d a):=by
 have hb:d1h.wt d≤u0m:=by unfold u0m;omega
 have hf:=s2c a
 have hz:(u8t d (u0g a+1) 47).1.size≤u0m:=by have:=r9v d (u0g a+1) 47;unfold u0m;omega
 have hc:=q0k d a
 rw[p27];unfold r7j u0f
 simp only[q1a,zOb]
 rw[y4y (n:=u0g a+1) (by omega) (by omega)]
 simp only[p2i d (u0g a+1) 47 hd (by omega) (by omega),q4m,zOb]
 generalize u8t d (u0g a+1) 47=s at hz
 cases hs:s.2 with
 | false=>cases o01 a<;>rfl
 | true=>
  cases ha:o01 a with
  | false=>rfl
  | true=>
   have L:=s9o (fun x=>(t48 x).bind fun r=>match r with
    | .inl o=>some (o.1,o.2,true)
    | .inr z=>some z) (u0z d a).toNat (fun(p:Hu Hs×Int) i=>(a,d,s.1,p.1,p.2,i)) (fun i p=>u62 s.1 ((u0z d a).toNat - i) p.2 p.1) (fun i p=>p.1.length≤i)
    (fun p _=>by
     rw[r1j];simp only[t4j,q88 d a hb,zOb]
     rw[A7 (by omega)]
     simp only[Aa,zOb,Dw,u62])
    (fun i p hi hp=>by
     have e:(u0z d a).toNat - i=((u0z d a).toNat - (i+1))+1:=by omega
     rw[r1j];simp only[t4j,q88 d a hb,zOb]
     rw[Bb (by omega),e]
     simp only[Ad,q1e s.1 p.2 hz,zOb,u62,j0n]
     cases hr:(u0o s.1 p.2).2.2 with
     | false=>left;rfl
     | true=>
      cases hq:z7o (u0o s.1 p.2).1 emp with
      | true=>left;rfl
      | false=>
       right
       refine⟨(p.1++ [(u0o s.1 p.2).1],(u0o s.1 p.2).2.1),by simp;omega,by simp,?_⟩
       simp only[Ap,Aa,zOb,Aw,u0x (show p.1.length+1≤1099511627776 by omega),Ad]
       rw[y7l (by omega)]) 0 ([],0) (by omega) (by simp)
   simp only[Ap,Aa,zOb,Dt,Bl]
   exact L
theorem r2h (d:u0l) (a:Int) (hd:d1h.wt d≤1073741824):u9v (d,a)=some (u0f d a):=by
 have hb:d1h.wt d≤u0m:=by unfold u0m;omega
 have hf:=s2c a
 have hz:(u8t d (u0g a+1) 47).1.size≤u0m:=by have:=r9v d (u0g a+1) 47;unfold u0m;omega
 have hc:=q0k d a
 rw[p3q];unfold r71 u0f
 simp only[q0o,s07,zOb]
 rw[y4y (n:=u0g a+1) (by omega) (by omega)]
 simp only[p2j d (u0g a+1) 47 hd (by omega) (by omega),zOb]
 generalize u8t d (u0g a+1) 47=s at hz
 cases hs:s.2 with
 | false=>cases o01 a<;>rfl
 | true=>
  cases ha:o01 a with
  | false=>rfl
  | true=>
   have L:=s9o (fun x=>(t27 x).bind fun r=>match r with
    | .inl o=>some (o.1,o.2,true)
    | .inr z=>some z) (u0z d a).toNat (fun(p:Hu Hs×Int) i=>(a,d, [],s.1,p.1,p.2,i)) (fun i p=>u62 s.1 ((u0z d a).toNat - i) p.2 p.1) (fun i p=>p.1.length≤i)
    (fun p _=>by
     rw[s8p];simp only[t2y,s17 d a hb,zOb]
     rw[A7 (by omega)]
     simp only[Aa,zOb,Dw,u62])
    (fun i p hi hp=>by
     have e:(u0z d a).toNat - i=((u0z d a).toNat - (i+1))+1:=by omega
     rw[s8p];simp only[t2y,s17 d a hb,zOb]
     rw[Bb (by omega),e]
     simp only[Ad,q1f s.1 p.2 hz,zOb,u62,j0n]
     cases hr:(u0o s.1 p.2).2.2 with
     | false=>left;rfl
     | true=>
      cases hq:z7o (u0o s.1 p.2).1 emp with
      | true=>left;rfl
      | false=>
       right
       refine⟨(p.1++ [(u0o s.1 p.2).1],(u0o s.1 p.2).2.1),by simp;omega,by simp,?_⟩
       simp only[Ap,Aa,zOb,Aw,u0x (show p.1.length+1≤1099511627776 by omega),Ad]
       rw[y7l (by omega)]) 0 ([],0) (by omega) (by simp)
   simp only[Ap,Aa,zOb,Dt,Bl]
   exact L
def u0e (d:u0l):Hu Hs:=(u0f d (u0n d)).1
theorem p9b (d:u0l) (hd:d1h.wt d≤1073741824):s52 d=some (u0e d):=by
 rw[p25];unfold r7h
 simp only[p85 d (show d1h.wt d≤u0m by unfold u0m;omega),q46 d _ hd,zOb];rfl
theorem p73 (t:Hs):∀(m:Nat) (at_:Int) (acc:Hu Hs),(u62 t m at_ acc).1.length≤acc.length+m
 | 0,at_,acc=>by simp[u62]
 | m+1,at_,acc=>by
  unfold u62
  split
  ·have:=p73 t m (u0o t at_).2.1 (acc++ [(u0o t at_).1])
   simp at this;omega
  ·simp
theorem p0e (d:u0l) (a:Int):(u0f d a).1.length<256:=by
 unfold u0f
 split
 ·have h:=p73 (u8t d (u0g a+1) 47).1 (u0z d a).toNat 0 []
  have:=q0k d a
  simp at h;omega
 ·simp
def j8w (a b:Hu Hs):Bool:=decide (a=b)
theorem o80 {a b:Hu Hs} (h:a.length=b.length):(bif (a.zip b).any (fun p=> !z7o p.1 p.2) then false else true)=decide (a=b):=by
 induction a generalizing b with
 | nil=>
  cases b with
  | nil=>rfl
  | cons y b=>simp at h
 | cons x a ih=>
  cases b with
  | nil=>simp at h
  | cons y b=>
   have h' :a.length=b.length:=by simpa using h
   have:=ih h'
   simp only[List.zip_cons_cons,Gd,List.cons.injEq]
   by_cases e:x=y
   ·subst e
    simp only[y6l,Ap,Ci,true_and]
    exact this
   ·have:z7o x y=false:=by rw[←Ey,y7f];exact e
    simp[this,e]
def j1q (a b:u0l):Bool:=j8w (u0e a) (u0e b)
end
section
def u1v (d:u0l):Bool:=decide (1≤d.1.length∧d.1.length≤100)&&decide (d.2.length≤60)&&d.1.all (fun s=>decide (s.size=64))&&d.2.all (fun p=>r6u p.1 0 ((d.1.length:Int) - 1)&&decide (p.2.size=64))
theorem p9o {α:Type} (l:Hu α) (p:α→Bool):l.any (fun x=> !p x)= !l.all p:=by
 induction l with
 | nil=>rfl
 | cons x l ih=>simp only[Gd,Gc,ih,Bool.not_and]
theorem s45 (d:u0l) (hd:d1h.wt d≤u0m):t00 d=some (u1v d):=by
 have h1:d.1.length≤u0m:=A9 t9t hd
 have h2:d.2.length≤u0m:=A9 s2f hd
 unfold u0m at h1 h2
 have L1:=s49 t9n d.1 (fun i=>(d,i)) (fun s=> !decide (s.size=64)) (.inr false) (.inl d)
  (by rw[q0a];simp only[t9e,u0b,Am,Ah,Aa])
  (fun i hi=>by
   rw[q0a];simp only[t9e,u0b,hi,Ae,Ad,y7t hi,zTn,y8k (t:=Ty.str) hi]
   rw[y7l (by omega)]
   have:decide (((d.1[i]).size:Int)=(64:Int))=decide ((d.1[i]).size=64):=by simp only[Cu];omega
   rw[this])
 have L2:=s49 t9o d.2 (fun i=>(d,i)) (fun p=> !(r6u p.1 0 ((d.1.length:Int) - 1)&&decide (p.2.size=64))) (.inr false) (.inl ())
  (by rw[q0b];simp only[t9f,u0b,Am,Ah,Aa])
  (fun i hi=>by
   rw[q0b];simp only[t9f,u0b,hi,Ae,Ad,y7t hi,zTn,y8k (t:=o4y) hi,s1q,zOb]
   rw[y7l (by omega),y4y (n:=(d.1.length:Int) - 1) (by omega) (by omega)]
   have:decide (((d.2[i]).2.size:Int)=(64:Int))=decide ((d.2[i]).2.size=64):=by simp only[Cu];omega
   rw[this]
   cases r6u (d.2[i]).1 0 ((d.1.length:Int) - 1)<;>rfl)
 rw[o0g];unfold q5w u1v
 simp only[s1q,s80 (a:=(d.1.length:Int)),L1,zOb]
 have e1:decide ((1:Int)≤(d.1.length:Int)∧(d.1.length:Int)≤100)=decide (1≤d.1.length∧d.1.length≤100):=by simp only[Cu];omega
 have e2:decide ((d.2.length:Int) >60)= !decide (d.2.length≤60):=by
  rw[←decide_not,Cu];omega
 rw[e1,e2,p9o]
 cases decide (1≤d.1.length∧d.1.length≤100) with
 | false=>rfl
 | true=>
  cases decide (d.2.length≤60) with
  | false=>rfl
  | true=>
   cases d.1.all (fun s=>decide (s.size=64)) with
   | false=>rfl
   | true=>
    simp only[Ap,Aa,zOb,L2,p9o]
    cases d.2.all _<;>rfl
theorem o48 (d:u0l) (hd:d1h.wt d≤u0m):r2u d=some (u1v d):=by
 have h1:d.1.length≤u0m:=A9 t9t hd
 have h2:d.2.length≤u0m:=A9 s2f hd
 unfold u0m at h1 h2
 have L1:=s49 t9i d.1 (fun i=>(d,d.1,(d.1.length:Int),i)) (fun s=> !decide (s.size=64)) (.inr false) (.inl d)
  (by rw[r92];simp only[t86,u0b,Am,Ah,Aa])
  (fun i hi=>by
   rw[r92];simp only[t86,u0b,hi,Ae,Ad,y7t hi,zTn,y8k (t:=Ty.str) hi]
   rw[y7l (by omega)]
   have:decide (((d.1[i]).size:Int)=(64:Int))=decide ((d.1[i]).size=64):=by simp only[Cu];omega
   rw[this])
 have L2:=s49 t9j d.2 (fun i=>(d,d.2,(d.2.length:Int),i)) (fun p=> !(r6u p.1 0 ((d.1.length:Int) - 1)&&decide (p.2.size=64))) (.inr false) (.inl d)
  (by rw[r93];simp only[t87,u0b,Am,Ah,Aa])
  (fun i hi=>by
   rw[r93];simp only[t87,u0b,hi,Ae,Ad,y7t hi,zTn,y8k (t:=o4y) hi,s2z,zOb]
   rw[y7l (by omega),y4y (n:=(d.1.length:Int) - 1) (by omega) (by omega)]
   have:decide (((d.2[i]).2.size:Int)=(64:Int))=decide ((d.2[i]).2.size=64):=by simp only[Cu];omega
   rw[this]
   cases r6u (d.2[i]).1 0 ((d.1.length:Int) - 1)<;>rfl)
 rw[p9z];unfold q5e u1v
 simp only[L1,zOb]
 have e1:decide ((1:Int)≤(d.1.length:Int)∧(d.1.length:Int)≤100)=decide (1≤d.1.length∧d.1.length≤100):=by simp only[Cu];omega
 have e2:decide ((d.2.length:Int)≤60)=decide (d.2.length≤60):=by rw[Cu];omega
 rw[p9o]
 cases d.1.all (fun s=>decide (s.size=64)) with
 | false=>simp
 | true=>
  simp only[Ap,Aa,zOb,L2,p9o]
  cases d.2.all (fun p=>r6u p.1 0 ((d.1.length:Int) - 1)&&decide (p.2.size=64)) with
  | false=>simp
  | true=>
   simp only[Ap,Aa,zOb,s2z,s80 (a:=(d.1.length:Int)),e1,e2]
   cases decide (1≤d.1.length∧d.1.length≤100)<;>cases decide (d.2.length≤60)<;>rfl
def u2v (d:u0l):Bool:=u1v d&&decide (d.1.length=97)&&decide (d.2.length=0)&&(u0f d 0).2.2&&(u0f d 1).2.2
theorem q7y (d:u0l) (hd:d1h.wt d≤1073741824):s2p d=some (u2v d):=by
 have hb:d1h.wt d≤u0m:=by unfold u0m;omega
 rw[o3d];unfold q9t u2v
 have hs:u9x ()=some 97:=by rw[r0f];rfl
 simp only[s45 d hb,hs,r2h d _ hd,zOb]
 have e1:decide ((d.1.length:Int)=97)=decide (d.1.length=97):=by rw[Cu];omega
 have e2:decide ((d.2.length:Int) >0)= !decide (d.2.length=0):=by rw[←decide_not,Cu];omega
 rw[e1,e2]
 cases u1v d<;>cases decide (d.1.length=97)<;>cases decide (d.2.length=0)<;>cases (u0f d 0).2.2<;>cases (u0f d 1).2.2<;>rfl
theorem p7x (d:u0l) (hd:d1h.wt d≤1073741824):s74 d=some (u2v d):=by
 have hb:d1h.wt d≤u0m:=by unfold u0m;omega
 rw[o21];unfold q9j u2v
 simp only[o48 d hb,q46 d _ hd,zOb]
 have e1:decide ((d.1.length:Int)=97)=decide (d.1.length=97):=by rw[Cu];omega
 have e2:decide ((d.2.length:Int)=0)=decide (d.2.length=0):=by rw[Cu];omega
 rw[e1,e2]
 cases u1v d<;>cases decide (d.1.length=97)<;>cases decide (d.2.length=0)<;>cases (u0f d 0).2.2<;>cases (u0f d 1).2.2<;>rfl
end
section
theorem j54 (d:u0l):d1h.wt d=(d.1.length+(d.1.map ByteArray.size).sum)+(d.2.length+(d.2.map fun p=>0+p.2.size).sum):=rfl
theorem p8v {α:Type} {l:Hu α} {f:α→Nat} {k:Nat} (h:∀x∈l,f x≤k):(l.map f).sum≤l.length*k:=by
 induction l with
 | nil=>simp
 | cons x l ih=>
  have h1:=h x (C9 ..)
  have h2:=ih (fun y hy=>h y (Bm _ hy))
  simp only[C8,Ge,Bc,C7]
  omega
theorem p78 {d:u0l} :u1v d=true↔(1≤d.1.length∧d.1.length≤100)∧d.2.length≤60∧(∀s∈d.1,s.size=64)∧ ∀p∈d.2,(0≤p.1∧p.1<(d.1.length:Int))∧p.2.size=64:=by
 unfold u1v
 simp only[Ai,Ar,Bg,r6u,and_assoc]
 constructor
 ·rintro⟨a,b,c,e,f⟩
  exact⟨a,b,c,e,fun p hp=>by obtain⟨x,y,z⟩:=f p hp;exact⟨x,by omega,z⟩⟩
 ·rintro⟨a,b,c,e,f⟩
  exact⟨a,b,c,e,fun p hp=>by obtain⟨x,y,z⟩:=f p hp;exact⟨x,by omega,z⟩⟩
theorem u7g {d:u0l} (h:u1v d=true):d1h.wt d≤11000:=by
 obtain⟨h1,h2,h3,h4⟩:=p78.mp h
 have a1:=p8v (l:=d.1) (f:=ByteArray.size) (k:=64) (fun s hs=>by rw[h3 s hs];exact Au _)
 have a2:=p8v (l:=d.2) (f:=fun p=>0+p.2.size) (k:=64) (fun p hp=>by rw[(h4 p hp).2];exact Au _)
 rw[j54]
 omega
theorem u67 (d:u0l) (hd:d1h.wt d≤u0m):u0u d=some d:=by
 have h1:d.1.length≤u0m:=A9 t9t hd
 have h2:d.2.length≤u0m:=A9 s2f hd
 unfold u0m at h1 h2
 rw[p65];unfold q2p
 have a1:Nat.ble (([] :Hu Hs).length+d.1.length) z7w=true:=u0x (by simp;omega)
 have a2:Nat.ble (([] :Hu r67.den).length+d.2.length) z7w=true:=u0x (by simp;omega)
 simp only[a1,a2,Ad,Cf]
theorem o7z (d:u0l) (hd:d1h.wt d≤u0m):s57 d=some d:=by
 have h1:d.1.length≤u0m:=A9 t9t hd
 have h2:d.2.length≤u0m:=A9 s2f hd
 unfold u0m at h1 h2
 rw[p3e];unfold r7p
 simp only[u0x h1,u0x h2,Ad]
def u8m (d:u0l) (k:Int) (t:Hs):Ht u0l:=if u1v (d.1,d.2++ [(k,t)]) then some (d.1,d.2++ [(k,t)]) else none
def orD (d:u0l):Ht u0l→u0l×Bool
 | some x=>(x,true)
 | none=>(d,false)
theorem q4f (d:u0l) (k:Int) (t:Hs):u1v (d.1,d.2++ [(k,t)])=(u1v d&&(r6u k 0 ((d.1.length:Int) - 1)&&(decide (t.size=64)&& !decide (60≤d.2.length)))):=by
 rw[Cd]
 simp only[Ai,Bj,Ar,Bu]
 rw[p78,p78]
 simp only[Ba,Aw,Ay,Ax,r6u,Ai,Ar]
 constructor
 ·rintro⟨a,b,c,e⟩
  have:=e (k,t) (.inr rfl)
  exact⟨⟨a,by omega,c,fun p hp=>e p (.inl hp)⟩,⟨this.1.1,by have:=this.1.2;omega⟩,this.2,by omega⟩
 ·rintro⟨⟨a,b,c,e⟩,⟨f1,f2⟩,g,h⟩
  refine⟨a,by omega,c,fun p hp=> ?_⟩
  rcases hp with hp | rfl
  ·exact e p hp
  ·exact⟨⟨f1,by show k<(d.1.length:Int);omega⟩,g⟩
theorem p0p (d:u0l) (k:Int) (t:Hs) (hd:d1h.wt d≤1073741824) (ht:t.size≤1073741824):t3h (d,k,t)=some (orD d (u8m d k t)):=by
 have h2:d.2.length≤1073741824:=A9 s2f hd
 have h1:d.1.length≤1073741824:=A9 t9t hd
 have a:Nat.ble (d.2.length+([(k,t)] :Hu r67.den).length) z7w=true:=u0x (by simp;omega)
 have w:IntKind.i64.wrap ((d.1.length:Int) - 1)=(d.1.length:Int) - 1:=y4y (by omega) (by omega)
 have e1:decide ((t.size:Int)=(64:Int))=decide (t.size=64):=by simp only[Cu];omega
 have e2:decide ((d.2.length:Int)≥(60:Int))=decide (60≤d.2.length):=by simp only[Cu];omega
 rw[q6v];unfold s7h
 simp only[u67 d (by unfold u0m;omega),s45 d (by unfold u0m;omega),zOb,a,Ad,s1q,w,e1,e2]
 unfold u8m
 rw[q4f]
 cases u1v d<;>cases r6u k 0 ((d.1.length:Int) - 1)<;>cases decide (t.size=64)<;>cases decide (60≤d.2.length)<;>rfl
def p80:Nat→u0l→Nat→Nat→Hs→Ht u0l
 | 0,d,_,_,_=>some d
 | f+1,d,k,at_,t=>if t.size=0 then some d else
  if(u0k d (k:Int)).2=true∧(u0k d (k:Int)).1.size=64 then
   (u8m d (k:Int) ((u0k d (k:Int)).1.extract 0 at_++t.extract 0 (min t.size (64 - at_))++(u0k d (k:Int)).1.extract (at_+min t.size (64 - at_)) 64)).bind fun x=>
    p80 f x (k+1) 0 (t.extract (min t.size (64 - at_)) t.size)
  else none
theorem o1n (f:Nat) (d:u0l) (k at_:Nat) {t:Hs} (h:t.size=0):p80 f d k at_ t=some d:=by
 cases f with
 | zero=>rfl
 | succ f=>rw[p80,Al h]
theorem t8o {d x:u0l} {k:Int} {t:Hs} (h:u8m d k t=some x):u1v x=true∧x=(d.1,d.2++ [(k,t)]):=by
 unfold u8m at h
 split at h
 ·rename_i hk;cases h;exact⟨hk,rfl⟩
 ·cases h
theorem p0i {t:Hs} :z7o t ⟨#[]⟩=decide (t.size=0):=by
 rw[Cd,y7f,Ar]
 constructor
 ·rintro rfl;rfl
 ·intro h
  have:t.data= #[] :=by apply Fi;exact h
  cases t;simp at this;rw[this]
theorem j2b (d0 jk:u0l) (sec at_:Nat) (t:Hs) (hsec:sec≤2000000000) (hat:at_≤6400) (ht:t.size≤1048576) (h0:d1h.wt d0≤1073741824):∀(f i:Nat) (out:u0l),i≤t.size→t.size - i<f→d1h.wt out≤1073741824→
 u5f ((sec:Int),(at_:Int),t,d0,jk,out,(i:Int))=some (match p80 f out (sec+(at_+i) / 64) ((at_+i) % 64) (t.extract i t.size) with
  | some x=> .inl (jk,x)
  | none=> .inr (d0,false))
 | 0,i,out,_,h,_=>by omega
 | f+1,i,out,hi,hf,ho=>by
  have hsz:(t.extract i t.size).size=t.size - i:=by simp only[Bd];omega
  have w0:IntKind.i64.wrap ((at_:Int)+(i:Int))=((at_+i:Nat):Int):=by rw[y4y (by omega) (by omega)];omega
  have t1:Int.tdiv ((at_+i:Nat):Int) (64:Int)=(((at_+i) / 64:Nat):Int):=j8y (at_+i) 64
  have t2:Int.tmod ((at_+i:Nat):Int) (64:Int)=(((at_+i) % 64:Nat):Int):=o85 (at_+i) 64
  obtain⟨q,hq⟩:∃q,q=(at_+i) / 64:=⟨_,rfl⟩
  obtain⟨m,hm⟩:∃m,m=(at_+i) % 64:=⟨_,rfl⟩
  have w1:IntKind.i64.wrap ((q:Int))=(q:Int):=y4y (by omega) (by omega)
  have w2:IntKind.i64.wrap ((sec:Int)+(q:Int))=((sec+q:Nat):Int):=by rw[y4y (by omega) (by omega)];omega
  have w3:IntKind.i64.wrap ((64:Int) - (m:Int))=((64 - m:Nat):Int):=by rw[y4y (by omega) (by omega)];omega
  have w4:IntKind.i64.wrap ((t.size:Int) - (i:Int))=((t.size - i:Nat):Int):=by rw[y4y (by omega) (by omega)];omega
  rw[q41]
  simp only[t8i,w0,t1,t2,←hq,←hm,w1,w2,w3,w4,s46 out ((sec+q:Nat):Int) (by unfold u0m;omega),u67 d0 (by unfold u0m;omega),zOb,u0b]
  rw[p80,hsz]
  by_cases hz:i<t.size
  ·have hz' : ¬t.size - i=0:=by omega
   simp only[hz,Ae,Ad,hz',Bk]
   generalize u0k out ((sec+q:Nat):Int)=r
   obtain⟨old,rok⟩:=r
   cases rok with
   | false=>simp
   | true=>
    have e64:decide ((old.size:Int)=(64:Int))=decide (old.size=64):=by simp only[Cu];omega
    simp only[Ap,Aa,zOb,e64]
    by_cases hs:old.size=64
    ·obtain⟨n,hn⟩:∃n,n=min (t.size - i) (64 - m):=⟨_,rfl⟩
     have z0:((0:Int)).toNat=0:=rfl
     have hm64:m<64:=by omega
     have body:∀N:Nat,N=n→IntKind.i64.wrap ((i:Int)+(N:Int))=((i+n:Nat):Int)∧IntKind.i64.wrap ((m:Int)+(N:Int))=((m+n:Nat):Int):=fun N hN=>by
      subst hN
      exact⟨by rw[y4y (by omega) (by omega)];omega,by rw[y4y (by omega) (by omega)];omega⟩
     have c1:(decide ((0:Int)≤0)&&decide ((0:Int)≤(m:Int))&&decide ((m:Int)≤((64:Nat):Int)))=true:=by simp;omega
     have c2:(decide ((0:Int)≤(i:Int))&&decide ((i:Int)≤((i+n:Nat):Int))&&decide (((i+n:Nat):Int)≤(t.size:Int)))=true:=by simp;omega
     have c3:decide ((old.extract 0 m).size+(t.extract i (i+n)).size≤140737488355328)=true:=by simp only[Bd,Ar];omega
     have c4:(decide ((0:Int)≤((m+n:Nat):Int))&&decide (((m+n:Nat):Int)≤((64:Nat):Int))&&decide (((64:Nat):Int)≤((64:Nat):Int)))=true:=by simp;omega
     have c5:decide ((old.extract 0 m++t.extract i (i+n)).size+(old.extract (m+n) 64).size≤140737488355328)=true:=by simp only[Af,Bd,Ar];omega
     have hx1:(t.extract i t.size).extract 0 n=t.extract i (i+n):=by
      rw[ByteArray.extract_extract];congr 1;omega
     have hx2:(t.extract i t.size).extract n (t.size - i)=t.extract (i+n) t.size:=by
      rw[ByteArray.extract_extract];congr 1;omega
     have hw:=p0p out ((sec+q:Nat):Int) (old.extract 0 m++t.extract i (i+n)++old.extract (m+n) 64) ho (by simp only[Af,Bd];omega)
     have ih:∀x:u0l,u1v x=true→u5f ((sec:Int),(at_:Int),t,d0,jk,x,((i+n:Nat):Int))=some (match p80 f x (sec+q+1) 0 (t.extract (i+n) t.size) with
      | some x=> .inl (jk,x)
      | none=> .inr (d0,false)):=fun x hx=>by
      have:=j2b d0 jk sec at_ t hsec hat ht h0 f (i+n) x (by omega) (by omega) (A9 (u7g hx) (by omega))
      rw[this]
      by_cases he:i+n=t.size
      ·have hsz2:(t.extract (i+n) t.size).size=0:=by simp only[Bd];omega
       rw[o1n _ _ _ _ hsz2,o1n _ _ _ _ hsz2]
      ·have hn2:n=64 - m:=by omega
       have e1:sec+(at_+(i+n)) / 64=sec+q+1:=by omega
       have e2:(at_+(i+n)) % 64=0:=by omega
       rw[e1,e2]
     rw[←hn,hx1,hx2]
     simp only[hs,Ae,Ap,Aa,and_self,Bl]
     by_cases hb:t.size - i<64 - m
     ·obtain⟨b1,b2⟩:=body (t.size - i) (by omega)
      simp only[hb,Ae,Ad,b1,b2,zTn,z0,c3,c5]
      rw[c1,c2,c4]
      simp only[Ad,hw,zOb]
      cases hx:u8m out ((sec+q:Nat):Int) (old.extract 0 m++t.extract i (i+n)++old.extract (m+n) 64) with
      | none=>simp[orD]
      | some x=>
       simp only[orD,Ap,Aa,zOb]
       exact ih x (t8o hx).1
     ·obtain⟨b1,b2⟩:=body (64 - m) (by omega)
      simp only[hb,Ah,Aa,b1,b2,zTn,z0,c3,c5]
      rw[c1,c2,c4]
      simp only[Ad,hw,zOb]
      cases hx:u8m out ((sec+q:Nat):Int) (old.extract 0 m++t.extract i (i+n)++old.extract (m+n) 64) with
      | none=>simp[orD]
      | some x=>
       simp only[orD,Ap,Aa,zOb]
       exact ih x (t8o hx).1
    ·simp[hs]
  ·have hz' :t.size - i=0:=by omega
   simp only[hz,Ah,Aa,hz',Bl]
def u7e (d:u0l) (sector at_:Int) (t:Hs):Ht u0l:=
 if r6u at_ 0 6400&&r6u sector 0 ((d.1.length:Int) - 1)&&u1v d then p80 (t.size+1) d (sector.toNat+at_.toNat / 64) (at_.toNat % 64) t else none
theorem s5a (d:u0l) (sector at_:Int) (t:Hs) (hd:d1h.wt d≤1073741824) (ht:t.size≤1048576):u9w (d,sector,at_,t)=some (orD d (u7e d sector at_ t)):=by
 have h1:d.1.length≤1073741824:=A9 t9t hd
 have w:IntKind.i64.wrap ((d.1.length:Int) - 1)=(d.1.length:Int) - 1:=y4y (by omega) (by omega)
 rw[q8p];unfold s96 u7e
 simp only[u67 d (by unfold u0m;omega),s45 d (by unfold u0m;omega),zOb,s1q,w]
 cases ha:r6u at_ 0 6400 with
 | false=>rfl
 | true=>
  cases hs:r6u sector 0 ((d.1.length:Int) - 1) with
  | false=>rfl
  | true=>
   cases hk:u1v d with
   | false=>rfl
   | true=>
    simp only[r6u,Ai,Ar] at ha hs
    obtain⟨s,rfl⟩:∃s:Nat,sector=(s:Int):=⟨sector.toNat,by omega⟩
    obtain⟨a,rfl⟩:∃a:Nat,at_=(a:Int):=⟨at_.toNat,by omega⟩
    have L:=j2b d ([], []) s a t (by omega) (by omega) ht hd (t.size+1) 0 d (by omega) (by omega) hd
    have L:u5f ((s:Int),(a:Int),t,d,([], []),d,0)=_:=L
    have e:t.extract 0 t.size=t:=Fu
    simp only[Ap,Aa,zOb,L,Dt,Bl,zTn,Df,e]
    cases p80 (t.size+1) d (s+a / 64) (a % 64) t<;>rfl
end
section
def s4a (s:Hu Hs) (p:Int×Hs):Hu Hs:=s.set p.1.toNat p.2
def flush (d:u0l):u0l:=if u1v d then(d.2.foldl s4a d.1, []) else d
theorem r1d (s:Hu Hs) (p:Int×Hs):(s4a s p).length=s.length:=by simp[s4a]
theorem q4k:∀(c:Hu (Int×Hs)) (s:Hu Hs),(c.foldl s4a s).length=s.length
 | [],s=>rfl
 | p::c,s=>by rw[Bs,q4k c,r1d]
theorem p8b:∀(c:Hu (Int×Hs)) (s:Hu Hs),(∀p∈c,p.2.size=64)→(∀x∈s,x.size=64)→ ∀x∈c.foldl s4a s,x.size=64
 | [],s,_,h=>h
 | p::c,s,hc,h=>by
  rw[Bs]
  refine p8b c _ (fun q hq=>hc q (Bm _ hq)) (fun x hx=> ?_)
  rcases E0 hx with hx | rfl
  ·exact h x hx
  ·exact hc p (C9 ..)
theorem t9u {d:u0l} (h:u1v d=true):u1v (flush d)=true∧(flush d).2= [] ∧(flush d).1.length=d.1.length:=by
 unfold flush
 rw[Al h]
 obtain⟨h1,h2,h3,h4⟩:=p78.mp h
 refine⟨p78.mpr ⟨by rw[q4k];exact h1,by simp,p8b _ _ (fun p hp=>(h4 p hp).2) h3,fun p hp=>by cases hp⟩,rfl,q4k _ _⟩
theorem t59 (d:u0l) (hd:d1h.wt d≤1073741824):u6g d=some (flush d):=by
 have h1:d.1.length≤1073741824:=A9 t9t hd
 have h2:d.2.length≤1073741824:=A9 s2f hd
 rw[p1f];unfold r35 flush
 simp only[u67 d (by unfold u0m;omega),s45 d (by unfold u0m;omega),zOb]
 cases hk:u1v d with
 | false=>rfl
 | true=>
  obtain⟨k1,k2,k3,k4⟩:=p78.mp hk
  have L:=u8w t26 d.2 (fun s i=>(d,([], []),(s,d.2),i)) s4a (fun s=> .inl (([], []),(s,d.2))) (fun _ s=>s.length=d.1.length)
   (fun s _=>by rw[s8n];simp only[t2w,u0b,Am,Ah,Aa])
   (fun i hi s hs=>by
    refine⟨by rw[r1d];exact hs,?_⟩
    have hp:=(k4 d.2[i] (Ag hi)).1
    have hg:y4q (d.2[i]).1 s.length=true:=by simp[y4q,hs,hp.1,hp.2]
    rw[s8n];simp only[t2w,u0b,hi,Ae,Ad,y7t hi,zTn,y8k (t:=o4y) hi,hg]
    rw[y7l (by omega)]
    rfl) d.1 rfl
  simp only[Ap,Aa,L,zOb,Bl]
def q7u (keep:Hu Int) (i:Nat):Bool:=decide (i<keep.length)&& !decide (Int.tmod (rdL (Ty.int .i64) keep i) 2=0)
def u03 (keep:Hu Int):Nat→Int
 | 0=> -1
 | n+1=>if q7u keep n then(n:Int) else u03 keep n
def t4b (tear:Int):Nat:=(if Int.tmod tear 65<0 then Int.tmod tear 65+65 else Int.tmod tear 65).toNat
def t1x (d:u0l) (keep:Hu Int) (last:Int) (n:Nat) (s:Hu Hs) (i:Nat):Hu Hs:=
 if q7u keep i then
  (if(i:Int)=last then s4a s ((rdL o4y d.2 i).1,(rdL o4y d.2 i).2.extract 0 n++(rdL Ty.str s (rdL o4y d.2 i).1.toNat).extract n (rdL Ty.str s (rdL o4y d.2 i).1.toNat).size)
   else s4a s (rdL o4y d.2 i))
 else s
def t0t (d:u0l) (keep:Hu Int) (tear:Int):u0l:=
 if u1v d then((List.range d.2.length).foldl (t1x d keep (u03 keep d.2.length) (t4b tear)) d.1, []) else d
theorem p12 (tear:Int):t4b tear≤64∧((t4b tear:Nat):Int)=(if Int.tmod tear 65<0 then Int.tmod tear 65+65 else Int.tmod tear 65):=by
 have h1:Int.tmod tear 65<65:=Int.tmod_lt_of_pos _ (by omega)
 have h2: -65<Int.tmod tear 65:=by
  have:=Int.lt_tmod_of_pos tear (show(0:Int)<65 by omega)
  exact this
 unfold t4b
 split<;>omega
theorem p4k (keep:Hu Int):∀n,u03 keep n<(n:Int)∧ -1≤u03 keep n
 | 0=>by simp[u03]
 | n+1=>by
  have:=p4k keep n
  unfold u03
  split<;>omega
theorem q98 (keep:Hu Int):∀n i,i<n→q7u keep i=true→(i:Int)≤u03 keep n
 | 0,i,h,_=>by omega
 | n+1,i,h,hk=>by
  unfold u03
  split
  ·omega
  ·rename_i hn
   have:i≠n:=fun z=>by subst z;exact hn hk
   exact q98 keep n i (by omega) hk
theorem q67 (keep:Hu Int):∀n (i:Nat),u03 keep n=(i:Int)→q7u keep i=true
 | 0,i,h=>by simp[u03] at h
 | n+1,i,h=>by
  unfold u03 at h
  split at h
  ·rename_i hk
   have:n=i:=by omega
   subst this;exact hk
  ·exact q67 keep n i h
theorem o3v (keep:Hu Int) (m:Nat) (hm:keep.length≤m):∀n,m≤n→u03 keep n=u03 keep m:=by
 intro n
 induction n with
 | zero=>intro h;have:m=0:=by omega
         rw[this]
 | succ n ih=>
  intro h
  by_cases e:m=n+1
  ·rw[e]
  ·rw[←ih (by omega)]
   show(if q7u keep n then(n:Int) else u03 keep n)=_
   have:q7u keep n=false:=by
    unfold q7u
    have:decide (n<keep.length)=false:=by simp;omega
    rw[this];rfl
   rw[this,Ao (by simp)]
theorem p4v {α:Type} (f:α→Nat→α) (a:α) (n:Nat):(List.range (n+1)).foldl f a=f ((List.range n).foldl f a) n:=by
 rw[List.range_succ,List.foldl_append];rfl
section
variable {d:u0l} (hk:u1v d=true) (keep:Hu Int)
include hk in
theorem p9t {n:Nat} (hn:n≤64) {last:Int} {s:Hu Hs} (hs:s.length=d.1.length∧ ∀x∈s,x.size=64) {i:Nat} (hi:i<d.2.length):
 (t1x d keep last n s i).length=d.1.length∧ ∀x∈t1x d keep last n s i,x.size=64:=by
 obtain⟨k1,k2,k3,k4⟩:=p78.mp hk
 have hp:=k4 d.2[i] (Ag hi)
 have hat:(d.2[i]).1.toNat<s.length:=by omega
 have hold:(rdL Ty.str s (d.2[i]).1.toNat).size=64:=by
  have e:rdL Ty.str s (d.2[i]).1.toNat=s[(d.2[i]).1.toNat] :=y8k (t:=Ty.str) hat
  rw[e]
  exact hs.2 _ (Ag hat)
 unfold t1x
 rw[y8k (t:=o4y) hi]
 split
 ·split
  ·refine⟨by rw[r1d];exact hs.1,fun x hx=> ?_⟩
   rcases E0 hx with hx | rfl
   ·exact hs.2 x hx
   ·simp only[Af,Bd]
    rw[hp.2,hold]
    omega
  ·refine⟨by rw[r1d];exact hs.1,fun x hx=> ?_⟩
   rcases E0 hx with hx | rfl
   ·exact hs.2 x hx
   ·exact hp.2
 ·exact hs
def s3u (d:u0l) (keep:Hu Int) (last:Int) (n i:Nat):Hu Hs:=(List.range i).foldl (t1x d keep last n) d.1
theorem r2o {last:Int} {n i:Nat} :s3u d keep last n (i+1)=t1x d keep last n (s3u d keep last n i) i:=p4v _ _ _
include hk in
theorem q0l {n:Nat} (hn:n≤64) {last:Int} :∀i,i≤d.2.length→(s3u d keep last n i).length=d.1.length∧ ∀x∈s3u d keep last n i,x.size=64
 | 0,_=>⟨rfl,(p78.mp hk).2.2.1⟩
 | i+1,h=>by
  rw[r2o]
  exact p9t hk keep hn (q0l hn i (by omega)) (by omega)
theorem o8h {last:Int} {n L N:Nat} (h:∀i,L≤i→i<N→q7u keep i=false):∀m,L≤m→m≤N→s3u d keep last n m=s3u d keep last n L:=by
 intro m
 induction m with
 | zero=>intro h _;have:L=0:=by omega
         rw[this]
 | succ m ih=>
  intro hm hN
  by_cases e:L=m+1
  ·rw[e]
  ·rw[r2o,ih (by omega) (by omega)]
   unfold t1x
   rw[h m (by omega) (by omega),Ao (by simp)]
include hk
theorem p9u (tear:Int):u1v (t0t d keep tear)=true∧(t0t d keep tear).2= [] ∧(t0t d keep tear).1.length=d.1.length:=by
 unfold t0t
 rw[Al hk]
 have:=q0l hk keep (p12 tear).1 (last:=u03 keep d.2.length) d.2.length (Au _)
 have k1:=(p78.mp hk).1
 have hl:(s3u d keep (u03 keep d.2.length) (t4b tear) d.2.length).length=d.1.length:=this.1
 show u1v (s3u d keep (u03 keep d.2.length) (t4b tear) d.2.length, [])=true∧_
 exact⟨p78.mpr ⟨by simp only[hl];exact k1,by simp,this.2,fun p hp=>by cases hp⟩,rfl,hl⟩
theorem j0z (tear:Int) (jk out:u0l):u51 (keep,tear,d,jk,out,-1,0)=some (.inl (keep,tear,d,jk,out,u03 keep d.2.length)):=by
 have k2:=(p78.mp hk).2.1
 obtain⟨m,hm⟩:∃m,m=min d.2.length keep.length:=⟨_,rfl⟩
 have htop:u03 keep d.2.length=u03 keep m:=by
  by_cases h:keep.length≤d.2.length
  ·exact o3v keep m (by omega) d.2.length (by omega)
  ·have:m=d.2.length:=by omega
   rw[this]
 rw[htop]
 refine q4c u51 m (fun l i=>(keep,tear,d,jk,out,l,i)) (u03 keep) _ ?_ (fun i hi=> ?_)
 ·rw[s8k];simp only[t2t,u0b]
  by_cases h:m<d.2.length
  ·have: ¬m<keep.length:=by omega
   simp only[h,this,Ae,Ah,Ad,Aa,zOb]
  ·simp only[h,Ah,Aa,zOb]
 ·have h1:i<d.2.length:=by omega
  have h2:i<keep.length:=by omega
  rw[s8k];simp only[t2t,u0b,h1,h2,Ae,Ad,zOb,y7t h2,zTn]
  rw[y7l (by omega)]
  show _=u51 (keep,tear,d,jk,out,(if q7u keep i then(i:Int) else u03 keep i),((i+1:Nat):Int))
  unfold q7u
  simp only[h2,Ae,Bz]
  cases decide (Int.tmod (rdL (Ty.int .i64) keep i) 2=0)<;>rfl
theorem o00 {n:Nat} (hn:n≤64) (jk:u0l):u5d (keep,d,jk,(d.1,d.2),u03 keep d.2.length,(n:Int),0)=some (.inl (jk,(s3u d keep (u03 keep d.2.length) n d.2.length,d.2))):=by
 obtain⟨k1,k2,k3,k4⟩:=p78.mp hk
 obtain⟨hl1,hl2⟩:=p4k keep d.2.length
 obtain⟨L,hL⟩:∃L:Nat,(L:Int)=u03 keep d.2.length+1:=⟨(u03 keep d.2.length+1).toNat,by omega⟩
 have htop:s3u d keep (u03 keep d.2.length) n d.2.length=s3u d keep (u03 keep d.2.length) n L:=o8h keep (N:=d.2.length) (fun i hi hid=>by
  cases q:q7u keep i with
  | false=>rfl
  | true=>
   have:=q98 keep d.2.length i hid q
   omega) _ (by omega) (Au _)
 rw[htop]
 refine q4c u5d L (fun s i=>(keep,d,jk,(s,d.2),u03 keep d.2.length,(n:Int),i)) (s3u d keep (u03 keep d.2.length) n) _ ?_ (fun i hi=> ?_)
 ·have: ¬(L:Int)≤u03 keep d.2.length:=by omega
  rw[s6v];simp only[t0f,this,Ah,Aa]
 ·have hid:i<d.2.length:=by omega
  have hle:(i:Int)≤u03 keep d.2.length:=by omega
  have hkk:i<keep.length:=by
   obtain⟨l,hl⟩:∃l:Nat,u03 keep d.2.length=(l:Int):=⟨(u03 keep d.2.length).toNat,by omega⟩
   have:=q67 keep d.2.length l hl
   unfold q7u at this
   simp only[Ai,Ar] at this
   omega
  obtain⟨i1,i2⟩:=q0l hk keep hn (last:=u03 keep d.2.length) i (by omega)
  have hp:=k4 d.2[i] (Ag hid)
  rw[r2o]
  generalize hS:s3u d keep (u03 keep d.2.length) n i=S at*
  have hat:(d.2[i]).1.toNat<S.length:=by omega
  have hg:y4q (d.2[i]).1 S.length=true:=by simp[y4q,i1,hp.1.1,hp.1.2]
  have hold:(rdL Ty.str S (d.2[i]).1.toNat).size=64:=by
   have e:rdL Ty.str S (d.2[i]).1.toNat=S[(d.2[i]).1.toNat] :=y8k (t:=Ty.str) hat
   rw[e]
   exact i2 _ (Ag hat)
  have c1:(decide ((0:Int)≤0)&&decide ((0:Int)≤(n:Int))&&decide ((n:Int)≤((d.2[i]).2.size:Int)))=true:=by simp;omega
  have c2:(decide ((0:Int)≤(n:Int))&&decide ((n:Int)≤((rdL Ty.str S (d.2[i]).1.toNat).size:Int))&&decide (((rdL Ty.str S (d.2[i]).1.toNat).size:Int)≤((rdL Ty.str S (d.2[i]).1.toNat).size:Int)))=true:=by simp;omega
  have c3:decide (((d.2[i]).2.extract 0 n).size+((rdL Ty.str S (d.2[i]).1.toNat).extract n (rdL Ty.str S (d.2[i]).1.toNat).size).size≤140737488355328)=true:=by simp only[Bd,Ar];omega
  have z0:((0:Int)).toNat=0:=rfl
  rw[s6v];simp only[t0f,hle,Ae,Ad,y7t hid,y7t hkk,zTn,y8k (t:=o4y) hid,hg,z0,c3]
  rw[y7l (by omega),c1,c2]
  unfold t1x q7u
  rw[y8k (t:=o4y) hid]
  simp only[hkk,Ae,Bz]
  by_cases ho:Int.tmod (rdL (Ty.int .i64) keep i) 2=0
  ·simp only[ho,Ae,Ad,Ap,Br,Bk]
  ·simp only[ho,Ah,Aa,Bh,Bl]
   by_cases hl:(i:Int)=u03 keep d.2.length
   ·simp only[hl,Ae,Ad,Bl]
    rfl
   ·simp only[hl,Ah,Aa,Bk]
    rfl
end
theorem q1b (d:u0l) (keep:Hu Int) (tear:Int) (hd:d1h.wt d≤1073741824):t8d (d,keep,tear)=some (t0t d keep tear):=by
 rw[p1c];unfold r32 t0t
 simp only[u67 d (by unfold u0m;omega),s45 d (by unfold u0m;omega),zOb]
 cases hk:u1v d with
 | false=>rfl
 | true=>
  obtain⟨t1,t2⟩:=p12 tear
  have L1:=j0z hk keep tear ([], []) d
  have L2:=o00 hk keep t1 ([], [])
  rw[t2] at L2
  have hb: -65<Int.tmod tear 65:=Int.lt_tmod_of_pos tear (show(0:Int)<65 by omega)
  simp only[Ap,Aa,L1,zOb,Bl]
  by_cases h:Int.tmod tear 65<0
  ·rw[Al h] at L2
   have w:IntKind.i64.wrap (IntKind.i64.wrap (Int.tmod tear 65+64)+1)=Int.tmod tear 65+65:=by
    rw[y4y (n:=Int.tmod tear 65+64) (by omega) (by omega),y4y (by omega) (by omega)];omega
   simp only[h,Ae,Ad,w,L2,zOb]
   rfl
  ·rw[Ao h] at L2
   simp only[h,Ah,Aa,L2,zOb]
   rfl
end
section
theorem p2r (t:Hs):∀(m:Nat) (at_:Int) (acc:Hu Hs),0≤at_∧at_≤t.size→0≤(u62 t m at_ acc).2.1∧(u62 t m at_ acc).2.1≤t.size
 | 0,at_,acc,h=>h
 | m+1,at_,acc,h=>by
  unfold u62
  split
  ·rename_i hc
   simp only[Ai] at hc
   exact p2r t m _ _ (r9p hc.1)
  ·simp
theorem q4x (d:u0l) (a:Int):0≤(u0f d a).2.1∧(u0f d a).2.1≤(100*d1h.wt d:Nat):=by
 unfold u0f
 split
 ·have h1:=p2r (u8t d (u0g a+1) 47).1 (u0z d a).toNat 0 [] (by simp)
  have h2:=r9v d (u0g a+1) 47
  omega
 ·simp only[Bv,true_and]
  omega
def u00 (t:Hs):Hs:=y7g (s4b t.size)++t
theorem r9w (t:Hs):t.size≤(u00 t).size∧(u00 t).size≤2*t.size+1:=by
 unfold u00
 rw[Af,u35]
 have:=o7p t.size
 omega
def t3c (d:u0l) (a:Int) (t:Hs):Ht u0l:=
 if(u0f d a).2.2=false∨t.size=0∨3008<t.size∨255≤u0z d a∨3008<(u0f d a).2.1+((u00 t).size:Int) then none
 else u7e d (u0g a+1) (u0f d a).2.1 (u00 t)
theorem p4g (d:u0l) (a:Int) (t:Hs) (hd:d1h.wt d≤10000000) (ht:t.size≤1048576):t97 (d,a,t)=some (orD d (t3c d a t)):=by
 have hr:=q4x d a
 have hs:=r9w t
 have ha:=s2c a
 rw[p31];unfold r8f t3c
 simp only[r2h d a (by omega),u67 d (by unfold u0m;omega),s17 d a (by unfold u0m;omega),p4f t.size (by omega),s07,zOb,p0i]
 have e1:decide ((t.size:Int) >(3008:Int))=decide (3008<t.size):=by simp only[Cu];omega
 have w1:IntKind.i64.wrap ((3008:Int) - (u0f d a).2.1)=3008 - (u0f d a).2.1:=y4y (by omega) (by omega)
 have w2:IntKind.i64.wrap (u0g a+1)=u0g a+1:=y4y (by omega) (by omega)
 rw[e1]
 cases h1:(u0f d a).2.2 with
 | false=>simp[orD]
 | true=>
  by_cases h2:t.size=0
  ·simp[h2,orD]
  ·by_cases h3:3008<t.size
   ·simp[h2,h3,orD]
   ·by_cases h4:255≤u0z d a
    ·have:decide (u0z d a≥255)=true:=by simpa using h4
     simp[h2,h3,h4,orD]
    ·have e4:decide (u0z d a≥255)=false:=by simp;omega
     have c:decide ((y7g (s4b t.size)).size+t.size≤140737488355328)=true:=by
      have h5:(u00 t).size=(y7g (s4b t.size)).size+t.size:=by unfold u00;rw[Af]
      simp;omega
     simp only[h2,h3,Ah,Ap,Aa,zOb,e4,c,Ad,w1,w2]
     have hsz:y7g (s4b t.size)++t=u00 t:=rfl
     rw[hsz]
     by_cases h6:3008<(u0f d a).2.1+((u00 t).size:Int)
     ·have:decide (((u00 t).size:Int) >3008 - (u0f d a).2.1)=true:=by simp;omega
      simp[this,h6,orD]
     ·have:decide (((u00 t).size:Int) >3008 - (u0f d a).2.1)=false:=by simp;omega
      simp only[this,Aa,s5a d (u0g a+1) (u0f d a).2.1 (u00 t) (by omega) (by omega),zOb]
      rw[Ao (by simp[h2,h3,h6];omega)]
theorem o2i (t:Hs) (ht:t.size≤1048576):t8b t=some (if 20000<t.size then(emp,false) else(u00 t,true)):=by
 rw[p02];unfold r3t
 have e1:decide ((t.size:Int) >(20000:Int))=decide (20000<t.size):=by simp only[Cu];omega
 rw[e1]
 by_cases h:20000<t.size
 ·simp only[h,Ae,Ad,Bl];rfl
 ·have c:decide ((y7g (s4b t.size)).size+t.size≤140737488355328)=true:=by
   rw[u35]
   have:=o7p t.size
   simp;omega
  have hv:(0:Int)≤(t.size:Int)∧(t.size:Int)≤1000000000:=by omega
  simp only[h,Ah,Aa,r69,Al hv,zOb,zTn,c,Ad,Bk]
  rfl
def s0i (n:Int):Hs:=y7g [IntKind.u8.wrap n]
theorem u4n (n:Int):(s0i n).size=1:=by unfold s0i;rw[u35];rfl
def r0b (d:u0l) (a n:Int):Ht u0l:=u7e d (u0g a) 0 (s0i n)
theorem q4o (d:u0l) (a n:Int) (hd:d1h.wt d≤1073741824):t39 (d,a,n)=some (orD d (r0b d a n)):=by
 rw[p32];unfold r8g
 have h1:t98 n=some (s0i n):=by rw[q6w];rfl
 simp only[s07,h1,zOb,s5a d (u0g a) 0 (s0i n) hd (by rw[u4n];omega)]
 rfl
theorem j2a:∀ {f:Nat} {d x:u0l} {k at_:Nat} {t:Hs},p80 f d k at_ t=some x→(u1v d=true→u1v x=true)∧x.1=d.1∧(t.size≠0→0<f→u1v x=true)
 | 0,d,x,k,at_,t,h=>by cases h;exact⟨id,rfl,fun _ h=>by omega⟩
 | f+1,d,x,k,at_,t,h=>by
  rw[p80] at h
  split at h
  ·rename_i hz
   cases h;exact⟨id,rfl,fun hne=>absurd hz hne⟩
  ·split at h
   ·cases hw:u8m d (k:Int) ((u0k d (k:Int)).1.extract 0 at_++t.extract 0 (min t.size (64 - at_))++(u0k d (k:Int)).1.extract (at_+min t.size (64 - at_)) 64) with
    | none=>rw[hw] at h;cases h
    | some y=>
     rw[hw] at h
     simp only[zOb] at h
     obtain⟨k1,k2⟩:=t8o hw
     obtain⟨i1,i2,_⟩:=j2a h
     exact⟨fun _=>i1 k1,by rw[i2,k2],fun _ _=>i1 k1⟩
   ·cases h
theorem u8l {d x:u0l} {s at_:Int} {t:Hs} (h:u7e d s at_ t=some x):u1v d=true∧u1v x=true∧x.1=d.1:=by
 unfold u7e at h
 split at h
 ·rename_i hc
  simp only[Ai] at hc
  obtain⟨i1,i2,_⟩:=j2a h
  exact⟨hc.2,i1 hc.2,i2⟩
 ·cases h
theorem s7j {d x:u0l} {a:Int} {t:Hs} (h:t3c d a t=some x):u1v d=true∧u1v x=true∧x.1=d.1∧(u0f d a).2.2=true:=by
 unfold t3c at h
 split at h
 ·cases h
 ·rename_i hc
  have:=u8l h
  simp only[Hr] at hc
  exact⟨this.1,this.2.1,this.2.2,by simpa using hc.1⟩
theorem q4s {d:u0l} (hk:u1v d=true) (h2:d.2= []) {s:Int} (h0:0≤s) (h1:s<(d.1.length:Int)) {b:Hs} (hb:b.size=1):
 u7e d s 0 b=some (d.1, [(s,b++(rdL Ty.str d.1 s.toNat).extract 1 64)]):=by
 obtain⟨k1,k2,k3,k4⟩:=p78.mp hk
 have hlt:s.toNat<d.1.length:=by omega
 have hold:(rdL Ty.str d.1 s.toNat).size=64:=by
  have e:rdL Ty.str d.1 s.toNat=d.1[s.toNat] :=y8k (t:=Ty.str) hlt
  rw[e]
  exact k3 _ (Ag hlt)
 have hs:((s.toNat:Nat):Int)=s:=by omega
 have hrd:u0k d s=(rdL Ty.str d.1 s.toNat,true):=by
  unfold u0k
  rw[Al ⟨h0,h1⟩,h2]
  rfl
 have c:(r6u 0 0 6400&&r6u s 0 ((d.1.length:Int) - 1)&&u1v d)=true:=by
  rw[hk]
  simp[r6u]
  omega
 have e1:(rdL Ty.str d.1 s.toNat).extract 0 0=ByteArray.empty:=by
  apply Gf
  simp
 have e2:b.extract 0 1=b:=by rw[←hb];exact Fu
 have hw:u8m d s (b++(rdL Ty.str d.1 s.toNat).extract 1 64)=some (d.1, [(s,b++(rdL Ty.str d.1 s.toNat).extract 1 64)]):=by
  unfold u8m
  rw[q4f,hk,h2]
  have:r6u s 0 ((d.1.length:Int) - 1)=true:=by simp[r6u];omega
  rw[this]
  have hz:(b++(rdL Ty.str d.1 s.toNat).extract 1 64).size=64:=by
   rw[Af,Bd,hb,hold];omega
  simp[hz]
 unfold u7e
 rw[Al c]
 have z:(0:Int).toNat=0:=rfl
 simp only[z,Nat.zero_div,Nat.zero_mod,Df,hb]
 rw[p80,Ao (by omega)]
 rw[hs,hrd]
 simp only[hold,and_self,Bl,hb]
 have m1:min 1 (64 - 0)=1:=by decide
 rw[m1,e1,e2]
 have e3:ByteArray.empty++b++(rdL Ty.str d.1 s.toNat).extract (0+1) 64=b++(rdL Ty.str d.1 s.toNat).extract 1 64:=by
  rw[ByteArray.empty_append]
 rw[e3,hw]
 simp only[zOb]
 exact o1n _ _ _ _ (by rw[Bd,hb];decide)
end
section
def s2e (d:u0l) (a:Int):Int:=IntKind.i64.wrap (u0z d a+1)
def p5k (d:u0l) (a:Int) (t:Hs):Ht u0l:=(t3c d a t).map fun x=>flush (orD (flush x) (r0b (flush x) a (s2e d a))).1
theorem o8d {d x:u0l} {a:Int} {t:Hs} (h:t3c d a t=some x):o01 a=true:=by
 have:=(s7j h).2.2.2
 unfold u0f at this
 split at this
 ·rename_i hc
  simp only[Ai] at hc
  exact hc.1
 ·cases this
theorem p1z {d x:u0l} {a n:Int} {t:Hs} (hlen:d.1.length=97) (h:t3c d a t=some x):∃y,r0b (flush x) a n=some y∧u1v y=true∧y.1.length=97:=by
 obtain⟨h1,h2,h3,_⟩:=s7j h
 obtain⟨f1,f2,f3⟩:=t9u h2
 have hl:(flush x).1.length=97:=by rw[f3,h3];exact hlen
 have ha:=s2c a
 have ho:=q4s (s:=u0g a) f1 f2 (by omega) (by rw[hl];omega) (u4n n)
 have:=u8l ho
 exact⟨_,ho,this.2.1,by rw[this.2.2];exact hl⟩
theorem u5b {d:u0l} (h:u2v d=true):u1v d=true∧d.1.length=97∧d.2= [] ∧(u0f d 0).2.2=true∧(u0f d 1).2.2=true:=by
 unfold u2v at h
 simp only[Ai,Ar] at h
 obtain⟨⟨⟨⟨a,b⟩,c⟩,e⟩,f⟩:=h
 exact⟨a,b,Dk.mp c,e,f⟩
theorem o3t (d:u0l) (a:Int) (t:Hs) (hd:d1h.wt d≤10000000) (ht:t.size≤1048576) (hlen:d.1.length=97):s4x (d,a,t)=some (orD d (p5k d a t)):=by
 rw[o0t];unfold q59 p5k
 simp only[p4g d a t hd ht,zOb]
 cases hb:t3c d a t with
 | none=>rfl
 | some x=>
  have hx:=u7g (s7j hb).2.1
  have hf:=u7g (t9u (s7j hb).2.1).1
  obtain⟨y,hy,hy2,_⟩:=p1z (n:=s2e d a) hlen hb
  have hyw:=u7g hy2
  simp only[orD,Ap,Aa,t59 x (by omega),s17 d a (by unfold u0m;omega),zOb,q4o (flush x) a _ (by omega)]
  have hc:IntKind.i64.wrap (u0z d a+1)=s2e d a:=rfl
  rw[hc,hy]
  simp only[orD,t59 y (by omega),zOb,Dc,hy]
theorem p5o (d:u0l) (a:Int) (t:Hs) (hd:d1h.wt d≤10000000) (ht:t.size≤1048576):s3d (d,a,t)=some (orD d (if u2v d then p5k d a t else none)):=by
 rw[p1h];unfold r38
 simp only[q7y d (by omega),q0o,u67 d (by unfold u0m;omega),zOb]
 cases hl:u2v d with
 | false=>simp[orD]
 | true=>
  cases ha:o01 a with
  | false=>
   have hn:p5k d a t=none:=by
    unfold p5k
    cases hb:t3c d a t with
    | none=>rfl
    | some x=>rw[o8d hb] at ha;cases ha
   simp[hn,orD]
  | true=>
   simp only[Ap,Aa,zOb,o3t d a t hd ht (u5b hl).2.1,Bl]
   cases p5k d a t<;>simp[orD]
def append_ (d:u0l) (t:Hs):Ht u0l:=if u2v d then p5k d (u0n d) t else none
theorem s8u (d:u0l) (t:Hs) (hd:d1h.wt d≤10000000) (ht:t.size≤1048576):t17 (d,t)=some (orD d (append_ d t)):=by
 rw[p1a];unfold r30 append_
 simp only[s4j d (by unfold u0m;omega),zOb,p5o d _ t hd ht]
theorem o7d {d y:u0l} {a:Int} {t:Hs} (hlen:d.1.length=97) (h:p5k d a t=some y):∃x,t3c d a t=some x∧u1v x=true∧u1v y=true∧y.2= [] ∧y.1.length=97∧y=flush (orD (flush x) (r0b (flush x) a (s2e d a))).1:=by
 unfold p5k at h
 cases hb:t3c d a t with
 | none=>rw[hb] at h;cases h
 | some x=>
  rw[hb] at h
  simp only[Dc,Ac] at h
  obtain⟨z,hz,hz2,hz3⟩:=p1z (n:=s2e d a) hlen hb
  rw[hz] at h
  simp only[orD] at h
  obtain⟨f1,f2,f3⟩:=t9u hz2
  rw[←h]
  exact⟨x,rfl,(s7j hb).2.1,f1,f2,by rw[f3];exact hz3,by rw[hz];rfl⟩
def u6t (d:u0l) (t:Hs) (step:Int) (keep:Hu Int) (tear:Int):u0l:=
 match append_ d t with
 | none=>d
 | some y=>
  if step=0 then t0t (orD d (t3c d (u0n d) t)).1 keep tear
  else if step=1 then t0t (orD (flush (orD d (t3c d (u0n d) t)).1) (r0b (flush (orD d (t3c d (u0n d) t)).1) (u0n d) (s2e d (u0n d)))).1 keep tear
  else y
section
variable {d:u0l} {t:Hs} (hd:d1h.wt d≤10000000) (ht:t.size≤1048576)
include hd ht
omit hd ht in
theorem r8l {y:u0l} (h:append_ d t=some y):u2v d=true∧ ∃x z,t3c d (u0n d) t=some x∧u1v x=true∧u1v (flush x)=true∧r0b (flush x) (u0n d) (s2e d (u0n d))=some z∧u1v z=true∧u1v y=true:=by
 unfold append_ at h
 split at h
 ·rename_i hl
  obtain⟨x,h1,h2,h3,_⟩:=o7d (u5b hl).2.1 h
  obtain⟨z,hz,hz2,_⟩:=p1z (n:=s2e d (u0n d)) (u5b hl).2.1 h1
  exact⟨hl,x,z,h1,h2,(t9u h2).1,hz,hz2,h3⟩
 ·cases h
theorem p5m (step:Int) (keep:Hu Int) (tear:Int):s3b (d,t,step,keep,tear)=some (u6t d t step keep tear):=by
 rw[p1d];unfold r33 u6t
 simp only[s8u d t hd ht,u67 d (by unfold u0m;omega),s4j d (by unfold u0m;omega),s17 d _ (by unfold u0m;omega),zOb]
 cases ha:append_ d t with
 | none=>rfl
 | some y=>
  obtain⟨hl,x,z,hb,k1,k2,hz,k3,k4⟩:=r8l ha
  have w1:=u7g k1
  have w2:=u7g k2
  have w3:=u7g k3
  have hc:IntKind.i64.wrap (u0z d (u0n d)+1)=s2e d (u0n d):=rfl
  simp only[orD,Ap,Aa,p4g d _ t hd ht,hb,zOb,q1b x keep tear (by omega),t59 x (by omega),q4o (flush x) _ _ (by omega),hc,hz,q1b z keep tear (by omega)]
  by_cases h0:step=0
  ·simp[h0]
  ·by_cases h1:step=1
   ·simp[h1]
   ·simp[h0,h1]
omit ht in
theorem o2y (step:Int) (keep:Hu Int) (tear:Int):d1h.wt (u6t d t step keep tear)≤10000000:=by
 unfold u6t
 cases ha:append_ d t with
 | none=>exact hd
 | some y=>
  obtain⟨hl,x,z,hb,k1,k2,hz,k3,k4⟩:=r8l ha
  simp only[hb,orD,hz]
  split
  ·have:=u7g (p9u k1 keep tear).1;omega
  ·split
   ·have:=u7g (p9u k3 keep tear).1;omega
   ·have:=u7g k4;omega
end
end
end
end Go.Proofs.YtkdpclfhapphhaaGreat.Ab
