import Derived.Test.YtkdpclfhapphhaaGreatAbFixesG3
import Derived.Test.YtkdpclfhapphhaaGreatAbK2
import Derived.Test.YtkdpclfhapphhaaGreatAbF4
import Derived.Test.YtkdpclfhapphhaaGreatAbS2
namespace Go.Proofs.YtkdpclfhapphhaaGreat.Ab
open Go
set_option linter.unusedVariables false
set_option linter.unusedSimpArgs false
set_option linter.unnecessarySimpa false
section
section
theorem o39 (n:Int):IntKind.u8.wrap n=n % 256:=by
 simp[IntKind.wrap,IntKind.bits,IntKind.signed]
theorem u0b (a b:Nat):decide ((a:Int)<(b:Int))=decide (a<b):=by simp
theorem r5k {X R A:Type} (W:X→Ht R) (n:Nat) (mk:A→Int→X) (res:Nat→A→R) (P:Nat→A→Prop)
 (hend:∀a,P n a→W (mk a (n:Int))=some (res n a))
 (hstep:∀(i:Nat) a,i<n→P i a→W (mk a (i:Int))=some (res i a)∨ ∃a',P (i+1) a' ∧res (i+1) a' =res i a∧W (mk a (i:Int))=W (mk a' ((i+1:Nat):Int))):
 ∀(i:Nat) a,i≤n→P i a→W (mk a (i:Int))=some (res i a):=by
 intro i a hi hP
 obtain⟨d,hd⟩:∃d,i+d=n:=⟨n - i,by omega⟩
 clear hi
 induction d generalizing i a with
 | zero=>
  have:i=n:=by omega
  subst this
  exact hend a hP
 | succ d ih=>
  rcases hstep i a (by omega) hP with h | ⟨a',h1,h2,h3⟩
  ·exact h
  ·rw[h3,ih (i+1) a' h1 (by omega),h2]
def j02 {E A R:Type} (f:Nat→E→A→A⊕R) (fin:A→R):Nat→Hu E→A→R
 | _, [],a=>fin a
 | i,x::l,a=>match f i x a with
  | .inl a' =>j02 f fin (i+1) l a'
  | .inr r=>r
theorem j0w {X R A E:Type} (W:X→Ht R) (l:Hu E) (mk:A→Int→X) (f:Nat→E→A→A⊕R) (fin:A→R) (P:Nat→A→Prop)
 (hend:∀a,P l.length a→W (mk a (l.length:Int))=some (fin a))
 (hstep:∀(i:Nat) (h:i<l.length) a,P i a→match f i l[i] a with
  | .inl a' =>P (i+1) a' ∧W (mk a (i:Int))=W (mk a' ((i+1:Nat):Int))
  | .inr r=>W (mk a (i:Int))=some r) (a:A) (hP:P 0 a):W (mk a 0)=some (j02 f fin 0 l a):=by
 have key:=r5k W l.length mk (fun i a=>j02 f fin i (l.drop i) a) P (fun a h=>by
  rw[hend a h,Dp (Au _)];rfl) (fun i a hi hP=>by
   have hs:=hstep i hi a hP
   have hd:l.drop i=l[i] ::l.drop (i+1):=Ce hi
   rw[hd]
   simp only[j02]
   cases hf:f i l[i] a with
   | inl a' =>
    rw[hf] at hs
    exact .inr ⟨a',hs.1,rfl,hs.2⟩
   | inr r=>
    rw[hf] at hs
    exact .inl hs) 0 a (Cn _) hP
 exact key
def szr (b:Int) (w:Nat):Int:=if(w:Int)≤b then b - w else -1
def Ty.wt:(t:Ty)→t.den→Nat
 | .int _,_=>0
 | .bool,_=>0
 | .str,s=>s.size
 | .sl e,l=>l.length+(l.map e.wt).sum
 | .pair a b,x=>a.wt x.1+b.wt x.2
theorem s11 {X R E:Type} (W:X→Ht R) (l:Hu E) (mk:Int→X) (p:E→Bool) (yes no:R) (hend:W (mk (l.length:Int))=some no)
 (hstep:∀(i:Nat) (h:i<l.length),W (mk (i:Int))=bif p l[i] then some yes else W (mk ((i+1:Nat):Int))):W (mk 0)=some (bif l.any p then yes else no):=by
 have:=j0w W l (fun(_:Unit) i=>mk i) (fun _ x _=>if p x then .inr yes else .inl ()) (fun _=>no) (fun _ _=>True) (fun _ _=>hend) (fun i h a _=>by
  have hs:=hstep i h
  cases hp:p l[i] with
  | true=>simp only[hp,Ad] at hs;simp only[Bl];exact hs
  | false=>simp only[hp,Aa] at hs;simp only[Br,Bk];exact⟨trivial,hs⟩) () trivial
 rw[this]
 congr 1
 have key:∀(l:Hu E) (i:Nat),j02 (fun _ x (_:Unit)=>if p x then .inr yes else .inl ()) (fun _=>no) i l ()=bif l.any p then yes else no:=by
  intro l
  induction l with
  | nil=>intro i;rfl
  | cons x l ih=>
   intro i
   simp only[j02,Gd]
   cases hp:p x with
   | true=>simp
   | false=>simp only[Br,Bk,Ci];exact ih _
 exact key l 0
theorem u9a {X R E A:Type} (W:X→Ht R) (l:Hu E) (mk:A→Int→X) (f:A→E→A) (fin:A→R) (P:Nat→A→Prop)
 (hend:∀a,P l.length a→W (mk a (l.length:Int))=some (fin a))
 (hstep:∀(i:Nat) (h:i<l.length) a,P i a→P (i+1) (f a l[i])∧W (mk a (i:Int))=W (mk (f a l[i]) ((i+1:Nat):Int))) (a:A) (hP:P 0 a):W (mk a 0)=some (fin (l.foldl f a)):=by
 have:=j0w W l mk (fun _ x a=> .inl (f a x)) fin P hend (fun i h a hp=>hstep i h a hp) a hP
 rw[this]
 congr 1
 have key:∀(l:Hu E) (i:Nat) (a:A),j02 (fun _ x a=>(.inl (f a x):A⊕R)) fin i l a=fin (l.foldl f a):=by
  intro l
  induction l with
  | nil=>intro i a;rfl
  | cons x l ih=>intro i a;simp only[j02,Bs];exact ih _ _
 exact key l 0 a
theorem s3y {X R E B:Type} (W:X→Ht R) (l:Hu E) (mk:Hu B→Int→X) (p:E→Bool) (g:E→B) (fin:Hu B→R) (hl:l.length≤1099511627776)
 (hend:∀a:Hu B,a.length≤l.length→W (mk a (l.length:Int))=some (fin a))
 (hstep:∀(i:Nat) (h:i<l.length) (a:Hu B),a.length≤i→W (mk a (i:Int))=bif p l[i] then W (mk (a++ [g l[i]]) ((i+1:Nat):Int)) else W (mk a ((i+1:Nat):Int))):W (mk [] 0)=some (fin ((l.filter p).map g)):=by
 have:=u9a W l mk (fun a x=>if p x then a++ [g x] else a) fin (fun i a=>a.length≤i) hend (fun i h a hp=>by
  have hs:=hstep i h a hp
  cases hc:p l[i] with
  | true=>
   simp only[hc,Ad] at hs
   simp only[Bl]
   exact⟨by simp;omega,hs⟩
  | false=>
   simp only[hc,Aa] at hs
   simp only[Br,Bk]
   exact⟨by omega,hs⟩) [] (Au 0)
 rw[this]
 congr 1
 have key:∀(l:Hu E) (a:Hu B),l.foldl (fun a x=>if p x then a++ [g x] else a) a=a++(l.filter p).map g:=by
  intro l
  induction l with
  | nil=>intro a;simp
  | cons x l ih=>
   intro a
   simp only[Bs,ih,Di]
   cases hp:p x<;>simp
 rw[key];simp
end
section
theorem p6x (b:Hs):b.toList=toS b:=by rw[ByteArray.toList_eq];rfl
theorem j2o {a b:Hs} (h:toS a=toS b):a=b:=by rw[←y8p a,h,y8p]
theorem q78:∀(x y:Hu UInt8),Op.bytesLess x y=decide (x<y)
 | x, [] =>by simp[Op.bytesLess]
 | [],y::ys=>by simp[Op.bytesLess]
 | x::xs,y::ys=>by
  rw[Op.bytesLess,q78 xs ys,Cd]
  simp[List.cons_lt_cons_iff]
theorem o8k {a b:Hs} :y3c a b=true↔toS a<toS b:=by
 unfold y3c
 rw[p6x,p6x,q78]
 simp
theorem j55 {a b:Hs} :y3c a b=false↔ ¬toS a<toS b:=by
 rw[←o8k];simp
theorem j4o (x:Hu UInt8): ¬x<x:=List.lt_irrefl x
theorem j4p {x y z:Hu UInt8} (h:x<y) (k:y<z):x<z:=List.lt_trans h k
theorem j4q (x y:Hu UInt8):x<y∨x=y∨y<x:=by
 rcases List.le_total x y with h | h
 ·rcases Fv.mp h with h | h
  ·exact .inl h
  ·exact .inr (.inl h)
 ·rcases Fv.mp h with h | h
  ·exact .inr (.inr h)
  ·exact .inr (.inl h.symm)
theorem t1r (a:Hs):y3c a a=false:=j55.mpr (j4o _)
theorem q5d {a b c:Hs} (h:y3c a b=true) (k:y3c b c=true):y3c a c=true:=o8k.mpr (j4p (o8k.mp h) (o8k.mp k))
theorem q2q (a b:Hs):y3c a b=true∨a=b∨y3c b a=true:=by
 rcases j4q (toS a) (toS b) with h | h | h
 ·exact .inl (o8k.mpr h)
 ·exact .inr (.inl (j2o h))
 ·exact .inr (.inr (o8k.mpr h))
theorem r1x {a b:Hs} (h:y3c a b=true):y3c b a=false:=by
 cases k:y3c b a with
 | false=>rfl
 | true=>exact absurd (q5d h k) (by rw[t1r];exact Hf)
theorem o32 {a b:Hs} :z7o a b=false↔a≠b:=by
 rw[←Ey,y7f]
theorem o1b {a b:Hs} :(!(y3c a b || z7o a b))=y3c b a:=by
 rcases q2q a b with h | h | h
 ·rw[h,r1x h];rfl
 ·subst h;rw[t1r,y6l];rfl
 ·rw[r1x h,h]
  have:z7o a b=false:=o32.mpr (fun e=>by subst e;rw[t1r] at h;cases h)
  rw[this];rfl
def Asc (l:Hu Hs):Prop:=l.Pairwise fun a b=>y3c a b=true
theorem Asc.ext:∀ {l m:Hu Hs},Asc l→Asc m→(∀x,x∈l↔x∈m)→l=m
 | [], [],_,_,_=>rfl
 | [],y::m,_,_,h=>by have:=(h y).mpr (by simp);simp at this
 | x::l, [],_,_,h=>by have:=(h x).mp (by simp);simp at this
 | x::l,y::m,hl,hm,h=>by
  have hl' :=Ch.mp hl
  have hm' :=Ch.mp hm
  have hxy:x=y:=by
   rcases A8.mp ((h x).mp (by simp)) with e | e
   ·exact e
   ·rcases A8.mp ((h y).mpr (by simp)) with e' | e'
    ·exact e'.symm
    ·have:=q5d (hm'.1 x e) (hl'.1 y e')
     rw[t1r] at this;cases this
  subst hxy
  congr 1
  refine Asc.ext hl'.2 hm'.2 fun z=> ?_
  constructor
  ·intro hz
   rcases A8.mp ((h z).mp (by simp[hz])) with e | e
   ·subst e;have:=hl'.1 z hz;rw[t1r] at this;cases this
   ·exact e
  ·intro hz
   rcases A8.mp ((h z).mpr (by simp[hz])) with e | e
   ·subst e;have:=hm'.1 z hz;rw[t1r] at this;cases this
   ·exact e
theorem Asc.filter {l:Hu Hs} (h:Asc l) (p:Hs→Bool):Asc (l.filter p):=Dz p h
def o6s (k:Hs) (l:Hu Hs):Hu Hs:=l.filter (fun x=>y3c x k)++ [k] ++l.filter (fun x=> !(y3c x k || z7o x k))
theorem o9u {k x:Hs} {l:Hu Hs} :x∈o6s k l↔x=k∨x∈l:=by
 simp only[o6s,Ay,A6,Ax,o1b]
 constructor
 ·rintro((h | h) | h)
  ·exact .inr h.1
  ·exact .inl h
  ·exact .inr h.1
 ·rintro(h | h)
  ·exact .inl (.inr h)
  ·rcases q2q x k with e | e | e
   ·exact .inl (.inl ⟨h,e⟩)
   ·exact .inl (.inr e)
   ·exact .inr ⟨h,e⟩
theorem o9p {k:Hs} {l:Hu Hs} (h:Asc l):Asc (o6s k l):=by
 unfold Asc o6s
 rw[Cg,Cg]
 refine⟨⟨h.filter _,by simp,fun a ha b hb=> ?_⟩,h.filter _,fun a ha b hb=> ?_⟩
 ·simp only[Ax] at hb
  subst hb
  exact(A6.mp ha).2
 ·have hb:=(A6.mp hb).2
  rw[o1b] at hb
  rcases Ay.mp ha with ha | ha
  ·exact q5d (A6.mp ha).2 hb
  ·simp only[Ax] at ha
   subst ha
   exact hb
theorem o7u {l:Hu Hs} :∀ {a:Hu Hs},Asc a→Asc (l.foldl (fun a k=>o6s k a) a)∧ ∀x,x∈l.foldl (fun a k=>o6s k a) a↔x∈l∨x∈a:=by
 induction l with
 | nil=>intro a h;exact⟨h,fun x=>by simp⟩
 | cons k l ih=>
  intro a h
  obtain⟨h1,h2⟩:=ih (o9p (k:=k) h)
  refine⟨h1,fun x=> ?_⟩
  rw[Bs,h2,o9u,A8]
  constructor
  ·rintro(q | q | q)
   ·exact .inl (.inr q)
   ·exact .inl (.inl q)
   ·exact .inr q
  ·rintro((q | q) | q)
   ·exact .inr (.inl q)
   ·exact .inl q
   ·exact .inr (.inr q)
theorem q79 (d:Array (Hu UInt8)) (hs:∀i j:Nat,i≤j→j<d.size→d[i]! ≤d[j]!):∀m,m≤d.size→(Lib.compactUpTo d m).Pairwise (·< ·)∧(∀x,x∈Lib.compactUpTo d m↔ ∃i,i<m∧d[i]! =x)
 | 0,_=>by simp[Lib.compactUpTo]
 | m+1,hm=>by
  obtain⟨h1,h2⟩:=q79 d hs m (by omega)
  rw[Lib.compactUpTo_succ]
  by_cases hk:Lib.keeps d m=true
  ·rw[Al hk]
   constructor
   ·rw[Cg]
    refine⟨h1,by simp,fun a ha b hb=> ?_⟩
    simp only[Ax] at hb
    subst hb
    obtain⟨i,hi,rfl⟩:=(h2 a).mp ha
    unfold Lib.keeps at hk
    have hk:=Ej hk
    rcases hk with hk | hk
    ·omega
    ·have l1:=hs i (m - 1) (by omega) (by omega)
     have l2:=hs (m - 1) m (by omega) (by omega)
     rcases Fv.mp l2 with l2 | l2
     ·rcases Fv.mp l1 with l1 | l1
      ·exact j4p l1 l2
      ·rw[l1];exact l2
     ·exact absurd l2.symm hk
   ·intro x
    simp only[Ay,Ax,h2]
    constructor
    ·rintro(⟨i,hi,rfl⟩ | rfl)
     ·exact⟨i,by omega,rfl⟩
     ·exact⟨m,by omega,rfl⟩
    ·rintro⟨i,hi,rfl⟩
     rcases B8 i m with q | q
     ·exact .inl ⟨i,q,rfl⟩
     ·exact .inr (by rw[show i=m by omega])
  ·rw[Ao hk,Bw]
   refine⟨h1,fun x=> ?_⟩
   rw[h2]
   unfold Lib.keeps at hk
   simp only[Ar,Hr,ne_eq,Decidable.not_not] at hk
   constructor
   ·rintro⟨i,hi,rfl⟩;exact⟨i,by omega,rfl⟩
   ·rintro⟨i,hi,rfl⟩
    rcases B8 i m with q | q
    ·exact⟨i,q,rfl⟩
    ·have:i=m:=by omega
     subst this
     exact⟨i - 1,by omega,hk.2.symm⟩
def q6x (l:Hu Hs):Hu Hs:=y6r (y4i l)
theorem o54 (l:Hu Hs):Asc (q6x l)∧ ∀x,x∈q6x l↔x∈l:=by
 obtain⟨d,hd⟩:∃d,d=(l.map toS).mergeSort fun x y=>decide (x≤y):=⟨_,rfl⟩
 have hk:q6x l=(Lib.compact d).map unS:=by
  unfold q6x y6r y4i
  rw[←hd,List.map_map]
  have:(toS ∘unS)=id:=by funext x;rfl
  rw[this,List.map_id]
 have hsort:d.Pairwise (·≤ ·):=by
  rw[hd]
  have:=List.pairwise_mergeSort (le:=fun(x y:Hu UInt8)=>decide (x≤y)) (fun a b c h1 h2=>by
   simp only[Ar] at h1 h2 ⊢
   exact List.le_trans h1 h2) (fun a b=>by
   simp only[Cr,Ar]
   exact List.le_total a b) (l.map toS)
  exact this.imp (fun h=>by simpa using h)
 have hmem:∀x,x∈d↔x∈l.map toS:=fun x=>by rw[hd];exact(List.mergeSort_perm _ _).mem_iff
 have hs:∀i j:Nat,i≤j→j<d.toArray.size→d.toArray[i]! ≤d.toArray[j]! :=fun i j hij hj=>by
  have hj' :j<d.length:=by simpa using hj
  have hi' :i<d.length:=by omega
  rw[Fl _ i (by simpa using hi'),Fl _ j hj]
  simp only[List.getElem_toArray]
  rcases B8 i j with q | q
  ·exact Cp.mp hsort i j hi' hj' q
  ·have:i=j:=by omega
   subst this
   exact List.le_refl _
 obtain⟨h1,h2⟩:=q79 d.toArray hs d.length (by simp)
 rw[hk]
 constructor
 ·unfold Asc
  rw[Dl]
  exact h1.imp (fun h=>o8k.mpr h)
 ·intro x
  rw[Bx]
  constructor
  ·rintro⟨y,hy,rfl⟩
   obtain⟨i,hi,rfl⟩:=(h2 y).mp hy
   rw[Fl _ i (by simpa using hi)]
   have:d[i] ∈l.map toS:=(hmem _).mp (Ag hi)
   obtain⟨z,hz,e⟩:=Bx.mp this
   simp only[List.getElem_toArray]
   rw[←e,y8p]
   exact hz
  ·intro hx
   have:toS x∈d:=(hmem _).mpr (Bx.mpr ⟨x,hx,rfl⟩)
   obtain⟨i,hi,e⟩:=Gy.mp this
   refine⟨toS x,(h2 _).mpr ⟨i,hi,?_⟩,y8p x⟩
   rw[Fl _ i (by simpa using hi)]
   simpa using e
theorem o2e (l:Hu Hs):(y4i l).length=l.length:=by simp[y4i]
theorem j17 (l:Hu Hs) (p:Hs→Bool):(l.filter p).foldl (fun a k=>o6s k a) [] =(q6x l).filter p:=by
 obtain⟨h1,h2⟩:=o7u (l:=l.filter p) (a:= []) List.Pairwise.nil
 obtain⟨k1,k2⟩:=o54 l
 refine Asc.ext h1 (k1.filter p) fun x=> ?_
 rw[h2,A6,A6,k2]
 simp
end
section
def u0k:Nat:=1099511627776
theorem p62 {α:Type} {f:α→Nat} {l:Hu α} {x:α} (h:x∈l):f x≤(l.map f).sum:=by
 induction l with
 | nil=>cases h
 | cons y l ih=>
  simp only[C8,Ge]
  rcases A8.mp h with rfl | h
  ·omega
  ·have:=ih h;omega
abbrev t2h:Ty:=(.pair .str .str)
abbrev u2m:Ty:=(.pair .str (.pair .str .bool))
abbrev u0e:Ty:=(.pair .str (.pair .str (.pair .bool (.int .i64))))
abbrev j36:Ty:=(.pair .str .str)
abbrev d0r:Ty:=(.pair .str .str)
abbrev o4j:Ty:=(.pair (.int .i64) .str)
abbrev d0s:Ty:=(.pair (.sl .str) (.sl o4j))
abbrev u00:Ty:=(.pair (.int .i64) (.pair (.int .i64) (.pair (.int .i64) (.pair (.int .i64) (.pair (.sl t2h) (.pair (.sl u2m) (.pair .bool .str)))))))
abbrev j35:Ty:=(.pair (.sl u0e) (.pair (.sl u00) (.pair (.sl u00) (.pair (.int .i64) (.int .i64)))))
abbrev j64:Ty:=(.pair (.int .i64) (.pair u00 (.pair .str (.pair .bool j35))))
abbrev j63:Ty:=(.pair j35 (.sl u00))
end
section
abbrev u0h:=Int×Int×Int×Int×Hu (Hs×Hs)×Hu (Hs×Hs×Bool)×Bool×Hs
theorem u0r {n:Nat} (h:n≤1099511627776):Nat.ble n z7w=true:=Nat.ble_eq_true_of_le h
def inR (r:Hs×Hs) (k:Hs):Bool:= !y3c k r.1&&(y3c k r.2 || z7o k r.2)
theorem q7f (r:Hs×Hs) (k:Hs):s05 (r,k)=some (inR r k):=by
 rw[p4p];unfold q0a inR;cases y3c k r.1<;>rfl
theorem q7e (r:Hs×Hs) (k:Hs):s0y (r,k)=some (inR r k):=by
 rw[p31];unfold r9m inR;cases y3c k r.1<;>rfl
def q2r (r:Hu t2h.den) (w:Hu u2m.den):Bool:=r.any fun x=>w.any fun y=>inR x y.1
def p2x (a b:Hu u2m.den):Bool:=a.any fun x=>b.any fun y=>z7o x.1 y.1
end
section
theorem p0v {X R A:Type} (W:X→Ht R) (n:Nat) (mk:A→Int→X) (v:Nat→A) (r:R) (hend:W (mk (v n) (n:Int))=some r)
 (hstep:∀i,i<n→W (mk (v i) (i:Int))=W (mk (v (i+1)) ((i+1:Nat):Int))):W (mk (v 0) 0)=some r:=by
 have:=r5k W n (fun(_:Unit) i=>mk (v i.toNat) i) (fun _ _=>r) (fun _ _=>True) (fun _ _=>by simpa using hend) (fun i a hi _=> .inr ⟨(),trivial,rfl,by
  have h:=hstep i hi
  have e:((i:Int)+1).toNat=i+1:=by omega
  simp only[zTn]
  exact h⟩) 0 () (Cn _) trivial
 simpa using this
theorem o4t {α:Type} (p:α→Bool):∀(l a:Hu α),l.foldl (fun a x=>if p x=true then a++ [x] else a) a=a++l.filter p
 | [],a=>by simp
 | x::l,a=>by
  rw[Bs,o4t p l]
  cases hc:p x<;>simp[hc]
abbrev u2b:=Hs×Hs×Bool×Int
def emp:Hs:=⟨#[]⟩
def o0j (l:Hu u2b) (k:Hs) (snap out:Int) (i:Nat):Int:=
 if z7o (rdL u0e l i).1 k=true∧(rdL u0e l i).2.2.2≤snap∧(out<0∨(rdL u0e l i).2.2.2 >(rdL u0e l out.toNat).2.2.2) then(i:Int) else out
def q4e (l:Hu u2b) (k:Hs) (snap:Int):Nat→Int
 | 0=> -1
 | n+1=>o0j l k snap (q4e l k snap n) n
def t73 (l:Hu u2b) (k:Hs) (snap:Int):Int:=q4e l k snap l.length
theorem q4f (l:Hu u2b) (k:Hs) (snap:Int):∀n,-1≤q4e l k snap n∧q4e l k snap n<(n:Int)
 | 0=>by simp[q4e]
 | n+1=>by
  have:=q4f l k snap n
  simp only[q4e,o0j]
  split<;>omega
theorem p6m (l:Hu u2b) (k:Hs) (snap:Int): -1≤t73 l k snap∧t73 l k snap<(l.length:Int):=q4f l k snap l.length
theorem p2u (l:Hu u2b) (k:Hs) (snap:Int) (hl:l.length≤1099511627776):s6z (l,k,snap)=some (t73 l k snap):=by
 have L:=p0v t5g l.length (fun a i=>(l,k,snap,a,i)) (fun i=>q4e l k snap i) (.inl (t73 l k snap))
  (by rw[q12];simp only[s0m,u0b,Am,Ah,Aa];rfl)
  (fun i hi=>by
   have hr:=q4f l k snap i
   rw[q12]
   simp only[s0m,u0b,hi,Ae,Ad,y7t hi,zTn,q4e,o0j]
   rw[y7l (by omega)]
   cases h1:z7o (rdL u0e l i).1 k with
   | false=>simp[h1]
   | true=>
    by_cases h2:(rdL u0e l i).2.2.2≤snap
    ·by_cases h3:q4e l k snap i<0
     ·simp[h1,h2,h3]
     ·have hg:y4q (q4e l k snap i) l.length=true:=y7s.mpr ⟨by omega,by omega⟩
      by_cases h4:(rdL u0e l i).2.2.2 >(rdL u0e l (q4e l k snap i).toNat).2.2.2
      ·simp[h1,h2,h3,h4,hg]
      ·simp[h1,h2,h3,h4,hg]
    ·simp[h1,h2])
 have L:t5g (l,k,snap,-1,0)=_:=L
 rw[o03];unfold q73
 simp only[L,zOb]
theorem p2t (l:Hu u2b) (k:Hs) (snap:Int) (hl:l.length≤1099511627776):s3i (l,k,snap)=some (t73 l k snap):=by
 have L:=p0v t2u l.length (fun a i=>(l,k,snap,a,l,(l.length:Int),i)) (fun i=>q4e l k snap i) (.inl (t73 l k snap))
  (by rw[r8g];simp only[t8i,u0b,Am,Ah,Aa];rfl)
  (fun i hi=>by
   have hr:=q4f l k snap i
   rw[r8g]
   simp only[t8i,u0b,hi,Ae,Ad,y7t hi,zTn,q4e,o0j]
   rw[y7l (by omega)]
   cases h1:z7o (rdL u0e l i).1 k with
   | false=>simp[h1]
   | true=>
    by_cases h2:(rdL u0e l i).2.2.2≤snap
    ·by_cases h3:q4e l k snap i<0
     ·simp[h1,h2,h3]
     ·have hg:y4q (q4e l k snap i) l.length=true:=y7s.mpr ⟨by omega,by omega⟩
      by_cases h4:(rdL u0e l i).2.2.2 >(rdL u0e l (q4e l k snap i).toNat).2.2.2
      ·simp[h1,h2,h3,h4,hg]
      ·simp[h1,h2,h3,h4,hg]
    ·simp[h1,h2])
 have L:t2u (l,k,snap,-1,l,(l.length:Int),0)=_:=L
 rw[p72];unfold q3g
 simp only[L,zOb]
def q1u (l:Hu u2b) (k:Hs) (snap:Int):Hs×Bool:=
 if t73 l k snap<0∨(rdL u0e l (t73 l k snap).toNat).2.2.1=true then(emp,false) else((rdL u0e l (t73 l k snap).toNat).2.1,true)
theorem o13 (l:Hu u2b) (k:Hs) (snap:Int) (y:Int) (hy:y=t73 l k snap):
 (((bif decide (y<0) then some true else(bif y4q y l.length then some (rdL u0e l y.toNat).2.2.1 else none)):Ht Bool).bind fun j2=>(bif j2 then some ((⟨#[]⟩:Hs),false) else(bif y4q y l.length then some ((rdL u0e l y.toNat).2.1,true) else none)))=some (q1u l k snap):=by
 subst hy
 have hr:=p6m l k snap
 unfold q1u
 by_cases h:t73 l k snap<0
 ·simp[h,emp]
 ·have hg:y4q (t73 l k snap) l.length=true:=y7s.mpr ⟨by omega,by omega⟩
  cases h2:(rdL u0e l (t73 l k snap).toNat).2.2.1<;>simp[h,hg,h2,emp]
theorem o26 (l:Hu u2b) (k:Hs) (snap:Int) (hl:l.length≤1099511627776):r1n (l,k,snap)=some (q1u l k snap):=by
 rw[p8h];unfold q3v
 simp only[p2u l k snap hl,zOb]
 exact o13 l k snap _ rfl
theorem o25 (l:Hu u2b) (k:Hs) (snap:Int) (hl:l.length≤1099511627776):r1g (l,k,snap)=some (q1u l k snap):=by
 rw[p7y];unfold q3a
 simp only[p2t l k snap hl,zOb]
 exact o13 l k snap _ rfl
theorem o69 (l:Hu u2b) (hl:l.length≤1099511627775):r1h l=some (q6x (l.map fun v=>v.1)):=by
 have L:=s3y t8t l (fun a i=>(a,l,(l.length:Int),i)) (fun _=>true) (fun v=>v.1) (fun a=> .inl a) (by omega)
  (fun a _=>by rw[r8f];simp only[t8h,u0b,Am,Ah,Aa])
  (fun i hi a ha=>by
   rw[r8f];simp only[t8h,u0b,hi,Ae,Ad,y7t hi,zTn,y8k (t:=u0e) hi,Aw,u0r (show a.length+1≤1099511627776 by omega)]
   rw[y7l (by omega)])
 have hf:l.filter (fun _=>true)=l:=by simp
 rw[hf] at L
 have h1:y7a (l.map fun v=>v.1)=some (y4i (l.map fun v=>v.1)):=by
  unfold y7a;rw[Da,u0r (by omega)];rfl
 have h2:y0m (y4i (l.map fun v=>v.1))=some (q6x (l.map fun v=>v.1)):=by
  unfold y0m;rw[o2e,Da,u0r (by omega)];rfl
 rw[p71];unfold q3f
 simp only[L,zOb,s4a,s1k]
 simp only[h1,h2,zOb]
theorem p2p (l:Hu Hs):(q6x l).length≤l.length:=by
 have:=z6h (y4i l)
 rw[o2e] at this
 exact this
theorem o3l (k:Hs) (r:Hs×Hs) (l:Hu u2b) (j:Int) (out:Hu Hs) (ho:out.length≤1099511627775):
 t0x (l,r,out,j,k, [],0)=some (.inl (l,r,out,j,k,out.filter fun x=>y3c x k)):=by
 have L:=s3y t0x out (fun a i=>(l,r,out,j,k,a,i)) (fun x=>y3c x k) (fun x=>x) (fun a=> .inl (l,r,out,j,k,a)) (by omega)
  (fun a _=>by rw[r5e];simp only[t6v,u0b,Am,Ah,Aa])
  (fun i hi a ha=>by
   rw[r5e];simp only[t6v,u0b,hi,Ae,Ad,y7t hi,zTn,y8k (t:=Ty.str) hi,Aw,u0r (show a.length+1≤1099511627776 by omega)]
   rw[y7l (by omega)])
 rw[Er] at L
 exact L
theorem o1f (k:Hs) (r:Hs×Hs) (l:Hu u2b) (j:Int) (out a0:Hu Hs) (ho:out.length+a0.length≤1099511627775):
 u8o (l,r,out,j,k,a0,0)=some (.inl (l,r,j,a0++out.filter fun x=> !(y3c x k || z7o x k))):=by
 have L:=u9a u8o out (fun a i=>(l,r,out,j,k,a,i)) (fun a x=>if(!(y3c x k || z7o x k))=true then a++ [x] else a) (fun a=> .inl (l,r,j,a)) (fun i a=>a.length≤a0.length+i)
  (fun a _=>by rw[r0u];simp only[t38,u0b,Am,Ah,Aa])
  (fun i hi a ha=>by
   rw[r0u];simp only[t38,u0b,hi,Ae,Ad,y7t hi,zTn,y8k (t:=Ty.str) hi,Aw,u0r (show a.length+1≤1099511627776 by omega)]
   rw[y7l (by omega)]
   cases hc:(!(y3c out[i] k || z7o out[i] k)) with
   | true=>simp;omega
   | false=>simp;omega) a0 (by simp)
 rw[o4t (fun x=> !(y3c x k || z7o x k))] at L
 exact L
theorem o9q (k:Hs) (l:Hu Hs):(o6s k l).length≤l.length+1:=by
 unfold o6s
 have h:(fun x=> !(y3c x k || z7o x k))=fun x=>y3c k x:=by funext x;exact o1b
 rw[h]
 have:(l.filter fun x=>y3c x k).length+(l.filter fun x=>y3c k x).length≤l.length:=by
  induction l with
  | nil=>simp
  | cons x l ih=>
   simp only[Di]
   cases h1:y3c x k with
   | true=>rw[r1x h1];simp;omega
   | false=>cases h2:y3c k x<;>simp<;>omega
 simp
 omega
theorem o7a (l:Hu u2b) (r:Hs×Hs) (hl:l.length≤500000000000):s78 (l,r)=some ((q6x (l.map fun v=>v.1)).filter fun k=>inR r k):=by
 have L:=u9a t69 l (fun a i=>(l,r,a,i)) (fun a v=>if inR r v.1=true then o6s v.1 a else a) (fun a=> .inl a) (fun i a=>a.length≤i)
  (fun a _=>by rw[r5d];simp only[t6u,u0b,Am,Ah,Aa])
  (fun i hi a ha=>by
   rw[r5d];simp only[t6u,u0b,hi,Ae,Ad,y7t hi,zTn,y8k (t:=u0e) hi,q7f,zOb]
   cases hc:inR r l[i].1 with
   | false=>
    simp only[Bh,Ad,Br,Bk]
    rw[y7l (by omega)]
    exact⟨by omega,rfl⟩
   | true=>
    have hlow:(a.filter fun x=>y3c x l[i].1).length≤a.length:=Cs _ _
    simp only[Ap,Aa,Bl,o3l l[i].1 r l (i:Int) a (by omega),zOb,Aw,u0r (show(a.filter fun x=>y3c x l[i].1).length+1≤1099511627776 by omega),Ad,
     o1f l[i].1 r l (i:Int) a (a.filter (fun x=>y3c x l[i].1)++ [l[i].1]) (by simp;omega)]
    rw[y7l (by omega)]
    exact⟨A9 (o9q _ _) (by omega),rfl⟩) [] (by simp)
 rw[p5c];unfold q0y
 simp only[L,zOb]
 have hfold:∀(m:Hu u2b) (a:Hu Hs),m.foldl (fun a v=>if inR r v.1=true then o6s v.1 a else a) a=((m.map fun v=>v.1).filter fun k=>inR r k).foldl (fun a k=>o6s k a) a:=by
  intro m
  induction m with
  | nil=>intro a;rfl
  | cons x m ih=>
   intro a
   rw[Bs,ih]
   cases hc:inR r x.1<;>simp[hc]
 rw[hfold,j17]
def o1y (l:Hu u2b) (r:Hs×Hs) (snap:Int):Hu (Hs×Hs):=
 ((q6x (l.map fun v=>v.1)).filter fun k=>(q1u l k snap).2&&inR r k).map fun k=>(k,(q1u l k snap).1)
theorem p0q (l:Hu u2b) (r:Hs×Hs) (snap:Int) (hl:l.length≤500000000000):s3h (l,r,snap)=some (o1y l r snap):=by
 obtain⟨ks,hks⟩:∃ks,ks=q6x (l.map fun v=>v.1):=⟨_,rfl⟩
 have hkl:ks.length≤l.length:=by
  rw[hks]
  refine A9 (p2p _) (by simp)
 have L:=s3y t8s ks (fun a i=>(l,snap,r,a,ks,(ks.length:Int),i)) (fun k=>(q1u l k snap).2&&inR r k) (fun k=>(k,(q1u l k snap).1)) (fun a=> .inl a) (by omega)
  (fun a _=>by rw[r8e];simp only[t8g,u0b,Am,Ah,Aa])
  (fun i hi a ha=>by
   rw[r8e];simp only[t8g,u0b,hi,Ae,Ad,y7t hi,zTn,y8k (t:=Ty.str) hi,o25 l _ snap (show l.length≤1099511627776 by omega),q7e,zOb,Aw,u0r (show a.length+1≤1099511627776 by omega)]
   rw[y7l (by omega)]
   cases (q1u l ks[i] snap).2<;>rfl)
 rw[p7w];unfold q28
 simp only[o69 l (show l.length≤1099511627775 by omega),zOb]
 rw[←hks]
 simp only[L,zOb]
 rw[hks]
 rfl
theorem o6f (l:Hu u2b) (r:Hs×Hs) (snap:Int):(o1y l r snap).length≤l.length:=by
 unfold o1y
 rw[Da]
 refine A9 (Cs _ _) (A9 (p2p _) (by simp))
end
section
theorem r80 {E:Type} (p:E→Bool):∀(l:Hu E),(l.takeWhile p).length≤l.length∧(∀(i:Nat) (h:i<l.length),i<(l.takeWhile p).length→p l[i] =true)∧
 (∀(h:(l.takeWhile p).length<l.length),p l[(l.takeWhile p).length] =false)∧l.takeWhile p=l.take (l.takeWhile p).length∧l.dropWhile p=l.drop (l.takeWhile p).length
 | [] =>⟨Au _,fun i h=>absurd h (Ee i),fun h=>absurd h (Ee _),rfl,rfl⟩
 | x::l=>by
  obtain⟨h1,h2,h3,h4,h5⟩:=r80 p l
  cases hp:p x with
  | false=>
   simp only[F8,hp,List.dropWhile_cons,Br,Bk,Cc]
   exact⟨Cn _,fun i _ h=>absurd h (Ee i),fun _=>hp,rfl,rfl⟩
  | true=>
   simp only[F8,hp,List.dropWhile_cons,Bl,Bc]
   refine⟨by omega,fun i h k=> ?_,fun h=> ?_,?_,?_⟩
   ·cases i with
    | zero=>exact hp
    | succ i=>simpa using h2 i (by simpa using h) (by omega)
   ·simpa using h3 (by omega)
   ·rw[List.take_succ_cons,←h4]
   ·rw[List.drop_succ_cons,←h5]
theorem j34 {X R E:Type} (W:X→Ht R) (l:Hu E) (mk:Hu E→Int→X) (p:E→Bool) (fin:Hu E→Int→R)
 (hend:W (mk l (l.length:Int))=some (fin l (l.length:Int)))
 (hstep:∀(i:Nat) (h:i<l.length),W (mk (l.take i) (i:Int))=bif p l[i] then W (mk (l.take (i+1)) ((i+1:Nat):Int)) else some (fin (l.take i) (i:Int))):
 W (mk [] 0)=some (fin (l.takeWhile p) ((l.takeWhile p).length:Int)):=by
 obtain⟨h1,h2,h3,h4,_⟩:=r80 p l
 have:=r5k W (l.takeWhile p).length (fun(a:Hu E) i=>mk a i) (fun _ _=>fin (l.takeWhile p) ((l.takeWhile p).length:Int)) (fun i a=>a=l.take i)
  (fun a ha=>by
   rw[ha]
   by_cases hk:(l.takeWhile p).length<l.length
   ·rw[hstep _ hk,h3 hk,Aa,←h4]
   ·have e:(l.takeWhile p).length=l.length:=by omega
    have e2:l.takeWhile p=l:=by rw[h4,e];exact Cq
    rw[e2,Cq]
    exact hend)
  (fun i a hi ha=> .inr ⟨_,rfl,rfl,by rw[ha,hstep i (by omega),h2 i (by omega) hi,Ad]⟩) 0 [] (Cn _) (by simp)
 exact this
theorem j1t {X R E:Type} (W:X→Ht R) (l:Hu E) (mk:Int→X) (p:E→Bool) (yes:Int→R) (no:R)
 (hend:W (mk (l.length:Int))=some no)
 (hstep:∀(i:Nat) (h:i<l.length),W (mk (i:Int))=bif p l[i] then W (mk ((i+1:Nat):Int)) else some (yes (i:Int))):
 W (mk 0)=some (if(l.takeWhile p).length<l.length then yes ((l.takeWhile p).length:Int) else no):=by
 obtain⟨h1,h2,h3,_,_⟩:=r80 p l
 have:=r5k W (l.takeWhile p).length (fun(_:Unit) i=>mk i) (fun _ _=>if(l.takeWhile p).length<l.length then yes ((l.takeWhile p).length:Int) else no) (fun _ _=>True)
  (fun a _=>by
   by_cases hk:(l.takeWhile p).length<l.length
   ·rw[hstep _ hk,h3 hk,Aa,Al hk]
   ·have e:(l.takeWhile p).length=l.length:=by omega
    rw[Ao hk,e]
    exact hend)
  (fun i a hi _=> .inr ⟨(),trivial,rfl,by rw[hstep i (by omega),h2 i (by omega) hi,Ad]⟩) 0 () (Cn _) trivial
 exact this
def u76 (v y:u2b):Bool:=y3c y.1 v.1 || (z7o y.1 v.1&&decide (y.2.2.2≤v.2.2.2))
def o44 (l:Hu u2b) (v:u2b):Hu u2b:=l.takeWhile (u76 v)++ [v] ++l.dropWhile (u76 v)
def t8a (l:Hu u2b) (ws:Hu u2m.den) (cs:Int):Hu u2b:=ws.foldl (fun l w=>o44 l (w.1,w.2.1,w.2.2,cs)) l
theorem p86 (l:Hu u2b) (v:u2b):(o44 l v).length=l.length+1:=by
 have:l.length=(l.takeWhile (u76 v)).length+(l.dropWhile (u76 v)).length:=by rw[←Ba,Fe]
 simp[o44]
 omega
theorem q47:∀(ws:Hu u2m.den) (l:Hu u2b) (cs:Int),(t8a l ws cs).length=l.length+ws.length
 | [],l,cs=>rfl
 | w::ws,l,cs=>by
  have:=q47 ws (o44 l (w.1,w.2.1,w.2.2,cs)) cs
  unfold t8a at this ⊢
  rw[Bs,this,p86]
  simp
  omega
theorem j2f (l:Hu u2b) (v:u2b):o44 l v=l.take (l.takeWhile (u76 v)).length++ [v] ++l.drop (l.takeWhile (u76 v)).length:=by
 obtain⟨_,_,_,h4,h5⟩:=r80 (u76 v) l
 unfold o44
 rw[←h4,←h5]
theorem p5x (a b:Hs):t5b (a,b)=some (if y3c a b then -1 else if z7o a b then 0 else 1):=by
 have ns:∀x,t2j x=some false:=fun x=>by
  rw[q4k];unfold s5x
  have:z7o x x=true:=by simp[z7o]
  rw[this];rfl
 rw[r84];unfold s2p
 simp only[ns,zOb,Aa]
 cases y3c a b<;>cases z7o a b<;>rfl
theorem o6y (a b:Int):t91 (a,b)=some (if a<b then -1 else if a >b then 1 else 0):=by
 have ns:∀x,t82 x=some false:=fun x=>by
  rw[p09];unfold r5u
  simp
 rw[q56];unfold s8e
 simp only[ns,zOb,Aa]
 by_cases h:a<b
 ·simp[h]
 ·by_cases h2:a >b<;>simp[h,h2]
theorem j1o (y v:u2b):t5c (y,v)=some (!u76 v y):=by
 rw[r85];unfold s2q
 rw[s1j];unfold t23
 simp only[p5x,zOb]
 unfold u76
 cases h1:y3c y.1 v.1 with
 | true=>simp
 | false=>
  cases h2:z7o y.1 v.1 with
  | false=>simp
  | true=>
   simp only[Br,Bk,Bl,Ae,Ap,Aa,o6y,zOb,Ci,Bz]
   by_cases h3:y.2.2.2<v.2.2.2
   ·have:y.2.2.2≤v.2.2.2:=by omega
    simp[h3,this]
   ·by_cases h4:y.2.2.2 >v.2.2.2
    ·have: ¬y.2.2.2≤v.2.2.2:=by omega
     simp[h3,h4,this]
    ·have:y.2.2.2≤v.2.2.2:=by omega
     simp[h3,h4,this]
theorem o68 (l:Hu u2b) (v:u2b) (hl:l.length≤1099511627775):u1u (l,v)=some (if(l.takeWhile (u76 v)).length<l.length then((l.takeWhile (u76 v)).length:Int) else -1):=by
 have L:=j1t u0w l (fun i=>(l,v,(l.length:Int),i)) (u76 v) (fun i=> .inr i) (.inl ())
  (by rw[u2p];simp only[u0v,u0b,Am,Ah,Aa])
  (fun i hi=>by
   rw[u2p]
   simp only[u0v,u0b,hi,Ae,Ad,y7t hi,zTn,y8k (t:=u0e) hi,j1o,zOb]
   rw[y7l (by omega)]
   cases u76 v l[i] <;>rfl)
 rw[u62];unfold u2w
 simp only[L,zOb]
 by_cases h:(l.takeWhile (u76 v)).length<l.length
 ·simp only[Al h]
 ·simp only[Ao h]
theorem p50 (l:Hu u2b) (v:u2b) (k:Nat) (hk:k≤l.length) (hl:l.length≤1099511627775):u3r (l,(k:Int), [v])=some (l.take k++ [v] ++l.drop k):=by
 rw[s3e]
 unfold y2q
 have h1:decide ((0:Int)≤(k:Int))=true:=by simp
 have h2:decide ((k:Int)≤(l.length:Int))=true:=by simpa using hk
 simp only[h1,h2,u0r (show l.length+1≤1099511627776 by omega),Bz,Aw,zTn]
 rfl
theorem q8r (l:Hu u2b) (ws:Hu u2m.den) (cs:Int) (hl:l.length+ws.length≤1000000000000):t2k (l,ws,cs)=some (t8a l ws cs):=by
 have L:=u9a u8c ws (fun a i=>(cs,a,ws,(ws.length:Int),i)) (fun l w=>o44 l (w.1,w.2.1,w.2.2,cs)) (fun a=> .inl a) (fun i a=>a.length=l.length+i)
  (fun a _=>by rw[s25];simp only[u78,u0b,Am,Ah,Aa])
  (fun i hi a ha=>by
   have hal:a.length≤1099511627775:=by omega
   rw[s25]
   simp only[u78,u0b,hi,Ae,Ad,y7t hi,zTn,y8k (t:=u2m) hi,o68 a _ hal,zOb]
   refine⟨by rw[p86];omega,?_⟩
   obtain⟨t1,_⟩:=r80 (u76 (ws[i].1,ws[i].2.1,ws[i].2.2,cs)) a
   rw[j2f,y7l (by omega)]
   by_cases hk:(a.takeWhile (u76 (ws[i].1,ws[i].2.1,ws[i].2.2,cs))).length<a.length
   ·rw[Al hk]
    have:decide (((a.takeWhile (u76 (ws[i].1,ws[i].2.1,ws[i].2.2,cs))).length:Int)<0)=false:=by simp
    simp only[this,Aa,p50 a _ _ t1 hal,zOb]
   ·rw[Ao hk]
    have e:(a.takeWhile (u76 (ws[i].1,ws[i].2.1,ws[i].2.2,cs))).length=a.length:=by omega
    have:decide ((-1:Int)<0)=true:=by decide
    simp only[this,Ad,p50 a _ _ (Au _) hal,zOb]
    rw[e]) l (by simp)
 rw[q4l];unfold s5y
 simp only[u0r (show l.length≤1099511627776 by omega),Ad,L,zOb]
 rfl
theorem o9g (ws:Hu u2m.den) (cs:Int) (l:Hu u2b) (j:Int) (v:u2b) (hl:l.length≤1000000000000):
 u56 (ws,cs,l,j,v, [],0)=some (.inl (ws,cs,l,j,v,l.takeWhile (u76 v),((l.takeWhile (u76 v)).length:Int))):=
 j34 u56 l (fun a i=>(ws,cs,l,j,v,a,i)) (u76 v) (fun a i=> .inl (ws,cs,l,j,v,a,i))
  (by rw[s27];simp only[u8a,u0b,Am,Ah,Aa,zOb])
  (fun i hi=>by
   rw[s27]
   have hb:((l.take i).length+ [l[i]].length)≤1099511627776:=by simp;omega
   simp only[u8a,u0b,hi,Ae,Ad,y7t hi,zTn,y8k (t:=u0e) hi,u0r hb]
   rw[y7l (by omega),B9 hi]
   unfold u76
   cases h1:y3c l[i].1 v.1 with
   | true=>simp
   | false=>
    cases h2:z7o l[i].1 v.1 with
    | false=>simp
    | true=>
     by_cases h3:l[i].2.2.2≤v.2.2.2<;>simp[h3])
theorem r12 (l:Hu u2b) (ws:Hu u2m.den) (cs:Int) (hl:l.length+ws.length≤1000000000000):u70 (l,ws,cs)=some (t8a l ws cs):=by
 have L:=u9a u8d ws (fun a i=>(ws,cs,a,i)) (fun l w=>o44 l (w.1,w.2.1,w.2.2,cs)) (fun a=> .inl a) (fun i a=>a.length=l.length+i)
  (fun a _=>by rw[s26];simp only[u79,u0b,Am,Ah,Aa])
  (fun i hi a ha=>by
   have hal:a.length≤1000000000000:=by omega
   rw[s26]
   simp only[u79,u0b,hi,Ae,Ad,y7t hi,zTn,y8k (t:=u2m) hi,o9g ws cs a _ _ hal,zOb]
   obtain⟨v,hv⟩:∃v:u2b,v=(ws[i].1,ws[i].2.1,ws[i].2.2,cs):=⟨_,rfl⟩
   rw[←hv]
   obtain⟨t1,_,_,t4,t5⟩:=r80 (u76 v) a
   refine⟨by rw[p86];omega,?_⟩
   have g1:decide ((0:Int)≤((a.takeWhile (u76 v)).length:Int))=true:=by simp
   have g2:decide (((a.takeWhile (u76 v)).length:Int)≤(a.length:Int))=true:=by simpa using t1
   have g3:decide ((a.length:Int)≤(a.length:Int))=true:=by simp
   have b1:(a.takeWhile (u76 v)).length+ [v].length≤1099511627776:=by simp;omega
   have b2:(a.takeWhile (u76 v)++ [v]).length+(a.drop (a.takeWhile (u76 v)).length).length≤1099511627776:=by simp;omega
   simp only[g1,g2,g3,Bz,u0r b1,Ad,Cq,u0r b2]
   rw[y7l (by omega),←t5]
   rfl) l (by simp)
 rw[q4s];unfold s53
 simp only[Cc,Co,Cf,u0r (show l.length≤1099511627776 by omega),Ad,L,zOb]
 rfl
end
section
abbrev PrT:=Hs×Hs
theorem o73 {a b:Hu PrT} (h:a.length=b.length):(bif (a.zip b).any (fun p=> !(z7o p.1.1 p.2.1&&(z7o p.1.2 p.2.2&&true))) then false else true)=decide (a=b):=by
 induction a generalizing b with
 | nil=>
  cases b with
  | nil=>rfl
  | cons _ _=>simp at h
 | cons x a ih=>
  cases b with
  | nil=>simp at h
  | cons y b=>
   have ih:=ih (b:=b) (by simpa using h)
   simp only[List.zip_cons_cons,Gd]
   by_cases h1:x.1=y.1
   ·by_cases h2:x.2=y.2
    ·have hxy:x=y:=Prod.ext h1 h2
     subst hxy
     rw[y6l,y6l]
     simp only[Dt,Ap,Ci,ih]
     simp
    ·have:=o32.mpr h2
     rw[this]
     have hne: ¬(x::a=y::b):=fun e=>h2 (by injection e with e;rw[e])
     simp[hne]
   ·have:=o32.mpr h1
    rw[this]
    have hne: ¬(x::a=y::b):=fun e=>h1 (by injection e with e;rw[e])
    simp[hne]
theorem o5p (a b:Hu PrT) (ha:a.length≤1099511627776):u8y (a,b)=some (decide (a=b)):=by
 rw[s83];unfold t7z
 by_cases h:a.length=b.length
 ·have hz:(a.zip b).length=a.length:=by simp[h]
  have L:=s11 u40 (a.zip b) (fun i=>(a,b,(a.length:Int),i)) (fun p=> !(z7o p.1.1 p.2.1&&(z7o p.1.2 p.2.2&&true))) (.inr false) (.inl ())
   (by rw[t45,hz];simp only[u4z,u0b,Am,Ah,Aa])
   (fun i hi=>by
    have hi1:i<a.length:=by omega
    have hi2:i<b.length:=by omega
    rw[t45];simp only[u4z,u0b,hi1,Ae,Ad,y7t hi1,y7t hi2,zTn,y8k (t:=j36) hi1,y8k (t:=j36) hi2,List.getElem_zip]
    rw[y7l (by omega)])
  have e1:decide ((a.length:Int)=(b.length:Int))=true:=by simp[h]
  simp only[e1,Ap,Aa,L,zOb]
  rw[←o73 h]
  cases (a.zip b).any fun p=> !(z7o p.1.1 p.2.1&&(z7o p.1.2 p.2.2&&true))<;>rfl
 ·have e1:decide ((a.length:Int)=(b.length:Int))=false:=by simp;omega
  have e2:decide (a=b)=false:=by
   rw[Bu];intro e;exact h (by rw[e])
  rw[e1,e2];rfl
end
section
theorem o0c (r:Hu t2h.den) (w:Hu u2m.den) (hr:r.length≤u0k) (hw:w.length≤u0k):s73 (r,w)=some (q2r r w):=by
 unfold u0k at hr hw
 have inner:∀(i:Nat) (hi:i<r.length),t0t (r,w,(i:Int),0)=some (bif w.any (fun y=>inR r[i] y.1) then .inr true else .inl (r,w,(i:Int))):=fun i hi=>
  s11 t0t w (fun j=>(r,w,(i:Int),j)) (fun y=>inR r[i] y.1) _ _ (by
   rw[r49];simp only[t6q,u0b,Am,Ah,Aa]) (fun j hj=>by
   rw[r49];simp only[t6q,u0b,hj,Ae,Ad,y7t hi,y7t hj,zTn,y8k hi,y8k hj,q7f,zOb]
   rw[y7l (by omega)])
 have outer:=s11 t68 r (fun i=>(r,w,i)) (fun x=>w.any fun y=>inR x y.1) (.inr true) (.inl ()) (by
  rw[r48];simp only[t6p,u0b,Am,Ah,Aa]) (fun i hi=>by
  rw[r48];simp only[t6p,u0b,hi,Ae,Ad,inner i hi,zOb]
  have ws:=y7l (i:=i) (by omega)
  cases w.any fun y=>inR r[i] y.1<;>simp only[Ad,Aa,ws])
 rw[p4z];unfold q0k
 simp only[outer,zOb]
 unfold q2r
 cases r.any fun x=>w.any fun y=>inR x y.1<;>rfl
theorem o5o (r w:Hu u2m.den) (hr:r.length≤u0k) (hw:w.length≤u0k):s6x (r,w)=some (p2x r w):=by
 unfold u0k at hr hw
 have inner:∀(i:Nat) (hi:i<r.length),t5f (r,w,(i:Int),0)=some (bif w.any (fun y=>z7o r[i].1 y.1) then .inr true else .inl (r,w,(i:Int))):=fun i hi=>
  s11 t5f w (fun j=>(r,w,(i:Int),j)) (fun y=>z7o r[i].1 y.1) _ _ (by
   rw[q1z];simp only[s0j,u0b,Am,Ah,Aa]) (fun j hj=>by
   rw[q1z];simp only[s0j,u0b,hj,Ae,Ad,y7t hi,y7t hj,zTn,y8k hi,y8k hj,zOb]
   rw[y7l (by omega)])
 have outer:=s11 s0q r (fun i=>(r,w,i)) (fun x=>w.any fun y=>z7o x.1 y.1) (.inr true) (.inl ()) (by
  rw[q1y];simp only[s0i,u0b,Am,Ah,Aa]) (fun i hi=>by
  rw[q1y];simp only[s0i,u0b,hi,Ae,Ad,inner i hi,zOb]
  have ws:=y7l (i:=i) (by omega)
  cases w.any fun y=>z7o r[i].1 y.1<;>simp only[Ad,Aa,ws])
 rw[o0z];unfold q7z
 simp only[outer,zOb]
 unfold p2x
 cases r.any fun x=>w.any fun y=>z7o x.1 y.1<;>rfl
theorem o0b (r:Hu t2h.den) (w:Hu u2m.den) (hr:r.length≤u0k) (hw:w.length≤u0k):s7s (r,w)=some (q2r r w):=by
 unfold u0k at hr hw
 have inner:∀(i:Nat) (hi:i<r.length),t0h (w,r[i],r,(r.length:Int),(i:Int),w,(w.length:Int),0)=some (bif w.any (fun y=>inR r[i] y.1) then .inr true else .inl (w,r,(r.length:Int),(i:Int))):=fun i hi=>
  s11 t0h w (fun j=>(w,r[i],r,(r.length:Int),(i:Int),w,(w.length:Int),j)) (fun y=>inR r[i] y.1) _ _ (by
   rw[r4q];simp only[t59,u0b,Am,Ah,Aa]) (fun j hj=>by
   rw[r4q];simp only[t59,u0b,hj,Ae,Ad,y7t hi,y7t hj,zTn,y8k hi,y8k hj,q7e,zOb]
   rw[y7l (by omega)])
 have outer:=s11 t62 r (fun i=>(w,r,(r.length:Int),i)) (fun x=>w.any fun y=>inR x y.1) (.inr true) (.inl ()) (by
  rw[r4p];simp only[t58,u0b,Am,Ah,Aa]) (fun i hi=>by
  rw[r4p];simp only[t58,u0b,hi,Ae,Ad,y7t hi,zTn,y8k hi,inner i hi,zOb]
  have ws:=y7l (i:=i) (by omega)
  cases w.any fun y=>inR r[i] y.1<;>simp only[Ad,Aa,ws])
 rw[p4a];unfold r9v
 simp only[outer,zOb]
 unfold q2r
 cases r.any fun x=>w.any fun y=>inR x y.1<;>rfl
def q76 (a b:u00.den):Bool:=
 decide (a.2.1=3)&&decide (b.2.1=3)&& !decide (a.1=b.1)&&
 (decide (a.2.2.2.1≤b.2.2.1)&&q2r b.2.2.2.2.1 a.2.2.2.2.2.1 || decide (a.2.2.2.1<b.2.2.2.1)&&p2x a.2.2.2.2.2.1 b.2.2.2.2.2.1 || decide (b.2.2.2.1 >a.2.2.1)&&q2r a.2.2.2.2.1 b.2.2.2.2.2.1)
theorem p2o (a:u00.den):t9b a=some (decide (a.2.1=3)):=by
 rw[q4o];rfl
end
section
def d0v (l:Hu u00.den) (j i:Nat):Bool:=q76 (rdL u00 l j) (rdL u00 l i)
def j4r (l:Hu u00.den) (t:Hu Nat) (i:Nat):Bool:= !t.contains i&& !(List.range l.length).any (fun j=> !decide (j=i)&&(!t.contains j&&d0v l j i))
def o92 (l:Hu u00.den) (t:Hu Nat):Ht Nat:=(List.range l.length).find? (j4r l t)
def j4s (l:Hu u00.den):Nat→Hu Nat→Ht (Hu Nat)
 | 0,t=>some t
 | k+1,t=>match o92 l t with
  | none=>none
  | some i=>j4s l k (t++ [i])
def j7f (l:Hu u00.den):Ht (Hu Nat):=j4s l l.length []
section
variable {l:Hu u00.den} (hw:∀x∈l,u00.wt x≤u0k) (hl:l.length≤1048576)
include hw hl
end
end
section
def j7k (l:Hu u00.den):Nat:=(l.map fun t=>t.2.2.2.2.2.1.length).sum
section
variable {l:Hu u00.den} (hw:∀x∈l,u00.wt x≤u0k) (hl:l.length+j7k l≤1048576) (hr:∀x∈l,x.2.2.2.2.1.length≤1048576)
include hl
include hr
include hw
end
end
section
abbrev Src:=Hu Int×Int×Int
def Src.ok (s:Src):Prop:=s.1.length≤1048576∧0≤s.2.1∧s.2.1≤(s.1.length:Int)
def Dr {T:Type} (F:Ht (T×Src)) (p:T→Prop):Prop:= ∃y s,F=some (y,s)∧s.ok∧p y
theorem o4r (v:BitVec IntKind.i64.bits):0≤IntKind.i64.wrap ((v&&&BitVec.ofInt IntKind.i64.bits 255).toNat:Int)∧IntKind.i64.wrap ((v&&&BitVec.ofInt IntKind.i64.bits 255).toNat:Int)<256:=by
 have h:(v&&&BitVec.ofInt IntKind.i64.bits 255).toNat≤255:=by
  rw[BitVec.toNat_and]
  exact A9 Nat.and_le_right (by decide)
 rw[y4y (by omega) (by omega)]
 omega
theorem q5x {s:Src} (h:s.ok):Dr (u6r s) (fun y=>0≤y∧y<256):=by
 obtain⟨l,p,z⟩:=s
 obtain⟨h1,h2,h3⟩:=h
 simp only at h1 h2 h3
 rw[p43];unfold q0o
 simp only
 by_cases hp:p<(l.length:Int)
 ·have hg:y4q p l.length=true:=by simp[y4q,h2,hp]
  simp only[hp,Ae,Ad,hg]
  exact⟨_,_,rfl,⟨h1,by simp only;rw[y4y (by omega) (by omega)];omega,by simp only;rw[y4y (by omega) (by omega)];omega⟩,o4r _⟩
 ·simp only[hp,Ah,Aa]
  exact⟨_,_,rfl,⟨h1,h2,h3⟩,o4r _⟩
theorem r8z {a n:Int} (ha:0≤a) (hn:0<n):0≤Int.tmod a n∧Int.tmod a n<n:=⟨Int.tmod_nonneg _ ha,Int.tmod_lt_of_pos _ hn⟩
theorem u2k {s:Src} (h:s.ok) {n:Int} (hn:0<n):Dr (u0m (s,n)) (fun y=>0≤y∧y<n):=by
 rw[p2c];unfold r6x
 have h0:decide (n≤0)=false:=by simp;omega
 have h0' :(!decide (n=0))=true:=by simp;omega
 simp only[h0,Aa,h0',Ad]
 by_cases h1:n≤256
 ·simp only[h1,Ae,Ad]
  obtain⟨y,s1,e1,k1,r1⟩:=q5x h
  simp only[e1,zOb]
  exact⟨_,_,rfl,k1,r8z r1.1 hn⟩
 ·simp only[h1,Ah,Aa]
  obtain⟨y1,s1,e1,k1,r1⟩:=q5x h
  obtain⟨y2,s2,e2,k2,r2⟩:=q5x k1
  obtain⟨y3,s3,e3,k3,r3⟩:=q5x k2
  obtain⟨y4,s4,e4,k4,r4⟩:=q5x k3
  simp only[e1,e2,e3,e4,zOb]
  refine⟨_,_,rfl,k4,r8z ?_ hn⟩
  rw[y4y (n:=y1*16777216) (by omega) (by omega),y4y (n:=y2*65536) (by omega) (by omega),y4y (n:=y3*256) (by omega) (by omega),y4y (n:=y1*16777216+y2*65536) (by omega) (by omega),
   y4y (n:=y1*16777216+y2*65536+y3*256) (by omega) (by omega),y4y (n:=y1*16777216+y2*65536+y3*256+y4) (by omega) (by omega)]
  omega
theorem r00 {s:Src} (h:s.ok) {n:Int} (hn:0<n):Dr (u12 (s,n)) (fun _=>True):=by
 rw[p44];unfold q0p
 obtain⟨y,s1,e1,k1,r1⟩:=u2k h hn
 simp only[e1,zOb]
 exact⟨_,_,rfl,k1,trivial⟩
theorem q17 {s:Src} (h:s.ok) {l:Hu Hs} (hl:0<l.length):Dr (u2a (s,l)) (fun y=>y∈l):=by
 rw[p45];unfold q0q
 obtain⟨y,s1,e1,k1,r1⟩:=u2k h (n:=(l.length:Int)) (by omega)
 obtain⟨i,rfl⟩:∃i:Nat,y=(i:Int):=⟨y.toNat,by omega⟩
 have hi:i<l.length:=by omega
 simp only[e1,zOb,y7t hi,Ad,zTn]
 exact⟨_,_,rfl,k1,by show rdL Ty.str l i∈l;have h:rdL Ty.str l i=l[i] :=y8k (t:=Ty.str) (l:=l) hi;rw[h];exact Ag hi⟩
theorem j3z {l:Hu Int} (hl:l.length≤1048576):∃s:Src,s3l l=some s∧s.ok:=by
 have key:∀(d i:Nat) (z:Int),i≤l.length→l.length - i≤d→ ∃z',t2z (l,z,(i:Int))=some (.inl (l,z')):=by
  intro d
  induction d with
  | zero=>
   intro i z hi hd
   have:i=l.length:=by omega
   subst this
   rw[s5l]
   simp only[t2r,u0b,Am,Ah,Aa,zOb]
   exact⟨_,rfl⟩
  | succ d ih=>
   intro i z hi hd
   by_cases h:i<l.length
   ·rw[s5l]
    simp only[t2r,u0b,h,Ae,Ad,zOb,y7t h]
    rw[y7l (by omega)]
    cases decide ((i:Int)<4000) with
    | false=>exact⟨_,rfl⟩
    | true=>exact ih (i+1) _ (by omega) (by omega)
   ·have:i=l.length:=by omega
    subst this
    rw[s5l]
    simp only[t2r,u0b,Am,Ah,Aa,zOb]
    exact⟨_,rfl⟩
 obtain⟨z',hz⟩:=key l.length 0 (IntKind.i64.wrap (77601+(l.length:Int))) (Cn _) (by omega)
 rw[p8j];unfold q3x
 have hz' :t2z (l,IntKind.i64.wrap (77601+(l.length:Int)),0)=_:=hz
 simp only[hz',zOb]
 exact⟨_,rfl,hl,Bv _,by simp only;omega⟩
theorem o4c {s:Src} (h:s.ok):Dr (u4g s) (fun y=>y.size≤2):=by
 rw[q4v];unfold r07
 obtain⟨y,s1,e1,k1,r1⟩:=q17 h (l:= [(⟨#[97]⟩:Hs),(⟨#[98]⟩:Hs),(⟨#[99]⟩:Hs),(⟨#[100]⟩:Hs),(⟨#[97,98]⟩:Hs)]) (by decide)
 simp only[e1,zOb]
 refine⟨_,_,rfl,k1,?_⟩
 simp only[A8,Ep,Em] at r1
 rcases r1 with rfl | rfl | rfl | rfl | rfl<;>decide
theorem o9h {s:Src} (h:s.ok):Dr (u5l s) (fun y=>y.1.size≤2∧y.2.size≤2):=by
 rw[r67];unfold s35
 obtain⟨y1,s1,e1,k1,r1⟩:=o4c h
 obtain⟨y2,s2,e2,k2,r2⟩:=r00 k1 (n:=2) (by omega)
 obtain⟨y3,s3,e3,k3,r3⟩:=o4c k2
 simp only[e1,e2,e3,zOb]
 cases y2 with
 | true=>exact⟨_,_,rfl,k2,r1,r1⟩
 | false=>
  simp only[Aa]
  cases y3c y3 y1 with
  | true=>exact⟨_,_,rfl,k3,r3,r1⟩
  | false=>exact⟨_,_,rfl,k3,r1,r3⟩
theorem o7e {s:Src} (h:s.ok):Dr (s2i s) (fun y=>y.length≤3∧ ∀r∈y,r.1.size≤2∧r.2.size≤2):=by
 have key:∀(d i:Nat) (s:Src) (a:Hu t2h.den),s.ok→a.length=i→4≤i+d→i≤3→(∀r∈a,r.1.size≤2∧r.2.size≤2)→
  ∃(s' :Src) (a' :Hu t2h.den),u7x (s,a,(i:Int))=some (.inl (s',a'))∧s'.ok∧a'.length≤3∧ ∀r∈a',r.1.size≤2∧r.2.size≤2:=by
  intro d
  induction d with
  | zero=>intro i s a _ _ h1 h2;omega
  | succ d ih=>
   intro i s a hs ha hd hi hr
   obtain⟨y,s1,e1,k1,r1⟩:=u2k hs (n:=4) (by omega)
   rw[q5q]
   simp only[t8o,e1,zOb]
   by_cases hy:(i:Int)<y
   ·obtain⟨y2,s2,e2,k2,r2⟩:=o9h k1
    have hc:Nat.ble (a.length+([y2] :Hu t2h.den).length) z7w=true:=by
     rw[Nat.ble_eq,ha];simp only[Bc,Cc,z7w];omega
    simp only[hy,Ae,Ad,e2,zOb]
    rw[hc,y7l (by omega)]
    exact ih (i+1) s2 (a++ [y2]) k2 (by simp[ha]) (by omega) (by omega) (fun r hm=>by
     rcases Ay.mp hm with q | q
     ·exact hr r q
     ·simp only[A8,Ep,Em] at q;subst q;exact r2)
   ·simp only[hy,Ah,Aa]
    exact⟨_,_,rfl,k1,by omega,hr⟩
 obtain⟨s',a',e1,k1,r1,r2⟩:=key 4 0 s [] h rfl (by omega) (by omega) (fun r hr=>by cases hr)
 rw[q9t];unfold r26
 have e1:u7x (s, [],0)=_:=e1
 simp only[e1,zOb]
 exact⟨_,_,rfl,k1,r1,r2⟩
theorem o4i {s:Src} (h:s.ok):Dr (u4h s) (fun y=>y.1.size≤2∧y.2.1.size≤3):=by
 rw[r68];unfold s36
 obtain⟨y1,s1,e1,k1,r1⟩:=o4c h
 obtain⟨y2,s2,e2,k2,r2⟩:=q17 k1 (l:= [(⟨#[111,110,101]⟩:Hs),(⟨#[116,119,111]⟩:Hs),(⟨#[]⟩:Hs),(⟨#[120,0]⟩:Hs)]) (by decide)
 obtain⟨y3,s3,e3,k3,r3⟩:=r00 k2 (n:=5) (by omega)
 simp only[e1,e2,e3,zOb]
 have hz:y2.size≤3:=by
  simp only[A8,Ep,Em] at r2
  rcases r2 with rfl | rfl | rfl | rfl<;>decide
 cases y3 with
 | true=>exact⟨_,_,rfl,k3,r1,by show ByteArray.size ⟨#[]⟩≤3;decide⟩
 | false=>exact⟨_,_,rfl,k3,r1,hz⟩
def p3p (l:Hu u2m.den) (w:u2m.den):Hu u2m.den:=l.filter (fun x=>y3c x.1 w.1)++ [w] ++l.filter (fun x=> !(y3c x.1 w.1 || z7o x.1 w.1))
theorem r02 (l:Hu u2m.den) (w:u2m.den) (hl:l.length≤1048576):t9g (l,w)=some (p3p l w):=by
 have L1:=s3y t4k l (fun a i=>(l,w,a,i)) (fun x=>y3c x.1 w.1) (fun x=>x) (fun a=> .inl (l,w,a)) (by omega) (fun a ha=>by
  rw[r0l];simp only[t3y,u0b,Am,Ah,Aa]) (fun i hi a ha=>by
  have hc:Nat.ble (a.length+([l[i]] :Hu u2m.den).length) z7w=true:=by
   rw[Nat.ble_eq];simp only[Bc,Cc,z7w];omega
  rw[r0l];simp only[t3y,u0b,hi,Ae,Ad,y7t hi,zTn,y8k hi]
  rw[y7l (by omega),hc]
  rfl)
 simp only[Er] at L1
 have L2:=u9a t4l l (fun a i=>(l,w,a,i)) (fun(a:Hu u2m.den) x=>if y3c x.1 w.1 || z7o x.1 w.1 then a else a++ [x]) (fun a=> .inl a) (fun i a=>a.length≤1048577+i) (fun a ha=>by
  rw[r0m];simp only[t3z,u0b,Am,Ah,Aa]) (fun i hi a ha=>by
  have hc:Nat.ble (a.length+([l[i]] :Hu u2m.den).length) z7w=true:=by
   rw[Nat.ble_eq];simp only[Bc,Cc,z7w];omega
  rw[r0m];simp only[t3z,u0b,hi,Ae,Ad,y7t hi,zTn,y8k hi]
  rw[y7l (by omega),hc]
  cases hq:y3c l[i].1 w.1 || z7o l[i].1 w.1 with
  | true=>simp only[Ap,Aa,Bl];refine⟨by omega,?_⟩;trivial
  | false=>simp only[Bh,Ad,Br,Bk];refine⟨by simp;omega,?_⟩;trivial)
 have key:∀(l:Hu u2m.den) (a:Hu u2m.den),l.foldl (fun(a:Hu u2m.den) x=>if y3c x.1 w.1 || z7o x.1 w.1 then a else a++ [x]) a=a++l.filter (fun x=> !(y3c x.1 w.1 || z7o x.1 w.1)):=by
  intro l
  induction l with
  | nil=>intro a;simp
  | cons x l ih=>
   intro a
   simp only[Bs,ih,Di]
   cases hq:y3c x.1 w.1 || z7o x.1 w.1<;>simp
 have hlen:(l.filter (fun x=>y3c x.1 w.1)).length≤l.length:=Cs _ _
 have L2' :=L2 (l.filter (fun x=>y3c x.1 w.1)++ [w]) (by simp;omega)
 rw[key] at L2'
 have hc:Nat.ble ((l.filter (fun x=>y3c x.1 w.1)).length+([w] :Hu u2m.den).length) z7w=true:=by
  rw[Nat.ble_eq];simp only[Bc,Cc,z7w];omega
 rw[p13];unfold r6n
 simp only[L1,zOb]
 rw[hc]
 simp only[Ad,L2',zOb]
 rfl
theorem q48 {l:Hu u2m.den} {w x:u2m.den} (h:x∈p3p l w):x∈l∨x=w:=by
 unfold p3p at h
 simp only[Bi,Ay,A6,A8,Ep,Em] at h
 rcases h with h | h | h
 ·exact .inl h.1
 ·exact .inr h
 ·exact .inl h.1
theorem p87 (l:Hu u2m.den) (w:u2m.den):(p3p l w).length≤l.length+1:=by
 have:∀l:Hu u2m.den,(l.filter (fun x=>y3c x.1 w.1)).length+(l.filter (fun x=> !(y3c x.1 w.1 || z7o x.1 w.1))).length≤l.length:=by
  intro l
  induction l with
  | nil=>simp
  | cons x l ih=>
   simp only[Di]
   cases y3c x.1 w.1<;>cases z7o x.1 w.1<;>simp only[Ew,Fp,Ap,Bh,Bl,Bk,Br,Bc] <;>omega
 unfold p3p
 have:=this l
 simp only[Ba,Bc,Cc]
 omega
def KD (l:Hu u2m.den):Prop:=l.Pairwise fun a b=>a.1≠b.1
theorem j2g {l:Hu u2m.den} {w:u2m.den} (h:KD l):KD (p3p l w):=by
 unfold KD p3p at*
 rw[Bi,Cg]
 refine⟨h.filter _,?_,fun a ha b hb e=> ?_⟩
 ·rw[Fs,Ch]
  refine⟨fun b hb e=> ?_,h.filter _⟩
  have:=(A6.mp hb).2
  simp[z7o,e] at this
 ·have h1:=(A6.mp ha).2
  rw[Fs,A8] at hb
  rcases hb with rfl | hb
  ·rw[e,t1r] at h1;cases h1
  ·have h2:=(A6.mp hb).2
   rw[←e,h1] at h2
   cases h2
theorem o7j {s:Src} (h:s.ok):Dr (t1a s) (fun y=>y.length≤3∧(∀r∈y,r.1.size≤2∧r.2.1.size≤3)∧KD y):=by
 have key:∀(d i:Nat) (s:Src) (a:Hu u2m.den),s.ok→a.length≤i→4≤i+d→i≤3→(∀r∈a,r.1.size≤2∧r.2.1.size≤3)→KD a→
  ∃(s' :Src) (a' :Hu u2m.den),u38 (s,a,(i:Int))=some (.inl (s',a'))∧s'.ok∧a'.length≤3∧(∀r∈a',r.1.size≤2∧r.2.1.size≤3)∧KD a' :=by
  intro d
  induction d with
  | zero=>intro i s a _ _ h1 h2;omega
  | succ d ih=>
   intro i s a hs ha hd hi hr hk
   obtain⟨y,s1,e1,k1,r1⟩:=u2k hs (n:=4) (by omega)
   rw[s7h]
   simp only[t17,e1,zOb]
   by_cases hy:(i:Int)<y
   ·obtain⟨y2,s2,e2,k2,r2⟩:=o4i k1
    simp only[hy,Ae,Ad,e2,zOb,r02 a y2 (by omega)]
    rw[y7l (by omega)]
    exact ih (i+1) s2 (p3p a y2) k2 (by have:=p87 a y2;omega) (by omega) (by omega) (fun r hm=>by
     rcases q48 hm with q | q
     ·exact hr r q
     ·subst q;exact r2) (j2g hk)
   ·simp only[hy,Ah,Aa]
    exact⟨_,_,rfl,k1,by omega,hr,hk⟩
 obtain⟨s',a',e1,k1,r1,r2⟩:=key 4 0 s [] h (by simp) (by omega) (by omega) (fun r hr=>by cases hr) List.Pairwise.nil
 rw[r3c];unfold s12
 have e1:u38 (s, [],0)=_:=e1
 simp only[e1,zOb]
 exact⟨_,_,rfl,k1,r1,r2⟩
def j7i (t:u00.den):Prop:=t.2.2.2.2.1.length≤3∧(∀r∈t.2.2.2.2.1,r.1.size≤2∧r.2.size≤2)∧t.2.2.2.2.2.1.length≤3∧(∀r∈t.2.2.2.2.2.1,r.1.size≤2∧r.2.1.size≤3)∧t.2.2.2.2.2.2.2.size≤16
def tId (t:u00.den):Int:=t.1
def tSt (t:u00.den):Int:=t.2.1
def j7j (t:u00.den):Int:=t.2.2.1
def tCs (t:u00.den):Int:=t.2.2.2.1
def j4e (t:u00.den):Prop:=tSt t=3∧j7j t<tCs t∧KD t.2.2.2.2.2.1
def j4l (l:Hu u00.den):Prop:=(∀t∈l,j4e t)∧l.Pairwise fun a b=>tId a≠tId b∧tCs a<tCs b
end
section
def d02 (m:Hu PrT):Prop:=m.Pairwise fun a b=>y3c a.1 b.1=true
theorem o9v {l:Hu u2b} {v x:u2b} :x∈o44 l v↔x=v∨x∈l:=by
 unfold o44
 conv=>rhs;rw[←Fe (p:=u76 v) (l:=l)]
 simp only[Ay,Ax]
 constructor
 ·rintro((h | h) | h)
  ·exact .inr (.inl h)
  ·exact .inl h
  ·exact .inr (.inr h)
 ·rintro(h | h | h)
  ·exact .inl (.inr h)
  ·exact .inl (.inl h)
  ·exact .inr h
theorem t80 {x:u2b} :∀(ws:Hu u2m.den) (l:Hu u2b) (cs:Int),x∈t8a l ws cs↔x∈l∨ ∃w∈ws,x=(w.1,w.2.1,w.2.2,cs)
 | [],l,cs=>by simp[t8a]
 | w::ws,l,cs=>by
  have e:t8a l (w::ws) cs=t8a (o44 l (w.1,w.2.1,w.2.2,cs)) ws cs:=rfl
  rw[e,t80 ws,o9v]
  constructor
  ·rintro((h | h) | ⟨y,hy,h⟩)
   ·exact .inr ⟨w,by simp,h⟩
   ·exact .inl h
   ·exact .inr ⟨y,by simp[hy],h⟩
  ·rintro(h | ⟨y,hy,h⟩)
   ·exact .inl (.inr h)
   ·rcases A8.mp hy with rfl | hy
    ·exact .inl (.inl h)
    ·exact .inr ⟨y,hy,h⟩
def vCs (x:u2b):Int:=x.2.2.2
theorem p59 (l:Hu u2b) (k:Hs) (snap:Int):∀n,n≤l.length→
 (q4e l k snap n<0→ ∀(i:Nat) (h:i<l.length),i<n→ ¬(l[i].1=k∧vCs l[i] ≤snap))∧
 (∀a:Nat,q4e l k snap n=(a:Int)→ ∃h:a<l.length,l[a].1=k∧vCs l[a] ≤snap∧ ∀(i:Nat) (h:i<l.length),i<n→l[i].1=k→vCs l[i] ≤snap→vCs l[i] ≤vCs l[a])
 | 0,_=>⟨fun _ i _ h=>absurd h (Ee i),fun a e=>by simp only[q4e] at e;omega⟩
 | n+1,hn=>by
  obtain⟨h1,h2⟩:=p59 l k snap n (by omega)
  have hlt:n<l.length:=by omega
  have hr:=q4f l k snap n
  simp only[q4e,o0j,y8k (t:=u0e) hlt]
  by_cases hc:z7o l[n].1 k=true∧l[n].2.2.2≤snap∧(q4e l k snap n<0∨l[n].2.2.2 >(rdL u0e l (q4e l k snap n).toNat).2.2.2)
  ·rw[Al hc]
   obtain⟨c1,c2,c3⟩:=hc
   have c1:l[n].1=k:=y7f.mp c1
   refine⟨fun h=>by omega,fun a e=> ?_⟩
   have e:n=a:=by omega
   subst e
   refine⟨hlt,c1,c2,fun i hi hin hk hs=> ?_⟩
   by_cases q:i=n
   ·subst q;exact Bv _
   ·rcases Int.lt_or_le (q4e l k snap n) 0 with z | z
    ·exact absurd ⟨hk,hs⟩ (h1 z i hi (by omega))
    ·obtain⟨b,hb⟩:∃b:Nat,q4e l k snap n=(b:Int):=⟨(q4e l k snap n).toNat,by omega⟩
     obtain⟨hbl,_,_,g3⟩:=h2 b hb
     rcases c3 with c3 | c3
     ·omega
     ·rw[hb,zTn,y8k (t:=u0e) hbl] at c3
      have h5:=g3 i hi (by omega) hk hs
      have c3:vCs l[n] >vCs l[b] :=c3
      omega
  ·rw[Ao hc]
   have hc' :l[n].1=k→vCs l[n] ≤snap→ ∃b:Nat,q4e l k snap n=(b:Int)∧ ∃h:b<l.length,vCs l[n] ≤vCs l[b] :=fun c1 c2=>by
    rcases Int.lt_or_le (q4e l k snap n) 0 with z | z
    ·exact absurd ⟨y7f.mpr c1,c2, .inl z⟩ hc
    ·obtain⟨b,hb⟩:∃b:Nat,q4e l k snap n=(b:Int):=⟨(q4e l k snap n).toNat,by omega⟩
     obtain⟨hbl,_⟩:=h2 b hb
     refine⟨b,hb,hbl,Hk.mp fun z2=>hc ⟨y7f.mpr c1,c2, .inr ?_⟩⟩
     rw[hb,zTn,y8k (t:=u0e) hbl]
     exact z2
   refine⟨fun h i hi hin=> ?_,fun a e=> ?_⟩
   ·by_cases q:i=n
    ·subst q
     rintro⟨z1,z2⟩
     obtain⟨b,hb,_⟩:=hc' z1 z2
     omega
    ·exact h1 h i hi (by omega)
   ·obtain⟨ha,g1,g2,g3⟩:=h2 a e
    refine⟨ha,g1,g2,fun i hi hin hk hs=> ?_⟩
    by_cases q:i=n
    ·subst q
     obtain⟨b,hb,hbl,g4⟩:=hc' hk hs
     have e:b=a:=by omega
     subst e
     exact g4
    ·exact g3 i hi (by omega) hk hs
end
section
theorem twl {E:Type} (p:E→Bool):∀(l:Hu E),(l.takeWhile p).length≤l.length∧(∀(i:Nat) (h:i<l.length),i<(l.takeWhile p).length→p l[i] =true)∧
 (∀(h:(l.takeWhile p).length<l.length),p l[(l.takeWhile p).length] =false)
 | [] =>⟨Au _,fun i h=>absurd h (Ee i),fun h=>absurd h (Ee _)⟩
 | x::l=>by
  obtain⟨h1,h2,h3⟩:=twl p l
  cases hp:p x with
  | false=>
   simp only[F8,hp,Br,Bk,Cc]
   exact⟨Cn _,fun i _ h=>absurd h (Ee i),fun _=>hp⟩
  | true=>
   simp only[F8,hp,Bl,Bc]
   refine⟨by omega,fun i h k=> ?_,fun h=> ?_⟩
   ·cases i with
    | zero=>exact hp
    | succ i=>simpa using h2 i (by simpa using h) (by omega)
   ·simpa using h3 (by omega)
def u0s {E:Type} (p:E→Bool) (l:Hu E):Nat:=(l.takeWhile fun x=> !p x).length
theorem t72 {E:Type} (p:E→Bool) (l:Hu E):u0s p l≤l.length:=(twl _ l).1
theorem t1g {E:Type} {p:E→Bool} {l:Hu E} {i:Nat} (h:i<l.length) (hi:i<u0s p l):p l[i] =false:=by
 have:=(twl (fun x=> !p x) l).2.1 i h hi
 simpa using this
theorem u91 {E:Type} {p:E→Bool} {l:Hu E} (h:u0s p l<l.length):p l[u0s p l] =true:=by
 unfold u0s at h ⊢
 have:=(twl (fun x=> !p x) l).2.2 h
 simpa using this
theorem p2k {E:Type} (p:E→Bool) (l:Hu E):decide (u0s p l<l.length)=l.any p:=by
 cases hc:l.any p with
 | true=>
  obtain⟨x,hx,hp⟩:=Cm.mp hc
  obtain⟨i,hi,rfl⟩:=B7 hx
  have: ¬i<u0s p l:=fun q=>by rw[t1g hi q] at hp;cases hp
  simp only[Ar]
  omega
 | false=>
  simp only[Bu]
  intro h
  have:=u91 h
  have:=Ct.mp hc _ (Ag h)
  contradiction
theorem Q.first {T:Ty} {c:Type} {q:T.den×c→Ht Bool} {p:T.den→Bool} {W:Hu T.den×c×Int×Int→Ht (Unit⊕Int)}
 (hW:∀x,W x=(bif (decide (x.2.2.2<x.2.2.1)) then(bif (y4q x.2.2.2 x.1.length) then((q ((rdL T x.1 (x.2.2.2).toNat),x.2.1)).bind fun(y1:Bool)=>(bif y1 then(some (.inr x.2.2.2)) else(W (x.1,(x.2.1,(x.2.2.1,(IntKind.i64.wrap (x.2.2.2+(1:Int))))))))) else none) else(some (.inl ()))))
 (l:Hu T.den) (k:c) (hl:l.length≤1099511627776) (hq:∀x∈l,q (x,k)=some (p x)):
 W (l,k,(l.length:Int),0)=some (if u0s p l<l.length then .inr ((u0s p l:Nat):Int) else .inl ()):=by
 have hle:=t72 p l
 have:=r5k W (u0s p l) (fun(_:Unit) i=>(l,k,(l.length:Int),i)) (fun _ _=>if u0s p l<l.length then .inr ((u0s p l:Nat):Int) else .inl ()) (fun _ _=>True)
  (fun a _=>by
   rw[hW]
   by_cases hk:u0s p l<l.length
   ·simp only[u0b,hk,Ae,Ad,y7t hk,zTn,y8k hk,hq _ (Ag hk),u91 hk,zOb,Bl]
   ·simp only[u0b,hk,Ah,Aa,Bk])
  (fun i a hi _=> .inr ⟨(),trivial,rfl,by
   have hil:i<l.length:=by omega
   rw[hW]
   simp only[u0b,hil,Ae,Ad,y7t hil,zTn,y8k hil,hq _ (Ag hil),t1g hil hi,zOb,Aa]
   rw[y7l (by omega)]⟩) 0 () (Cn _) trivial
 exact this
theorem Q.delete {T:Ty} {c R:Type} {q:T.den×c→Ht Bool} {p:T.den→Bool} {W:Hu T.den×c×Int×Int→Ht ((Hu T.den×Int)⊕R)}
 (hW:∀x,W x=(bif (decide (x.2.2.2<(x.1.length:Int))) then(bif (y4q x.2.2.2 x.1.length) then((q ((rdL T x.1 (x.2.2.2).toNat),x.2.1)).bind fun(y2:Bool)=>(bif (!y2) then(bif (y4q x.2.2.1 x.1.length) then(W ((x.1.set (x.2.2.1).toNat (rdL T x.1 (x.2.2.2).toNat)),(x.2.1,((IntKind.i64.wrap (x.2.2.1+(1:Int))),(IntKind.i64.wrap (x.2.2.2+(1:Int))))))) else none) else(W (x.1,(x.2.1,(x.2.2.1,(IntKind.i64.wrap (x.2.2.2+(1:Int))))))))) else none) else(some (.inl (x.1,x.2.2.1)))))
 (l:Hu T.den) (k:c) (hl:l.length≤1099511627776) (hq:∀x∈l,q (x,k)=some (p x)) (hf:u0s p l<l.length):
 ∃a:Hu T.den,W (l,k,((u0s p l:Nat):Int),((u0s p l+1:Nat):Int))=some (.inl (a,((l.filter fun x=> !p x).length:Int)))∧a.length=l.length∧a.take (l.filter fun x=> !p x).length=l.filter fun x=> !p x:=by
 have key:∀(d j:Nat) (a:Hu T.den),j+d=l.length→a.length=l.length→a.drop j=l.drop j→((l.take j).filter fun x=> !p x).length≤j→((l.take j).filter fun x=> !p x).length<l.length→a.take ((l.take j).filter fun x=> !p x).length=(l.take j).filter (fun x=> !p x)→
  ((l.take j).filter fun x=> !p x).length<j→
  ∃a' :Hu T.den,W (a,k,(((l.take j).filter fun x=> !p x).length:Int),(j:Int))=some (.inl (a',((l.filter fun x=> !p x).length:Int)))∧a'.length=l.length∧a'.take (l.filter fun x=> !p x).length=l.filter fun x=> !p x:=by
  intro d
  induction d with
  | zero=>
   intro j a hj ha h1 h2 h3 h4 h5
   have e:j=l.length:=by omega
   subst e
   rw[Cq] at h4 ⊢
   rw[hW]
   simp only[ha,u0b,Am,Ah,Aa]
   exact⟨a,rfl,ha,h4⟩
  | succ d ih=>
   intro j a hj ha h1 h2 h3 h4 h5
   have hjl:j<l.length:=by omega
   have hja:j<a.length:=by omega
   have haj:a[j] =l[j] :=by
    have e1:=Ce hja
    have e2:=Ce hjl
    rw[h1,e2] at e1
    injection e1 with e1 _
    exact e1.symm
   have hs:l.take (j+1)=l.take j++ [l[j]] :=B9 hjl
   have hd:a.drop (j+1)=l.drop (j+1):=by
    have:=Dj List.tail h1
    simpa using this
   rw[hW]
   simp only[u0b,hja,Ae,Ad,y7t hja,zTn,y8k hja,haj,hq _ (Ag hjl),zOb]
   rw[y7l (i:=j) (by omega)]
   cases hp:p l[j] with
   | true=>
    simp only[Ap,Aa]
    have e:(l.take (j+1)).filter (fun x=> !p x)=(l.take j).filter fun x=> !p x:=by rw[hs,Hl,Di];simp only[hp,Ap,Br,Bk,List.filter_nil,Bw]
    have:=ih (j+1) a (by omega) ha hd (by rw[e];omega) (by rw[e];exact h3) (by rw[e];exact h4) (by rw[e];omega)
    rwa [e] at this
   | false=>
    have e:(l.take (j+1)).filter (fun x=> !p x)=(l.take j).filter (fun x=> !p x)++ [l[j]] :=by rw[hs,Hl,Di];simp only[hp,Bh,Bl,List.filter_nil]
    have el:((l.take (j+1)).filter fun x=> !p x).length=((l.take j).filter fun x=> !p x).length+1:=by rw[e];simp
    have hia:((l.take j).filter fun x=> !p x).length<a.length:=by omega
    simp only[Bh,Ad,y7t hia]
    rw[y7l (i:=((l.take j).filter fun x=> !p x).length) (by omega)]
    have:=ih (j+1) (a.set ((l.take j).filter fun x=> !p x).length l[j]) (by omega) (by simpa using ha) (by
     rw[List.drop_set_of_lt (by omega)]
     exact hd) (by rw[el];omega) (by rw[el];omega) (by
     rw[el,B9 (by simpa using hia),e]
     congr 1
     ·rw[List.take_set_of_le (Au _)]
      exact h4
     ·simp) (by rw[el];omega)
    rwa [el] at this
 have hk:=t72 p l
 have e:(l.take (u0s p l+1)).filter (fun x=> !p x)=l.take (u0s p l):=by
  rw[B9 hf,Hl]
  have h1:(l.take (u0s p l)).filter (fun x=> !p x)=l.take (u0s p l):=by
   rw[F9]
   intro x hx
   obtain⟨i,hi,rfl⟩:=B7 hx
   have hi' :i<u0s p l:=by have:=hi;rw[Ec] at this;omega
   rw[Fc,t1g (by omega) hi']
   rfl
  rw[h1]
  simp[u91 hf]
 have el:((l.take (u0s p l+1)).filter fun x=> !p x).length=u0s p l:=by rw[e,Ec];omega
 have:=key (l.length - (u0s p l+1)) (u0s p l+1) l (by omega) rfl rfl (by rw[el];omega) (by rw[el];exact hf) (by rw[el,e]) (by rw[el];omega)
 rwa [el] at this
end
section
def o1n (x y:u0h):Bool:=decide (x.2.1=3)&&decide (x.2.2.2.1≤y.2.2.1)
def q77 (a b:u0h):Bool:= !decide (a.1=b.1)&&(!o1n a b&& !o1n b a)
def ahead (a b:u0h):Bool:=q77 a b&&q2r a.2.2.2.2.1 b.2.2.2.2.2.1
def q60 (t:u0h) (l:Hu u0h):Bool:=l.any fun x=>decide (x.2.1=3)&&ahead t x
theorem o2t (a b:u0h):r1i (a,b)=some (q77 a b):=by
 rw[p75];unfold q3j q77 o1n
 by_cases h1:a.1=b.1
 ·simp[h1]
 ·by_cases h2:a.2.1=3<;>by_cases h3:a.2.2.2.1≤b.2.2.1<;>by_cases h4:b.2.1=3<;>by_cases h5:b.2.2.2.1≤a.2.2.1<;>simp[h1,h2,h3,h4,h5]
theorem o2s (a b:u0h):r1e (a,b)=some (q77 a b):=by
 rw[p7t];unfold q25
 simp only[p1c,r5x]
 unfold q77 o1n
 by_cases h1:a.1=b.1
 ·simp[h1]
 ·by_cases h2:a.2.1=3<;>by_cases h3:a.2.2.2.1≤b.2.2.1<;>by_cases h4:b.2.1=3<;>by_cases h5:b.2.2.2.1≤a.2.2.1<;>simp[h1,h2,h3,h4,h5]
theorem t3i (a b:u0h) (ha:a.2.2.2.2.1.length≤u0k) (hb:b.2.2.2.2.2.1.length≤u0k):u28 (a,b)=some (ahead a b):=by
 rw[o0t];unfold q7t ahead
 have h1:=o2t a b
 have h2:=o0c _ _ ha hb
 simp only[h2,zOb]
 rw[h1]
 cases q77 a b<;>rfl
theorem p5v (a b:u0h) (ha:a.2.2.2.2.1.length≤u0k) (hb:b.2.2.2.2.2.1.length≤u0k):s6t (a,b)=some (ahead a b):=by
 rw[o0n];unfold q7n ahead
 have h1:=o2s a b
 have h2:=o0b _ _ ha hb
 simp only[h2,zOb]
 rw[h1]
 cases q77 a b<;>rfl
end
section
def q5u (t:u0h):Prop:=t.2.2.2.2.1.length≤1048576∧t.2.2.2.2.2.1.length≤1048576
def q9y (l:Hu u0h):Prop:=l.length≤4194304∧ ∀t∈l,q5u t
theorem s3f {n:Nat} (h:n≤1048576):n≤u0k:=by unfold u0k;omega
theorem q50 (t:u0h) (l:Hu u0h) (ht:q5u t) (hl:q9y l):s1s (t,l)=some (q60 t l):=by
 obtain⟨l1,l2⟩:=hl
 have L:=s11 s0r l (fun i=>(l,t,i)) (fun x=>decide (x.2.1=3)&&ahead t x) (.inr true) (.inl ())
  (by rw[q10];simp only[s0k,u0b,Am,Ah,Aa])
  (fun i hi=>by
   have h1:=t3i t l[i] (s3f ht.1) (s3f (l2 _ (Ag hi)).2)
   rw[q10]
   simp only[s0k,u0b,hi,Ae,Ad,y7t hi,zTn,y8k (t:=u00) hi,h1,zOb]
   rw[y7l (by omega)]
   cases decide (l[i].2.1=3)<;>cases ahead t l[i] <;>rfl)
 rw[o00];unfold q70 q60
 simp only[L,zOb]
 cases l.any fun x=>decide (x.2.1=3)&&ahead t x<;>rfl
theorem p53 (t:u0h) (l:Hu u0h) (ht:q5u t) (hl:q9y l):s6u (t,l)=some (q60 t l):=by
 obtain⟨l1,l2⟩:=hl
 have hq:∀x∈l,s0z (x,t)=some (decide (x.2.1=3)&&ahead t x):=fun x hx=>by
  have h1:=p5v t x (s3f ht.1) (s3f (l2 x hx).2)
  rw[p32];unfold r9n
  simp only[q4o,q3e,zOb,h1]
  cases decide (x.2.1=3)<;>rfl
 have L:=Q.first (T:=u00) (c:=u0h) (W:=u1o) (q:=s0z) (p:=fun x:u0h=>decide (x.2.1=3)&&ahead t x) (fun x=>t1d x) l t (by omega) hq
 rw[o0q];unfold q7q q60
 simp only[s81,t7x,u9y,u39,t2n,u5b,L,zOb]
 rw[←p2k]
 by_cases h:u0s (fun x:u0h=>decide (x.2.1=3)&&ahead t x) l<l.length
 ·simp[h]
 ·simp[h]
theorem t0a (t:u0h) (h:q5u t):u0z t=some t:=by
 rw[q1d];unfold s7k
 simp only[Cc,Co,Cf,u0r (show t.2.2.2.2.1.length≤1099511627776 by have:=h.1;omega),u0r (show t.2.2.2.2.2.1.length≤1099511627776 by have:=h.2;omega),Ad]
theorem p0i (t:u0h) (h:q5u t):t5n t=some t:=by
 rw[p4g];unfold r91
 simp only[u0r (show t.2.2.2.2.1.length≤1099511627776 by have:=h.1;omega),u0r (show t.2.2.2.2.2.1.length≤1099511627776 by have:=h.2;omega),Ad]
theorem q15 (l:Hu u0h) (h:q9y l):t5s l=some l:=by
 have L:=s3y t7a l (fun a i=>(l,a,i)) (fun _=>true) (fun x=>x) (fun a=> .inl a) (by have:=h.1;omega)
  (fun a _=>by rw[r5f];simp only[t6w,u0b,Am,Ah,Aa])
  (fun i hi a ha=>by
   have h1:=t0a l[i] (h.2 _ (Ag hi))
   have:=h.1
   rw[r5f]
   simp only[t6w,u0b,hi,Ae,Ad,y7t hi,zTn,y8k (t:=u00) hi,h1,zOb,Aw,u0r (show a.length+1≤1099511627776 by omega)]
   rw[y7l (by omega)])
 rw[p5f];unfold q01
 simp only[L,zOb]
 simp
theorem q14 (l:Hu u0h) (h:q9y l):t3a l=some l:=by
 have L:=s3y t4f l (fun a i=>(a,l,(l.length:Int),i)) (fun _=>true) (fun x=>x) (fun a=> .inl a) (by have:=h.1;omega)
  (fun a _=>by rw[r0e];simp only[t3r,u0b,Am,Ah,Aa])
  (fun i hi a ha=>by
   have h1:=p0i l[i] (h.2 _ (Ag hi))
   have:=h.1
   rw[r0e]
   simp only[t3r,u0b,hi,Ae,Ad,y7t hi,zTn,y8k (t:=u00) hi,h1,zOb,Aw,u0r (show a.length+1≤1099511627776 by omega)]
   rw[y7l (by omega)])
 rw[p1q];unfold r6a
 simp only[L,zOb]
 simp
abbrev u0j:=Hu u2b×Hu u0h×Hu u0h×Int×Int
def fewB (b:u0j):Prop:=b.1.length≤4194304∧q9y b.2.1∧q9y b.2.2.1
theorem t7t (b:u0j) (h:fewB b):u2u b=some b:=by
 have h1:=q15 b.2.1 h.2.1
 have h2:=q15 b.2.2.1 h.2.2
 rw[p5e];unfold q00
 simp only[Cc,Co,Cf,u0r (show b.1.length≤1099511627776 by have:=h.1;omega),Ad,h1,h2,zOb]
theorem t9z (b:u0j) (h:fewB b):u1r b=some b:=by
 have h1:=q14 b.2.1 h.2.1
 have h2:=q14 b.2.2.1 h.2.2
 rw[p1o];unfold r58
 simp only[u0r (show b.1.length≤1099511627776 by have:=h.1;omega),Ad,h1,h2,zOb]
end
section
def t9w (b:u0j) (open_:Hu u0h):Int:=open_.foldl (fun m t=>if t.2.2.1<m then t.2.2.1 else m) b.2.2.2.1
theorem o21 (b:u0j) (o:Hu u0h) (h:o.length≤4194304):s42 (b,o)=some (t9w b o):=by
 have L:=u9a t4j o (fun a i=>(o,a,i)) (fun(m:Int) t=>if t.2.2.1<m then t.2.2.1 else m) (fun a=> .inl a) (fun _ _=>True)
  (fun a _=>by rw[r0k];simp only[t3x,u0b,Am,Ah,Aa])
  (fun i hi a _=>by
   refine⟨trivial,?_⟩
   rw[r0k]
   simp only[t3x,u0b,hi,Ae,Ad,y7t hi,zTn,y8k (t:=u00) hi]
   rw[y7l (by omega)]
   by_cases hc:o[i].2.2.1<a
   ·simp only[hc,Ae,Ad,Bl]
   ·simp only[hc,Ah,Aa,Bk]) b.2.2.2.1 trivial
 rw[p12];unfold r6m
 simp only[L,zOb]
 rfl
theorem o20 (b:u0j) (o:Hu u0h) (h:o.length≤4194304):s4r (b,o)=some (t9w b o):=by
 have L:=u9a t4a o (fun a i=>(a,o,(o.length:Int),i)) (fun(m:Int) t=>if t.2.2.1<m then t.2.2.1 else m) (fun a=> .inl a) (fun _ _=>True)
  (fun a _=>by rw[s98];simp only[t3l,u0b,Am,Ah,Aa])
  (fun i hi a _=>by
   refine⟨trivial,?_⟩
   rw[s98]
   simp only[t3l,u0b,hi,Ae,Ad,y7t hi,zTn,y8k (t:=u00) hi]
   rw[y7l (by omega)]
   have e:y8i a o[i].2.2.1=if o[i].2.2.1<a then o[i].2.2.1 else a:=by
    unfold y8i
    split<;>rfl
   rw[e]) b.2.2.2.1 trivial
 rw[p1h];unfold r52
 simp only[L,zOb]
 rfl
def u0p (b:u0j) (n:Hs):Int:=if u0s (fun x:u0h=>z7o x.2.2.2.2.2.2.2 n) b.2.2.1<b.2.2.1.length then((u0s (fun x:u0h=>z7o x.2.2.2.2.2.2.2 n) b.2.2.1:Nat):Int) else -1
theorem q7i (b:u0j) (n:Hs) (h:b.2.2.1.length≤4194304):s01 (b,n)=some (u0p b n):=by
 have hq:∀x∈b.2.2.1,t7e (x,n)=some (z7o x.2.2.2.2.2.2.2 n):=fun x _=>by
  rw[q84];unfold r2i;rfl
 have L:=Q.first (T:=u00) (c:=Hs) (W:=u1h) (q:=t7e) (p:=fun x:u0h=>z7o x.2.2.2.2.2.2.2 n) (fun x=>u88 x) b.2.2.1 n (by omega) hq
 rw[p36];unfold r9r u0p
 simp only[t04,u4r,L,zOb]
 by_cases hk:u0s (fun x:u0h=>z7o x.2.2.2.2.2.2.2 n) b.2.2.1<b.2.2.1.length
 ·simp only[Al hk,zOb]
 ·simp only[Ao hk,zOb]
theorem s1g (b:u0j) (n:Hs) (h:b.2.2.1.length≤4194304):u2i (b,n)=some (u0p b n):=by
 have L:=r5k t0s (u0s (fun x:u0h=>z7o x.2.2.2.2.2.2.2 n) b.2.2.1) (fun(_:Unit) i=>(n,b,i)) (fun _ _=>if u0s (fun x:u0h=>z7o x.2.2.2.2.2.2.2 n) b.2.2.1<b.2.2.1.length then .inr ((u0s (fun x:u0h=>z7o x.2.2.2.2.2.2.2 n) b.2.2.1:Nat):Int) else .inl ()) (fun _ _=>True)
  (fun a _=>by
   have hle:=t72 (fun x:u0h=>z7o x.2.2.2.2.2.2.2 n) b.2.2.1
   rw[r46]
   by_cases hk:u0s (fun x:u0h=>z7o x.2.2.2.2.2.2.2 n) b.2.2.1<b.2.2.1.length
   ·have hy:=u91 hk
    simp only[t0c,u0b,hk,Ae,Ad,y7t hk,zTn,y8k (t:=u00) hk,hy,Bl]
   ·simp only[t0c,u0b,hk,Ah,Aa,Bk])
  (fun i a hi _=> .inr ⟨(),trivial,rfl,by
   have hle:=t72 (fun x:u0h=>z7o x.2.2.2.2.2.2.2 n) b.2.2.1
   have hil:i<b.2.2.1.length:=by omega
   have hn:=t1g hil hi
   rw[r46]
   simp only[t0c,u0b,hil,Ae,Ad,y7t hil,zTn,y8k (t:=u00) hil,hn,Aa]
   rw[y7l (by omega)]⟩) 0 () (Cn _) trivial
 have L:t0s (n,b,0)=_:=L
 rw[p4w];unfold q0h u0p
 simp only[L,zOb]
 by_cases hk:u0s (fun x:u0h=>z7o x.2.2.2.2.2.2.2 n) b.2.2.1<b.2.2.1.length
 ·simp only[Al hk]
 ·simp only[Ao hk]
end
section
def p5o (l:Hu u2b) (snap:Int) (i:Nat):Bool:=decide ((rdL u0e l i).2.2.2 >snap) || decide (t73 l (rdL u0e l i).1 snap=(i:Int))
def trA (l:Hu u2b) (snap:Int):Nat→Hu u2b
 | 0=> []
 | n+1=>if p5o l snap n=true then trA l snap n++ [rdL u0e l n] else trA l snap n
theorem q66 (l:Hu u2b) (snap:Int):∀n,(trA l snap n).length≤n
 | 0=>Au _
 | n+1=>by
  have:=q66 l snap n
  simp only[trA]
  split
  ·simp;omega
  ·omega
def o83 (l:Hu u2b) (k:Hs):Nat:=(l.filter fun v=>z7o v.1 k).length
def o53 (l:Hu u2b) (snap:Int) (v:u2b):Bool:= !v.2.2.1 || (decide (v.2.2.2 >snap) || decide ((o83 l v.1:Int) >1))
def u2j (l:Hu u2b) (snap:Int):Hu u2b:=(trA l snap l.length).filter (o53 (trA l snap l.length) snap)
theorem o6l (l:Hu u2b) (snap:Int) (hl:l.length≤8388608):t0u (l,snap, [],0)=some (.inl (snap,trA l snap l.length)):=
 p0v t0u l.length (fun a i=>(l,snap,a,i)) (fun i=>trA l snap i) (.inl (snap,trA l snap l.length))
  (by rw[r5a];simp only[t6r,u0b,Am,Ah,Aa])
  (fun i hi=>by
   have hL:=p2u l (rdL u0e l i).1 snap (by omega)
   have hn:=q66 l snap i
   rw[r5a]
   simp only[t6r,u0b,hi,Ae,Ad,y7t hi,zTn,hL,zOb,Aw,u0r (show(trA l snap i).length+1≤1099511627776 by omega)]
   rw[y7l (by omega)]
   simp only[trA,p5o]
   by_cases h1:(rdL u0e l i).2.2.2 >snap
   ·simp[h1]
   ·by_cases h2:t73 l (rdL u0e l i).1 snap=(i:Int)<;>simp[h1,h2])
theorem o6k (l:Hu u2b) (snap:Int) (hl:l.length≤8388608):t0i (l,snap, [],l,(l.length:Int),0)=some (.inl (snap,trA l snap l.length)):=
 p0v t0i l.length (fun a i=>(l,snap,a,l,(l.length:Int),i)) (fun i=>trA l snap i) (.inl (snap,trA l snap l.length))
  (by rw[r4r];simp only[t6a,u0b,Am,Ah,Aa])
  (fun i hi=>by
   have hL:=p2t l (rdL u0e l i).1 snap (by omega)
   have hn:=q66 l snap i
   rw[r4r]
   simp only[t6a,u0b,hi,Ae,Ad,y7t hi,zTn,hL,zOb,Aw,u0r (show(trA l snap i).length+1≤1099511627776 by omega)]
   rw[y7l (by omega)]
   simp only[trA,p5o]
   by_cases h1:(rdL u0e l i).2.2.2 >snap
   ·simp[h1]
   ·by_cases h2:t73 l (rdL u0e l i).1 snap=(i:Int)<;>simp[h1,h2])
end
section
theorem p04 (k:Hs):∀(l:Hu u2b) (a:Nat),l.foldl (fun(a:Nat) v=>if z7o v.1 k=true then a+1 else a) a=a+o83 l k
 | [],a=>by simp[o83]
 | x::l,a=>by
  rw[Bs,p04 k l]
  unfold o83
  cases hc:z7o x.1 k with
  | true=>simp[Di,hc];omega
  | false=>simp[Di,hc]
theorem o6n (s out:Hu u2b) (snap:Int) (i:Nat) (hi:i<s.length) (hl:s.length≤8388608):
 u8m (snap,s,out,(i:Int),0,0)=some (.inl (snap,s,out,(i:Int),(o83 s s[i].1:Int))):=by
 have L:=u9a u8m s (fun(a:Nat) j=>(snap,s,out,(i:Int),(a:Int),j)) (fun(a:Nat) v=>if z7o v.1 s[i].1=true then a+1 else a) (fun a=> .inl (snap,s,out,(i:Int),(a:Int))) (fun j a=>a≤j)
  (fun a _=>by rw[r0r];simp only[t35,u0b,Am,Ah,Aa])
  (fun j hj a ha=>by
   rw[r0r]
   simp only[t35,u0b,hj,Ae,Ad,y7t hj,y7t hi,zTn,y8k (t:=u0e) hj,y8k (t:=u0e) hi]
   rw[y7l (i:=j) (by omega),y7l (i:=a) (by omega)]
   cases z7o s[j].1 s[i].1 with
   | true=>simp only[Ad,Bl];exact⟨by omega,trivial⟩
   | false=>simp only[Aa,Br,Bk];exact⟨by omega,trivial⟩) 0 (Cn _)
 rw[p04,Co] at L
 exact L
theorem o6m (s:Hu u2b) (k:Hs) (hl:s.length≤8388608):s18 (k,s)=some (o83 s k:Int):=by
 have L:=u9a u7s s (fun(a:Nat) j=>(k,(a:Int),s,(s.length:Int),j)) (fun(a:Nat) v=>if z7o v.1 k=true then a+1 else a) (fun a=> .inl (a:Int)) (fun j a=>a≤j)
  (fun a _=>by rw[s66];simp only[t1v,u0b,Am,Ah,Aa])
  (fun j hj a ha=>by
   rw[s66]
   simp only[t1v,u0b,hj,Ae,Ad,y7t hj,zTn,y8k (t:=u0e) hj]
   rw[y7l (i:=j) (by omega),y7l (i:=a) (by omega)]
   cases z7o s[j].1 k with
   | true=>simp only[Ad,Bl];exact⟨by omega,trivial⟩
   | false=>simp only[Aa,Br,Bk];exact⟨by omega,trivial⟩) 0 (Cn _)
 rw[p04,Co] at L
 have L:u7s (k,0,s,(s.length:Int),0)=_:=L
 rw[q88];unfold r2l
 simp only[L,zOb]
theorem o0e (l:Hu u2b) (snap:Int) (hl:l.length≤8388608):s74 (l,snap)=some (u2j l snap):=by
 have hs:(trA l snap l.length).length≤8388608:=A9 (q66 _ _ _) hl
 obtain⟨s,hse⟩:∃s,s=trA l snap l.length:=⟨_,rfl⟩
 rw[←hse] at hs
 have L:=s3y t4m s (fun a i=>(snap,s,a,i)) (o53 s snap) (fun v=>v) (fun a=> .inl a) (by omega)
  (fun a _=>by rw[r0q];simp only[t34,u0b,Am,Ah,Aa])
  (fun i hi a ha=>by
   rw[r0q]
   simp only[t34,u0b,hi,Ae,Ad,o6n s a snap i hi hs,zOb,y7t hi,zTn,y8k (t:=u0e) hi,Aw,u0r (show a.length+1≤1099511627776 by omega)]
   rw[y7l (by omega)]
   unfold o53
   cases h1:s[i].2.2.1 with
   | false=>simp
   | true=>
    by_cases h2:s[i].2.2.2 >snap
    ·simp[h2]
    ·by_cases h3:(o83 s s[i].1:Int) >1<;>simp[h2,h3])
 rw[Er] at L
 have hA:=o6l l snap hl
 rw[←hse] at hA
 rw[p40];unfold q0l u2j
 rw[←hse]
 simp only[hA,L,zOb]
theorem o0d (l:Hu u2b) (snap:Int) (hl:l.length≤8388608):s7t (l,snap)=some (u2j l snap):=by
 have hs:(trA l snap l.length).length≤8388608:=A9 (q66 _ _ _) hl
 obtain⟨s,hse⟩:∃s,s=trA l snap l.length:=⟨_,rfl⟩
 rw[←hse] at hs
 have L:=s3y t4d s (fun a i=>(snap,s,a,s,(s.length:Int),i)) (o53 s snap) (fun v=>v) (fun a=> .inl a) (by omega)
  (fun a _=>by rw[r0b];simp only[t3o,u0b,Am,Ah,Aa])
  (fun i hi a ha=>by
   rw[r0b]
   simp only[t3o,u0b,hi,Ae,Ad,o6m s _ hs,zOb,y7t hi,zTn,y8k (t:=u0e) hi,Aw,u0r (show a.length+1≤1099511627776 by omega)]
   rw[y7l (by omega)]
   unfold o53
   cases h1:s[i].2.2.1 with
   | false=>simp
   | true=>
    by_cases h2:s[i].2.2.2 >snap
    ·simp[h2]
    ·by_cases h3:(o83 s s[i].1:Int) >1<;>simp[h2,h3])
 rw[Er] at L
 have hA:=o6k l snap hl
 rw[←hse] at hA
 rw[p4b];unfold r9w u2j
 rw[←hse]
 simp only[hA,L,zOb]
theorem o36 (l:Hu u2b) (snap:Int):(u2j l snap).length≤l.length:=A9 (Cs _ _) (q66 _ _ _)
end
section
theorem j05 {E:Type} {r:E→E→Prop} (hi:∀x,¬r x x) (ha:∀x y,r x y→ ¬r y x):∀ {l m:Hu E},l.Pairwise r→m.Pairwise r→(∀x,x∈l↔x∈m)→l=m
 | [], [],_,_,_=>rfl
 | [],y::m,_,_,h=>by have:=(h y).mpr (by simp);simp at this
 | x::l, [],_,_,h=>by have:=(h x).mp (by simp);simp at this
 | x::l,y::m,hl,hm,h=>by
  have hl' :=Ch.mp hl
  have hm' :=Ch.mp hm
  have hxy:x=y:=by
   rcases A8.mp ((h x).mp (by simp)) with e | e
   ·exact e
   ·rcases A8.mp ((h y).mpr (by simp)) with e' | e'
    ·exact e'.symm
    ·exact absurd (hm'.1 x e) (ha _ _ (hl'.1 y e'))
  subst hxy
  congr 1
  refine j05 hi ha hl'.2 hm'.2 fun z=> ?_
  constructor
  ·intro hz
   rcases A8.mp ((h z).mp (by simp[hz])) with e | e
   ·subst e;exact absurd (hl'.1 z hz) (hi z)
   ·exact e
  ·intro hz
   rcases A8.mp ((h z).mpr (by simp[hz])) with e | e
   ·subst e;exact absurd (hm'.1 z hz) (hi z)
   ·exact e
def vLt (a b:u2b):Prop:=y3c a.1 b.1=true∨(a.1=b.1∧vCs a<vCs b)
def VAsc (l:Hu u2b):Prop:=l.Pairwise vLt
theorem p9k (a:u2b): ¬vLt a a:=fun h=>by
 rcases h with h | h
 ·rw[t1r] at h;cases h
 ·omega
theorem j0l (a b:u2b) (h:vLt a b): ¬vLt b a:=fun k=>by
 rcases h with h | ⟨h,h'⟩<;>rcases k with k | ⟨k,k'⟩
 ·rw[r1x h] at k;cases k
 ·rw[k,t1r] at h;cases h
 ·rw[h,t1r] at k;cases k
 ·omega
theorem j2p (a b:u2b) (h: ¬(a.1=b.1∧vCs a=vCs b)):vLt a b∨vLt b a:=by
 rcases q2q a.1 b.1 with c | c | c
 ·exact .inl (.inl c)
 ·rcases Int.lt_trichotomy (vCs a) (vCs b) with d | d | d
  ·exact .inl (.inr ⟨c,d⟩)
  ·exact absurd ⟨c,d⟩ h
  ·exact .inr (.inr ⟨c.symm,d⟩)
 ·exact .inr (.inl c)
theorem VAsc.ext {l m:Hu u2b} (h:VAsc l) (k:VAsc m) (e:∀x,x∈l↔x∈m):l=m:=j05 p9k j0l h k e
theorem VAsc.uni:∀ {l:Hu u2b},VAsc l→ ∀x∈l,∀y∈l,x.1=y.1→vCs x=vCs y→x=y
 | [],_,x,hx=>by cases hx
 | z::l,h,x,hx=>fun y hy e1 e2=>by
  have h' :=Ch.mp h
  have no:∀a b:u2b,a.1=b.1→vCs a=vCs b→ ¬vLt a b:=fun a b e1 e2 k=>by
   rcases k with k | k
   ·rw[e1,t1r] at k;cases k
   ·omega
  rcases A8.mp hx with rfl | hx' <;>rcases A8.mp hy with rfl | hy'
  ·rfl
  ·exact absurd (h'.1 y hy') (no _ _ e1 e2)
  ·exact absurd (h'.1 x hx') (no _ _ e1.symm e2.symm)
  ·exact VAsc.uni h'.2 x hx' y hy' e1 e2
def o9s (l:Hu u2b) (s:Int) (x:u2b):Prop:=vCs x≤s∧ ∀y∈l,y.1=x.1→vCs y≤s→vCs y≤vCs x
theorem p6l {l:Hu u2b} (hA:VAsc l) {s:Int} {i:Nat} (h:i<l.length):t73 l l[i].1 s=(i:Int)↔o9s l s l[i] :=by
 obtain⟨h1,h2⟩:=p59 l l[i].1 s l.length (Au _)
 constructor
 ·intro e
  obtain⟨_,g1,g2,g3⟩:=h2 i e
  refine⟨g2,fun y hy e1 e2=> ?_⟩
  obtain⟨j,hj,rfl⟩:=B7 hy
  exact g3 j hj hj e1 e2
 ·rintro⟨g2,g3⟩
  have hr:=p6m l l[i].1 s
  rcases Int.lt_or_le (t73 l l[i].1 s) 0 with z | z
  ·exact absurd ⟨rfl,g2⟩ (h1 z i h h)
  ·obtain⟨b,hb⟩:∃b:Nat,t73 l l[i].1 s=(b:Int):=⟨(t73 l l[i].1 s).toNat,by omega⟩
   obtain⟨hbl,k1,k2,k3⟩:=h2 b hb
   have m1:=g3 l[b] (Ag hbl) k1 k2
   have m2:=k3 i h h rfl g2
   have e:=VAsc.uni hA l[b] (Ag hbl) l[i] (Ag h) k1 (by omega)
   have hp:l.Nodup:=hA.imp fun h e=>by subst e;exact p9k _ h
   have:b=i:=(List.getElem_inj hp).mp e
   rw[hb,this]
theorem o35 (l:Hu u2b) (s:Int):∀n,n≤l.length→(trA l s n).Sublist (l.take n)
 | 0,_=>by simp[trA]
 | n+1,h=>by
  have ih:=o35 l s n (by omega)
  have hn:n<l.length:=by omega
  rw[B9 hn]
  simp only[trA]
  split
  ·rw[y8k (t:=u0e) hn]
   exact ih.append (Dm _)
  ·exact ih.trans (List.sublist_append_left _ _)
theorem u75 (l:Hu u2b) (s:Int):(u2j l s).Sublist l:=by
 have h:=o35 l s l.length (Au _)
 rw[Cq] at h
 exact Fg.trans h
theorem t7s {l:Hu u2b} (h:VAsc l) (s:Int):VAsc (u2j l s):=h.sublist (u75 l s)
theorem o1h {l:Hu u2b} {s:Int} {x:u2b} :∀n,n≤l.length→(x∈trA l s n↔ ∃(i:Nat) (h:i<l.length),i<n∧l[i] =x∧p5o l s i=true)
 | 0,_=>by simp[trA]
 | n+1,h=>by
  have ih:=o1h (x:=x) (s:=s) n (Nat.le_of_succ_le h)
  have hn:n<l.length:=by omega
  have split:(∃(i:Nat) (h:i<l.length),i<n+1∧l[i] =x∧p5o l s i=true)↔(∃(i:Nat) (h:i<l.length),i<n∧l[i] =x∧p5o l s i=true)∨(l[n] =x∧p5o l s n=true):=by
   constructor
   ·rintro⟨i,hi,h1,h2⟩
    by_cases e:i=n
    ·subst e;exact .inr h2
    ·exact .inl ⟨i,hi,by omega,h2⟩
   ·rintro(⟨i,hi,h1,h2⟩ | h2)
    ·exact⟨i,hi,by omega,h2⟩
    ·exact⟨n,hn,by omega,h2⟩
  rw[split,←ih]
  simp only[trA]
  by_cases c:p5o l s n=true
  ·rw[Al c,y8k (t:=u0e) hn,Ay,Ax]
   simp only[c,and_true]
   exact or_congr Hp eq_comm
  ·rw[Ao c]
   simp[c]
theorem p84 {l:Hu u2b} (hA:VAsc l) {s:Int} {x:u2b} :x∈trA l s l.length↔x∈l∧(vCs x >s∨o9s l s x):=by
 rw[o1h _ (Au _)]
 constructor
 ·rintro⟨i,hi,_,rfl,k⟩
  refine⟨Ag hi,?_⟩
  unfold p5o at k
  rw[y8k (t:=u0e) hi,Cr,Ar,Ar] at k
  rcases k with k | k
  ·exact .inl k
  ·exact .inr ((p6l hA hi).mp k)
 ·rintro⟨hx,k⟩
  obtain⟨i,hi,rfl⟩:=B7 hx
  refine⟨i,hi,hi,rfl,?_⟩
  unfold p5o
  rw[y8k (t:=u0e) hi,Cr,Ar,Ar]
  rcases k with k | k
  ·exact .inl k
  ·exact .inr ((p6l hA hi).mpr k)
theorem o6o {E:Type} :∀ {l:Hu E},l.Nodup→1<l.length→ ∀x,∃y∈l,y≠x
 | [],_,h,_=>by simp at h
 | [_],_,h,_=>by simp at h
 | a::b::l,hn,_,x=>by
  by_cases e:a=x
  ·subst e
   refine⟨b,by simp,fun e=> ?_⟩
   subst e
   simp at hn
  ·exact⟨a,by simp,e⟩
theorem o57 {E:Type} {l:Hu E} {x y:E} (hx:x∈l) (hy:y∈l) (h:x≠y):1<l.length:=by
 match l,hx,hy with
 | [a],hx,hy=>rw[Ax] at hx hy;exact absurd (hx.trans hy.symm) h
 | a::b::l,_,_=>simp
theorem u93 {l:Hu u2b} (hA:VAsc l) {s:Int} {x:u2b} :x∈u2j l s↔x∈l∧(vCs x >s∨(o9s l s x∧(x.2.2.1=false∨ ∃y∈l,y.1=x.1∧vCs y >s))):=by
 unfold u2j
 rw[A6,p84 hA]
 unfold o53
 rw[Cr,Cr,Ar,Ar,Bj]
 have hs:VAsc (trA l s l.length):=by
  have h:=o35 l s l.length (Au _)
  rw[Cq] at h
  exact hA.sublist h
 constructor
 ·rintro⟨⟨hx,h1⟩,h2⟩
  refine⟨hx,?_⟩
  by_cases c:vCs x >s
  ·exact .inl c
  ·rcases h1 with h1 | h1
   ·exact absurd h1 c
   ·refine .inr ⟨h1,?_⟩
    rcases h2 with h2 | h2 | h2
    ·exact .inl h2
    ·exact absurd h2 c
    ·have hn:((trA l s l.length).filter fun v=>z7o v.1 x.1).Nodup:=(hs.filter _).imp fun h e=>by subst e;exact p9k _ h
     have hl:1<((trA l s l.length).filter fun v=>z7o v.1 x.1).length:=by unfold o83 at h2;omega
     obtain⟨y,hy,hne⟩:=o6o hn hl x
     rw[A6,p84 hA] at hy
     obtain⟨⟨hyl,hy1⟩,hy2⟩:=hy
     have hk:=y7f.mp hy2
     refine .inr ⟨y,hyl,hk,?_⟩
     rcases hy1 with hy1 | hy1
     ·exact hy1
     ·have a1:=h1.2 y hyl hk hy1.1
      have a2:=hy1.2 x hx hk.symm h1.1
      exact absurd (VAsc.uni hA y hyl x hx hk (by omega)) hne
 ·rintro⟨hx,h1⟩
  rcases h1 with h1 | ⟨h1,h2⟩
  ·exact⟨⟨hx, .inl h1⟩, .inr (.inl h1)⟩
  ·refine⟨⟨hx, .inr h1⟩,?_⟩
   rcases h2 with h2 | ⟨y,hy,hk,hc⟩
   ·exact .inl h2
   ·refine .inr (.inr ?_)
    have m1:x∈(trA l s l.length).filter fun v=>z7o v.1 x.1:=by rw[A6,p84 hA];exact⟨⟨hx, .inr h1⟩,y7f.mpr rfl⟩
    have m2:y∈(trA l s l.length).filter fun v=>z7o v.1 x.1:=by rw[A6,p84 hA];exact⟨⟨hy, .inl hc⟩,y7f.mpr hk⟩
    have:=o57 m1 m2 (fun e=>by have:=h1.1;subst e;omega)
    unfold o83
    omega
theorem q5i {l:Hu u2b} (hA:VAsc l) {a b:Int} (hab:a≤b):u2j (u2j l a) b=u2j l b:=by
 have hT:=t7s hA a
 refine(t7s hT b).ext (t7s hA b) fun x=> ?_
 refine Iff.trans (u93 hT) (Iff.trans ?_ (u93 hA).symm)
 have hsub:∀y,y∈u2j l a→y∈l:=fun y hy=>(u75 l a).subset hy
 have hup:∀y,y∈l→vCs y >a→y∈u2j l a:=fun y hy h=>(u93 hA).mpr ⟨hy, .inl h⟩
 constructor
 ·rintro⟨hx,h⟩
  have hxl:=hsub x hx
  refine⟨hxl,?_⟩
  rcases h with h | ⟨h1,h2⟩
  ·exact .inl h
  ·right
   have hL:o9s l b x:=by
    refine⟨h1.1,fun y hy e1 e2=> ?_⟩
    by_cases c:vCs y >a
    ·exact h1.2 y (hup y hy c) e1 e2
    ·by_cases c2:vCs x >a
     ·omega
     ·rcases(u93 hA).mp hx with ⟨_,h3 | ⟨h3,_⟩⟩
      ·exact absurd h3 c2
      ·exact h3.2 y hy e1 (by omega)
   refine⟨hL,?_⟩
   rcases h2 with h2 | ⟨y,hy,e1,e2⟩
   ·exact .inl h2
   ·exact .inr ⟨y,hsub y hy,e1,e2⟩
 ·rintro⟨hxl,h⟩
  rcases h with h | ⟨h1,h2⟩
  ·exact⟨hup x hxl (by omega), .inl h⟩
  ·have hx:x∈u2j l a:=by
    by_cases c:vCs x >a
    ·exact hup x hxl c
    ·refine(u93 hA).mpr ⟨hxl, .inr ⟨⟨by omega,fun y hy e1 e2=>h1.2 y hy e1 (by omega)⟩,?_⟩⟩
     rcases h2 with h2 | ⟨y,hy,e1,e2⟩
     ·exact .inl h2
     ·exact .inr ⟨y,hy,e1,by omega⟩
   refine⟨hx, .inr ⟨⟨h1.1,fun y hy=>h1.2 y (hsub y hy)⟩,?_⟩⟩
   rcases h2 with h2 | ⟨y,hy,e1,e2⟩
   ·exact .inl h2
   ·exact .inr ⟨y,hup y hy (by omega),e1,e2⟩
theorem s6r {l:Hu u2b} (hA:VAsc l) {s:Int} (hs:∀x∈l,vCs x≤s) {x:u2b} :x∈u2j l s↔x∈l∧x.2.2.1=false∧ ∀y∈l,y.1=x.1→vCs y≤vCs x:=by
 rw[u93 hA]
 constructor
 ·rintro⟨hx,h⟩
  refine⟨hx,?_⟩
  rcases h with h | ⟨h1,h2 | ⟨y,hy,_,h2⟩⟩
  ·have:=hs x hx;omega
  ·exact⟨h2,fun y hy e=>h1.2 y hy e (hs y hy)⟩
  ·have:=hs y hy;omega
 ·rintro⟨hx,h1,h2⟩
  exact⟨hx, .inr ⟨⟨hs x hx,fun y hy e _=>h2 y hy e⟩, .inl h1⟩⟩
theorem q6y {l:Hu u2b} (hA:VAsc l) {a:Int} {x:u2b} :(x∈u2j l a∧x.2.2.1=false∧ ∀y∈u2j l a,y.1=x.1→vCs y≤vCs x)↔(x∈l∧x.2.2.1=false∧ ∀y∈l,y.1=x.1→vCs y≤vCs x):=by
 constructor
 ·rintro⟨hx,h1,h2⟩
  have hxl:=(u75 l a).subset hx
  refine⟨hxl,h1,fun y hy e=> ?_⟩
  by_cases c:vCs y >a
  ·exact h2 y ((u93 hA).mpr ⟨hy, .inl c⟩) e
  ·rcases(u93 hA).mp hx with ⟨_,h3 | ⟨h3,_⟩⟩
   ·omega
   ·exact h3.2 y hy e (by omega)
 ·rintro⟨hx,h1,h2⟩
  refine⟨(u93 hA).mpr ⟨hx,?_⟩,h1,fun y hy=>h2 y ((u75 l a).subset hy)⟩
  by_cases c:vCs x >a
  ·exact .inl c
  ·exact .inr ⟨⟨by omega,fun y hy e _=>h2 y hy e⟩, .inl h1⟩
theorem o93 {l:Hu u2b} (hA:VAsc l) {v:u2b} (hn:∀x∈l,¬(x.1=v.1∧vCs x=vCs v)):VAsc (o44 l v):=by
 have le_iff:∀x:u2b,u76 v x=true↔(vLt x v∨(x.1=v.1∧vCs x=vCs v)):=fun x=>by
  unfold u76 vLt
  rw[Cr,Ai,Ar]
  constructor
  ·rintro(h | ⟨h1,h2⟩)
   ·exact .inl (.inl h)
   ·have h1:=y7f.mp h1
    have h2:vCs x≤vCs v:=h2
    rcases Int.lt_or_eq_of_le h2 with h2 | h2
    ·exact .inl (.inr ⟨h1,h2⟩)
    ·exact .inr ⟨h1,h2⟩
  ·rintro((h | ⟨h1,h2⟩) | ⟨h1,h2⟩)
   ·exact .inl h
   ·exact .inr ⟨y7f.mpr h1,Int.le_of_lt h2⟩
   ·exact .inr ⟨y7f.mpr h1,Int.le_of_eq h2⟩
 have tr:∀ {a b c:u2b},vLt a b→vLt b c→vLt a c:=fun {a b c} h k=>by
  rcases h with h | ⟨h,h'⟩<;>rcases k with k | ⟨k,k'⟩
  ·exact .inl (q5d h k)
  ·exact .inl (k ▸ h)
  ·exact .inl (h ▸ k)
  ·exact .inr ⟨h.trans k,by omega⟩
 unfold o44 VAsc
 have hsplit:l.takeWhile (u76 v)++l.dropWhile (u76 v)=l:=Fe
 have hA' :(l.takeWhile (u76 v)++l.dropWhile (u76 v)).Pairwise vLt:=by rw[hsplit];exact hA
 obtain⟨p1,p2,p3⟩:=Cg.mp hA'
 have lo:∀x∈l.takeWhile (u76 v),vLt x v:=fun x hx=>by
  have h1:u76 v x=true:=by
   have:=List.all_takeWhile (p:=u76 v) (l:=l)
   exact Bg.mp this x hx
  have h2:x∈l:=(List.takeWhile_sublist _).subset hx
  rcases(le_iff x).mp h1 with h | h
  ·exact h
  ·exact absurd h (hn x h2)
 have hi:∀x∈l.dropWhile (u76 v),vLt v x:=by
  intro x hx
  match hd:l.dropWhile (u76 v),hx,p2 with
  | [],hx,_=>cases hx
  | y::r,hx,p2=>
   have hy:u76 v y=false:=by
    have:=List.head?_dropWhile_not (u76 v) l
    rw[hd] at this
    simpa using this
   have hyl:y∈l:=(List.dropWhile_sublist (p:=u76 v)).subset (by rw[hd];simp)
   have hvy:vLt v y:=by
    rcases j2p y v (hn y hyl) with h | h
    ·rw[(le_iff y).mpr (.inl h)] at hy;cases hy
    ·exact h
   rcases A8.mp hx with rfl | hx
   ·exact hvy
   ·exact tr hvy ((Ch.mp p2).1 x hx)
 rw[Bi,Cg]
 refine⟨p1,?_,?_⟩
 ·rw[Fs,Ch]
  exact⟨hi,p2⟩
 ·intro x hx y hy
  rcases Ay.mp hy with hy | hy
  ·rw[Ax] at hy;subst hy;exact lo x hx
  ·exact p3 x hx y hy
theorem q46 {cs:Int} :∀(ws:Hu u2m.den) {l:Hu u2b},VAsc l→KD ws→(∀x∈l,∀w∈ws,¬(x.1=w.1∧vCs x=cs))→VAsc (t8a l ws cs)
 | [],l,h,_,_=>h
 | w::ws,l,h,hk,hn=>by
  have hk' :=Ch.mp hk
  have e:t8a l (w::ws) cs=t8a (o44 l (w.1,w.2.1,w.2.2,cs)) ws cs:=rfl
  rw[e]
  refine q46 ws (o93 h fun x hx=>hn x hx w (by simp)) hk'.2 fun x hx z hz=> ?_
  rcases o9v.mp hx with rfl | hx
  ·exact fun q=>hk'.1 z hz q.1
  ·exact hn x hx z (by simp[hz])
theorem j0j {l:Hu u2b} (hA:VAsc l) {ws:Hu u2m.den} (hk:KD ws) {a c:Int} (hl:∀x∈l,vCs x<c):
 u2j (t8a (u2j l a) ws c) c=u2j (t8a l ws c) c:=by
 have hT:=t7s hA a
 have hlT:∀x∈u2j l a,vCs x<c:=fun x hx=>hl x ((u75 l a).subset hx)
 have P1:VAsc (t8a (u2j l a) ws c):=q46 ws hT hk fun x hx w _ q=>by have:=hlT x hx;omega
 have P2:VAsc (t8a l ws c):=q46 ws hA hk fun x hx w _ q=>by have:=hl x hx;omega
 have t1:∀x∈t8a (u2j l a) ws c,vCs x≤c:=fun x hx=>by
  rcases(t80 ws _ c).mp hx with h | ⟨w,_,rfl⟩
  ·have:=hlT x h;omega
  ·exact Bv _
 have t2:∀x∈t8a l ws c,vCs x≤c:=fun x hx=>by
  rcases(t80 ws _ c).mp hx with h | ⟨w,_,rfl⟩
  ·have:=hl x h;omega
  ·exact Bv _
 have key:∀(m:Hu u2b),(∀x∈m,vCs x<c)→ ∀x,(x∈t8a m ws c∧x.2.2.1=false∧ ∀y∈t8a m ws c,y.1=x.1→vCs y≤vCs x)↔
  ((∃w∈ws,x=(w.1,w.2.1,w.2.2,c))∧x.2.2.1=false)∨((∀w∈ws,w.1≠x.1)∧x∈m∧x.2.2.1=false∧ ∀y∈m,y.1=x.1→vCs y≤vCs x):=by
  intro m hm x
  have mp:=fun y=>t80 (x:=y) ws m c
  constructor
  ·rintro⟨h1,h2,h3⟩
   rcases(mp x).mp h1 with h | h
   ·refine .inr ⟨fun w hw e=> ?_,h,h2,fun y hy e=>h3 y ((mp y).mpr (.inl hy)) e⟩
    have q:c≤vCs x:=h3 (w.1,w.2.1,w.2.2,c) ((mp _).mpr (.inr ⟨w,hw,rfl⟩)) e
    have:=hm x h
    omega
   ·exact .inl ⟨h,h2⟩
  ·rintro(⟨h1,h2⟩ | ⟨h1,h2,h3,h4⟩)
   ·refine⟨(mp x).mpr (.inr h1),h2,fun y hy _=> ?_⟩
    obtain⟨w,hw,rfl⟩:=h1
    show vCs y≤c
    rcases(mp y).mp hy with h | ⟨w,_,rfl⟩
    ·have:=hm y h;omega
    ·exact Bv _
   ·refine⟨(mp x).mpr (.inl h2),h3,fun y hy e=> ?_⟩
    rcases(mp y).mp hy with h | ⟨w,hw,rfl⟩
    ·exact h4 y h e
    ·exact absurd e (h1 w hw)
 refine(t7s P1 c).ext (t7s P2 c) fun x=> ?_
 rw[s6r P1 t1,s6r P2 t2,key _ hlT,key _ hl,q6y hA]
end
section
abbrev s5p:=Hs×Hs
abbrev WrT:=Hs×Hs×Bool
abbrev u3a:=u0j×Hu u0h
def inB (x lo hi:Int):Bool:=decide (lo≤x)&&decide (x≤hi)
theorem q6v {x lo hi:Int} :inB x lo hi=true↔lo≤x∧x≤hi:=by simp[inB]
def u66 (s:Hs):Bool:=s.data.toList.all (fun b=>decide (97≤b.toNat)&&decide (b.toNat≤122))&&(decide (1≤s.size)&&decide (s.size≤3))
def u25 (r:s5p):Bool:=u66 r.1&&(u66 r.2&&(y3c r.1 r.2 || z7o r.1 r.2))
def u26 (w:WrT):Bool:=u66 w.1&&(decide (w.2.1.size≤12)&&(!w.2.2 || decide (w.2.1.size=0)))
def p3x (t:Ty) (lt:t.den→t.den→Bool) (l:Hu t.den):Bool:=(List.range l.length).all fun i=>decide (i=0) || lt (rdL t l (i - 1)) (rdL t l i)
def u4k (l:Hu WrT):Bool:=l.all u26&&(p3x u2m (fun a b=>y3c a.1 b.1) l&&decide (l.length≤8))
def u60 (t:u0h):Bool:=
 inB t.1 1 9999&&(inB t.2.1 1 3&&(inB t.2.2.1 0 9999&&(decide (t.2.2.2.2.1.length≤8)&&(u4k t.2.2.2.2.2.1&&(t.2.2.2.2.1.all u25&&
 ((if t.2.1=3 then inB t.2.2.2.1 (t.2.2.1+1) 9999 else decide (t.2.2.2.1=0))&&((if t.2.1=2 then u66 t.2.2.2.2.2.2.2 else decide (t.2.2.2.2.2.2.2.size=0))&&(!decide (t.2.1=1) || !t.2.2.2.2.2.2.1))))))))
def q2t (v:u2b):Bool:=u66 v.1&&(decide (v.2.1.size≤12)&&((!v.2.2.1 || decide (v.2.1.size=0))&&inB v.2.2.2 1 9999))
def s62 (a b:u2b):Bool:=y3c a.1 b.1 || (z7o a.1 b.1&&decide (a.2.2.2<b.2.2.2))
def u7n (l:Hu u2b):Bool:=l.all q2t&&(p3x u0e s62 l&&decide (l.length≤120))
def q2f (l:Hu Int) (below:Int):Bool:=decide (∀x∈l,x<below)&&decide l.Nodup
def o41 (c:Int) (l:Hu u0h):Bool:=decide (l.length≤12)&&(l.all (fun t=>u60 t&&(decide (t.2.1=3)&&decide (t.2.2.2.1≤c)))&&p3x u00 (fun a b=>decide (a.2.2.2.1<b.2.2.2.1)) l)
def p9d (c:Int) (l:Hu u0h):Bool:=decide (l.length≤3)&&(l.all (fun t=>u60 t&&(decide (t.2.1=2)&&decide (t.2.2.1≤c)))&&p3x u00 (fun a b=>y3c a.2.2.2.2.2.2.2 b.2.2.2.2.2.2.2) l)
def o4z (c:Int) (l:Hu u0h):Bool:=decide (l.length≤4)&&(l.all (fun t=>u60 t&&(decide (t.2.1=1)&&decide (t.2.2.1≤c)))&&p3x u00 (fun a b=>decide (a.1<b.1)) l)
def u43 (l:Hu u0h):Hu Int:=l.map fun t=>t.1
def u63 (b:u0j):Bool:=u7n b.1&&(b.1.all (fun v=>decide (v.2.2.2≤b.2.2.2.1))&&(inB b.2.2.2.1 0 9999&&(inB b.2.2.2.2 1 9999&&(o41 b.2.2.2.1 b.2.1&&(p9d b.2.2.2.1 b.2.2.1&&q2f (u43 (b.2.1++b.2.2.1)) b.2.2.2.2)))))
def o04 (e:u3a):Bool:=u63 e.1&&(o4z e.1.2.2.2.1 e.2&&q2f (u43 (e.1.2.1++e.1.2.2.1++e.2)) e.1.2.2.2.2)
theorem p7k {t:Ty} {lt:t.den→t.den→Bool} (tr:∀a b c,lt a b=true→lt b c=true→lt a c=true) {l:Hu t.den} :p3x t lt l=true↔l.Pairwise fun a b=>lt a b=true:=by
 unfold p3x
 rw[Bg]
 constructor
 ·intro h
  have step:∀(i:Nat) (hi:i+1<l.length),lt l[i] l[i+1] =true:=fun i hi=>by
   have:=h (i+1) (Bq.mpr hi)
   rw[Cr,Ar] at this
   rcases this with q | q
   ·omega
   ·rw[Nat.add_sub_cancel,y8k (show i<l.length by omega),y8k hi] at q
    exact q
  rw[Cp]
  intro i j hi hj hij
  obtain⟨d,rfl⟩:∃d,j=i+1+d:=⟨j - (i+1),by omega⟩
  clear hij
  induction d with
  | zero=>exact step i hj
  | succ d ih=>exact tr _ _ _ (ih (by omega)) (step (i+1+d) hj)
 ·intro h i hi
  have hi:=Bq.mp hi
  rw[Cr,Ar]
  by_cases e:i=0
  ·exact .inl e
  ·refine .inr ?_
   rw[y8k (show i - 1<l.length by omega),y8k hi]
   exact Cp.mp h (i - 1) i (by omega) hi (by omega)
theorem u29 {s:Hs} (h:u66 s=true):1≤s.size∧s.size≤3:=by
 unfold u66 at h
 simp only[Ai,Ar] at h
 exact h.2
structure TxnR (t:u0h):Prop where
 id:1≤t.1∧t.1≤9999
 st:1≤t.2.1∧t.2.1≤3
 snap:0≤t.2.2.1∧t.2.2.1≤9999
 rlen:t.2.2.2.2.1.length≤8
 ws:u4k t.2.2.2.2.2.1=true
 rs:∀r∈t.2.2.2.2.1,u25 r=true
 done:t.2.1=3→t.2.2.1+1≤t.2.2.2.1∧t.2.2.2.1≤9999
 nocs:t.2.1≠3→t.2.2.2.1=0
 name:t.2.1=2→u66 t.2.2.2.2.2.2.2=true
 noname:t.2.1≠2→t.2.2.2.2.2.2.2.size=0
 out:t.2.1=1→t.2.2.2.2.2.2.1=false
theorem q5j {t:u0h} :u60 t=true↔TxnR t:=by
 unfold u60
 simp only[Ai,Cr,q6v,Ar,Bg,Bj,Bu]
 constructor
 ·rintro⟨h1,h2,h3,h4,h5,h6,h7,h8,h9⟩
  refine⟨h1,h2,h3,h4,h5,h6,fun e=> ?_,fun e=> ?_,fun e=> ?_,fun e=> ?_,fun e=> ?_⟩
  ·rw[Al e,q6v] at h7;exact h7
  ·rw[Ao e,Ar] at h7;exact h7
  ·rw[Al e] at h8;exact h8
  ·rw[Ao e,Ar] at h8;exact h8
  ·rcases h9 with h9 | h9
   ·exact absurd e h9
   ·exact h9
 ·intro h
  refine⟨h.id,h.st,h.snap,h.rlen,h.ws,h.rs,?_,?_,?_⟩
  ·split
   ·rename_i e;rw[q6v];exact h.done e
   ·rename_i e;rw[Ar];exact h.nocs e
  ·split
   ·rename_i e;exact h.name e
   ·rename_i e;rw[Ar];exact h.noname e
  ·by_cases e:t.2.1=1
   ·exact .inr (h.out e)
   ·exact .inl e
theorem j08 {l:Hu WrT} :u4k l=true↔(∀w∈l,u26 w=true)∧(l.Pairwise fun a b=>y3c a.1 b.1=true)∧l.length≤8:=by
 unfold u4k
 rw[Ai,Ai,Ar,Bg,p7k (t:=u2m) (lt:=fun a b=>y3c a.1 b.1) (fun a b c h k=>q5d h k)]
theorem o2n {l:Hu WrT} (h:u4k l=true):KD l:=
 (j08.mp h).2.1.imp fun {a b} q e=>by rw[e,t1r] at q;cases q
theorem o6p {a b:u2b} :s62 a b=true↔vLt a b:=by
 unfold s62 vLt vCs
 rw[Cr,Ai,Ar,y7f]
theorem j40 {a b c:u2b} (h:vLt a b) (k:vLt b c):vLt a c:=by
 rcases h with h | ⟨h,h'⟩<;>rcases k with k | ⟨k,k'⟩
 ·exact .inl (q5d h k)
 ·exact .inl (k ▸ h)
 ·exact .inl (h ▸ k)
 ·exact .inr ⟨h.trans k,by omega⟩
theorem o85 {l:Hu u2b} :u7n l=true↔(∀v∈l,q2t v=true)∧VAsc l∧l.length≤120:=by
 unfold u7n
 rw[Ai,Ai,Ar,Bg,p7k (t:=u0e) (lt:=s62) (fun a b c h k=>o6p.mpr (j40 (o6p.mp h) (o6p.mp k)))]
 unfold VAsc
 simp only[o6p]
theorem r7a {l:Hu Int} {n:Int} :q2f l n=true↔(∀x∈l,x<n)∧l.Nodup:=by
 unfold q2f;rw[Ai,Ar,Ar]
structure BaseR (b:u0j):Prop where
 vs:u7n b.1=true
 vcs:∀v∈b.1,v.2.2.2≤b.2.2.2.1
 cs:0≤b.2.2.2.1∧b.2.2.2.1≤9999
 next:1≤b.2.2.2.2∧b.2.2.2.2≤9999
 plen:b.2.1.length≤12
 past:∀t∈b.2.1,TxnR t∧t.2.1=3∧t.2.2.2.1≤b.2.2.2.1
 pasc:b.2.1.Pairwise fun x y=>x.2.2.2.1<y.2.2.2.1
 rlen:b.2.2.1.length≤3
 ready:∀t∈b.2.2.1,TxnR t∧t.2.1=2∧t.2.2.1≤b.2.2.2.1
 rasc:b.2.2.1.Pairwise fun x y=>y3c x.2.2.2.2.2.2.2 y.2.2.2.2.2.2.2=true
 below:∀x∈u43 (b.2.1++b.2.2.1),x<b.2.2.2.2
 nodup:(u43 (b.2.1++b.2.2.1)).Nodup
theorem j7c {l:Hu u0h} {f:u0h→Int} :p3x u00 (fun a b=>decide (f a<f b)) l=true↔l.Pairwise fun x y=>f x<f y:=by
 rw[p7k (t:=u00) (lt:=fun a b=>decide (f a<f b)) (fun a b c h k=>by simp only[Ar] at*;omega)]
 simp only[Ar]
theorem d0u {l:Hu u0h} :p3x u00 (fun a b=>y3c a.2.2.2.2.2.2.2 b.2.2.2.2.2.2.2) l=true↔l.Pairwise fun x y=>y3c x.2.2.2.2.2.2.2 y.2.2.2.2.2.2.2=true:=
 p7k (t:=u00) (lt:=fun a b=>y3c a.2.2.2.2.2.2.2 b.2.2.2.2.2.2.2) (fun a b c h k=>q5d h k)
theorem p6a {b:u0j} :u63 b=true↔BaseR b:=by
 unfold u63 o41 p9d
 simp only[Ai,q6v,Ar,Bg,q5j,r7a,d0u]
 rw[j7c (f:=fun t=>t.2.2.2.1)]
 constructor
 ·rintro⟨h1,h2,h3,h4,⟨h5,h6,h7⟩,⟨h8,h9,h10⟩,h11,h12⟩
  exact⟨h1,h2,h3,h4,h5,h6,h7,h8,h9,h10,h11,h12⟩
 ·intro h
  exact⟨h.vs,h.vcs,h.cs,h.next,⟨h.plen,h.past,h.pasc⟩,⟨h.rlen,h.ready,h.rasc⟩,h.below,h.nodup⟩
structure EngR (e:u3a):Prop where
 base:BaseR e.1
 olen:e.2.length≤4
 open_:∀t∈e.2,TxnR t∧t.2.1=1∧t.2.2.1≤e.1.2.2.2.1
 oasc:e.2.Pairwise fun x y=>x.1<y.1
 below:∀x∈u43 (e.1.2.1++e.1.2.2.1++e.2),x<e.1.2.2.2.2
 nodup:(u43 (e.1.2.1++e.1.2.2.1++e.2)).Nodup
theorem j4f {e:u3a} :o04 e=true↔EngR e:=by
 unfold o04 o4z
 simp only[Ai,Ar,Bg,q5j,r7a,p6a]
 rw[j7c (f:=fun t=>t.1)]
 constructor
 ·rintro⟨h1,⟨h2,h3,h4⟩,h5,h6⟩
  exact⟨h1,h2,h3,h4,h5,h6⟩
 ·intro h
  exact⟨h.base,⟨h.olen,h.open_,h.oasc⟩,h.below,h.nodup⟩
end
section
theorem u3q (l:Hu Int):(y7g l).size=l.length:=by
 simp[y7g,ByteArray.size]
theorem o4q {s:Hs} {i:Nat} (h:i<s.size):s.data.toList.getD i 0=s.data.toList[i]'(by simpa using h):=by
 rw[A5,A4 (by simpa using h)]
 rfl
theorem j2n (n m:Nat):Int.tdiv (n:Int) (m:Int)=((n / m:Nat):Int):=(Int.ofNat_tdiv n m).symm
theorem o34 (n m:Nat):Int.tmod (n:Int) (m:Int)=((n % m:Nat):Int):=(Int.ofNat_tmod n m).symm
theorem j0o {n:Nat} (h:n<256):IntKind.u8.wrap (n:Int)=(n:Int):=by
 simp[IntKind.wrap,IntKind.bits,IntKind.signed]
 omega
end
section
abbrev u0i:=Hu Hs×Hu (Int×Hs)
theorem o7s:(⟨#[]⟩:Hs)=emp:=rfl
def r0x (a b c:Int):Bool:=decide (b≤a)&&decide (a≤c)
theorem t9t (a b c:Int):u03 (a,b,c)=some (r0x a b c):=by
 rw[p73];unfold q3h r0x
 simp only[ge_iff_le]
 cases decide (b≤a)<;>rfl
theorem s0v (a b c:Int):u0u (a,b,c)=some (r0x a b c):=by
 rw[o02];unfold q72 r0x
 simp only[ge_iff_le]
 cases decide (b≤a)<;>rfl
theorem t01 {d:u0i} :d.1.length≤d0s.wt d:=by simp only[Ty.wt];omega
theorem t26 {d:u0i} :d.2.length≤d0s.wt d:=by simp only[Ty.wt];omega
theorem j0c {d:u0i} {s:Hs} (h:s∈d.1):s.size≤d0s.wt d:=by
 have h1:d0s.wt d=(d.1.length+(d.1.map Ty.str.wt).sum)+(d.2.length+(d.2.map o4j.wt).sum):=rfl
 have h2:=p62 (f:=Ty.str.wt) h
 have h3:Ty.str.wt s=s.size:=rfl
 omega
theorem o96 {d:u0i} {p:Int×Hs} (h:p∈d.2):p.2.size≤d0s.wt d:=by
 have h1:d0s.wt d=(d.1.length+(d.1.map Ty.str.wt).sum)+(d.2.length+(d.2.map o4j.wt).sum):=rfl
 have h2:=p62 (f:=o4j.wt) h
 have h3:o4j.wt p=0+p.2.size:=rfl
 omega
def t1o (c:Hu (Int×Hs)) (at_:Int):Ht Hs:=c.foldl (fun t p=>if p.1=at_ then some p.2 else t) none
def u0l (d:u0i) (at_:Int):Hs×Bool:=if 0≤at_∧at_<d.1.length then((t1o d.2 at_).getD (rdL Ty.str d.1 at_.toNat),true) else(emp,false)
theorem r7t (c:Hu (Int×Hs)) (p:Int×Hs) (at_:Int):t1o (c++ [p]) at_=if p.1=at_ then some p.2 else t1o c at_:=by
 simp[t1o,List.foldl_append]
theorem q2i {c:Hu (Int×Hs)} {at_:Int} {s:Hs} (h:t1o c at_=some s):∃p∈c,p.2=s:=by
 have key:∀(c:Hu (Int×Hs)) (z:Ht Hs),c.foldl (fun t p=>if p.1=at_ then some p.2 else t) z=some s→z=some s∨ ∃p∈c,p.2=s:=by
  intro c
  induction c with
  | nil=>intro z h;exact .inl h
  | cons p c ih=>
   intro z h
   rw[Bs] at h
   rcases ih _ h with h | ⟨q,hq,h⟩
   ·split at h
    ·exact .inr ⟨p,by simp,by simpa using h⟩
    ·exact .inl h
   ·exact .inr ⟨q,by simp[hq],h⟩
 rcases key c none h with h | h
 ·cases h
 ·exact h
theorem r71 (d:u0i) (at_:Int):(u0l d at_).1.size≤d0s.wt d:=by
 unfold u0l
 split
 ·rename_i h
  cases hl:t1o d.2 at_ with
  | none=>
   simp only[Eo]
   have hi:at_.toNat<d.1.length:=by omega
   rw[y8k (t:=Ty.str) hi]
   exact j0c (Ag hi)
  | some s=>
   simp only[Eb]
   obtain⟨p,hp,rfl⟩:=q2i hl
   exact o96 hp
 ·show 0≤_;omega
theorem o51 (c:Hu (Int×Hs)) (at_:Int) (z:Hs):c.foldl (fun t p=>if p.1=at_ then p.2 else t) z=(t1o c at_).getD z:=by
 have key:∀(c:Hu (Int×Hs)) (o:Ht Hs) (z:Hs),c.foldl (fun t p=>if p.1=at_ then p.2 else t) (o.getD z)=(c.foldl (fun t p=>if p.1=at_ then some p.2 else t) o).getD z:=by
  intro c
  induction c with
  | nil=>intro o z;rfl
  | cons p c ih=>
   intro o z
   simp only[Bs]
   by_cases h:p.1=at_
   ·simp only[h,Bl];exact ih (some p.2) z
   ·simp only[h,Bk];exact ih o z
 exact key c none z
theorem o4v (d:u0i) (at_:Int) (hd:d.1.length≤u0k):r0x at_ 0 (IntKind.i64.wrap ((d.1.length:Int) - 1))=decide (0≤at_∧at_<d.1.length):=by
 unfold u0k at hd
 rw[y4y (by omega) (by omega)]
 unfold r0x
 by_cases h:0≤at_∧at_<d.1.length
 ·rw[Bb h,Bb h.1,Bb (by omega)];rfl
 ·rw[A7 h]
  by_cases h0:0≤at_
  ·rw[Bb h0,A7 (by omega)];rfl
  ·rw[A7 h0];rfl
theorem s3u (d:u0i) (at_:Int) (hd:d0s.wt d≤u0k):u8u (d,at_)=some (u0l d at_):=by
 have h1:d.1.length≤u0k:=A9 t01 hd
 have h2:d.2.length≤u0k:=A9 t26 hd
 rw[q58];unfold s8g
 simp only[t9t,o4v d at_ h1,zOb]
 unfold u0l
 unfold u0k at h1 h2
 by_cases h:0≤at_∧at_<d.1.length
 ·have hg:y4q at_ d.1.length=true:=by simp[y4q,h]
  have L:=u9a u9p d.2 (fun t i=>(at_,t,d.2,(d.2.length:Int),i)) (fun t p=>if p.1=at_ then p.2 else t) (fun t=> .inl t) (fun _ _=>True)
   (fun a _=>by rw[s5d];simp only[u9h,u0b,Am,Ah,Aa])
   (fun i hi a _=>⟨trivial,by
    rw[s5d];simp only[u9h,u0b,hi,Ae,Ad,y7t hi,zTn,y8k (t:=o4j) hi]
    rw[y7l (by omega)]
    by_cases hp:(d.2[i]).1=at_
    ·simp only[hp,Ae,Ad,Bl]
    ·simp only[hp,Ah,Aa,Bk]⟩) (rdL Ty.str d.1 at_.toNat) trivial
  simp only[h,and_self,Ae,Ap,Aa,hg,Ad,L,zOb,Bl,o51]
 ·simp only[h,Ah,Bh,Ad,Bk];rfl
theorem s3v (d:u0i) (at_:Int) (hd:d0s.wt d≤u0k):u6w (d,at_)=some (u0l d at_):=by
 have h1:d.1.length≤u0k:=A9 t01 hd
 have h2:d.2.length≤u0k:=A9 t26 hd
 rw[q6k];unfold s8s
 simp only[s0v,o4v d at_ h1,zOb]
 unfold u0l
 unfold u0k at h1 h2
 by_cases h:0≤at_∧at_<d.1.length
 ·have hg:y4q at_ d.1.length=true:=by simp[y4q,h]
  have L:∀n:Nat,n≤d.2.length→u9u (at_,d,(n:Int) - 1)=some (match t1o (d.2.take n) at_ with
   | some s=> .inr (s,true)
   | none=> .inl (at_,d)):=by
   intro n
   induction n with
   | zero=>
    intro _
    rw[s5i];simp only[u9m]
    rfl
   | succ n ih=>
    intro hn
    have hlt:n<d.2.length:=by omega
    rw[s5i];simp only[u9m]
    have e0:((n+1:Nat):Int) - 1=(n:Int):=by simp
    have e1:decide ((n:Int)≥0)=true:=by simp
    simp only[e0,e1,Ad,y7t hlt,zTn,y8k (t:=o4j) hlt]
    rw[B9 hlt,r7t]
    by_cases hp:(d.2[n]).1=at_
    ·simp only[hp,Ae,Ad,Bl]
    ·simp only[hp,Ah,Aa,Bk]
     rw[y4y (by omega) (by omega)]
     exact ih (by omega)
  have L:=L d.2.length (Au _)
  rw[Cq] at L
  have wl:IntKind.i64.wrap ((d.2.length:Int) - 1)=(d.2.length:Int) - 1:=y4y (by omega) (by omega)
  simp only[h,and_self,Ae,Ap,Aa,Bl]
  rw[wl,L]
  cases t1o d.2 at_ with
  | none=>simp only[zOb,hg,Ad,Eo]
  | some s=>rfl
 ·simp only[h,Ah,Bh,Ad,Bk];rfl
def r89 (d:u0i) (from_:Int):Nat→Nat→Hs→Hs×Bool
 | 0,_,acc=>(acc,true)
 | m+1,i,acc=>if(u0l d (from_+(i:Int))).2 then r89 d from_ m (i+1) (acc++(u0l d (from_+(i:Int))).1) else(emp,false)
def u74 (d:u0i) (from_ n:Int):Hs×Bool:=if 0≤n∧n≤100 then r89 d from_ n.toNat 0 emp else(emp,false)
theorem u7f (s:Hs):(z7t s).length=s.size:=by simp[z7t]
theorem t71 (a b:Hs):z7t (a++b)=z7t a++z7t b:=by simp[z7t,Ft]
theorem t7r (s:Hs):y7g (z7t s)=s:=by
 cases s with
 | mk d=>
  unfold y7g z7t
  simp only[List.map_map]
  have:(d.toList.map ((fun n=>UInt8.ofNat n.toNat) ∘fun b=>(b.toNat:Int)))=d.toList:=by
   conv=>rhs;rw[←List.map_id d.toList]
   apply Ff
   intro b _
   simp
  rw[this]
theorem s7p {a b c:Int} :r0x a b c=decide (b≤a∧a≤c):=by
 unfold r0x
 by_cases h:b≤a<;>by_cases g:a≤c<;>simp[h,g]
theorem p0r (d:u0i) (from_ n:Int) (hd:d0s.wt d≤1073741824) (h1: -4611686018427387904≤from_) (h2:from_≤4611686018427387904):t93 (d,from_,n)=some (u74 d from_ n):=by
 have hb:d0s.wt d≤u0k:=by unfold u0k;omega
 rw[q6b];unfold s8j u74
 simp only[t9t,s7p,zOb]
 by_cases h:0≤n∧n≤100
 ·obtain⟨m,rfl⟩:∃m:Nat,n=m:=⟨n.toNat,by omega⟩
  have L:=r5k (fun x=>(u9q x).bind fun r=>match r with
   | .inl o=>some (y7g o,true)
   | .inr z=>some z) m (fun(a:Hs) i=>(from_,(m:Int),d,z7t a,i)) (fun i a=>r89 d from_ (m - i) i a) (fun i a=>a.size≤i*1073741824)
   (fun a _=>by
    rw[s5e];simp only[u9i,u0b,Am,Ah,Aa,zOb,t7r,Dw,r89])
   (fun i a hi ha=>by
    have e:m - i=(m - (i+1))+1:=by omega
    have hs:=r71 d (from_+(i:Int))
    rw[s5e];simp only[u9i,u0b,hi,Ae,Ad]
    rw[y4y (n:=from_+(i:Int)) (by omega) (by omega),s3u d _ hb,e]
    simp only[zOb,r89]
    cases hr:(u0l d (from_+(i:Int))).2 with
    | false=>left;rfl
    | true=>
     right
     refine⟨a++(u0l d (from_+(i:Int))).1,by rw[Af];omega,by simp,?_⟩
     simp only[Ap,Aa,u7f,u0r (show a.size+(u0l d (from_+(i:Int))).1.size≤1099511627776 by omega),Ad,t71]
     rw[y7l (by omega)]) 0 emp (by omega) (by show 0≤_;omega)
  rw[Bb h,Al h,Ap,Aa]
  exact L
 ·rw[A7 h,Ao h];rfl
theorem p0s (d:u0i) (from_ n:Int) (hd:d0s.wt d≤1073741824) (h1: -4611686018427387904≤from_) (h2:from_≤4611686018427387904):t97 (d,from_,n)=some (u74 d from_ n):=by
 have hb:d0s.wt d≤u0k:=by unfold u0k;omega
 rw[q6m];unfold s8u u74
 simp only[s0v,s7p,zOb]
 by_cases h:0≤n∧n≤100
 ·obtain⟨m,rfl⟩:∃m:Nat,n=m:=⟨n.toNat,by omega⟩
  have L:=r5k (fun x=>(u9v x).bind fun r=>match r with
   | .inl o=>some (o,true)
   | .inr z=>some z) m (fun(a:Hs) i=>(from_,(m:Int),d,a,i)) (fun i a=>r89 d from_ (m - i) i a) (fun i a=>a.size≤i*1073741824∧(i=0∨0≤from_))
   (fun a _=>by
    rw[s5j];simp only[u9n,u0b,Am,Ah,Aa,zOb,Dw,r89])
   (fun i a hi ha=>by
    have e:m - i=(m - (i+1))+1:=by omega
    have hs:=r71 d (from_+(i:Int))
    rw[s5j];simp only[u9n,u0b,hi,Ae,Ad]
    rw[e]
    simp only[r89]
    by_cases hf:from_<0∨from_ >(d.1.length:Int)
    ·left
     have hno:(u0l d (from_+(i:Int))).2=false:=by
      unfold u0l
      rw[Ao (by omega)]
     rw[hno]
     by_cases hf1:from_<0
     ·rw[Bb hf1];rfl
     ·have hf2:from_ >(d.1.length:Int):=by omega
      rw[A7 hf1,Bb hf2];rfl
    ·have hf1: ¬from_<0:=by omega
     have hf2: ¬from_ >(d.1.length:Int):=by omega
     rw[A7 hf1,A7 hf2]
     simp only[Aa,zOb]
     rw[y4y (n:=from_+(i:Int)) (by omega) (by omega),s3v d _ hb]
     simp only[zOb]
     cases hr:(u0l d (from_+(i:Int))).2 with
     | false=>left;rfl
     | true=>
      right
      refine⟨a++(u0l d (from_+(i:Int))).1,⟨by rw[Af];omega,by omega⟩,by simp,?_⟩
      simp only[Ap,Aa,Bb (show a.size+(u0l d (from_+(i:Int))).1.size≤140737488355328 by omega),Ad]
      rw[y7l (by omega)]) 0 emp (by omega) ⟨by show 0≤_;omega, .inl rfl⟩
  rw[Bb h,Al h,Ap,Aa]
  exact L
 ·rw[A7 h,Ao h];rfl
end
section
theorem o7p (v:Nat):(bif decide ((v:Int)<97) then some true else some (decide ((v:Int) >122)))=some (!(decide (97≤v)&&decide (v≤122))):=by
 have e1:decide ((v:Int)<97)= !decide (97≤v):=by by_cases h:97≤v<;>simp[h] <;>omega
 have e2:decide ((v:Int) >122)= !decide (v≤122):=by by_cases h:v≤122<;>simp[h] <;>omega
 rw[e1,e2]
 cases decide (97≤v)<;>cases decide (v≤122)<;>rfl
theorem r82 (a b c:Int):u03 (a,b,c)=some (inB a b c):=t9t a b c
theorem s87 (a b c:Int):u0u (a,b,c)=some (inB a b c):=s0v a b c
theorem t2s {X R:Type} (W:X→Ht R) (n:Nat) (mk:Int→X) (ok:Nat→Bool) (yes no:R) (hend:W (mk (n:Int))=some yes)
 (hstep:∀(i:Nat),i<n→W (mk (i:Int))=bif ok i then W (mk ((i+1:Nat):Int)) else some no):W (mk 0)=some (bif (List.range n).all ok then yes else no):=by
 have key:∀d i:Nat,i+d=n→W (mk (i:Int))=some (bif (List.range d).all (fun j=>ok (i+j)) then yes else no):=by
  intro d
  induction d with
  | zero=>intro i hi;have:i=n:=by omega
          subst this;simpa using hend
  | succ d ih=>
   intro i hi
   rw[hstep i (by omega),ih (i+1) (by omega),List.range_succ_eq_map,Gc,List.all_map,Df]
   have e:((fun j=>ok (i+j)) ∘Nat.succ)=fun j=>ok (i+1+j):=by funext j;simp only[Function.comp];congr 1;omega
   rw[e]
   cases ok i<;>rfl
 have:=key n 0 (by omega)
 simpa using this
theorem s1i {t:Ty} (l:Hu t.den) (f:t.den→Bool):((List.range l.length).all fun i=>f (rdL t l i))=l.all f:=by
 rw[Cd,Bg,Bg]
 constructor
 ·intro h x hx
  obtain⟨i,hi,rfl⟩:=B7 hx
  have:=h i (Bq.mpr hi)
  rwa [y8k hi] at this
 ·intro h i hi
  rw[y8k (Bq.mp hi)]
  exact h _ (Ag _)
theorem o7l {α:Type} (l:Hu α) (f g:α→Bool):(l.all fun i=>f i&&g i)=(l.all f&&l.all g):=by
 induction l with
 | nil=>rfl
 | cons x l ih=>simp only[Gc,ih];cases f x<;>cases g x<;>simp
theorem s7n {t:Ty} (l:Hu t.den) (f:t.den→Bool) (lt:t.den→t.den→Bool):
 ((List.range l.length).all fun i=>f (rdL t l i)&&(decide (i=0) || lt (rdL t l (i - 1)) (rdL t l i)))=(l.all f&&p3x t lt l):=by
 rw[o7l (List.range l.length) (fun i=>f (rdL t l i)) (fun i=>decide (i=0) || lt (rdL t l (i - 1)) (rdL t l i)),s1i]
 rfl
theorem s0w (i:Nat):decide ((i:Int) >0)= !decide (i=0):=by by_cases h:i=0<;>simp[h] <;>omega
theorem t5y {i:Nat} (h:i<4611686018427387904) (h0:i≠0):IntKind.i64.wrap ((i:Int) - (1:Int))=((i - 1:Nat):Int):=by
 rw[y4y (by omega) (by omega)];omega
theorem p83 (s:Hs) {i:Nat} (h:i<s.size):s.data.toList.getD i 0=s.data.toList[i]'h:=by
 rw[A5,A4 h];rfl
theorem s3q (s:Hs) (hs:s.size≤u0k):u9c s=some (u66 s):=by
 have hb:u0k=1099511627776:=rfl
 have L:=t2s s0n s.size (fun i=>(s,i)) (fun i=>(fun b:UInt8=>decide (97≤b.toNat)&&decide (b.toNat≤122)) (s.data.toList.getD i 0)) (.inl s) (.inr false)
  (by rw[q1v];simp only[s0f,u0b,Am,Ah,Aa])
  (fun i hi=>by
   rw[q1v];simp only[s0f,u0b,hi,Ae,Ad,y7t hi,zTn,y7l (show i<4611686018427387904 by omega)]
   rw[o7p];simp only[zOb]
   cases (decide (97≤(s.data.toList.getD i 0).toNat)&&decide ((s.data.toList.getD i 0).toNat≤122))<;>rfl)
 have hA:((List.range s.size).all fun i=>(fun b:UInt8=>decide (97≤b.toNat)&&decide (b.toNat≤122)) (s.data.toList.getD i 0))=s.data.toList.all (fun b=>decide (97≤b.toNat)&&decide (b.toNat≤122)):=by
  rw[Cd,Bg,Bg]
  constructor
  ·intro h x hx
   obtain⟨i,hi,rfl⟩:=B7 hx
   have:=h i (Bq.mpr hi)
   rwa [p83 s hi] at this
  ·intro h i hi
   rw[p83 s (Bq.mp hi)]
   exact h _ (Ag _)
 rw[hA] at L
 rw[o0o];unfold q7o
 simp only[L,zOb]
 unfold u66
 cases s.data.toList.all (fun b=>decide (97≤b.toNat)&&decide (b.toNat≤122))
 ·rfl
 ·simp only[Ad,r82,zOb,Bz]
  unfold inB
  congr 1
  have e1:decide ((1:Int)≤(s.size:Int))=decide (1≤s.size):=by simp;omega
  have e2:decide ((s.size:Int)≤3)=decide (s.size≤3):=by simp;omega
  rw[e1,e2]
theorem t7u (s:Hs) (hs:s.size≤u0k):u6o s=some (u66 s):=by
 have hb:u0k=1099511627776:=rfl
 have L:=t2s s0p s.size (fun i=>(s,i)) (fun i=>(fun b:UInt8=>decide (97≤b.toNat)&&decide (b.toNat≤122)) (s.data.toList.getD i 0)) (.inl s) (.inr false)
  (by rw[q1x];simp only[s0h,u0b,Am,Ah,Aa])
  (fun i hi=>by
   rw[q1x];simp only[s0h,u0b,hi,Ae,Ad,y7t hi,zTn,y7l (show i<4611686018427387904 by omega)]
   rw[o7p];simp only[zOb]
   cases (decide (97≤(s.data.toList.getD i 0).toNat)&&decide ((s.data.toList.getD i 0).toNat≤122))<;>rfl)
 have hA:((List.range s.size).all fun i=>(fun b:UInt8=>decide (97≤b.toNat)&&decide (b.toNat≤122)) (s.data.toList.getD i 0))=s.data.toList.all (fun b=>decide (97≤b.toNat)&&decide (b.toNat≤122)):=by
  rw[Cd,Bg,Bg]
  constructor
  ·intro h x hx
   obtain⟨i,hi,rfl⟩:=B7 hx
   have:=h i (Bq.mpr hi)
   rwa [p83 s hi] at this
  ·intro h i hi
   rw[p83 s (Bq.mp hi)]
   exact h _ (Ag _)
 rw[hA] at L
 rw[o0w];unfold q7w
 simp only[L,zOb]
 unfold u66
 cases s.data.toList.all (fun b=>decide (97≤b.toNat)&&decide (b.toNat≤122))
 ·rfl
 ·simp only[Ad,s87,zOb,Bz]
  unfold inB
  congr 1
  have e1:decide ((1:Int)≤(s.size:Int))=decide (1≤s.size):=by simp;omega
  have e2:decide ((s.size:Int)≤3)=decide (s.size≤3):=by simp;omega
  rw[e1,e2]
theorem p97 (r:s5p) (h1:r.1.size≤u0k) (h2:r.2.size≤u0k):s7q r=some (u25 r):=by
 rw[p34];unfold r9p u25
 simp only[s3q _ h1,s3q _ h2,zOb]
 cases u66 r.1<;>cases u66 r.2<;>rfl
theorem r5p (r:s5p) (h1:r.1.size≤u0k) (h2:r.2.size≤u0k):t5p r=some (u25 r):=by
 rw[p4t];unfold q0e u25
 simp only[t7u _ h1,t7u _ h2,zOb]
 cases u66 r.1<;>cases u66 r.2<;>rfl
theorem t4o (s:Hs):z7o s (⟨#[]⟩:Hs)=decide (s.size=0):=by
 rw[Cd,y7f,Ar]
 constructor
 ·intro h;subst h;rfl
 ·intro h;exact Gf (Fi h)
theorem j99 (s:Hs):decide ((s.size:Int)≤12)=decide (s.size≤12):=by simp;omega
theorem o0h (w:WrT) (h1:w.1.size≤u0k):s7u w=some (u26 w):=by
 rw[p4e];unfold r9z u26
 simp only[s3q _ h1,zOb,t4o,j99]
 cases u66 w.1<;>cases decide (w.2.1.size≤12)<;>cases w.2.2<;>rfl
theorem r5t (w:WrT) (h1:w.1.size≤u0k):t5q w=some (u26 w):=by
 rw[p42];unfold q0n u26
 simp only[t7u _ h1,zOb,t4o,j99]
 cases u66 w.1<;>cases decide (w.2.1.size≤12)<;>cases w.2.2<;>rfl
theorem p61 {l:Hu WrT} {w:WrT} (h:w∈l):w.1.size≤(Ty.sl u2m).wt l∧w.2.1.size≤(Ty.sl u2m).wt l:=by
 have h1:(Ty.sl u2m).wt l=l.length+(l.map u2m.wt).sum:=rfl
 have h2:=p62 (f:=u2m.wt) h
 have h3:u2m.wt w=w.1.size+(w.2.1.size+0):=rfl
 omega
theorem p6q {l:Hu s5p} {w:s5p} (h:w∈l):w.1.size≤(Ty.sl t2h).wt l∧w.2.size≤(Ty.sl t2h).wt l:=by
 have h1:(Ty.sl t2h).wt l=l.length+(l.map t2h.wt).sum:=rfl
 have h2:=p62 (f:=t2h.wt) h
 have h3:t2h.wt w=w.1.size+w.2.size:=rfl
 omega
theorem t9x {t:Ty} (l:Hu t.den):l.length≤(Ty.sl t).wt l:=by
 have h1:(Ty.sl t).wt l=l.length+(l.map t.wt).sum:=rfl
 omega
theorem le8 (n:Nat):decide ((n:Int)≤8)=decide (n≤8):=by simp;omega
theorem gt8 (n:Nat):decide ((n:Int) >8)= !decide (n≤8):=by by_cases h:n≤8<;>simp[h] <;>omega
theorem p7i (l:Hu WrT) (hl:(Ty.sl u2m).wt l≤u0k):s4u l=some (u4k l):=by
 have hb:u0k=1099511627776:=rfl
 have hn:=t9x (t:=u2m) l
 have L:=t2s t4e l.length (fun i=>(l,l,(l.length:Int),i)) (fun i=>u26 (rdL u2m l i)&&(decide (i=0) || (fun a b:WrT=>y3c a.1 b.1) (rdL u2m l (i - 1)) (rdL u2m l i))) (.inl l) (.inr false)
  (by rw[r0d];simp only[t3q,u0b,Am,Ah,Aa])
  (fun i hi=>by
   have hm:rdL u2m l i∈l:=by rw[y8k hi];exact Ag hi
   rw[r0d];simp only[t3q,u0b,hi,Ae,Ad,y7t hi,zTn,y7l (show i<4611686018427387904 by omega),o0h _ (A9 (p61 hm).1 hl),zOb,s0w]
   by_cases h0:i=0
   ·subst h0;simp only[Ae,Ap,Aa,Dx,Cz]
    cases u26 (rdL u2m l 0)<;>rfl
   ·simp only[h0,Ah,Bh,Ad,Ci,t5y (show i<4611686018427387904 by omega) h0,y7t (show i - 1<l.length by omega),zTn]
    cases u26 (rdL u2m l i)
    ·rfl
    ·simp only[Ap,Aa,zOb,Bz]
     cases y3c (rdL u2m l (i - 1)).1 (rdL u2m l i).1<;>rfl)
 rw[s7n (t:=u2m) l u26 (fun a b=>y3c a.1 b.1)] at L
 rw[p1n];unfold r57
 simp only[L,zOb]
 unfold u4k
 cases l.all u26
 ·rfl
 ·cases p3x u2m (fun a b=>y3c a.1 b.1) l
  ·rfl
  ·simp only[Bz,Ad]
   rw[le8]
theorem q23 (l:Hu WrT) (hl:(Ty.sl u2m).wt l≤u0k):t9k l=some (u4k l):=by
 have hb:u0k=1099511627776:=rfl
 have hn:=t9x (t:=u2m) l
 have L:=t2s t4n l.length (fun i=>(l,i)) (fun i=>u26 (rdL u2m l i)&&(decide (i=0) || (fun a b:WrT=>y3c a.1 b.1) (rdL u2m l (i - 1)) (rdL u2m l i))) (.inl l) (.inr false)
  (by rw[r0t];simp only[t37,u0b,Am,Ah,Aa])
  (fun i hi=>by
   have hm:rdL u2m l i∈l:=by rw[y8k hi];exact Ag hi
   rw[r0t];simp only[t37,u0b,hi,Ae,Ad,y7t hi,zTn,y7l (show i<4611686018427387904 by omega),r5t _ (A9 (p61 hm).1 hl),zOb,s0w]
   by_cases h0:i=0
   ·subst h0;simp only[Ae,Ap,Aa,Dx,Cz]
    cases u26 (rdL u2m l 0)<;>rfl
   ·simp only[h0,Ah,Bh,Ad,Ci,t5y (show i<4611686018427387904 by omega) h0,y7t (show i - 1<l.length by omega),zTn]
    cases u26 (rdL u2m l i)
    ·rfl
    ·simp only[Ap,Aa,zOb,Bz]
     cases y3c (rdL u2m l (i - 1)).1 (rdL u2m l i).1<;>rfl)
 rw[s7n (t:=u2m) l u26 (fun a b=>y3c a.1 b.1)] at L
 rw[p2b];unfold r6w
 simp only[L,zOb]
 unfold u4k
 cases l.all u26
 ·rfl
 ·cases p3x u2m (fun a b=>y3c a.1 b.1) l
  ·rfl
  ·simp only[Bz,Ad]
   rw[le8]
theorem o8o (t:u0h):u00.wt t=0+(0+(0+(0+((Ty.sl t2h).wt t.2.2.2.2.1+((Ty.sl u2m).wt t.2.2.2.2.2.1+(0+t.2.2.2.2.2.2.2.size)))))):=rfl
theorem s3r (t:u0h) (ht:u00.wt t≤u0k):u7y t=some (u60 t):=by
 have hb:u0k=1099511627776:=rfl
 have hw:=o8o t
 have hn:=t9x (t:=t2h) t.2.2.2.2.1
 have L:=t2s s0o t.2.2.2.2.1.length (fun i=>(t,t.2.2.2.2.1,(t.2.2.2.2.1.length:Int),i)) (fun i=>u25 (rdL t2h t.2.2.2.2.1 i)) (.inl t) (.inr false)
  (by rw[q1w];simp only[s0g,u0b,Am,Ah,Aa])
  (fun i hi=>by
   have hm:rdL t2h t.2.2.2.2.1 i∈t.2.2.2.2.1:=by rw[y8k hi];exact Ag hi
   have hz:=p6q hm
   rw[q1w];simp only[s0g,u0b,hi,Ae,Ad,y7t hi,zTn,y7l (show i<4611686018427387904 by omega),p97 (rdL t2h t.2.2.2.2.1 i) (A9 hz.1 (by omega)) (A9 hz.2 (by omega)),zOb]
   cases u25 (rdL t2h t.2.2.2.2.1 i)<;>rfl)
 rw[s1i (t:=t2h) t.2.2.2.2.1 u25] at L
 rw[o0s];unfold q7s
 have k1:=p7i t.2.2.2.2.2.1 (by omega)
 have k2:=s3q t.2.2.2.2.2.2.2 (by omega)
 simp only[L,zOb]
 unfold u60
 cases t.2.2.2.2.1.all u25
 ·simp only[Aa,Fx,Fy]
 ·simp only[Ad,r82,k1,k2,zOb,t4o,gt8,Bz]
  cases h3:inB t.2.2.1 0 9999
  ·cases inB t.1 1 9999<;>cases inB t.2.1 1 3<;>simp
  ·have h3' :=q6v.mp h3
   rw[y4y (n:=t.2.2.1+1) (by omega) (by omega)]
   cases inB t.1 1 9999<;>cases inB t.2.1 1 3<;>cases decide (t.2.2.2.2.1.length≤8)<;>cases u4k t.2.2.2.2.2.1<;>simp
   generalize inB t.2.2.2.1 (t.2.2.1+1) 9999=b1
   generalize u66 t.2.2.2.2.2.2.2=b2
   by_cases e3:t.2.1=3
   ·cases t.2.2.2.2.2.2.1<;>cases b1<;>simp[e3]
   ·by_cases e2:t.2.1=2
    ·cases t.2.2.2.2.2.2.1<;>cases b2<;>by_cases e5:t.2.2.2.1=0<;>simp[e2,e5]
    ·by_cases e1:t.2.1=1<;>cases t.2.2.2.2.2.2.1<;>by_cases e5:t.2.2.2.1=0<;>simp[e1,e2,e3,e5]
theorem t7w (t:u0h) (ht:u00.wt t≤u0k):u6q t=some (u60 t):=by
 have hb:u0k=1099511627776:=rfl
 have hw:=o8o t
 have hn:=t9x (t:=t2h) t.2.2.2.2.1
 have L:=t2s s0s t.2.2.2.2.1.length (fun i=>(t,i)) (fun i=>u25 (rdL t2h t.2.2.2.2.1 i)) (.inl t) (.inr false)
  (by rw[q11];simp only[s0l,u0b,Am,Ah,Aa])
  (fun i hi=>by
   have hm:rdL t2h t.2.2.2.2.1 i∈t.2.2.2.2.1:=by rw[y8k hi];exact Ag hi
   have hz:=p6q hm
   rw[q11];simp only[s0l,u0b,hi,Ae,Ad,y7t hi,zTn,y7l (show i<4611686018427387904 by omega),r5p (rdL t2h t.2.2.2.2.1 i) (A9 hz.1 (by omega)) (A9 hz.2 (by omega)),zOb]
   cases u25 (rdL t2h t.2.2.2.2.1 i)<;>rfl)
 rw[s1i (t:=t2h) t.2.2.2.2.1 u25] at L
 rw[o01];unfold q71
 have k1:=q23 t.2.2.2.2.2.1 (by omega)
 have k2:=t7u t.2.2.2.2.2.2.2 (by omega)
 simp only[L,s87,k1,k2,zOb,t4o,gt8]
 unfold u60
 cases t.2.2.2.2.1.all u25
 ·cases inB t.1 1 9999<;>cases inB t.2.1 1 3<;>cases inB t.2.2.1 0 9999<;>cases decide (t.2.2.2.2.1.length≤8)<;>cases u4k t.2.2.2.2.2.1<;>simp
 ·simp only[Ad,Bz,s87,k2,zOb,t4o]
  cases h3:inB t.2.2.1 0 9999
  ·cases inB t.1 1 9999<;>cases inB t.2.1 1 3<;>simp
  ·have h3' :=q6v.mp h3
   rw[y4y (n:=t.2.2.1+1) (by omega) (by omega)]
   cases inB t.1 1 9999<;>cases inB t.2.1 1 3<;>cases decide (t.2.2.2.2.1.length≤8)<;>cases u4k t.2.2.2.2.2.1<;>try rfl
   generalize decide (t.2.2.2.2.2.2.2.size=0)=b4
   generalize inB t.2.2.2.1 (t.2.2.1+1) 9999=b1
   generalize u66 t.2.2.2.2.2.2.2=b2
   by_cases e3:t.2.1=3
   ·cases t.2.2.2.2.2.2.1<;>cases b1<;>cases b4<;>simp[e3]
   ·by_cases e2:t.2.1=2
    ·cases t.2.2.2.2.2.2.1<;>cases b2<;>by_cases e5:t.2.2.2.1=0<;>simp[e2,e5]
    ·by_cases e1:t.2.1=1<;>cases t.2.2.2.2.2.2.1<;>cases b4<;>by_cases e5:t.2.2.2.1=0<;>simp[e1,e2,e3,e5]
end
section
section
variable {l:Hu u00.den} (hl:j4l l) {u:Hu Nat} (ho:j7f l=some u)
include hl
include ho
def pre (l:Hu u00.den) (u:Hu Nat) (a:Nat):Hu u00.den:=(u.take a).map fun i=>rdL u00 l i
end
end
section
theorem j0e (l:Hu Int):(y7g l).size=l.length:=by
 simp[y7g,ByteArray.size]
theorem o2z (n:Nat) (b:Int) (hn:n≤1000000):∃t,u6s ((n:Int),b)=some t∧t.size=n:=by
 have key:∀(r i:Nat) (a:Hu Int),a.length=n→i+r=n→ ∃a' :Hu Int,u51 ((n:Int),b,a,(i:Int))=some (.inl a')∧a'.length=n:=by
  intro r
  induction r with
  | zero=>
   intro i a ha hi
   have:i=n:=by omega
   subst this
   rw[t7i]
   simp only[t0d,u0b,Am,Ah,Aa]
   exact⟨a,rfl,ha⟩
  | succ r ih=>
   intro i a ha hi
   have hlt:i<n:=by omega
   rw[t7i]
   simp only[t0d,u0b,hlt,Ae,Ad,y7t (show i<a.length by omega)]
   rw[y7l (by omega)]
   exact ih (i+1) _ (by simp[ha]) (by omega)
 obtain⟨a',e1,h1⟩:=key n 0 (List.replicate n (Ty.int .u8).zero) (by simp) (by omega)
 have e1:u51 ((n:Int),b,List.replicate n (Ty.int .u8).zero,0)=_:=e1
 have hc:(decide (0≤(n:Int))&&decide ((n:Int)≤1099511627776))=true:=by simp;omega
 rw[q1b];unfold s7j
 rw[hc,Ad]
 simp only[zTn,e1,zOb]
 exact⟨_,rfl,by rw[j0e];exact h1⟩
def j53 (w:u2m.den):Prop:=w.1.size≤4∧w.2.1.size≤13
theorem j3x {s:Src} (h:s.ok):Dr (r1p s) j53:=by
 rw[p8o];unfold q33
 obtain⟨w,s1,e1,k1,r1⟩:=o4i h
 obtain⟨y2,s2,e2,k2,r2⟩:=u2k k1 (n:=8) (by omega)
 simp only[e1,e2,zOb]
 by_cases c0:y2=0
 ·obtain⟨y3,s3,e3,k3,r3⟩:=q17 k2 (l:= [(⟨#[]⟩:Hs),(⟨#[65]⟩:Hs),(⟨#[97,98,99,100]⟩:Hs),(⟨#[97,98,99]⟩:Hs)]) (by decide)
  simp only[c0,Ae,Ad,e3,zOb]
  have hz:y3.size≤4:=by
   simp only[A8,Ep,Em] at r3
   rcases r3 with rfl | rfl | rfl | rfl<;>decide
  exact⟨_,_,rfl,k3,hz,by show w.2.1.size≤13;omega⟩
 ·simp only[c0,Ah,Aa]
  by_cases c1:y2=1
  ·obtain⟨y4,s4,e4,k4,r4⟩:=u2k k2 (n:=2) (by omega)
   have hw:IntKind.i64.wrap (12+y4)=(((12+y4).toNat:Nat):Int):=by rw[y4y (by omega) (by omega)];omega
   obtain⟨t,e5,h5⟩:=o2z (12+y4).toNat 97 (by omega)
   simp only[c1,Ae,Ad,e4,zOb,hw,e5]
   exact⟨_,_,rfl,k4,by show w.1.size≤4;omega,by show t.size≤13;omega⟩
  ·simp only[c1,Ah,Aa]
   by_cases c2:y2=2
   ·simp only[c2,Ae,Ad]
    exact⟨_,_,rfl,k2,by show w.1.size≤4;omega,by show w.2.1.size≤13;omega⟩
   ·simp only[c2,Ah,Aa]
    exact⟨_,_,rfl,k2,by show w.1.size≤4;omega,by show w.2.1.size≤13;omega⟩
def midTx (n:Nat) (t:u00.den):Prop:=t.2.2.2.2.1.length≤n∧(∀r∈t.2.2.2.2.1,r.1.size≤2∧r.2.size≤2)∧t.2.2.2.2.2.1.length≤n∧(∀r∈t.2.2.2.2.2.1,j53 r)∧t.2.2.2.2.2.2.2.size≤16
theorem j32 {s:Src} (h:s.ok):Dr (r1r s) (midTx 3):=by
 rw[p8s];unfold q37
 obtain⟨y1,s1,e1,k1,r1⟩:=u2k h (n:=6) (by omega)
 obtain⟨y2,s2,e2,k2,r2⟩:=u2k k1 (n:=3) (by omega)
 obtain⟨y3,s3,e3,k3,r3⟩:=u2k k2 (n:=6) (by omega)
 obtain⟨y4,s4,e4,k4,r4⟩:=o7e k3
 obtain⟨y5,s5,e5,k5,r5⟩:=o7j k4
 have hw:∀r∈y5,j53 r:=fun r hr=>by have:=r5.2.1 r hr;exact⟨by omega,by omega⟩
 simp only[e1,e2,e3,e4,e5,zOb]
 cases decide (IntKind.i64.wrap (1+y2)=2) with
 | true=>
  obtain⟨y6,s6,e6,k6,r6⟩:=o4c k5
  obtain⟨y7,s7,e7,k7,r7⟩:=r00 k6 (n:=2) (by omega)
  simp only[Ad,e6,e7,zOb]
  exact⟨_,_,rfl,k7,r4.1,r4.2,r5.1,hw,by show y6.size≤16;omega⟩
 | false=>
  simp only[Aa]
  cases decide (IntKind.i64.wrap (1+y2)=3) with
  | true=>
   obtain⟨y8,s8,e8,k8,r8⟩:=u2k k5 (n:=4) (by omega)
   obtain⟨y9,s9,e9,k9,r9⟩:=r00 k8 (n:=2) (by omega)
   simp only[Ad,e8,e9,zOb]
   exact⟨_,_,rfl,k9,r4.1,r4.2,r5.1,hw,by show ByteArray.size ⟨#[]⟩≤16;decide⟩
  | false=>
   exact⟨_,_,rfl,k5,r4.1,r4.2,r5.1,hw,by show ByteArray.size ⟨#[]⟩≤16;decide⟩
theorem j1p (t:u00.den) (h1:t.2.2.2.2.1.length≤1000000) (h2:t.2.2.2.2.2.1.length≤1000000):u0z t=some t:=by
 rw[q1d];unfold s7k
 simp only[Cc,Co,Cf,u0r (show t.2.2.2.2.1.length≤1099511627776 by omega),u0r (show t.2.2.2.2.2.1.length≤1099511627776 by omega),Ad]
theorem o7w {y:Int} (h:0≤y):y4q (Int.tmod y 3) 3=true:=by
 have:=r8z h (n:=3) (by omega)
 exact y7s.mpr ⟨this.1,by simpa using this.2⟩
theorem p7e {s:Src} (h:s.ok):Dr (t9n s) (midTx 4):=by
 rw[p8q];unfold q35
 obtain⟨y1,s1,e1,k1,r1⟩:=u2k h (n:=12) (by omega)
 obtain⟨y2,s2,e2,k2,r2⟩:=u2k k1 (n:=60) (by omega)
 obtain⟨t,s3,e3,k3,m1,m2,m3,m4,m5⟩:=j32 k2
 have hc:=j1p t (by omega) (by omega)
 have hi:=o7w r2.1
 simp only[e1,e2,e3,hc,zOb,Bc,Cc,Co,Nat.reduceAdd,hi,Ad]
 have base:midTx 4 t:=⟨by omega,m2,by omega,m4,m5⟩
 obtain⟨b1,b2,b3,b4,b5⟩:=base
 cases decide (y1=0) with
 | true=>exact⟨_,_,rfl,k3,b1,b2,b3,b4,b5⟩
 | false=>
  simp only[Aa]
  cases decide (y1=1) with
  | true=>exact⟨_,_,rfl,k3,b1,b2,b3,b4,b5⟩
  | false=>
   simp only[Aa]
   cases decide (y1=2) with
   | true=>exact⟨_,_,rfl,k3,b1,b2,b3,b4,b5⟩
   | false=>
    simp only[Aa]
    cases decide (y1=3) with
    | true=>
     refine⟨_,_,rfl,k3,b1,b2,b3,b4,?_⟩
     show(rdL Ty.str _ _).size≤16
     have hr:=r8z r2.1 (n:=3) (by omega)
     have:(Int.tmod y2 3).toNat=0∨(Int.tmod y2 3).toNat=1∨(Int.tmod y2 3).toNat=2:=by omega
     rcases this with q | q | q<;>rw[q] <;>decide
    | false=>
     simp only[Aa]
     cases decide (y1=4) with
     | true=>
      simp only[Ad,u0r (show t.2.2.2.2.1.length+1≤1099511627776 by omega)]
      refine⟨_,_,rfl,k3,by show(t.2.2.2.2.1++ [_]).length≤4;simp;omega,?_,b3,b4,b5⟩
      intro r hr
      rcases Ay.mp hr with q | q
      ·exact b2 r q
      ·simp only[Ax] at q
       subst q
       exact⟨by decide,by decide⟩
     | false=>
      simp only[Aa]
      cases decide (y1=5) with
      | true=>
       obtain⟨w,s4,e4,k4,r4⟩:=j3x k3
       simp only[Ad,e4,zOb,u0r (show t.2.2.2.2.2.1.length+1≤1099511627776 by omega)]
       refine⟨_,_,rfl,k4,b1,b2,by show(t.2.2.2.2.2.1++ [_]).length≤4;simp;omega,?_,b5⟩
       intro r hr
       rcases Ay.mp hr with q | q
       ·exact b4 r q
       ·simp only[Ax] at q
        subst q
        exact r4
      | false=>
       simp only[Aa]
       cases decide (y1=6) with
       | true=>exact⟨_,_,rfl,k3,b1,b2,b3,b4,b5⟩
       | false=>exact⟨_,_,rfl,k3,b1,b2,b3,b4,b5⟩
end
section
theorem o5d {l:Hu u2b} {w:u2b} (h:w∈l):w.1.size≤(Ty.sl u0e).wt l∧w.2.1.size≤(Ty.sl u0e).wt l:=by
 have h1:(Ty.sl u0e).wt l=l.length+(l.map u0e.wt).sum:=rfl
 have h2:=p62 (f:=u0e.wt) h
 have h3:u0e.wt w=w.1.size+(w.2.1.size+(0+0)):=rfl
 omega
theorem j50 (n:Nat):decide ((n:Int) >12)= !decide (n≤12):=by by_cases h:n≤12<;>simp[h] <;>omega
theorem j4j (n:Nat):decide ((n:Int)≤120)=decide (n≤120):=by simp;omega
theorem q8d (a b:Int):decide (a≥b)= !decide (a<b):=by
 by_cases h:a<b
 ·have: ¬a≥b:=by omega
  simp[h,this]
 ·have:a≥b:=by omega
  simp[h,this]
theorem q41 (a b:Int):decide (a >b)= !decide (a≤b):=by
 by_cases h:a≤b
 ·have: ¬a >b:=by omega
  simp[h,this]
 ·have:a >b:=by omega
  simp[h,this]
theorem j1x (a b:u2b):∃r,u5i (a,b)=some r∧decide (r≥0)= !s62 a b:=by
 rw[s1j];unfold t23 s62
 simp only[p5x,zOb]
 rcases q2q a.1 b.1 with h | h | h
 ·exact⟨-1,by simp[h],by simp[h]⟩
 ·simp only[h,t1r,y6l,Br,Bk,Bl,Ae,Ap,Aa,o6y,zOb,Ci,Bz]
  refine⟨_,rfl,?_⟩
  by_cases h3:a.2.2.2<b.2.2.2
  ·simp[h3]
  ·by_cases h4:a.2.2.2 >b.2.2.2<;>simp[h3,h4]
 ·have e1:=r1x h
  have e2:z7o a.1 b.1=false:=o32.mpr (fun e=>by rw[e,t1r] at h;cases h)
  exact⟨1,by simp[e1,e2],by simp[e1,e2]⟩
theorem p0t (l:Hu u2b) (hl:(Ty.sl u0e).wt l≤u0k):t94 l=some (u7n l):=by
 have hb:u0k=1099511627776:=rfl
 have hn:=t9x (t:=u0e) l
 have L:=t2s u9r l.length (fun i=>(l,l,(l.length:Int),i)) (fun i=>q2t (rdL u0e l i)&&(decide (i=0) || s62 (rdL u0e l (i - 1)) (rdL u0e l i))) (.inl l) (.inr false)
  (by rw[s5f];simp only[u9j,u0b,Am,Ah,Aa])
  (fun i hi=>by
   have hm:rdL u0e l i∈l:=by rw[y8k hi];exact Ag hi
   rw[s5f];simp only[u9j,u0b,hi,Ae,Ad,y7t hi,zTn,y7l (show i<4611686018427387904 by omega),s3q _ (A9 (o5d hm).1 hl),r82,zOb,s0w,t4o,j50]
   unfold q2t
   generalize u66 (rdL u0e l i).1=b1
   generalize decide ((rdL u0e l i).2.1.size≤12)=b2
   generalize decide ((rdL u0e l i).2.1.size=0)=b3
   generalize (rdL u0e l i).2.2.1=b4
   generalize inB (rdL u0e l i).2.2.2 1 9999=b5
   by_cases h0:i=0
   ·subst h0;simp only[Ae,Ap,Aa,Dx,Cz]
    cases b1<;>cases b2<;>cases b3<;>cases b4<;>cases b5<;>rfl
   ·obtain⟨r,hr,hr2⟩:=j1x (rdL u0e l (i - 1)) (rdL u0e l i)
    simp only[h0,Ah,Bh,Ad,Ci,t5y (show i<4611686018427387904 by omega) h0,y7t (show i - 1<l.length by omega),zTn,hr,hr2,zOb]
    cases s62 (rdL u0e l (i - 1)) (rdL u0e l i)<;>cases b1<;>cases b2<;>cases b3<;>cases b4<;>cases b5<;>rfl)
 rw[s7n (t:=u0e) l q2t s62] at L
 rw[q6c];unfold s8k
 simp only[L,zOb]
 unfold u7n
 cases l.all q2t
 ·rfl
 ·cases p3x u0e s62 l
  ·rfl
  ·simp only[Bz,Ad]
   rw[j4j]
theorem p0u (l:Hu u2b) (hl:(Ty.sl u0e).wt l≤u0k):t98 l=some (u7n l):=by
 have hb:u0k=1099511627776:=rfl
 have hn:=t9x (t:=u0e) l
 have L:=t2s u9w l.length (fun i=>(l,i)) (fun i=>q2t (rdL u0e l i)&&(decide (i=0) || s62 (rdL u0e l (i - 1)) (rdL u0e l i))) (.inl l) (.inr false)
  (by rw[s5k];simp only[u9o,u0b,Am,Ah,Aa])
  (fun i hi=>by
   have hm:rdL u0e l i∈l:=by rw[y8k hi];exact Ag hi
   rw[s5k];simp only[u9o,u0b,hi,Ae,Ad,y7t hi,zTn,y7l (show i<4611686018427387904 by omega),t7u _ (A9 (o5d hm).1 hl),s87,zOb,s0w,t4o,j50]
   unfold q2t s62
   generalize u66 (rdL u0e l i).1=b1
   generalize decide ((rdL u0e l i).2.1.size≤12)=b2
   generalize decide ((rdL u0e l i).2.1.size=0)=b3
   generalize (rdL u0e l i).2.2.1=b4
   generalize inB (rdL u0e l i).2.2.2 1 9999=b5
   by_cases h0:i=0
   ·subst h0;simp only[Ae,Ap,Aa,Dx,Cz]
    cases b1<;>cases b2<;>cases b3<;>cases b4<;>cases b5<;>rfl
   ·simp only[h0,Ah,Bh,Ad,Ci,t5y (show i<4611686018427387904 by omega) h0,y7t (show i - 1<l.length by omega),zTn,zOb]
    rcases q2q (rdL u0e l (i - 1)).1 (rdL u0e l i).1 with h | h | h
    ·have e2:z7o (rdL u0e l (i - 1)).1 (rdL u0e l i).1=false:=o32.mpr (fun e=>by rw[e,t1r] at h;cases h)
     rw[h,e2]
     cases b1<;>cases b2<;>cases b3<;>cases b4<;>cases b5<;>rfl
    ·rw[h,t1r,y6l]
     rw[q8d]
     cases decide ((rdL u0e l (i - 1)).2.2.2<(rdL u0e l i).2.2.2)<;>cases b1<;>cases b2<;>cases b3<;>cases b4<;>cases b5<;>rfl
    ·have e1:=r1x h
     have e2:z7o (rdL u0e l (i - 1)).1 (rdL u0e l i).1=false:=o32.mpr (fun e=>by rw[e,t1r] at h;cases h)
     rw[e1,e2]
     cases b1<;>cases b2<;>cases b3<;>cases b4<;>cases b5<;>rfl)
 rw[s7n (t:=u0e) l q2t s62] at L
 rw[q6n];unfold s8v
 simp only[L,zOb]
 unfold u7n
 cases l.all q2t
 ·rfl
 ·cases p3x u0e s62 l
  ·rfl
  ·simp only[Bz,Ad]
   rw[j4j]
theorem o9c (n:Nat) (hn:n≤1099511627776):t1q ((),(n:Int))=some [] :=by
 rw[r5m];unfold t9u
 have e0:IntKind.i64.wrap ((0:Int) - (0:Int))=0:=by rw[y4y (by omega) (by omega)];rfl
 have e1:IntKind.i64.wrap ((n:Int) - 0)=(n:Int):=by rw[y4y (by omega) (by omega)];omega
 have e2:decide ((n:Int)<0)=false:=A7 (by omega)
 simp only[e0,e1,e2,Aa]
 by_cases h:n=0
 ·subst h;simp
 ·have e3:decide ((n:Int) >0)=true:=by simp;omega
  have e4:(decide ((1:Int)≤(n:Int))&&decide ((n:Int)≤1099511627776))=true:=by simp;omega
  simp only[e3,e4,Ad]
  simp
theorem p5y (ls:Hu (Hu u0h)) (h:ls.flatten.length≤1099511627776) (hn:ls.length≤1099511627776):u3o ls=some ls.flatten:=by
 have fl:∀(i:Nat),i≤ls.length→(ls.take i).flatten.length≤ls.flatten.length:=fun i _=>by
  have:=En i ls
  have h2:ls.flatten=(ls.take i).flatten++(ls.drop i).flatten:=by rw[←Ga,this]
  rw[h2,Ba];omega
 have st:∀(i:Nat) (hi:i<ls.length),(ls.take (i+1)).flatten=(ls.take i).flatten++ls[i] :=fun i hi=>by
  rw[Gm,A4 hi,Ga];simp
 have L1:=r5k u21 ls.length (fun(n:Nat) i=>(ls,(n:Int),ls,(ls.length:Int),i)) (fun _ _=> .inl (ls,(ls.flatten.length:Int))) (fun i n=>n=(ls.take i).flatten.length)
  (fun n hP=>by
   rw[Cq] at hP;subst hP
   rw[t44];simp only[u4y,u0b,Am,Ah,Aa])
  (fun i n hi hP=> .inr ⟨(ls.take (i+1)).flatten.length,rfl,rfl,by
   have h1:=fl (i+1) (by omega)
   have h2:(ls.take (i+1)).flatten.length=n+ls[i].length:=by rw[st i hi,Ba,hP]
   have e1:IntKind.i64.wrap ((n:Int)+((ls[i].length:Nat):Int))=((n+ls[i].length:Nat):Int):=by rw[y4y (by omega) (by omega)];omega
   have e2:decide (((n+ls[i].length:Nat):Int)<0)=false:=by simp;omega
   rw[t44];simp only[u4y,u0b,hi,Ae,Ad,y7t hi,zTn,y8k (t:=Ty.sl u00) hi,y7l (show i<4611686018427387904 by omega),h2]
   rw[e1,e2];rfl⟩) 0 0 (by omega) rfl
 have L2:=r5k u2q ls.length (fun(a:Hu u0h) i=>(a,ls,(ls.length:Int),i)) (fun _ _=> .inl ls.flatten) (fun i a=>a=(ls.take i).flatten)
  (fun a hP=>by
   rw[Cq] at hP;subst hP
   rw[t3g];simp only[u36,u0b,Am,Ah,Aa])
  (fun i a hi hP=> .inr ⟨(ls.take (i+1)).flatten,rfl,rfl,by
   have h1:=fl (i+1) (by omega)
   have h2:(ls.take (i+1)).flatten.length=a.length+ls[i].length:=by rw[st i hi,Ba,hP]
   rw[t3g];simp only[u36,u0b,hi,Ae,Ad,y7t hi,zTn,y8k (t:=Ty.sl u00) hi,y7l (show i<4611686018427387904 by omega)]
   rw[u0r (show a.length+ls[i].length≤1099511627776 by omega),st i hi,hP];rfl⟩) 0 [] (by omega) rfl
 rw[s82];unfold t7y
 have L1' :u21 (ls,(0:Int),ls,(ls.length:Int),0)=some (.inl (ls,(ls.flatten.length:Int))):=L1
 have L2' :u2q ([],ls,(ls.length:Int),0)=some (.inl ls.flatten):=L2
 simp only[L1',zOb,o9c _ h,L2']
end
end
end Go.Proofs.YtkdpclfhapphhaaGreat.Ab
