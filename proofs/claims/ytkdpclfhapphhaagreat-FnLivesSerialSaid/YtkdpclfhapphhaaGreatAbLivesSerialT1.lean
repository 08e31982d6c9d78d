import Derived.Test.YtkdpclfhapphhaaGreatAbLivesSerialG3
import Derived.Test.YtkdpclfhapphhaaGreatAbK2
import Derived.Test.YtkdpclfhapphhaaGreatAbF4
import Derived.Test.YtkdpclfhapphhaaGreatAbS2
namespace Go.Proofs.YtkdpclfhapphhaaGreat.Ab
open Go
set_option linter.unusedVariables false
set_option linter.unusedSimpArgs false
set_option linter.unnecessarySimpa false
section
section
theorem o6h (n:Int):IntKind.u8.wrap n=n % 256:=by
 simp[IntKind.wrap,IntKind.bits,IntKind.signed]
theorem u0b (a b:Nat):decide ((a:Int)<(b:Int))=decide (a<b):=by simp
theorem s9o {X R A:Type} (W:X→Ht R) (n:Nat) (mk:A→Int→X) (res:Nat→A→R) (P:Nat→A→Prop)
 (hend:∀a,P n a→W (mk a (n:Int))=some (res n a))
 (hstep:∀(i:Nat) a,i<n→P i a→W (mk a (i:Int))=some (res i a)∨ ∃a',P (i+1) a' ∧res (i+1) a' =res i a∧W (mk a (i:Int))=W (mk a' ((i+1:Nat):Int))):
 ∀(i:Nat) a,i≤n→P i a→W (mk a (i:Int))=some (res i a):=by
 intro i a hi hP
 obtain⟨d,hd⟩:∃d,i+d=n:=⟨n - i,by omega⟩
 clear hi
 induction d generalizing i a with
 | zero=>
  have:i=n:=by omega
  subst this
  exact hend a hP
 | succ d ih=>
  rcases hstep i a (by omega) hP with h | ⟨a',h1,h2,h3⟩
  ·exact h
  ·rw[h3,ih (i+1) a' h1 (by omega),h2]
def o3r {E A R:Type} (f:Nat→E→A→A⊕R) (fin:A→R):Nat→Hu E→A→R
 | _, [],a=>fin a
 | i,x::l,a=>match f i x a with
  | .inl a' =>o3r f fin (i+1) l a'
  | .inr r=>r
theorem o6q {X R A E:Type} (W:X→Ht R) (l:Hu E) (mk:A→Int→X) (f:Nat→E→A→A⊕R) (fin:A→R) (P:Nat→A→Prop)
 (hend:∀a,P l.length a→W (mk a (l.length:Int))=some (fin a))
 (hstep:∀(i:Nat) (h:i<l.length) a,P i a→match f i l[i] a with
  | .inl a' =>P (i+1) a' ∧W (mk a (i:Int))=W (mk a' ((i+1:Nat):Int))
  | .inr r=>W (mk a (i:Int))=some r) (a:A) (hP:P 0 a):W (mk a 0)=some (o3r f fin 0 l a):=by
 have key:=s9o W l.length mk (fun i a=>o3r f fin i (l.drop i) a) P (fun a h=>by
  rw[hend a h,Dp (Au _)];rfl) (fun i a hi hP=>by
   have hs:=hstep i hi a hP
   have hd:l.drop i=l[i] ::l.drop (i+1):=Ce hi
   rw[hd]
   simp only[o3r]
   cases hf:f i l[i] a with
   | inl a' =>
    rw[hf] at hs
    exact .inr ⟨a',hs.1,rfl,hs.2⟩
   | inr r=>
    rw[hf] at hs
    exact .inl hs) 0 a (Cn _) hP
 exact key
def szr (b:Int) (w:Nat):Int:=if(w:Int)≤b then b - w else -1
def Ty.wt:(t:Ty)→t.den→Nat
 | .int _,_=>0
 | .bool,_=>0
 | .str,s=>s.size
 | .sl e,l=>l.length+(l.map e.wt).sum
 | .pair a b,x=>a.wt x.1+b.wt x.2
theorem s49 {X R E:Type} (W:X→Ht R) (l:Hu E) (mk:Int→X) (p:E→Bool) (yes no:R) (hend:W (mk (l.length:Int))=some no)
 (hstep:∀(i:Nat) (h:i<l.length),W (mk (i:Int))=bif p l[i] then some yes else W (mk ((i+1:Nat):Int))):W (mk 0)=some (bif l.any p then yes else no):=by
 have:=o6q W l (fun(_:Unit) i=>mk i) (fun _ x _=>if p x then .inr yes else .inl ()) (fun _=>no) (fun _ _=>True) (fun _ _=>hend) (fun i h a _=>by
  have hs:=hstep i h
  cases hp:p l[i] with
  | true=>simp only[hp,Ad] at hs;simp only[Bl];exact hs
  | false=>simp only[hp,Aa] at hs;simp only[Br,Bk];exact⟨trivial,hs⟩) () trivial
 rw[this]
 congr 1
 have key:∀(l:Hu E) (i:Nat),o3r (fun _ x (_:Unit)=>if p x then .inr yes else .inl ()) (fun _=>no) i l ()=bif l.any p then yes else no:=by
  intro l
  induction l with
  | nil=>intro i;rfl
  | cons x l ih=>
   intro i
   simp only[o3r,Gd]
   cases hp:p x with
   | true=>simp
   | false=>simp only[Br,Bk,Ci];exact ih _
 exact key l 0
theorem u8w {X R E A:Type} (W:X→Ht R) (l:Hu E) (mk:A→Int→X) (f:A→E→A) (fin:A→R) (P:Nat→A→Prop)
 (hend:∀a,P l.length a→W (mk a (l.length:Int))=some (fin a))
 (hstep:∀(i:Nat) (h:i<l.length) a,P i a→P (i+1) (f a l[i])∧W (mk a (i:Int))=W (mk (f a l[i]) ((i+1:Nat):Int))) (a:A) (hP:P 0 a):W (mk a 0)=some (fin (l.foldl f a)):=by
 have:=o6q W l mk (fun _ x a=> .inl (f a x)) fin P hend (fun i h a hp=>hstep i h a hp) a hP
 rw[this]
 congr 1
 have key:∀(l:Hu E) (i:Nat) (a:A),o3r (fun _ x a=>(.inl (f a x):A⊕R)) fin i l a=fin (l.foldl f a):=by
  intro l
  induction l with
  | nil=>intro i a;rfl
  | cons x l ih=>intro i a;simp only[o3r,Bs];exact ih _ _
 exact key l 0 a
theorem s19 {X R E B:Type} (W:X→Ht R) (l:Hu E) (mk:Hu B→Int→X) (p:E→Bool) (g:E→B) (fin:Hu B→R) (hl:l.length≤1099511627776)
 (hend:∀a:Hu B,a.length≤l.length→W (mk a (l.length:Int))=some (fin a))
 (hstep:∀(i:Nat) (h:i<l.length) (a:Hu B),a.length≤i→W (mk a (i:Int))=bif p l[i] then W (mk (a++ [g l[i]]) ((i+1:Nat):Int)) else W (mk a ((i+1:Nat):Int))):W (mk [] 0)=some (fin ((l.filter p).map g)):=by
 have:=u8w W l mk (fun a x=>if p x then a++ [g x] else a) fin (fun i a=>a.length≤i) hend (fun i h a hp=>by
  have hs:=hstep i h a hp
  cases hc:p l[i] with
  | true=>
   simp only[hc,Ad] at hs
   simp only[Bl]
   exact⟨by simp;omega,hs⟩
  | false=>
   simp only[hc,Aa] at hs
   simp only[Br,Bk]
   exact⟨by omega,hs⟩) [] (Au 0)
 rw[this]
 congr 1
 have key:∀(l:Hu E) (a:Hu B),l.foldl (fun a x=>if p x then a++ [g x] else a) a=a++(l.filter p).map g:=by
  intro l
  induction l with
  | nil=>intro a;simp
  | cons x l ih=>
   intro a
   simp only[Bs,ih,Di]
   cases hp:p x<;>simp
 rw[key];simp
end
section
theorem p8x (b:Hs):b.toList=toS b:=by rw[ByteArray.toList_eq];rfl
theorem j6r {a b:Hs} (h:toS a=toS b):a=b:=by rw[←y8p a,h,y8p]
theorem q90:∀(x y:Hu UInt8),Op.bytesLess x y=decide (x<y)
 | x, [] =>by simp[Op.bytesLess]
 | [],y::ys=>by simp[Op.bytesLess]
 | x::xs,y::ys=>by
  rw[Op.bytesLess,q90 xs ys,Cd]
  simp[List.cons_lt_cons_iff]
theorem j1t {a b:Hs} :y3c a b=true↔toS a<toS b:=by
 unfold y3c
 rw[p8x,p8x,q90]
 simp
theorem j98 {a b:Hs} :y3c a b=false↔ ¬toS a<toS b:=by
 rw[←j1t];simp
theorem j8m (x:Hu UInt8): ¬x<x:=List.lt_irrefl x
theorem j8n {x y z:Hu UInt8} (h:x<y) (k:y<z):x<z:=List.lt_trans h k
theorem j8o (x y:Hu UInt8):x<y∨x=y∨y<x:=by
 rcases List.le_total x y with h | h
 ·rcases Fv.mp h with h | h
  ·exact .inl h
  ·exact .inr (.inl h)
 ·rcases Fv.mp h with h | h
  ·exact .inr (.inr h)
  ·exact .inr (.inl h.symm)
theorem u7r (a:Hs):y3c a a=false:=j98.mpr (j8m _)
theorem r9t {a b c:Hs} (h:y3c a b=true) (k:y3c b c=true):y3c a c=true:=j1t.mpr (j8n (j1t.mp h) (j1t.mp k))
theorem q4z (a b:Hs):y3c a b=true∨a=b∨y3c b a=true:=by
 rcases j8o (toS a) (toS b) with h | h | h
 ·exact .inl (j1t.mpr h)
 ·exact .inr (.inl (j6r h))
 ·exact .inr (.inr (j1t.mpr h))
theorem r3c {a b:Hs} (h:y3c a b=true):y3c b a=false:=by
 cases k:y3c b a with
 | false=>rfl
 | true=>exact absurd (r9t h k) (by rw[u7r];exact Hf)
theorem o6a {a b:Hs} :z7o a b=false↔a≠b:=by
 rw[←Ey,y7f]
theorem p8u (a b:Hs):z7o a b=z7o b a:=by
 rw[Cd,y7f,y7f]
 exact⟨Eq.symm,Eq.symm⟩
theorem q96 {a b:Hs} :(!(y3c a b || z7o a b))=y3c b a:=by
 rcases q4z a b with h | h | h
 ·rw[h,r3c h];rfl
 ·subst h;rw[u7r,y6l];rfl
 ·rw[r3c h,h]
  have:z7o a b=false:=o6a.mpr (fun e=>by subst e;rw[u7r] at h;cases h)
  rw[this];rfl
def Asc (l:Hu Hs):Prop:=l.Pairwise fun a b=>y3c a b=true
theorem Asc.ext:∀ {l m:Hu Hs},Asc l→Asc m→(∀x,x∈l↔x∈m)→l=m
 | [], [],_,_,_=>rfl
 | [],y::m,_,_,h=>by have:=(h y).mpr (by simp);simp at this
 | x::l, [],_,_,h=>by have:=(h x).mp (by simp);simp at this
 | x::l,y::m,hl,hm,h=>by
  have hl' :=Ch.mp hl
  have hm' :=Ch.mp hm
  have hxy:x=y:=by
   rcases A8.mp ((h x).mp (by simp)) with e | e
   ·exact e
   ·rcases A8.mp ((h y).mpr (by simp)) with e' | e'
    ·exact e'.symm
    ·have:=r9t (hm'.1 x e) (hl'.1 y e')
     rw[u7r] at this;cases this
  subst hxy
  congr 1
  refine Asc.ext hl'.2 hm'.2 fun z=> ?_
  constructor
  ·intro hz
   rcases A8.mp ((h z).mp (by simp[hz])) with e | e
   ·subst e;have:=hl'.1 z hz;rw[u7r] at this;cases this
   ·exact e
  ·intro hz
   rcases A8.mp ((h z).mpr (by simp[hz])) with e | e
   ·subst e;have:=hm'.1 z hz;rw[u7r] at this;cases this
   ·exact e
theorem Asc.filter {l:Hu Hs} (h:Asc l) (p:Hs→Bool):Asc (l.filter p):=Dz p h
def o9k (k:Hs) (l:Hu Hs):Hu Hs:=l.filter (fun x=>y3c x k)++ [k] ++l.filter (fun x=> !(y3c x k || z7o x k))
theorem j3i {k x:Hs} {l:Hu Hs} :x∈o9k k l↔x=k∨x∈l:=by
 simp only[o9k,Ay,A6,Ax,q96]
 constructor
 ·rintro((h | h) | h)
  ·exact .inr h.1
  ·exact .inl h
  ·exact .inr h.1
 ·rintro(h | h)
  ·exact .inl (.inr h)
  ·rcases q4z x k with e | e | e
   ·exact .inl (.inl ⟨h,e⟩)
   ·exact .inl (.inr e)
   ·exact .inr ⟨h,e⟩
theorem j29 {k:Hs} {l:Hu Hs} (h:Asc l):Asc (o9k k l):=by
 unfold Asc o9k
 rw[Cg,Cg]
 refine⟨⟨h.filter _,by simp,fun a ha b hb=> ?_⟩,h.filter _,fun a ha b hb=> ?_⟩
 ·simp only[Ax] at hb
  subst hb
  exact(A6.mp ha).2
 ·have hb:=(A6.mp hb).2
  rw[q96] at hb
  rcases Ay.mp ha with ha | ha
  ·exact r9t (A6.mp ha).2 hb
  ·simp only[Ax] at ha
   subst ha
   exact hb
theorem j0q {l:Hu Hs} :∀ {a:Hu Hs},Asc a→Asc (l.foldl (fun a k=>o9k k a) a)∧ ∀x,x∈l.foldl (fun a k=>o9k k a) a↔x∈l∨x∈a:=by
 induction l with
 | nil=>intro a h;exact⟨h,fun x=>by simp⟩
 | cons k l ih=>
  intro a h
  obtain⟨h1,h2⟩:=ih (j29 (k:=k) h)
  refine⟨h1,fun x=> ?_⟩
  rw[Bs,h2,j3i,A8]
  constructor
  ·rintro(q | q | q)
   ·exact .inl (.inr q)
   ·exact .inl (.inl q)
   ·exact .inr q
  ·rintro((q | q) | q)
   ·exact .inr (.inl q)
   ·exact .inl q
   ·exact .inr (.inr q)
theorem q91 (d:Array (Hu UInt8)) (hs:∀i j:Nat,i≤j→j<d.size→d[i]! ≤d[j]!):∀m,m≤d.size→(Lib.compactUpTo d m).Pairwise (·< ·)∧(∀x,x∈Lib.compactUpTo d m↔ ∃i,i<m∧d[i]! =x)
 | 0,_=>by simp[Lib.compactUpTo]
 | m+1,hm=>by
  obtain⟨h1,h2⟩:=q91 d hs m (by omega)
  rw[Lib.compactUpTo_succ]
  by_cases hk:Lib.keeps d m=true
  ·rw[Al hk]
   constructor
   ·rw[Cg]
    refine⟨h1,by simp,fun a ha b hb=> ?_⟩
    simp only[Ax] at hb
    subst hb
    obtain⟨i,hi,rfl⟩:=(h2 a).mp ha
    unfold Lib.keeps at hk
    have hk:=Ej hk
    rcases hk with hk | hk
    ·omega
    ·have l1:=hs i (m - 1) (by omega) (by omega)
     have l2:=hs (m - 1) m (by omega) (by omega)
     rcases Fv.mp l2 with l2 | l2
     ·rcases Fv.mp l1 with l1 | l1
      ·exact j8n l1 l2
      ·rw[l1];exact l2
     ·exact absurd l2.symm hk
   ·intro x
    simp only[Ay,Ax,h2]
    constructor
    ·rintro(⟨i,hi,rfl⟩ | rfl)
     ·exact⟨i,by omega,rfl⟩
     ·exact⟨m,by omega,rfl⟩
    ·rintro⟨i,hi,rfl⟩
     rcases B8 i m with q | q
     ·exact .inl ⟨i,q,rfl⟩
     ·exact .inr (by rw[show i=m by omega])
  ·rw[Ao hk,Bw]
   refine⟨h1,fun x=> ?_⟩
   rw[h2]
   unfold Lib.keeps at hk
   simp only[Ar,Hr,ne_eq,Decidable.not_not] at hk
   constructor
   ·rintro⟨i,hi,rfl⟩;exact⟨i,by omega,rfl⟩
   ·rintro⟨i,hi,rfl⟩
    rcases B8 i m with q | q
    ·exact⟨i,q,rfl⟩
    ·have:i=m:=by omega
     subst this
     exact⟨i - 1,by omega,hk.2.symm⟩
def q8w (l:Hu Hs):Hu Hs:=y6r (y4i l)
theorem q0n (l:Hu Hs):Asc (q8w l)∧ ∀x,x∈q8w l↔x∈l:=by
 obtain⟨d,hd⟩:∃d,d=(l.map toS).mergeSort fun x y=>decide (x≤y):=⟨_,rfl⟩
 have hk:q8w l=(Lib.compact d).map unS:=by
  unfold q8w y6r y4i
  rw[←hd,List.map_map]
  have:(toS ∘unS)=id:=by funext x;rfl
  rw[this,List.map_id]
 have hsort:d.Pairwise (·≤ ·):=by
  rw[hd]
  have:=List.pairwise_mergeSort (le:=fun(x y:Hu UInt8)=>decide (x≤y)) (fun a b c h1 h2=>by
   simp only[Ar] at h1 h2 ⊢
   exact List.le_trans h1 h2) (fun a b=>by
   simp only[Cr,Ar]
   exact List.le_total a b) (l.map toS)
  exact this.imp (fun h=>by simpa using h)
 have hmem:∀x,x∈d↔x∈l.map toS:=fun x=>by rw[hd];exact(List.mergeSort_perm _ _).mem_iff
 have hs:∀i j:Nat,i≤j→j<d.toArray.size→d.toArray[i]! ≤d.toArray[j]! :=fun i j hij hj=>by
  have hj' :j<d.length:=by simpa using hj
  have hi' :i<d.length:=by omega
  rw[Fl _ i (by simpa using hi'),Fl _ j hj]
  simp only[List.getElem_toArray]
  rcases B8 i j with q | q
  ·exact Cp.mp hsort i j hi' hj' q
  ·have:i=j:=by omega
   subst this
   exact List.le_refl _
 obtain⟨h1,h2⟩:=q91 d.toArray hs d.length (by simp)
 rw[hk]
 constructor
 ·unfold Asc
  rw[Dl]
  exact h1.imp (fun h=>j1t.mpr h)
 ·intro x
  rw[Bx]
  constructor
  ·rintro⟨y,hy,rfl⟩
   obtain⟨i,hi,rfl⟩:=(h2 y).mp hy
   rw[Fl _ i (by simpa using hi)]
   have:d[i] ∈l.map toS:=(hmem _).mp (Ag hi)
   obtain⟨z,hz,e⟩:=Bx.mp this
   simp only[List.getElem_toArray]
   rw[←e,y8p]
   exact hz
  ·intro hx
   have:toS x∈d:=(hmem _).mpr (Bx.mpr ⟨x,hx,rfl⟩)
   obtain⟨i,hi,e⟩:=Gy.mp this
   refine⟨toS x,(h2 _).mpr ⟨i,hi,?_⟩,y8p x⟩
   rw[Fl _ i (by simpa using hi)]
   simpa using e
theorem o4n (l:Hu Hs):(y4i l).length=l.length:=by simp[y4i]
theorem j57 (l:Hu Hs) (p:Hs→Bool):(l.filter p).foldl (fun a k=>o9k k a) [] =(q8w l).filter p:=by
 obtain⟨h1,h2⟩:=j0q (l:=l.filter p) (a:= []) List.Pairwise.nil
 obtain⟨k1,k2⟩:=q0n l
 refine Asc.ext h1 (k1.filter p) fun x=> ?_
 rw[h2,A6,A6,k2]
 simp
end
section
def u0m:Nat:=1099511627776
theorem p83 {α:Type} {f:α→Nat} {l:Hu α} {x:α} (h:x∈l):f x≤(l.map f).sum:=by
 induction l with
 | nil=>cases h
 | cons y l ih=>
  simp only[C8,Ge]
  rcases A8.mp h with rfl | h
  ·omega
  ·have:=ih h;omega
abbrev t3b:Ty:=(.pair .str .str)
abbrev u2i:Ty:=(.pair .str (.pair .str .bool))
abbrev u0d:Ty:=(.pair .str (.pair .str (.pair .bool (.int .i64))))
abbrev j5x:Ty:=(.pair .str .str)
abbrev p0s:Ty:=(.pair .str .str)
abbrev o4y:Ty:=(.pair (.int .i64) .str)
abbrev d1h:Ty:=(.pair (.sl .str) (.sl o4y))
abbrev u0q:Ty:=(.pair (.int .i64) (.pair (.int .i64) (.pair (.int .i64) (.pair (.int .i64) (.pair (.sl t3b) (.pair (.sl u2i) (.pair .bool .str)))))))
abbrev j74:Ty:=(.pair (.sl u0d) (.pair (.sl u0q) (.pair (.sl u0q) (.pair (.int .i64) (.int .i64)))))
abbrev d1i:Ty:=(.pair (.int .i64) (.pair u0q (.pair .str (.pair .bool j74))))
abbrev j5w:Ty:=(.pair j74 (.sl u0q))
abbrev j75:Ty:=(.pair j5w d1h)
abbrev j4r:Ty:=(.pair (.int .i64) (.pair (.int .i64) (.pair .str (.pair .str (.sl (.int .i64))))))
abbrev d2a:Ty:=(.pair j75 (.pair (.sl u0q) (.pair (.sl (.int .i64)) (.sl .str))))
end
section
abbrev u0c:=Int×Int×Int×Int×Hu (Hs×Hs)×Hu (Hs×Hs×Bool)×Bool×Hs
theorem u0x {n:Nat} (h:n≤1099511627776):Nat.ble n z7w=true:=Nat.ble_eq_true_of_le h
def inR (r:Hs×Hs) (k:Hs):Bool:= !y3c k r.1&&(y3c k r.2 || z7o k r.2)
theorem q9a (r:Hs×Hs) (k:Hs):s1y (r,k)=some (inR r k):=by
 rw[p6n];unfold q16 inR;cases y3c k r.1<;>rfl
theorem r61 (r:Hs×Hs) (k:Hs):t6i (r,k)=some (inR r k):=by
 rw[p50];unfold q1j inR;cases y3c k r.1<;>rfl
def t2m (r:Hu t3b.den) (w:Hu u2i.den):Bool:=r.any fun x=>w.any fun y=>inR x y.1
def s81 (a b:Hu u2i.den):Bool:=a.any fun x=>b.any fun y=>z7o x.1 y.1
def s6r (m:Hu p0s.den) (r:t3b.den):Hu j5x.den:=m.filter fun c=>inR r c.1
theorem p2m (m:Hu p0s.den) (r:t3b.den) (hm:m.length≤1099511627775):s4s (m,r)=some (s6r m r):=by
 have L:=s19 t9l m (fun a i=>(r,a,m,(m.length:Int),i)) (fun c=>inR r c.1) (fun c=>c) (fun a=> .inl a) (by omega)
  (fun a _=>by rw[r95];simp only[t89,u0b,Am,Ah,Aa])
  (fun i hi a ha=>by
   rw[r95];simp only[t89,u0b,hi,Ae,Ad,y7t hi,zTn,y8k hi,r61,zOb,Aw,u0x (show a.length+1≤1099511627776 by omega)]
   rw[y7l (by omega)])
 rw[Er] at L
 rw[p97];unfold q5m
 simp only[L,zOb]
 rfl
end
section
theorem q4c {X R A:Type} (W:X→Ht R) (n:Nat) (mk:A→Int→X) (v:Nat→A) (r:R) (hend:W (mk (v n) (n:Int))=some r)
 (hstep:∀i,i<n→W (mk (v i) (i:Int))=W (mk (v (i+1)) ((i+1:Nat):Int))):W (mk (v 0) 0)=some r:=by
 have:=s9o W n (fun(_:Unit) i=>mk (v i.toNat) i) (fun _ _=>r) (fun _ _=>True) (fun _ _=>by simpa using hend) (fun i a hi _=> .inr ⟨(),trivial,rfl,by
  have h:=hstep i hi
  have e:((i:Int)+1).toNat=i+1:=by omega
  simp only[zTn]
  exact h⟩) 0 () (Cn _) trivial
 simpa using this
theorem o60 {α:Type} (p:α→Bool):∀(l a:Hu α),l.foldl (fun a x=>if p x=true then a++ [x] else a) a=a++l.filter p
 | [],a=>by simp
 | x::l,a=>by
  rw[Bs,o60 p l]
  cases hc:p x<;>simp[hc]
abbrev u2b:=Hs×Hs×Bool×Int
def emp:Hs:=⟨#[]⟩
def o2r (l:Hu u2b) (k:Hs) (snap out:Int) (i:Nat):Int:=
 if z7o (rdL u0d l i).1 k=true∧(rdL u0d l i).2.2.2≤snap∧(out<0∨(rdL u0d l i).2.2.2 >(rdL u0d l out.toNat).2.2.2) then(i:Int) else out
def q6f (l:Hu u2b) (k:Hs) (snap:Int):Nat→Int
 | 0=> -1
 | n+1=>o2r l k snap (q6f l k snap n) n
def t14 (l:Hu u2b) (k:Hs) (snap:Int):Int:=q6f l k snap l.length
theorem q6g (l:Hu u2b) (k:Hs) (snap:Int):∀n,-1≤q6f l k snap n∧q6f l k snap n<(n:Int)
 | 0=>by simp[q6f]
 | n+1=>by
  have:=q6g l k snap n
  simp only[q6f,o2r]
  split<;>omega
theorem q0p (l:Hu u2b) (k:Hs) (snap:Int): -1≤t14 l k snap∧t14 l k snap<(l.length:Int):=q6g l k snap l.length
theorem p4j (l:Hu u2b) (k:Hs) (snap:Int) (hl:l.length≤1099511627776):s8a (l,k,snap)=some (t14 l k snap):=by
 have L:=q4c t6d l.length (fun a i=>(l,k,snap,a,i)) (fun i=>q6f l k snap i) (.inl (t14 l k snap))
  (by rw[q38];simp only[s1h,u0b,Am,Ah,Aa];rfl)
  (fun i hi=>by
   have hr:=q6g l k snap i
   rw[q38]
   simp only[s1h,u0b,hi,Ae,Ad,y7t hi,zTn,q6f,o2r]
   rw[y7l (by omega)]
   cases h1:z7o (rdL u0d l i).1 k with
   | false=>simp[h1]
   | true=>
    by_cases h2:(rdL u0d l i).2.2.2≤snap
    ·by_cases h3:q6f l k snap i<0
     ·simp[h1,h2,h3]
     ·have hg:y4q (q6f l k snap i) l.length=true:=y7s.mpr ⟨by omega,by omega⟩
      by_cases h4:(rdL u0d l i).2.2.2 >(rdL u0d l (q6f l k snap i).toNat).2.2.2
      ·simp[h1,h2,h3,h4,hg]
      ·simp[h1,h2,h3,h4,hg]
    ·simp[h1,h2])
 have L:t6d (l,k,snap,-1,0)=_:=L
 rw[o3h];unfold q9x
 simp only[L,zOb]
theorem p4i (l:Hu u2b) (k:Hs) (snap:Int) (hl:l.length≤1099511627776):s4t (l,k,snap)=some (t14 l k snap):=by
 have L:=q4c t3t l.length (fun a i=>(l,k,snap,a,l,(l.length:Int),i)) (fun i=>q6f l k snap i) (.inl (t14 l k snap))
  (by rw[r97];simp only[t9b,u0b,Am,Ah,Aa];rfl)
  (fun i hi=>by
   have hr:=q6g l k snap i
   rw[r97]
   simp only[t9b,u0b,hi,Ae,Ad,y7t hi,zTn,q6f,o2r]
   rw[y7l (by omega)]
   cases h1:z7o (rdL u0d l i).1 k with
   | false=>simp[h1]
   | true=>
    by_cases h2:(rdL u0d l i).2.2.2≤snap
    ·by_cases h3:q6f l k snap i<0
     ·simp[h1,h2,h3]
     ·have hg:y4q (q6f l k snap i) l.length=true:=y7s.mpr ⟨by omega,by omega⟩
      by_cases h4:(rdL u0d l i).2.2.2 >(rdL u0d l (q6f l k snap i).toNat).2.2.2
      ·simp[h1,h2,h3,h4,hg]
      ·simp[h1,h2,h3,h4,hg]
    ·simp[h1,h2])
 have L:t3t (l,k,snap,-1,l,(l.length:Int),0)=_:=L
 rw[o0a];unfold q5q
 simp only[L,zOb]
def s6n (l:Hu u2b) (k:Hs) (snap:Int):Hs×Bool:=
 if t14 l k snap<0∨(rdL u0d l (t14 l k snap).toNat).2.2.1=true then(emp,false) else((rdL u0d l (t14 l k snap).toNat).2.1,true)
theorem o4j (l:Hu u2b) (k:Hs) (snap:Int) (y:Int) (hy:y=t14 l k snap):
 (((bif decide (y<0) then some true else(bif y4q y l.length then some (rdL u0d l y.toNat).2.2.1 else none)):Ht Bool).bind fun j2=>(bif j2 then some ((⟨#[]⟩:Hs),false) else(bif y4q y l.length then some ((rdL u0d l y.toNat).2.1,true) else none)))=some (s6n l k snap):=by
 subst hy
 have hr:=q0p l k snap
 unfold s6n
 by_cases h:t14 l k snap<0
 ·simp[h,emp]
 ·have hg:y4q (t14 l k snap) l.length=true:=y7s.mpr ⟨by omega,by omega⟩
  cases h2:(rdL u0d l (t14 l k snap).toNat).2.2.1<;>simp[h,hg,h2,emp]
theorem o5h (l:Hu u2b) (k:Hs) (snap:Int) (hl:l.length≤1099511627776):r29 (l,k,snap)=some (s6n l k snap):=by
 rw[o0p];unfold q55
 simp only[p4j l k snap hl,zOb]
 exact o4j l k snap _ rfl
theorem o5g (l:Hu u2b) (k:Hs) (snap:Int) (hl:l.length≤1099511627776):r2x (l,k,snap)=some (s6n l k snap):=by
 rw[p94];unfold q5j
 simp only[p4i l k snap hl,zOb]
 exact o4j l k snap _ rfl
theorem o91 (l:Hu u2b) (hl:l.length≤1099511627775):r2z l=some (q8w (l.map fun v=>v.1)):=by
 have L:=s19 t9m l (fun a i=>(a,l,(l.length:Int),i)) (fun _=>true) (fun v=>v.1) (fun a=> .inl a) (by omega)
  (fun a _=>by rw[r96];simp only[t9a,u0b,Am,Ah,Aa])
  (fun i hi a ha=>by
   rw[r96];simp only[t9a,u0b,hi,Ae,Ad,y7t hi,zTn,y8k (t:=u0d) hi,Aw,u0x (show a.length+1≤1099511627776 by omega)]
   rw[y7l (by omega)])
 have hf:l.filter (fun _=>true)=l:=by simp
 rw[hf] at L
 have h1:y7a (l.map fun v=>v.1)=some (y4i (l.map fun v=>v.1)):=by
  unfold y7a;rw[Da,u0x (by omega)];rfl
 have h2:y0m (y4i (l.map fun v=>v.1))=some (q8w (l.map fun v=>v.1)):=by
  unfold y0m;rw[o4n,Da,u0x (by omega)];rfl
 rw[p99];unfold q5p
 simp only[L,zOb,s5i,s2h]
 simp only[h1,h2,zOb]
theorem q65 (l:Hu Hs):(q8w l).length≤l.length:=by
 have:=z6h (y4i l)
 rw[o4n] at this
 exact this
theorem o5t (k:Hs) (r:Hs×Hs) (l:Hu u2b) (j:Int) (out:Hu Hs) (ho:out.length≤1099511627775):
 t1t (l,r,out,j,k, [],0)=some (.inl (l,r,out,j,k,out.filter fun x=>y3c x k)):=by
 have L:=s19 t1t out (fun a i=>(l,r,out,j,k,a,i)) (fun x=>y3c x k) (fun x=>x) (fun a=> .inl (l,r,out,j,k,a)) (by omega)
  (fun a _=>by rw[r6m];simp only[t7q,u0b,Am,Ah,Aa])
  (fun i hi a ha=>by
   rw[r6m];simp only[t7q,u0b,hi,Ae,Ad,y7t hi,zTn,y8k (t:=Ty.str) hi,Aw,u0x (show a.length+1≤1099511627776 by omega)]
   rw[y7l (by omega)])
 rw[Er] at L
 exact L
theorem o3u (k:Hs) (r:Hs×Hs) (l:Hu u2b) (j:Int) (out a0:Hu Hs) (ho:out.length+a0.length≤1099511627775):
 u9k (l,r,out,j,k,a0,0)=some (.inl (l,r,j,a0++out.filter fun x=> !(y3c x k || z7o x k))):=by
 have L:=u8w u9k out (fun a i=>(l,r,out,j,k,a,i)) (fun a x=>if(!(y3c x k || z7o x k))=true then a++ [x] else a) (fun a=> .inl (l,r,j,a)) (fun i a=>a.length≤a0.length+i)
  (fun a _=>by rw[r2c];simp only[t43,u0b,Am,Ah,Aa])
  (fun i hi a ha=>by
   rw[r2c];simp only[t43,u0b,hi,Ae,Ad,y7t hi,zTn,y8k (t:=Ty.str) hi,Aw,u0x (show a.length+1≤1099511627776 by omega)]
   rw[y7l (by omega)]
   cases hc:(!(y3c out[i] k || z7o out[i] k)) with
   | true=>simp;omega
   | false=>simp;omega) a0 (by simp)
 rw[o60 (fun x=> !(y3c x k || z7o x k))] at L
 exact L
theorem j3a (k:Hs) (l:Hu Hs):(o9k k l).length≤l.length+1:=by
 unfold o9k
 have h:(fun x=> !(y3c x k || z7o x k))=fun x=>y3c k x:=by funext x;exact q96
 rw[h]
 have:(l.filter fun x=>y3c x k).length+(l.filter fun x=>y3c k x).length≤l.length:=by
  induction l with
  | nil=>simp
  | cons x l ih=>
   simp only[Di]
   cases h1:y3c x k with
   | true=>rw[r3c h1];simp;omega
   | false=>cases h2:y3c k x<;>simp<;>omega
 simp
 omega
theorem o92 (l:Hu u2b) (r:Hs×Hs) (hl:l.length≤500000000000):s9l (l,r)=some ((q8w (l.map fun v=>v.1)).filter fun k=>inR r k):=by
 have L:=u8w t75 l (fun a i=>(l,r,a,i)) (fun a v=>if inR r v.1=true then o9k v.1 a else a) (fun a=> .inl a) (fun i a=>a.length≤i)
  (fun a _=>by rw[r6l];simp only[t7p,u0b,Am,Ah,Aa])
  (fun i hi a ha=>by
   rw[r6l];simp only[t7p,u0b,hi,Ae,Ad,y7t hi,zTn,y8k (t:=u0d) hi,q9a,zOb]
   cases hc:inR r l[i].1 with
   | false=>
    simp only[Bh,Ad,Br,Bk]
    rw[y7l (by omega)]
    exact⟨by omega,rfl⟩
   | true=>
    have hlow:(a.filter fun x=>y3c x l[i].1).length≤a.length:=Cs _ _
    simp only[Ap,Aa,Bl,o5t l[i].1 r l (i:Int) a (by omega),zOb,Aw,u0x (show(a.filter fun x=>y3c x l[i].1).length+1≤1099511627776 by omega),Ad,
     o3u l[i].1 r l (i:Int) a (a.filter (fun x=>y3c x l[i].1)++ [l[i].1]) (by simp;omega)]
    rw[y7l (by omega)]
    exact⟨A9 (j3a _ _) (by omega),rfl⟩) [] (by simp)
 rw[p7a];unfold q2u
 simp only[L,zOb]
 have hfold:∀(m:Hu u2b) (a:Hu Hs),m.foldl (fun a v=>if inR r v.1=true then o9k v.1 a else a) a=((m.map fun v=>v.1).filter fun k=>inR r k).foldl (fun a k=>o9k k a) a:=by
  intro m
  induction m with
  | nil=>intro a;rfl
  | cons x m ih=>
   intro a
   rw[Bs,ih]
   cases hc:inR r x.1<;>simp[hc]
 rw[hfold,j57]
def t5y (l:Hu u2b) (r:Hs×Hs) (snap:Int):Hu (Hs×Hs):=
 ((q8w (l.map fun v=>v.1)).filter fun k=>(s6n l k snap).2&&inR r k).map fun k=>(k,(s6n l k snap).1)
theorem r2i (l:Hu u2b) (r:Hs×Hs) (snap:Int) (hl:l.length≤500000000000):t5n (l,r,snap)=some (t5y l r snap):=by
 obtain⟨ks,hks⟩:∃ks,ks=q8w (l.map fun v=>v.1):=⟨_,rfl⟩
 have hkl:ks.length≤l.length:=by
  rw[hks]
  refine A9 (q65 _) (by simp)
 have L:=s19 t9k ks (fun a i=>(l,snap,r,a,ks,(ks.length:Int),i)) (fun k=>(s6n l k snap).2&&inR r k) (fun k=>(k,(s6n l k snap).1)) (fun a=> .inl a) (by omega)
  (fun a _=>by rw[r94];simp only[t88,u0b,Am,Ah,Aa])
  (fun i hi a ha=>by
   rw[r94];simp only[t88,u0b,hi,Ae,Ad,y7t hi,zTn,y8k (t:=Ty.str) hi,o5g l _ snap (show l.length≤1099511627776 by omega),r61,zOb,Aw,u0x (show a.length+1≤1099511627776 by omega)]
   rw[y7l (by omega)]
   cases (s6n l ks[i] snap).2<;>rfl)
 rw[p92];unfold q5h
 simp only[o91 l (show l.length≤1099511627775 by omega),zOb]
 rw[←hks]
 simp only[L,zOb]
 rw[hks]
 rfl
theorem o81 (l:Hu u2b) (r:Hs×Hs) (snap:Int):(t5y l r snap).length≤l.length:=by
 unfold t5y
 rw[Da]
 refine A9 (Cs _ _) (A9 (q65 _) (by simp))
end
section
theorem q0w {E:Type} (p:E→Bool):∀(l:Hu E),(l.takeWhile p).length≤l.length∧(∀(i:Nat) (h:i<l.length),i<(l.takeWhile p).length→p l[i] =true)∧
 (∀(h:(l.takeWhile p).length<l.length),p l[(l.takeWhile p).length] =false)∧l.takeWhile p=l.take (l.takeWhile p).length∧l.dropWhile p=l.drop (l.takeWhile p).length
 | [] =>⟨Au _,fun i h=>absurd h (Ee i),fun h=>absurd h (Ee _),rfl,rfl⟩
 | x::l=>by
  obtain⟨h1,h2,h3,h4,h5⟩:=q0w p l
  cases hp:p x with
  | false=>
   simp only[F8,hp,List.dropWhile_cons,Br,Bk,Cc]
   exact⟨Cn _,fun i _ h=>absurd h (Ee i),fun _=>hp,rfl,rfl⟩
  | true=>
   simp only[F8,hp,List.dropWhile_cons,Bl,Bc]
   refine⟨by omega,fun i h k=> ?_,fun h=> ?_,?_,?_⟩
   ·cases i with
    | zero=>exact hp
    | succ i=>simpa using h2 i (by simpa using h) (by omega)
   ·simpa using h3 (by omega)
   ·rw[List.take_succ_cons,←h4]
   ·rw[List.drop_succ_cons,←h5]
theorem j73 {X R E:Type} (W:X→Ht R) (l:Hu E) (mk:Hu E→Int→X) (p:E→Bool) (fin:Hu E→Int→R)
 (hend:W (mk l (l.length:Int))=some (fin l (l.length:Int)))
 (hstep:∀(i:Nat) (h:i<l.length),W (mk (l.take i) (i:Int))=bif p l[i] then W (mk (l.take (i+1)) ((i+1:Nat):Int)) else some (fin (l.take i) (i:Int))):
 W (mk [] 0)=some (fin (l.takeWhile p) ((l.takeWhile p).length:Int)):=by
 obtain⟨h1,h2,h3,h4,_⟩:=q0w p l
 have:=s9o W (l.takeWhile p).length (fun(a:Hu E) i=>mk a i) (fun _ _=>fin (l.takeWhile p) ((l.takeWhile p).length:Int)) (fun i a=>a=l.take i)
  (fun a ha=>by
   rw[ha]
   by_cases hk:(l.takeWhile p).length<l.length
   ·rw[hstep _ hk,h3 hk,Aa,←h4]
   ·have e:(l.takeWhile p).length=l.length:=by omega
    have e2:l.takeWhile p=l:=by rw[h4,e];exact Cq
    rw[e2,Cq]
    exact hend)
  (fun i a hi ha=> .inr ⟨_,rfl,rfl,by rw[ha,hstep i (by omega),h2 i (by omega) hi,Ad]⟩) 0 [] (Cn _) (by simp)
 exact this
theorem j5v {X R E:Type} (W:X→Ht R) (l:Hu E) (mk:Int→X) (p:E→Bool) (yes:Int→R) (no:R)
 (hend:W (mk (l.length:Int))=some no)
 (hstep:∀(i:Nat) (h:i<l.length),W (mk (i:Int))=bif p l[i] then W (mk ((i+1:Nat):Int)) else some (yes (i:Int))):
 W (mk 0)=some (if(l.takeWhile p).length<l.length then yes ((l.takeWhile p).length:Int) else no):=by
 obtain⟨h1,h2,h3,_,_⟩:=q0w p l
 have:=s9o W (l.takeWhile p).length (fun(_:Unit) i=>mk i) (fun _ _=>if(l.takeWhile p).length<l.length then yes ((l.takeWhile p).length:Int) else no) (fun _ _=>True)
  (fun a _=>by
   by_cases hk:(l.takeWhile p).length<l.length
   ·rw[hstep _ hk,h3 hk,Aa,Al hk]
   ·have e:(l.takeWhile p).length=l.length:=by omega
    rw[Ao hk,e]
    exact hend)
  (fun i a hi _=> .inr ⟨(),trivial,rfl,by rw[hstep i (by omega),h2 i (by omega) hi,Ad]⟩) 0 () (Cn _) trivial
 exact this
def u8u (v y:u2b):Bool:=y3c y.1 v.1 || (z7o y.1 v.1&&decide (y.2.2.2≤v.2.2.2))
def o7b (l:Hu u2b) (v:u2b):Hu u2b:=l.takeWhile (u8u v)++ [v] ++l.dropWhile (u8u v)
def t5k (l:Hu u2b) (ws:Hu u2i.den) (cs:Int):Hu u2b:=ws.foldl (fun l w=>o7b l (w.1,w.2.1,w.2.2,cs)) l
theorem o09 (l:Hu u2b) (v:u2b):(o7b l v).length=l.length+1:=by
 have:l.length=(l.takeWhile (u8u v)).length+(l.dropWhile (u8u v)).length:=by rw[←Ba,Fe]
 simp[o7b]
 omega
theorem r1a:∀(ws:Hu u2i.den) (l:Hu u2b) (cs:Int),(t5k l ws cs).length=l.length+ws.length
 | [],l,cs=>rfl
 | w::ws,l,cs=>by
  have:=r1a ws (o7b l (w.1,w.2.1,w.2.2,cs)) cs
  unfold t5k at this ⊢
  rw[Bs,this,o09]
  simp
  omega
theorem j6i (l:Hu u2b) (v:u2b):o7b l v=l.take (l.takeWhile (u8u v)).length++ [v] ++l.drop (l.takeWhile (u8u v)).length:=by
 obtain⟨_,_,_,h4,h5⟩:=q0w (u8u v) l
 unfold o7b
 rw[←h4,←h5]
theorem p7s (a b:Hs):t57 (a,b)=some (if y3c a b then -1 else if z7o a b then 0 else 1):=by
 have ns:∀x,t3d x=some false:=fun x=>by
  rw[q6l];unfold s68
  have:z7o x x=true:=by simp[z7o]
  rw[this];rfl
 rw[q00];unfold s3n
 simp only[ns,zOb,Aa]
 cases y3c a b<;>cases z7o a b<;>rfl
theorem o9p (a b:Int):s0s (a,b)=some (if a<b then -1 else if a >b then 1 else 0):=by
 have ns:∀x,t9x x=some false:=fun x=>by
  rw[p2z];unfold r7b
  simp
 rw[q78];unfold s9p
 simp only[ns,zOb,Aa]
 by_cases h:a<b
 ·simp[h]
 ·by_cases h2:a >b<;>simp[h,h2]
theorem j5n (y v:u2b):t58 (y,v)=some (!u8u v y):=by
 rw[q01];unfold s3o
 rw[s2g];unfold t30
 simp only[p7s,zOb]
 unfold u8u
 cases h1:y3c y.1 v.1 with
 | true=>simp
 | false=>
  cases h2:z7o y.1 v.1 with
  | false=>simp
  | true=>
   simp only[Br,Bk,Bl,Ae,Ap,Aa,o9p,zOb,Ci,Bz]
   by_cases h3:y.2.2.2<v.2.2.2
   ·have:y.2.2.2≤v.2.2.2:=by omega
    simp[h3,this]
   ·by_cases h4:y.2.2.2 >v.2.2.2
    ·have: ¬y.2.2.2≤v.2.2.2:=by omega
     simp[h3,h4,this]
    ·have:y.2.2.2≤v.2.2.2:=by omega
     simp[h3,h4,this]
theorem o9z (l:Hu u2b) (v:u2b) (hl:l.length≤1099511627775):u1w (l,v)=some (if(l.takeWhile (u8u v)).length<l.length then((l.takeWhile (u8u v)).length:Int) else -1):=by
 have L:=j5v u0w l (fun i=>(l,v,(l.length:Int),i)) (u8u v) (fun i=> .inr i) (.inl ())
  (by rw[u2r];simp only[u0v,u0b,Am,Ah,Aa])
  (fun i hi=>by
   rw[u2r]
   simp only[u0v,u0b,hi,Ae,Ad,y7t hi,zTn,y8k (t:=u0d) hi,j5n,zOb]
   rw[y7l (by omega)]
   cases u8u v l[i] <;>rfl)
 rw[u7l];unfold u20
 simp only[L,zOb]
 by_cases h:(l.takeWhile (u8u v)).length<l.length
 ·simp only[Al h]
 ·simp only[Ao h]
theorem p7v (l:Hu u2b) (v:u2b) (k:Nat) (hk:k≤l.length) (hl:l.length≤1099511627775):u36 (l,(k:Int), [v])=some (l.take k++ [v] ++l.drop k):=by
 rw[s4n]
 unfold y2q
 have h1:decide ((0:Int)≤(k:Int))=true:=by simp
 have h2:decide ((k:Int)≤(l.length:Int))=true:=by simpa using hk
 simp only[h1,h2,u0x (show l.length+1≤1099511627776 by omega),Bz,Aw,zTn]
 rfl
theorem r3h (l:Hu u2b) (ws:Hu u2i.den) (cs:Int) (hl:l.length+ws.length≤1000000000000):u8e (l,ws,cs)=some (t5k l ws cs):=by
 have L:=u8w u85 ws (fun a i=>(cs,a,ws,(ws.length:Int),i)) (fun l w=>o7b l (w.1,w.2.1,w.2.2,cs)) (fun a=> .inl a) (fun i a=>a.length=l.length+i)
  (fun a _=>by rw[s4c];simp only[u8y,u0b,Am,Ah,Aa])
  (fun i hi a ha=>by
   have hal:a.length≤1099511627775:=by omega
   rw[s4c]
   simp only[u8y,u0b,hi,Ae,Ad,y7t hi,zTn,y8k (t:=u2i) hi,o9z a _ hal,zOb]
   refine⟨by rw[o09];omega,?_⟩
   obtain⟨t1,_⟩:=q0w (u8u (ws[i].1,ws[i].2.1,ws[i].2.2,cs)) a
   rw[j6i,y7l (by omega)]
   by_cases hk:(a.takeWhile (u8u (ws[i].1,ws[i].2.1,ws[i].2.2,cs))).length<a.length
   ·rw[Al hk]
    have:decide (((a.takeWhile (u8u (ws[i].1,ws[i].2.1,ws[i].2.2,cs))).length:Int)<0)=false:=by simp
    simp only[this,Aa,p7v a _ _ t1 hal,zOb]
   ·rw[Ao hk]
    have e:(a.takeWhile (u8u (ws[i].1,ws[i].2.1,ws[i].2.2,cs))).length=a.length:=by omega
    have:decide ((-1:Int)<0)=true:=by decide
    simp only[this,Ad,p7v a _ _ (Au _) hal,zOb]
    rw[e]) l (by simp)
 rw[q6m];unfold s69
 simp only[u0x (show l.length≤1099511627776 by omega),Ad,L,zOb]
 rfl
theorem j2u (ws:Hu u2i.den) (cs:Int) (l:Hu u2b) (j:Int) (v:u2b) (hl:l.length≤1000000000000):
 u6n (ws,cs,l,j,v, [],0)=some (.inl (ws,cs,l,j,v,l.takeWhile (u8u v),((l.takeWhile (u8u v)).length:Int))):=
 j73 u6n l (fun a i=>(ws,cs,l,j,v,a,i)) (u8u v) (fun a i=> .inl (ws,cs,l,j,v,a,i))
  (by rw[s4h];simp only[u83,u0b,Am,Ah,Aa,zOb])
  (fun i hi=>by
   rw[s4h]
   have hb:((l.take i).length+ [l[i]].length)≤1099511627776:=by simp;omega
   simp only[u83,u0b,hi,Ae,Ad,y7t hi,zTn,y8k (t:=u0d) hi,u0x hb]
   rw[y7l (by omega),B9 hi]
   unfold u8u
   cases h1:y3c l[i].1 v.1 with
   | true=>simp
   | false=>
    cases h2:z7o l[i].1 v.1 with
    | false=>simp
    | true=>
     by_cases h3:l[i].2.2.2≤v.2.2.2<;>simp[h3])
theorem p0l (l:Hu u2b) (ws:Hu u2i.den) (cs:Int) (hl:l.length+ws.length≤1000000000000):t3g (l,ws,cs)=some (t5k l ws cs):=by
 have L:=u8w u86 ws (fun a i=>(ws,cs,a,i)) (fun l w=>o7b l (w.1,w.2.1,w.2.2,cs)) (fun a=> .inl a) (fun i a=>a.length=l.length+i)
  (fun a _=>by rw[s4g];simp only[u82,u0b,Am,Ah,Aa])
  (fun i hi a ha=>by
   have hal:a.length≤1000000000000:=by omega
   rw[s4g]
   simp only[u82,u0b,hi,Ae,Ad,y7t hi,zTn,y8k (t:=u2i) hi,j2u ws cs a _ _ hal,zOb]
   obtain⟨v,hv⟩:∃v:u2b,v=(ws[i].1,ws[i].2.1,ws[i].2.2,cs):=⟨_,rfl⟩
   rw[←hv]
   obtain⟨t1,_,_,t4,t5⟩:=q0w (u8u v) a
   refine⟨by rw[o09];omega,?_⟩
   have g1:decide ((0:Int)≤((a.takeWhile (u8u v)).length:Int))=true:=by simp
   have g2:decide (((a.takeWhile (u8u v)).length:Int)≤(a.length:Int))=true:=by simpa using t1
   have g3:decide ((a.length:Int)≤(a.length:Int))=true:=by simp
   have b1:(a.takeWhile (u8u v)).length+ [v].length≤1099511627776:=by simp;omega
   have b2:(a.takeWhile (u8u v)++ [v]).length+(a.drop (a.takeWhile (u8u v)).length).length≤1099511627776:=by simp;omega
   simp only[g1,g2,g3,Bz,u0x b1,Ad,Cq,u0x b2]
   rw[y7l (by omega),←t5]
   rfl) l (by simp)
 rw[q6t];unfold s7f
 simp only[Cc,Co,Cf,u0x (show l.length≤1099511627776 by omega),Ad,L,zOb]
 rfl
end
section
abbrev PrT:=Hs×Hs
theorem j07 {a b:Hu PrT} (h:a.length=b.length):(bif (a.zip b).any (fun p=> !(z7o p.1.1 p.2.1&&(z7o p.1.2 p.2.2&&true))) then false else true)=decide (a=b):=by
 induction a generalizing b with
 | nil=>
  cases b with
  | nil=>rfl
  | cons _ _=>simp at h
 | cons x a ih=>
  cases b with
  | nil=>simp at h
  | cons y b=>
   have ih:=ih (b:=b) (by simpa using h)
   simp only[List.zip_cons_cons,Gd]
   by_cases h1:x.1=y.1
   ·by_cases h2:x.2=y.2
    ·have hxy:x=y:=Prod.ext h1 h2
     subst hxy
     rw[y6l,y6l]
     simp only[Dt,Ap,Ci,ih]
     simp
    ·have:=o6a.mpr h2
     rw[this]
     have hne: ¬(x::a=y::b):=fun e=>h2 (by injection e with e;rw[e])
     simp[hne]
   ·have:=o6a.mpr h1
    rw[this]
    have hne: ¬(x::a=y::b):=fun e=>h1 (by injection e with e;rw[e])
    simp[hne]
theorem q70 (a b:Hu PrT) (ha:a.length≤1099511627776):u30 (a,b)=some (decide (a=b)):=by
 rw[r0e];unfold t8v
 by_cases h:a.length=b.length
 ·have hz:(a.zip b).length=a.length:=by simp[h]
  have L:=s49 u47 (a.zip b) (fun i=>(a,b,(a.length:Int),i)) (fun p=> !(z7o p.1.1 p.2.1&&(z7o p.1.2 p.2.2&&true))) (.inr false) (.inl ())
   (by rw[t52,hz];simp only[u46,u0b,Am,Ah,Aa])
   (fun i hi=>by
    have hi1:i<a.length:=by omega
    have hi2:i<b.length:=by omega
    rw[t52];simp only[u46,u0b,hi1,Ae,Ad,y7t hi1,y7t hi2,zTn,y8k (t:=j5x) hi1,y8k (t:=j5x) hi2,List.getElem_zip]
    rw[y7l (by omega)])
  have e1:decide ((a.length:Int)=(b.length:Int))=true:=by simp[h]
  simp only[e1,Ap,Aa,L,zOb]
  rw[←j07 h]
  cases (a.zip b).any fun p=> !(z7o p.1.1 p.2.1&&(z7o p.1.2 p.2.2&&true))<;>rfl
 ·have e1:decide ((a.length:Int)=(b.length:Int))=false:=by simp;omega
  have e2:decide (a=b)=false:=by
   rw[Bu];intro e;exact h (by rw[e])
  rw[e1,e2];rfl
end
section
theorem o2l (r:Hu t3b.den) (w:Hu u2i.den) (hr:r.length≤u0m) (hw:w.length≤u0m):s9g (r,w)=some (t2m r w):=by
 unfold u0m at hr hw
 have inner:∀(i:Nat) (hi:i<r.length),t1o (r,w,(i:Int),0)=some (bif w.any (fun y=>inR r[i] y.1) then .inr true else .inl (r,w,(i:Int))):=fun i hi=>
  s49 t1o w (fun j=>(r,w,(i:Int),j)) (fun y=>inR r[i] y.1) _ _ (by
   rw[r6h];simp only[t7m,u0b,Am,Ah,Aa]) (fun j hj=>by
   rw[r6h];simp only[t7m,u0b,hj,Ae,Ad,y7t hi,y7t hj,zTn,y8k hi,y8k hj,q9a,zOb]
   rw[y7l (by omega)])
 have outer:=s49 t74 r (fun i=>(r,w,i)) (fun x=>w.any fun y=>inR x y.1) (.inr true) (.inl ()) (by
  rw[r6g];simp only[t7l,u0b,Am,Ah,Aa]) (fun i hi=>by
  rw[r6g];simp only[t7l,u0b,hi,Ae,Ad,inner i hi,zOb]
  have ws:=y7l (i:=i) (by omega)
  cases w.any fun y=>inR r[i] y.1<;>simp only[Ad,Aa,ws])
 rw[p6x];unfold q2g
 simp only[outer,zOb]
 unfold t2m
 cases r.any fun x=>w.any fun y=>inR x y.1<;>rfl
theorem o78 (r w:Hu u2i.den) (hr:r.length≤u0m) (hw:w.length≤u0m):s78 (r,w)=some (s81 r w):=by
 unfold u0m at hr hw
 have inner:∀(i:Nat) (hi:i<r.length),t6c (r,w,(i:Int),0)=some (bif w.any (fun y=>z7o r[i].1 y.1) then .inr true else .inl (r,w,(i:Int))):=fun i hi=>
  s49 t6c w (fun j=>(r,w,(i:Int),j)) (fun y=>z7o r[i].1 y.1) _ _ (by
   rw[q35];simp only[s1e,u0b,Am,Ah,Aa]) (fun j hj=>by
   rw[q35];simp only[s1e,u0b,hj,Ae,Ad,y7t hi,y7t hj,zTn,y8k hi,y8k hj,zOb]
   rw[y7l (by omega)])
 have outer:=s49 s1m r (fun i=>(r,w,i)) (fun x=>w.any fun y=>z7o x.1 y.1) (.inr true) (.inl ()) (by
  rw[q34];simp only[s1d,u0b,Am,Ah,Aa]) (fun i hi=>by
  rw[q34];simp only[s1d,u0b,hi,Ae,Ad,inner i hi,zOb]
  have ws:=y7l (i:=i) (by omega)
  cases w.any fun y=>z7o r[i].1 y.1<;>simp only[Ad,Aa,ws])
 rw[o3e];unfold q9u
 simp only[outer,zOb]
 unfold s81
 cases r.any fun x=>w.any fun y=>z7o x.1 y.1<;>rfl
theorem r66 (r:Hu t3b.den) (w:Hu u2i.den) (hr:r.length≤u0m) (hw:w.length≤u0m):u63 (r,w)=some (t2m r w):=by
 unfold u0m at hr hw
 have inner:∀(i:Nat) (hi:i<r.length),t1d (w,r[i],r,(r.length:Int),(i:Int),w,(w.length:Int),0)=some (bif w.any (fun y=>inR r[i] y.1) then .inr true else .inl (w,r,(r.length:Int),(i:Int))):=fun i hi=>
  s49 t1d w (fun j=>(w,r[i],r,(r.length:Int),(i:Int),w,(w.length:Int),j)) (fun y=>inR r[i] y.1) _ _ (by
   rw[r5z];simp only[t66,u0b,Am,Ah,Aa]) (fun j hj=>by
   rw[r5z];simp only[t66,u0b,hj,Ae,Ad,y7t hi,y7t hj,zTn,y8k hi,y8k hj,r61,zOb]
   rw[y7l (by omega)])
 have outer:=s49 t7x r (fun i=>(w,r,(r.length:Int),i)) (fun x=>w.any fun y=>inR x y.1) (.inr true) (.inl ()) (by
  rw[r5y];simp only[t65,u0b,Am,Ah,Aa]) (fun i hi=>by
  rw[r5y];simp only[t65,u0b,hi,Ae,Ad,y7t hi,zTn,y8k hi,inner i hi,zOb]
  have ws:=y7l (i:=i) (by omega)
  cases w.any fun y=>inR r[i] y.1<;>simp only[Ad,Aa,ws])
 rw[p6a];unfold q1t
 simp only[outer,zOb]
 unfold t2m
 cases r.any fun x=>w.any fun y=>inR x y.1<;>rfl
theorem o77 (r w:Hu u2i.den) (hr:r.length≤u0m) (hw:w.length≤u0m):s75 (r,w)=some (s81 r w):=by
 unfold u0m at hr hw
 have inner:∀(i:Nat) (hi:i<r.length),t6b (w,r[i],r,(r.length:Int),(i:Int),w,(w.length:Int),0)=some (bif w.any (fun y=>z7o r[i].1 y.1) then .inr true else .inl (w,r,(r.length:Int),(i:Int))):=fun i hi=>
  s49 t6b w (fun j=>(w,r[i],r,(r.length:Int),(i:Int),w,(w.length:Int),j)) (fun y=>z7o r[i].1 y.1) _ _ (by
   rw[q31];simp only[s1a,u0b,Am,Ah,Aa]) (fun j hj=>by
   rw[q31];simp only[s1a,u0b,hj,Ae,Ad,y7t hi,y7t hj,zTn,y8k hi,y8k hj,zOb]
   rw[y7l (by omega)])
 have outer:=s49 s1j r (fun i=>(w,r,(r.length:Int),i)) (fun x=>w.any fun y=>z7o x.1 y.1) (.inr true) (.inl ()) (by
  rw[q30];simp only[s09,u0b,Am,Ah,Aa]) (fun i hi=>by
  rw[q30];simp only[s09,u0b,hi,Ae,Ad,y7t hi,zTn,y8k hi,inner i hi,zOb]
  have ws:=y7l (i:=i) (by omega)
  cases w.any fun y=>z7o r[i].1 y.1<;>simp only[Ad,Aa,ws])
 rw[o22];unfold q9k
 simp only[outer,zOb]
 unfold s81
 cases r.any fun x=>w.any fun y=>z7o x.1 y.1<;>rfl
def t1w (a b:u0q.den):Bool:=
 decide (a.2.1=3)&&decide (b.2.1=3)&& !decide (a.1=b.1)&&
 (decide (a.2.2.2.1≤b.2.2.1)&&t2m b.2.2.2.2.1 a.2.2.2.2.2.1 || decide (a.2.2.2.1<b.2.2.2.1)&&s81 a.2.2.2.2.2.1 b.2.2.2.2.2.1 || decide (b.2.2.2.1 >a.2.2.1)&&t2m a.2.2.2.2.1 b.2.2.2.2.2.1)
theorem o7s {a:u0q.den} :a.2.2.2.2.1.length≤u0q.wt a:=by simp only[Ty.wt];omega
theorem q7q {a:u0q.den} :a.2.2.2.2.2.1.length≤u0q.wt a:=by simp only[Ty.wt];omega
theorem q4n (a:u0q.den):u8g a=some (decide (a.2.1=3)):=by
 rw[r2p];rfl
theorem o42 (a b:u0q.den) (ha:u0q.wt a≤u0m) (hb:u0q.wt b≤u0m):s4r (a,b)=some (t1w a b):=by
 have t1:=r66 b.2.2.2.2.1 a.2.2.2.2.2.1 (A9 o7s hb) (A9 q7q ha)
 have t2:=r66 a.2.2.2.2.1 b.2.2.2.2.2.1 (A9 o7s ha) (A9 q7q hb)
 have t3:=o77 a.2.2.2.2.2.1 b.2.2.2.2.2.1 (A9 q7q ha) (A9 q7q hb)
 rw[p9x];unfold q5c
 simp only[t1,t2,t3,q4n,zOb]
 unfold t1w
 generalize t2m b.2.2.2.2.1 a.2.2.2.2.2.1=u1
 generalize t2m a.2.2.2.2.1 b.2.2.2.2.2.1=u2
 generalize s81 a.2.2.2.2.2.1 b.2.2.2.2.2.1=u3
 cases decide (a.1=b.1)<;>cases decide (a.2.1=3)<;>cases decide (b.2.1=3)<;>cases decide (a.2.2.2.1≤b.2.2.1)<;>cases decide (a.2.2.2.1<b.2.2.2.1)<;>cases decide (b.2.2.2.1 >a.2.2.1)<;>cases u1<;>cases u2<;>cases u3<;>rfl
end
section
theorem p4w {n i:Nat} (h:i<n):(List.range n).drop i=i::(List.range n).drop (i+1):=by
 have:=Ce (l:=List.range n) (i:=i) (by simpa using h)
 simpa using this
theorem j71 {X R:Type} (W:X→Ht R) (n:Nat) (mk:Int→X) (p:Nat→Bool) (yes:Nat→R) (no:R) (hend:W (mk (n:Int))=some no)
 (hstep:∀i,i<n→W (mk (i:Int))=bif p i then some (yes i) else W (mk ((i+1:Nat):Int))):W (mk 0)=some (match (List.range n).find? p with
  | some i=>yes i
  | none=>no):=by
 have:=s9o W n (fun(_:Unit) i=>mk i) (fun i _=>match ((List.range n).drop i).find? p with
  | some i=>yes i
  | none=>no) (fun _ _=>True) (fun _ _=>by
   rw[hend,Dp (by simp)];rfl) (fun i a hi _=>by
   have hs:=hstep i hi
   rw[p4w hi,List.find?_cons]
   cases hp:p i with
   | true=>rw[hp,Ad] at hs;exact .inl hs
   | false=>rw[hp,Aa] at hs;exact .inr ⟨(),trivial,rfl,hs⟩) 0 () (Cn _) trivial
 exact this
theorem j72 {X R:Type} (W:X→Ht R) (n:Nat) (mk:Bool→Int→X) (p:Nat→Bool) (fin:Bool→R) (hend:∀b,W (mk b (n:Int))=some (fin b))
 (hstep:∀b i,i<n→W (mk b (i:Int))=W (mk (b || p i) ((i+1:Nat):Int))) (b:Bool):W (mk b 0)=some (fin (b || (List.range n).any p)):=by
 have:=s9o W n mk (fun i b=>fin (b || ((List.range n).drop i).any p)) (fun _ _=>True) (fun b _=>by
  rw[hend,Dp (by simp)];simp) (fun i b hi _=> .inr ⟨b || p i,trivial,by
  rw[p4w hi,Gd,Bool.or_assoc],hstep b i hi⟩) 0 b (Cn _) trivial
 exact this
def u11 (t:Hu Nat):Hu Int:=t.map fun i:Nat=>(i:Int)
theorem u55 (t:Hu Nat):(u11 t).length=t.length:=by simp[u11]
theorem q87 (t:Hu Nat) (j:Nat) (ht:t.length≤1099511627776):u2m (u11 t,(j:Int))=some (t.contains j):=by
 have key:∀(d i:Nat),i+d=t.length→(u2d (u11 t,(j:Int),(t.length:Int),(i:Int))=some (.inl ())∧(t.drop i).contains j=false)∨
  ∃k:Nat,u2d (u11 t,(j:Int),(t.length:Int),(i:Int))=some (.inr (k:Int))∧(t.drop i).contains j=true:=by
  intro d
  induction d with
  | zero=>
   intro i hi
   have:i=t.length:=by omega
   subst this
   left
   rw[t83]
   simp only[u5y,u0b,Am,Ah,Aa,F5]
   exact⟨trivial,rfl⟩
  | succ d ih=>
   intro i hi
   have h:i<t.length:=by omega
   have h' :i<(u11 t).length:=by simpa[u11] using h
   have hr:rdL (Ty.int .i64) (u11 t) i=(t[i] :Int):=by
    rw[y8k (t:=Ty.int .i64) h'];simp[u11]
   rw[t83,Ce h,List.contains_cons]
   simp only[u5y,u0b,h,Ae,Ad,y7t h',zTn,hr]
   by_cases e:j=t[i]
   ·right
    refine⟨i,?_,?_⟩
    ·simp[e,u55,h]
    ·simp[e]
   ·have e1:decide ((j:Int)=(t[i] :Int))=false:=by simp;omega
    have e2:(j==t[i])=false:=by simpa using e
    rw[e1,Aa,y7l (by omega),e2,Ci]
    exact ih (i+1) (by omega)
 rw[s8z];unfold t6e
 rw[r6t];unfold s0h
 simp only[u55]
 rcases key t.length 0 (by omega) with ⟨h1,h2⟩ | ⟨k,h1,h2⟩
 ·have h1:u2d (u11 t,(j:Int),(t.length:Int),0)=_:=h1
  rw[Fh] at h2
  simp only[h1,zOb,h2]
  rfl
 ·have h1:u2d (u11 t,(j:Int),(t.length:Int),0)=_:=h1
  rw[Fh] at h2
  simp only[h1,zOb,h2]
  simp
def o9j (l:Hu u0q.den) (j i:Nat):Bool:=t1w (rdL u0q l j) (rdL u0q l i)
def q3r (l:Hu u0q.den) (t:Hu Nat) (i:Nat):Bool:= !t.contains i&& !(List.range l.length).any (fun j=> !decide (j=i)&&(!t.contains j&&o9j l j i))
def q0s (l:Hu u0q.den) (t:Hu Nat):Ht Nat:=(List.range l.length).find? (q3r l t)
def o04 (l:Hu u0q.den):Nat→Hu Nat→Ht (Hu Nat)
 | 0,t=>some t
 | k+1,t=>match q0s l t with
  | none=>none
  | some i=>o04 l k (t++ [i])
def o33 (l:Hu u0q.den):Ht (Hu Nat):=o04 l l.length []
def j06:Ht (Hu Nat)→Hu Int×Bool
 | some t=>(u11 t,true)
 | none=>([],false)
theorem o5k (t:Hu Nat) (i:Nat):u11 t++ [(i:Int)] =u11 (t++ [i]):=by simp[u11]
section
variable {l:Hu u0q.den} (hw:∀x∈l,u0q.wt x≤u0m) (hl:l.length≤1048576)
include hw hl
theorem o2t (t:Hu Nat) (ht:t.length≤l.length) (m:Bool) (i:Nat) (hi:i<l.length) (l2:Hu u0q.den) (n2 i2:Int) (b:Bool):
 u5n (l,u11 t,m,(i:Int),l[i],b,l2,n2,i2,l,(l.length:Int),0)=some (.inl (l,u11 t,m,(i:Int),b || (List.range l.length).any (fun j=> !decide (j=i)&&(!t.contains j&&o9j l j i)),l2,n2,i2)):=by
 have:=j72 u5n l.length (fun b j=>(l,u11 t,m,(i:Int),l[i],b,l2,n2,i2,l,(l.length:Int),j)) (fun j=> !decide (j=i)&&(!t.contains j&&o9j l j i)) (fun b=> .inl (l,u11 t,m,(i:Int),b,l2,n2,i2))
  (fun b=>by
   rw[s2v];simp only[u73,u0b,Am,Ah,Aa])
  (fun b j hj=>by
   have hc:u2m (u11 t,(j:Int))=some (t.contains j):=q87 t j (by omega)
   have hb:s4r (l[j],l[i])=some (o9j l j i):=by
    rw[o42 _ _ (hw _ (Ag hj)) (hw _ (Ag hi))]
    unfold o9j
    rw[y8k hj,y8k hi]
   rw[s2v]
   simp only[u73,u0b,hj,Ae,Ad,y7t hj,zTn,y8k hj,hc,hb,zOb]
   have he:decide ((j:Int)=(i:Int))=decide (j=i):=by by_cases e:j=i<;>simp[e] <;>omega
   rw[y7l (by omega),he]
   cases b<;>cases decide (j=i)<;>cases t.contains j<;>cases o9j l j i<;>rfl) b
 exact this
theorem j1c (t:Hu Nat) (ht:t.length≤l.length) (m:Bool):
 u6l (l,u11 t,m,l,(l.length:Int),0)=some (match q0s l t with
  | some i=> .inl (l,u11 (t++ [i]),true)
  | none=> .inl (l,u11 t,m)):=by
 have:=j71 u6l l.length (fun i=>(l,u11 t,m,l,(l.length:Int),i)) (q3r l t) (fun i=> .inl (l,u11 (t++ [i]),true)) (.inl (l,u11 t,m))
  (by rw[s4e];simp only[u80,u0b,Am,Ah,Aa])
  (fun i hi=>by
   have hc:u2m (u11 t,(i:Int))=some (t.contains i):=q87 t i (by omega)
   have hk:Nat.ble ((u11 t).length+([(i:Int)] :Hu Int).length) z7w=true:=by
    rw[Nat.ble_eq,u55];simp only[Bc,Cc,z7w];omega
   rw[s4e]
   simp only[u80,u0b,hi,Ae,Ad,y7t hi,zTn,y8k hi,hc,zOb,o2t hw hl t ht m i hi l (l.length:Int) (i:Int) false,hk,Ci,o5k]
   rw[y7l (by omega)]
   unfold q3r
   cases t.contains i<;>cases (List.range l.length).any (fun j=> !decide (j=i)&&(!t.contains j&&o9j l j i))<;>rfl)
 rw[this]
 unfold q0s
 cases (List.range l.length).find? (q3r l t)<;>rfl
theorem j0t:∀(k:Nat) (t:Hu Nat),t.length+k=l.length→u6k (l,u11 t)=some (match o04 l k t with
 | some t=> .inl (u11 t)
 | none=> .inr ([],false))
 | 0,t,h=>by
  rw[s4d]
  have: ¬((u11 t).length:Int)<(l.length:Int):=by rw[u55];omega
  simp only[u8z,this,Ah,Aa]
  rfl
 | k+1,t,h=>by
  rw[s4d]
  have:((u11 t).length:Int)<(l.length:Int):=by rw[u55];omega
  simp only[u8z,this,Ae,Ad,j1c hw hl t (by omega) false,zOb,o04]
  cases hp:q0s l t with
  | none=>rfl
  | some i=>
   simp only[Ap,Aa]
   exact j0t k (t++ [i]) (by simp;omega)
theorem r3l:t3e l=some (j06 (o33 l)):=by
 have h:u6k (l, [])=_:=j0t hw hl l.length [] (by simp)
 rw[q6n];unfold s7a
 simp only[h,zOb]
 unfold o33
 cases o04 l l.length [] <;>rfl
end
theorem p8g {l:Hu u0q.den} :∀(k:Nat) (t u:Hu Nat),o04 l k t=some u→(∀i∈t,i<l.length)→t.Nodup→(∀(a b:Nat) (ha:a<b) (hb:b<t.length),o9j l t[b] t[a] =false)→
 (∀(a:Nat) (ha:a<t.length) (j:Nat),j<l.length→j ∉ t→o9j l j t[a] =false)→
 u.length=t.length+k∧(∀i∈u,i<l.length)∧u.Nodup∧(∀(a b:Nat) (ha:a<b) (hb:b<u.length),o9j l u[b] u[a] =false)
 | 0,t,u,h,h1,h2,h3,h4=>by
  cases h
  exact⟨rfl,h1,h2,h3⟩
 | k+1,t,u,h,h1,h2,h3,h4=>by
  simp only[o04] at h
  split at h
  ·cases h
  ·rename_i i hp
   have hi:i<l.length:=by
    have:=List.mem_of_find?_eq_some hp
    simpa using this
   have hok:q3r l t i=true:=by
    have:=Gz hp
    exact this
   unfold q3r at hok
   simp only[Ai,Bj,List.contains_eq_mem,Bu,Ct,Bq,not_and,Ey,Ar] at hok
   obtain⟨hni,hfree⟩:=hok
   have g:=p8g k (t++ [i]) u h (fun x hx=>by
    rcases Ay.mp hx with q | q
    ·exact h1 x q
    ·simp at q;subst q;exact hi) (by
    rw[Gp]
    exact⟨h2,by simp,fun x hx y hy=>by simp at hy;subst hy;intro z;subst z;exact hni hx⟩) (fun a b hab hb=>by
    simp only[Ba,Bc,Cc] at hb
    by_cases hbt:b<t.length
    ·rw[Ck hbt,Ck (by omega)]
     exact h3 a b hab hbt
    ·have hbe:b=t.length:=by omega
     subst hbe
     rw[Cv (Au _),Ck hab]
     simp only[Dw,Gn]
     exact h4 a hab i hi hni) (fun a ha j hj hnj=>by
    simp only[Ay,A8,Ep,Em,Hr] at hnj
    by_cases hat:a<t.length
    ·rw[Ck hat]
     exact h4 a hat j hj hnj.1
    ·simp only[Ba,Bc,Cc] at ha
     have hae:a=t.length:=by omega
     subst hae
     rw[Cv (Au _)]
     simp only[Dw,Gn]
     have:=hfree j hj
     exact this (by simpa using hnj.2) (by simpa using hnj.1))
   exact⟨by rw[g.1];simp;omega,g.2.1,g.2.2.1,g.2.2.2⟩
theorem s0q {l:Hu u0q.den} {u:Hu Nat} (h:o33 l=some u):u.length=l.length∧(∀i∈u,i<l.length)∧u.Nodup∧(∀(a b:Nat) (ha:a<b) (hb:b<u.length),o9j l u[b] u[a] =false):=by
 have:=p8g l.length [] u h (fun i hi=>by cases hi) List.nodup_nil (fun a b _ hb=>by simp at hb) (fun a ha=>by simp at ha)
 simpa using this
end
section
def p8j (m:Hu p0s.den) (w:u2i.den):Hu p0s.den:=
 m.filter (fun c=>y3c c.1 w.1)++(if w.2.2 then[] else[(w.1,w.2.1)])++m.filter (fun c=> !(y3c c.1 w.1 || z7o c.1 w.1))
def u6w (m:Hu p0s.den) (ws:Hu u2i.den):Hu p0s.den:=ws.foldl p8j m
theorem p4c {α:Type} (p:α→Bool):∀(l a:Hu α),l.foldl (fun a x=>if p x then a++ [x] else a) a=a++l.filter p
 | [],a=>by simp
 | x::l,a=>by
  simp only[Bs,p4c p l,Di]
  cases p x<;>simp
theorem s5j {α:Type} (p q:α→Bool) (h:∀x,p x=true→q x=true):∀l:Hu α,(l.filter p).length+(l.filter (fun x=> !q x)).length≤l.length
 | [] =>by simp
 | x::l=>by
  have:=s5j p q h l
  have hx:=h x
  simp only[Di]
  cases hp:p x<;>cases hq:q x
  ·simp;omega
  ·simp;omega
  ·rw[hp,hq] at hx;exact absurd (hx rfl) (by simp)
  ·simp;omega
theorem p38 {α:Type} (f:α→Nat) (p q:α→Bool) (h:∀x,p x=true→q x=true):∀l:Hu α,((l.filter p).map f).sum+((l.filter (fun x=> !q x)).map f).sum≤(l.map f).sum
 | [] =>by simp
 | x::l=>by
  have:=p38 f p q h l
  have hx:=h x
  simp only[Di]
  cases hp:p x<;>cases hq:q x
  ·simp;omega
  ·simp;omega
  ·rw[hp,hq] at hx;exact absurd (hx rfl) (by simp)
  ·simp;omega
theorem o08 (m:Hu p0s.den) (w:u2i.den):(p8j m w).length≤m.length+1:=by
 have:=s5j (fun c:p0s.den=>y3c c.1 w.1) (fun c=>y3c c.1 w.1 || z7o c.1 w.1) (fun x h=>by simp[h]) m
 unfold p8j
 simp only[Ba]
 split<;>simp only[Cc,Bc] <;>omega
theorem j6h (m:Hu p0s.den) (w:u2i.den):(Ty.sl p0s).wt (p8j m w)≤(Ty.sl p0s).wt m+1+u2i.wt w:=by
 have h1:=o08 m w
 have h2:=p38 p0s.wt (fun c:p0s.den=>y3c c.1 w.1) (fun c=>y3c c.1 w.1 || z7o c.1 w.1) (fun x h=>by simp[h]) m
 have e1:(Ty.sl p0s).wt (p8j m w)=(p8j m w).length+((p8j m w).map p0s.wt).sum:=rfl
 have e2:(Ty.sl p0s).wt m=m.length+(m.map p0s.wt).sum:=rfl
 have e3:u2i.wt w=w.1.size+(w.2.1.size+0):=rfl
 have e4:((p8j m w).map p0s.wt).sum≤(m.map p0s.wt).sum+(w.1.size+w.2.1.size):=by
  unfold p8j
  simp only[Dh,Fn]
  split
  ·simp only[Eh,Gq];omega
  ·have:([(w.1,w.2.1)].map p0s.wt).sum=w.1.size+w.2.1.size:=by simp[Ty.wt]
   rw[this]
   omega
 omega
theorem p8i:∀(ws:Hu u2i.den) (m:Hu p0s.den),(Ty.sl p0s).wt (u6w m ws)≤(Ty.sl p0s).wt m+(Ty.sl u2i).wt ws
 | [],m=>by simp[u6w]
 | w::ws,m=>by
  have h1:=j6h m w
  have h2:=p8i ws (p8j m w)
  have e:(Ty.sl u2i).wt (w::ws)=(ws.length+1)+(u2i.wt w+(ws.map u2i.wt).sum):=rfl
  have e2:(Ty.sl u2i).wt ws=ws.length+(ws.map u2i.wt).sum:=rfl
  have e3:u6w m (w::ws)=u6w (p8j m w) ws:=rfl
  rw[e3]
  omega
theorem j2d {t:Ty} {l:Hu t.den} :l.length≤(Ty.sl t).wt l:=by
 have:(Ty.sl t).wt l=l.length+(l.map t.wt).sum:=rfl
 omega
theorem j6f (a:Hu p0s.den) (w:u2i.den) (h:a.length≤1099511627775):(a.filter (fun c=>y3c c.1 w.1)).length+1≤1099511627776:=by
 have:(a.filter (fun c=>y3c c.1 w.1)).length≤a.length:=Cs _ _
 omega
theorem j3g (a:Hu p0s.den) (w:u2i.den) (x:p0s.den):(a.filter (fun c=>y3c c.1 w.1)++ [x]).length≤a.length+1 - (a.filter (fun c=> !(y3c c.1 w.1 || z7o c.1 w.1))).length:=by
 have:=s5j (fun c:p0s.den=>y3c c.1 w.1) (fun c=>y3c c.1 w.1 || z7o c.1 w.1) (fun x h=>by simp[h]) a
 simp only[Ba,Aw]
 omega
theorem j3h (a:Hu p0s.den) (w:u2i.den):(a.filter (fun c=>y3c c.1 w.1)).length≤a.length+1 - (a.filter (fun c=> !(y3c c.1 w.1 || z7o c.1 w.1))).length:=by
 have:=s5j (fun c:p0s.den=>y3c c.1 w.1) (fun c=>y3c c.1 w.1 || z7o c.1 w.1) (fun x h=>by simp[h]) a
 omega
section
variable (t:u0q.den) (w:u2i.den) (m:Hu p0s.den) (hm:m.length≤500000000000)
include hm
theorem j3f (l:Hu u2i.den) (n j:Int):t1c (m,w, [],l,n,j,m,(m.length:Int),0)=some (.inl (m,w,m.filter (fun c=>y3c c.1 w.1),l,n,j)):=by
 have:=s19 t1c m (fun a i=>(m,w,a,l,n,j,m,(m.length:Int),i)) (fun c=>y3c c.1 w.1) (fun c=>c) (fun a=> .inl (m,w,a,l,n,j)) (by omega)
  (fun a _=>by rw[r5u];simp only[t61,u0b,Am,Ah,Aa])
  (fun i hi a ha=>by
   rw[r5u];simp only[t61,u0b,hi,Ae,Ad,y7t hi,zTn,y8k hi,Aw,u0x (show a.length+1≤1099511627776 by omega)]
   rw[y7l (by omega)])
 rw[Er] at this
 exact this
theorem o3p (l:Hu u2i.den) (n j:Int) (a:Hu p0s.den) (ha:a.length≤m.length+1 - (m.filter (fun c=> !(y3c c.1 w.1 || z7o c.1 w.1))).length):u68 (w,a,l,n,j,m,(m.length:Int),0)=some (.inl (a++m.filter (fun c=> !(y3c c.1 w.1 || z7o c.1 w.1)),l,n,j)):=by
 have:=u8w u68 m (fun a i=>(w,a,l,n,j,m,(m.length:Int),i)) (fun a c=>if !(y3c c.1 w.1 || z7o c.1 w.1) then a++ [c] else a) (fun a=> .inl (a,l,n,j)) (fun i a=>a.length≤m.length+1+i)
  (fun a _=>by rw[r1i];simp only[t4i,u0b,Am,Ah,Aa])
  (fun i hi a ha=>by
   rw[r1i];simp only[t4i,u0b,hi,Ae,Ad,y7t hi,zTn,y8k hi,Aw,u0x (show a.length+1≤1099511627776 by omega)]
   rw[y7l (by omega)]
   cases !(y3c m[i].1 w.1 || z7o m[i].1 w.1) with
   | true=>simp only[Ad,Bl];refine⟨by simp;omega,?_⟩;simp only[u0x (show a.length+1≤1099511627776 by omega),Ad]
   | false=>simp only[Aa,Br,Bk];refine⟨by omega,?_⟩;trivial) a (by omega)
 rw[p4c] at this
 exact this
end
theorem j09 (m:Hu p0s.den) (w:u2i.den):(m.filter (fun c=>y3c c.1 w.1)).length+(m.filter (fun c=> !(y3c c.1 w.1 || z7o c.1 w.1))).length≤m.length:=
 s5j (fun c:p0s.den=>y3c c.1 w.1) (fun c=>y3c c.1 w.1 || z7o c.1 w.1) (fun x h=>by simp[h]) m
theorem q9b (m:Hu p0s.den) (t:u0q.den) (h:m.length+t.2.2.2.2.2.1.length≤400000000000):s1u (m,t)=some (u6w m t.2.2.2.2.2.1):=by
 have L:=u8w t7t t.2.2.2.2.2.1 (fun a i=>(a,t.2.2.2.2.2.1,(t.2.2.2.2.2.1.length:Int),i)) p8j (fun a=> .inl a) (fun i a=>a.length≤m.length+i)
  (fun a _=>by rw[r5t];simp only[t60,u0b,Am,Ah,Aa])
  (fun i hi a ha=>by
   have hl:=o08 a t.2.2.2.2.2.1[i]
   have hp:=j09 a t.2.2.2.2.2.1[i]
   rw[r5t]
   simp only[t60,u0b,hi,Ae,Ad,y7t hi,zTn,y8k hi,j3f _ a (by omega),zOb,Aw,u0x (j6f a t.2.2.2.2.2.1[i] (by omega)),
    o3p t.2.2.2.2.2.1[i] a (by omega) t.2.2.2.2.2.1 (t.2.2.2.2.2.1.length:Int) (i:Int) (a.filter (fun c=>y3c c.1 t.2.2.2.2.2.1[i].1)++ [(t.2.2.2.2.2.1[i].1,t.2.2.2.2.2.1[i].2.1)]) (j3g ..),o3p t.2.2.2.2.2.1[i] a (by omega) t.2.2.2.2.2.1 (t.2.2.2.2.2.1.length:Int) (i:Int) (a.filter (fun c=>y3c c.1 t.2.2.2.2.2.1[i].1)) (j3h ..)]
   rw[y7l (by omega)]
   refine⟨by omega,?_⟩
   unfold p8j
   cases t.2.2.2.2.2.1[i].2.2<;>simp) m (by omega)
 rw[p53];unfold q1m
 simp only[u0x (show m.length≤1099511627776 by omega),Ad,L,zOb]
 rfl
end
section
def p5f (a:Hu u2b) (t:u0q.den):Hu u2b:=t5k a t.2.2.2.2.2.1 t.2.2.2.1
def q7w (l:Hu u0q.den):Hu u2b:=l.foldl p5f []
def q4y (vs:Hu u2b) (m:Hu PrT) (t:u0q.den):Bool:=t.2.2.2.2.1.any fun r=> !decide (s6r m r=t5y vs r t.2.2.1)
def j1d (l:Hu u0q.den) (vs:Hu u2b) (i:Nat) (x:Int) (m:Hu PrT):Hu PrT⊕(Unit⊕Bool):=
 if q4y vs m (rdL u0q l x.toNat)=true then .inr (.inr false) else .inl (u6w m (rdL u0q l x.toNat).2.2.2.2.2.1)
def o39 (l:Hu u0q.den) (u:Hu Nat):Unit⊕Bool:=o3r (j1d l (q7w l)) (fun _=> .inl ()) 0 (u11 u) []
def j97 (l:Hu u0q.den):Bool:=match o33 l with
 | none=>false
 | some u=>match o39 l u with
  | .inl _=>true
  | .inr b=>b
def r3f (l:Hu u0q.den):Nat:=(l.map fun t=>t.2.2.2.2.2.1.length).sum
theorem j45:∀(l:Hu u0q.den) (a:Hu u2b),(l.foldl p5f a).length=a.length+r3f l
 | [],a=>rfl
 | t::l,a=>by
  rw[Bs,j45 l]
  unfold p5f
  rw[r1a]
  simp only[r3f,C8,Ge]
  omega
theorem d44 (a b:Nat) (h:a+b≤1048576):a*b≤274877906944:=by
 have key:4*(a*b)≤(a+b)*(a+b):=by
  rcases Nat.le_total a b with q | q
  ·obtain⟨d,rfl⟩:=Nat.exists_eq_add_of_le q
   simp only[Nat.mul_add,Cl]
   have e:d*a=a*d:=Fk d a
   have:0≤d*d:=Cn _
   omega
  ·obtain⟨d,rfl⟩:=Nat.exists_eq_add_of_le q
   simp only[Nat.mul_add,Cl]
   have e:d*b=b*d:=Fk d b
   have:0≤d*d:=Cn _
   omega
 have:=Ei h h
 omega
theorem o53 (m:Hu PrT) (ws:Hu u2i.den):(u6w m ws).length≤m.length+ws.length:=by
 induction ws generalizing m with
 | nil=>exact Au _
 | cons w ws ih=>
  have h:=ih (p8j m w)
  have h2:=o08 m w
  unfold u6w at h ⊢
  rw[Bs]
  simp only[Bc]
  omega
theorem j83 {l:Hu u0q.den} {i:Nat} (h:i<l.length):l[i].2.2.2.2.2.1.length≤r3f l:=by
 unfold r3f
 induction l generalizing i with
 | nil=>exact absurd h (Ee i)
 | cons t l ih=>
  simp only[C8,Ge]
  cases i with
  | zero=>simp
  | succ i=>
   have:=ih (i:=i) (by simpa using h)
   simp only[List.getElem_cons_succ]
   omega
section
variable {l:Hu u0q.den} (hw:∀x∈l,u0q.wt x≤u0m) (hl:l.length+r3f l≤1048576) (hr:∀x∈l,x.2.2.2.2.1.length≤1048576)
include hl
theorem p9k (t:Hu Int):u6m (l,t, [],l,(l.length:Int),0)=some (.inl (l,t,q7w l)):=
 u8w u6m l (fun a i=>(l,t,a,l,(l.length:Int),i)) p5f (fun a=> .inl (l,t,a)) (fun i a=>a.length=r3f (l.take i))
  (fun a _=>by rw[s4f];simp only[u81,u0b,Am,Ah,Aa])
  (fun i hi a ha=>by
   have h1:=j83 hi
   have h2:r3f (l.take (i+1))=r3f (l.take i)+l[i].2.2.2.2.2.1.length:=by
    unfold r3f
    rw[B9 hi,Dh,Fn]
    simp
   have h3:r3f (l.take i)≤r3f l:=by
    unfold r3f
    conv=>rhs;rw[←En i l]
    rw[Dh,Fn]
    omega
   rw[s4f]
   simp only[u81,u0b,hi,Ae,Ad,y7t hi,zTn,y8k (t:=u0q) hi,r3h a l[i].2.2.2.2.2.1 l[i].2.2.2.1 (by omega),zOb]
   rw[y7l (by omega)]
   refine⟨?_,rfl⟩
   unfold p5f
   rw[r1a]
   omega) [] (by simp[r3f])
theorem j4h:(q7w l).length≤1048576:=by
 unfold q7w
 rw[j45]
 simp
 omega
theorem o8v {u:Hu Nat} (hu:u.length=l.length) {i:Nat} (hi:i<u.length) {m:Hu PrT} (hm:m.length≤i*r3f l) {k:Nat} (hk:k<l.length):
 m.length≤300000000000∧m.length+l[k].2.2.2.2.2.1.length≤400000000000∧(u6w m l[k].2.2.2.2.2.1).length≤(i+1)*r3f l:=by
 have h1:=j83 hk
 have h2:=d44 i (r3f l) (by omega)
 have h3:=o53 m l[k].2.2.2.2.2.1
 rw[C7]
 exact⟨by omega,by omega,by omega⟩
include hr
theorem j1e {u:Hu Nat} (hu:u.length=l.length) (hin:∀i∈u,i<l.length):u2t (l,q7w l, [],u11 u,((u11 u).length:Int),0)=some (o39 l u):=by
 have hv:=j4h hl
 refine o6q u2t (u11 u) (fun a i=>(l,q7w l,a,u11 u,((u11 u).length:Int),i)) (j1d l (q7w l)) (fun _=> .inl ()) (fun i m=>m.length≤i*r3f l)
  (fun a _=>by rw[s2w];simp only[u74,u0b,Am,Ah,Aa])
  (fun i hi m hm=> ?_) [] (by simp)
 rw[u55] at hi
 have hx:(u11 u)[i]'(by rw[u55];exact hi)=(u[i] :Int):=by simp[u11]
 have hk:u[i] <l.length:=hin _ (Ag hi)
 obtain⟨p1,p2,p3⟩:=o8v hl hu hi hm hk
 have hrr:=hr _ (Ag hk)
 have inner:u5o (l,q7w l,m,l[u[i]],u11 u,((u11 u).length:Int),(i:Int),l[u[i]].2.2.2.2.1,(l[u[i]].2.2.2.2.1.length:Int),0)=some (bif q4y (q7w l) m l[u[i]] then .inr false else .inl (l,q7w l,m,l[u[i]],u11 u,((u11 u).length:Int),(i:Int))):=
  s49 u5o l[u[i]].2.2.2.2.1 (fun j=>(l,q7w l,m,l[u[i]],u11 u,((u11 u).length:Int),(i:Int),l[u[i]].2.2.2.2.1,(l[u[i]].2.2.2.2.1.length:Int),j)) (fun r=> !decide (s6r m r=t5y (q7w l) r l[u[i]].2.2.1)) (.inr false) (.inl (l,q7w l,m,l[u[i]],u11 u,((u11 u).length:Int),(i:Int)))
   (by rw[s2x];simp only[u75,u0b,Am,Ah,Aa])
   (fun j hj=>by
    have hvl:(s6r m l[u[i]].2.2.2.2.1[j]).length≤1099511627776:=A9 (Cs _ _) (by omega)
    rw[s2x]
    simp only[u75,u0b,hj,Ae,Ad,y7t hj,zTn,y8k (t:=t3b) hj,p2m m _ (show m.length≤1099511627775 by omega),r2i (q7w l) _ _ (show(q7w l).length≤500000000000 by omega),zOb,q70 _ _ hvl]
    rw[y7l (by omega)])
 have hg:y4q (i:Int) (u11 u).length=true:=by rw[u55];exact y7t hi
 have hlt:decide ((i:Int)<((u11 u).length:Int))=true:=by rw[u55];simpa using hi
 have hrd:rdL (Ty.int .i64) (u11 u) i=(u[i] :Int):=by
  rw[y8k (t:=Ty.int .i64) (by rw[u55];exact hi)]
  exact hx
 have hstep:u2t (l,q7w l,m,u11 u,((u11 u).length:Int),(i:Int))=bif q4y (q7w l) m l[u[i]] then some (.inr false) else u2t (l,q7w l,u6w m l[u[i]].2.2.2.2.2.1,u11 u,((u11 u).length:Int),((i+1:Nat):Int)):=by
  rw[s2w]
  simp only[u74,hlt,Ad,hg,zTn,hrd,y7t hk,y8k (t:=u0q) hk,inner,zOb]
  cases q4y (q7w l) m l[u[i]] with
  | true=>rfl
  | false=>
   simp only[Aa,q9b m l[u[i]] p2,zOb]
   rw[y7l (by omega)]
 unfold j1d
 simp only[hx,zTn,y8k (t:=u0q) hk]
 rw[hstep]
 cases q4y (q7w l) m l[u[i]] with
 | true=>rfl
 | false=>exact⟨p3,rfl⟩
include hw
theorem p0n:t3f l=some (j97 l):=by
 rw[q6o];unfold s7b
 simp only[r3l hw (show l.length≤1048576 by omega),zOb]
 unfold j97
 cases ho:o33 l with
 | none=>rfl
 | some u=>
  obtain⟨g1,g2,_,_⟩:=s0q ho
  simp only[j06,Ap,Aa,p9k hl,zOb,j1e hl hr g1 g2]
  cases o39 l u<;>rfl
end
end
section
abbrev Src:=Hu Int×Int×Int
def Src.ok (s:Src):Prop:=s.1.length≤1048576∧0≤s.2.1∧s.2.1≤(s.1.length:Int)
def Dr {T:Type} (F:Ht (T×Src)) (p:T→Prop):Prop:= ∃y s,F=some (y,s)∧s.ok∧p y
theorem o6w (v:BitVec IntKind.i64.bits):0≤IntKind.i64.wrap ((v&&&BitVec.ofInt IntKind.i64.bits 255).toNat:Int)∧IntKind.i64.wrap ((v&&&BitVec.ofInt IntKind.i64.bits 255).toNat:Int)<256:=by
 have h:(v&&&BitVec.ofInt IntKind.i64.bits 255).toNat≤255:=by
  rw[BitVec.toNat_and]
  exact A9 Nat.and_le_right (by decide)
 rw[y4y (by omega) (by omega)]
 omega
theorem p18 {s:Src} (h:s.ok):Dr (u8p s) (fun y=>0≤y∧y<256):=by
 obtain⟨l,p,z⟩:=s
 obtain⟨h1,h2,h3⟩:=h
 simp only at h1 h2 h3
 rw[p61];unfold q2k
 simp only
 by_cases hp:p<(l.length:Int)
 ·have hg:y4q p l.length=true:=by simp[y4q,h2,hp]
  simp only[hp,Ae,Ad,hg]
  exact⟨_,_,rfl,⟨h1,by simp only;rw[y4y (by omega) (by omega)];omega,by simp only;rw[y4y (by omega) (by omega)];omega⟩,o6w _⟩
 ·simp only[hp,Ah,Aa]
  exact⟨_,_,rfl,⟨h1,h2,h3⟩,o6w _⟩
theorem o7m {a n:Int} (ha:0≤a) (hn:0<n):0≤Int.tmod a n∧Int.tmod a n<n:=⟨Int.tmod_nonneg _ ha,Int.tmod_lt_of_pos _ hn⟩
theorem r2e {s:Src} (h:s.ok) {n:Int} (hn:0<n):Dr (u2w (s,n)) (fun y=>0≤y∧y<n):=by
 rw[p30];unfold r8d
 have h0:decide (n≤0)=false:=by simp;omega
 have h0' :(!decide (n=0))=true:=by simp;omega
 simp only[h0,Aa,h0',Ad]
 by_cases h1:n≤256
 ·simp only[h1,Ae,Ad]
  obtain⟨y,s1,e1,k1,r1⟩:=p18 h
  simp only[e1,zOb]
  exact⟨_,_,rfl,k1,o7m r1.1 hn⟩
 ·simp only[h1,Ah,Aa]
  obtain⟨y1,s1,e1,k1,r1⟩:=p18 h
  obtain⟨y2,s2,e2,k2,r2⟩:=p18 k1
  obtain⟨y3,s3,e3,k3,r3⟩:=p18 k2
  obtain⟨y4,s4,e4,k4,r4⟩:=p18 k3
  simp only[e1,e2,e3,e4,zOb]
  refine⟨_,_,rfl,k4,o7m ?_ hn⟩
  rw[y4y (n:=y1*16777216) (by omega) (by omega),y4y (n:=y2*65536) (by omega) (by omega),y4y (n:=y3*256) (by omega) (by omega),y4y (n:=y1*16777216+y2*65536) (by omega) (by omega),
   y4y (n:=y1*16777216+y2*65536+y3*256) (by omega) (by omega),y4y (n:=y1*16777216+y2*65536+y3*256+y4) (by omega) (by omega)]
  omega
theorem j5q {s:Src} (h:s.ok) {n:Int} (hn:0<n):Dr (s12 (s,n)) (fun _=>True):=by
 rw[p63];unfold q2m
 obtain⟨y,s1,e1,k1,r1⟩:=r2e h hn
 simp only[e1,zOb]
 exact⟨_,_,rfl,k1,trivial⟩
theorem p9d {s:Src} (h:s.ok) {l:Hu Hs} (hl:0<l.length):Dr (u1x (s,l)) (fun y=>y∈l):=by
 rw[p64];unfold q2n
 obtain⟨y,s1,e1,k1,r1⟩:=r2e h (n:=(l.length:Int)) (by omega)
 obtain⟨i,rfl⟩:∃i:Nat,y=(i:Int):=⟨y.toNat,by omega⟩
 have hi:i<l.length:=by omega
 simp only[e1,zOb,y7t hi,Ad,zTn]
 exact⟨_,_,rfl,k1,by show rdL Ty.str l i∈l;have h:rdL Ty.str l i=l[i] :=y8k (t:=Ty.str) (l:=l) hi;rw[h];exact Ag hi⟩
theorem j7x {l:Hu Int} (hl:l.length≤1048576):∃s:Src,r3a l=some s∧s.ok:=by
 have key:∀(d i:Nat) (z:Int),i≤l.length→l.length - i≤d→ ∃z',t3y (l,z,(i:Int))=some (.inl (l,z')):=by
  intro d
  induction d with
  | zero=>
   intro i z hi hd
   have:i=l.length:=by omega
   subst this
   rw[s60]
   simp only[t3p,u0b,Am,Ah,Aa,zOb]
   exact⟨_,rfl⟩
  | succ d ih=>
   intro i z hi hd
   by_cases h:i<l.length
   ·rw[s60]
    simp only[t3p,u0b,h,Ae,Ad,zOb,y7t h]
    rw[y7l (by omega)]
    cases decide ((i:Int)<4000) with
    | false=>exact⟨_,rfl⟩
    | true=>exact ih (i+1) _ (by omega) (by omega)
   ·have:i=l.length:=by omega
    subst this
    rw[s60]
    simp only[t3p,u0b,Am,Ah,Aa,zOb]
    exact⟨_,rfl⟩
 obtain⟨z',hz⟩:=key l.length 0 (IntKind.i64.wrap (77601+(l.length:Int))) (Cn _) (by omega)
 rw[o0r];unfold q57
 have hz' :t3y (l,IntKind.i64.wrap (77601+(l.length:Int)),0)=_:=hz
 simp only[hz',zOb]
 exact⟨_,rfl,hl,Bv _,by simp only;omega⟩
def o1s (l:Hu u2i.den) (w:u2i.den):Hu u2i.den:=l.filter (fun x=>y3c x.1 w.1)++ [w] ++l.filter (fun x=> !(y3c x.1 w.1 || z7o x.1 w.1))
theorem p9e (l:Hu u2i.den) (w:u2i.den) (hl:l.length≤1048576):s6e (l,w)=some (o1s l w):=by
 have L1:=s19 t5f l (fun a i=>(l,w,a,i)) (fun x=>y3c x.1 w.1) (fun x=>x) (fun a=> .inl (l,w,a)) (by omega) (fun a ha=>by
  rw[r1t];simp only[t4t,u0b,Am,Ah,Aa]) (fun i hi a ha=>by
  have hc:Nat.ble (a.length+([l[i]] :Hu u2i.den).length) z7w=true:=by
   rw[Nat.ble_eq];simp only[Bc,Cc,z7w];omega
  rw[r1t];simp only[t4t,u0b,hi,Ae,Ad,y7t hi,zTn,y8k hi]
  rw[y7l (by omega),hc]
  rfl)
 simp only[Er] at L1
 have L2:=u8w t5g l (fun a i=>(l,w,a,i)) (fun(a:Hu u2i.den) x=>if y3c x.1 w.1 || z7o x.1 w.1 then a else a++ [x]) (fun a=> .inl a) (fun i a=>a.length≤1048577+i) (fun a ha=>by
  rw[r1u];simp only[t4u,u0b,Am,Ah,Aa]) (fun i hi a ha=>by
  have hc:Nat.ble (a.length+([l[i]] :Hu u2i.den).length) z7w=true:=by
   rw[Nat.ble_eq];simp only[Bc,Cc,z7w];omega
  rw[r1u];simp only[t4u,u0b,hi,Ae,Ad,y7t hi,zTn,y8k hi]
  rw[y7l (by omega),hc]
  cases hq:y3c l[i].1 w.1 || z7o l[i].1 w.1 with
  | true=>simp only[Ap,Aa,Bl];refine⟨by omega,?_⟩;trivial
  | false=>simp only[Bh,Ad,Br,Bk];refine⟨by simp;omega,?_⟩;trivial)
 have key:∀(l:Hu u2i.den) (a:Hu u2i.den),l.foldl (fun(a:Hu u2i.den) x=>if y3c x.1 w.1 || z7o x.1 w.1 then a else a++ [x]) a=a++l.filter (fun x=> !(y3c x.1 w.1 || z7o x.1 w.1)):=by
  intro l
  induction l with
  | nil=>intro a;simp
  | cons x l ih=>
   intro a
   simp only[Bs,ih,Di]
   cases hq:y3c x.1 w.1 || z7o x.1 w.1<;>simp
 have hlen:(l.filter (fun x=>y3c x.1 w.1)).length≤l.length:=Cs _ _
 have L2' :=L2 (l.filter (fun x=>y3c x.1 w.1)++ [w]) (by simp;omega)
 rw[key] at L2'
 have hc:Nat.ble ((l.filter (fun x=>y3c x.1 w.1)).length+([w] :Hu u2i.den).length) z7w=true:=by
  rw[Nat.ble_eq];simp only[Bc,Cc,z7w];omega
 rw[p3p];unfold r70
 simp only[L1,zOb]
 rw[hc]
 simp only[Ad,L2',zOb]
 rfl
theorem o7c {l:Hu u2i.den} {w x:u2i.den} (h:x∈o1s l w):x∈l∨x=w:=by
 unfold o1s at h
 simp only[Bi,Ay,A6,A8,Ep,Em] at h
 rcases h with h | h | h
 ·exact .inl h.1
 ·exact .inr h
 ·exact .inl h.1
theorem j3y (l:Hu u2i.den) (w:u2i.den):(o1s l w).length≤l.length+1:=by
 have:∀l:Hu u2i.den,(l.filter (fun x=>y3c x.1 w.1)).length+(l.filter (fun x=> !(y3c x.1 w.1 || z7o x.1 w.1))).length≤l.length:=by
  intro l
  induction l with
  | nil=>simp
  | cons x l ih=>
   simp only[Di]
   cases y3c x.1 w.1<;>cases z7o x.1 w.1<;>simp only[Ew,Fp,Ap,Bh,Bl,Bk,Br,Bc] <;>omega
 unfold o1s
 have:=this l
 simp only[Ba,Bc,Cc]
 omega
def KD (l:Hu u2i.den):Prop:=l.Pairwise fun a b=>a.1≠b.1
def d1w (t:u0q.den):Prop:=t.2.2.2.2.1.length≤3∧(∀r∈t.2.2.2.2.1,r.1.size≤2∧r.2.size≤2)∧t.2.2.2.2.2.1.length≤3∧(∀r∈t.2.2.2.2.2.1,r.1.size≤2∧r.2.1.size≤3)∧t.2.2.2.2.2.2.2.size≤16
def tId (t:u0q.den):Int:=t.1
def tSt (t:u0q.den):Int:=t.2.1
def o6b (t:u0q.den):Int:=t.2.2.1
def tCs (t:u0q.den):Int:=t.2.2.2.1
def j8b (t:u0q.den):Prop:=tSt t=3∧o6b t<tCs t∧KD t.2.2.2.2.2.1
def j4z (l:Hu u0q.den):Prop:=(∀t∈l,j8b t)∧l.Pairwise fun a b=>tId a≠tId b∧tCs a<tCs b
end
section
def PAsc (m:Hu PrT):Prop:=m.Pairwise fun a b=>y3c a.1 b.1=true
theorem PAsc.ext:∀ {l m:Hu PrT},PAsc l→PAsc m→(∀x,x∈l↔x∈m)→l=m
 | [], [],_,_,_=>rfl
 | [],y::m,_,_,h=>by have:=(h y).mpr (by simp);simp at this
 | x::l, [],_,_,h=>by have:=(h x).mp (by simp);simp at this
 | x::l,y::m,hl,hm,h=>by
  have hl' :=Ch.mp hl
  have hm' :=Ch.mp hm
  have hxy:x=y:=by
   rcases A8.mp ((h x).mp (by simp)) with e | e
   ·exact e
   ·rcases A8.mp ((h y).mpr (by simp)) with e' | e'
    ·exact e'.symm
    ·have:=r9t (hm'.1 x e) (hl'.1 y e')
     rw[u7r] at this;cases this
  subst hxy
  congr 1
  refine PAsc.ext hl'.2 hm'.2 fun z=> ?_
  constructor
  ·intro hz
   rcases A8.mp ((h z).mp (by simp[hz])) with e | e
   ·subst e;have:=hl'.1 z hz;rw[u7r] at this;cases this
   ·exact e
  ·intro hz
   rcases A8.mp ((h z).mpr (by simp[hz])) with e | e
   ·subst e;have:=hm'.1 z hz;rw[u7r] at this;cases this
   ·exact e
theorem j3v {m:Hu PrT} (h:PAsc m) (w:u2i.den):PAsc (p8j m w):=by
 unfold PAsc p8j at*
 rw[Bi,Cg]
 refine⟨h.filter _,?_,fun a ha b hb=> ?_⟩
 ·rw[Cg]
  refine⟨by split<;>simp,h.filter _,fun a ha b hb=> ?_⟩
  have hb:=(A6.mp hb).2
  rw[q96] at hb
  split at ha
  ·cases ha
  ·simp only[Ax] at ha
   subst ha
   exact hb
 ·have ha:=(A6.mp ha).2
  rcases Ay.mp hb with hb | hb
  ·split at hb
   ·cases hb
   ·simp only[Ax] at hb
    subst hb
    exact ha
  ·have hb:=(A6.mp hb).2
   rw[q96] at hb
   exact r9t ha hb
theorem j3j {m:Hu PrT} {w:u2i.den} {k v:Hs} :(k,v)∈p8j m w↔(k≠w.1∧(k,v)∈m)∨(k=w.1∧w.2.2=false∧v=w.2.1):=by
 unfold p8j
 simp only[Bi,Ay,A6,q96]
 constructor
 ·rintro(⟨h1,h2⟩ | h | ⟨h1,h2⟩)
  ·exact .inl ⟨(fun e=>by subst e;rw[u7r] at h2;cases h2),h1⟩
  ·split at h
   ·cases h
   ·rename_i hg
    simp only[Ax,Ak] at h
    exact .inr ⟨h.1,by simpa using hg,h.2⟩
  ·exact .inl ⟨(fun e=>by subst e;rw[u7r] at h2;cases h2),h1⟩
 ·rintro(⟨h1,h2⟩ | ⟨h1,h2,h3⟩)
  ·rcases q4z k w.1 with e | e | e
   ·exact .inl ⟨h2,e⟩
   ·exact absurd e h1
   ·exact .inr (.inr ⟨h2,e⟩)
  ·refine .inr (.inl ?_)
   rw[h2]
   simp[h1,h3]
theorem p4s:∀(ws:Hu u2i.den) {m:Hu PrT},PAsc m→PAsc (u6w m ws)
 | [],_,h=>h
 | w::ws,_,h=>p4s ws (j3v h w)
theorem q4q {k v:Hs} :∀(ws:Hu u2i.den) (m:Hu PrT),KD ws→((k,v)∈u6w m ws↔(∃w∈ws,w.1=k∧w.2.2=false∧w.2.1=v)∨((∀w∈ws,w.1≠k)∧(k,v)∈m))
 | [],m,_=>by simp[u6w]
 | w::ws,m,h=>by
  have h' :=Ch.mp h
  have ih:=q4q (k:=k) (v:=v) ws (p8j m w) h'.2
  have e:u6w m (w::ws)=u6w (p8j m w) ws:=rfl
  rw[e,ih,j3j]
  constructor
  ·rintro(⟨x,hx,q⟩ | ⟨h1,h2 | h2⟩)
   ·exact .inl ⟨x,Bm _ hx,q⟩
   ·refine .inr ⟨fun x hx=> ?_,h2.2⟩
    rcases A8.mp hx with rfl | hx
    ·exact fun e=>h2.1 e.symm
    ·exact h1 x hx
   ·exact .inl ⟨w,C9 ..,h2.1.symm,h2.2.1,h2.2.2.symm⟩
  ·rintro(⟨x,hx,q⟩ | ⟨h1,h2⟩)
   ·rcases A8.mp hx with rfl | hx
    ·exact .inr ⟨fun y hy e=>h'.1 y hy (q.1.trans e.symm), .inr ⟨q.1.symm,q.2.1,q.2.2.symm⟩⟩
    ·exact .inl ⟨x,hx,q⟩
   ·exact .inr ⟨fun y hy=>h1 y (Bm _ hy), .inl ⟨fun e=>h1 w (C9 ..) e.symm,h2⟩⟩
def wrs (t:u0q.den) (k:Hs):Prop:= ∃w∈t.2.2.2.2.2.1,w.1=k
def s24 (P:Hu u0q.den):Hu PrT:=P.foldl (fun m t=>u6w m t.2.2.2.2.2.1) []
theorem q0t (P:Hu u0q.den) (t:u0q.den):s24 (P++ [t])=u6w (s24 P) t.2.2.2.2.2.1:=by simp[s24]
theorem p4r (P:Hu u0q.den):PAsc (s24 P):=by
 unfold s24
 have:∀(P:Hu u0q.den) (m:Hu PrT),PAsc m→PAsc (P.foldl (fun m t=>u6w m t.2.2.2.2.2.1) m):=by
  intro P
  induction P with
  | nil=>intro m h;exact h
  | cons t P ih=>intro m h;exact ih _ (p4s _ h)
 exact this P [] List.Pairwise.nil
def p4l (P:Hu u0q.den) (k v:Hs) (lim:Int→Prop):Prop:=
 ∃t∈P,lim (tCs t)∧(∃w∈t.2.2.2.2.2.1,w.1=k∧w.2.2=false∧w.2.1=v)∧ ∀x∈P,lim (tCs x)→wrs x k→tCs x≤tCs t
theorem j02 {k v:Hs} :∀(n:Nat) (P:Hu u0q.den),P.length=n→(∀t∈P,KD t.2.2.2.2.2.1)→P.Pairwise (fun a b=> ∀k,wrs a k→wrs b k→tCs a<tCs b)→((k,v)∈s24 P↔p4l P k v (fun _=>True)):=by
 intro n
 induction n with
 | zero=>
  intro P hn _ _
  have:P= [] :=List.eq_nil_of_length_eq_zero hn
  subst this
  simp[s24,p4l]
 | succ n ih=>
  intro P hn hkd hp
  have hne:P≠ [] :=fun e=>by rw[e] at hn;cases hn
  obtain⟨Q,t,rfl⟩:∃Q t,P=Q++ [t] :=⟨P.dropLast,P.getLast hne,(List.dropLast_concat_getLast hne).symm⟩
  have hQ:=ih Q (by simpa using hn) (fun x hx=>hkd x (by simp[hx])) (Cg.mp hp).1
  have hlt:∀x∈Q,∀k,wrs x k→wrs t k→tCs x<tCs t:=fun x hx=>(Cg.mp hp).2.2 x hx t (by simp)
  rw[q0t,q4q _ _ (hkd t (by simp)),hQ]
  unfold p4l
  constructor
  ·rintro(⟨w,hw,q⟩ | ⟨h1,x,hx,_,q,h3⟩)
   ·refine⟨t,by simp,trivial,⟨w,hw,q⟩,fun x hx _ hk=> ?_⟩
    rcases Ay.mp hx with hx | hx
    ·have:=hlt x hx k hk ⟨w,hw,q.1⟩
     omega
    ·simp only[Ax] at hx
     subst hx;exact Bv _
   ·refine⟨x,by simp[hx],trivial,q,fun y hy _ hk=> ?_⟩
    rcases Ay.mp hy with hy | hy
    ·exact h3 y hy trivial hk
    ·simp only[Ax] at hy
     subst hy
     obtain⟨w,hw,e⟩:=hk
     exact absurd e (h1 w hw)
  ·rintro⟨x,hx,_,q,h3⟩
   by_cases hk:wrs t k
   ·rcases Ay.mp hx with hx | hx
    ·obtain⟨w,hw,e,_⟩:=q
     have h4:=hlt x hx k ⟨w,hw,e⟩ hk
     have h5:=h3 t (by simp) trivial hk
     omega
    ·simp only[Ax] at hx
     subst hx
     exact .inl q
   ·rcases Ay.mp hx with hx | hx
    ·exact .inr ⟨fun w hw e=>hk ⟨w,hw,e⟩,x,hx,trivial,q,fun y hy _ hyk=>h3 y (by simp[hy]) trivial hyk⟩
    ·simp only[Ax] at hx
     subst hx
     exact .inl q
theorem j3k {l:Hu u2b} {v x:u2b} :x∈o7b l v↔x=v∨x∈l:=by
 unfold o7b
 conv=>rhs;rw[←Fe (p:=u8u v) (l:=l)]
 simp only[Ay,Ax]
 constructor
 ·rintro((h | h) | h)
  ·exact .inr (.inl h)
  ·exact .inl h
  ·exact .inr (.inr h)
 ·rintro(h | h | h)
  ·exact .inl (.inr h)
  ·exact .inl (.inl h)
  ·exact .inr h
theorem u7h {x:u2b} :∀(ws:Hu u2i.den) (l:Hu u2b) (cs:Int),x∈t5k l ws cs↔x∈l∨ ∃w∈ws,x=(w.1,w.2.1,w.2.2,cs)
 | [],l,cs=>by simp[t5k]
 | w::ws,l,cs=>by
  have e:t5k l (w::ws) cs=t5k (o7b l (w.1,w.2.1,w.2.2,cs)) ws cs:=rfl
  rw[e,u7h ws,j3k]
  constructor
  ·rintro((h | h) | ⟨y,hy,h⟩)
   ·exact .inr ⟨w,by simp,h⟩
   ·exact .inl h
   ·exact .inr ⟨y,by simp[hy],h⟩
  ·rintro(h | ⟨y,hy,h⟩)
   ·exact .inl (.inr h)
   ·rcases A8.mp hy with rfl | hy
    ·exact .inl (.inl h)
    ·exact .inr ⟨y,hy,h⟩
theorem q0r {x:u2b} (l:Hu u0q.den):x∈q7w l↔ ∃t∈l,∃w∈t.2.2.2.2.2.1,x=(w.1,w.2.1,w.2.2,tCs t):=by
 have:∀(l:Hu u0q.den) (a:Hu u2b),x∈l.foldl p5f a↔x∈a∨ ∃t∈l,∃w∈t.2.2.2.2.2.1,x=(w.1,w.2.1,w.2.2,tCs t):=by
  intro l
  induction l with
  | nil=>intro a;simp
  | cons t l ih=>
   intro a
   rw[Bs,ih]
   unfold p5f
   rw[u7h]
   constructor
   ·rintro((h | ⟨w,hw,h⟩) | ⟨y,hy,h⟩)
    ·exact .inl h
    ·exact .inr ⟨t,by simp,w,hw,h⟩
    ·exact .inr ⟨y,by simp[hy],h⟩
   ·rintro(h | ⟨y,hy,h⟩)
    ·exact .inl (.inl h)
    ·rcases A8.mp hy with rfl | hy
     ·exact .inl (.inr h)
     ·exact .inr ⟨y,hy,h⟩
 unfold q7w
 rw[this]
 simp
def vCs (x:u2b):Int:=x.2.2.2
theorem q73 (l:Hu u2b) (k:Hs) (snap:Int):∀n,n≤l.length→
 (q6f l k snap n<0→ ∀(i:Nat) (h:i<l.length),i<n→ ¬(l[i].1=k∧vCs l[i] ≤snap))∧
 (∀a:Nat,q6f l k snap n=(a:Int)→ ∃h:a<l.length,l[a].1=k∧vCs l[a] ≤snap∧ ∀(i:Nat) (h:i<l.length),i<n→l[i].1=k→vCs l[i] ≤snap→vCs l[i] ≤vCs l[a])
 | 0,_=>⟨fun _ i _ h=>absurd h (Ee i),fun a e=>by simp only[q6f] at e;omega⟩
 | n+1,hn=>by
  obtain⟨h1,h2⟩:=q73 l k snap n (by omega)
  have hlt:n<l.length:=by omega
  have hr:=q6g l k snap n
  simp only[q6f,o2r,y8k (t:=u0d) hlt]
  by_cases hc:z7o l[n].1 k=true∧l[n].2.2.2≤snap∧(q6f l k snap n<0∨l[n].2.2.2 >(rdL u0d l (q6f l k snap n).toNat).2.2.2)
  ·rw[Al hc]
   obtain⟨c1,c2,c3⟩:=hc
   have c1:l[n].1=k:=y7f.mp c1
   refine⟨fun h=>by omega,fun a e=> ?_⟩
   have e:n=a:=by omega
   subst e
   refine⟨hlt,c1,c2,fun i hi hin hk hs=> ?_⟩
   by_cases q:i=n
   ·subst q;exact Bv _
   ·rcases Int.lt_or_le (q6f l k snap n) 0 with z | z
    ·exact absurd ⟨hk,hs⟩ (h1 z i hi (by omega))
    ·obtain⟨b,hb⟩:∃b:Nat,q6f l k snap n=(b:Int):=⟨(q6f l k snap n).toNat,by omega⟩
     obtain⟨hbl,_,_,g3⟩:=h2 b hb
     rcases c3 with c3 | c3
     ·omega
     ·rw[hb,zTn,y8k (t:=u0d) hbl] at c3
      have h5:=g3 i hi (by omega) hk hs
      have c3:vCs l[n] >vCs l[b] :=c3
      omega
  ·rw[Ao hc]
   have hc' :l[n].1=k→vCs l[n] ≤snap→ ∃b:Nat,q6f l k snap n=(b:Int)∧ ∃h:b<l.length,vCs l[n] ≤vCs l[b] :=fun c1 c2=>by
    rcases Int.lt_or_le (q6f l k snap n) 0 with z | z
    ·exact absurd ⟨y7f.mpr c1,c2, .inl z⟩ hc
    ·obtain⟨b,hb⟩:∃b:Nat,q6f l k snap n=(b:Int):=⟨(q6f l k snap n).toNat,by omega⟩
     obtain⟨hbl,_⟩:=h2 b hb
     refine⟨b,hb,hbl,Hk.mp fun z2=>hc ⟨y7f.mpr c1,c2, .inr ?_⟩⟩
     rw[hb,zTn,y8k (t:=u0d) hbl]
     exact z2
   refine⟨fun h i hi hin=> ?_,fun a e=> ?_⟩
   ·by_cases q:i=n
    ·subst q
     rintro⟨z1,z2⟩
     obtain⟨b,hb,_⟩:=hc' z1 z2
     omega
    ·exact h1 h i hi (by omega)
   ·obtain⟨ha,g1,g2,g3⟩:=h2 a e
    refine⟨ha,g1,g2,fun i hi hin hk hs=> ?_⟩
    by_cases q:i=n
    ·subst q
     obtain⟨b,hb,hbl,g4⟩:=hc' hk hs
     have e:b=a:=by omega
     subst e
     exact g4
    ·exact g3 i hi (by omega) hk hs
theorem o7i (l:Hu u2b) (k v:Hs) (snap:Int) (hu:∀x∈l,∀y∈l,x.1=y.1→vCs x=vCs y→x=y):
 ((s6n l k snap).2=true∧(s6n l k snap).1=v)↔ ∃x∈l,x.1=k∧vCs x≤snap∧x.2.2.1=false∧x.2.1=v∧ ∀y∈l,y.1=k→vCs y≤snap→vCs y≤vCs x:=by
 obtain⟨h1,h2⟩:=q73 l k snap l.length (Au _)
 have hr:=q0p l k snap
 unfold s6n
 rcases Int.lt_or_le (t14 l k snap) 0 with z | z
 ·rw[Al (.inl z)]
  constructor
  ·rintro⟨h,_⟩;cases h
  ·rintro⟨x,hx,q1,q2,_⟩
   obtain⟨i,hi,rfl⟩:=B7 hx
   exact absurd ⟨q1,q2⟩ (h1 z i hi hi)
 ·obtain⟨b,hb⟩:∃b:Nat,t14 l k snap=(b:Int):=⟨(t14 l k snap).toNat,by omega⟩
  obtain⟨hbl,g1,g2,g3⟩:=h2 b hb
  rw[hb,zTn,y8k (t:=u0d) hbl]
  have hmax:∀y∈l,y.1=k→vCs y≤snap→vCs y≤vCs l[b] :=fun y hy q1 q2=>by
   obtain⟨i,hi,rfl⟩:=B7 hy
   exact g3 i hi hi q1 q2
  have hnn: ¬((b:Int)<0):=by omega
  cases hg:l[b].2.2.1 with
  | true=>
   rw[Al (.inr rfl)]
   constructor
   ·rintro⟨h,_⟩;cases h
   ·rintro⟨x,hx,q1,q2,q3,_,q5⟩
    have m1:=hmax x hx q1 q2
    have m2:=q5 l[b] (Ag hbl) g1 g2
    have e:=hu x hx l[b] (Ag hbl) (q1.trans g1.symm) (by omega)
    rw[e,hg] at q3
    cases q3
  | false=>
   rw[Ao (by simp)]
   constructor
   ·rintro⟨_,h⟩
    exact⟨l[b],Ag hbl,g1,g2,hg,h,hmax⟩
   ·rintro⟨x,hx,q1,q2,q3,q4,q5⟩
    have m1:=hmax x hx q1 q2
    have m2:=q5 l[b] (Ag hbl) g1 g2
    have e:=hu x hx l[b] (Ag hbl) (q1.trans g1.symm) (by omega)
    rw[e] at q4
    exact⟨rfl,q4⟩
theorem q7e (l:Hu u2b) (r:PrT) (snap:Int):PAsc (t5y l r snap):=by
 unfold PAsc t5y
 rw[Dl]
 exact((q0n _).1).filter _
theorem q0q (l:Hu u2b) (r:PrT) (snap:Int) (k v:Hs) (hu:∀x∈l,∀y∈l,x.1=y.1→vCs x=vCs y→x=y):
 (k,v)∈t5y l r snap↔inR r k=true∧ ∃x∈l,x.1=k∧vCs x≤snap∧x.2.2.1=false∧x.2.1=v∧ ∀y∈l,y.1=k→vCs y≤snap→vCs y≤vCs x:=by
 unfold t5y
 simp only[Bx,A6,Ai,Ak]
 constructor
 ·rintro⟨k',⟨_,h2,h3⟩,rfl,h5⟩
  exact⟨h3,(o7i l k' v snap hu).mp ⟨h2,h5⟩⟩
 ·rintro⟨h1,h2⟩
  obtain⟨q1,q2⟩:=(o7i l k v snap hu).mpr h2
  obtain⟨x,hx,e,_⟩:=h2
  exact⟨k,⟨((q0n _).2 k).mpr (Bx.mpr ⟨x,hx,e⟩),q1,h1⟩,rfl,q2⟩
theorem o1m {m:Hu PrT} (h:PAsc m) (r:PrT):PAsc (s6r m r):=Dz _ h
theorem j82 {l:Hu u0q.den} (hk:∀t∈l,KD t.2.2.2.2.2.1) (hc:∀a∈l,∀b∈l,tCs a=tCs b→a=b):∀x∈q7w l,∀y∈q7w l,x.1=y.1→vCs x=vCs y→x=y:=by
 intro x hx y hy e1 e2
 obtain⟨a,ha,w,hw,rfl⟩:=(q0r l).mp hx
 obtain⟨b,hb,z,hz,rfl⟩:=(q0r l).mp hy
 have:=hc a ha b hb e2
 subst this
 have:w=z:=by
  apply Ed
  intro hne
  have hp:∀(ws:Hu u2i.den),KD ws→ ∀w∈ws,∀z∈ws,w≠z→w.1≠z.1:=by
   intro ws
   induction ws with
   | nil=>intro _ w hw;cases hw
   | cons c ws ih=>
    intro h w hw z hz hne
    have h' :=Ch.mp h
    rcases A8.mp hw with rfl | hw<;>rcases A8.mp hz with rfl | hz
    ·exact absurd rfl hne
    ·exact h'.1 z hz
    ·exact fun e=>h'.1 w (by assumption) e.symm
    ·exact ih h'.2 w (by assumption) z (by assumption) hne
  exact hp _ (hk a ha) w hw z hz hne e1
 subst this
 rfl
theorem o5x {l:Hu u0q.den} (hk:∀t∈l,KD t.2.2.2.2.2.1) (hc:∀a∈l,∀b∈l,tCs a=tCs b→a=b) (r:PrT) (snap:Int) (k v:Hs):
 (k,v)∈t5y (q7w l) r snap↔inR r k=true∧p4l l k v (fun c=>c≤snap):=by
 rw[q0q _ _ _ _ _ (j82 hk hc)]
 unfold p4l
 refine Fo fun _=> ?_
 constructor
 ·rintro⟨x,hx,q1,q2,q3,q4,q5⟩
  obtain⟨a,ha,w,hw,rfl⟩:=(q0r l).mp hx
  exact⟨a,ha,q2,⟨w,hw,q1,q3,q4⟩,fun b hb hl ⟨z,hz,ez⟩=>q5 (z.1,z.2.1,z.2.2,tCs b) ((q0r l).mpr ⟨b,hb,z,hz,rfl⟩) ez hl⟩
 ·rintro⟨a,ha,hl,⟨w,hw,q1,q3,q4⟩,q5⟩
  refine⟨(w.1,w.2.1,w.2.2,tCs a),(q0r l).mpr ⟨a,ha,w,hw,rfl⟩,q1,hl,q3,q4,fun y hy e1 e2=> ?_⟩
  obtain⟨b,hb,z,hz,rfl⟩:=(q0r l).mp hy
  exact q5 b hb e2 ⟨z,hz,e1⟩
end
section
theorem twl {E:Type} (p:E→Bool):∀(l:Hu E),(l.takeWhile p).length≤l.length∧(∀(i:Nat) (h:i<l.length),i<(l.takeWhile p).length→p l[i] =true)∧
 (∀(h:(l.takeWhile p).length<l.length),p l[(l.takeWhile p).length] =false)
 | [] =>⟨Au _,fun i h=>absurd h (Ee i),fun h=>absurd h (Ee _)⟩
 | x::l=>by
  obtain⟨h1,h2,h3⟩:=twl p l
  cases hp:p x with
  | false=>
   simp only[F8,hp,Br,Bk,Cc]
   exact⟨Cn _,fun i _ h=>absurd h (Ee i),fun _=>hp⟩
  | true=>
   simp only[F8,hp,Bl,Bc]
   refine⟨by omega,fun i h k=> ?_,fun h=> ?_⟩
   ·cases i with
    | zero=>exact hp
    | succ i=>simpa using h2 i (by simpa using h) (by omega)
   ·simpa using h3 (by omega)
def u0s {E:Type} (p:E→Bool) (l:Hu E):Nat:=(l.takeWhile fun x=> !p x).length
theorem t8x {E:Type} (p:E→Bool) (l:Hu E):u0s p l≤l.length:=(twl _ l).1
theorem t2b {E:Type} {p:E→Bool} {l:Hu E} {i:Nat} (h:i<l.length) (hi:i<u0s p l):p l[i] =false:=by
 have:=(twl (fun x=> !p x) l).2.1 i h hi
 simpa using this
theorem u8o {E:Type} {p:E→Bool} {l:Hu E} (h:u0s p l<l.length):p l[u0s p l] =true:=by
 unfold u0s at h ⊢
 have:=(twl (fun x=> !p x) l).2.2 h
 simpa using this
theorem p4a {E:Type} (p:E→Bool) (l:Hu E):decide (u0s p l<l.length)=l.any p:=by
 cases hc:l.any p with
 | true=>
  obtain⟨x,hx,hp⟩:=Cm.mp hc
  obtain⟨i,hi,rfl⟩:=B7 hx
  have: ¬i<u0s p l:=fun q=>by rw[t2b hi q] at hp;cases hp
  simp only[Ar]
  omega
 | false=>
  simp only[Bu]
  intro h
  have:=u8o h
  have:=Ct.mp hc _ (Ag h)
  contradiction
theorem Q.first {T:Ty} {c:Type} {q:T.den×c→Ht Bool} {p:T.den→Bool} {W:Hu T.den×c×Int×Int→Ht (Unit⊕Int)}
 (hW:∀x,W x=(bif (decide (x.2.2.2<x.2.2.1)) then(bif (y4q x.2.2.2 x.1.length) then((q ((rdL T x.1 (x.2.2.2).toNat),x.2.1)).bind fun(y1:Bool)=>(bif y1 then(some (.inr x.2.2.2)) else(W (x.1,(x.2.1,(x.2.2.1,(IntKind.i64.wrap (x.2.2.2+(1:Int))))))))) else none) else(some (.inl ()))))
 (l:Hu T.den) (k:c) (hl:l.length≤1099511627776) (hq:∀x∈l,q (x,k)=some (p x)):
 W (l,k,(l.length:Int),0)=some (if u0s p l<l.length then .inr ((u0s p l:Nat):Int) else .inl ()):=by
 have hle:=t8x p l
 have:=s9o W (u0s p l) (fun(_:Unit) i=>(l,k,(l.length:Int),i)) (fun _ _=>if u0s p l<l.length then .inr ((u0s p l:Nat):Int) else .inl ()) (fun _ _=>True)
  (fun a _=>by
   rw[hW]
   by_cases hk:u0s p l<l.length
   ·simp only[u0b,hk,Ae,Ad,y7t hk,zTn,y8k hk,hq _ (Ag hk),u8o hk,zOb,Bl]
   ·simp only[u0b,hk,Ah,Aa,Bk])
  (fun i a hi _=> .inr ⟨(),trivial,rfl,by
   have hil:i<l.length:=by omega
   rw[hW]
   simp only[u0b,hil,Ae,Ad,y7t hil,zTn,y8k hil,hq _ (Ag hil),t2b hil hi,zOb,Aa]
   rw[y7l (by omega)]⟩) 0 () (Cn _) trivial
 exact this
theorem Q.delete {T:Ty} {c R:Type} {q:T.den×c→Ht Bool} {p:T.den→Bool} {W:Hu T.den×c×Int×Int→Ht ((Hu T.den×Int)⊕R)}
 (hW:∀x,W x=(bif (decide (x.2.2.2<(x.1.length:Int))) then(bif (y4q x.2.2.2 x.1.length) then((q ((rdL T x.1 (x.2.2.2).toNat),x.2.1)).bind fun(y2:Bool)=>(bif (!y2) then(bif (y4q x.2.2.1 x.1.length) then(W ((x.1.set (x.2.2.1).toNat (rdL T x.1 (x.2.2.2).toNat)),(x.2.1,((IntKind.i64.wrap (x.2.2.1+(1:Int))),(IntKind.i64.wrap (x.2.2.2+(1:Int))))))) else none) else(W (x.1,(x.2.1,(x.2.2.1,(IntKind.i64.wrap (x.2.2.2+(1:Int))))))))) else none) else(some (.inl (x.1,x.2.2.1)))))
 (l:Hu T.den) (k:c) (hl:l.length≤1099511627776) (hq:∀x∈l,q (x,k)=some (p x)) (hf:u0s p l<l.length):
 ∃a:Hu T.den,W (l,k,((u0s p l:Nat):Int),((u0s p l+1:Nat):Int))=some (.inl (a,((l.filter fun x=> !p x).length:Int)))∧a.length=l.length∧a.take (l.filter fun x=> !p x).length=l.filter fun x=> !p x:=by
 have key:∀(d j:Nat) (a:Hu T.den),j+d=l.length→a.length=l.length→a.drop j=l.drop j→((l.take j).filter fun x=> !p x).length≤j→((l.take j).filter fun x=> !p x).length<l.length→a.take ((l.take j).filter fun x=> !p x).length=(l.take j).filter (fun x=> !p x)→
  ((l.take j).filter fun x=> !p x).length<j→
  ∃a' :Hu T.den,W (a,k,(((l.take j).filter fun x=> !p x).length:Int),(j:Int))=some (.inl (a',((l.filter fun x=> !p x).length:Int)))∧a'.length=l.length∧a'.take (l.filter fun x=> !p x).length=l.filter fun x=> !p x:=by
  intro d
  induction d with
  | zero=>
   intro j a hj ha h1 h2 h3 h4 h5
   have e:j=l.length:=by omega
   subst e
   rw[Cq] at h4 ⊢
   rw[hW]
   simp only[ha,u0b,Am,Ah,Aa]
   exact⟨a,rfl,ha,h4⟩
  | succ d ih=>
   intro j a hj ha h1 h2 h3 h4 h5
   have hjl:j<l.length:=by omega
   have hja:j<a.length:=by omega
   have haj:a[j] =l[j] :=by
    have e1:=Ce hja
    have e2:=Ce hjl
    rw[h1,e2] at e1
    injection e1 with e1 _
    exact e1.symm
   have hs:l.take (j+1)=l.take j++ [l[j]] :=B9 hjl
   have hd:a.drop (j+1)=l.drop (j+1):=by
    have:=Dj List.tail h1
    simpa using this
   rw[hW]
   simp only[u0b,hja,Ae,Ad,y7t hja,zTn,y8k hja,haj,hq _ (Ag hjl),zOb]
   rw[y7l (i:=j) (by omega)]
   cases hp:p l[j] with
   | true=>
    simp only[Ap,Aa]
    have e:(l.take (j+1)).filter (fun x=> !p x)=(l.take j).filter fun x=> !p x:=by rw[hs,Hl,Di];simp only[hp,Ap,Br,Bk,List.filter_nil,Bw]
    have:=ih (j+1) a (by omega) ha hd (by rw[e];omega) (by rw[e];exact h3) (by rw[e];exact h4) (by rw[e];omega)
    rwa [e] at this
   | false=>
    have e:(l.take (j+1)).filter (fun x=> !p x)=(l.take j).filter (fun x=> !p x)++ [l[j]] :=by rw[hs,Hl,Di];simp only[hp,Bh,Bl,List.filter_nil]
    have el:((l.take (j+1)).filter fun x=> !p x).length=((l.take j).filter fun x=> !p x).length+1:=by rw[e];simp
    have hia:((l.take j).filter fun x=> !p x).length<a.length:=by omega
    simp only[Bh,Ad,y7t hia]
    rw[y7l (i:=((l.take j).filter fun x=> !p x).length) (by omega)]
    have:=ih (j+1) (a.set ((l.take j).filter fun x=> !p x).length l[j]) (by omega) (by simpa using ha) (by
     rw[List.drop_set_of_lt (by omega)]
     exact hd) (by rw[el];omega) (by rw[el];omega) (by
     rw[el,B9 (by simpa using hia),e]
     congr 1
     ·rw[List.take_set_of_le (Au _)]
      exact h4
     ·simp) (by rw[el];omega)
    rwa [el] at this
 have hk:=t8x p l
 have e:(l.take (u0s p l+1)).filter (fun x=> !p x)=l.take (u0s p l):=by
  rw[B9 hf,Hl]
  have h1:(l.take (u0s p l)).filter (fun x=> !p x)=l.take (u0s p l):=by
   rw[F9]
   intro x hx
   obtain⟨i,hi,rfl⟩:=B7 hx
   have hi' :i<u0s p l:=by have:=hi;rw[Ec] at this;omega
   rw[Fc,t2b (by omega) hi']
   rfl
  rw[h1]
  simp[u8o hf]
 have el:((l.take (u0s p l+1)).filter fun x=> !p x).length=u0s p l:=by rw[e,Ec];omega
 have:=key (l.length - (u0s p l+1)) (u0s p l+1) l (by omega) rfl rfl (by rw[el];omega) (by rw[el];exact hf) (by rw[el,e]) (by rw[el];omega)
 rwa [el] at this
end
section
def p4q (x y:u0c):Bool:=decide (x.2.1=3)&&decide (x.2.2.2.1≤y.2.2.1)
def q25 (a b:u0c):Bool:= !decide (a.1=b.1)&&(!p4q a b&& !p4q b a)
def ahead (a b:u0c):Bool:=q25 a b&&t2m a.2.2.2.2.1 b.2.2.2.2.2.1
def r2s (t:u0c) (l:Hu u0c):Bool:=l.any fun x=>decide (x.2.1=3)&&ahead t x
theorem o44 (a b:u0c):r20 (a,b)=some (q25 a b):=by
 rw[o0d];unfold q5t q25 p4q
 by_cases h1:a.1=b.1
 ·simp[h1]
 ·by_cases h2:a.2.1=3<;>by_cases h3:a.2.2.2.1≤b.2.2.1<;>by_cases h4:b.2.1=3<;>by_cases h5:b.2.2.2.1≤a.2.2.1<;>simp[h1,h2,h3,h4,h5]
theorem o43 (a b:u0c):r2t (a,b)=some (q25 a b):=by
 rw[p9y];unfold q5d
 simp only[p22,r7e]
 unfold q25 p4q
 by_cases h1:a.1=b.1
 ·simp[h1]
 ·by_cases h2:a.2.1=3<;>by_cases h3:a.2.2.2.1≤b.2.2.1<;>by_cases h4:b.2.1=3<;>by_cases h5:b.2.2.2.1≤a.2.2.1<;>simp[h1,h2,h3,h4,h5]
theorem t4e (a b:u0c) (ha:a.2.2.2.2.1.length≤u0m) (hb:b.2.2.2.2.2.1.length≤u0m):u3d (a,b)=some (ahead a b):=by
 rw[o27];unfold q9o ahead
 have h1:=o44 a b
 have h2:=o2l _ _ ha hb
 simp only[h2,zOb]
 rw[h1]
 cases q25 a b<;>rfl
theorem p7r (a b:u0c) (ha:a.2.2.2.2.1.length≤u0m) (hb:b.2.2.2.2.2.1.length≤u0m):s73 (a,b)=some (ahead a b):=by
 rw[o2z];unfold q9h ahead
 have h1:=o43 a b
 have h2:=r66 _ _ ha hb
 simp only[h2,zOb]
 rw[h1]
 cases q25 a b<;>rfl
end
section
def r6x (t:u0c):Prop:=t.2.2.2.2.1.length≤1048576∧t.2.2.2.2.2.1.length≤1048576
def o0z (l:Hu u0c):Prop:=l.length≤4194304∧ ∀t∈l,r6x t
theorem s4o {n:Nat} (h:n≤1048576):n≤u0m:=by unfold u0m;omega
theorem q7z (t:u0c) (l:Hu u0c) (ht:r6x t) (hl:o0z l):s2q (t,l)=some (r2s t l):=by
 obtain⟨l1,l2⟩:=hl
 have L:=s49 s1n l (fun i=>(l,t,i)) (fun x=>decide (x.2.1=3)&&ahead t x) (.inr true) (.inl ())
  (by rw[q36];simp only[s1f,u0b,Am,Ah,Aa])
  (fun i hi=>by
   have h1:=t4e t l[i] (s4o ht.1) (s4o (l2 _ (Ag hi)).2)
   rw[q36]
   simp only[s1f,u0b,hi,Ae,Ad,y7t hi,zTn,y8k (t:=u0q) hi,h1,zOb]
   rw[y7l (by omega)]
   cases decide (l[i].2.1=3)<;>cases ahead t l[i] <;>rfl)
 rw[o3f];unfold q9v r2s
 simp only[L,zOb]
 cases l.any fun x=>decide (x.2.1=3)&&ahead t x<;>rfl
theorem p7y (t:u0c) (l:Hu u0c) (ht:r6x t) (hl:o0z l):s76 (t,l)=some (r2s t l):=by
 obtain⟨l1,l2⟩:=hl
 have hq:∀x∈l,s1t (x,t)=some (decide (x.2.1=3)&&ahead t x):=fun x hx=>by
  have h1:=p7r t x (s4o ht.1) (s4o (l2 x hx).2)
  rw[p51];unfold q1k
  simp only[r2p,r2l,zOb,h1]
  cases decide (x.2.1=3)<;>rfl
 have L:=Q.first (T:=u0q) (c:=u0c) (W:=u1s) (q:=s1t) (p:=fun x:u0c=>decide (x.2.1=3)&&ahead t x) (fun x=>t2a x) l t (by omega) hq
 rw[o23];unfold q9l r2s
 simp only[r0c,t8t,t0u,u4k,t3k,u5k,L,zOb]
 rw[←p4a]
 by_cases h:u0s (fun x:u0c=>decide (x.2.1=3)&&ahead t x) l<l.length
 ·simp[h]
 ·simp[h]
theorem t05 (t:u0c) (h:r6x t):u02 t=some t:=by
 rw[q3b];unfold s8w
 simp only[Cc,Co,Cf,u0x (show t.2.2.2.2.1.length≤1099511627776 by have:=h.1;omega),u0x (show t.2.2.2.2.2.1.length≤1099511627776 by have:=h.2;omega),Ad]
theorem p19 (t:u0c) (h:r6x t):t6m t=some t:=by
 rw[p6f];unfold q1y
 simp only[u0x (show t.2.2.2.2.1.length≤1099511627776 by have:=h.1;omega),u0x (show t.2.2.2.2.2.1.length≤1099511627776 by have:=h.2;omega),Ad]
theorem q4b (l:Hu u0c) (h:o0z l):t6r l=some l:=by
 have L:=s19 t76 l (fun a i=>(l,a,i)) (fun _=>true) (fun x=>x) (fun a=> .inl a) (by have:=h.1;omega)
  (fun a _=>by rw[r6n];simp only[t7r,u0b,Am,Ah,Aa])
  (fun i hi a ha=>by
   have h1:=t05 l[i] (h.2 _ (Ag hi))
   have:=h.1
   rw[r6n]
   simp only[t7r,u0b,hi,Ae,Ad,y7t hi,zTn,y8k (t:=u0q) hi,h1,zOb,Aw,u0x (show a.length+1≤1099511627776 by omega)]
   rw[y7l (by omega)])
 rw[p7c];unfold q2w
 simp only[L,zOb]
 simp
theorem q4a (l:Hu u0c) (h:o0z l):t36 l=some l:=by
 have L:=s19 t5c l (fun a i=>(a,l,(l.length:Int),i)) (fun _=>true) (fun x=>x) (fun a=> .inl a) (by have:=h.1;omega)
  (fun a _=>by rw[r1o];simp only[t4o,u0b,Am,Ah,Aa])
  (fun i hi a ha=>by
   have h1:=p19 l[i] (h.2 _ (Ag hi))
   have:=h.1
   rw[r1o]
   simp only[t4o,u0b,hi,Ae,Ad,y7t hi,zTn,y8k (t:=u0q) hi,h1,zOb,Aw,u0x (show a.length+1≤1099511627776 by omega)]
   rw[y7l (by omega)])
 rw[p3f];unfold r7q
 simp only[L,zOb]
 simp
abbrev u0j:=Hu u2b×Hu u0c×Hu u0c×Int×Int
def fewB (b:u0j):Prop:=b.1.length≤4194304∧o0z b.2.1∧o0z b.2.2.1
theorem s0n (b:u0j) (h:fewB b):u3o b=some b:=by
 have h1:=q4b b.2.1 h.2.1
 have h2:=q4b b.2.2.1 h.2.2
 rw[p7b];unfold q2v
 simp only[Cc,Co,Cf,u0x (show b.1.length≤1099511627776 by have:=h.1;omega),Ad,h1,h2,zOb]
theorem s0m (b:u0j) (h:fewB b):u1t b=some b:=by
 have h1:=q4a b.2.1 h.2.1
 have h2:=q4a b.2.2.1 h.2.2
 rw[p3d];unfold r7o
 simp only[u0x (show b.1.length≤1099511627776 by have:=h.1;omega),Ad,h1,h2,zOb]
end
section
def t9w (b:u0j) (open_:Hu u0c):Int:=open_.foldl (fun m t=>if t.2.2.1<m then t.2.2.1 else m) b.2.2.2.1
theorem o5d (b:u0j) (o:Hu u0c) (h:o.length≤4194304):s6d (b,o)=some (t9w b o):=by
 have L:=u8w t5e o (fun a i=>(o,a,i)) (fun(m:Int) t=>if t.2.2.1<m then t.2.2.1 else m) (fun a=> .inl a) (fun _ _=>True)
  (fun a _=>by rw[r1s];simp only[t4s,u0b,Am,Ah,Aa])
  (fun i hi a _=>by
   refine⟨trivial,?_⟩
   rw[r1s]
   simp only[t4s,u0b,hi,Ae,Ad,y7t hi,zTn,y8k (t:=u0q) hi]
   rw[y7l (by omega)]
   by_cases hc:o[i].2.2.1<a
   ·simp only[hc,Ae,Ad,Bl]
   ·simp only[hc,Ah,Aa,Bk]) b.2.2.2.1 trivial
 rw[p3o];unfold r7z
 simp only[L,zOb]
 rfl
theorem o5c (b:u0j) (o:Hu u0c) (h:o.length≤4194304):s53 (b,o)=some (t9w b o):=by
 have L:=u8w t47 o (fun a i=>(a,o,(o.length:Int),i)) (fun(m:Int) t=>if t.2.2.1<m then t.2.2.1 else m) (fun a=> .inl a) (fun _ _=>True)
  (fun a _=>by rw[r1h];simp only[t4h,u0b,Am,Ah,Aa])
  (fun i hi a _=>by
   refine⟨trivial,?_⟩
   rw[r1h]
   simp only[t4h,u0b,hi,Ae,Ad,y7t hi,zTn,y8k (t:=u0q) hi]
   rw[y7l (by omega)]
   have e:y8i a o[i].2.2.1=if o[i].2.2.1<a then o[i].2.2.1 else a:=by
    unfold y8i
    split<;>rfl
   rw[e]) b.2.2.2.1 trivial
 rw[p26];unfold r7i
 simp only[L,zOb]
 rfl
def u0i (b:u0j) (n:Hs):Int:=if u0s (fun x:u0c=>z7o x.2.2.2.2.2.2.2 n) b.2.2.1<b.2.2.1.length then((u0s (fun x:u0c=>z7o x.2.2.2.2.2.2.2 n) b.2.2.1:Nat):Int) else -1
theorem r64 (b:u0j) (n:Hs) (h:b.2.2.1.length≤4194304):t6k (b,n)=some (u0i b n):=by
 have hq:∀x∈b.2.2.1,t8a (x,n)=some (z7o x.2.2.2.2.2.2.2 n):=fun x _=>by
  rw[p00];unfold r3r;rfl
 have L:=Q.first (T:=u0q) (c:=Hs) (W:=u1k) (q:=t8a) (p:=fun x:u0c=>z7o x.2.2.2.2.2.2.2 n) (fun x=>u94 x) b.2.2.1 n (by omega) hq
 rw[p56];unfold q1p u0i
 simp only[t11,u4y,L,zOb]
 by_cases hk:u0s (fun x:u0c=>z7o x.2.2.2.2.2.2.2 n) b.2.2.1<b.2.2.1.length
 ·simp only[Al hk,zOb]
 ·simp only[Ao hk,zOb]
theorem t8q (b:u0j) (n:Hs) (h:b.2.2.1.length≤4194304):u15 (b,n)=some (u0i b n):=by
 have L:=s9o t1n (u0s (fun x:u0c=>z7o x.2.2.2.2.2.2.2 n) b.2.2.1) (fun(_:Unit) i=>(n,b,i)) (fun _ _=>if u0s (fun x:u0c=>z7o x.2.2.2.2.2.2.2 n) b.2.2.1<b.2.2.1.length then .inr ((u0s (fun x:u0c=>z7o x.2.2.2.2.2.2.2 n) b.2.2.1:Nat):Int) else .inl ()) (fun _ _=>True)
  (fun a _=>by
   have hle:=t8x (fun x:u0c=>z7o x.2.2.2.2.2.2.2 n) b.2.2.1
   rw[r6e]
   by_cases hk:u0s (fun x:u0c=>z7o x.2.2.2.2.2.2.2 n) b.2.2.1<b.2.2.1.length
   ·have hy:=u8o hk
    simp only[t08,u0b,hk,Ae,Ad,y7t hk,zTn,y8k (t:=u0q) hk,hy,Bl]
   ·simp only[t08,u0b,hk,Ah,Aa,Bk])
  (fun i a hi _=> .inr ⟨(),trivial,rfl,by
   have hle:=t8x (fun x:u0c=>z7o x.2.2.2.2.2.2.2 n) b.2.2.1
   have hil:i<b.2.2.1.length:=by omega
   have hn:=t2b hil hi
   rw[r6e]
   simp only[t08,u0b,hil,Ae,Ad,y7t hil,zTn,y8k (t:=u0q) hil,hn,Aa]
   rw[y7l (by omega)]⟩) 0 () (Cn _) trivial
 have L:t1n (n,b,0)=_:=L
 rw[p6u];unfold q2d u0i
 simp only[L,zOb]
 by_cases hk:u0s (fun x:u0c=>z7o x.2.2.2.2.2.2.2 n) b.2.2.1<b.2.2.1.length
 ·simp only[Al hk]
 ·simp only[Ao hk]
end
section
def p7l (l:Hu u2b) (snap:Int) (i:Nat):Bool:=decide ((rdL u0d l i).2.2.2 >snap) || decide (t14 l (rdL u0d l i).1 snap=(i:Int))
def trA (l:Hu u2b) (snap:Int):Nat→Hu u2b
 | 0=> []
 | n+1=>if p7l l snap n=true then trA l snap n++ [rdL u0d l n] else trA l snap n
theorem q81 (l:Hu u2b) (snap:Int):∀n,(trA l snap n).length≤n
 | 0=>Au _
 | n+1=>by
  have:=q81 l snap n
  simp only[trA]
  split
  ·simp;omega
  ·omega
def j2l (l:Hu u2b) (k:Hs):Nat:=(l.filter fun v=>z7o v.1 k).length
def o8o (l:Hu u2b) (snap:Int) (v:u2b):Bool:= !v.2.2.1 || (decide (v.2.2.2 >snap) || decide ((j2l l v.1:Int) >1))
def u2o (l:Hu u2b) (snap:Int):Hu u2b:=(trA l snap l.length).filter (o8o (trA l snap l.length) snap)
theorem o87 (l:Hu u2b) (snap:Int) (hl:l.length≤8388608):t1p (l,snap, [],0)=some (.inl (snap,trA l snap l.length)):=
 q4c t1p l.length (fun a i=>(l,snap,a,i)) (fun i=>trA l snap i) (.inl (snap,trA l snap l.length))
  (by rw[r6i];simp only[t7n,u0b,Am,Ah,Aa])
  (fun i hi=>by
   have hL:=p4j l (rdL u0d l i).1 snap (by omega)
   have hn:=q81 l snap i
   rw[r6i]
   simp only[t7n,u0b,hi,Ae,Ad,y7t hi,zTn,hL,zOb,Aw,u0x (show(trA l snap i).length+1≤1099511627776 by omega)]
   rw[y7l (by omega)]
   simp only[trA,p7l]
   by_cases h1:(rdL u0d l i).2.2.2 >snap
   ·simp[h1]
   ·by_cases h2:t14 l (rdL u0d l i).1 snap=(i:Int)<;>simp[h1,h2])
theorem o86 (l:Hu u2b) (snap:Int) (hl:l.length≤8388608):t1e (l,snap, [],l,(l.length:Int),0)=some (.inl (snap,trA l snap l.length)):=
 q4c t1e l.length (fun a i=>(l,snap,a,l,(l.length:Int),i)) (fun i=>trA l snap i) (.inl (snap,trA l snap l.length))
  (by rw[r50];simp only[t67,u0b,Am,Ah,Aa])
  (fun i hi=>by
   have hL:=p4i l (rdL u0d l i).1 snap (by omega)
   have hn:=q81 l snap i
   rw[r50]
   simp only[t67,u0b,hi,Ae,Ad,y7t hi,zTn,hL,zOb,Aw,u0x (show(trA l snap i).length+1≤1099511627776 by omega)]
   rw[y7l (by omega)]
   simp only[trA,p7l]
   by_cases h1:(rdL u0d l i).2.2.2 >snap
   ·simp[h1]
   ·by_cases h2:t14 l (rdL u0d l i).1 snap=(i:Int)<;>simp[h1,h2])
end
section
theorem p2u (k:Hs):∀(l:Hu u2b) (a:Nat),l.foldl (fun(a:Nat) v=>if z7o v.1 k=true then a+1 else a) a=a+j2l l k
 | [],a=>by simp[j2l]
 | x::l,a=>by
  rw[Bs,p2u k l]
  unfold j2l
  cases hc:z7o x.1 k with
  | true=>simp[Di,hc];omega
  | false=>simp[Di,hc]
theorem o89 (s out:Hu u2b) (snap:Int) (i:Nat) (hi:i<s.length) (hl:s.length≤8388608):
 u9i (snap,s,out,(i:Int),0,0)=some (.inl (snap,s,out,(i:Int),(j2l s s[i].1:Int))):=by
 have L:=u8w u9i s (fun(a:Nat) j=>(snap,s,out,(i:Int),(a:Int),j)) (fun(a:Nat) v=>if z7o v.1 s[i].1=true then a+1 else a) (fun a=> .inl (snap,s,out,(i:Int),(a:Int))) (fun j a=>a≤j)
  (fun a _=>by rw[r19];simp only[t40,u0b,Am,Ah,Aa])
  (fun j hj a ha=>by
   rw[r19]
   simp only[t40,u0b,hj,Ae,Ad,y7t hj,y7t hi,zTn,y8k (t:=u0d) hj,y8k (t:=u0d) hi]
   rw[y7l (i:=j) (by omega),y7l (i:=a) (by omega)]
   cases z7o s[j].1 s[i].1 with
   | true=>simp only[Ad,Bl];exact⟨by omega,trivial⟩
   | false=>simp only[Aa,Br,Bk];exact⟨by omega,trivial⟩) 0 (Cn _)
 rw[p2u,Co] at L
 exact L
theorem o88 (s:Hu u2b) (k:Hs) (hl:s.length≤8388608):s29 (k,s)=some (j2l s k:Int):=by
 have L:=u8w u78 s (fun(a:Nat) j=>(k,(a:Int),s,(s.length:Int),j)) (fun(a:Nat) v=>if z7o v.1 k=true then a+1 else a) (fun a=> .inl (a:Int)) (fun j a=>a≤j)
  (fun a _=>by rw[s8h];simp only[t2q,u0b,Am,Ah,Aa])
  (fun j hj a ha=>by
   rw[s8h]
   simp only[t2q,u0b,hj,Ae,Ad,y7t hj,zTn,y8k (t:=u0d) hj]
   rw[y7l (i:=j) (by omega),y7l (i:=a) (by omega)]
   cases z7o s[j].1 k with
   | true=>simp only[Ad,Bl];exact⟨by omega,trivial⟩
   | false=>simp only[Aa,Br,Bk];exact⟨by omega,trivial⟩) 0 (Cn _)
 rw[p2u,Co] at L
 have L:u78 (k,0,s,(s.length:Int),0)=_:=L
 rw[p04];unfold r3u
 simp only[L,zOb]
theorem o2n (l:Hu u2b) (snap:Int) (hl:l.length≤8388608):s9h (l,snap)=some (u2o l snap):=by
 have hs:(trA l snap l.length).length≤8388608:=A9 (q81 _ _ _) hl
 obtain⟨s,hse⟩:∃s,s=trA l snap l.length:=⟨_,rfl⟩
 rw[←hse] at hs
 have L:=s19 t5h s (fun a i=>(snap,s,a,i)) (o8o s snap) (fun v=>v) (fun a=> .inl a) (by omega)
  (fun a _=>by rw[r1z];simp only[t4z,u0b,Am,Ah,Aa])
  (fun i hi a ha=>by
   rw[r1z]
   simp only[t4z,u0b,hi,Ae,Ad,o89 s a snap i hi hs,zOb,y7t hi,zTn,y8k (t:=u0d) hi,Aw,u0x (show a.length+1≤1099511627776 by omega)]
   rw[y7l (by omega)]
   unfold o8o
   cases h1:s[i].2.2.1 with
   | false=>simp
   | true=>
    by_cases h2:s[i].2.2.2 >snap
    ·simp[h2]
    ·by_cases h3:(j2l s s[i].1:Int) >1<;>simp[h2,h3])
 rw[Er] at L
 have hA:=o87 l snap hl
 rw[←hse] at hA
 rw[p6y];unfold q2h u2o
 rw[←hse]
 simp only[hA,L,zOb]
theorem o2m (l:Hu u2b) (snap:Int) (hl:l.length≤8388608):s87 (l,snap)=some (u2o l snap):=by
 have hs:(trA l snap l.length).length≤8388608:=A9 (q81 _ _ _) hl
 obtain⟨s,hse⟩:∃s,s=trA l snap l.length:=⟨_,rfl⟩
 rw[←hse] at hs
 have L:=s19 t5a s (fun a i=>(snap,s,a,s,(s.length:Int),i)) (o8o s snap) (fun v=>v) (fun a=> .inl a) (by omega)
  (fun a _=>by rw[r1l];simp only[t4l,u0b,Am,Ah,Aa])
  (fun i hi a ha=>by
   rw[r1l]
   simp only[t4l,u0b,hi,Ae,Ad,o88 s _ hs,zOb,y7t hi,zTn,y8k (t:=u0d) hi,Aw,u0x (show a.length+1≤1099511627776 by omega)]
   rw[y7l (by omega)]
   unfold o8o
   cases h1:s[i].2.2.1 with
   | false=>simp
   | true=>
    by_cases h2:s[i].2.2.2 >snap
    ·simp[h2]
    ·by_cases h3:(j2l s s[i].1:Int) >1<;>simp[h2,h3])
 rw[Er] at L
 have hA:=o86 l snap hl
 rw[←hse] at hA
 rw[p6b];unfold q1u u2o
 rw[←hse]
 simp only[hA,L,zOb]
theorem o6e (l:Hu u2b) (snap:Int):(u2o l snap).length≤l.length:=A9 (Cs _ _) (q81 _ _ _)
end
section
theorem j1m {E:Type} {r:E→E→Prop} (hi:∀x,¬r x x) (ha:∀x y,r x y→ ¬r y x):∀ {l m:Hu E},l.Pairwise r→m.Pairwise r→(∀x,x∈l↔x∈m)→l=m
 | [], [],_,_,_=>rfl
 | [],y::m,_,_,h=>by have:=(h y).mpr (by simp);simp at this
 | x::l, [],_,_,h=>by have:=(h x).mp (by simp);simp at this
 | x::l,y::m,hl,hm,h=>by
  have hl' :=Ch.mp hl
  have hm' :=Ch.mp hm
  have hxy:x=y:=by
   rcases A8.mp ((h x).mp (by simp)) with e | e
   ·exact e
   ·rcases A8.mp ((h y).mpr (by simp)) with e' | e'
    ·exact e'.symm
    ·exact absurd (hm'.1 x e) (ha _ _ (hl'.1 y e'))
  subst hxy
  congr 1
  refine j1m hi ha hl'.2 hm'.2 fun z=> ?_
  constructor
  ·intro hz
   rcases A8.mp ((h z).mp (by simp[hz])) with e | e
   ·subst e;exact absurd (hl'.1 z hz) (hi z)
   ·exact e
  ·intro hz
   rcases A8.mp ((h z).mpr (by simp[hz])) with e | e
   ·subst e;exact absurd (hm'.1 z hz) (hi z)
   ·exact e
def vLt (a b:u2b):Prop:=y3c a.1 b.1=true∨(a.1=b.1∧vCs a<vCs b)
def VAsc (l:Hu u2b):Prop:=l.Pairwise vLt
theorem o6f (a:u2b): ¬vLt a a:=fun h=>by
 rcases h with h | h
 ·rw[u7r] at h;cases h
 ·omega
theorem j4e (a b:u2b) (h:vLt a b): ¬vLt b a:=fun k=>by
 rcases h with h | ⟨h,h'⟩<;>rcases k with k | ⟨k,k'⟩
 ·rw[r3c h] at k;cases k
 ·rw[k,u7r] at h;cases h
 ·rw[h,u7r] at k;cases k
 ·omega
theorem j6u (a b:u2b) (h: ¬(a.1=b.1∧vCs a=vCs b)):vLt a b∨vLt b a:=by
 rcases q4z a.1 b.1 with c | c | c
 ·exact .inl (.inl c)
 ·rcases Int.lt_trichotomy (vCs a) (vCs b) with d | d | d
  ·exact .inl (.inr ⟨c,d⟩)
  ·exact absurd ⟨c,d⟩ h
  ·exact .inr (.inr ⟨c.symm,d⟩)
 ·exact .inr (.inl c)
theorem VAsc.ext {l m:Hu u2b} (h:VAsc l) (k:VAsc m) (e:∀x,x∈l↔x∈m):l=m:=j1m o6f j4e h k e
theorem VAsc.uni:∀ {l:Hu u2b},VAsc l→ ∀x∈l,∀y∈l,x.1=y.1→vCs x=vCs y→x=y
 | [],_,x,hx=>by cases hx
 | z::l,h,x,hx=>fun y hy e1 e2=>by
  have h' :=Ch.mp h
  have no:∀a b:u2b,a.1=b.1→vCs a=vCs b→ ¬vLt a b:=fun a b e1 e2 k=>by
   rcases k with k | k
   ·rw[e1,u7r] at k;cases k
   ·omega
  rcases A8.mp hx with rfl | hx' <;>rcases A8.mp hy with rfl | hy'
  ·rfl
  ·exact absurd (h'.1 y hy') (no _ _ e1 e2)
  ·exact absurd (h'.1 x hx') (no _ _ e1.symm e2.symm)
  ·exact VAsc.uni h'.2 x hx' y hy' e1 e2
def j3c (l:Hu u2b) (s:Int) (x:u2b):Prop:=vCs x≤s∧ ∀y∈l,y.1=x.1→vCs y≤s→vCs y≤vCs x
theorem p8d {l:Hu u2b} (hA:VAsc l) {s:Int} {i:Nat} (h:i<l.length):t14 l l[i].1 s=(i:Int)↔j3c l s l[i] :=by
 obtain⟨h1,h2⟩:=q73 l l[i].1 s l.length (Au _)
 constructor
 ·intro e
  obtain⟨_,g1,g2,g3⟩:=h2 i e
  refine⟨g2,fun y hy e1 e2=> ?_⟩
  obtain⟨j,hj,rfl⟩:=B7 hy
  exact g3 j hj hj e1 e2
 ·rintro⟨g2,g3⟩
  have hr:=q0p l l[i].1 s
  rcases Int.lt_or_le (t14 l l[i].1 s) 0 with z | z
  ·exact absurd ⟨rfl,g2⟩ (h1 z i h h)
  ·obtain⟨b,hb⟩:∃b:Nat,t14 l l[i].1 s=(b:Int):=⟨(t14 l l[i].1 s).toNat,by omega⟩
   obtain⟨hbl,k1,k2,k3⟩:=h2 b hb
   have m1:=g3 l[b] (Ag hbl) k1 k2
   have m2:=k3 i h h rfl g2
   have e:=VAsc.uni hA l[b] (Ag hbl) l[i] (Ag h) k1 (by omega)
   have hp:l.Nodup:=hA.imp fun h e=>by subst e;exact o6f _ h
   have:b=i:=(List.getElem_inj hp).mp e
   rw[hb,this]
theorem o6d (l:Hu u2b) (s:Int):∀n,n≤l.length→(trA l s n).Sublist (l.take n)
 | 0,_=>by simp[trA]
 | n+1,h=>by
  have ih:=o6d l s n (by omega)
  have hn:n<l.length:=by omega
  rw[B9 hn]
  simp only[trA]
  split
  ·rw[y8k (t:=u0d) hn]
   exact ih.append (Dm _)
  ·exact ih.trans (List.sublist_append_left _ _)
theorem t4c (l:Hu u2b) (s:Int):(u2o l s).Sublist l:=by
 have h:=o6d l s l.length (Au _)
 rw[Cq] at h
 exact Fg.trans h
theorem t8n {l:Hu u2b} (h:VAsc l) (s:Int):VAsc (u2o l s):=h.sublist (t4c l s)
theorem o3y {l:Hu u2b} {s:Int} {x:u2b} :∀n,n≤l.length→(x∈trA l s n↔ ∃(i:Nat) (h:i<l.length),i<n∧l[i] =x∧p7l l s i=true)
 | 0,_=>by simp[trA]
 | n+1,h=>by
  have ih:=o3y (x:=x) (s:=s) n (Nat.le_of_succ_le h)
  have hn:n<l.length:=by omega
  have split:(∃(i:Nat) (h:i<l.length),i<n+1∧l[i] =x∧p7l l s i=true)↔(∃(i:Nat) (h:i<l.length),i<n∧l[i] =x∧p7l l s i=true)∨(l[n] =x∧p7l l s n=true):=by
   constructor
   ·rintro⟨i,hi,h1,h2⟩
    by_cases e:i=n
    ·subst e;exact .inr h2
    ·exact .inl ⟨i,hi,by omega,h2⟩
   ·rintro(⟨i,hi,h1,h2⟩ | h2)
    ·exact⟨i,hi,by omega,h2⟩
    ·exact⟨n,hn,by omega,h2⟩
  rw[split,←ih]
  simp only[trA]
  by_cases c:p7l l s n=true
  ·rw[Al c,y8k (t:=u0d) hn,Ay,Ax]
   simp only[c,and_true]
   exact or_congr Hp eq_comm
  ·rw[Ao c]
   simp[c]
theorem o03 {l:Hu u2b} (hA:VAsc l) {s:Int} {x:u2b} :x∈trA l s l.length↔x∈l∧(vCs x >s∨j3c l s x):=by
 rw[o3y _ (Au _)]
 constructor
 ·rintro⟨i,hi,_,rfl,k⟩
  refine⟨Ag hi,?_⟩
  unfold p7l at k
  rw[y8k (t:=u0d) hi,Cr,Ar,Ar] at k
  rcases k with k | k
  ·exact .inl k
  ·exact .inr ((p8d hA hi).mp k)
 ·rintro⟨hx,k⟩
  obtain⟨i,hi,rfl⟩:=B7 hx
  refine⟨i,hi,hi,rfl,?_⟩
  unfold p7l
  rw[y8k (t:=u0d) hi,Cr,Ar,Ar]
  rcases k with k | k
  ·exact .inl k
  ·exact .inr ((p8d hA hi).mpr k)
theorem o9b {E:Type} :∀ {l:Hu E},l.Nodup→1<l.length→ ∀x,∃y∈l,y≠x
 | [],_,h,_=>by simp at h
 | [_],_,h,_=>by simp at h
 | a::b::l,hn,_,x=>by
  by_cases e:a=x
  ·subst e
   refine⟨b,by simp,fun e=> ?_⟩
   subst e
   simp at hn
  ·exact⟨a,by simp,e⟩
theorem o8s {E:Type} {l:Hu E} {x y:E} (hx:x∈l) (hy:y∈l) (h:x≠y):1<l.length:=by
 match l,hx,hy with
 | [a],hx,hy=>rw[Ax] at hx hy;exact absurd (hx.trans hy.symm) h
 | a::b::l,_,_=>simp
theorem u5h {l:Hu u2b} (hA:VAsc l) {s:Int} {x:u2b} :x∈u2o l s↔x∈l∧(vCs x >s∨(j3c l s x∧(x.2.2.1=false∨ ∃y∈l,y.1=x.1∧vCs y >s))):=by
 unfold u2o
 rw[A6,o03 hA]
 unfold o8o
 rw[Cr,Cr,Ar,Ar,Bj]
 have hs:VAsc (trA l s l.length):=by
  have h:=o6d l s l.length (Au _)
  rw[Cq] at h
  exact hA.sublist h
 constructor
 ·rintro⟨⟨hx,h1⟩,h2⟩
  refine⟨hx,?_⟩
  by_cases c:vCs x >s
  ·exact .inl c
  ·rcases h1 with h1 | h1
   ·exact absurd h1 c
   ·refine .inr ⟨h1,?_⟩
    rcases h2 with h2 | h2 | h2
    ·exact .inl h2
    ·exact absurd h2 c
    ·have hn:((trA l s l.length).filter fun v=>z7o v.1 x.1).Nodup:=(hs.filter _).imp fun h e=>by subst e;exact o6f _ h
     have hl:1<((trA l s l.length).filter fun v=>z7o v.1 x.1).length:=by unfold j2l at h2;omega
     obtain⟨y,hy,hne⟩:=o9b hn hl x
     rw[A6,o03 hA] at hy
     obtain⟨⟨hyl,hy1⟩,hy2⟩:=hy
     have hk:=y7f.mp hy2
     refine .inr ⟨y,hyl,hk,?_⟩
     rcases hy1 with hy1 | hy1
     ·exact hy1
     ·have a1:=h1.2 y hyl hk hy1.1
      have a2:=hy1.2 x hx hk.symm h1.1
      exact absurd (VAsc.uni hA y hyl x hx hk (by omega)) hne
 ·rintro⟨hx,h1⟩
  rcases h1 with h1 | ⟨h1,h2⟩
  ·exact⟨⟨hx, .inl h1⟩, .inr (.inl h1)⟩
  ·refine⟨⟨hx, .inr h1⟩,?_⟩
   rcases h2 with h2 | ⟨y,hy,hk,hc⟩
   ·exact .inl h2
   ·refine .inr (.inr ?_)
    have m1:x∈(trA l s l.length).filter fun v=>z7o v.1 x.1:=by rw[A6,o03 hA];exact⟨⟨hx, .inr h1⟩,y7f.mpr rfl⟩
    have m2:y∈(trA l s l.length).filter fun v=>z7o v.1 x.1:=by rw[A6,o03 hA];exact⟨⟨hy, .inl hc⟩,y7f.mpr hk⟩
    have:=o8s m1 m2 (fun e=>by have:=h1.1;subst e;omega)
    unfold j2l
    omega
theorem j0y {s:Int} {k:Hs} :∀(l:Hu u2b),(∃y∈l,y.1=k∧vCs y≤s)→ ∃x∈l,x.1=k∧vCs x≤s∧ ∀y∈l,y.1=k→vCs y≤s→vCs y≤vCs x
 | [],h=>by obtain⟨y,hy,_⟩:=h;cases hy
 | z::l,h=>by
  by_cases hl:∃y∈l,y.1=k∧vCs y≤s
  ·obtain⟨x,hx,h1,h2,h3⟩:=j0y l hl
   by_cases hz:z.1=k∧vCs z≤s∧vCs x<vCs z
   ·refine⟨z,by simp,hz.1,hz.2.1,fun y hy e1 e2=> ?_⟩
    rcases A8.mp hy with rfl | hy
    ·exact Bv _
    ·have:=h3 y hy e1 e2;omega
   ·refine⟨x,by simp[hx],h1,h2,fun y hy e1 e2=> ?_⟩
    rcases A8.mp hy with rfl | hy
    ·exact Hk.mp fun q=>hz ⟨e1,e2,q⟩
    ·exact h3 y hy e1 e2
  ·obtain⟨y,hy,h1,h2⟩:=h
   have hyz:y=z:=by
    rcases A8.mp hy with e | e
    ·exact e
    ·exact absurd ⟨y,e,h1,h2⟩ hl
   subst hyz
   refine⟨y,by simp,h1,h2,fun w hw e1 e2=> ?_⟩
   rcases A8.mp hw with rfl | hw
   ·exact Bv _
   ·exact absurd ⟨w,hw,e1,e2⟩ hl
theorem q7h {l:Hu u2b} (hA:VAsc l) {a b:Int} (hab:a≤b):u2o (u2o l a) b=u2o l b:=by
 have hT:=t8n hA a
 refine(t8n hT b).ext (t8n hA b) fun x=> ?_
 refine Iff.trans (u5h hT) (Iff.trans ?_ (u5h hA).symm)
 have hsub:∀y,y∈u2o l a→y∈l:=fun y hy=>(t4c l a).subset hy
 have hup:∀y,y∈l→vCs y >a→y∈u2o l a:=fun y hy h=>(u5h hA).mpr ⟨hy, .inl h⟩
 constructor
 ·rintro⟨hx,h⟩
  have hxl:=hsub x hx
  refine⟨hxl,?_⟩
  rcases h with h | ⟨h1,h2⟩
  ·exact .inl h
  ·right
   have hL:j3c l b x:=by
    refine⟨h1.1,fun y hy e1 e2=> ?_⟩
    by_cases c:vCs y >a
    ·exact h1.2 y (hup y hy c) e1 e2
    ·by_cases c2:vCs x >a
     ·omega
     ·rcases(u5h hA).mp hx with ⟨_,h3 | ⟨h3,_⟩⟩
      ·exact absurd h3 c2
      ·exact h3.2 y hy e1 (by omega)
   refine⟨hL,?_⟩
   rcases h2 with h2 | ⟨y,hy,e1,e2⟩
   ·exact .inl h2
   ·exact .inr ⟨y,hsub y hy,e1,e2⟩
 ·rintro⟨hxl,h⟩
  rcases h with h | ⟨h1,h2⟩
  ·exact⟨hup x hxl (by omega), .inl h⟩
  ·have hx:x∈u2o l a:=by
    by_cases c:vCs x >a
    ·exact hup x hxl c
    ·refine(u5h hA).mpr ⟨hxl, .inr ⟨⟨by omega,fun y hy e1 e2=>h1.2 y hy e1 (by omega)⟩,?_⟩⟩
     rcases h2 with h2 | ⟨y,hy,e1,e2⟩
     ·exact .inl h2
     ·exact .inr ⟨y,hy,e1,by omega⟩
   refine⟨hx, .inr ⟨⟨h1.1,fun y hy=>h1.2 y (hsub y hy)⟩,?_⟩⟩
   rcases h2 with h2 | ⟨y,hy,e1,e2⟩
   ·exact .inl h2
   ·exact .inr ⟨y,hup y hy (by omega),e1,e2⟩
theorem p0a {l:Hu u2b} (hA:VAsc l) {s:Int} (hs:∀x∈l,vCs x≤s) {x:u2b} :x∈u2o l s↔x∈l∧x.2.2.1=false∧ ∀y∈l,y.1=x.1→vCs y≤vCs x:=by
 rw[u5h hA]
 constructor
 ·rintro⟨hx,h⟩
  refine⟨hx,?_⟩
  rcases h with h | ⟨h1,h2 | ⟨y,hy,_,h2⟩⟩
  ·have:=hs x hx;omega
  ·exact⟨h2,fun y hy e=>h1.2 y hy e (hs y hy)⟩
  ·have:=hs y hy;omega
 ·rintro⟨hx,h1,h2⟩
  exact⟨hx, .inr ⟨⟨hs x hx,fun y hy e _=>h2 y hy e⟩, .inl h1⟩⟩
theorem q8y {l:Hu u2b} (hA:VAsc l) {a:Int} {x:u2b} :(x∈u2o l a∧x.2.2.1=false∧ ∀y∈u2o l a,y.1=x.1→vCs y≤vCs x)↔(x∈l∧x.2.2.1=false∧ ∀y∈l,y.1=x.1→vCs y≤vCs x):=by
 constructor
 ·rintro⟨hx,h1,h2⟩
  have hxl:=(t4c l a).subset hx
  refine⟨hxl,h1,fun y hy e=> ?_⟩
  by_cases c:vCs y >a
  ·exact h2 y ((u5h hA).mpr ⟨hy, .inl c⟩) e
  ·rcases(u5h hA).mp hx with ⟨_,h3 | ⟨h3,_⟩⟩
   ·omega
   ·exact h3.2 y hy e (by omega)
 ·rintro⟨hx,h1,h2⟩
  refine⟨(u5h hA).mpr ⟨hx,?_⟩,h1,fun y hy=>h2 y ((t4c l a).subset hy)⟩
  by_cases c:vCs x >a
  ·exact .inl c
  ·exact .inr ⟨⟨by omega,fun y hy e _=>h2 y hy e⟩, .inl h1⟩
theorem j3w {l:Hu u2b} (hA:VAsc l) {v:u2b} (hn:∀x∈l,¬(x.1=v.1∧vCs x=vCs v)):VAsc (o7b l v):=by
 have le_iff:∀x:u2b,u8u v x=true↔(vLt x v∨(x.1=v.1∧vCs x=vCs v)):=fun x=>by
  unfold u8u vLt
  rw[Cr,Ai,Ar]
  constructor
  ·rintro(h | ⟨h1,h2⟩)
   ·exact .inl (.inl h)
   ·have h1:=y7f.mp h1
    have h2:vCs x≤vCs v:=h2
    rcases Int.lt_or_eq_of_le h2 with h2 | h2
    ·exact .inl (.inr ⟨h1,h2⟩)
    ·exact .inr ⟨h1,h2⟩
  ·rintro((h | ⟨h1,h2⟩) | ⟨h1,h2⟩)
   ·exact .inl h
   ·exact .inr ⟨y7f.mpr h1,Int.le_of_lt h2⟩
   ·exact .inr ⟨y7f.mpr h1,Int.le_of_eq h2⟩
 have tr:∀ {a b c:u2b},vLt a b→vLt b c→vLt a c:=fun {a b c} h k=>by
  rcases h with h | ⟨h,h'⟩<;>rcases k with k | ⟨k,k'⟩
  ·exact .inl (r9t h k)
  ·exact .inl (k ▸ h)
  ·exact .inl (h ▸ k)
  ·exact .inr ⟨h.trans k,by omega⟩
 unfold o7b VAsc
 have hsplit:l.takeWhile (u8u v)++l.dropWhile (u8u v)=l:=Fe
 have hA' :(l.takeWhile (u8u v)++l.dropWhile (u8u v)).Pairwise vLt:=by rw[hsplit];exact hA
 obtain⟨p1,p2,p3⟩:=Cg.mp hA'
 have lo:∀x∈l.takeWhile (u8u v),vLt x v:=fun x hx=>by
  have h1:u8u v x=true:=by
   have:=List.all_takeWhile (p:=u8u v) (l:=l)
   exact Bg.mp this x hx
  have h2:x∈l:=(List.takeWhile_sublist _).subset hx
  rcases(le_iff x).mp h1 with h | h
  ·exact h
  ·exact absurd h (hn x h2)
 have hi:∀x∈l.dropWhile (u8u v),vLt v x:=by
  intro x hx
  match hd:l.dropWhile (u8u v),hx,p2 with
  | [],hx,_=>cases hx
  | y::r,hx,p2=>
   have hy:u8u v y=false:=by
    have:=List.head?_dropWhile_not (u8u v) l
    rw[hd] at this
    simpa using this
   have hyl:y∈l:=(List.dropWhile_sublist (p:=u8u v)).subset (by rw[hd];simp)
   have hvy:vLt v y:=by
    rcases j6u y v (hn y hyl) with h | h
    ·rw[(le_iff y).mpr (.inl h)] at hy;cases hy
    ·exact h
   rcases A8.mp hx with rfl | hx
   ·exact hvy
   ·exact tr hvy ((Ch.mp p2).1 x hx)
 rw[Bi,Cg]
 refine⟨p1,?_,?_⟩
 ·rw[Fs,Ch]
  exact⟨hi,p2⟩
 ·intro x hx y hy
  rcases Ay.mp hy with hy | hy
  ·rw[Ax] at hy;subst hy;exact lo x hx
  ·exact p3 x hx y hy
theorem r9f {cs:Int} :∀(ws:Hu u2i.den) {l:Hu u2b},VAsc l→KD ws→(∀x∈l,∀w∈ws,¬(x.1=w.1∧vCs x=cs))→VAsc (t5k l ws cs)
 | [],l,h,_,_=>h
 | w::ws,l,h,hk,hn=>by
  have hk' :=Ch.mp hk
  have e:t5k l (w::ws) cs=t5k (o7b l (w.1,w.2.1,w.2.2,cs)) ws cs:=rfl
  rw[e]
  refine r9f ws (j3w h fun x hx=>hn x hx w (by simp)) hk'.2 fun x hx z hz=> ?_
  rcases j3k.mp hx with rfl | hx
  ·exact fun q=>hk'.1 z hz q.1
  ·exact hn x hx z (by simp[hz])
theorem j4c {l:Hu u2b} (hA:VAsc l) {ws:Hu u2i.den} (hk:KD ws) {a c:Int} (hl:∀x∈l,vCs x<c):
 u2o (t5k (u2o l a) ws c) c=u2o (t5k l ws c) c:=by
 have hT:=t8n hA a
 have hlT:∀x∈u2o l a,vCs x<c:=fun x hx=>hl x ((t4c l a).subset hx)
 have P1:VAsc (t5k (u2o l a) ws c):=r9f ws hT hk fun x hx w _ q=>by have:=hlT x hx;omega
 have P2:VAsc (t5k l ws c):=r9f ws hA hk fun x hx w _ q=>by have:=hl x hx;omega
 have t1:∀x∈t5k (u2o l a) ws c,vCs x≤c:=fun x hx=>by
  rcases(u7h ws _ c).mp hx with h | ⟨w,_,rfl⟩
  ·have:=hlT x h;omega
  ·exact Bv _
 have t2:∀x∈t5k l ws c,vCs x≤c:=fun x hx=>by
  rcases(u7h ws _ c).mp hx with h | ⟨w,_,rfl⟩
  ·have:=hl x h;omega
  ·exact Bv _
 have key:∀(m:Hu u2b),(∀x∈m,vCs x<c)→ ∀x,(x∈t5k m ws c∧x.2.2.1=false∧ ∀y∈t5k m ws c,y.1=x.1→vCs y≤vCs x)↔
  ((∃w∈ws,x=(w.1,w.2.1,w.2.2,c))∧x.2.2.1=false)∨((∀w∈ws,w.1≠x.1)∧x∈m∧x.2.2.1=false∧ ∀y∈m,y.1=x.1→vCs y≤vCs x):=by
  intro m hm x
  have mp:=fun y=>u7h (x:=y) ws m c
  constructor
  ·rintro⟨h1,h2,h3⟩
   rcases(mp x).mp h1 with h | h
   ·refine .inr ⟨fun w hw e=> ?_,h,h2,fun y hy e=>h3 y ((mp y).mpr (.inl hy)) e⟩
    have q:c≤vCs x:=h3 (w.1,w.2.1,w.2.2,c) ((mp _).mpr (.inr ⟨w,hw,rfl⟩)) e
    have:=hm x h
    omega
   ·exact .inl ⟨h,h2⟩
  ·rintro(⟨h1,h2⟩ | ⟨h1,h2,h3,h4⟩)
   ·refine⟨(mp x).mpr (.inr h1),h2,fun y hy _=> ?_⟩
    obtain⟨w,hw,rfl⟩:=h1
    show vCs y≤c
    rcases(mp y).mp hy with h | ⟨w,_,rfl⟩
    ·have:=hm y h;omega
    ·exact Bv _
   ·refine⟨(mp x).mpr (.inl h2),h3,fun y hy e=> ?_⟩
    rcases(mp y).mp hy with h | ⟨w,hw,rfl⟩
    ·exact h4 y h e
    ·exact absurd e (h1 w hw)
 refine(t8n P1 c).ext (t8n P2 c) fun x=> ?_
 rw[p0a P1 t1,p0a P2 t2,key _ hlT,key _ hl,q8y hA]
end
section
abbrev s3m:=Hs×Hs
abbrev WrT:=Hs×Hs×Bool
abbrev u3e:=u0j×Hu u0c
def inB (x lo hi:Int):Bool:=decide (lo≤x)&&decide (x≤hi)
theorem q8v {x lo hi:Int} :inB x lo hi=true↔lo≤x∧x≤hi:=by simp[inB]
def u7b (s:Hs):Bool:=s.data.toList.all (fun b=>decide (97≤b.toNat)&&decide (b.toNat≤122))&&(decide (1≤s.size)&&decide (s.size≤3))
def u3s (r:s3m):Bool:=u7b r.1&&(u7b r.2&&(y3c r.1 r.2 || z7o r.1 r.2))
def u3t (w:WrT):Bool:=u7b w.1&&(decide (w.2.1.size≤12)&&(!w.2.2 || decide (w.2.1.size=0)))
def p5t (t:Ty) (lt:t.den→t.den→Bool) (l:Hu t.den):Bool:=(List.range l.length).all fun i=>decide (i=0) || lt (rdL t l (i - 1)) (rdL t l i)
def u6b (l:Hu WrT):Bool:=l.all u3t&&(p5t u2i (fun a b=>y3c a.1 b.1) l&&decide (l.length≤8))
def u7k (t:u0c):Bool:=
 inB t.1 1 9999&&(inB t.2.1 1 3&&(inB t.2.2.1 0 9999&&(decide (t.2.2.2.2.1.length≤8)&&(u6b t.2.2.2.2.2.1&&(t.2.2.2.2.1.all u3s&&
 ((if t.2.1=3 then inB t.2.2.2.1 (t.2.2.1+1) 9999 else decide (t.2.2.2.1=0))&&((if t.2.1=2 then u7b t.2.2.2.2.2.2.2 else decide (t.2.2.2.2.2.2.2.size=0))&&(!decide (t.2.1=1) || !t.2.2.2.2.2.2.1))))))))
def r90 (v:u2b):Bool:=u7b v.1&&(decide (v.2.1.size≤12)&&((!v.2.2.1 || decide (v.2.1.size=0))&&inB v.2.2.2 1 9999))
def s8d (a b:u2b):Bool:=y3c a.1 b.1 || (z7o a.1 b.1&&decide (a.2.2.2<b.2.2.2))
def u5i (l:Hu u2b):Bool:=l.all r90&&(p5t u0d s8d l&&decide (l.length≤120))
def q4l (l:Hu Int) (below:Int):Bool:=decide (∀x∈l,x<below)&&decide l.Nodup
def o69 (c:Int) (l:Hu u0c):Bool:=decide (l.length≤12)&&(l.all (fun t=>u7k t&&(decide (t.2.1=3)&&decide (t.2.2.2.1≤c)))&&p5t u0q (fun a b=>decide (a.2.2.2.1<b.2.2.2.1)) l)
def o1f (c:Int) (l:Hu u0c):Bool:=decide (l.length≤3)&&(l.all (fun t=>u7k t&&(decide (t.2.1=2)&&decide (t.2.2.1≤c)))&&p5t u0q (fun a b=>y3c a.2.2.2.2.2.2.2 b.2.2.2.2.2.2.2) l)
def o67 (c:Int) (l:Hu u0c):Bool:=decide (l.length≤4)&&(l.all (fun t=>u7k t&&(decide (t.2.1=1)&&decide (t.2.2.1≤c)))&&p5t u0q (fun a b=>decide (a.1<b.1)) l)
def u5a (l:Hu u0c):Hu Int:=l.map fun t=>t.1
def u7m (b:u0j):Bool:=u5i b.1&&(b.1.all (fun v=>decide (v.2.2.2≤b.2.2.2.1))&&(inB b.2.2.2.1 0 9999&&(inB b.2.2.2.2 1 9999&&(o69 b.2.2.2.1 b.2.1&&(o1f b.2.2.2.1 b.2.2.1&&q4l (u5a (b.2.1++b.2.2.1)) b.2.2.2.2)))))
def o3k (e:u3e):Bool:=u7m e.1&&(o67 e.1.2.2.2.1 e.2&&q4l (u5a (e.1.2.1++e.1.2.2.1++e.2)) e.1.2.2.2.2)
theorem p9p {t:Ty} {lt:t.den→t.den→Bool} (tr:∀a b c,lt a b=true→lt b c=true→lt a c=true) {l:Hu t.den} :p5t t lt l=true↔l.Pairwise fun a b=>lt a b=true:=by
 unfold p5t
 rw[Bg]
 constructor
 ·intro h
  have step:∀(i:Nat) (hi:i+1<l.length),lt l[i] l[i+1] =true:=fun i hi=>by
   have:=h (i+1) (Bq.mpr hi)
   rw[Cr,Ar] at this
   rcases this with q | q
   ·omega
   ·rw[Nat.add_sub_cancel,y8k (show i<l.length by omega),y8k hi] at q
    exact q
  rw[Cp]
  intro i j hi hj hij
  obtain⟨d,rfl⟩:∃d,j=i+1+d:=⟨j - (i+1),by omega⟩
  clear hij
  induction d with
  | zero=>exact step i hj
  | succ d ih=>exact tr _ _ _ (ih (by omega)) (step (i+1+d) hj)
 ·intro h i hi
  have hi:=Bq.mp hi
  rw[Cr,Ar]
  by_cases e:i=0
  ·exact .inl e
  ·refine .inr ?_
   rw[y8k (show i - 1<l.length by omega),y8k hi]
   exact Cp.mp h (i - 1) i (by omega) hi (by omega)
theorem u3f {s:Hs} (h:u7b s=true):1≤s.size∧s.size≤3:=by
 unfold u7b at h
 simp only[Ai,Ar] at h
 exact h.2
structure TxnR (t:u0c):Prop where
 id:1≤t.1∧t.1≤9999
 st:1≤t.2.1∧t.2.1≤3
 snap:0≤t.2.2.1∧t.2.2.1≤9999
 rlen:t.2.2.2.2.1.length≤8
 ws:u6b t.2.2.2.2.2.1=true
 rs:∀r∈t.2.2.2.2.1,u3s r=true
 done:t.2.1=3→t.2.2.1+1≤t.2.2.2.1∧t.2.2.2.1≤9999
 nocs:t.2.1≠3→t.2.2.2.1=0
 name:t.2.1=2→u7b t.2.2.2.2.2.2.2=true
 noname:t.2.1≠2→t.2.2.2.2.2.2.2.size=0
 out:t.2.1=1→t.2.2.2.2.2.2.1=false
theorem q7i {t:u0c} :u7k t=true↔TxnR t:=by
 unfold u7k
 simp only[Ai,Cr,q8v,Ar,Bg,Bj,Bu]
 constructor
 ·rintro⟨h1,h2,h3,h4,h5,h6,h7,h8,h9⟩
  refine⟨h1,h2,h3,h4,h5,h6,fun e=> ?_,fun e=> ?_,fun e=> ?_,fun e=> ?_,fun e=> ?_⟩
  ·rw[Al e,q8v] at h7;exact h7
  ·rw[Ao e,Ar] at h7;exact h7
  ·rw[Al e] at h8;exact h8
  ·rw[Ao e,Ar] at h8;exact h8
  ·rcases h9 with h9 | h9
   ·exact absurd e h9
   ·exact h9
 ·intro h
  refine⟨h.id,h.st,h.snap,h.rlen,h.ws,h.rs,?_,?_,?_⟩
  ·split
   ·rename_i e;rw[q8v];exact h.done e
   ·rename_i e;rw[Ar];exact h.nocs e
  ·split
   ·rename_i e;exact h.name e
   ·rename_i e;rw[Ar];exact h.noname e
  ·by_cases e:t.2.1=1
   ·exact .inr (h.out e)
   ·exact .inl e
theorem j46 {l:Hu WrT} :u6b l=true↔(∀w∈l,u3t w=true)∧(l.Pairwise fun a b=>y3c a.1 b.1=true)∧l.length≤8:=by
 unfold u6b
 rw[Ai,Ai,Ar,Bg,p9p (t:=u2i) (lt:=fun a b=>y3c a.1 b.1) (fun a b c h k=>r9t h k)]
theorem q7p {l:Hu WrT} (h:u6b l=true):KD l:=
 (j46.mp h).2.1.imp fun {a b} q e=>by rw[e,u7r] at q;cases q
theorem o9c {a b:u2b} :s8d a b=true↔vLt a b:=by
 unfold s8d vLt vCs
 rw[Cr,Ai,Ar,y7f]
theorem j81 {a b c:u2b} (h:vLt a b) (k:vLt b c):vLt a c:=by
 rcases h with h | ⟨h,h'⟩<;>rcases k with k | ⟨k,k'⟩
 ·exact .inl (r9t h k)
 ·exact .inl (k ▸ h)
 ·exact .inl (h ▸ k)
 ·exact .inr ⟨h.trans k,by omega⟩
theorem j2n {l:Hu u2b} :u5i l=true↔(∀v∈l,r90 v=true)∧VAsc l∧l.length≤120:=by
 unfold u5i
 rw[Ai,Ai,Ar,Bg,p9p (t:=u0d) (lt:=s8d) (fun a b c h k=>o9c.mpr (j81 (o9c.mp h) (o9c.mp k)))]
 unfold VAsc
 simp only[o9c]
theorem r8r {l:Hu Int} {n:Int} :q4l l n=true↔(∀x∈l,x<n)∧l.Nodup:=by
 unfold q4l;rw[Ai,Ar,Ar]
structure BaseR (b:u0j):Prop where
 vs:u5i b.1=true
 vcs:∀v∈b.1,v.2.2.2≤b.2.2.2.1
 cs:0≤b.2.2.2.1∧b.2.2.2.1≤9999
 next:1≤b.2.2.2.2∧b.2.2.2.2≤9999
 plen:b.2.1.length≤12
 past:∀t∈b.2.1,TxnR t∧t.2.1=3∧t.2.2.2.1≤b.2.2.2.1
 pasc:b.2.1.Pairwise fun x y=>x.2.2.2.1<y.2.2.2.1
 rlen:b.2.2.1.length≤3
 ready:∀t∈b.2.2.1,TxnR t∧t.2.1=2∧t.2.2.1≤b.2.2.2.1
 rasc:b.2.2.1.Pairwise fun x y=>y3c x.2.2.2.2.2.2.2 y.2.2.2.2.2.2.2=true
 below:∀x∈u5a (b.2.1++b.2.2.1),x<b.2.2.2.2
 nodup:(u5a (b.2.1++b.2.2.1)).Nodup
theorem d1q {l:Hu u0c} {f:u0c→Int} :p5t u0q (fun a b=>decide (f a<f b)) l=true↔l.Pairwise fun x y=>f x<f y:=by
 rw[p9p (t:=u0q) (lt:=fun a b=>decide (f a<f b)) (fun a b c h k=>by simp only[Ar] at*;omega)]
 simp only[Ar]
theorem d46 {l:Hu u0c} :p5t u0q (fun a b=>y3c a.2.2.2.2.2.2.2 b.2.2.2.2.2.2.2) l=true↔l.Pairwise fun x y=>y3c x.2.2.2.2.2.2.2 y.2.2.2.2.2.2.2=true:=
 p9p (t:=u0q) (lt:=fun a b=>y3c a.2.2.2.2.2.2.2 b.2.2.2.2.2.2.2) (fun a b c h k=>r9t h k)
theorem p74 {b:u0j} :u7m b=true↔BaseR b:=by
 unfold u7m o69 o1f
 simp only[Ai,q8v,Ar,Bg,q7i,r8r,d46]
 rw[d1q (f:=fun t=>t.2.2.2.1)]
 constructor
 ·rintro⟨h1,h2,h3,h4,⟨h5,h6,h7⟩,⟨h8,h9,h10⟩,h11,h12⟩
  exact⟨h1,h2,h3,h4,h5,h6,h7,h8,h9,h10,h11,h12⟩
 ·intro h
  exact⟨h.vs,h.vcs,h.cs,h.next,⟨h.plen,h.past,h.pasc⟩,⟨h.rlen,h.ready,h.rasc⟩,h.below,h.nodup⟩
structure EngR (e:u3e):Prop where
 base:BaseR e.1
 olen:e.2.length≤4
 open_:∀t∈e.2,TxnR t∧t.2.1=1∧t.2.2.1≤e.1.2.2.2.1
 oasc:e.2.Pairwise fun x y=>x.1<y.1
 below:∀x∈u5a (e.1.2.1++e.1.2.2.1++e.2),x<e.1.2.2.2.2
 nodup:(u5a (e.1.2.1++e.1.2.2.1++e.2)).Nodup
theorem j8c {e:u3e} :o3k e=true↔EngR e:=by
 unfold o3k o67
 simp only[Ai,Ar,Bg,q7i,r8r,p74]
 rw[d1q (f:=fun t=>t.1)]
 constructor
 ·rintro⟨h1,⟨h2,h3,h4⟩,h5,h6⟩
  exact⟨h1,h2,h3,h4,h5,h6⟩
 ·intro h
  exact⟨h.base,⟨h.olen,h.open_,h.oasc⟩,h.below,h.nodup⟩
end
section
theorem q77 {E:Type} (a:Hu E) (n:Nat) (h:n≤a.length) (z:Hu E):(a.take n++z).take n=a.take n:=by
 rw[List.take_append_of_le_length (by rw[Ec];omega),List.take_take,Nat.min_self]
theorem t13 {E:Type} (p:E→Bool) (l:Hu E):(l.filter p).length≤l.length:=Cs _ _
theorem o47 (l:Hu u0c) (c:Int) (hl:l.length≤8388608):u2l (l,c)=some (l.filter fun x=> !decide (x.2.2.2.1≤c)):=by
 have hq:∀x∈l,u9s (x,c)=some (decide (x.2.2.2.1≤c)):=fun x _=>by rw[p3a];rfl
 have L:=Q.first (T:=u0q) (c:=Int) (W:=u1p) (q:=u9s) (p:=fun x:u0c=>decide (x.2.2.2.1≤c)) (fun x=>t04 x) l c (by omega) hq
 rw[t1y];unfold u4w
 simp only[t2j,u49,L,zOb]
 by_cases hk:u0s (fun x:u0c=>decide (x.2.2.2.1≤c)) l<l.length
 ·obtain⟨a,e1,e2,e3⟩:=Q.delete (T:=u0q) (c:=Int) (W:=u1i) (q:=u9s) (p:=fun x:u0c=>decide (x.2.2.2.1≤c)) (fun x=>u92 x) l c (by omega) hq hk
  have hn:=t13 (fun x:u0c=> !decide (x.2.2.2.1≤c)) l
  obtain⟨n,hne⟩:∃n,n=(l.filter fun x:u0c=> !decide (x.2.2.2.1≤c)).length:=⟨_,rfl⟩
  rw[←hne] at e1 e3 hn
  have c1:decide (((u0s (fun x:u0c=>decide (x.2.2.2.1≤c)) l:Nat):Int)= -1)=false:=by simp
  have c2:decide ((0:Int)≤(n:Int))=true:=by simp
  have c3:decide ((n:Int)≤(a.length:Int))=true:=by simp;omega
  have c4:decide ((a.length:Int)≤(a.length:Int))=true:=by simp
  have hw:=y7l (i:=u0s (fun x:u0c=>decide (x.2.2.2.1≤c)) l) (by omega)
  simp only[Al hk,zOb,c1,Aa,hw,e1,c2,c3,c4,Dt,Ad,zTn,Ae,Bv]
  have c5:decide ((n:Int)≤((a.take n++List.replicate (a.length - n) u0q.zero++a.drop (n+(a.length - n))).length:Int))=true:=by simp;omega
  have c6:(a.take n++List.replicate (a.length - n) u0q.zero++a.drop (n+(a.length - n))).take (n - (0:Int).toNat)=l.filter fun x:u0c=> !decide (x.2.2.2.1≤c):=by
   rw[Bi,Ho,Nat.sub_zero,q77 a n (by omega),e3]
  simp only[c5,Dt,Ad,c6]
 ·have hall:(l.filter fun x:u0c=> !decide (x.2.2.2.1≤c))=l:=by
   rw[F9]
   intro x hx
   obtain⟨i,hi,rfl⟩:=B7 hx
   rw[t2b (p:=fun x:u0c=>decide (x.2.2.2.1≤c)) hi (by omega)]
   rfl
  simp only[Ao hk,zOb,Ae,Ad,hall]
end
section
def u2y (b:u0j) (o:Hu u0c):u0j:=(u2o b.1 (t9w b o),b.2.1.filter (fun x=> !decide (x.2.2.2.1≤t9w b o)),b.2.2)
theorem t3q (b:u0j) (o:Hu u0c) (hb:fewB b) (ho:o.length≤4194304):u3p (b,o)=some (u2y b o):=by
 have h1:=s0m b hb
 have h2:=o5c b o ho
 have h3:=o47 b.2.1 (t9w b o) (by have:=hb.2.1.1;omega)
 have h4:=o2m b.1 (t9w b o) (by have:=hb.1;omega)
 rw[p96];unfold q5l u2y
 simp only[h1,h2,h3,h4,zOb]
theorem r2k (b:u0j) (o:Hu u0c) (hb:fewB b) (ho:o.length≤4194304):t5p (b,o)=some (u2y b o):=by
 have h1:=s0n b hb
 have h2:=o5d b o ho
 have h4:=o2n b.1 (t9w b o) (by have:=hb.1;omega)
 have hl:=hb.2.1.1
 have L:=s19 t9q b.2.1 (fun a i=>(b,(([], [], [],0,0):u0j),(b.1,a,b.2.2),t9w b o,i)) (fun x=> !decide (x.2.2.2.1≤t9w b o)) (fun x=>x) (fun a=> .inl (b,(([], [], [],0,0):u0j),(b.1,a,b.2.2),t9w b o)) (by omega)
  (fun a _=>by rw[q0e];simp only[t9g,u0b,Am,Ah,Aa])
  (fun i hi a ha=>by
   have hc:=t05 b.2.1[i] (hb.2.1.2 _ (Ag hi))
   rw[q0e]
   simp only[t9g,u0b,hi,Ae,Ad,y7t hi,zTn,y8k (t:=u0q) hi,hc,zOb,Aw,u0x (show a.length+1≤1099511627776 by omega)]
   rw[y7l (by omega)]
   by_cases h:b.2.1[i].2.2.2.1≤t9w b o
   ·have h' : ¬b.2.1[i].2.2.2.1 >t9w b o:=Hk.mpr h
    simp[h,h']
   ·have h' :b.2.1[i].2.2.2.1 >t9w b o:=Int.not_le.mp h
    simp[h,h'])
 rw[Er] at L
 rw[o0q];unfold q56 u2y
 simp only[h1,h2,zOb,L,h4]
end
section
theorem o72 (l:Hu u0c) (c:u0c) (hl:l.length≤8388608):u1r (l,c)=some (l.filter fun x=> !decide (x.1=c.1)):=by
 have hq:∀x∈l,u7y (x,c)=some (decide (x.1=c.1)):=fun x _=>by rw[p03];rfl
 have L:=Q.first (T:=u0q) (c:=u0c) (W:=u1l) (q:=u7y) (p:=fun x:u0c=>decide (x.1=c.1)) (fun x=>u95 x) l c (by omega) hq
 rw[t0w];unfold u4m
 simp only[t12,u4z,L,zOb]
 by_cases hk:u0s (fun x:u0c=>decide (x.1=c.1)) l<l.length
 ·obtain⟨a,e1,e2,e3⟩:=Q.delete (T:=u0q) (c:=u0c) (W:=u1e) (q:=u7y) (p:=fun x:u0c=>decide (x.1=c.1)) (fun x=>u90 x) l c (by omega) hq hk
  have hn:=t13 (fun x:u0c=> !decide (x.1=c.1)) l
  obtain⟨n,hne⟩:∃n,n=(l.filter fun x:u0c=> !decide (x.1=c.1)).length:=⟨_,rfl⟩
  rw[←hne] at e1 e3 hn
  have c1:decide (((u0s (fun x:u0c=>decide (x.1=c.1)) l:Nat):Int)= -1)=false:=by simp
  have c2:decide ((0:Int)≤(n:Int))=true:=by simp
  have c3:decide ((n:Int)≤(a.length:Int))=true:=by simp;omega
  have c4:decide ((a.length:Int)≤(a.length:Int))=true:=by simp
  have hw:=y7l (i:=u0s (fun x:u0c=>decide (x.1=c.1)) l) (by omega)
  simp only[Al hk,zOb,c1,Aa,hw,e1,c2,c3,c4,Dt,Ad,zTn,Ae,Bv]
  have c5:decide ((n:Int)≤((a.take n++List.replicate (a.length - n) u0q.zero++a.drop (n+(a.length - n))).length:Int))=true:=by simp;omega
  have c6:(a.take n++List.replicate (a.length - n) u0q.zero++a.drop (n+(a.length - n))).take (n - (0:Int).toNat)=l.filter fun x:u0c=> !decide (x.1=c.1):=by
   rw[Bi,Ho,Nat.sub_zero,q77 a n (by omega),e3]
  simp only[c5,Dt,Ad,c6]
 ·have hall:(l.filter fun x:u0c=> !decide (x.1=c.1))=l:=by
   rw[F9]
   intro x hx
   obtain⟨i,hi,rfl⟩:=B7 hx
   rw[t2b (p:=fun x:u0c=>decide (x.1=c.1)) hi (by omega)]
   rfl
  simp only[Ao hk,zOb,Ae,Ad,hall]
def q3e (d x:u0c):u0c:=(x.1,x.2.1,x.2.2.1,x.2.2.2.1,x.2.2.2.2.1,x.2.2.2.2.2.1,(x.2.2.2.2.2.2.1 || ahead x d),x.2.2.2.2.2.2.2)
end
section
theorem o6m (t:u0c) (b0:u0j) (v:Hu u2b) (p R:Hu u0c) (c n:Int) (d:u0c) (hR:o0z R) (hd:r6x d):
 u7s (t,b0,(v,p,R,c,n),d,(),(R.length:Int),0)=some (.inl (t,b0,(v,p,R.map (q3e d),c,n),d)):=by
 have hl:=hR.1
 have L:=q4c u7s R.length (fun(a:Hu u0c) i=>(t,b0,((v,p,a,c,n):u0j),d,(),(R.length:Int),i)) (fun i=>(R.take i).map (q3e d)++R.drop i) (.inl (t,b0,((v,p,R.map (q3e d),c,n):u0j),d))
  (by
   rw[r5x]
   simp only[t64,u0b,Am,Ah,Aa,Cq,F5,Bw])
  (fun i hi=>by
   have hm:((R.take i).map (q3e d)).length=i:=by simp;omega
   have hd1:R.drop i=R[i] ::R.drop (i+1):=Ce hi
   have hal:i<((R.take i).map (q3e d)++R.drop i).length:=by simp;omega
   have hg:((R.take i).map (q3e d)++R.drop i)[i] =R[i] :=by
    rw[Cv (by omega),List.getElem_drop]
    congr 1
    omega
   have hset:∀y:u0c,((R.take i).map (q3e d)++R.drop i).set i y=(R.take i).map (q3e d)++y::R.drop (i+1):=fun y=>by
    rw[List.set_append_right _ _ (by omega),hm,Dw,hd1,Hj]
   have hnx:(R.take (i+1)).map (q3e d)++R.drop (i+1)=(R.take i).map (q3e d)++q3e d R[i] ::R.drop (i+1):=by
    rw[B9 hi,Dh]
    simp
   have ha:=p7r R[i] d (s4o (hR.2 _ (Ag hi)).1) (s4o hd.2)
   rw[r5x]
   simp only[t64,u0b,hi,Ae,Ad,y7t hal,zTn,y8k (t:=u0q) hal,hg,ha,zOb,hset]
   rw[y7l (by omega),hnx]
   unfold q3e
   cases h1:R[i].2.2.2.2.2.2.1 with
   | true=>simp
   | false=>simp)
 simpa using L
end
section
def q6k (b:u0j) (t:u0c):u0c:=(t.1,(3:Int),t.2.2.1,IntKind.i64.wrap (b.2.2.2.1+1),t.2.2.2.2.1,t.2.2.2.2.2.1,(t.2.2.2.2.2.2.1 || r2s t b.2.1),(⟨#[]⟩:Hs))
def u89 (b:u0j) (t:u0c):u0j:=
 (t5k b.1 t.2.2.2.2.2.1 (IntKind.i64.wrap (b.2.2.2.1+1)),b.2.1++ [q6k b t],(b.2.2.1.filter fun x=> !decide (x.1=t.1)).map (q3e (q6k b t)),IntKind.i64.wrap (b.2.2.2.1+1),y8h b.2.2.2.2 (IntKind.i64.wrap (t.1+1)))
theorem q9f (b:u0j) (t:u0c) (hb:fewB b) (ht:r6x t):t2c (b,t)=some (u89 b t):=by
 have h1:=s0m b hb
 have h2:=p19 t ht
 have h3:=r3h b.1 t.2.2.2.2.2.1 (IntKind.i64.wrap (b.2.2.2.1+1)) (by have:=hb.1;have:=ht.2;omega)
 have h4:=o72 b.2.2.1 t (by have:=hb.2.2.1;omega)
 have h5:=p7y t b.2.1 ht hb.2.1
 have hf:o0z (b.2.2.1.filter fun x=> !decide (x.1=t.1)):=⟨A9 (t13 _ _) hb.2.2.1,fun x hx=>hb.2.2.2 x (A6.mp hx).1⟩
 have hp:=hb.2.1.1
 have hc:∀d:u0c,Nat.ble (b.2.1.length+([d] :Hu u0c).length) z7w=true:=fun d=>u0x (by simp;omega)
 rw[p59];unfold q1s u89 q6k
 simp only[h1,h2,h3,h4,h5,zOb]
 cases ho:t.2.2.2.2.2.2.1 with
 | true=>
  have hd:r6x ((t.1,(3:Int),t.2.2.1,IntKind.i64.wrap (b.2.2.2.1+1),t.2.2.2.2.1,t.2.2.2.2.2.1,true,(⟨#[]⟩:Hs)):u0c):=ht
  have L:=o6m t ([], [], [],0,0) (t5k b.1 t.2.2.2.2.2.1 (IntKind.i64.wrap (b.2.2.2.1+1))) b.2.1 (b.2.2.1.filter fun x=> !decide (x.1=t.1)) (IntKind.i64.wrap (b.2.2.2.1+1)) b.2.2.2.2 _ hf hd
  simp only[Ad,L,zOb,hc,Dx]
 | false=>
  have hd:r6x ((t.1,(3:Int),t.2.2.1,IntKind.i64.wrap (b.2.2.2.1+1),t.2.2.2.2.1,t.2.2.2.2.2.1,r2s t b.2.1,(⟨#[]⟩:Hs)):u0c):=ht
  have L:=o6m t ([], [], [],0,0) (t5k b.1 t.2.2.2.2.2.1 (IntKind.i64.wrap (b.2.2.2.1+1))) b.2.1 (b.2.2.1.filter fun x=> !decide (x.1=t.1)) (IntKind.i64.wrap (b.2.2.2.1+1)) b.2.2.2.2 _ hf hd
  simp only[Aa,Ad,h5,zOb,L,hc,Ci]
end
section
def p14 (b:u0j) (t:u0c):u0j:=
 ((u89 b t).1,(u89 b t).2.1,(u89 b t).2.2.1,(u89 b t).2.2.2.1,if t.1≥b.2.2.2.2 then IntKind.i64.wrap (t.1+1) else b.2.2.2.2)
theorem o2k (b:u0j) (t:u0c) (b0:u0j) (v:Hu u2b) (p:Hu u0c) (c n:Int) (d:u0c) (hb:fewB b) (hd:r6x d):
 u7a (b,t,b0,(v,p, [],c,n),d,0)=some (.inl (t,b0,(v,p,(b.2.2.1.filter fun x=> !decide (x.1=t.1)).map (q3e d),c,n))):=by
 have hl:=hb.2.2.1
 exact s19 u7a b.2.2.1 (fun a i=>(b,t,b0,((v,p,a,c,n):u0j),d,i)) (fun x=> !decide (x.1=t.1)) (q3e d) (fun a=> .inl (t,b0,((v,p,a,c,n):u0j))) (by omega)
  (fun a _=>by rw[r1y];simp only[t4y,u0b,Am,Ah,Aa])
  (fun i hi a ha=>by
   have h1:=t05 b.2.2.1[i] (hb.2.2.2 _ (Ag hi))
   have h2:=t4e b.2.2.1[i] d (s4o (hb.2.2.2 _ (Ag hi)).1) (s4o hd.2)
   rw[r1y]
   simp only[t4y,u0b,hi,Ae,Ad,y7t hi,zTn,y8k (t:=u0q) hi,h1,h2,zOb,Aw,u0x (show a.length+1≤1099511627776 by omega)]
   rw[y7l (by omega)]
   cases decide (b.2.2.1[i].1=t.1) with
   | true=>rfl
   | false=>
    simp only[Aa,Bh,Ad]
    unfold q3e
    cases ahead b.2.2.1[i] d with
    | true=>simp
    | false=>simp)
end
section
theorem q9g (b:u0j) (t:u0c) (hb:fewB b) (ht:r6x t):u65 (b,t)=some (p14 b t):=by
 have h1:=s0n b hb
 have h2:=t05 t ht
 have h3:=p0l b.1 t.2.2.2.2.2.1 (IntKind.i64.wrap (b.2.2.2.1+1)) (by have:=hb.1;have:=ht.2;omega)
 have h5:=q7z t b.2.1 ht hb.2.1
 have hp:=hb.2.1.1
 have hc:∀d:u0c,Nat.ble (b.2.1.length+([d] :Hu u0c).length) z7w=true:=fun d=>u0x (by simp;omega)
 rw[p6w];unfold q2f p14 u89 q6k
 simp only[h1,h2,h3,h5,zOb]
 cases ho:t.2.2.2.2.2.2.1 with
 | true=>
  have hd:r6x ((t.1,(3:Int),t.2.2.1,IntKind.i64.wrap (b.2.2.2.1+1),t.2.2.2.2.1,t.2.2.2.2.2.1,true,(⟨#[]⟩:Hs)):u0c):=ht
  have L:=fun p=>o2k b t ([], [], [],0,0) (t5k b.1 t.2.2.2.2.2.1 (IntKind.i64.wrap (b.2.2.2.1+1))) p (IntKind.i64.wrap (b.2.2.2.1+1)) b.2.2.2.2 _ hb hd
  simp only[Ad,L,zOb,hc,Dx]
  by_cases h:t.1≥b.2.2.2.2<;>simp[h]
 | false=>
  have hd:r6x ((t.1,(3:Int),t.2.2.1,IntKind.i64.wrap (b.2.2.2.1+1),t.2.2.2.2.1,t.2.2.2.2.2.1,r2s t b.2.1,(⟨#[]⟩:Hs)):u0c):=ht
  have L:=fun p=>o2k b t ([], [], [],0,0) (t5k b.1 t.2.2.2.2.2.1 (IntKind.i64.wrap (b.2.2.2.1+1))) p (IntKind.i64.wrap (b.2.2.2.1+1)) b.2.2.2.2 _ hb hd
  simp only[Aa,Ad,h5,zOb,L,hc,Ci]
  by_cases h:t.1≥b.2.2.2.2<;>simp[h]
end
end
end Go.Proofs.YtkdpclfhapphhaaGreat.Ab
