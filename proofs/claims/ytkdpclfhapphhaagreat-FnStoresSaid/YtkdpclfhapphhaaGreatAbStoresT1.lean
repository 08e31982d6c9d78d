import Derived.Test.YtkdpclfhapphhaaGreatAbStoresG3
import Derived.Test.YtkdpclfhapphhaaGreatAbK2
import Derived.Test.YtkdpclfhapphhaaGreatAbF4
import Derived.Test.YtkdpclfhapphhaaGreatAbS2
namespace Go.Proofs.YtkdpclfhapphhaaGreat.Ab
open Go
set_option linter.unusedVariables false
set_option linter.unusedSimpArgs false
set_option linter.unnecessarySimpa false
section
section
theorem o5q (n:Int):IntKind.u8.wrap n=n % 256:=by
 simp[IntKind.wrap,IntKind.bits,IntKind.signed]
theorem u0b (a b:Nat):decide ((a:Int)<(b:Int))=decide (a<b):=by simp
theorem r6o {X R A:Type} (W:X→Ht R) (n:Nat) (mk:A→Int→X) (res:Nat→A→R) (P:Nat→A→Prop)
 (hend:∀a,P n a→W (mk a (n:Int))=some (res n a))
 (hstep:∀(i:Nat) a,i<n→P i a→W (mk a (i:Int))=some (res i a)∨ ∃a',P (i+1) a' ∧res (i+1) a' =res i a∧W (mk a (i:Int))=W (mk a' ((i+1:Nat):Int))):
 ∀(i:Nat) a,i≤n→P i a→W (mk a (i:Int))=some (res i a):=by
 intro i a hi hP
 obtain⟨d,hd⟩:∃d,i+d=n:=⟨n - i,by omega⟩
 clear hi
 induction d generalizing i a with
 | zero=>
  have:i=n:=by omega
  subst this
  exact hend a hP
 | succ d ih=>
  rcases hstep i a (by omega) hP with h | ⟨a',h1,h2,h3⟩
  ·exact h
  ·rw[h3,ih (i+1) a' h1 (by omega),h2]
def j2t {E A R:Type} (f:Nat→E→A→A⊕R) (fin:A→R):Nat→Hu E→A→R
 | _, [],a=>fin a
 | i,x::l,a=>match f i x a with
  | .inl a' =>j2t f fin (i+1) l a'
  | .inr r=>r
theorem j2l {X R A E:Type} (W:X→Ht R) (l:Hu E) (mk:A→Int→X) (f:Nat→E→A→A⊕R) (fin:A→R) (P:Nat→A→Prop)
 (hend:∀a,P l.length a→W (mk a (l.length:Int))=some (fin a))
 (hstep:∀(i:Nat) (h:i<l.length) a,P i a→match f i l[i] a with
  | .inl a' =>P (i+1) a' ∧W (mk a (i:Int))=W (mk a' ((i+1:Nat):Int))
  | .inr r=>W (mk a (i:Int))=some r) (a:A) (hP:P 0 a):W (mk a 0)=some (j2t f fin 0 l a):=by
 have key:=r6o W l.length mk (fun i a=>j2t f fin i (l.drop i) a) P (fun a h=>by
  rw[hend a h,Dp (Au _)];rfl) (fun i a hi hP=>by
   have hs:=hstep i hi a hP
   have hd:l.drop i=l[i] ::l.drop (i+1):=Ce hi
   rw[hd]
   simp only[j2t]
   cases hf:f i l[i] a with
   | inl a' =>
    rw[hf] at hs
    exact .inr ⟨a',hs.1,rfl,hs.2⟩
   | inr r=>
    rw[hf] at hs
    exact .inl hs) 0 a (Cn _) hP
 exact key
def szr (b:Int) (w:Nat):Int:=if(w:Int)≤b then b - w else -1
def Ty.wt:(t:Ty)→t.den→Nat
 | .int _,_=>0
 | .bool,_=>0
 | .str,s=>s.size
 | .sl e,l=>l.length+(l.map e.wt).sum
 | .pair a b,x=>a.wt x.1+b.wt x.2
theorem s7g {X R E:Type} (W:X→Ht R) (l:Hu E) (mk:Int→X) (p:E→Bool) (yes no:R) (hend:W (mk (l.length:Int))=some no)
 (hstep:∀(i:Nat) (h:i<l.length),W (mk (i:Int))=bif p l[i] then some yes else W (mk ((i+1:Nat):Int))):W (mk 0)=some (bif l.any p then yes else no):=by
 have:=j2l W l (fun(_:Unit) i=>mk i) (fun _ x _=>if p x then .inr yes else .inl ()) (fun _=>no) (fun _ _=>True) (fun _ _=>hend) (fun i h a _=>by
  have hs:=hstep i h
  cases hp:p l[i] with
  | true=>simp only[hp,Ad] at hs;simp only[Bl];exact hs
  | false=>simp only[hp,Aa] at hs;simp only[Br,Bk];exact⟨trivial,hs⟩) () trivial
 rw[this]
 congr 1
 have key:∀(l:Hu E) (i:Nat),j2t (fun _ x (_:Unit)=>if p x then .inr yes else .inl ()) (fun _=>no) i l ()=bif l.any p then yes else no:=by
  intro l
  induction l with
  | nil=>intro i;rfl
  | cons x l ih=>
   intro i
   simp only[j2t,Gd]
   cases hp:p x with
   | true=>simp
   | false=>simp only[Br,Bk,Ci];exact ih _
 exact key l 0
theorem t00 {X R E A:Type} (W:X→Ht R) (l:Hu E) (mk:A→Int→X) (f:A→E→A) (fin:A→R) (P:Nat→A→Prop)
 (hend:∀a,P l.length a→W (mk a (l.length:Int))=some (fin a))
 (hstep:∀(i:Nat) (h:i<l.length) a,P i a→P (i+1) (f a l[i])∧W (mk a (i:Int))=W (mk (f a l[i]) ((i+1:Nat):Int))) (a:A) (hP:P 0 a):W (mk a 0)=some (fin (l.foldl f a)):=by
 have:=j2l W l mk (fun _ x a=> .inl (f a x)) fin P hend (fun i h a hp=>hstep i h a hp) a hP
 rw[this]
 congr 1
 have key:∀(l:Hu E) (i:Nat) (a:A),j2t (fun _ x a=>(.inl (f a x):A⊕R)) fin i l a=fin (l.foldl f a):=by
  intro l
  induction l with
  | nil=>intro i a;rfl
  | cons x l ih=>intro i a;simp only[j2t,Bs];exact ih _ _
 exact key l 0 a
theorem s4k {X R E B:Type} (W:X→Ht R) (l:Hu E) (mk:Hu B→Int→X) (p:E→Bool) (g:E→B) (fin:Hu B→R) (hl:l.length≤1099511627776)
 (hend:∀a:Hu B,a.length≤l.length→W (mk a (l.length:Int))=some (fin a))
 (hstep:∀(i:Nat) (h:i<l.length) (a:Hu B),a.length≤i→W (mk a (i:Int))=bif p l[i] then W (mk (a++ [g l[i]]) ((i+1:Nat):Int)) else W (mk a ((i+1:Nat):Int))):W (mk [] 0)=some (fin ((l.filter p).map g)):=by
 have:=t00 W l mk (fun a x=>if p x then a++ [g x] else a) fin (fun i a=>a.length≤i) hend (fun i h a hp=>by
  have hs:=hstep i h a hp
  cases hc:p l[i] with
  | true=>
   simp only[hc,Ad] at hs
   simp only[Bl]
   exact⟨by simp;omega,hs⟩
  | false=>
   simp only[hc,Aa] at hs
   simp only[Br,Bk]
   exact⟨by omega,hs⟩) [] (Au 0)
 rw[this]
 congr 1
 have key:∀(l:Hu E) (a:Hu B),l.foldl (fun a x=>if p x then a++ [g x] else a) a=a++(l.filter p).map g:=by
  intro l
  induction l with
  | nil=>intro a;simp
  | cons x l ih=>
   intro a
   simp only[Bs,ih,Di]
   cases hp:p x<;>simp
 rw[key];simp
end
section
theorem p75 (b:Hs):b.toList=toS b:=by rw[ByteArray.toList_eq];rfl
theorem j34 {a b:Hs} (h:toS a=toS b):a=b:=by rw[←y8p a,h,y8p]
theorem q88:∀(x y:Hu UInt8),Op.bytesLess x y=decide (x<y)
 | x, [] =>by simp[Op.bytesLess]
 | [],y::ys=>by simp[Op.bytesLess]
 | x::xs,y::ys=>by
  rw[Op.bytesLess,q88 xs ys,Cd]
  simp[List.cons_lt_cons_iff]
theorem o91 {a b:Hs} :y3c a b=true↔toS a<toS b:=by
 unfold y3c
 rw[p75,p75,q88]
 simp
theorem j68 {a b:Hs} :y3c a b=false↔ ¬toS a<toS b:=by
 rw[←o91];simp
theorem j5v (x:Hu UInt8): ¬x<x:=List.lt_irrefl x
theorem j5w {x y z:Hu UInt8} (h:x<y) (k:y<z):x<z:=List.lt_trans h k
theorem j5x (x y:Hu UInt8):x<y∨x=y∨y<x:=by
 rcases List.le_total x y with h | h
 ·rcases Fv.mp h with h | h
  ·exact .inl h
  ·exact .inr (.inl h)
 ·rcases Fv.mp h with h | h
  ·exact .inr (.inr h)
  ·exact .inr (.inl h.symm)
theorem t5e (a:Hs):y3c a a=false:=j68.mpr (j5v _)
theorem q6j {a b c:Hs} (h:y3c a b=true) (k:y3c b c=true):y3c a c=true:=o91.mpr (j5w (o91.mp h) (o91.mp k))
theorem q33 (a b:Hs):y3c a b=true∨a=b∨y3c b a=true:=by
 rcases j5x (toS a) (toS b) with h | h | h
 ·exact .inl (o91.mpr h)
 ·exact .inr (.inl (j34 h))
 ·exact .inr (.inr (o91.mpr h))
theorem r3f {a b:Hs} (h:y3c a b=true):y3c b a=false:=by
 cases k:y3c b a with
 | false=>rfl
 | true=>exact absurd (q6j h k) (by rw[t5e];exact Hf)
theorem o5i {a b:Hs} :z7o a b=false↔a≠b:=by
 rw[←Ey,y7f]
theorem o2u {a b:Hs} :(!(y3c a b || z7o a b))=y3c b a:=by
 rcases q33 a b with h | h | h
 ·rw[h,r3f h];rfl
 ·subst h;rw[t5e,y6l];rfl
 ·rw[r3f h,h]
  have:z7o a b=false:=o5i.mpr (fun e=>by subst e;rw[t5e] at h;cases h)
  rw[this];rfl
def Asc (l:Hu Hs):Prop:=l.Pairwise fun a b=>y3c a b=true
theorem Asc.ext:∀ {l m:Hu Hs},Asc l→Asc m→(∀x,x∈l↔x∈m)→l=m
 | [], [],_,_,_=>rfl
 | [],y::m,_,_,h=>by have:=(h y).mpr (by simp);simp at this
 | x::l, [],_,_,h=>by have:=(h x).mp (by simp);simp at this
 | x::l,y::m,hl,hm,h=>by
  have hl' :=Ch.mp hl
  have hm' :=Ch.mp hm
  have hxy:x=y:=by
   rcases A8.mp ((h x).mp (by simp)) with e | e
   ·exact e
   ·rcases A8.mp ((h y).mpr (by simp)) with e' | e'
    ·exact e'.symm
    ·have:=q6j (hm'.1 x e) (hl'.1 y e')
     rw[t5e] at this;cases this
  subst hxy
  congr 1
  refine Asc.ext hl'.2 hm'.2 fun z=> ?_
  constructor
  ·intro hz
   rcases A8.mp ((h z).mp (by simp[hz])) with e | e
   ·subst e;have:=hl'.1 z hz;rw[t5e] at this;cases this
   ·exact e
  ·intro hz
   rcases A8.mp ((h z).mpr (by simp[hz])) with e | e
   ·subst e;have:=hm'.1 z hz;rw[t5e] at this;cases this
   ·exact e
theorem Asc.filter {l:Hu Hs} (h:Asc l) (p:Hs→Bool):Asc (l.filter p):=Dz p h
def o78 (k:Hs) (l:Hu Hs):Hu Hs:=l.filter (fun x=>y3c x k)++ [k] ++l.filter (fun x=> !(y3c x k || z7o x k))
theorem j09 {k x:Hs} {l:Hu Hs} :x∈o78 k l↔x=k∨x∈l:=by
 simp only[o78,Ay,A6,Ax,o2u]
 constructor
 ·rintro((h | h) | h)
  ·exact .inr h.1
  ·exact .inl h
  ·exact .inr h.1
 ·rintro(h | h)
  ·exact .inl (.inr h)
  ·rcases q33 x k with e | e | e
   ·exact .inl (.inl ⟨h,e⟩)
   ·exact .inl (.inr e)
   ·exact .inr ⟨h,e⟩
theorem j03 {k:Hs} {l:Hu Hs} (h:Asc l):Asc (o78 k l):=by
 unfold Asc o78
 rw[Cg,Cg]
 refine⟨⟨h.filter _,by simp,fun a ha b hb=> ?_⟩,h.filter _,fun a ha b hb=> ?_⟩
 ·simp only[Ax] at hb
  subst hb
  exact(A6.mp ha).2
 ·have hb:=(A6.mp hb).2
  rw[o2u] at hb
  rcases Ay.mp ha with ha | ha
  ·exact q6j (A6.mp ha).2 hb
  ·simp only[Ax] at ha
   subst ha
   exact hb
theorem o88 {l:Hu Hs} :∀ {a:Hu Hs},Asc a→Asc (l.foldl (fun a k=>o78 k a) a)∧ ∀x,x∈l.foldl (fun a k=>o78 k a) a↔x∈l∨x∈a:=by
 induction l with
 | nil=>intro a h;exact⟨h,fun x=>by simp⟩
 | cons k l ih=>
  intro a h
  obtain⟨h1,h2⟩:=ih (j03 (k:=k) h)
  refine⟨h1,fun x=> ?_⟩
  rw[Bs,h2,j09,A8]
  constructor
  ·rintro(q | q | q)
   ·exact .inl (.inr q)
   ·exact .inl (.inl q)
   ·exact .inr q
  ·rintro((q | q) | q)
   ·exact .inr (.inl q)
   ·exact .inl q
   ·exact .inr (.inr q)
theorem q9a (d:Array (Hu UInt8)) (hs:∀i j:Nat,i≤j→j<d.size→d[i]! ≤d[j]!):∀m,m≤d.size→(Lib.compactUpTo d m).Pairwise (·< ·)∧(∀x,x∈Lib.compactUpTo d m↔ ∃i,i<m∧d[i]! =x)
 | 0,_=>by simp[Lib.compactUpTo]
 | m+1,hm=>by
  obtain⟨h1,h2⟩:=q9a d hs m (by omega)
  rw[Lib.compactUpTo_succ]
  by_cases hk:Lib.keeps d m=true
  ·rw[Al hk]
   constructor
   ·rw[Cg]
    refine⟨h1,by simp,fun a ha b hb=> ?_⟩
    simp only[Ax] at hb
    subst hb
    obtain⟨i,hi,rfl⟩:=(h2 a).mp ha
    unfold Lib.keeps at hk
    have hk:=Ej hk
    rcases hk with hk | hk
    ·omega
    ·have l1:=hs i (m - 1) (by omega) (by omega)
     have l2:=hs (m - 1) m (by omega) (by omega)
     rcases Fv.mp l2 with l2 | l2
     ·rcases Fv.mp l1 with l1 | l1
      ·exact j5w l1 l2
      ·rw[l1];exact l2
     ·exact absurd l2.symm hk
   ·intro x
    simp only[Ay,Ax,h2]
    constructor
    ·rintro(⟨i,hi,rfl⟩ | rfl)
     ·exact⟨i,by omega,rfl⟩
     ·exact⟨m,by omega,rfl⟩
    ·rintro⟨i,hi,rfl⟩
     rcases B8 i m with q | q
     ·exact .inl ⟨i,q,rfl⟩
     ·exact .inr (by rw[show i=m by omega])
  ·rw[Ao hk,Bw]
   refine⟨h1,fun x=> ?_⟩
   rw[h2]
   unfold Lib.keeps at hk
   simp only[Ar,Hr,ne_eq,Decidable.not_not] at hk
   constructor
   ·rintro⟨i,hi,rfl⟩;exact⟨i,by omega,rfl⟩
   ·rintro⟨i,hi,rfl⟩
    rcases B8 i m with q | q
    ·exact⟨i,q,rfl⟩
    ·have:i=m:=by omega
     subst this
     exact⟨i - 1,by omega,hk.2.symm⟩
def q7w (l:Hu Hs):Hu Hs:=y6r (y4i l)
theorem o7m (l:Hu Hs):Asc (q7w l)∧ ∀x,x∈q7w l↔x∈l:=by
 obtain⟨d,hd⟩:∃d,d=(l.map toS).mergeSort fun x y=>decide (x≤y):=⟨_,rfl⟩
 have hk:q7w l=(Lib.compact d).map unS:=by
  unfold q7w y6r y4i
  rw[←hd,List.map_map]
  have:(toS ∘unS)=id:=by funext x;rfl
  rw[this,List.map_id]
 have hsort:d.Pairwise (·≤ ·):=by
  rw[hd]
  have:=List.pairwise_mergeSort (le:=fun(x y:Hu UInt8)=>decide (x≤y)) (fun a b c h1 h2=>by
   simp only[Ar] at h1 h2 ⊢
   exact List.le_trans h1 h2) (fun a b=>by
   simp only[Cr,Ar]
   exact List.le_total a b) (l.map toS)
  exact this.imp (fun h=>by simpa using h)
 have hmem:∀x,x∈d↔x∈l.map toS:=fun x=>by rw[hd];exact(List.mergeSort_perm _ _).mem_iff
 have hs:∀i j:Nat,i≤j→j<d.toArray.size→d.toArray[i]! ≤d.toArray[j]! :=fun i j hij hj=>by
  have hj' :j<d.length:=by simpa using hj
  have hi' :i<d.length:=by omega
  rw[Fl _ i (by simpa using hi'),Fl _ j hj]
  simp only[List.getElem_toArray]
  rcases B8 i j with q | q
  ·exact Cp.mp hsort i j hi' hj' q
  ·have:i=j:=by omega
   subst this
   exact List.le_refl _
 obtain⟨h1,h2⟩:=q9a d.toArray hs d.length (by simp)
 rw[hk]
 constructor
 ·unfold Asc
  rw[Dl]
  exact h1.imp (fun h=>o91.mpr h)
 ·intro x
  rw[Bx]
  constructor
  ·rintro⟨y,hy,rfl⟩
   obtain⟨i,hi,rfl⟩:=(h2 y).mp hy
   rw[Fl _ i (by simpa using hi)]
   have:d[i] ∈l.map toS:=(hmem _).mp (Ag hi)
   obtain⟨z,hz,e⟩:=Bx.mp this
   simp only[List.getElem_toArray]
   rw[←e,y8p]
   exact hz
  ·intro hx
   have:toS x∈d:=(hmem _).mpr (Bx.mpr ⟨x,hx,rfl⟩)
   obtain⟨i,hi,e⟩:=Gy.mp this
   refine⟨toS x,(h2 _).mpr ⟨i,hi,?_⟩,y8p x⟩
   rw[Fl _ i (by simpa using hi)]
   simpa using e
theorem o3q (l:Hu Hs):(y4i l).length=l.length:=by simp[y4i]
theorem j3p (l:Hu Hs) (p:Hs→Bool):(l.filter p).foldl (fun a k=>o78 k a) [] =(q7w l).filter p:=by
 obtain⟨h1,h2⟩:=o88 (l:=l.filter p) (a:= []) List.Pairwise.nil
 obtain⟨k1,k2⟩:=o7m l
 refine Asc.ext h1 (k1.filter p) fun x=> ?_
 rw[h2,A6,A6,k2]
 simp
end
section
def u0j:Nat:=1099511627776
theorem p8a {α:Type} {f:α→Nat} {l:Hu α} {x:α} (h:x∈l):f x≤(l.map f).sum:=by
 induction l with
 | nil=>cases h
 | cons y l ih=>
  simp only[C8,Ge]
  rcases A8.mp h with rfl | h
  ·omega
  ·have:=ih h;omega
abbrev t4z:Ty:=(.pair .str .str)
abbrev u20:Ty:=(.pair .str (.pair .str .bool))
abbrev u0d:Ty:=(.pair .str (.pair .str (.pair .bool (.int .i64))))
abbrev j5f:Ty:=(.pair .str .str)
abbrev d1m:Ty:=(.pair .str .str)
abbrev o69:Ty:=(.pair (.int .i64) .str)
abbrev d1n:Ty:=(.pair (.sl .str) (.sl o69))
abbrev u0x:Ty:=(.pair (.int .i64) (.pair (.int .i64) (.pair (.int .i64) (.pair (.int .i64) (.pair (.sl t4z) (.pair (.sl u20) (.pair .bool .str)))))))
abbrev j5e:Ty:=(.pair (.sl u0d) (.pair (.sl u0x) (.pair (.sl u0x) (.pair (.int .i64) (.int .i64)))))
abbrev j78:Ty:=(.pair (.int .i64) (.pair u0x (.pair .str (.pair .bool j5e))))
abbrev j77:Ty:=(.pair j5e (.sl u0x))
end
section
abbrev u0g:=Int×Int×Int×Int×Hu (Hs×Hs)×Hu (Hs×Hs×Bool)×Bool×Hs
theorem u0z {n:Nat} (h:n≤1099511627776):Nat.ble n z7w=true:=Nat.ble_eq_true_of_le h
def inR (r:Hs×Hs) (k:Hs):Bool:= !y3c k r.1&&(y3c k r.2 || z7o k r.2)
theorem q8a (r:Hs×Hs) (k:Hs):s25 (r,k)=some (inR r k):=by
 rw[p5x];unfold q1i inR;cases y3c k r.1<;>rfl
theorem q79 (r:Hs×Hs) (k:Hs):s2y (r,k)=some (inR r k):=by
 rw[p5a];unfold q0v inR;cases y3c k r.1<;>rfl
def q35 (r:Hu t4z.den) (w:Hu u20.den):Bool:=r.any fun x=>w.any fun y=>inR x y.1
def q0g (a b:Hu u20.den):Bool:=a.any fun x=>b.any fun y=>z7o x.1 y.1
end
section
theorem p1z {X R A:Type} (W:X→Ht R) (n:Nat) (mk:A→Int→X) (v:Nat→A) (r:R) (hend:W (mk (v n) (n:Int))=some r)
 (hstep:∀i,i<n→W (mk (v i) (i:Int))=W (mk (v (i+1)) ((i+1:Nat):Int))):W (mk (v 0) 0)=some r:=by
 have:=r6o W n (fun(_:Unit) i=>mk (v i.toNat) i) (fun _ _=>r) (fun _ _=>True) (fun _ _=>by simpa using hend) (fun i a hi _=> .inr ⟨(),trivial,rfl,by
  have h:=hstep i hi
  have e:((i:Int)+1).toNat=i+1:=by omega
  simp only[zTn]
  exact h⟩) 0 () (Cn _) trivial
 simpa using this
theorem o58 {α:Type} (p:α→Bool):∀(l a:Hu α),l.foldl (fun a x=>if p x=true then a++ [x] else a) a=a++l.filter p
 | [],a=>by simp
 | x::l,a=>by
  rw[Bs,o58 p l]
  cases hc:p x<;>simp[hc]
abbrev u2m:=Hs×Hs×Bool×Int
def emp:Hs:=⟨#[]⟩
def o1n (l:Hu u2m) (k:Hs) (snap out:Int) (i:Nat):Int:=
 if z7o (rdL u0d l i).1 k=true∧(rdL u0d l i).2.2.2≤snap∧(out<0∨(rdL u0d l i).2.2.2 >(rdL u0d l out.toNat).2.2.2) then(i:Int) else out
def q5n (l:Hu u2m) (k:Hs) (snap:Int):Nat→Int
 | 0=> -1
 | n+1=>o1n l k snap (q5n l k snap n) n
def t48 (l:Hu u2m) (k:Hs) (snap:Int):Int:=q5n l k snap l.length
theorem q5o (l:Hu u2m) (k:Hs) (snap:Int):∀n,-1≤q5n l k snap n∧q5n l k snap n<(n:Int)
 | 0=>by simp[q5n]
 | n+1=>by
  have:=q5o l k snap n
  simp only[q5n,o1n]
  split<;>omega
theorem q7x (l:Hu u2m) (k:Hs) (snap:Int): -1≤t48 l k snap∧t48 l k snap<(l.length:Int):=q5o l k snap l.length
theorem p32 (l:Hu u2m) (k:Hs) (snap:Int) (hl:l.length≤1099511627776):s8p (l,k,snap)=some (t48 l k snap):=by
 have L:=p1z t7d l.length (fun a i=>(l,k,snap,a,i)) (fun i=>q5n l k snap i) (.inl (t48 l k snap))
  (by rw[q3c];simp only[s2l,u0b,Am,Ah,Aa];rfl)
  (fun i hi=>by
   have hr:=q5o l k snap i
   rw[q3c]
   simp only[s2l,u0b,hi,Ae,Ad,y7t hi,zTn,q5n,o1n]
   rw[y7l (by omega)]
   cases h1:z7o (rdL u0d l i).1 k with
   | false=>simp[h1]
   | true=>
    by_cases h2:(rdL u0d l i).2.2.2≤snap
    ·by_cases h3:q5n l k snap i<0
     ·simp[h1,h2,h3]
     ·have hg:y4q (q5n l k snap i) l.length=true:=y7s.mpr ⟨by omega,by omega⟩
      by_cases h4:(rdL u0d l i).2.2.2 >(rdL u0d l (q5n l k snap i).toNat).2.2.2
      ·simp[h1,h2,h3,h4,hg]
      ·simp[h1,h2,h3,h4,hg]
    ·simp[h1,h2])
 have L:t7d (l,k,snap,-1,0)=_:=L
 rw[o2m];unfold q83
 simp only[L,zOb]
theorem p31 (l:Hu u2m) (k:Hs) (snap:Int) (hl:l.length≤1099511627776):s5d (l,k,snap)=some (t48 l k snap):=by
 have L:=p1z t4q l.length (fun a i=>(l,k,snap,a,l,(l.length:Int),i)) (fun i=>q5n l k snap i) (.inl (t48 l k snap))
  (by rw[r9m];simp only[s0a,u0b,Am,Ah,Aa];rfl)
  (fun i hi=>by
   have hr:=q5o l k snap i
   rw[r9m]
   simp only[s0a,u0b,hi,Ae,Ad,y7t hi,zTn,q5n,o1n]
   rw[y7l (by omega)]
   cases h1:z7o (rdL u0d l i).1 k with
   | false=>simp[h1]
   | true=>
    by_cases h2:(rdL u0d l i).2.2.2≤snap
    ·by_cases h3:q5n l k snap i<0
     ·simp[h1,h2,h3]
     ·have hg:y4q (q5n l k snap i) l.length=true:=y7s.mpr ⟨by omega,by omega⟩
      by_cases h4:(rdL u0d l i).2.2.2 >(rdL u0d l (q5n l k snap i).toNat).2.2.2
      ·simp[h1,h2,h3,h4,hg]
      ·simp[h1,h2,h3,h4,hg]
    ·simp[h1,h2])
 have L:t4q (l,k,snap,-1,l,(l.length:Int),0)=_:=L
 rw[p9j];unfold q4y
 simp only[L,zOb]
def u8c (l:Hu u2m) (k:Hs) (snap:Int):Hs×Bool:=
 if t48 l k snap<0∨(rdL u0d l (t48 l k snap).toNat).2.2.1=true then(emp,false) else((rdL u0d l (t48 l k snap).toNat).2.1,true)
theorem o3n (l:Hu u2m) (k:Hs) (snap:Int) (y:Int) (hy:y=t48 l k snap):
 (((bif decide (y<0) then some true else(bif y4q y l.length then some (rdL u0d l y.toNat).2.2.1 else none)):Ht Bool).bind fun j2=>(bif j2 then some ((⟨#[]⟩:Hs),false) else(bif y4q y l.length then some ((rdL u0d l y.toNat).2.1,true) else none)))=some (u8c l k snap):=by
 subst hy
 have hr:=q7x l k snap
 unfold u8c
 by_cases h:t48 l k snap<0
 ·simp[h,emp]
 ·have hg:y4q (t48 l k snap) l.length=true:=y7s.mpr ⟨by omega,by omega⟩
  cases h2:(rdL u0d l (t48 l k snap).toNat).2.2.1<;>simp[h,hg,h2,emp]
theorem p1w (l:Hu u2m) (k:Hs) (snap:Int) (hl:l.length≤1099511627776):s1f (l,k,snap)=some (u8c l k snap):=by
 rw[p9y];unfold q5d
 simp only[p32 l k snap hl,zOb]
 exact o3n l k snap _ rfl
theorem o4f (l:Hu u2m) (k:Hs) (snap:Int) (hl:l.length≤1099511627776):r24 (l,k,snap)=some (u8c l k snap):=by
 rw[p9f];unfold q4t
 simp only[p31 l k snap hl,zOb]
 exact o3n l k snap _ rfl
theorem o8q (l:Hu u2m) (hl:l.length≤1099511627775):r25 l=some (q7w (l.map fun v=>v.1)):=by
 have L:=s4k s0k l (fun a i=>(a,l,(l.length:Int),i)) (fun _=>true) (fun v=>v.1) (fun a=> .inl a) (by omega)
  (fun a _=>by rw[r9l];simp only[t99,u0b,Am,Ah,Aa])
  (fun i hi a ha=>by
   rw[r9l];simp only[t99,u0b,hi,Ae,Ad,y7t hi,zTn,y8k (t:=u0d) hi,Aw,u0z (show a.length+1≤1099511627776 by omega)]
   rw[y7l (by omega)])
 have hf:l.filter (fun _=>true)=l:=by simp
 rw[hf] at L
 have h1:y7a (l.map fun v=>v.1)=some (y4i (l.map fun v=>v.1)):=by
  unfold y7a;rw[Da,u0z (by omega)];rfl
 have h2:y0m (y4i (l.map fun v=>v.1))=some (q7w (l.map fun v=>v.1)):=by
  unfold y0m;rw[o3q,Da,u0z (by omega)];rfl
 rw[p9i];unfold q4x
 simp only[L,zOb,s51,s3l]
 simp only[h1,h2,zOb]
theorem p3x (l:Hu Hs):(q7w l).length≤l.length:=by
 have:=z6h (y4i l)
 rw[o3q] at this
 exact this
theorem o43 (k:Hs) (r:Hs×Hs) (l:Hu u2m) (j:Int) (out:Hu Hs) (ho:out.length≤1099511627775):
 t2r (l,r,out,j,k, [],0)=some (.inl (l,r,out,j,k,out.filter fun x=>y3c x k)):=by
 have L:=s4k t2r out (fun a i=>(l,r,out,j,k,a,i)) (fun x=>y3c x k) (fun x=>x) (fun a=> .inl (l,r,out,j,k,a)) (by omega)
  (fun a _=>by rw[r6i];simp only[t8n,u0b,Am,Ah,Aa])
  (fun i hi a ha=>by
   rw[r6i];simp only[t8n,u0b,hi,Ae,Ad,y7t hi,zTn,y8k (t:=Ty.str) hi,Aw,u0z (show a.length+1≤1099511627776 by omega)]
   rw[y7l (by omega)])
 rw[Er] at L
 exact L
theorem o2y (k:Hs) (r:Hs×Hs) (l:Hu u2m) (j:Int) (out a0:Hu Hs) (ho:out.length+a0.length≤1099511627775):
 u93 (l,r,out,j,k,a0,0)=some (.inl (l,r,j,a0++out.filter fun x=> !(y3c x k || z7o x k))):=by
 have L:=t00 u93 out (fun a i=>(l,r,out,j,k,a,i)) (fun a x=>if(!(y3c x k || z7o x k))=true then a++ [x] else a) (fun a=> .inl (l,r,j,a)) (fun i a=>a.length≤a0.length+i)
  (fun a _=>by rw[r2j];simp only[t57,u0b,Am,Ah,Aa])
  (fun i hi a ha=>by
   rw[r2j];simp only[t57,u0b,hi,Ae,Ad,y7t hi,zTn,y8k (t:=Ty.str) hi,Aw,u0z (show a.length+1≤1099511627776 by omega)]
   rw[y7l (by omega)]
   cases hc:(!(y3c out[i] k || z7o out[i] k)) with
   | true=>simp;omega
   | false=>simp;omega) a0 (by simp)
 rw[o58 (fun x=> !(y3c x k || z7o x k))] at L
 exact L
theorem j04 (k:Hs) (l:Hu Hs):(o78 k l).length≤l.length+1:=by
 unfold o78
 have h:(fun x=> !(y3c x k || z7o x k))=fun x=>y3c k x:=by funext x;exact o2u
 rw[h]
 have:(l.filter fun x=>y3c x k).length+(l.filter fun x=>y3c k x).length≤l.length:=by
  induction l with
  | nil=>simp
  | cons x l ih=>
   simp only[Di]
   cases h1:y3c x k with
   | true=>rw[r3f h1];simp;omega
   | false=>cases h2:y3c k x<;>simp<;>omega
 simp
 omega
theorem o8r (l:Hu u2m) (r:Hs×Hs) (hl:l.length≤500000000000):s9w (l,r)=some ((q7w (l.map fun v=>v.1)).filter fun k=>inR r k):=by
 have L:=t00 t80 l (fun a i=>(l,r,a,i)) (fun a v=>if inR r v.1=true then o78 v.1 a else a) (fun a=> .inl a) (fun i a=>a.length≤i)
  (fun a _=>by rw[r6h];simp only[t8m,u0b,Am,Ah,Aa])
  (fun i hi a ha=>by
   rw[r6h];simp only[t8m,u0b,hi,Ae,Ad,y7t hi,zTn,y8k (t:=u0d) hi,q8a,zOb]
   cases hc:inR r l[i].1 with
   | false=>
    simp only[Bh,Ad,Br,Bk]
    rw[y7l (by omega)]
    exact⟨by omega,rfl⟩
   | true=>
    have hlow:(a.filter fun x=>y3c x l[i].1).length≤a.length:=Cs _ _
    simp only[Ap,Aa,Bl,o43 l[i].1 r l (i:Int) a (by omega),zOb,Aw,u0z (show(a.filter fun x=>y3c x l[i].1).length+1≤1099511627776 by omega),Ad,
     o2y l[i].1 r l (i:Int) a (a.filter (fun x=>y3c x l[i].1)++ [l[i].1]) (by simp;omega)]
    rw[y7l (by omega)]
    exact⟨A9 (j04 _ _) (by omega),rfl⟩) [] (by simp)
 rw[p6k];unfold q16
 simp only[L,zOb]
 have hfold:∀(m:Hu u2m) (a:Hu Hs),m.foldl (fun a v=>if inR r v.1=true then o78 v.1 a else a) a=((m.map fun v=>v.1).filter fun k=>inR r k).foldl (fun a k=>o78 k a) a:=by
  intro m
  induction m with
  | nil=>intro a;rfl
  | cons x m ih=>
   intro a
   rw[Bs,ih]
   cases hc:inR r x.1<;>simp[hc]
 rw[hfold,j3p]
def o3l (l:Hu u2m) (r:Hs×Hs) (snap:Int):Hu (Hs×Hs):=
 ((q7w (l.map fun v=>v.1)).filter fun k=>(u8c l k snap).2&&inR r k).map fun k=>(k,(u8c l k snap).1)
theorem p1t (l:Hu u2m) (r:Hs×Hs) (snap:Int) (hl:l.length≤500000000000):s5c (l,r,snap)=some (o3l l r snap):=by
 obtain⟨ks,hks⟩:∃ks,ks=q7w (l.map fun v=>v.1):=⟨_,rfl⟩
 have hkl:ks.length≤l.length:=by
  rw[hks]
  refine A9 (p3x _) (by simp)
 have L:=s4k s0j ks (fun a i=>(l,snap,r,a,ks,(ks.length:Int),i)) (fun k=>(u8c l k snap).2&&inR r k) (fun k=>(k,(u8c l k snap).1)) (fun a=> .inl a) (by omega)
  (fun a _=>by rw[r9k];simp only[t98,u0b,Am,Ah,Aa])
  (fun i hi a ha=>by
   rw[r9k];simp only[t98,u0b,hi,Ae,Ad,y7t hi,zTn,y8k (t:=Ty.str) hi,o4f l _ snap (show l.length≤1099511627776 by omega),q79,zOb,Aw,u0z (show a.length+1≤1099511627776 by omega)]
   rw[y7l (by omega)]
   cases (u8c l ks[i] snap).2<;>rfl)
 rw[p9d];unfold q4r
 simp only[o8q l (show l.length≤1099511627775 by omega),zOb]
 rw[←hks]
 simp only[L,zOb]
 rw[hks]
 rfl
theorem o7x (l:Hu u2m) (r:Hs×Hs) (snap:Int):(o3l l r snap).length≤l.length:=by
 unfold o3l
 rw[Da]
 refine A9 (Cs _ _) (A9 (p3x _) (by simp))
end
section
theorem r94 {E:Type} (p:E→Bool):∀(l:Hu E),(l.takeWhile p).length≤l.length∧(∀(i:Nat) (h:i<l.length),i<(l.takeWhile p).length→p l[i] =true)∧
 (∀(h:(l.takeWhile p).length<l.length),p l[(l.takeWhile p).length] =false)∧l.takeWhile p=l.take (l.takeWhile p).length∧l.dropWhile p=l.drop (l.takeWhile p).length
 | [] =>⟨Au _,fun i h=>absurd h (Ee i),fun h=>absurd h (Ee _),rfl,rfl⟩
 | x::l=>by
  obtain⟨h1,h2,h3,h4,h5⟩:=r94 p l
  cases hp:p x with
  | false=>
   simp only[F8,hp,List.dropWhile_cons,Br,Bk,Cc]
   exact⟨Cn _,fun i _ h=>absurd h (Ee i),fun _=>hp,rfl,rfl⟩
  | true=>
   simp only[F8,hp,List.dropWhile_cons,Bl,Bc]
   refine⟨by omega,fun i h k=> ?_,fun h=> ?_,?_,?_⟩
   ·cases i with
    | zero=>exact hp
    | succ i=>simpa using h2 i (by simpa using h) (by omega)
   ·simpa using h3 (by omega)
   ·rw[List.take_succ_cons,←h4]
   ·rw[List.drop_succ_cons,←h5]
theorem j5d {X R E:Type} (W:X→Ht R) (l:Hu E) (mk:Hu E→Int→X) (p:E→Bool) (fin:Hu E→Int→R)
 (hend:W (mk l (l.length:Int))=some (fin l (l.length:Int)))
 (hstep:∀(i:Nat) (h:i<l.length),W (mk (l.take i) (i:Int))=bif p l[i] then W (mk (l.take (i+1)) ((i+1:Nat):Int)) else some (fin (l.take i) (i:Int))):
 W (mk [] 0)=some (fin (l.takeWhile p) ((l.takeWhile p).length:Int)):=by
 obtain⟨h1,h2,h3,h4,_⟩:=r94 p l
 have:=r6o W (l.takeWhile p).length (fun(a:Hu E) i=>mk a i) (fun _ _=>fin (l.takeWhile p) ((l.takeWhile p).length:Int)) (fun i a=>a=l.take i)
  (fun a ha=>by
   rw[ha]
   by_cases hk:(l.takeWhile p).length<l.length
   ·rw[hstep _ hk,h3 hk,Aa,←h4]
   ·have e:(l.takeWhile p).length=l.length:=by omega
    have e2:l.takeWhile p=l:=by rw[h4,e];exact Cq
    rw[e2,Cq]
    exact hend)
  (fun i a hi ha=> .inr ⟨_,rfl,rfl,by rw[ha,hstep i (by omega),h2 i (by omega) hi,Ad]⟩) 0 [] (Cn _) (by simp)
 exact this
theorem j3j {X R E:Type} (W:X→Ht R) (l:Hu E) (mk:Int→X) (p:E→Bool) (yes:Int→R) (no:R)
 (hend:W (mk (l.length:Int))=some no)
 (hstep:∀(i:Nat) (h:i<l.length),W (mk (i:Int))=bif p l[i] then W (mk ((i+1:Nat):Int)) else some (yes (i:Int))):
 W (mk 0)=some (if(l.takeWhile p).length<l.length then yes ((l.takeWhile p).length:Int) else no):=by
 obtain⟨h1,h2,h3,_,_⟩:=r94 p l
 have:=r6o W (l.takeWhile p).length (fun(_:Unit) i=>mk i) (fun _ _=>if(l.takeWhile p).length<l.length then yes ((l.takeWhile p).length:Int) else no) (fun _ _=>True)
  (fun a _=>by
   by_cases hk:(l.takeWhile p).length<l.length
   ·rw[hstep _ hk,h3 hk,Aa,Al hk]
   ·have e:(l.takeWhile p).length=l.length:=by omega
    rw[Ao hk,e]
    exact hend)
  (fun i a hi _=> .inr ⟨(),trivial,rfl,by rw[hstep i (by omega),h2 i (by omega) hi,Ad]⟩) 0 () (Cn _) trivial
 exact this
def u9j (v y:u2m):Bool:=y3c y.1 v.1 || (z7o y.1 v.1&&decide (y.2.2.2≤v.2.2.2))
def o6h (l:Hu u2m) (v:u2m):Hu u2m:=l.takeWhile (u9j v)++ [v] ++l.dropWhile (u9j v)
def t9k (l:Hu u2m) (ws:Hu u20.den) (cs:Int):Hu u2m:=ws.foldl (fun l w=>o6h l (w.1,w.2.1,w.2.2,cs)) l
theorem o0d (l:Hu u2m) (v:u2m):(o6h l v).length=l.length+1:=by
 have:l.length=(l.takeWhile (u9j v)).length+(l.dropWhile (u9j v)).length:=by rw[←Ba,Fe]
 simp[o6h]
 omega
theorem p39:∀(ws:Hu u20.den) (l:Hu u2m) (cs:Int),(t9k l ws cs).length=l.length+ws.length
 | [],l,cs=>rfl
 | w::ws,l,cs=>by
  have:=p39 ws (o6h l (w.1,w.2.1,w.2.2,cs)) cs
  unfold t9k at this ⊢
  rw[Bs,this,o0d]
  simp
  omega
theorem j3v (l:Hu u2m) (v:u2m):o6h l v=l.take (l.takeWhile (u9j v)).length++ [v] ++l.drop (l.takeWhile (u9j v)).length:=by
 obtain⟨_,_,_,h4,h5⟩:=r94 (u9j v) l
 unfold o6h
 rw[←h4,←h5]
theorem p65 (a b:Hs):t68 (a,b)=some (if y3c a b then -1 else if z7o a b then 0 else 1):=by
 have ns:∀x,t4a x=some false:=fun x=>by
  rw[q5t];unfold s7o
  have:z7o x x=true:=by simp[z7o]
  rw[this];rfl
 rw[r99];unfold s4l
 simp only[ns,zOb,Aa]
 cases y3c a b<;>cases z7o a b<;>rfl
theorem o8g (a b:Int):s1x (a,b)=some (if a<b then -1 else if a >b then 1 else 0):=by
 have ns:∀x,s0x x=some false:=fun x=>by
  rw[p2f];unfold r6x
  simp
 rw[q68];unfold s92
 simp only[ns,zOb,Aa]
 by_cases h:a<b
 ·simp[h]
 ·by_cases h2:a >b<;>simp[h,h2]
theorem j3f (y v:u2m):t69 (y,v)=some (!u9j v y):=by
 rw[q0a];unfold s4m
 rw[s3k];unfold t4x
 simp only[p65,zOb]
 unfold u9j
 cases h1:y3c y.1 v.1 with
 | true=>simp
 | false=>
  cases h2:z7o y.1 v.1 with
  | false=>simp
  | true=>
   simp only[Br,Bk,Bl,Ae,Ap,Aa,o8g,zOb,Ci,Bz]
   by_cases h3:y.2.2.2<v.2.2.2
   ·have:y.2.2.2≤v.2.2.2:=by omega
    simp[h3,this]
   ·by_cases h4:y.2.2.2 >v.2.2.2
    ·have: ¬y.2.2.2≤v.2.2.2:=by omega
     simp[h3,h4,this]
    ·have:y.2.2.2≤v.2.2.2:=by omega
     simp[h3,h4,this]
theorem o8p (l:Hu u2m) (v:u2m) (hl:l.length≤1099511627775):u11 (l,v)=some (if(l.takeWhile (u9j v)).length<l.length then((l.takeWhile (u9j v)).length:Int) else -1):=by
 have L:=j3j u0v l (fun i=>(l,v,(l.length:Int),i)) (u9j v) (fun i=> .inr i) (.inl ())
  (by rw[u2y];simp only[u0u,u0b,Am,Ah,Aa])
  (fun i hi=>by
   rw[u2y]
   simp only[u0u,u0b,hi,Ae,Ad,y7t hi,zTn,y8k (t:=u0d) hi,j3f,zOb]
   rw[y7l (by omega)]
   cases u9j v l[i] <;>rfl)
 rw[u78];unfold u25
 simp only[L,zOb]
 by_cases h:(l.takeWhile (u9j v)).length<l.length
 ·simp only[Al h]
 ·simp only[Ao h]
theorem p69 (l:Hu u2m) (v:u2m) (k:Nat) (hk:k≤l.length) (hl:l.length≤1099511627775):u38 (l,(k:Int), [v])=some (l.take k++ [v] ++l.drop k):=by
 rw[s49]
 unfold y2q
 have h1:decide ((0:Int)≤(k:Int))=true:=by simp
 have h2:decide ((k:Int)≤(l.length:Int))=true:=by simpa using hk
 simp only[h1,h2,u0z (show l.length+1≤1099511627776 by omega),Bz,Aw,zTn]
 rfl
theorem q9q (l:Hu u2m) (ws:Hu u20.den) (cs:Int) (hl:l.length+ws.length≤1000000000000):t4b (l,ws,cs)=some (t9k l ws cs):=by
 have L:=t00 u9q ws (fun a i=>(cs,a,ws,(ws.length:Int),i)) (fun l w=>o6h l (w.1,w.2.1,w.2.2,cs)) (fun a=> .inl a) (fun i a=>a.length=l.length+i)
  (fun a _=>by rw[s41];simp only[u9m,u0b,Am,Ah,Aa])
  (fun i hi a ha=>by
   have hal:a.length≤1099511627775:=by omega
   rw[s41]
   simp only[u9m,u0b,hi,Ae,Ad,y7t hi,zTn,y8k (t:=u20) hi,o8p a _ hal,zOb]
   refine⟨by rw[o0d];omega,?_⟩
   obtain⟨t1,_⟩:=r94 (u9j (ws[i].1,ws[i].2.1,ws[i].2.2,cs)) a
   rw[j3v,y7l (by omega)]
   by_cases hk:(a.takeWhile (u9j (ws[i].1,ws[i].2.1,ws[i].2.2,cs))).length<a.length
   ·rw[Al hk]
    have:decide (((a.takeWhile (u9j (ws[i].1,ws[i].2.1,ws[i].2.2,cs))).length:Int)<0)=false:=by simp
    simp only[this,Aa,p69 a _ _ t1 hal,zOb]
   ·rw[Ao hk]
    have e:(a.takeWhile (u9j (ws[i].1,ws[i].2.1,ws[i].2.2,cs))).length=a.length:=by omega
    have:decide ((-1:Int)<0)=true:=by decide
    simp only[this,Ad,p69 a _ _ (Au _) hal,zOb]
    rw[e]) l (by simp)
 rw[q5u];unfold s7p
 simp only[u0z (show l.length≤1099511627776 by omega),Ad,L,zOb]
 rfl
theorem j0v (ws:Hu u20.den) (cs:Int) (l:Hu u2m) (j:Int) (v:u2m) (hl:l.length≤1000000000000):
 u7e (ws,cs,l,j,v, [],0)=some (.inl (ws,cs,l,j,v,l.takeWhile (u9j v),((l.takeWhile (u9j v)).length:Int))):=
 j5d u7e l (fun a i=>(ws,cs,l,j,v,a,i)) (u9j v) (fun a i=> .inl (ws,cs,l,j,v,a,i))
  (by rw[s43];simp only[u9o,u0b,Am,Ah,Aa,zOb])
  (fun i hi=>by
   rw[s43]
   have hb:((l.take i).length+ [l[i]].length)≤1099511627776:=by simp;omega
   simp only[u9o,u0b,hi,Ae,Ad,y7t hi,zTn,y8k (t:=u0d) hi,u0z hb]
   rw[y7l (by omega),B9 hi]
   unfold u9j
   cases h1:y3c l[i].1 v.1 with
   | true=>simp
   | false=>
    cases h2:z7o l[i].1 v.1 with
    | false=>simp
    | true=>
     by_cases h3:l[i].2.2.2≤v.2.2.2<;>simp[h3])
theorem q9r (l:Hu u2m) (ws:Hu u20.den) (cs:Int) (hl:l.length+ws.length≤1000000000000):t4c (l,ws,cs)=some (t9k l ws cs):=by
 have L:=t00 u9r ws (fun a i=>(ws,cs,a,i)) (fun l w=>o6h l (w.1,w.2.1,w.2.2,cs)) (fun a=> .inl a) (fun i a=>a.length=l.length+i)
  (fun a _=>by rw[s42];simp only[u9n,u0b,Am,Ah,Aa])
  (fun i hi a ha=>by
   have hal:a.length≤1000000000000:=by omega
   rw[s42]
   simp only[u9n,u0b,hi,Ae,Ad,y7t hi,zTn,y8k (t:=u20) hi,j0v ws cs a _ _ hal,zOb]
   obtain⟨v,hv⟩:∃v:u2m,v=(ws[i].1,ws[i].2.1,ws[i].2.2,cs):=⟨_,rfl⟩
   rw[←hv]
   obtain⟨t1,_,_,t4,t5⟩:=r94 (u9j v) a
   refine⟨by rw[o0d];omega,?_⟩
   have g1:decide ((0:Int)≤((a.takeWhile (u9j v)).length:Int))=true:=by simp
   have g2:decide (((a.takeWhile (u9j v)).length:Int)≤(a.length:Int))=true:=by simpa using t1
   have g3:decide ((a.length:Int)≤(a.length:Int))=true:=by simp
   have b1:(a.takeWhile (u9j v)).length+ [v].length≤1099511627776:=by simp;omega
   have b2:(a.takeWhile (u9j v)++ [v]).length+(a.drop (a.takeWhile (u9j v)).length).length≤1099511627776:=by simp;omega
   simp only[g1,g2,g3,Bz,u0z b1,Ad,Cq,u0z b2]
   rw[y7l (by omega),←t5]
   rfl) l (by simp)
 rw[q51];unfold s7v
 simp only[Cc,Co,Cf,u0z (show l.length≤1099511627776 by omega),Ad,L,zOb]
 rfl
end
section
abbrev PrT:=Hs×Hs
theorem o9i {a b:Hu PrT} (h:a.length=b.length):(bif (a.zip b).any (fun p=> !(z7o p.1.1 p.2.1&&(z7o p.1.2 p.2.2&&true))) then false else true)=decide (a=b):=by
 induction a generalizing b with
 | nil=>
  cases b with
  | nil=>rfl
  | cons _ _=>simp at h
 | cons x a ih=>
  cases b with
  | nil=>simp at h
  | cons y b=>
   have ih:=ih (b:=b) (by simpa using h)
   simp only[List.zip_cons_cons,Gd]
   by_cases h1:x.1=y.1
   ·by_cases h2:x.2=y.2
    ·have hxy:x=y:=Prod.ext h1 h2
     subst hxy
     rw[y6l,y6l]
     simp only[Dt,Ap,Ci,ih]
     simp
    ·have:=o5i.mpr h2
     rw[this]
     have hne: ¬(x::a=y::b):=fun e=>h2 (by injection e with e;rw[e])
     simp[hne]
   ·have:=o5i.mpr h1
    rw[this]
    have hne: ¬(x::a=y::b):=fun e=>h1 (by injection e with e;rw[e])
    simp[hne]
theorem o64 (a b:Hu PrT) (ha:a.length≤1099511627776):t0e (a,b)=some (decide (a=b)):=by
 rw[r0q];unfold t9u
 by_cases h:a.length=b.length
 ·have hz:(a.zip b).length=a.length:=by simp[h]
  have L:=s7g u5v (a.zip b) (fun i=>(a,b,(a.length:Int),i)) (fun p=> !(z7o p.1.1 p.2.1&&(z7o p.1.2 p.2.2&&true))) (.inr false) (.inl ())
   (by rw[t64,hz];simp only[u5u,u0b,Am,Ah,Aa])
   (fun i hi=>by
    have hi1:i<a.length:=by omega
    have hi2:i<b.length:=by omega
    rw[t64];simp only[u5u,u0b,hi1,Ae,Ad,y7t hi1,y7t hi2,zTn,y8k (t:=j5f) hi1,y8k (t:=j5f) hi2,List.getElem_zip]
    rw[y7l (by omega)])
  have e1:decide ((a.length:Int)=(b.length:Int))=true:=by simp[h]
  simp only[e1,Ap,Aa,L,zOb]
  rw[←o9i h]
  cases (a.zip b).any fun p=> !(z7o p.1.1 p.2.1&&(z7o p.1.2 p.2.2&&true))<;>rfl
 ·have e1:decide ((a.length:Int)=(b.length:Int))=false:=by simp;omega
  have e2:decide (a=b)=false:=by
   rw[Bu];intro e;exact h (by rw[e])
  rw[e1,e2];rfl
end
section
theorem o1i (r:Hu t4z.den) (w:Hu u20.den) (hr:r.length≤u0j) (hw:w.length≤u0j):s9r (r,w)=some (q35 r w):=by
 unfold u0j at hr hw
 have inner:∀(i:Nat) (hi:i<r.length),t2m (r,w,(i:Int),0)=some (bif w.any (fun y=>inR r[i] y.1) then .inr true else .inl (r,w,(i:Int))):=fun i hi=>
  s7g t2m w (fun j=>(r,w,(i:Int),j)) (fun y=>inR r[i] y.1) _ _ (by
   rw[r6d];simp only[t8j,u0b,Am,Ah,Aa]) (fun j hj=>by
   rw[r6d];simp only[t8j,u0b,hj,Ae,Ad,y7t hi,y7t hj,zTn,y8k hi,y8k hj,q8a,zOb]
   rw[y7l (by omega)])
 have outer:=s7g t8z r (fun i=>(r,w,i)) (fun x=>w.any fun y=>inR x y.1) (.inr true) (.inl ()) (by
  rw[r6c];simp only[t8i,u0b,Am,Ah,Aa]) (fun i hi=>by
  rw[r6c];simp only[t8i,u0b,hi,Ae,Ad,inner i hi,zOb]
  have ws:=y7l (i:=i) (by omega)
  cases w.any fun y=>inR r[i] y.1<;>simp only[Ad,Aa,ws])
 rw[p57];unfold q1s
 simp only[outer,zOb]
 unfold q35
 cases r.any fun x=>w.any fun y=>inR x y.1<;>rfl
theorem o63 (r w:Hu u20.den) (hr:r.length≤u0j) (hw:w.length≤u0j):s8n (r,w)=some (q0g r w):=by
 unfold u0j at hr hw
 have inner:∀(i:Nat) (hi:i<r.length),t7c (r,w,(i:Int),0)=some (bif w.any (fun y=>z7o r[i].1 y.1) then .inr true else .inl (r,w,(i:Int))):=fun i hi=>
  s7g t7c w (fun j=>(r,w,(i:Int),j)) (fun y=>z7o r[i].1 y.1) _ _ (by
   rw[q29];simp only[s2i,u0b,Am,Ah,Aa]) (fun j hj=>by
   rw[q29];simp only[s2i,u0b,hj,Ae,Ad,y7t hi,y7t hj,zTn,y8k hi,y8k hj,zOb]
   rw[y7l (by omega)])
 have outer:=s7g s2q r (fun i=>(r,w,i)) (fun x=>w.any fun y=>z7o x.1 y.1) (.inr true) (.inl ()) (by
  rw[q28];simp only[s2h,u0b,Am,Ah,Aa]) (fun i hi=>by
  rw[q28];simp only[s2h,u0b,hi,Ae,Ad,inner i hi,zOb]
  have ws:=y7l (i:=i) (by omega)
  cases w.any fun y=>z7o r[i].1 y.1<;>simp only[Ad,Aa,ws])
 rw[o2i];unfold q8z
 simp only[outer,zOb]
 unfold q0g
 cases r.any fun x=>w.any fun y=>z7o x.1 y.1<;>rfl
theorem o1h (r:Hu t4z.den) (w:Hu u20.den) (hr:r.length≤u0j) (hw:w.length≤u0j):s9h (r,w)=some (q35 r w):=by
 unfold u0j at hr hw
 have inner:∀(i:Nat) (hi:i<r.length),t2b (w,r[i],r,(r.length:Int),(i:Int),w,(w.length:Int),0)=some (bif w.any (fun y=>inR r[i] y.1) then .inr true else .inl (w,r,(r.length:Int),(i:Int))):=fun i hi=>
  s7g t2b w (fun j=>(w,r[i],r,(r.length:Int),(i:Int),w,(w.length:Int),j)) (fun y=>inR r[i] y.1) _ _ (by
   rw[r5v];simp only[t73,u0b,Am,Ah,Aa]) (fun j hj=>by
   rw[r5v];simp only[t73,u0b,hj,Ae,Ad,y7t hi,y7t hj,zTn,y8k hi,y8k hj,q79,zOb]
   rw[y7l (by omega)])
 have outer:=s7g t8t r (fun i=>(w,r,(r.length:Int),i)) (fun x=>w.any fun y=>inR x y.1) (.inr true) (.inl ()) (by
  rw[r5u];simp only[t72,u0b,Am,Ah,Aa]) (fun i hi=>by
  rw[r5u];simp only[t72,u0b,hi,Ae,Ad,y7t hi,zTn,y8k hi,inner i hi,zOb]
  have ws:=y7l (i:=i) (by omega)
  cases w.any fun y=>inR r[i] y.1<;>simp only[Ad,Aa,ws])
 rw[p5j];unfold q04
 simp only[outer,zOb]
 unfold q35
 cases r.any fun x=>w.any fun y=>inR x y.1<;>rfl
theorem o62 (r w:Hu u20.den) (hr:r.length≤u0j) (hw:w.length≤u0j):s8j (r,w)=some (q0g r w):=by
 unfold u0j at hr hw
 have inner:∀(i:Nat) (hi:i<r.length),t7b (w,r[i],r,(r.length:Int),(i:Int),w,(w.length:Int),0)=some (bif w.any (fun y=>z7o r[i].1 y.1) then .inr true else .inl (w,r,(r.length:Int),(i:Int))):=fun i hi=>
  s7g t7b w (fun j=>(w,r[i],r,(r.length:Int),(i:Int),w,(w.length:Int),j)) (fun y=>z7o r[i].1 y.1) _ _ (by
   rw[q25];simp only[s2e,u0b,Am,Ah,Aa]) (fun j hj=>by
   rw[q25];simp only[s2e,u0b,hj,Ae,Ad,y7t hi,y7t hj,zTn,y8k hi,y8k hj,zOb]
   rw[y7l (by omega)])
 have outer:=s7g s2n r (fun i=>(w,r,(r.length:Int),i)) (fun x=>w.any fun y=>z7o x.1 y.1) (.inr true) (.inl ()) (by
  rw[q24];simp only[s2d,u0b,Am,Ah,Aa]) (fun i hi=>by
  rw[q24];simp only[s2d,u0b,hi,Ae,Ad,y7t hi,zTn,y8k hi,inner i hi,zOb]
  have ws:=y7l (i:=i) (by omega)
  cases w.any fun y=>z7o r[i].1 y.1<;>simp only[Ad,Aa,ws])
 rw[o1y];unfold q8o
 simp only[outer,zOb]
 unfold q0g
 cases r.any fun x=>w.any fun y=>z7o x.1 y.1<;>rfl
def q86 (a b:u0x.den):Bool:=
 decide (a.2.1=3)&&decide (b.2.1=3)&& !decide (a.1=b.1)&&
 (decide (a.2.2.2.1≤b.2.2.1)&&q35 b.2.2.2.2.1 a.2.2.2.2.2.1 || decide (a.2.2.2.1<b.2.2.2.1)&&q0g a.2.2.2.2.2.1 b.2.2.2.2.2.1 || decide (b.2.2.2.1 >a.2.2.1)&&q35 a.2.2.2.2.1 b.2.2.2.2.2.1)
theorem p3w (a:u0x.den):u86 a=some (decide (a.2.1=3)):=by
 rw[s0t];rfl
end
section
def d1q (l:Hu u0x.den) (j i:Nat):Bool:=q86 (rdL u0x l j) (rdL u0x l i)
def j5z (l:Hu u0x.den) (t:Hu Nat) (i:Nat):Bool:= !t.contains i&& !(List.range l.length).any (fun j=> !decide (j=i)&&(!t.contains j&&d1q l j i))
def j1h (l:Hu u0x.den) (t:Hu Nat):Ht Nat:=(List.range l.length).find? (j5z l t)
def j50 (l:Hu u0x.den):Nat→Hu Nat→Ht (Hu Nat)
 | 0,t=>some t
 | k+1,t=>match j1h l t with
  | none=>none
  | some i=>j50 l k (t++ [i])
def j8l (l:Hu u0x.den):Ht (Hu Nat):=j50 l l.length []
section
variable {l:Hu u0x.den} (hw:∀x∈l,u0x.wt x≤u0j) (hl:l.length≤1048576)
include hw hl
end
end
section
def j8o (l:Hu u0x.den):Nat:=(l.map fun t=>t.2.2.2.2.2.1.length).sum
section
variable {l:Hu u0x.den} (hw:∀x∈l,u0x.wt x≤u0j) (hl:l.length+j8o l≤1048576) (hr:∀x∈l,x.2.2.2.2.1.length≤1048576)
include hl
include hr
include hw
end
end
section
abbrev Src:=Hu Int×Int×Int
def Src.ok (s:Src):Prop:=s.1.length≤1048576∧0≤s.2.1∧s.2.1≤(s.1.length:Int)
def Dr {T:Type} (F:Ht (T×Src)) (p:T→Prop):Prop:= ∃y s,F=some (y,s)∧s.ok∧p y
theorem o55 (v:BitVec IntKind.i64.bits):0≤IntKind.i64.wrap ((v&&&BitVec.ofInt IntKind.i64.bits 255).toNat:Int)∧IntKind.i64.wrap ((v&&&BitVec.ofInt IntKind.i64.bits 255).toNat:Int)<256:=by
 have h:(v&&&BitVec.ofInt IntKind.i64.bits 255).toNat≤255:=by
  rw[BitVec.toNat_and]
  exact A9 Nat.and_le_right (by decide)
 rw[y4y (by omega) (by omega)]
 omega
theorem p1l {s:Src} (h:s.ok):Dr (u9h s) (fun y=>0≤y∧y<256):=by
 obtain⟨l,p,z⟩:=s
 obtain⟨h1,h2,h3⟩:=h
 simp only at h1 h2 h3
 rw[p6b];unfold q1w
 simp only
 by_cases hp:p<(l.length:Int)
 ·have hg:y4q p l.length=true:=by simp[y4q,h2,hp]
  simp only[hp,Ae,Ad,hg]
  exact⟨_,_,rfl,⟨h1,by simp only;rw[y4y (by omega) (by omega)];omega,by simp only;rw[y4y (by omega) (by omega)];omega⟩,o55 _⟩
 ·simp only[hp,Ah,Aa]
  exact⟨_,_,rfl,⟨h1,h2,h3⟩,o55 _⟩
theorem o6n {a n:Int} (ha:0≤a) (hn:0<n):0≤Int.tmod a n∧Int.tmod a n<n:=⟨Int.tmod_nonneg _ ha,Int.tmod_lt_of_pos _ hn⟩
theorem q4c {s:Src} (h:s.ok) {n:Int} (hn:0<n):Dr (u5a (s,n)) (fun y=>0≤y∧y<n):=by
 rw[p3j];unfold r71
 have h0:decide (n≤0)=false:=by simp;omega
 have h0' :(!decide (n=0))=true:=by simp;omega
 simp only[h0,Aa,h0',Ad]
 by_cases h1:n≤256
 ·simp only[h1,Ae,Ad]
  obtain⟨y,s1,e1,k1,r1⟩:=p1l h
  simp only[e1,zOb]
  exact⟨_,_,rfl,k1,o6n r1.1 hn⟩
 ·simp only[h1,Ah,Aa]
  obtain⟨y1,s1,e1,k1,r1⟩:=p1l h
  obtain⟨y2,s2,e2,k2,r2⟩:=p1l k1
  obtain⟨y3,s3,e3,k3,r3⟩:=p1l k2
  obtain⟨y4,s4,e4,k4,r4⟩:=p1l k3
  simp only[e1,e2,e3,e4,zOb]
  refine⟨_,_,rfl,k4,o6n ?_ hn⟩
  rw[y4y (n:=y1*16777216) (by omega) (by omega),y4y (n:=y2*65536) (by omega) (by omega),y4y (n:=y3*256) (by omega) (by omega),y4y (n:=y1*16777216+y2*65536) (by omega) (by omega),
   y4y (n:=y1*16777216+y2*65536+y3*256) (by omega) (by omega),y4y (n:=y1*16777216+y2*65536+y3*256+y4) (by omega) (by omega)]
  omega
theorem p8m {s:Src} (h:s.ok) {n:Int} (hn:0<n):Dr (u23 (s,n)) (fun _=>True):=by
 rw[p6d];unfold q1y
 obtain⟨y,s1,e1,k1,r1⟩:=q4c h hn
 simp only[e1,zOb]
 exact⟨_,_,rfl,k1,trivial⟩
theorem p8n {s:Src} (h:s.ok) {l:Hu Hs} (hl:0<l.length):Dr (u2q (s,l)) (fun y=>y∈l):=by
 rw[p6e];unfold q1z
 obtain⟨y,s1,e1,k1,r1⟩:=q4c h (n:=(l.length:Int)) (by omega)
 obtain⟨i,rfl⟩:∃i:Nat,y=(i:Int):=⟨y.toNat,by omega⟩
 have hi:i<l.length:=by omega
 simp only[e1,zOb,y7t hi,Ad,zTn]
 exact⟨_,_,rfl,k1,by show rdL Ty.str l i∈l;have h:rdL Ty.str l i=l[i] :=y8k (t:=Ty.str) (l:=l) hi;rw[h];exact Ag hi⟩
theorem j5b {l:Hu Int} (hl:l.length≤1048576):∃s:Src,r3c l=some s∧s.ok:=by
 have key:∀(d i:Nat) (z:Int),i≤l.length→l.length - i≤d→ ∃z',t4v (l,z,(i:Int))=some (.inl (l,z')):=by
  intro d
  induction d with
  | zero=>
   intro i z hi hd
   have:i=l.length:=by omega
   subst this
   rw[s7a]
   simp only[t4m,u0b,Am,Ah,Aa,zOb]
   exact⟨_,rfl⟩
  | succ d ih=>
   intro i z hi hd
   by_cases h:i<l.length
   ·rw[s7a]
    simp only[t4m,u0b,h,Ae,Ad,zOb,y7t h]
    rw[y7l (by omega)]
    cases decide ((i:Int)<4000) with
    | false=>exact⟨_,rfl⟩
    | true=>exact ih (i+1) _ (by omega) (by omega)
   ·have:i=l.length:=by omega
    subst this
    rw[s7a]
    simp only[t4m,u0b,Am,Ah,Aa,zOb]
    exact⟨_,rfl⟩
 obtain⟨z',hz⟩:=key l.length 0 (IntKind.i64.wrap (77601+(l.length:Int))) (Cn _) (by omega)
 rw[p90];unfold q5f
 have hz' :t4v (l,IntKind.i64.wrap (77601+(l.length:Int)),0)=_:=hz
 simp only[hz',zOb]
 exact⟨_,rfl,hl,Bv _,by simp only;omega⟩
def o0y (l:Hu u20.den) (w:u20.den):Hu u20.den:=l.filter (fun x=>y3c x.1 w.1)++ [w] ++l.filter (fun x=> !(y3c x.1 w.1 || z7o x.1 w.1))
theorem p8o (l:Hu u20.den) (w:u20.den) (hl:l.length≤1048576):s6s (l,w)=some (o0y l w):=by
 have L1:=s4k t6h l (fun a i=>(l,w,a,i)) (fun x=>y3c x.1 w.1) (fun x=>x) (fun a=> .inl (l,w,a)) (by omega) (fun a ha=>by
  rw[r2a];simp only[t5v,u0b,Am,Ah,Aa]) (fun i hi a ha=>by
  have hc:Nat.ble (a.length+([l[i]] :Hu u20.den).length) z7w=true:=by
   rw[Nat.ble_eq];simp only[Bc,Cc,z7w];omega
  rw[r2a];simp only[t5v,u0b,hi,Ae,Ad,y7t hi,zTn,y8k hi]
  rw[y7l (by omega),hc]
  rfl)
 simp only[Er] at L1
 have L2:=t00 t6i l (fun a i=>(l,w,a,i)) (fun(a:Hu u20.den) x=>if y3c x.1 w.1 || z7o x.1 w.1 then a else a++ [x]) (fun a=> .inl a) (fun i a=>a.length≤1048577+i) (fun a ha=>by
  rw[r2b];simp only[t5w,u0b,Am,Ah,Aa]) (fun i hi a ha=>by
  have hc:Nat.ble (a.length+([l[i]] :Hu u20.den).length) z7w=true:=by
   rw[Nat.ble_eq];simp only[Bc,Cc,z7w];omega
  rw[r2b];simp only[t5w,u0b,hi,Ae,Ad,y7t hi,zTn,y8k hi]
  rw[y7l (by omega),hc]
  cases hq:y3c l[i].1 w.1 || z7o l[i].1 w.1 with
  | true=>simp only[Ap,Aa,Bl];refine⟨by omega,?_⟩;trivial
  | false=>simp only[Bh,Ad,Br,Bk];refine⟨by simp;omega,?_⟩;trivial)
 have key:∀(l:Hu u20.den) (a:Hu u20.den),l.foldl (fun(a:Hu u20.den) x=>if y3c x.1 w.1 || z7o x.1 w.1 then a else a++ [x]) a=a++l.filter (fun x=> !(y3c x.1 w.1 || z7o x.1 w.1)):=by
  intro l
  induction l with
  | nil=>intro a;simp
  | cons x l ih=>
   intro a
   simp only[Bs,ih,Di]
   cases hq:y3c x.1 w.1 || z7o x.1 w.1<;>simp
 have hlen:(l.filter (fun x=>y3c x.1 w.1)).length≤l.length:=Cs _ _
 have L2' :=L2 (l.filter (fun x=>y3c x.1 w.1)++ [w]) (by simp;omega)
 rw[key] at L2'
 have hc:Nat.ble ((l.filter (fun x=>y3c x.1 w.1)).length+([w] :Hu u20.den).length) z7w=true:=by
  rw[Nat.ble_eq];simp only[Bc,Cc,z7w];omega
 rw[p3a];unfold r7r
 simp only[L1,zOb]
 rw[hc]
 simp only[Ad,L2',zOb]
 rfl
theorem o0e {l:Hu u20.den} {w x:u20.den} (h:x∈o0y l w):x∈l∨x=w:=by
 unfold o0y at h
 simp only[Bi,Ay,A6,A8,Ep,Em] at h
 rcases h with h | h | h
 ·exact .inl h.1
 ·exact .inr h
 ·exact .inl h.1
theorem j1k (l:Hu u20.den) (w:u20.den):(o0y l w).length≤l.length+1:=by
 have:∀l:Hu u20.den,(l.filter (fun x=>y3c x.1 w.1)).length+(l.filter (fun x=> !(y3c x.1 w.1 || z7o x.1 w.1))).length≤l.length:=by
  intro l
  induction l with
  | nil=>simp
  | cons x l ih=>
   simp only[Di]
   cases y3c x.1 w.1<;>cases z7o x.1 w.1<;>simp only[Ew,Fp,Ap,Bh,Bl,Bk,Br,Bc] <;>omega
 unfold o0y
 have:=this l
 simp only[Ba,Bc,Cc]
 omega
def KD (l:Hu u20.den):Prop:=l.Pairwise fun a b=>a.1≠b.1
def j8m (t:u0x.den):Prop:=t.2.2.2.2.1.length≤3∧(∀r∈t.2.2.2.2.1,r.1.size≤2∧r.2.size≤2)∧t.2.2.2.2.2.1.length≤3∧(∀r∈t.2.2.2.2.2.1,r.1.size≤2∧r.2.1.size≤3)∧t.2.2.2.2.2.2.2.size≤16
def tId (t:u0x.den):Int:=t.1
def tSt (t:u0x.den):Int:=t.2.1
def j8n (t:u0x.den):Int:=t.2.2.1
def tCs (t:u0x.den):Int:=t.2.2.2.1
def j5l (t:u0x.den):Prop:=tSt t=3∧j8n t<tCs t∧KD t.2.2.2.2.2.1
def j5s (l:Hu u0x.den):Prop:=(∀t∈l,j5l t)∧l.Pairwise fun a b=>tId a≠tId b∧tCs a<tCs b
end
section
def d1z (m:Hu PrT):Prop:=m.Pairwise fun a b=>y3c a.1 b.1=true
theorem j1a {l:Hu u2m} {v x:u2m} :x∈o6h l v↔x=v∨x∈l:=by
 unfold o6h
 conv=>rhs;rw[←Fe (p:=u9j v) (l:=l)]
 simp only[Ay,Ax]
 constructor
 ·rintro((h | h) | h)
  ·exact .inr (.inl h)
  ·exact .inl h
  ·exact .inr (.inr h)
 ·rintro(h | h | h)
  ·exact .inl (.inr h)
  ·exact .inl (.inl h)
  ·exact .inr h
theorem s0v {x:u2m} :∀(ws:Hu u20.den) (l:Hu u2m) (cs:Int),x∈t9k l ws cs↔x∈l∨ ∃w∈ws,x=(w.1,w.2.1,w.2.2,cs)
 | [],l,cs=>by simp[t9k]
 | w::ws,l,cs=>by
  have e:t9k l (w::ws) cs=t9k (o6h l (w.1,w.2.1,w.2.2,cs)) ws cs:=rfl
  rw[e,s0v ws,j1a]
  constructor
  ·rintro((h | h) | ⟨y,hy,h⟩)
   ·exact .inr ⟨w,by simp,h⟩
   ·exact .inl h
   ·exact .inr ⟨y,by simp[hy],h⟩
  ·rintro(h | ⟨y,hy,h⟩)
   ·exact .inl (.inr h)
   ·rcases A8.mp hy with rfl | hy
    ·exact .inl (.inl h)
    ·exact .inr ⟨y,hy,h⟩
def vCs (x:u2m):Int:=x.2.2.2
theorem q64 (l:Hu u2m) (k:Hs) (snap:Int):∀n,n≤l.length→
 (q5n l k snap n<0→ ∀(i:Nat) (h:i<l.length),i<n→ ¬(l[i].1=k∧vCs l[i] ≤snap))∧
 (∀a:Nat,q5n l k snap n=(a:Int)→ ∃h:a<l.length,l[a].1=k∧vCs l[a] ≤snap∧ ∀(i:Nat) (h:i<l.length),i<n→l[i].1=k→vCs l[i] ≤snap→vCs l[i] ≤vCs l[a])
 | 0,_=>⟨fun _ i _ h=>absurd h (Ee i),fun a e=>by simp only[q5n] at e;omega⟩
 | n+1,hn=>by
  obtain⟨h1,h2⟩:=q64 l k snap n (by omega)
  have hlt:n<l.length:=by omega
  have hr:=q5o l k snap n
  simp only[q5n,o1n,y8k (t:=u0d) hlt]
  by_cases hc:z7o l[n].1 k=true∧l[n].2.2.2≤snap∧(q5n l k snap n<0∨l[n].2.2.2 >(rdL u0d l (q5n l k snap n).toNat).2.2.2)
  ·rw[Al hc]
   obtain⟨c1,c2,c3⟩:=hc
   have c1:l[n].1=k:=y7f.mp c1
   refine⟨fun h=>by omega,fun a e=> ?_⟩
   have e:n=a:=by omega
   subst e
   refine⟨hlt,c1,c2,fun i hi hin hk hs=> ?_⟩
   by_cases q:i=n
   ·subst q;exact Bv _
   ·rcases Int.lt_or_le (q5n l k snap n) 0 with z | z
    ·exact absurd ⟨hk,hs⟩ (h1 z i hi (by omega))
    ·obtain⟨b,hb⟩:∃b:Nat,q5n l k snap n=(b:Int):=⟨(q5n l k snap n).toNat,by omega⟩
     obtain⟨hbl,_,_,g3⟩:=h2 b hb
     rcases c3 with c3 | c3
     ·omega
     ·rw[hb,zTn,y8k (t:=u0d) hbl] at c3
      have h5:=g3 i hi (by omega) hk hs
      have c3:vCs l[n] >vCs l[b] :=c3
      omega
  ·rw[Ao hc]
   have hc' :l[n].1=k→vCs l[n] ≤snap→ ∃b:Nat,q5n l k snap n=(b:Int)∧ ∃h:b<l.length,vCs l[n] ≤vCs l[b] :=fun c1 c2=>by
    rcases Int.lt_or_le (q5n l k snap n) 0 with z | z
    ·exact absurd ⟨y7f.mpr c1,c2, .inl z⟩ hc
    ·obtain⟨b,hb⟩:∃b:Nat,q5n l k snap n=(b:Int):=⟨(q5n l k snap n).toNat,by omega⟩
     obtain⟨hbl,_⟩:=h2 b hb
     refine⟨b,hb,hbl,Hk.mp fun z2=>hc ⟨y7f.mpr c1,c2, .inr ?_⟩⟩
     rw[hb,zTn,y8k (t:=u0d) hbl]
     exact z2
   refine⟨fun h i hi hin=> ?_,fun a e=> ?_⟩
   ·by_cases q:i=n
    ·subst q
     rintro⟨z1,z2⟩
     obtain⟨b,hb,_⟩:=hc' z1 z2
     omega
    ·exact h1 h i hi (by omega)
   ·obtain⟨ha,g1,g2,g3⟩:=h2 a e
    refine⟨ha,g1,g2,fun i hi hin hk hs=> ?_⟩
    by_cases q:i=n
    ·subst q
     obtain⟨b,hb,hbl,g4⟩:=hc' hk hs
     have e:b=a:=by omega
     subst e
     exact g4
    ·exact g3 i hi (by omega) hk hs
theorem o0n (l:Hu u2m) (k v:Hs) (snap:Int) (hu:∀x∈l,∀y∈l,x.1=y.1→vCs x=vCs y→x=y):
 ((u8c l k snap).2=true∧(u8c l k snap).1=v)↔ ∃x∈l,x.1=k∧vCs x≤snap∧x.2.2.1=false∧x.2.1=v∧ ∀y∈l,y.1=k→vCs y≤snap→vCs y≤vCs x:=by
 obtain⟨h1,h2⟩:=q64 l k snap l.length (Au _)
 have hr:=q7x l k snap
 unfold u8c
 rcases Int.lt_or_le (t48 l k snap) 0 with z | z
 ·rw[Al (.inl z)]
  constructor
  ·rintro⟨h,_⟩;cases h
  ·rintro⟨x,hx,q1,q2,_⟩
   obtain⟨i,hi,rfl⟩:=B7 hx
   exact absurd ⟨q1,q2⟩ (h1 z i hi hi)
 ·obtain⟨b,hb⟩:∃b:Nat,t48 l k snap=(b:Int):=⟨(t48 l k snap).toNat,by omega⟩
  obtain⟨hbl,g1,g2,g3⟩:=h2 b hb
  rw[hb,zTn,y8k (t:=u0d) hbl]
  have hmax:∀y∈l,y.1=k→vCs y≤snap→vCs y≤vCs l[b] :=fun y hy q1 q2=>by
   obtain⟨i,hi,rfl⟩:=B7 hy
   exact g3 i hi hi q1 q2
  have hnn: ¬((b:Int)<0):=by omega
  cases hg:l[b].2.2.1 with
  | true=>
   rw[Al (.inr rfl)]
   constructor
   ·rintro⟨h,_⟩;cases h
   ·rintro⟨x,hx,q1,q2,q3,_,q5⟩
    have m1:=hmax x hx q1 q2
    have m2:=q5 l[b] (Ag hbl) g1 g2
    have e:=hu x hx l[b] (Ag hbl) (q1.trans g1.symm) (by omega)
    rw[e,hg] at q3
    cases q3
  | false=>
   rw[Ao (by simp)]
   constructor
   ·rintro⟨_,h⟩
    exact⟨l[b],Ag hbl,g1,g2,hg,h,hmax⟩
   ·rintro⟨x,hx,q1,q2,q3,q4,q5⟩
    have m1:=hmax x hx q1 q2
    have m2:=q5 l[b] (Ag hbl) g1 g2
    have e:=hu x hx l[b] (Ag hbl) (q1.trans g1.symm) (by omega)
    rw[e] at q4
    exact⟨rfl,q4⟩
end
section
theorem twl {E:Type} (p:E→Bool):∀(l:Hu E),(l.takeWhile p).length≤l.length∧(∀(i:Nat) (h:i<l.length),i<(l.takeWhile p).length→p l[i] =true)∧
 (∀(h:(l.takeWhile p).length<l.length),p l[(l.takeWhile p).length] =false)
 | [] =>⟨Au _,fun i h=>absurd h (Ee i),fun h=>absurd h (Ee _)⟩
 | x::l=>by
  obtain⟨h1,h2,h3⟩:=twl p l
  cases hp:p x with
  | false=>
   simp only[F8,hp,Br,Bk,Cc]
   exact⟨Cn _,fun i _ h=>absurd h (Ee i),fun _=>hp⟩
  | true=>
   simp only[F8,hp,Bl,Bc]
   refine⟨by omega,fun i h k=> ?_,fun h=> ?_⟩
   ·cases i with
    | zero=>exact hp
    | succ i=>simpa using h2 i (by simpa using h) (by omega)
   ·simpa using h3 (by omega)
def u0p {E:Type} (p:E→Bool) (l:Hu E):Nat:=(l.takeWhile fun x=> !p x).length
theorem t6m {E:Type} (p:E→Bool) (l:Hu E):u0p p l≤l.length:=(twl _ l).1
theorem u8l {E:Type} {p:E→Bool} {l:Hu E} {i:Nat} (h:i<l.length) (hi:i<u0p p l):p l[i] =false:=by
 have:=(twl (fun x=> !p x) l).2.1 i h hi
 simpa using this
theorem u9c {E:Type} {p:E→Bool} {l:Hu E} (h:u0p p l<l.length):p l[u0p p l] =true:=by
 unfold u0p at h ⊢
 have:=(twl (fun x=> !p x) l).2.2 h
 simpa using this
theorem t9i {E:Type} (p:E→Bool) (l:Hu E):decide (u0p p l<l.length)=l.any p:=by
 cases hc:l.any p with
 | true=>
  obtain⟨x,hx,hp⟩:=Cm.mp hc
  obtain⟨i,hi,rfl⟩:=B7 hx
  have: ¬i<u0p p l:=fun q=>by rw[u8l hi q] at hp;cases hp
  simp only[Ar]
  omega
 | false=>
  simp only[Bu]
  intro h
  have:=u9c h
  have:=Ct.mp hc _ (Ag h)
  contradiction
theorem Q.first {T:Ty} {c:Type} {q:T.den×c→Ht Bool} {p:T.den→Bool} {W:Hu T.den×c×Int×Int→Ht (Unit⊕Int)}
 (hW:∀x,W x=(bif (decide (x.2.2.2<x.2.2.1)) then(bif (y4q x.2.2.2 x.1.length) then((q ((rdL T x.1 (x.2.2.2).toNat),x.2.1)).bind fun(y1:Bool)=>(bif y1 then(some (.inr x.2.2.2)) else(W (x.1,(x.2.1,(x.2.2.1,(IntKind.i64.wrap (x.2.2.2+(1:Int))))))))) else none) else(some (.inl ()))))
 (l:Hu T.den) (k:c) (hl:l.length≤1099511627776) (hq:∀x∈l,q (x,k)=some (p x)):
 W (l,k,(l.length:Int),0)=some (if u0p p l<l.length then .inr ((u0p p l:Nat):Int) else .inl ()):=by
 have hle:=t6m p l
 have:=r6o W (u0p p l) (fun(_:Unit) i=>(l,k,(l.length:Int),i)) (fun _ _=>if u0p p l<l.length then .inr ((u0p p l:Nat):Int) else .inl ()) (fun _ _=>True)
  (fun a _=>by
   rw[hW]
   by_cases hk:u0p p l<l.length
   ·simp only[u0b,hk,Ae,Ad,y7t hk,zTn,y8k hk,hq _ (Ag hk),u9c hk,zOb,Bl]
   ·simp only[u0b,hk,Ah,Aa,Bk])
  (fun i a hi _=> .inr ⟨(),trivial,rfl,by
   have hil:i<l.length:=by omega
   rw[hW]
   simp only[u0b,hil,Ae,Ad,y7t hil,zTn,y8k hil,hq _ (Ag hil),u8l hil hi,zOb,Aa]
   rw[y7l (by omega)]⟩) 0 () (Cn _) trivial
 exact this
theorem Q.delete {T:Ty} {c R:Type} {q:T.den×c→Ht Bool} {p:T.den→Bool} {W:Hu T.den×c×Int×Int→Ht ((Hu T.den×Int)⊕R)}
 (hW:∀x,W x=(bif (decide (x.2.2.2<(x.1.length:Int))) then(bif (y4q x.2.2.2 x.1.length) then((q ((rdL T x.1 (x.2.2.2).toNat),x.2.1)).bind fun(y2:Bool)=>(bif (!y2) then(bif (y4q x.2.2.1 x.1.length) then(W ((x.1.set (x.2.2.1).toNat (rdL T x.1 (x.2.2.2).toNat)),(x.2.1,((IntKind.i64.wrap (x.2.2.1+(1:Int))),(IntKind.i64.wrap (x.2.2.2+(1:Int))))))) else none) else(W (x.1,(x.2.1,(x.2.2.1,(IntKind.i64.wrap (x.2.2.2+(1:Int))))))))) else none) else(some (.inl (x.1,x.2.2.1)))))
 (l:Hu T.den) (k:c) (hl:l.length≤1099511627776) (hq:∀x∈l,q (x,k)=some (p x)) (hf:u0p p l<l.length):
 ∃a:Hu T.den,W (l,k,((u0p p l:Nat):Int),((u0p p l+1:Nat):Int))=some (.inl (a,((l.filter fun x=> !p x).length:Int)))∧a.length=l.length∧a.take (l.filter fun x=> !p x).length=l.filter fun x=> !p x:=by
 have key:∀(d j:Nat) (a:Hu T.den),j+d=l.length→a.length=l.length→a.drop j=l.drop j→((l.take j).filter fun x=> !p x).length≤j→((l.take j).filter fun x=> !p x).length<l.length→a.take ((l.take j).filter fun x=> !p x).length=(l.take j).filter (fun x=> !p x)→
  ((l.take j).filter fun x=> !p x).length<j→
  ∃a' :Hu T.den,W (a,k,(((l.take j).filter fun x=> !p x).length:Int),(j:Int))=some (.inl (a',((l.filter fun x=> !p x).length:Int)))∧a'.length=l.length∧a'.take (l.filter fun x=> !p x).length=l.filter fun x=> !p x:=by
  intro d
  induction d with
  | zero=>
   intro j a hj ha h1 h2 h3 h4 h5
   have e:j=l.length:=by omega
   subst e
   rw[Cq] at h4 ⊢
   rw[hW]
   simp only[ha,u0b,Am,Ah,Aa]
   exact⟨a,rfl,ha,h4⟩
  | succ d ih=>
   intro j a hj ha h1 h2 h3 h4 h5
   have hjl:j<l.length:=by omega
   have hja:j<a.length:=by omega
   have haj:a[j] =l[j] :=by
    have e1:=Ce hja
    have e2:=Ce hjl
    rw[h1,e2] at e1
    injection e1 with e1 _
    exact e1.symm
   have hs:l.take (j+1)=l.take j++ [l[j]] :=B9 hjl
   have hd:a.drop (j+1)=l.drop (j+1):=by
    have:=Dj List.tail h1
    simpa using this
   rw[hW]
   simp only[u0b,hja,Ae,Ad,y7t hja,zTn,y8k hja,haj,hq _ (Ag hjl),zOb]
   rw[y7l (i:=j) (by omega)]
   cases hp:p l[j] with
   | true=>
    simp only[Ap,Aa]
    have e:(l.take (j+1)).filter (fun x=> !p x)=(l.take j).filter fun x=> !p x:=by rw[hs,Hl,Di];simp only[hp,Ap,Br,Bk,List.filter_nil,Bw]
    have:=ih (j+1) a (by omega) ha hd (by rw[e];omega) (by rw[e];exact h3) (by rw[e];exact h4) (by rw[e];omega)
    rwa [e] at this
   | false=>
    have e:(l.take (j+1)).filter (fun x=> !p x)=(l.take j).filter (fun x=> !p x)++ [l[j]] :=by rw[hs,Hl,Di];simp only[hp,Bh,Bl,List.filter_nil]
    have el:((l.take (j+1)).filter fun x=> !p x).length=((l.take j).filter fun x=> !p x).length+1:=by rw[e];simp
    have hia:((l.take j).filter fun x=> !p x).length<a.length:=by omega
    simp only[Bh,Ad,y7t hia]
    rw[y7l (i:=((l.take j).filter fun x=> !p x).length) (by omega)]
    have:=ih (j+1) (a.set ((l.take j).filter fun x=> !p x).length l[j]) (by omega) (by simpa using ha) (by
     rw[List.drop_set_of_lt (by omega)]
     exact hd) (by rw[el];omega) (by rw[el];omega) (by
     rw[el,B9 (by simpa using hia),e]
     congr 1
     ·rw[List.take_set_of_le (Au _)]
      exact h4
     ·simp) (by rw[el];omega)
    rwa [el] at this
 have hk:=t6m p l
 have e:(l.take (u0p p l+1)).filter (fun x=> !p x)=l.take (u0p p l):=by
  rw[B9 hf,Hl]
  have h1:(l.take (u0p p l)).filter (fun x=> !p x)=l.take (u0p p l):=by
   rw[F9]
   intro x hx
   obtain⟨i,hi,rfl⟩:=B7 hx
   have hi' :i<u0p p l:=by have:=hi;rw[Ec] at this;omega
   rw[Fc,u8l (by omega) hi']
   rfl
  rw[h1]
  simp[u9c hf]
 have el:((l.take (u0p p l+1)).filter fun x=> !p x).length=u0p p l:=by rw[e,Ec];omega
 have:=key (l.length - (u0p p l+1)) (u0p p l+1) l (by omega) rfl rfl (by rw[el];omega) (by rw[el];exact hf) (by rw[el,e]) (by rw[el];omega)
 rwa [el] at this
end
section
def o29 (x y:u0g):Bool:=decide (x.2.1=3)&&decide (x.2.2.2.1≤y.2.2.1)
def q87 (a b:u0g):Bool:= !decide (a.1=b.1)&&(!o29 a b&& !o29 b a)
def ahead (a b:u0g):Bool:=q87 a b&&q35 a.2.2.2.2.1 b.2.2.2.2.2.1
def q6d (t:u0g) (l:Hu u0g):Bool:=l.any fun x=>decide (x.2.1=3)&&ahead t x
theorem o33 (a b:u0g):r26 (a,b)=some (q87 a b):=by
 rw[p9m];unfold q41 q87 o29
 by_cases h1:a.1=b.1
 ·simp[h1]
 ·by_cases h2:a.2.1=3<;>by_cases h3:a.2.2.2.1≤b.2.2.1<;>by_cases h4:b.2.1=3<;>by_cases h5:b.2.2.2.1≤a.2.2.1<;>simp[h1,h2,h3,h4,h5]
theorem o32 (a b:u0g):r20 (a,b)=some (q87 a b):=by
 rw[p86];unfold q4k
 simp only[p2i,r60]
 unfold q87 o29
 by_cases h1:a.1=b.1
 ·simp[h1]
 ·by_cases h2:a.2.1=3<;>by_cases h3:a.2.2.2.1≤b.2.2.1<;>by_cases h4:b.2.1=3<;>by_cases h5:b.2.2.2.1≤a.2.2.1<;>simp[h1,h2,h3,h4,h5]
theorem t5g (a b:u0g) (ha:a.2.2.2.2.1.length≤u0j) (hb:b.2.2.2.2.2.1.length≤u0j):u3h (a,b)=some (ahead a b):=by
 rw[o2c];unfold q8t ahead
 have h1:=o33 a b
 have h2:=o1i _ _ ha hb
 simp only[h2,zOb]
 rw[h1]
 cases q87 a b<;>rfl
theorem s1t (a b:u0g) (ha:a.2.2.2.2.1.length≤u0j) (hb:b.2.2.2.2.2.1.length≤u0j):u6s (a,b)=some (ahead a b):=by
 rw[o1t];unfold q8j ahead
 have h1:=o32 a b
 have h2:=o1h _ _ ha hb
 simp only[h2,zOb]
 rw[h1]
 cases q87 a b<;>rfl
end
section
def q0e (t:u0g):Prop:=t.2.2.2.2.1.length≤1048576∧t.2.2.2.2.2.1.length≤1048576
def p02 (l:Hu u0g):Prop:=l.length≤4194304∧ ∀t∈l,q0e t
theorem t4h {n:Nat} (h:n≤1048576):n≤u0j:=by unfold u0j;omega
theorem q62 (t:u0g) (l:Hu u0g) (ht:q0e t) (hl:p02 l):s3s (t,l)=some (q6d t l):=by
 obtain⟨l1,l2⟩:=hl
 have L:=s7g s2r l (fun i=>(l,t,i)) (fun x=>decide (x.2.1=3)&&ahead t x) (.inr true) (.inl ())
  (by rw[q3a];simp only[s2j,u0b,Am,Ah,Aa])
  (fun i hi=>by
   have h1:=t5g t l[i] (t4h ht.1) (t4h (l2 _ (Ag hi)).2)
   rw[q3a]
   simp only[s2j,u0b,hi,Ae,Ad,y7t hi,zTn,y8k (t:=u0x) hi,h1,zOb]
   rw[y7l (by omega)]
   cases decide (l[i].2.1=3)<;>cases ahead t l[i] <;>rfl)
 rw[o2j];unfold q80 q6d
 simp only[L,zOb]
 cases l.any fun x=>decide (x.2.1=3)&&ahead t x<;>rfl
theorem q61 (t:u0g) (l:Hu u0g) (ht:q0e t) (hl:p02 l):s3r (t,l)=some (q6d t l):=by
 obtain⟨l1,l2⟩:=hl
 have hq:∀x∈l,s2z (x,t)=some (decide (x.2.1=3)&&ahead t x):=fun x hx=>by
  have h1:=s1t t x (t4h ht.1) (t4h (l2 x hx).2)
  rw[p5b];unfold q0w
  simp only[s0t,s0q,zOb,h1]
  cases decide (x.2.1=3)<;>rfl
 have L:=Q.first (T:=u0x) (c:=u0g) (W:=u1x) (q:=s2z) (p:=fun x:u0g=>decide (x.2.1=3)&&ahead t x) (fun x=>t27 x) l t (by omega) hq
 rw[o1z];unfold q8p q6d
 simp only[r0o,t9s,t1n,u4x,t4g,u6g,L,zOb]
 rw[←t9i]
 by_cases h:u0p (fun x:u0g=>decide (x.2.1=3)&&ahead t x) l<l.length
 ·simp[h]
 ·simp[h]
theorem t14 (t:u0g) (h:q0e t):u1h t=some t:=by
 rw[p6l];unfold q17
 simp only[Cc,Co,Cf,u0z (show t.2.2.2.2.1.length≤1099511627776 by have:=h.1;omega),u0z (show t.2.2.2.2.2.1.length≤1099511627776 by have:=h.2;omega),Ad]
theorem q4d (t:u0g) (h:q0e t):t3a t=some t:=by
 rw[p5p];unfold q1a
 simp only[u0z (show t.2.2.2.2.1.length≤1099511627776 by have:=h.1;omega),u0z (show t.2.2.2.2.2.1.length≤1099511627776 by have:=h.2;omega),Ad]
theorem q3j (l:Hu u0g) (h:p02 l):t7p l=some l:=by
 have L:=s4k t81 l (fun a i=>(l,a,i)) (fun _=>true) (fun x=>x) (fun a=> .inl a) (by have:=h.1;omega)
  (fun a _=>by rw[r6j];simp only[t8o,u0b,Am,Ah,Aa])
  (fun i hi a ha=>by
   have h1:=t14 l[i] (h.2 _ (Ag hi))
   have:=h.1
   rw[r6j]
   simp only[t8o,u0b,hi,Ae,Ad,y7t hi,zTn,y8k (t:=u0x) hi,h1,zOb,Aw,u0z (show a.length+1≤1099511627776 by omega)]
   rw[y7l (by omega)])
 rw[p6n];unfold q19
 simp only[L,zOb]
 simp
theorem q3i (l:Hu u0g) (h:p02 l):t5a l=some l:=by
 have L:=s4k t6e l (fun a i=>(a,l,(l.length:Int),i)) (fun _=>true) (fun x=>x) (fun a=> .inl a) (by have:=h.1;omega)
  (fun a _=>by rw[r1x];simp only[t5q,u0b,Am,Ah,Aa])
  (fun i hi a ha=>by
   have h1:=q4d l[i] (h.2 _ (Ag hi))
   have:=h.1
   rw[r1x]
   simp only[t5q,u0b,hi,Ae,Ad,y7t hi,zTn,y8k (t:=u0x) hi,h1,zOb,Aw,u0z (show a.length+1≤1099511627776 by omega)]
   rw[y7l (by omega)])
 rw[p2y];unfold r7f
 simp only[L,zOb]
 simp
abbrev u0i:=Hu u2m×Hu u0g×Hu u0g×Int×Int
def fewB (b:u0i):Prop:=b.1.length≤4194304∧p02 b.2.1∧p02 b.2.2.1
theorem s1w (b:u0i) (h:fewB b):u3p b=some b:=by
 have h1:=q3j b.2.1 h.2.1
 have h2:=q3j b.2.2.1 h.2.2
 rw[p6m];unfold q18
 simp only[Cc,Co,Cf,u0z (show b.1.length≤1099511627776 by have:=h.1;omega),Ad,h1,h2,zOb]
theorem s1v (b:u0i) (h:fewB b):u1y b=some b:=by
 have h1:=q3i b.2.1 h.2.1
 have h2:=q3i b.2.2.1 h.2.2
 rw[p2w];unfold r7d
 simp only[u0z (show b.1.length≤1099511627776 by have:=h.1;omega),Ad,h1,h2,zOb]
end
section
def s1r (b:u0i) (open_:Hu u0g):Int:=open_.foldl (fun m t=>if t.2.2.1<m then t.2.2.1 else m) b.2.2.2.1
theorem o4c (b:u0i) (o:Hu u0g) (h:o.length≤4194304):s6r (b,o)=some (s1r b o):=by
 have L:=t00 t6g o (fun a i=>(o,a,i)) (fun(m:Int) t=>if t.2.2.1<m then t.2.2.1 else m) (fun a=> .inl a) (fun _ _=>True)
  (fun a _=>by rw[r19];simp only[t5u,u0b,Am,Ah,Aa])
  (fun i hi a _=>by
   refine⟨trivial,?_⟩
   rw[r19]
   simp only[t5u,u0b,hi,Ae,Ad,y7t hi,zTn,y8k (t:=u0x) hi]
   rw[y7l (by omega)]
   by_cases hc:o[i].2.2.1<a
   ·simp only[hc,Ae,Ad,Bl]
   ·simp only[hc,Ah,Aa,Bk]) b.2.2.2.1 trivial
 rw[p29];unfold r7q
 simp only[L,zOb]
 rfl
theorem o4b (b:u0i) (o:Hu u0g) (h:o.length≤4194304):s6h (b,o)=some (s1r b o):=by
 have L:=t00 t59 o (fun a i=>(a,o,(o.length:Int),i)) (fun(m:Int) t=>if t.2.2.1<m then t.2.2.1 else m) (fun a=> .inl a) (fun _ _=>True)
  (fun a _=>by rw[r1r];simp only[t5k,u0b,Am,Ah,Aa])
  (fun i hi a _=>by
   refine⟨trivial,?_⟩
   rw[r1r]
   simp only[t5k,u0b,hi,Ae,Ad,y7t hi,zTn,y8k (t:=u0x) hi]
   rw[y7l (by omega)]
   have e:y8i a o[i].2.2.1=if o[i].2.2.1<a then o[i].2.2.1 else a:=by
    unfold y8i
    split<;>rfl
   rw[e]) b.2.2.2.1 trivial
 rw[p2o];unfold r66
 simp only[L,zOb]
 rfl
def u0n (b:u0i) (n:Hs):Int:=if u0p (fun x:u0g=>z7o x.2.2.2.2.2.2.2 n) b.2.2.1<b.2.2.1.length then((u0p (fun x:u0g=>z7o x.2.2.2.2.2.2.2 n) b.2.2.1:Nat):Int) else -1
theorem q8d (b:u0i) (n:Hs) (h:b.2.2.1.length≤4194304):s21 (b,n)=some (u0n b n):=by
 have hq:∀x∈b.2.2.1,t88 (x,n)=some (z7o x.2.2.2.2.2.2.2 n):=fun x _=>by
  rw[q99];unfold r3r;rfl
 have L:=Q.first (T:=u0x) (c:=Hs) (W:=u1l) (q:=t88) (p:=fun x:u0g=>z7o x.2.2.2.2.2.2.2 n) (fun x=>t0x x) b.2.2.1 n (by omega) hq
 rw[p5f];unfold q00 u0n
 simp only[t2y,u5j,L,zOb]
 by_cases hk:u0p (fun x:u0g=>z7o x.2.2.2.2.2.2.2 n) b.2.2.1<b.2.2.1.length
 ·simp only[Al hk,zOb]
 ·simp only[Ao hk,zOb]
theorem s3g (b:u0i) (n:Hs) (h:b.2.2.1.length≤4194304):u2p (b,n)=some (u0n b n):=by
 have L:=r6o t2l (u0p (fun x:u0g=>z7o x.2.2.2.2.2.2.2 n) b.2.2.1) (fun(_:Unit) i=>(n,b,i)) (fun _ _=>if u0p (fun x:u0g=>z7o x.2.2.2.2.2.2.2 n) b.2.2.1<b.2.2.1.length then .inr ((u0p (fun x:u0g=>z7o x.2.2.2.2.2.2.2 n) b.2.2.1:Nat):Int) else .inl ()) (fun _ _=>True)
  (fun a _=>by
   have hle:=t6m (fun x:u0g=>z7o x.2.2.2.2.2.2.2 n) b.2.2.1
   rw[r6a]
   by_cases hk:u0p (fun x:u0g=>z7o x.2.2.2.2.2.2.2 n) b.2.2.1<b.2.2.1.length
   ·have hy:=u9c hk
    simp only[t16,u0b,hk,Ae,Ad,y7t hk,zTn,y8k (t:=u0x) hk,hy,Bl]
   ·simp only[t16,u0b,hk,Ah,Aa,Bk])
  (fun i a hi _=> .inr ⟨(),trivial,rfl,by
   have hle:=t6m (fun x:u0g=>z7o x.2.2.2.2.2.2.2 n) b.2.2.1
   have hil:i<b.2.2.1.length:=by omega
   have hn:=u8l hil hi
   rw[r6a]
   simp only[t16,u0b,hil,Ae,Ad,y7t hil,zTn,y8k (t:=u0x) hil,hn,Aa]
   rw[y7l (by omega)]⟩) 0 () (Cn _) trivial
 have L:t2l (n,b,0)=_:=L
 rw[p54];unfold q1p u0n
 simp only[L,zOb]
 by_cases hk:u0p (fun x:u0g=>z7o x.2.2.2.2.2.2.2 n) b.2.2.1<b.2.2.1.length
 ·simp only[Al hk]
 ·simp only[Ao hk]
end
section
def p6x (l:Hu u2m) (snap:Int) (i:Nat):Bool:=decide ((rdL u0d l i).2.2.2 >snap) || decide (t48 l (rdL u0d l i).1 snap=(i:Int))
def trA (l:Hu u2m) (snap:Int):Nat→Hu u2m
 | 0=> []
 | n+1=>if p6x l snap n=true then trA l snap n++ [rdL u0d l n] else trA l snap n
theorem q73 (l:Hu u2m) (snap:Int):∀n,(trA l snap n).length≤n
 | 0=>Au _
 | n+1=>by
  have:=q73 l snap n
  simp only[trA]
  split
  ·simp;omega
  ·omega
def j0j (l:Hu u2m) (k:Hs):Nat:=(l.filter fun v=>z7o v.1 k).length
def o7l (l:Hu u2m) (snap:Int) (v:u2m):Bool:= !v.2.2.1 || (decide (v.2.2.2 >snap) || decide ((j0j l v.1:Int) >1))
def u2g (l:Hu u2m) (snap:Int):Hu u2m:=(trA l snap l.length).filter (o7l (trA l snap l.length) snap)
theorem o72 (l:Hu u2m) (snap:Int) (hl:l.length≤8388608):t2n (l,snap, [],0)=some (.inl (snap,trA l snap l.length)):=
 p1z t2n l.length (fun a i=>(l,snap,a,i)) (fun i=>trA l snap i) (.inl (snap,trA l snap l.length))
  (by rw[r6e];simp only[t8k,u0b,Am,Ah,Aa])
  (fun i hi=>by
   have hL:=p32 l (rdL u0d l i).1 snap (by omega)
   have hn:=q73 l snap i
   rw[r6e]
   simp only[t8k,u0b,hi,Ae,Ad,y7t hi,zTn,hL,zOb,Aw,u0z (show(trA l snap i).length+1≤1099511627776 by omega)]
   rw[y7l (by omega)]
   simp only[trA,p6x]
   by_cases h1:(rdL u0d l i).2.2.2 >snap
   ·simp[h1]
   ·by_cases h2:t48 l (rdL u0d l i).1 snap=(i:Int)<;>simp[h1,h2])
theorem o71 (l:Hu u2m) (snap:Int) (hl:l.length≤8388608):t2c (l,snap, [],l,(l.length:Int),0)=some (.inl (snap,trA l snap l.length)):=
 p1z t2c l.length (fun a i=>(l,snap,a,l,(l.length:Int),i)) (fun i=>trA l snap i) (.inl (snap,trA l snap l.length))
  (by rw[r5w];simp only[t74,u0b,Am,Ah,Aa])
  (fun i hi=>by
   have hL:=p31 l (rdL u0d l i).1 snap (by omega)
   have hn:=q73 l snap i
   rw[r5w]
   simp only[t74,u0b,hi,Ae,Ad,y7t hi,zTn,hL,zOb,Aw,u0z (show(trA l snap i).length+1≤1099511627776 by omega)]
   rw[y7l (by omega)]
   simp only[trA,p6x]
   by_cases h1:(rdL u0d l i).2.2.2 >snap
   ·simp[h1]
   ·by_cases h2:t48 l (rdL u0d l i).1 snap=(i:Int)<;>simp[h1,h2])
end
section
theorem p2b (k:Hs):∀(l:Hu u2m) (a:Nat),l.foldl (fun(a:Nat) v=>if z7o v.1 k=true then a+1 else a) a=a+j0j l k
 | [],a=>by simp[j0j]
 | x::l,a=>by
  rw[Bs,p2b k l]
  unfold j0j
  cases hc:z7o x.1 k with
  | true=>simp[Di,hc];omega
  | false=>simp[Di,hc]
theorem o74 (s out:Hu u2m) (snap:Int) (i:Nat) (hi:i<s.length) (hl:s.length≤8388608):
 u91 (snap,s,out,(i:Int),0,0)=some (.inl (snap,s,out,(i:Int),(j0j s s[i].1:Int))):=by
 have L:=t00 u91 s (fun(a:Nat) j=>(snap,s,out,(i:Int),(a:Int),j)) (fun(a:Nat) v=>if z7o v.1 s[i].1=true then a+1 else a) (fun a=> .inl (snap,s,out,(i:Int),(a:Int))) (fun j a=>a≤j)
  (fun a _=>by rw[r2g];simp only[t54,u0b,Am,Ah,Aa])
  (fun j hj a ha=>by
   rw[r2g]
   simp only[t54,u0b,hj,Ae,Ad,y7t hj,y7t hi,zTn,y8k (t:=u0d) hj,y8k (t:=u0d) hi]
   rw[y7l (i:=j) (by omega),y7l (i:=a) (by omega)]
   cases z7o s[j].1 s[i].1 with
   | true=>simp only[Ad,Bl];exact⟨by omega,trivial⟩
   | false=>simp only[Aa,Br,Bk];exact⟨by omega,trivial⟩) 0 (Cn _)
 rw[p2b,Co] at L
 exact L
theorem o73 (s:Hu u2m) (k:Hs) (hl:s.length≤8388608):s37 (k,s)=some (j0j s k:Int):=by
 have L:=t00 u81 s (fun(a:Nat) j=>(k,(a:Int),s,(s.length:Int),j)) (fun(a:Nat) v=>if z7o v.1 k=true then a+1 else a) (fun a=> .inl (a:Int)) (fun j a=>a≤j)
  (fun a _=>by rw[s8w];simp only[t3o,u0b,Am,Ah,Aa])
  (fun j hj a ha=>by
   rw[s8w]
   simp only[t3o,u0b,hj,Ae,Ad,y7t hj,zTn,y8k (t:=u0d) hj]
   rw[y7l (i:=j) (by omega),y7l (i:=a) (by omega)]
   cases z7o s[j].1 k with
   | true=>simp only[Ad,Bl];exact⟨by omega,trivial⟩
   | false=>simp only[Aa,Br,Bk];exact⟨by omega,trivial⟩) 0 (Cn _)
 rw[p2b,Co] at L
 have L:u81 (k,0,s,(s.length:Int),0)=_:=L
 rw[p0e];unfold r3v
 simp only[L,zOb]
theorem o1k (l:Hu u2m) (snap:Int) (hl:l.length≤8388608):s9s (l,snap)=some (u2g l snap):=by
 have hs:(trA l snap l.length).length≤8388608:=A9 (q73 _ _ _) hl
 obtain⟨s,hse⟩:∃s,s=trA l snap l.length:=⟨_,rfl⟩
 rw[←hse] at hs
 have L:=s4k t6j s (fun a i=>(snap,s,a,i)) (o7l s snap) (fun v=>v) (fun a=> .inl a) (by omega)
  (fun a _=>by rw[r2f];simp only[t52,u0b,Am,Ah,Aa])
  (fun i hi a ha=>by
   rw[r2f]
   simp only[t52,u0b,hi,Ae,Ad,o74 s a snap i hi hs,zOb,y7t hi,zTn,y8k (t:=u0d) hi,Aw,u0z (show a.length+1≤1099511627776 by omega)]
   rw[y7l (by omega)]
   unfold o7l
   cases h1:s[i].2.2.1 with
   | false=>simp
   | true=>
    by_cases h2:s[i].2.2.2 >snap
    ·simp[h2]
    ·by_cases h3:(j0j s s[i].1:Int) >1<;>simp[h2,h3])
 rw[Er] at L
 have hA:=o72 l snap hl
 rw[←hse] at hA
 rw[p58];unfold q1t u2g
 rw[←hse]
 simp only[hA,L,zOb]
theorem o1j (l:Hu u2m) (snap:Int) (hl:l.length≤8388608):s9i (l,snap)=some (u2g l snap):=by
 have hs:(trA l snap l.length).length≤8388608:=A9 (q73 _ _ _) hl
 obtain⟨s,hse⟩:∃s,s=trA l snap l.length:=⟨_,rfl⟩
 rw[←hse] at hs
 have L:=s4k t6c s (fun a i=>(snap,s,a,s,(s.length:Int),i)) (o7l s snap) (fun v=>v) (fun a=> .inl a) (by omega)
  (fun a _=>by rw[r1u];simp only[t5n,u0b,Am,Ah,Aa])
  (fun i hi a ha=>by
   rw[r1u]
   simp only[t5n,u0b,hi,Ae,Ad,o73 s _ hs,zOb,y7t hi,zTn,y8k (t:=u0d) hi,Aw,u0z (show a.length+1≤1099511627776 by omega)]
   rw[y7l (by omega)]
   unfold o7l
   cases h1:s[i].2.2.1 with
   | false=>simp
   | true=>
    by_cases h2:s[i].2.2.2 >snap
    ·simp[h2]
    ·by_cases h3:(j0j s s[i].1:Int) >1<;>simp[h2,h3])
 rw[Er] at L
 have hA:=o71 l snap hl
 rw[←hse] at hA
 rw[p5k];unfold q05 u2g
 rw[←hse]
 simp only[hA,L,zOb]
theorem o5m (l:Hu u2m) (snap:Int):(u2g l snap).length≤l.length:=A9 (Cs _ _) (q73 _ _ _)
end
section
theorem j2w {E:Type} {r:E→E→Prop} (hi:∀x,¬r x x) (ha:∀x y,r x y→ ¬r y x):∀ {l m:Hu E},l.Pairwise r→m.Pairwise r→(∀x,x∈l↔x∈m)→l=m
 | [], [],_,_,_=>rfl
 | [],y::m,_,_,h=>by have:=(h y).mpr (by simp);simp at this
 | x::l, [],_,_,h=>by have:=(h x).mp (by simp);simp at this
 | x::l,y::m,hl,hm,h=>by
  have hl' :=Ch.mp hl
  have hm' :=Ch.mp hm
  have hxy:x=y:=by
   rcases A8.mp ((h x).mp (by simp)) with e | e
   ·exact e
   ·rcases A8.mp ((h y).mpr (by simp)) with e' | e'
    ·exact e'.symm
    ·exact absurd (hm'.1 x e) (ha _ _ (hl'.1 y e'))
  subst hxy
  congr 1
  refine j2w hi ha hl'.2 hm'.2 fun z=> ?_
  constructor
  ·intro hz
   rcases A8.mp ((h z).mp (by simp[hz])) with e | e
   ·subst e;exact absurd (hl'.1 z hz) (hi z)
   ·exact e
  ·intro hz
   rcases A8.mp ((h z).mpr (by simp[hz])) with e | e
   ·subst e;exact absurd (hm'.1 z hz) (hi z)
   ·exact e
def vLt (a b:u2m):Prop:=y3c a.1 b.1=true∨(a.1=b.1∧vCs a<vCs b)
def VAsc (l:Hu u2m):Prop:=l.Pairwise vLt
theorem o5o (a:u2m): ¬vLt a a:=fun h=>by
 rcases h with h | h
 ·rw[t5e] at h;cases h
 ·omega
theorem j17 (a b:u2m) (h:vLt a b): ¬vLt b a:=fun k=>by
 rcases h with h | ⟨h,h'⟩<;>rcases k with k | ⟨k,k'⟩
 ·rw[r3f h] at k;cases k
 ·rw[k,t5e] at h;cases h
 ·rw[h,t5e] at k;cases k
 ·omega
theorem j35 (a b:u2m) (h: ¬(a.1=b.1∧vCs a=vCs b)):vLt a b∨vLt b a:=by
 rcases q33 a.1 b.1 with c | c | c
 ·exact .inl (.inl c)
 ·rcases Int.lt_trichotomy (vCs a) (vCs b) with d | d | d
  ·exact .inl (.inr ⟨c,d⟩)
  ·exact absurd ⟨c,d⟩ h
  ·exact .inr (.inr ⟨c.symm,d⟩)
 ·exact .inr (.inl c)
theorem VAsc.ext {l m:Hu u2m} (h:VAsc l) (k:VAsc m) (e:∀x,x∈l↔x∈m):l=m:=j2w o5o j17 h k e
theorem VAsc.uni:∀ {l:Hu u2m},VAsc l→ ∀x∈l,∀y∈l,x.1=y.1→vCs x=vCs y→x=y
 | [],_,x,hx=>by cases hx
 | z::l,h,x,hx=>fun y hy e1 e2=>by
  have h' :=Ch.mp h
  have no:∀a b:u2m,a.1=b.1→vCs a=vCs b→ ¬vLt a b:=fun a b e1 e2 k=>by
   rcases k with k | k
   ·rw[e1,t5e] at k;cases k
   ·omega
  rcases A8.mp hx with rfl | hx' <;>rcases A8.mp hy with rfl | hy'
  ·rfl
  ·exact absurd (h'.1 y hy') (no _ _ e1 e2)
  ·exact absurd (h'.1 x hx') (no _ _ e1.symm e2.symm)
  ·exact VAsc.uni h'.2 x hx' y hy' e1 e2
def j06 (l:Hu u2m) (s:Int) (x:u2m):Prop:=vCs x≤s∧ ∀y∈l,y.1=x.1→vCs y≤s→vCs y≤vCs x
theorem p7s {l:Hu u2m} (hA:VAsc l) {s:Int} {i:Nat} (h:i<l.length):t48 l l[i].1 s=(i:Int)↔j06 l s l[i] :=by
 obtain⟨h1,h2⟩:=q64 l l[i].1 s l.length (Au _)
 constructor
 ·intro e
  obtain⟨_,g1,g2,g3⟩:=h2 i e
  refine⟨g2,fun y hy e1 e2=> ?_⟩
  obtain⟨j,hj,rfl⟩:=B7 hy
  exact g3 j hj hj e1 e2
 ·rintro⟨g2,g3⟩
  have hr:=q7x l l[i].1 s
  rcases Int.lt_or_le (t48 l l[i].1 s) 0 with z | z
  ·exact absurd ⟨rfl,g2⟩ (h1 z i h h)
  ·obtain⟨b,hb⟩:∃b:Nat,t48 l l[i].1 s=(b:Int):=⟨(t48 l l[i].1 s).toNat,by omega⟩
   obtain⟨hbl,k1,k2,k3⟩:=h2 b hb
   have m1:=g3 l[b] (Ag hbl) k1 k2
   have m2:=k3 i h h rfl g2
   have e:=VAsc.uni hA l[b] (Ag hbl) l[i] (Ag h) k1 (by omega)
   have hp:l.Nodup:=hA.imp fun h e=>by subst e;exact o5o _ h
   have:b=i:=(List.getElem_inj hp).mp e
   rw[hb,this]
theorem o5l (l:Hu u2m) (s:Int):∀n,n≤l.length→(trA l s n).Sublist (l.take n)
 | 0,_=>by simp[trA]
 | n+1,h=>by
  have ih:=o5l l s n (by omega)
  have hn:n<l.length:=by omega
  rw[B9 hn]
  simp only[trA]
  split
  ·rw[y8k (t:=u0d) hn]
   exact ih.append (Dm _)
  ·exact ih.trans (List.sublist_append_left _ _)
theorem t1y (l:Hu u2m) (s:Int):(u2g l s).Sublist l:=by
 have h:=o5l l s l.length (Au _)
 rw[Cq] at h
 exact Fg.trans h
theorem t9n {l:Hu u2m} (h:VAsc l) (s:Int):VAsc (u2g l s):=h.sublist (t1y l s)
theorem o22 {l:Hu u2m} {s:Int} {x:u2m} :∀n,n≤l.length→(x∈trA l s n↔ ∃(i:Nat) (h:i<l.length),i<n∧l[i] =x∧p6x l s i=true)
 | 0,_=>by simp[trA]
 | n+1,h=>by
  have ih:=o22 (x:=x) (s:=s) n (Nat.le_of_succ_le h)
  have hn:n<l.length:=by omega
  have split:(∃(i:Nat) (h:i<l.length),i<n+1∧l[i] =x∧p6x l s i=true)↔(∃(i:Nat) (h:i<l.length),i<n∧l[i] =x∧p6x l s i=true)∨(l[n] =x∧p6x l s n=true):=by
   constructor
   ·rintro⟨i,hi,h1,h2⟩
    by_cases e:i=n
    ·subst e;exact .inr h2
    ·exact .inl ⟨i,hi,by omega,h2⟩
   ·rintro(⟨i,hi,h1,h2⟩ | h2)
    ·exact⟨i,hi,by omega,h2⟩
    ·exact⟨n,hn,by omega,h2⟩
  rw[split,←ih]
  simp only[trA]
  by_cases c:p6x l s n=true
  ·rw[Al c,y8k (t:=u0d) hn,Ay,Ax]
   simp only[c,and_true]
   exact or_congr Hp eq_comm
  ·rw[Ao c]
   simp[c]
theorem o0b {l:Hu u2m} (hA:VAsc l) {s:Int} {x:u2m} :x∈trA l s l.length↔x∈l∧(vCs x >s∨j06 l s x):=by
 rw[o22 _ (Au _)]
 constructor
 ·rintro⟨i,hi,_,rfl,k⟩
  refine⟨Ag hi,?_⟩
  unfold p6x at k
  rw[y8k (t:=u0d) hi,Cr,Ar,Ar] at k
  rcases k with k | k
  ·exact .inl k
  ·exact .inr ((p7s hA hi).mp k)
 ·rintro⟨hx,k⟩
  obtain⟨i,hi,rfl⟩:=B7 hx
  refine⟨i,hi,hi,rfl,?_⟩
  unfold p6x
  rw[y8k (t:=u0d) hi,Cr,Ar,Ar]
  rcases k with k | k
  ·exact .inl k
  ·exact .inr ((p7s hA hi).mpr k)
theorem o75 {E:Type} :∀ {l:Hu E},l.Nodup→1<l.length→ ∀x,∃y∈l,y≠x
 | [],_,h,_=>by simp at h
 | [_],_,h,_=>by simp at h
 | a::b::l,hn,_,x=>by
  by_cases e:a=x
  ·subst e
   refine⟨b,by simp,fun e=> ?_⟩
   subst e
   simp at hn
  ·exact⟨a,by simp,e⟩
theorem o7p {E:Type} {l:Hu E} {x y:E} (hx:x∈l) (hy:y∈l) (h:x≠y):1<l.length:=by
 match l,hx,hy with
 | [a],hx,hy=>rw[Ax] at hx hy;exact absurd (hx.trans hy.symm) h
 | a::b::l,_,_=>simp
theorem u6d {l:Hu u2m} (hA:VAsc l) {s:Int} {x:u2m} :x∈u2g l s↔x∈l∧(vCs x >s∨(j06 l s x∧(x.2.2.1=false∨ ∃y∈l,y.1=x.1∧vCs y >s))):=by
 unfold u2g
 rw[A6,o0b hA]
 unfold o7l
 rw[Cr,Cr,Ar,Ar,Bj]
 have hs:VAsc (trA l s l.length):=by
  have h:=o5l l s l.length (Au _)
  rw[Cq] at h
  exact hA.sublist h
 constructor
 ·rintro⟨⟨hx,h1⟩,h2⟩
  refine⟨hx,?_⟩
  by_cases c:vCs x >s
  ·exact .inl c
  ·rcases h1 with h1 | h1
   ·exact absurd h1 c
   ·refine .inr ⟨h1,?_⟩
    rcases h2 with h2 | h2 | h2
    ·exact .inl h2
    ·exact absurd h2 c
    ·have hn:((trA l s l.length).filter fun v=>z7o v.1 x.1).Nodup:=(hs.filter _).imp fun h e=>by subst e;exact o5o _ h
     have hl:1<((trA l s l.length).filter fun v=>z7o v.1 x.1).length:=by unfold j0j at h2;omega
     obtain⟨y,hy,hne⟩:=o75 hn hl x
     rw[A6,o0b hA] at hy
     obtain⟨⟨hyl,hy1⟩,hy2⟩:=hy
     have hk:=y7f.mp hy2
     refine .inr ⟨y,hyl,hk,?_⟩
     rcases hy1 with hy1 | hy1
     ·exact hy1
     ·have a1:=h1.2 y hyl hk hy1.1
      have a2:=hy1.2 x hx hk.symm h1.1
      exact absurd (VAsc.uni hA y hyl x hx hk (by omega)) hne
 ·rintro⟨hx,h1⟩
  rcases h1 with h1 | ⟨h1,h2⟩
  ·exact⟨⟨hx, .inl h1⟩, .inr (.inl h1)⟩
  ·refine⟨⟨hx, .inr h1⟩,?_⟩
   rcases h2 with h2 | ⟨y,hy,hk,hc⟩
   ·exact .inl h2
   ·refine .inr (.inr ?_)
    have m1:x∈(trA l s l.length).filter fun v=>z7o v.1 x.1:=by rw[A6,o0b hA];exact⟨⟨hx, .inr h1⟩,y7f.mpr rfl⟩
    have m2:y∈(trA l s l.length).filter fun v=>z7o v.1 x.1:=by rw[A6,o0b hA];exact⟨⟨hy, .inl hc⟩,y7f.mpr hk⟩
    have:=o7p m1 m2 (fun e=>by have:=h1.1;subst e;omega)
    unfold j0j
    omega
theorem o9d {s:Int} {k:Hs} :∀(l:Hu u2m),(∃y∈l,y.1=k∧vCs y≤s)→ ∃x∈l,x.1=k∧vCs x≤s∧ ∀y∈l,y.1=k→vCs y≤s→vCs y≤vCs x
 | [],h=>by obtain⟨y,hy,_⟩:=h;cases hy
 | z::l,h=>by
  by_cases hl:∃y∈l,y.1=k∧vCs y≤s
  ·obtain⟨x,hx,h1,h2,h3⟩:=o9d l hl
   by_cases hz:z.1=k∧vCs z≤s∧vCs x<vCs z
   ·refine⟨z,by simp,hz.1,hz.2.1,fun y hy e1 e2=> ?_⟩
    rcases A8.mp hy with rfl | hy
    ·exact Bv _
    ·have:=h3 y hy e1 e2;omega
   ·refine⟨x,by simp[hx],h1,h2,fun y hy e1 e2=> ?_⟩
    rcases A8.mp hy with rfl | hy
    ·exact Hk.mp fun q=>hz ⟨e1,e2,q⟩
    ·exact h3 y hy e1 e2
  ·obtain⟨y,hy,h1,h2⟩:=h
   have hyz:y=z:=by
    rcases A8.mp hy with e | e
    ·exact e
    ·exact absurd ⟨y,e,h1,h2⟩ hl
   subst hyz
   refine⟨y,by simp,h1,h2,fun w hw e1 e2=> ?_⟩
   rcases A8.mp hw with rfl | hw
   ·exact Bv _
   ·exact absurd ⟨w,hw,e1,e2⟩ hl
theorem q6n {l:Hu u2m} (hA:VAsc l) {a b:Int} (hab:a≤b):u2g (u2g l a) b=u2g l b:=by
 have hT:=t9n hA a
 refine(t9n hT b).ext (t9n hA b) fun x=> ?_
 refine Iff.trans (u6d hT) (Iff.trans ?_ (u6d hA).symm)
 have hsub:∀y,y∈u2g l a→y∈l:=fun y hy=>(t1y l a).subset hy
 have hup:∀y,y∈l→vCs y >a→y∈u2g l a:=fun y hy h=>(u6d hA).mpr ⟨hy, .inl h⟩
 constructor
 ·rintro⟨hx,h⟩
  have hxl:=hsub x hx
  refine⟨hxl,?_⟩
  rcases h with h | ⟨h1,h2⟩
  ·exact .inl h
  ·right
   have hL:j06 l b x:=by
    refine⟨h1.1,fun y hy e1 e2=> ?_⟩
    by_cases c:vCs y >a
    ·exact h1.2 y (hup y hy c) e1 e2
    ·by_cases c2:vCs x >a
     ·omega
     ·rcases(u6d hA).mp hx with ⟨_,h3 | ⟨h3,_⟩⟩
      ·exact absurd h3 c2
      ·exact h3.2 y hy e1 (by omega)
   refine⟨hL,?_⟩
   rcases h2 with h2 | ⟨y,hy,e1,e2⟩
   ·exact .inl h2
   ·exact .inr ⟨y,hsub y hy,e1,e2⟩
 ·rintro⟨hxl,h⟩
  rcases h with h | ⟨h1,h2⟩
  ·exact⟨hup x hxl (by omega), .inl h⟩
  ·have hx:x∈u2g l a:=by
    by_cases c:vCs x >a
    ·exact hup x hxl c
    ·refine(u6d hA).mpr ⟨hxl, .inr ⟨⟨by omega,fun y hy e1 e2=>h1.2 y hy e1 (by omega)⟩,?_⟩⟩
     rcases h2 with h2 | ⟨y,hy,e1,e2⟩
     ·exact .inl h2
     ·exact .inr ⟨y,hy,e1,by omega⟩
   refine⟨hx, .inr ⟨⟨h1.1,fun y hy=>h1.2 y (hsub y hy)⟩,?_⟩⟩
   rcases h2 with h2 | ⟨y,hy,e1,e2⟩
   ·exact .inl h2
   ·exact .inr ⟨y,hup y hy (by omega),e1,e2⟩
theorem q9f {l:Hu u2m} (hA:VAsc l) {s:Int} (hs:∀x∈l,vCs x≤s) {x:u2m} :x∈u2g l s↔x∈l∧x.2.2.1=false∧ ∀y∈l,y.1=x.1→vCs y≤vCs x:=by
 rw[u6d hA]
 constructor
 ·rintro⟨hx,h⟩
  refine⟨hx,?_⟩
  rcases h with h | ⟨h1,h2 | ⟨y,hy,_,h2⟩⟩
  ·have:=hs x hx;omega
  ·exact⟨h2,fun y hy e=>h1.2 y hy e (hs y hy)⟩
  ·have:=hs y hy;omega
 ·rintro⟨hx,h1,h2⟩
  exact⟨hx, .inr ⟨⟨hs x hx,fun y hy e _=>h2 y hy e⟩, .inl h1⟩⟩
theorem q7y {l:Hu u2m} (hA:VAsc l) {a:Int} {x:u2m} :(x∈u2g l a∧x.2.2.1=false∧ ∀y∈u2g l a,y.1=x.1→vCs y≤vCs x)↔(x∈l∧x.2.2.1=false∧ ∀y∈l,y.1=x.1→vCs y≤vCs x):=by
 constructor
 ·rintro⟨hx,h1,h2⟩
  have hxl:=(t1y l a).subset hx
  refine⟨hxl,h1,fun y hy e=> ?_⟩
  by_cases c:vCs y >a
  ·exact h2 y ((u6d hA).mpr ⟨hy, .inl c⟩) e
  ·rcases(u6d hA).mp hx with ⟨_,h3 | ⟨h3,_⟩⟩
   ·omega
   ·exact h3.2 y hy e (by omega)
 ·rintro⟨hx,h1,h2⟩
  refine⟨(u6d hA).mpr ⟨hx,?_⟩,h1,fun y hy=>h2 y ((t1y l a).subset hy)⟩
  by_cases c:vCs x >a
  ·exact .inl c
  ·exact .inr ⟨⟨by omega,fun y hy e _=>h2 y hy e⟩, .inl h1⟩
theorem j1i {l:Hu u2m} (hA:VAsc l) {v:u2m} (hn:∀x∈l,¬(x.1=v.1∧vCs x=vCs v)):VAsc (o6h l v):=by
 have le_iff:∀x:u2m,u9j v x=true↔(vLt x v∨(x.1=v.1∧vCs x=vCs v)):=fun x=>by
  unfold u9j vLt
  rw[Cr,Ai,Ar]
  constructor
  ·rintro(h | ⟨h1,h2⟩)
   ·exact .inl (.inl h)
   ·have h1:=y7f.mp h1
    have h2:vCs x≤vCs v:=h2
    rcases Int.lt_or_eq_of_le h2 with h2 | h2
    ·exact .inl (.inr ⟨h1,h2⟩)
    ·exact .inr ⟨h1,h2⟩
  ·rintro((h | ⟨h1,h2⟩) | ⟨h1,h2⟩)
   ·exact .inl h
   ·exact .inr ⟨y7f.mpr h1,Int.le_of_lt h2⟩
   ·exact .inr ⟨y7f.mpr h1,Int.le_of_eq h2⟩
 have tr:∀ {a b c:u2m},vLt a b→vLt b c→vLt a c:=fun {a b c} h k=>by
  rcases h with h | ⟨h,h'⟩<;>rcases k with k | ⟨k,k'⟩
  ·exact .inl (q6j h k)
  ·exact .inl (k ▸ h)
  ·exact .inl (h ▸ k)
  ·exact .inr ⟨h.trans k,by omega⟩
 unfold o6h VAsc
 have hsplit:l.takeWhile (u9j v)++l.dropWhile (u9j v)=l:=Fe
 have hA' :(l.takeWhile (u9j v)++l.dropWhile (u9j v)).Pairwise vLt:=by rw[hsplit];exact hA
 obtain⟨p1,p2,p3⟩:=Cg.mp hA'
 have lo:∀x∈l.takeWhile (u9j v),vLt x v:=fun x hx=>by
  have h1:u9j v x=true:=by
   have:=List.all_takeWhile (p:=u9j v) (l:=l)
   exact Bg.mp this x hx
  have h2:x∈l:=(List.takeWhile_sublist _).subset hx
  rcases(le_iff x).mp h1 with h | h
  ·exact h
  ·exact absurd h (hn x h2)
 have hi:∀x∈l.dropWhile (u9j v),vLt v x:=by
  intro x hx
  match hd:l.dropWhile (u9j v),hx,p2 with
  | [],hx,_=>cases hx
  | y::r,hx,p2=>
   have hy:u9j v y=false:=by
    have:=List.head?_dropWhile_not (u9j v) l
    rw[hd] at this
    simpa using this
   have hyl:y∈l:=(List.dropWhile_sublist (p:=u9j v)).subset (by rw[hd];simp)
   have hvy:vLt v y:=by
    rcases j35 y v (hn y hyl) with h | h
    ·rw[(le_iff y).mpr (.inl h)] at hy;cases hy
    ·exact h
   rcases A8.mp hx with rfl | hx
   ·exact hvy
   ·exact tr hvy ((Ch.mp p2).1 x hx)
 rw[Bi,Cg]
 refine⟨p1,?_,?_⟩
 ·rw[Fs,Ch]
  exact⟨hi,p2⟩
 ·intro x hx y hy
  rcases Ay.mp hy with hy | hy
  ·rw[Ax] at hy;subst hy;exact lo x hx
  ·exact p3 x hx y hy
theorem q6e {cs:Int} :∀(ws:Hu u20.den) {l:Hu u2m},VAsc l→KD ws→(∀x∈l,∀w∈ws,¬(x.1=w.1∧vCs x=cs))→VAsc (t9k l ws cs)
 | [],l,h,_,_=>h
 | w::ws,l,h,hk,hn=>by
  have hk' :=Ch.mp hk
  have e:t9k l (w::ws) cs=t9k (o6h l (w.1,w.2.1,w.2.2,cs)) ws cs:=rfl
  rw[e]
  refine q6e ws (j1i h fun x hx=>hn x hx w (by simp)) hk'.2 fun x hx z hz=> ?_
  rcases j1a.mp hx with rfl | hx
  ·exact fun q=>hk'.1 z hz q.1
  ·exact hn x hx z (by simp[hz])
theorem j1z {l:Hu u2m} (hA:VAsc l) {ws:Hu u20.den} (hk:KD ws) {a c:Int} (hl:∀x∈l,vCs x<c):
 u2g (t9k (u2g l a) ws c) c=u2g (t9k l ws c) c:=by
 have hT:=t9n hA a
 have hlT:∀x∈u2g l a,vCs x<c:=fun x hx=>hl x ((t1y l a).subset hx)
 have P1:VAsc (t9k (u2g l a) ws c):=q6e ws hT hk fun x hx w _ q=>by have:=hlT x hx;omega
 have P2:VAsc (t9k l ws c):=q6e ws hA hk fun x hx w _ q=>by have:=hl x hx;omega
 have t1:∀x∈t9k (u2g l a) ws c,vCs x≤c:=fun x hx=>by
  rcases(s0v ws _ c).mp hx with h | ⟨w,_,rfl⟩
  ·have:=hlT x h;omega
  ·exact Bv _
 have t2:∀x∈t9k l ws c,vCs x≤c:=fun x hx=>by
  rcases(s0v ws _ c).mp hx with h | ⟨w,_,rfl⟩
  ·have:=hl x h;omega
  ·exact Bv _
 have key:∀(m:Hu u2m),(∀x∈m,vCs x<c)→ ∀x,(x∈t9k m ws c∧x.2.2.1=false∧ ∀y∈t9k m ws c,y.1=x.1→vCs y≤vCs x)↔
  ((∃w∈ws,x=(w.1,w.2.1,w.2.2,c))∧x.2.2.1=false)∨((∀w∈ws,w.1≠x.1)∧x∈m∧x.2.2.1=false∧ ∀y∈m,y.1=x.1→vCs y≤vCs x):=by
  intro m hm x
  have mp:=fun y=>s0v (x:=y) ws m c
  constructor
  ·rintro⟨h1,h2,h3⟩
   rcases(mp x).mp h1 with h | h
   ·refine .inr ⟨fun w hw e=> ?_,h,h2,fun y hy e=>h3 y ((mp y).mpr (.inl hy)) e⟩
    have q:c≤vCs x:=h3 (w.1,w.2.1,w.2.2,c) ((mp _).mpr (.inr ⟨w,hw,rfl⟩)) e
    have:=hm x h
    omega
   ·exact .inl ⟨h,h2⟩
  ·rintro(⟨h1,h2⟩ | ⟨h1,h2,h3,h4⟩)
   ·refine⟨(mp x).mpr (.inr h1),h2,fun y hy _=> ?_⟩
    obtain⟨w,hw,rfl⟩:=h1
    show vCs y≤c
    rcases(mp y).mp hy with h | ⟨w,_,rfl⟩
    ·have:=hm y h;omega
    ·exact Bv _
   ·refine⟨(mp x).mpr (.inl h2),h3,fun y hy e=> ?_⟩
    rcases(mp y).mp hy with h | ⟨w,hw,rfl⟩
    ·exact h4 y h e
    ·exact absurd e (h1 w hw)
 refine(t9n P1 c).ext (t9n P2 c) fun x=> ?_
 rw[q9f P1 t1,q9f P2 t2,key _ hlT,key _ hl,q7y hA]
end
section
abbrev s7f:=Hs×Hs
abbrev WrT:=Hs×Hs×Bool
abbrev u2v:=u0i×Hu u0g
def inB (x lo hi:Int):Bool:=decide (lo≤x)&&decide (x≤hi)
theorem q7v {x lo hi:Int} :inB x lo hi=true↔lo≤x∧x≤hi:=by simp[inB]
def u8d (s:Hs):Bool:=s.data.toList.all (fun b=>decide (97≤b.toNat)&&decide (b.toNat≤122))&&(decide (1≤s.size)&&decide (s.size≤3))
def u3f (r:s7f):Bool:=u8d r.1&&(u8d r.2&&(y3c r.1 r.2 || z7o r.1 r.2))
def u29 (w:WrT):Bool:=u8d w.1&&(decide (w.2.1.size≤12)&&(!w.2.2 || decide (w.2.1.size=0)))
def p44 (t:Ty) (lt:t.den→t.den→Bool) (l:Hu t.den):Bool:=(List.range l.length).all fun i=>decide (i=0) || lt (rdL t l (i - 1)) (rdL t l i)
def u68 (l:Hu WrT):Bool:=l.all u29&&(p44 u20 (fun a b=>y3c a.1 b.1) l&&decide (l.length≤8))
def u77 (t:u0g):Bool:=
 inB t.1 1 9999&&(inB t.2.1 1 3&&(inB t.2.2.1 0 9999&&(decide (t.2.2.2.2.1.length≤8)&&(u68 t.2.2.2.2.2.1&&(t.2.2.2.2.1.all u3f&&
 ((if t.2.1=3 then inB t.2.2.2.1 (t.2.2.1+1) 9999 else decide (t.2.2.2.1=0))&&((if t.2.1=2 then u8d t.2.2.2.2.2.2.2 else decide (t.2.2.2.2.2.2.2.size=0))&&(!decide (t.2.1=1) || !t.2.2.2.2.2.2.1))))))))
def q37 (v:u2m):Bool:=u8d v.1&&(decide (v.2.1.size≤12)&&((!v.2.2.1 || decide (v.2.1.size=0))&&inB v.2.2.2 1 9999))
def s8s (a b:u2m):Bool:=y3c a.1 b.1 || (z7o a.1 b.1&&decide (a.2.2.2<b.2.2.2))
def u8x (l:Hu u2m):Bool:=l.all q37&&(p44 u0d s8s l&&decide (l.length≤120))
def q3r (l:Hu Int) (below:Int):Bool:=decide (∀x∈l,x<below)&&decide l.Nodup
def o6f (c:Int) (l:Hu u0g):Bool:=decide (l.length≤12)&&(l.all (fun t=>u77 t&&(decide (t.2.1=3)&&decide (t.2.2.2.1≤c)))&&p44 u0x (fun a b=>decide (a.2.2.2.1<b.2.2.2.1)) l)
def o0k (c:Int) (l:Hu u0g):Bool:=decide (l.length≤3)&&(l.all (fun t=>u77 t&&(decide (t.2.1=2)&&decide (t.2.2.1≤c)))&&p44 u0x (fun a b=>y3c a.2.2.2.2.2.2.2 b.2.2.2.2.2.2.2) l)
def o6d (c:Int) (l:Hu u0g):Bool:=decide (l.length≤4)&&(l.all (fun t=>u77 t&&(decide (t.2.1=1)&&decide (t.2.2.1≤c)))&&p44 u0x (fun a b=>decide (a.1<b.1)) l)
def u53 (l:Hu u0g):Hu Int:=l.map fun t=>t.1
def u79 (b:u0i):Bool:=u8x b.1&&(b.1.all (fun v=>decide (v.2.2.2≤b.2.2.2.1))&&(inB b.2.2.2.1 0 9999&&(inB b.2.2.2.2 1 9999&&(o6f b.2.2.2.1 b.2.1&&(o0k b.2.2.2.1 b.2.2.1&&q3r (u53 (b.2.1++b.2.2.1)) b.2.2.2.2)))))
def o2o (e:u2v):Bool:=u79 e.1&&(o6d e.1.2.2.2.1 e.2&&q3r (u53 (e.1.2.1++e.1.2.2.1++e.2)) e.1.2.2.2.2)
theorem p8z {t:Ty} {lt:t.den→t.den→Bool} (tr:∀a b c,lt a b=true→lt b c=true→lt a c=true) {l:Hu t.den} :p44 t lt l=true↔l.Pairwise fun a b=>lt a b=true:=by
 unfold p44
 rw[Bg]
 constructor
 ·intro h
  have step:∀(i:Nat) (hi:i+1<l.length),lt l[i] l[i+1] =true:=fun i hi=>by
   have:=h (i+1) (Bq.mpr hi)
   rw[Cr,Ar] at this
   rcases this with q | q
   ·omega
   ·rw[Nat.add_sub_cancel,y8k (show i<l.length by omega),y8k hi] at q
    exact q
  rw[Cp]
  intro i j hi hj hij
  obtain⟨d,rfl⟩:∃d,j=i+1+d:=⟨j - (i+1),by omega⟩
  clear hij
  induction d with
  | zero=>exact step i hj
  | succ d ih=>exact tr _ _ _ (ih (by omega)) (step (i+1+d) hj)
 ·intro h i hi
  have hi:=Bq.mp hi
  rw[Cr,Ar]
  by_cases e:i=0
  ·exact .inl e
  ·refine .inr ?_
   rw[y8k (show i - 1<l.length by omega),y8k hi]
   exact Cp.mp h (i - 1) i (by omega) hi (by omega)
theorem u3i {s:Hs} (h:u8d s=true):1≤s.size∧s.size≤3:=by
 unfold u8d at h
 simp only[Ai,Ar] at h
 exact h.2
structure TxnR (t:u0g):Prop where
 id:1≤t.1∧t.1≤9999
 st:1≤t.2.1∧t.2.1≤3
 snap:0≤t.2.2.1∧t.2.2.1≤9999
 rlen:t.2.2.2.2.1.length≤8
 ws:u68 t.2.2.2.2.2.1=true
 rs:∀r∈t.2.2.2.2.1,u3f r=true
 done:t.2.1=3→t.2.2.1+1≤t.2.2.2.1∧t.2.2.2.1≤9999
 nocs:t.2.1≠3→t.2.2.2.1=0
 name:t.2.1=2→u8d t.2.2.2.2.2.2.2=true
 noname:t.2.1≠2→t.2.2.2.2.2.2.2.size=0
 out:t.2.1=1→t.2.2.2.2.2.2.1=false
theorem q6o {t:u0g} :u77 t=true↔TxnR t:=by
 unfold u77
 simp only[Ai,Cr,q7v,Ar,Bg,Bj,Bu]
 constructor
 ·rintro⟨h1,h2,h3,h4,h5,h6,h7,h8,h9⟩
  refine⟨h1,h2,h3,h4,h5,h6,fun e=> ?_,fun e=> ?_,fun e=> ?_,fun e=> ?_,fun e=> ?_⟩
  ·rw[Al e,q7v] at h7;exact h7
  ·rw[Ao e,Ar] at h7;exact h7
  ·rw[Al e] at h8;exact h8
  ·rw[Ao e,Ar] at h8;exact h8
  ·rcases h9 with h9 | h9
   ·exact absurd e h9
   ·exact h9
 ·intro h
  refine⟨h.id,h.st,h.snap,h.rlen,h.ws,h.rs,?_,?_,?_⟩
  ·split
   ·rename_i e;rw[q7v];exact h.done e
   ·rename_i e;rw[Ar];exact h.nocs e
  ·split
   ·rename_i e;exact h.name e
   ·rename_i e;rw[Ar];exact h.noname e
  ·by_cases e:t.2.1=1
   ·exact .inr (h.out e)
   ·exact .inl e
theorem j2z {l:Hu WrT} :u68 l=true↔(∀w∈l,u29 w=true)∧(l.Pairwise fun a b=>y3c a.1 b.1=true)∧l.length≤8:=by
 unfold u68
 rw[Ai,Ai,Ar,Bg,p8z (t:=u20) (lt:=fun a b=>y3c a.1 b.1) (fun a b c h k=>q6j h k)]
theorem o3y {l:Hu WrT} (h:u68 l=true):KD l:=
 (j2z.mp h).2.1.imp fun {a b} q e=>by rw[e,t5e] at q;cases q
theorem o76 {a b:u2m} :s8s a b=true↔vLt a b:=by
 unfold s8s vLt vCs
 rw[Cr,Ai,Ar,y7f]
theorem j6a {a b c:u2m} (h:vLt a b) (k:vLt b c):vLt a c:=by
 rcases h with h | ⟨h,h'⟩<;>rcases k with k | ⟨k,k'⟩
 ·exact .inl (q6j h k)
 ·exact .inl (k ▸ h)
 ·exact .inl (h ▸ k)
 ·exact .inr ⟨h.trans k,by omega⟩
theorem j0l {l:Hu u2m} :u8x l=true↔(∀v∈l,q37 v=true)∧VAsc l∧l.length≤120:=by
 unfold u8x
 rw[Ai,Ai,Ar,Bg,p8z (t:=u0d) (lt:=s8s) (fun a b c h k=>o76.mpr (j6a (o76.mp h) (o76.mp k)))]
 unfold VAsc
 simp only[o76]
theorem r8e {l:Hu Int} {n:Int} :q3r l n=true↔(∀x∈l,x<n)∧l.Nodup:=by
 unfold q3r;rw[Ai,Ar,Ar]
structure BaseR (b:u0i):Prop where
 vs:u8x b.1=true
 vcs:∀v∈b.1,v.2.2.2≤b.2.2.2.1
 cs:0≤b.2.2.2.1∧b.2.2.2.1≤9999
 next:1≤b.2.2.2.2∧b.2.2.2.2≤9999
 plen:b.2.1.length≤12
 past:∀t∈b.2.1,TxnR t∧t.2.1=3∧t.2.2.2.1≤b.2.2.2.1
 pasc:b.2.1.Pairwise fun x y=>x.2.2.2.1<y.2.2.2.1
 rlen:b.2.2.1.length≤3
 ready:∀t∈b.2.2.1,TxnR t∧t.2.1=2∧t.2.2.1≤b.2.2.2.1
 rasc:b.2.2.1.Pairwise fun x y=>y3c x.2.2.2.2.2.2.2 y.2.2.2.2.2.2.2=true
 below:∀x∈u53 (b.2.1++b.2.2.1),x<b.2.2.2.2
 nodup:(u53 (b.2.1++b.2.2.1)).Nodup
theorem j8h {l:Hu u0g} {f:u0g→Int} :p44 u0x (fun a b=>decide (f a<f b)) l=true↔l.Pairwise fun x y=>f x<f y:=by
 rw[p8z (t:=u0x) (lt:=fun a b=>decide (f a<f b)) (fun a b c h k=>by simp only[Ar] at*;omega)]
 simp only[Ar]
theorem d1p {l:Hu u0g} :p44 u0x (fun a b=>y3c a.2.2.2.2.2.2.2 b.2.2.2.2.2.2.2) l=true↔l.Pairwise fun x y=>y3c x.2.2.2.2.2.2.2 y.2.2.2.2.2.2.2=true:=
 p8z (t:=u0x) (lt:=fun a b=>y3c a.2.2.2.2.2.2.2 b.2.2.2.2.2.2.2) (fun a b c h k=>q6j h k)
theorem p7i {b:u0i} :u79 b=true↔BaseR b:=by
 unfold u79 o6f o0k
 simp only[Ai,q7v,Ar,Bg,q6o,r8e,d1p]
 rw[j8h (f:=fun t=>t.2.2.2.1)]
 constructor
 ·rintro⟨h1,h2,h3,h4,⟨h5,h6,h7⟩,⟨h8,h9,h10⟩,h11,h12⟩
  exact⟨h1,h2,h3,h4,h5,h6,h7,h8,h9,h10,h11,h12⟩
 ·intro h
  exact⟨h.vs,h.vcs,h.cs,h.next,⟨h.plen,h.past,h.pasc⟩,⟨h.rlen,h.ready,h.rasc⟩,h.below,h.nodup⟩
structure EngR (e:u2v):Prop where
 base:BaseR e.1
 olen:e.2.length≤4
 open_:∀t∈e.2,TxnR t∧t.2.1=1∧t.2.2.1≤e.1.2.2.2.1
 oasc:e.2.Pairwise fun x y=>x.1<y.1
 below:∀x∈u53 (e.1.2.1++e.1.2.2.1++e.2),x<e.1.2.2.2.2
 nodup:(u53 (e.1.2.1++e.1.2.2.1++e.2)).Nodup
theorem j5m {e:u2v} :o2o e=true↔EngR e:=by
 unfold o2o o6d
 simp only[Ai,Ar,Bg,q6o,r8e,p7i]
 rw[j8h (f:=fun t=>t.1)]
 constructor
 ·rintro⟨h1,⟨h2,h3,h4⟩,h5,h6⟩
  exact⟨h1,h2,h3,h4,h5,h6⟩
 ·intro h
  exact⟨h.base,⟨h.olen,h.open_,h.oasc⟩,h.below,h.nodup⟩
end
section
theorem u6a (l:Hu Int):(y7g l).size=l.length:=by
 simp[y7g,ByteArray.size]
theorem o54 {s:Hs} {i:Nat} (h:i<s.size):s.data.toList.getD i 0=s.data.toList[i]'(by simpa using h):=by
 rw[A5,A4 (by simpa using h)]
 rfl
theorem j32 (n m:Nat):Int.tdiv (n:Int) (m:Int)=((n / m:Nat):Int):=(Int.ofNat_tdiv n m).symm
theorem o5k (n m:Nat):Int.tmod (n:Int) (m:Int)=((n % m:Nat):Int):=(Int.ofNat_tmod n m).symm
theorem j2d {n:Nat} (h:n<256):IntKind.u8.wrap (n:Int)=(n:Int):=by
 simp[IntKind.wrap,IntKind.bits,IntKind.signed]
 omega
end
section
abbrev u0l:=Hu Hs×Hu (Int×Hs)
theorem o86:(⟨#[]⟩:Hs)=emp:=rfl
def r2k (a b c:Int):Bool:=decide (b≤a)&&decide (a≤c)
theorem s1o (a b c:Int):u02 (a,b,c)=some (r2k a b c):=by
 rw[p9k];unfold q4z r2k
 simp only[ge_iff_le]
 cases decide (b≤a)<;>rfl
theorem s2v (a b c:Int):u0t (a,b,c)=some (r2k a b c):=by
 rw[o2l];unfold q82 r2k
 simp only[ge_iff_le]
 cases decide (b≤a)<;>rfl
theorem t42 {d:u0l} :d.1.length≤d1n.wt d:=by simp only[Ty.wt];omega
theorem t7g {d:u0l} :d.2.length≤d1n.wt d:=by simp only[Ty.wt];omega
theorem j1s {d:u0l} {s:Hs} (h:s∈d.1):s.size≤d1n.wt d:=by
 have h1:d1n.wt d=(d.1.length+(d.1.map Ty.str.wt).sum)+(d.2.length+(d.2.map o69.wt).sum):=rfl
 have h2:=p8a (f:=Ty.str.wt) h
 have h3:Ty.str.wt s=s.size:=rfl
 omega
theorem j1m {d:u0l} {p:Int×Hs} (h:p∈d.2):p.2.size≤d1n.wt d:=by
 have h1:d1n.wt d=(d.1.length+(d.1.map Ty.str.wt).sum)+(d.2.length+(d.2.map o69.wt).sum):=rfl
 have h2:=p8a (f:=o69.wt) h
 have h3:o69.wt p=0+p.2.size:=rfl
 omega
def t3i (c:Hu (Int×Hs)) (at_:Int):Ht Hs:=c.foldl (fun t p=>if p.1=at_ then some p.2 else t) none
def u0k (d:u0l) (at_:Int):Hs×Bool:=if 0≤at_∧at_<d.1.length then((t3i d.2 at_).getD (rdL Ty.str d.1 at_.toNat),true) else(emp,false)
theorem r8w (c:Hu (Int×Hs)) (p:Int×Hs) (at_:Int):t3i (c++ [p]) at_=if p.1=at_ then some p.2 else t3i c at_:=by
 simp[t3i,List.foldl_append]
theorem q3t {c:Hu (Int×Hs)} {at_:Int} {s:Hs} (h:t3i c at_=some s):∃p∈c,p.2=s:=by
 have key:∀(c:Hu (Int×Hs)) (z:Ht Hs),c.foldl (fun t p=>if p.1=at_ then some p.2 else t) z=some s→z=some s∨ ∃p∈c,p.2=s:=by
  intro c
  induction c with
  | nil=>intro z h;exact .inl h
  | cons p c ih=>
   intro z h
   rw[Bs] at h
   rcases ih _ h with h | ⟨q,hq,h⟩
   ·split at h
    ·exact .inr ⟨p,by simp,by simpa using h⟩
    ·exact .inl h
   ·exact .inr ⟨q,by simp[hq],h⟩
 rcases key c none h with h | h
 ·cases h
 ·exact h
theorem r87 (d:u0l) (at_:Int):(u0k d at_).1.size≤d1n.wt d:=by
 unfold u0k
 split
 ·rename_i h
  cases hl:t3i d.2 at_ with
  | none=>
   simp only[Eo]
   have hi:at_.toNat<d.1.length:=by omega
   rw[y8k (t:=Ty.str) hi]
   exact j1s (Ag hi)
  | some s=>
   simp only[Eb]
   obtain⟨p,hp,rfl⟩:=q3t hl
   exact j1m hp
 ·show 0≤_;omega
theorem o7j (c:Hu (Int×Hs)) (at_:Int) (z:Hs):c.foldl (fun t p=>if p.1=at_ then p.2 else t) z=(t3i c at_).getD z:=by
 have key:∀(c:Hu (Int×Hs)) (o:Ht Hs) (z:Hs),c.foldl (fun t p=>if p.1=at_ then p.2 else t) (o.getD z)=(c.foldl (fun t p=>if p.1=at_ then some p.2 else t) o).getD z:=by
  intro c
  induction c with
  | nil=>intro o z;rfl
  | cons p c ih=>
   intro o z
   simp only[Bs]
   by_cases h:p.1=at_
   ·simp only[h,Bl];exact ih (some p.2) z
   ·simp only[h,Bk];exact ih o z
 exact key c none z
theorem o6a (d:u0l) (at_:Int) (hd:d.1.length≤u0j):r2k at_ 0 (IntKind.i64.wrap ((d.1.length:Int) - 1))=decide (0≤at_∧at_<d.1.length):=by
 unfold u0j at hd
 rw[y4y (by omega) (by omega)]
 unfold r2k
 by_cases h:0≤at_∧at_<d.1.length
 ·rw[Bb h,Bb h.1,Bb (by omega)];rfl
 ·rw[A7 h]
  by_cases h0:0≤at_
  ·rw[Bb h0,A7 (by omega)];rfl
  ·rw[A7 h0];rfl
theorem s5o (d:u0l) (at_:Int) (hd:d1n.wt d≤u0j):t0a (d,at_)=some (u0k d at_):=by
 have h1:d.1.length≤u0j:=A9 t42 hd
 have h2:d.2.length≤u0j:=A9 t7g hd
 rw[q7c];unfold s96
 simp only[s1o,o6a d at_ h1,zOb]
 unfold u0k
 unfold u0j at h1 h2
 by_cases h:0≤at_∧at_<d.1.length
 ·have hg:y4q at_ d.1.length=true:=by simp[y4q,h]
  have L:=t00 t1f d.2 (fun t i=>(at_,t,d.2,(d.2.length:Int),i)) (fun t p=>if p.1=at_ then p.2 else t) (fun t=> .inl t) (fun _ _=>True)
   (fun a _=>by rw[s63];simp only[t08,u0b,Am,Ah,Aa])
   (fun i hi a _=>⟨trivial,by
    rw[s63];simp only[t08,u0b,hi,Ae,Ad,y7t hi,zTn,y8k (t:=o69) hi]
    rw[y7l (by omega)]
    by_cases hp:(d.2[i]).1=at_
    ·simp only[hp,Ae,Ad,Bl]
    ·simp only[hp,Ah,Aa,Bk]⟩) (rdL Ty.str d.1 at_.toNat) trivial
  simp only[h,and_self,Ae,Ap,Aa,hg,Ad,L,zOb,Bl,o7j]
 ·simp only[h,Ah,Bh,Ad,Bk];rfl
theorem s5p (d:u0l) (at_:Int) (hd:d1n.wt d≤u0j):u71 (d,at_)=some (u0k d at_):=by
 have h1:d.1.length≤u0j:=A9 t42 hd
 have h2:d.2.length≤u0j:=A9 t7g hd
 rw[q7m];unfold r0g
 simp only[s2v,o6a d at_ h1,zOb]
 unfold u0k
 unfold u0j at h1 h2
 by_cases h:0≤at_∧at_<d.1.length
 ·have hg:y4q at_ d.1.length=true:=by simp[y4q,h]
  have L:∀n:Nat,n≤d.2.length→t1j (at_,d,(n:Int) - 1)=some (match t3i (d.2.take n) at_ with
   | some s=> .inr (s,true)
   | none=> .inl (at_,d)):=by
   intro n
   induction n with
   | zero=>
    intro _
    rw[s67];simp only[t1c]
    rfl
   | succ n ih=>
    intro hn
    have hlt:n<d.2.length:=by omega
    rw[s67];simp only[t1c]
    have e0:((n+1:Nat):Int) - 1=(n:Int):=by simp
    have e1:decide ((n:Int)≥0)=true:=by simp
    simp only[e0,e1,Ad,y7t hlt,zTn,y8k (t:=o69) hlt]
    rw[B9 hlt,r8w]
    by_cases hp:(d.2[n]).1=at_
    ·simp only[hp,Ae,Ad,Bl]
    ·simp only[hp,Ah,Aa,Bk]
     rw[y4y (by omega) (by omega)]
     exact ih (by omega)
  have L:=L d.2.length (Au _)
  rw[Cq] at L
  have wl:IntKind.i64.wrap ((d.2.length:Int) - 1)=(d.2.length:Int) - 1:=y4y (by omega) (by omega)
  simp only[h,and_self,Ae,Ap,Aa,Bl]
  rw[wl,L]
  cases t3i d.2 at_ with
  | none=>simp only[zOb,hg,Ad,Eo]
  | some s=>rfl
 ·simp only[h,Ah,Bh,Ad,Bk];rfl
def q0h (d:u0l) (from_:Int):Nat→Nat→Hs→Hs×Bool
 | 0,_,acc=>(acc,true)
 | m+1,i,acc=>if(u0k d (from_+(i:Int))).2 then q0h d from_ m (i+1) (acc++(u0k d (from_+(i:Int))).1) else(emp,false)
def u9i (d:u0l) (from_ n:Int):Hs×Bool:=if 0≤n∧n≤100 then q0h d from_ n.toNat 0 emp else(emp,false)
theorem u8k (s:Hs):(z7t s).length=s.size:=by simp[z7t]
theorem t9w (a b:Hs):z7t (a++b)=z7t a++z7t b:=by simp[z7t,Ft]
theorem t9l (s:Hs):y7g (z7t s)=s:=by
 cases s with
 | mk d=>
  unfold y7g z7t
  simp only[List.map_map]
  have:(d.toList.map ((fun n=>UInt8.ofNat n.toNat) ∘fun b=>(b.toNat:Int)))=d.toList:=by
   conv=>rhs;rw[←List.map_id d.toList]
   apply Ff
   intro b _
   simp
  rw[this]
theorem s9c {a b c:Int} :r2k a b c=decide (b≤a∧a≤c):=by
 unfold r2k
 by_cases h:b≤a<;>by_cases g:a≤c<;>simp[h,g]
theorem p1u (d:u0l) (from_ n:Int) (hd:d1n.wt d≤1073741824) (h1: -4611686018427387904≤from_) (h2:from_≤4611686018427387904):s10 (d,from_,n)=some (u9i d from_ n):=by
 have hb:d1n.wt d≤u0j:=by unfold u0j;omega
 rw[q7f];unfold s99 u9i
 simp only[s1o,s9c,zOb]
 by_cases h:0≤n∧n≤100
 ·obtain⟨m,rfl⟩:∃m:Nat,n=m:=⟨n.toNat,by omega⟩
  have L:=r6o (fun x=>(t1g x).bind fun r=>match r with
   | .inl o=>some (y7g o,true)
   | .inr z=>some z) m (fun(a:Hs) i=>(from_,(m:Int),d,z7t a,i)) (fun i a=>q0h d from_ (m - i) i a) (fun i a=>a.size≤i*1073741824)
   (fun a _=>by
    rw[s64];simp only[t09,u0b,Am,Ah,Aa,zOb,t9l,Dw,q0h])
   (fun i a hi ha=>by
    have e:m - i=(m - (i+1))+1:=by omega
    have hs:=r87 d (from_+(i:Int))
    rw[s64];simp only[t09,u0b,hi,Ae,Ad]
    rw[y4y (n:=from_+(i:Int)) (by omega) (by omega),s5o d _ hb,e]
    simp only[zOb,q0h]
    cases hr:(u0k d (from_+(i:Int))).2 with
    | false=>left;rfl
    | true=>
     right
     refine⟨a++(u0k d (from_+(i:Int))).1,by rw[Af];omega,by simp,?_⟩
     simp only[Ap,Aa,u8k,u0z (show a.size+(u0k d (from_+(i:Int))).1.size≤1099511627776 by omega),Ad,t9w]
     rw[y7l (by omega)]) 0 emp (by omega) (by show 0≤_;omega)
  rw[Bb h,Al h,Ap,Aa]
  exact L
 ·rw[A7 h,Ao h];rfl
theorem p1v (d:u0l) (from_ n:Int) (hd:d1n.wt d≤1073741824) (h1: -4611686018427387904≤from_) (h2:from_≤4611686018427387904):s13 (d,from_,n)=some (u9i d from_ n):=by
 have hb:d1n.wt d≤u0j:=by unfold u0j;omega
 rw[q7o];unfold r0i u9i
 simp only[s2v,s9c,zOb]
 by_cases h:0≤n∧n≤100
 ·obtain⟨m,rfl⟩:∃m:Nat,n=m:=⟨n.toNat,by omega⟩
  have L:=r6o (fun x=>(t1k x).bind fun r=>match r with
   | .inl o=>some (o,true)
   | .inr z=>some z) m (fun(a:Hs) i=>(from_,(m:Int),d,a,i)) (fun i a=>q0h d from_ (m - i) i a) (fun i a=>a.size≤i*1073741824∧(i=0∨0≤from_))
   (fun a _=>by
    rw[s68];simp only[t1d,u0b,Am,Ah,Aa,zOb,Dw,q0h])
   (fun i a hi ha=>by
    have e:m - i=(m - (i+1))+1:=by omega
    have hs:=r87 d (from_+(i:Int))
    rw[s68];simp only[t1d,u0b,hi,Ae,Ad]
    rw[e]
    simp only[q0h]
    by_cases hf:from_<0∨from_ >(d.1.length:Int)
    ·left
     have hno:(u0k d (from_+(i:Int))).2=false:=by
      unfold u0k
      rw[Ao (by omega)]
     rw[hno]
     by_cases hf1:from_<0
     ·rw[Bb hf1];rfl
     ·have hf2:from_ >(d.1.length:Int):=by omega
      rw[A7 hf1,Bb hf2];rfl
    ·have hf1: ¬from_<0:=by omega
     have hf2: ¬from_ >(d.1.length:Int):=by omega
     rw[A7 hf1,A7 hf2]
     simp only[Aa,zOb]
     rw[y4y (n:=from_+(i:Int)) (by omega) (by omega),s5p d _ hb]
     simp only[zOb]
     cases hr:(u0k d (from_+(i:Int))).2 with
     | false=>left;rfl
     | true=>
      right
      refine⟨a++(u0k d (from_+(i:Int))).1,⟨by rw[Af];omega,by omega⟩,by simp,?_⟩
      simp only[Ap,Aa,Bb (show a.size+(u0k d (from_+(i:Int))).1.size≤140737488355328 by omega),Ad]
      rw[y7l (by omega)]) 0 emp (by omega) ⟨by show 0≤_;omega, .inl rfl⟩
  rw[Bb h,Al h,Ap,Aa]
  exact L
 ·rw[A7 h,Ao h];rfl
end
section
theorem o83 (v:Nat):(bif decide ((v:Int)<97) then some true else some (decide ((v:Int) >122)))=some (!(decide (97≤v)&&decide (v≤122))):=by
 have e1:decide ((v:Int)<97)= !decide (97≤v):=by by_cases h:97≤v<;>simp[h] <;>omega
 have e2:decide ((v:Int) >122)= !decide (v≤122):=by by_cases h:v≤122<;>simp[h] <;>omega
 rw[e1,e2]
 cases decide (97≤v)<;>cases decide (v≤122)<;>rfl
theorem r96 (a b c:Int):u02 (a,b,c)=some (inB a b c):=s1o a b c
theorem r0t (a b c:Int):u0t (a,b,c)=some (inB a b c):=s2v a b c
theorem t4o {X R:Type} (W:X→Ht R) (n:Nat) (mk:Int→X) (ok:Nat→Bool) (yes no:R) (hend:W (mk (n:Int))=some yes)
 (hstep:∀(i:Nat),i<n→W (mk (i:Int))=bif ok i then W (mk ((i+1:Nat):Int)) else some no):W (mk 0)=some (bif (List.range n).all ok then yes else no):=by
 have key:∀d i:Nat,i+d=n→W (mk (i:Int))=some (bif (List.range d).all (fun j=>ok (i+j)) then yes else no):=by
  intro d
  induction d with
  | zero=>intro i hi;have:i=n:=by omega
          subst this;simpa using hend
  | succ d ih=>
   intro i hi
   rw[hstep i (by omega),ih (i+1) (by omega),List.range_succ_eq_map,Gc,List.all_map,Df]
   have e:((fun j=>ok (i+j)) ∘Nat.succ)=fun j=>ok (i+1+j):=by funext j;simp only[Function.comp];congr 1;omega
   rw[e]
   cases ok i<;>rfl
 have:=key n 0 (by omega)
 simpa using this
theorem s3i {t:Ty} (l:Hu t.den) (f:t.den→Bool):((List.range l.length).all fun i=>f (rdL t l i))=l.all f:=by
 rw[Cd,Bg,Bg]
 constructor
 ·intro h x hx
  obtain⟨i,hi,rfl⟩:=B7 hx
  have:=h i (Bq.mpr hi)
  rwa [y8k hi] at this
 ·intro h i hi
  rw[y8k (Bq.mp hi)]
  exact h _ (Ag _)
theorem o8y {α:Type} (l:Hu α) (f g:α→Bool):(l.all fun i=>f i&&g i)=(l.all f&&l.all g):=by
 induction l with
 | nil=>rfl
 | cons x l ih=>simp only[Gc,ih];cases f x<;>cases g x<;>simp
theorem s88 {t:Ty} (l:Hu t.den) (f:t.den→Bool) (lt:t.den→t.den→Bool):
 ((List.range l.length).all fun i=>f (rdL t l i)&&(decide (i=0) || lt (rdL t l (i - 1)) (rdL t l i)))=(l.all f&&p44 t lt l):=by
 rw[o8y (List.range l.length) (fun i=>f (rdL t l i)) (fun i=>decide (i=0) || lt (rdL t l (i - 1)) (rdL t l i)),s3i]
 rfl
theorem s2w (i:Nat):decide ((i:Int) >0)= !decide (i=0):=by by_cases h:i=0<;>simp[h] <;>omega
theorem t7u {i:Nat} (h:i<4611686018427387904) (h0:i≠0):IntKind.i64.wrap ((i:Int) - (1:Int))=((i - 1:Nat):Int):=by
 rw[y4y (by omega) (by omega)];omega
theorem o0a (s:Hs) {i:Nat} (h:i<s.size):s.data.toList.getD i 0=s.data.toList[i]'h:=by
 rw[A5,A4 h];rfl
theorem s5j (s:Hs) (hs:s.size≤u0j):t03 s=some (u8d s):=by
 have hb:u0j=1099511627776:=rfl
 have L:=t4o s2m s.size (fun i=>(s,i)) (fun i=>(fun b:UInt8=>decide (97≤b.toNat)&&decide (b.toNat≤122)) (s.data.toList.getD i 0)) (.inl s) (.inr false)
  (by rw[q23];simp only[s2c,u0b,Am,Ah,Aa])
  (fun i hi=>by
   rw[q23];simp only[s2c,u0b,hi,Ae,Ad,y7t hi,zTn,y7l (show i<4611686018427387904 by omega)]
   rw[o83];simp only[zOb]
   cases (decide (97≤(s.data.toList.getD i 0).toNat)&&decide ((s.data.toList.getD i 0).toNat≤122))<;>rfl)
 have hA:((List.range s.size).all fun i=>(fun b:UInt8=>decide (97≤b.toNat)&&decide (b.toNat≤122)) (s.data.toList.getD i 0))=s.data.toList.all (fun b=>decide (97≤b.toNat)&&decide (b.toNat≤122)):=by
  rw[Cd,Bg,Bg]
  constructor
  ·intro h x hx
   obtain⟨i,hi,rfl⟩:=B7 hx
   have:=h i (Bq.mpr hi)
   rwa [o0a s hi] at this
  ·intro h i hi
   rw[o0a s (Bq.mp hi)]
   exact h _ (Ag _)
 rw[hA] at L
 rw[o1v];unfold q8l
 simp only[L,zOb]
 unfold u8d
 cases s.data.toList.all (fun b=>decide (97≤b.toNat)&&decide (b.toNat≤122))
 ·rfl
 ·simp only[Ad,r96,zOb,Bz]
  unfold inB
  congr 1
  have e1:decide ((1:Int)≤(s.size:Int))=decide (1≤s.size):=by simp;omega
  have e2:decide ((s.size:Int)≤3)=decide (s.size≤3):=by simp;omega
  rw[e1,e2]
theorem t9p (s:Hs) (hs:s.size≤u0j):u7v s=some (u8d s):=by
 have hb:u0j=1099511627776:=rfl
 have L:=t4o s2p s.size (fun i=>(s,i)) (fun i=>(fun b:UInt8=>decide (97≤b.toNat)&&decide (b.toNat≤122)) (s.data.toList.getD i 0)) (.inl s) (.inr false)
  (by rw[q27];simp only[s2g,u0b,Am,Ah,Aa])
  (fun i hi=>by
   rw[q27];simp only[s2g,u0b,hi,Ae,Ad,y7t hi,zTn,y7l (show i<4611686018427387904 by omega)]
   rw[o83];simp only[zOb]
   cases (decide (97≤(s.data.toList.getD i 0).toNat)&&decide ((s.data.toList.getD i 0).toNat≤122))<;>rfl)
 have hA:((List.range s.size).all fun i=>(fun b:UInt8=>decide (97≤b.toNat)&&decide (b.toNat≤122)) (s.data.toList.getD i 0))=s.data.toList.all (fun b=>decide (97≤b.toNat)&&decide (b.toNat≤122)):=by
  rw[Cd,Bg,Bg]
  constructor
  ·intro h x hx
   obtain⟨i,hi,rfl⟩:=B7 hx
   have:=h i (Bq.mpr hi)
   rwa [o0a s hi] at this
  ·intro h i hi
   rw[o0a s (Bq.mp hi)]
   exact h _ (Ag _)
 rw[hA] at L
 rw[o2f];unfold q8w
 simp only[L,zOb]
 unfold u8d
 cases s.data.toList.all (fun b=>decide (97≤b.toNat)&&decide (b.toNat≤122))
 ·rfl
 ·simp only[Ad,r0t,zOb,Bz]
  unfold inB
  congr 1
  have e1:decide ((1:Int)≤(s.size:Int))=decide (1≤s.size):=by simp;omega
  have e2:decide ((s.size:Int)≤3)=decide (s.size≤3):=by simp;omega
  rw[e1,e2]
theorem o1c (r:s7f) (h1:r.1.size≤u0j) (h2:r.2.size≤u0j):s9f r=some (u3f r):=by
 rw[p5d];unfold q0y u3f
 simp only[s5j _ h1,s5j _ h2,zOb]
 cases u8d r.1<;>cases u8d r.2<;>rfl
theorem r6s (r:s7f) (h1:r.1.size≤u0j) (h2:r.2.size≤u0j):t7m r=some (u3f r):=by
 rw[p51];unfold q1m u3f
 simp only[t9p _ h1,t9p _ h2,zOb]
 cases u8d r.1<;>cases u8d r.2<;>rfl
theorem t6l (s:Hs):z7o s (⟨#[]⟩:Hs)=decide (s.size=0):=by
 rw[Cd,y7f,Ar]
 constructor
 ·intro h;subst h;rfl
 ·intro h;exact Gf (Fi h)
theorem d03 (s:Hs):decide ((s.size:Int)≤12)=decide (s.size≤12):=by simp;omega
theorem o1m (w:WrT) (h1:w.1.size≤u0j):s9j w=some (u29 w):=by
 rw[p5n];unfold q08 u29
 simp only[s5j _ h1,zOb,t6l,d03]
 cases u8d w.1<;>cases decide (w.2.1.size≤12)<;>cases w.2.2<;>rfl
theorem r6w (w:WrT) (h1:w.1.size≤u0j):t7n w=some (u29 w):=by
 rw[p6a];unfold q1v u29
 simp only[t9p _ h1,zOb,t6l,d03]
 cases u8d w.1<;>cases decide (w.2.1.size≤12)<;>cases w.2.2<;>rfl
theorem p79 {l:Hu WrT} {w:WrT} (h:w∈l):w.1.size≤(Ty.sl u20).wt l∧w.2.1.size≤(Ty.sl u20).wt l:=by
 have h1:(Ty.sl u20).wt l=l.length+(l.map u20.wt).sum:=rfl
 have h2:=p8a (f:=u20.wt) h
 have h3:u20.wt w=w.1.size+(w.2.1.size+0):=rfl
 omega
theorem p7w {l:Hu s7f} {w:s7f} (h:w∈l):w.1.size≤(Ty.sl t4z).wt l∧w.2.size≤(Ty.sl t4z).wt l:=by
 have h1:(Ty.sl t4z).wt l=l.length+(l.map t4z.wt).sum:=rfl
 have h2:=p8a (f:=t4z.wt) h
 have h3:t4z.wt w=w.1.size+w.2.size:=rfl
 omega
theorem s1s {t:Ty} (l:Hu t.den):l.length≤(Ty.sl t).wt l:=by
 have h1:(Ty.sl t).wt l=l.length+(l.map t.wt).sum:=rfl
 omega
theorem le8 (n:Nat):decide ((n:Int)≤8)=decide (n≤8):=by simp;omega
theorem gt8 (n:Nat):decide ((n:Int) >8)= !decide (n≤8):=by by_cases h:n≤8<;>simp[h] <;>omega
theorem p8w (l:Hu WrT) (hl:(Ty.sl u20).wt l≤u0j):s6k l=some (u68 l):=by
 have hb:u0j=1099511627776:=rfl
 have hn:=s1s (t:=u20) l
 have L:=t4o t6d l.length (fun i=>(l,l,(l.length:Int),i)) (fun i=>u29 (rdL u20 l i)&&(decide (i=0) || (fun a b:WrT=>y3c a.1 b.1) (rdL u20 l (i - 1)) (rdL u20 l i))) (.inl l) (.inr false)
  (by rw[r1w];simp only[t5p,u0b,Am,Ah,Aa])
  (fun i hi=>by
   have hm:rdL u20 l i∈l:=by rw[y8k hi];exact Ag hi
   rw[r1w];simp only[t5p,u0b,hi,Ae,Ad,y7t hi,zTn,y7l (show i<4611686018427387904 by omega),o1m _ (A9 (p79 hm).1 hl),zOb,s2w]
   by_cases h0:i=0
   ·subst h0;simp only[Ae,Ap,Aa,Dx,Cz]
    cases u29 (rdL u20 l 0)<;>rfl
   ·simp only[h0,Ah,Bh,Ad,Ci,t7u (show i<4611686018427387904 by omega) h0,y7t (show i - 1<l.length by omega),zTn]
    cases u29 (rdL u20 l i)
    ·rfl
    ·simp only[Ap,Aa,zOb,Bz]
     cases y3c (rdL u20 l (i - 1)).1 (rdL u20 l i).1<;>rfl)
 rw[s88 (t:=u20) l u29 (fun a b=>y3c a.1 b.1)] at L
 rw[p2v];unfold r7c
 simp only[L,zOb]
 unfold u68
 cases l.all u29
 ·rfl
 ·cases p44 u20 (fun a b=>y3c a.1 b.1) l
  ·rfl
  ·simp only[Bz,Ad]
   rw[le8]
theorem q4i (l:Hu WrT) (hl:(Ty.sl u20).wt l≤u0j):s1g l=some (u68 l):=by
 have hb:u0j=1099511627776:=rfl
 have hn:=s1s (t:=u20) l
 have L:=t4o t6k l.length (fun i=>(l,i)) (fun i=>u29 (rdL u20 l i)&&(decide (i=0) || (fun a b:WrT=>y3c a.1 b.1) (rdL u20 l (i - 1)) (rdL u20 l i))) (.inl l) (.inr false)
  (by rw[r2i];simp only[t56,u0b,Am,Ah,Aa])
  (fun i hi=>by
   have hm:rdL u20 l i∈l:=by rw[y8k hi];exact Ag hi
   rw[r2i];simp only[t56,u0b,hi,Ae,Ad,y7t hi,zTn,y7l (show i<4611686018427387904 by omega),r6w _ (A9 (p79 hm).1 hl),zOb,s2w]
   by_cases h0:i=0
   ·subst h0;simp only[Ae,Ap,Aa,Dx,Cz]
    cases u29 (rdL u20 l 0)<;>rfl
   ·simp only[h0,Ah,Bh,Ad,Ci,t7u (show i<4611686018427387904 by omega) h0,y7t (show i - 1<l.length by omega),zTn]
    cases u29 (rdL u20 l i)
    ·rfl
    ·simp only[Ap,Aa,zOb,Bz]
     cases y3c (rdL u20 l (i - 1)).1 (rdL u20 l i).1<;>rfl)
 rw[s88 (t:=u20) l u29 (fun a b=>y3c a.1 b.1)] at L
 rw[p3i];unfold r70
 simp only[L,zOb]
 unfold u68
 cases l.all u29
 ·rfl
 ·cases p44 u20 (fun a b=>y3c a.1 b.1) l
  ·rfl
  ·simp only[Bz,Ad]
   rw[le8]
theorem o95 (t:u0g):u0x.wt t=0+(0+(0+(0+((Ty.sl t4z).wt t.2.2.2.2.1+((Ty.sl u20).wt t.2.2.2.2.2.1+(0+t.2.2.2.2.2.2.2.size)))))):=rfl
theorem s5k (t:u0g) (ht:u0x.wt t≤u0j):u85 t=some (u77 t):=by
 have hb:u0j=1099511627776:=rfl
 have hw:=o95 t
 have hn:=s1s (t:=t4z) t.2.2.2.2.1
 have L:=t4o s2o t.2.2.2.2.1.length (fun i=>(t,t.2.2.2.2.1,(t.2.2.2.2.1.length:Int),i)) (fun i=>u3f (rdL t4z t.2.2.2.2.1 i)) (.inl t) (.inr false)
  (by rw[q26];simp only[s2f,u0b,Am,Ah,Aa])
  (fun i hi=>by
   have hm:rdL t4z t.2.2.2.2.1 i∈t.2.2.2.2.1:=by rw[y8k hi];exact Ag hi
   have hz:=p7w hm
   rw[q26];simp only[s2f,u0b,hi,Ae,Ad,y7t hi,zTn,y7l (show i<4611686018427387904 by omega),o1c (rdL t4z t.2.2.2.2.1 i) (A9 hz.1 (by omega)) (A9 hz.2 (by omega)),zOb]
   cases u3f (rdL t4z t.2.2.2.2.1 i)<;>rfl)
 rw[s3i (t:=t4z) t.2.2.2.2.1 u3f] at L
 rw[o2a];unfold q8r
 have k1:=p8w t.2.2.2.2.2.1 (by omega)
 have k2:=s5j t.2.2.2.2.2.2.2 (by omega)
 simp only[L,zOb]
 unfold u77
 cases t.2.2.2.2.1.all u3f
 ·simp only[Aa,Fx,Fy]
 ·simp only[Ad,r96,k1,k2,zOb,t6l,gt8,Bz]
  cases h3:inB t.2.2.1 0 9999
  ·cases inB t.1 1 9999<;>cases inB t.2.1 1 3<;>simp
  ·have h3' :=q7v.mp h3
   rw[y4y (n:=t.2.2.1+1) (by omega) (by omega)]
   cases inB t.1 1 9999<;>cases inB t.2.1 1 3<;>cases decide (t.2.2.2.2.1.length≤8)<;>cases u68 t.2.2.2.2.2.1<;>simp
   generalize inB t.2.2.2.1 (t.2.2.1+1) 9999=b1
   generalize u8d t.2.2.2.2.2.2.2=b2
   by_cases e3:t.2.1=3
   ·cases t.2.2.2.2.2.2.1<;>cases b1<;>simp[e3]
   ·by_cases e2:t.2.1=2
    ·cases t.2.2.2.2.2.2.1<;>cases b2<;>by_cases e5:t.2.2.2.1=0<;>simp[e2,e5]
    ·by_cases e1:t.2.1=1<;>cases t.2.2.2.2.2.2.1<;>by_cases e5:t.2.2.2.1=0<;>simp[e1,e2,e3,e5]
theorem t9r (t:u0g) (ht:u0x.wt t≤u0j):u7x t=some (u77 t):=by
 have hb:u0j=1099511627776:=rfl
 have hw:=o95 t
 have hn:=s1s (t:=t4z) t.2.2.2.2.1
 have L:=t4o s2s t.2.2.2.2.1.length (fun i=>(t,i)) (fun i=>u3f (rdL t4z t.2.2.2.2.1 i)) (.inl t) (.inr false)
  (by rw[q3b];simp only[s2k,u0b,Am,Ah,Aa])
  (fun i hi=>by
   have hm:rdL t4z t.2.2.2.2.1 i∈t.2.2.2.2.1:=by rw[y8k hi];exact Ag hi
   have hz:=p7w hm
   rw[q3b];simp only[s2k,u0b,hi,Ae,Ad,y7t hi,zTn,y7l (show i<4611686018427387904 by omega),r6s (rdL t4z t.2.2.2.2.1 i) (A9 hz.1 (by omega)) (A9 hz.2 (by omega)),zOb]
   cases u3f (rdL t4z t.2.2.2.2.1 i)<;>rfl)
 rw[s3i (t:=t4z) t.2.2.2.2.1 u3f] at L
 rw[o2k];unfold q81
 have k1:=q4i t.2.2.2.2.2.1 (by omega)
 have k2:=t9p t.2.2.2.2.2.2.2 (by omega)
 simp only[L,r0t,k1,k2,zOb,t6l,gt8]
 unfold u77
 cases t.2.2.2.2.1.all u3f
 ·cases inB t.1 1 9999<;>cases inB t.2.1 1 3<;>cases inB t.2.2.1 0 9999<;>cases decide (t.2.2.2.2.1.length≤8)<;>cases u68 t.2.2.2.2.2.1<;>simp
 ·simp only[Ad,Bz,r0t,k2,zOb,t6l]
  cases h3:inB t.2.2.1 0 9999
  ·cases inB t.1 1 9999<;>cases inB t.2.1 1 3<;>simp
  ·have h3' :=q7v.mp h3
   rw[y4y (n:=t.2.2.1+1) (by omega) (by omega)]
   cases inB t.1 1 9999<;>cases inB t.2.1 1 3<;>cases decide (t.2.2.2.2.1.length≤8)<;>cases u68 t.2.2.2.2.2.1<;>try rfl
   generalize decide (t.2.2.2.2.2.2.2.size=0)=b4
   generalize inB t.2.2.2.1 (t.2.2.1+1) 9999=b1
   generalize u8d t.2.2.2.2.2.2.2=b2
   by_cases e3:t.2.1=3
   ·cases t.2.2.2.2.2.2.1<;>cases b1<;>cases b4<;>simp[e3]
   ·by_cases e2:t.2.1=2
    ·cases t.2.2.2.2.2.2.1<;>cases b2<;>by_cases e5:t.2.2.2.1=0<;>simp[e2,e5]
    ·by_cases e1:t.2.1=1<;>cases t.2.2.2.2.2.2.1<;>cases b4<;>by_cases e5:t.2.2.2.1=0<;>simp[e1,e2,e3,e5]
end
section
section
variable {l:Hu u0x.den} (hl:j5s l) {u:Hu Nat} (ho:j8l l=some u)
include hl
include ho
def pre (l:Hu u0x.den) (u:Hu Nat) (a:Nat):Hu u0x.den:=(u.take a).map fun i=>rdL u0x l i
end
end
section
def d1t (w:u20.den):Prop:=w.1.size≤4∧w.2.1.size≤13
def d1s (n:Nat) (t:u0x.den):Prop:=t.2.2.2.2.1.length≤n∧(∀r∈t.2.2.2.2.1,r.1.size≤2∧r.2.size≤2)∧t.2.2.2.2.2.1.length≤n∧(∀r∈t.2.2.2.2.2.1,d1t r)∧t.2.2.2.2.2.2.2.size≤16
end
section
theorem o6r {l:Hu u2m} {w:u2m} (h:w∈l):w.1.size≤(Ty.sl u0d).wt l∧w.2.1.size≤(Ty.sl u0d).wt l:=by
 have h1:(Ty.sl u0d).wt l=l.length+(l.map u0d.wt).sum:=rfl
 have h2:=p8a (f:=u0d.wt) h
 have h3:u0d.wt w=w.1.size+(w.2.1.size+(0+0)):=rfl
 omega
theorem j64 (n:Nat):decide ((n:Int) >12)= !decide (n≤12):=by by_cases h:n≤12<;>simp[h] <;>omega
theorem j5q (n:Nat):decide ((n:Int)≤120)=decide (n≤120):=by simp;omega
theorem q9d (a b:Int):decide (a≥b)= !decide (a<b):=by
 by_cases h:a<b
 ·have: ¬a≥b:=by omega
  simp[h,this]
 ·have:a≥b:=by omega
  simp[h,this]
theorem q59 (a b:Int):decide (a >b)= !decide (a≤b):=by
 by_cases h:a≤b
 ·have: ¬a >b:=by omega
  simp[h,this]
 ·have:a >b:=by omega
  simp[h,this]
theorem j3m (a b:u2m):∃r,u6t (a,b)=some r∧decide (r≥0)= !s8s a b:=by
 rw[s3k];unfold t4x s8s
 simp only[p65,zOb]
 rcases q33 a.1 b.1 with h | h | h
 ·exact⟨-1,by simp[h],by simp[h]⟩
 ·simp only[h,t5e,y6l,Br,Bk,Bl,Ae,Ap,Aa,o8g,zOb,Ci,Bz]
  refine⟨_,rfl,?_⟩
  by_cases h3:a.2.2.2<b.2.2.2
  ·simp[h3]
  ·by_cases h4:a.2.2.2 >b.2.2.2<;>simp[h3,h4]
 ·have e1:=r3f h
  have e2:z7o a.1 b.1=false:=o5i.mpr (fun e=>by rw[e,t5e] at h;cases h)
  exact⟨1,by simp[e1,e2],by simp[e1,e2]⟩
theorem p1x (l:Hu u2m) (hl:(Ty.sl u0d).wt l≤u0j):s11 l=some (u8x l):=by
 have hb:u0j=1099511627776:=rfl
 have hn:=s1s (t:=u0d) l
 have L:=t4o t1h l.length (fun i=>(l,l,(l.length:Int),i)) (fun i=>q37 (rdL u0d l i)&&(decide (i=0) || s8s (rdL u0d l (i - 1)) (rdL u0d l i))) (.inl l) (.inr false)
  (by rw[s65];simp only[t1a,u0b,Am,Ah,Aa])
  (fun i hi=>by
   have hm:rdL u0d l i∈l:=by rw[y8k hi];exact Ag hi
   rw[s65];simp only[t1a,u0b,hi,Ae,Ad,y7t hi,zTn,y7l (show i<4611686018427387904 by omega),s5j _ (A9 (o6r hm).1 hl),r96,zOb,s2w,t6l,j64]
   unfold q37
   generalize u8d (rdL u0d l i).1=b1
   generalize decide ((rdL u0d l i).2.1.size≤12)=b2
   generalize decide ((rdL u0d l i).2.1.size=0)=b3
   generalize (rdL u0d l i).2.2.1=b4
   generalize inB (rdL u0d l i).2.2.2 1 9999=b5
   by_cases h0:i=0
   ·subst h0;simp only[Ae,Ap,Aa,Dx,Cz]
    cases b1<;>cases b2<;>cases b3<;>cases b4<;>cases b5<;>rfl
   ·obtain⟨r,hr,hr2⟩:=j3m (rdL u0d l (i - 1)) (rdL u0d l i)
    simp only[h0,Ah,Bh,Ad,Ci,t7u (show i<4611686018427387904 by omega) h0,y7t (show i - 1<l.length by omega),zTn,hr,hr2,zOb]
    cases s8s (rdL u0d l (i - 1)) (rdL u0d l i)<;>cases b1<;>cases b2<;>cases b3<;>cases b4<;>cases b5<;>rfl)
 rw[s88 (t:=u0d) l q37 s8s] at L
 rw[q7g];unfold r0a
 simp only[L,zOb]
 unfold u8x
 cases l.all q37
 ·rfl
 ·cases p44 u0d s8s l
  ·rfl
  ·simp only[Bz,Ad]
   rw[j5q]
theorem p1y (l:Hu u2m) (hl:(Ty.sl u0d).wt l≤u0j):s14 l=some (u8x l):=by
 have hb:u0j=1099511627776:=rfl
 have hn:=s1s (t:=u0d) l
 have L:=t4o t1l l.length (fun i=>(l,i)) (fun i=>q37 (rdL u0d l i)&&(decide (i=0) || s8s (rdL u0d l (i - 1)) (rdL u0d l i))) (.inl l) (.inr false)
  (by rw[s69];simp only[t1e,u0b,Am,Ah,Aa])
  (fun i hi=>by
   have hm:rdL u0d l i∈l:=by rw[y8k hi];exact Ag hi
   rw[s69];simp only[t1e,u0b,hi,Ae,Ad,y7t hi,zTn,y7l (show i<4611686018427387904 by omega),t9p _ (A9 (o6r hm).1 hl),r0t,zOb,s2w,t6l,j64]
   unfold q37 s8s
   generalize u8d (rdL u0d l i).1=b1
   generalize decide ((rdL u0d l i).2.1.size≤12)=b2
   generalize decide ((rdL u0d l i).2.1.size=0)=b3
   generalize (rdL u0d l i).2.2.1=b4
   generalize inB (rdL u0d l i).2.2.2 1 9999=b5
   by_cases h0:i=0
   ·subst h0;simp only[Ae,Ap,Aa,Dx,Cz]
    cases b1<;>cases b2<;>cases b3<;>cases b4<;>cases b5<;>rfl
   ·simp only[h0,Ah,Bh,Ad,Ci,t7u (show i<4611686018427387904 by omega) h0,y7t (show i - 1<l.length by omega),zTn,zOb]
    rcases q33 (rdL u0d l (i - 1)).1 (rdL u0d l i).1 with h | h | h
    ·have e2:z7o (rdL u0d l (i - 1)).1 (rdL u0d l i).1=false:=o5i.mpr (fun e=>by rw[e,t5e] at h;cases h)
     rw[h,e2]
     cases b1<;>cases b2<;>cases b3<;>cases b4<;>cases b5<;>rfl
    ·rw[h,t5e,y6l]
     rw[q9d]
     cases decide ((rdL u0d l (i - 1)).2.2.2<(rdL u0d l i).2.2.2)<;>cases b1<;>cases b2<;>cases b3<;>cases b4<;>cases b5<;>rfl
    ·have e1:=r3f h
     have e2:z7o (rdL u0d l (i - 1)).1 (rdL u0d l i).1=false:=o5i.mpr (fun e=>by rw[e,t5e] at h;cases h)
     rw[e1,e2]
     cases b1<;>cases b2<;>cases b3<;>cases b4<;>cases b5<;>rfl)
 rw[s88 (t:=u0d) l q37 s8s] at L
 rw[q7p];unfold r0j
 simp only[L,zOb]
 unfold u8x
 cases l.all q37
 ·rfl
 ·cases p44 u0d s8s l
  ·rfl
  ·simp only[Bz,Ad]
   rw[j5q]
theorem j0r (n:Nat) (hn:n≤1099511627776):t3j ((),(n:Int))=some [] :=by
 rw[r6q];unfold s1q
 have e0:IntKind.i64.wrap ((0:Int) - (0:Int))=0:=by rw[y4y (by omega) (by omega)];rfl
 have e1:IntKind.i64.wrap ((n:Int) - 0)=(n:Int):=by rw[y4y (by omega) (by omega)];omega
 have e2:decide ((n:Int)<0)=false:=A7 (by omega)
 simp only[e0,e1,e2,Aa]
 by_cases h:n=0
 ·subst h;simp
 ·have e3:decide ((n:Int) >0)=true:=by simp;omega
  have e4:(decide ((1:Int)≤(n:Int))&&decide ((n:Int)≤1099511627776))=true:=by simp;omega
  simp only[e3,e4,Ad]
  simp
theorem q60 (ls:Hu (Hu u0g)) (h:ls.flatten.length≤1099511627776) (hn:ls.length≤1099511627776):u2x ls=some ls.flatten:=by
 have fl:∀(i:Nat),i≤ls.length→(ls.take i).flatten.length≤ls.flatten.length:=fun i _=>by
  have:=En i ls
  have h2:ls.flatten=(ls.take i).flatten++(ls.drop i).flatten:=by rw[←Ga,this]
  rw[h2,Ba];omega
 have st:∀(i:Nat) (hi:i<ls.length),(ls.take (i+1)).flatten=(ls.take i).flatten++ls[i] :=fun i hi=>by
  rw[Gm,A4 hi,Ga];simp
 have L1:=r6o u3a ls.length (fun(n:Nat) i=>(ls,(n:Int),ls,(ls.length:Int),i)) (fun _ _=> .inl (ls,(ls.flatten.length:Int))) (fun i n=>n=(ls.take i).flatten.length)
  (fun n hP=>by
   rw[Cq] at hP;subst hP
   rw[t63];simp only[u5t,u0b,Am,Ah,Aa])
  (fun i n hi hP=> .inr ⟨(ls.take (i+1)).flatten.length,rfl,rfl,by
   have h1:=fl (i+1) (by omega)
   have h2:(ls.take (i+1)).flatten.length=n+ls[i].length:=by rw[st i hi,Ba,hP]
   have e1:IntKind.i64.wrap ((n:Int)+((ls[i].length:Nat):Int))=((n+ls[i].length:Nat):Int):=by rw[y4y (by omega) (by omega)];omega
   have e2:decide (((n+ls[i].length:Nat):Int)<0)=false:=by simp;omega
   rw[t63];simp only[u5t,u0b,hi,Ae,Ad,y7t hi,zTn,y8k (t:=Ty.sl u0x) hi,y7l (show i<4611686018427387904 by omega),h2]
   rw[e1,e2];rfl⟩) 0 0 (by omega) rfl
 have L2:=r6o u2z ls.length (fun(a:Hu u0g) i=>(a,ls,(ls.length:Int),i)) (fun _ _=> .inl ls.flatten) (fun i a=>a=(ls.take i).flatten)
  (fun a hP=>by
   rw[Cq] at hP;subst hP
   rw[t5f];simp only[u4s,u0b,Am,Ah,Aa])
  (fun i a hi hP=> .inr ⟨(ls.take (i+1)).flatten,rfl,rfl,by
   have h1:=fl (i+1) (by omega)
   have h2:(ls.take (i+1)).flatten.length=a.length+ls[i].length:=by rw[st i hi,Ba,hP]
   rw[t5f];simp only[u4s,u0b,hi,Ae,Ad,y7t hi,zTn,y8k (t:=Ty.sl u0x) hi,y7l (show i<4611686018427387904 by omega)]
   rw[u0z (show a.length+ls[i].length≤1099511627776 by omega),st i hi,hP];rfl⟩) 0 [] (by omega) rfl
 rw[r0p];unfold t9t
 have L1' :u3a (ls,(0:Int),ls,(ls.length:Int),0)=some (.inl (ls,(ls.flatten.length:Int))):=L1
 have L2' :u2z ([],ls,(ls.length:Int),0)=some (.inl ls.flatten):=L2
 simp only[L1',zOb,j0r _ h,L2']
end
end
end Go.Proofs.YtkdpclfhapphhaaGreat.Ab
