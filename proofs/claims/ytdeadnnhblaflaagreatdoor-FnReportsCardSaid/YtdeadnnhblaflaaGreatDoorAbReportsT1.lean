import Derived.Test.YtdeadnnhblaflaaGreatDoorAbReportsG2
import Derived.Test.YtdeadnnhblaflaaGreatDoorAbK2
import Derived.Test.YtdeadnnhblaflaaGreatDoorAbF4
import Derived.Test.YtdeadnnhblaflaaGreatDoorAbS2
import Derived.Test.YtdeadnnhblaflaaGreatDoorAbS4
namespace Go.Proofs.YtdeadnnhblaflaaGreatDoor.Ab
open Go
set_option linter.unusedVariables false
set_option linter.unusedSimpArgs false
set_option linter.unnecessarySimpa false
set_option linter.unusedSectionVars false
section
section
theorem p4g (n:Int):IntKind.u8.wrap n=n % 256:=by
 simp[IntKind.wrap,IntKind.bits,IntKind.signed]
theorem u0b (a b:Nat):decide ((a:Int)<(b:Int))=decide (a<b):=by simp
theorem r65 {X R A:Type} (W:X→Ht R) (n:Nat) (mk:A→Int→X) (res:Nat→A→R) (P:Nat→A→Prop)
 (hend:∀a,P n a→W (mk a (n:Int))=some (res n a))
 (hstep:∀(i:Nat) a,i<n→P i a→W (mk a (i:Int))=some (res i a)∨ ∃a',P (i+1) a' ∧res (i+1) a' =res i a∧W (mk a (i:Int))=W (mk a' ((i+1:Nat):Int))):
 ∀(i:Nat) a,i≤n→P i a→W (mk a (i:Int))=some (res i a):=by
 intro i a hi hP
 obtain⟨d,hd⟩:∃d,i+d=n:=⟨n - i,by omega⟩
 clear hi
 induction d generalizing i a with
 | zero=>
  have:i=n:=by omega
  subst this
  exact hend a hP
 | succ d ih=>
  rcases hstep i a (by omega) hP with h | ⟨a',h1,h2,h3⟩
  ·exact h
  ·rw[h3,ih (i+1) a' h1 (by omega),h2]
def p5f {E A R:Type} (f:Nat→E→A→A⊕R) (fin:A→R):Nat→Hu E→A→R
 | _, [],a=>fin a
 | i,x::l,a=>match f i x a with
  | .inl a' =>p5f f fin (i+1) l a'
  | .inr r=>r
theorem p61 {X R A E:Type} (W:X→Ht R) (l:Hu E) (mk:A→Int→X) (f:Nat→E→A→A⊕R) (fin:A→R) (P:Nat→A→Prop)
 (hend:∀a,P l.length a→W (mk a (l.length:Int))=some (fin a))
 (hstep:∀(i:Nat) (h:i<l.length) a,P i a→match f i l[i] a with
  | .inl a' =>P (i+1) a' ∧W (mk a (i:Int))=W (mk a' ((i+1:Nat):Int))
  | .inr r=>W (mk a (i:Int))=some r) (a:A) (hP:P 0 a):W (mk a 0)=some (p5f f fin 0 l a):=by
 have key:=r65 W l.length mk (fun i a=>p5f f fin i (l.drop i) a) P (fun a h=>by
  rw[hend a h,Dp (Au _)];rfl) (fun i a hi hP=>by
   have hs:=hstep i hi a hP
   have hd:l.drop i=l[i] ::l.drop (i+1):=Ce hi
   rw[hd]
   simp only[p5f]
   cases hf:f i l[i] a with
   | inl a' =>
    rw[hf] at hs
    exact .inr ⟨a',hs.1,rfl,hs.2⟩
   | inr r=>
    rw[hf] at hs
    exact .inl hs) 0 a (Cn _) hP
 exact key
def szr (b:Int) (w:Nat):Int:=if(w:Int)≤b then b - w else -1
def Ty.wt:(t:Ty)→t.den→Nat
 | .int _,_=>0
 | .bool,_=>0
 | .str,s=>s.size
 | .sl e,l=>l.length+(l.map e.wt).sum
 | .pair a b,x=>a.wt x.1+b.wt x.2
theorem s9w {X R E:Type} (W:X→Ht R) (l:Hu E) (mk:Int→X) (p:E→Bool) (yes no:R) (hend:W (mk (l.length:Int))=some no)
 (hstep:∀(i:Nat) (h:i<l.length),W (mk (i:Int))=bif p l[i] then some yes else W (mk ((i+1:Nat):Int))):W (mk 0)=some (bif l.any p then yes else no):=by
 have:=p61 W l (fun(_:Unit) i=>mk i) (fun _ x _=>if p x then .inr yes else .inl ()) (fun _=>no) (fun _ _=>True) (fun _ _=>hend) (fun i h a _=>by
  have hs:=hstep i h
  cases hp:p l[i] with
  | true=>simp only[hp,Ad] at hs;simp only[Bl];exact hs
  | false=>simp only[hp,Aa] at hs;simp only[Br,Bk];exact⟨trivial,hs⟩) () trivial
 rw[this]
 congr 1
 have key:∀(l:Hu E) (i:Nat),p5f (fun _ x (_:Unit)=>if p x then .inr yes else .inl ()) (fun _=>no) i l ()=bif l.any p then yes else no:=by
  intro l
  induction l with
  | nil=>intro i;rfl
  | cons x l ih=>
   intro i
   simp only[p5f,Gd]
   cases hp:p x with
   | true=>simp
   | false=>simp only[Br,Bk,Ci];exact ih _
 exact key l 0
theorem t40 {X R E A:Type} (W:X→Ht R) (l:Hu E) (mk:A→Int→X) (f:A→E→A) (fin:A→R) (P:Nat→A→Prop)
 (hend:∀a,P l.length a→W (mk a (l.length:Int))=some (fin a))
 (hstep:∀(i:Nat) (h:i<l.length) a,P i a→P (i+1) (f a l[i])∧W (mk a (i:Int))=W (mk (f a l[i]) ((i+1:Nat):Int))) (a:A) (hP:P 0 a):W (mk a 0)=some (fin (l.foldl f a)):=by
 have:=p61 W l mk (fun _ x a=> .inl (f a x)) fin P hend (fun i h a hp=>hstep i h a hp) a hP
 rw[this]
 congr 1
 have key:∀(l:Hu E) (i:Nat) (a:A),p5f (fun _ x a=>(.inl (f a x):A⊕R)) fin i l a=fin (l.foldl f a):=by
  intro l
  induction l with
  | nil=>intro i a;rfl
  | cons x l ih=>intro i a;simp only[p5f,Bs];exact ih _ _
 exact key l 0 a
theorem t7f {X R E B:Type} (W:X→Ht R) (l:Hu E) (mk:Hu B→Int→X) (p:E→Bool) (g:E→B) (fin:Hu B→R) (hl:l.length≤1099511627776)
 (hend:∀a:Hu B,a.length≤l.length→W (mk a (l.length:Int))=some (fin a))
 (hstep:∀(i:Nat) (h:i<l.length) (a:Hu B),a.length≤i→W (mk a (i:Int))=bif p l[i] then W (mk (a++ [g l[i]]) ((i+1:Nat):Int)) else W (mk a ((i+1:Nat):Int))):W (mk [] 0)=some (fin ((l.filter p).map g)):=by
 have:=t40 W l mk (fun a x=>if p x then a++ [g x] else a) fin (fun i a=>a.length≤i) hend (fun i h a hp=>by
  have hs:=hstep i h a hp
  cases hc:p l[i] with
  | true=>
   simp only[hc,Ad] at hs
   simp only[Bl]
   exact⟨by simp;omega,hs⟩
  | false=>
   simp only[hc,Aa] at hs
   simp only[Br,Bk]
   exact⟨by omega,hs⟩) [] (Au 0)
 rw[this]
 congr 1
 have key:∀(l:Hu E) (a:Hu B),l.foldl (fun a x=>if p x then a++ [g x] else a) a=a++(l.filter p).map g:=by
  intro l
  induction l with
  | nil=>intro a;simp
  | cons x l ih=>
   intro a
   simp only[Bs,ih,Di]
   cases hp:p x<;>simp
 rw[key];simp
end
section
theorem q2g (b:Hs):b.toList=toS b:=by rw[ByteArray.toList_eq];rfl
theorem p8y {a b:Hs} (h:toS a=toS b):a=b:=by rw[←y8q a,h,y8q]
theorem r4u:∀(x y:Hu UInt8),Op.bytesLess x y=decide (x<y)
 | x, [] =>by simp[Op.bytesLess]
 | [],y::ys=>by simp[Op.bytesLess]
 | x::xs,y::ys=>by
  rw[Op.bytesLess,r4u xs ys,Cd]
  simp[List.cons_lt_cons_iff]
theorem p36 {a b:Hs} :y2y a b=true↔toS a<toS b:=by
 unfold y2y
 rw[q2g,q2g,r4u]
 simp
theorem o2b {a b:Hs} :y2y a b=false↔ ¬toS a<toS b:=by
 rw[←p36];simp
theorem o0j (x:Hu UInt8): ¬x<x:=List.lt_irrefl x
theorem o0k {x y z:Hu UInt8} (h:x<y) (k:y<z):x<z:=List.lt_trans h k
theorem o0l (x y:Hu UInt8):x<y∨x=y∨y<x:=by
 rcases List.le_total x y with h | h
 ·rcases Fv.mp h with h | h
  ·exact .inl h
  ·exact .inr (.inl h)
 ·rcases Fv.mp h with h | h
  ·exact .inr (.inr h)
  ·exact .inr (.inl h.symm)
theorem u58 (a:Hs):y2y a a=false:=o2b.mpr (o0j _)
theorem s9i {a b c:Hs} (h:y2y a b=true) (k:y2y b c=true):y2y a c=true:=p36.mpr (o0k (p36.mp h) (p36.mp k))
theorem r0a (a b:Hs):y2y a b=true∨a=b∨y2y b a=true:=by
 rcases o0l (toS a) (toS b) with h | h | h
 ·exact .inl (p36.mpr h)
 ·exact .inr (.inl (p8y h))
 ·exact .inr (.inr (p36.mpr h))
theorem s1u {a b:Hs} (h:y2y a b=true):y2y b a=false:=by
 cases k:y2y b a with
 | false=>rfl
 | true=>exact absurd (s9i h k) (by rw[u58];exact Hf)
theorem q8p {a b:Hs} :z7l a b=false↔a≠b:=by
 rw[←Ey,y7d]
theorem q2d (a b:Hs):z7l a b=z7l b a:=by
 rw[Cd,y7d,y7d]
 exact⟨Eq.symm,Eq.symm⟩
theorem r4z {a b:Hs} :(!(y2y a b || z7l a b))=y2y b a:=by
 rcases r0a a b with h | h | h
 ·rw[h,s1u h];rfl
 ·subst h;rw[u58,y6j];rfl
 ·rw[s1u h,h]
  have:z7l a b=false:=q8p.mpr (fun e=>by subst e;rw[u58] at h;cases h)
  rw[this];rfl
def Asc (l:Hu Hs):Prop:=l.Pairwise fun a b=>y2y a b=true
theorem Asc.ext:∀ {l m:Hu Hs},Asc l→Asc m→(∀x,x∈l↔x∈m)→l=m
 | [], [],_,_,_=>rfl
 | [],y::m,_,_,h=>by have:=(h y).mpr (by simp);simp at this
 | x::l, [],_,_,h=>by have:=(h x).mp (by simp);simp at this
 | x::l,y::m,hl,hm,h=>by
  have hl' :=Ch.mp hl
  have hm' :=Ch.mp hm
  have hxy:x=y:=by
   rcases A8.mp ((h x).mp (by simp)) with e | e
   ·exact e
   ·rcases A8.mp ((h y).mpr (by simp)) with e' | e'
    ·exact e'.symm
    ·have:=s9i (hm'.1 x e) (hl'.1 y e')
     rw[u58] at this;cases this
  subst hxy
  congr 1
  refine Asc.ext hl'.2 hm'.2 fun z=> ?_
  constructor
  ·intro hz
   rcases A8.mp ((h z).mp (by simp[hz])) with e | e
   ·subst e;have:=hl'.1 z hz;rw[u58] at this;cases this
   ·exact e
  ·intro hz
   rcases A8.mp ((h z).mpr (by simp[hz])) with e | e
   ·subst e;have:=hm'.1 z hz;rw[u58] at this;cases this
   ·exact e
theorem Asc.filter {l:Hu Hs} (h:Asc l) (p:Hs→Bool):Asc (l.filter p):=Dz p h
def p14 (k:Hs) (l:Hu Hs):Hu Hs:=l.filter (fun x=>y2y x k)++ [k] ++l.filter (fun x=> !(y2y x k || z7l x k))
theorem p5l {k x:Hs} {l:Hu Hs} :x∈p14 k l↔x=k∨x∈l:=by
 simp only[p14,Ay,A6,Ax,r4z]
 constructor
 ·rintro((h | h) | h)
  ·exact .inr h.1
  ·exact .inl h
  ·exact .inr h.1
 ·rintro(h | h)
  ·exact .inl (.inr h)
  ·rcases r0a x k with e | e | e
   ·exact .inl (.inl ⟨h,e⟩)
   ·exact .inl (.inr e)
   ·exact .inr ⟨h,e⟩
theorem p5b {k:Hs} {l:Hu Hs} (h:Asc l):Asc (p14 k l):=by
 unfold Asc p14
 rw[Cg,Cg]
 refine⟨⟨h.filter _,by simp,fun a ha b hb=> ?_⟩,h.filter _,fun a ha b hb=> ?_⟩
 ·simp only[Ax] at hb
  subst hb
  exact(A6.mp ha).2
 ·have hb:=(A6.mp hb).2
  rw[r4z] at hb
  rcases Ay.mp ha with ha | ha
  ·exact s9i (A6.mp ha).2 hb
  ·simp only[Ax] at ha
   subst ha
   exact hb
theorem p28 {l:Hu Hs} :∀ {a:Hu Hs},Asc a→Asc (l.foldl (fun a k=>p14 k a) a)∧ ∀x,x∈l.foldl (fun a k=>p14 k a) a↔x∈l∨x∈a:=by
 induction l with
 | nil=>intro a h;exact⟨h,fun x=>by simp⟩
 | cons k l ih=>
  intro a h
  obtain⟨h1,h2⟩:=ih (p5b (k:=k) h)
  refine⟨h1,fun x=> ?_⟩
  rw[Bs,h2,p5l,A8]
  constructor
  ·rintro(q | q | q)
   ·exact .inl (.inr q)
   ·exact .inl (.inl q)
   ·exact .inr q
  ·rintro((q | q) | q)
   ·exact .inr (.inl q)
   ·exact .inl q
   ·exact .inr (.inr q)
theorem r4w (d:Array (Hu UInt8)) (hs:∀i j:Nat,i≤j→j<d.size→d[i]! ≤d[j]!):∀m,m≤d.size→(Lib.compactUpTo d m).Pairwise (·< ·)∧(∀x,x∈Lib.compactUpTo d m↔ ∃i,i<m∧d[i]! =x)
 | 0,_=>by simp[Lib.compactUpTo]
 | m+1,hm=>by
  obtain⟨h1,h2⟩:=r4w d hs m (by omega)
  rw[Lib.compactUpTo_succ]
  by_cases hk:Lib.keeps d m=true
  ·rw[Al hk]
   constructor
   ·rw[Cg]
    refine⟨h1,by simp,fun a ha b hb=> ?_⟩
    simp only[Ax] at hb
    subst hb
    obtain⟨i,hi,rfl⟩:=(h2 a).mp ha
    unfold Lib.keeps at hk
    have hk:=Ej hk
    rcases hk with hk | hk
    ·omega
    ·have l1:=hs i (m - 1) (by omega) (by omega)
     have l2:=hs (m - 1) m (by omega) (by omega)
     rcases Fv.mp l2 with l2 | l2
     ·rcases Fv.mp l1 with l1 | l1
      ·exact o0k l1 l2
      ·rw[l1];exact l2
     ·exact absurd l2.symm hk
   ·intro x
    simp only[Ay,Ax,h2]
    constructor
    ·rintro(⟨i,hi,rfl⟩ | rfl)
     ·exact⟨i,by omega,rfl⟩
     ·exact⟨m,by omega,rfl⟩
    ·rintro⟨i,hi,rfl⟩
     rcases B8 i m with q | q
     ·exact .inl ⟨i,q,rfl⟩
     ·exact .inr (by rw[show i=m by omega])
  ·rw[Ao hk,Bw]
   refine⟨h1,fun x=> ?_⟩
   rw[h2]
   unfold Lib.keeps at hk
   simp only[Ar,Hr,ne_eq,Decidable.not_not] at hk
   constructor
   ·rintro⟨i,hi,rfl⟩;exact⟨i,by omega,rfl⟩
   ·rintro⟨i,hi,rfl⟩
    rcases B8 i m with q | q
    ·exact⟨i,q,rfl⟩
    ·have:i=m:=by omega
     subst this
     exact⟨i - 1,by omega,hk.2.symm⟩
def r2h (l:Hu Hs):Hu Hs:=y6o (y4d l)
theorem t1f (l:Hu Hs):Asc (r2h l)∧ ∀x,x∈r2h l↔x∈l:=by
 obtain⟨d,hd⟩:∃d,d=(l.map toS).mergeSort fun x y=>decide (x≤y):=⟨_,rfl⟩
 have hk:r2h l=(Lib.compact d).map unS:=by
  unfold r2h y6o y4d
  rw[←hd,List.map_map]
  have:(toS ∘unS)=id:=by funext x;rfl
  rw[this,List.map_id]
 have hsort:d.Pairwise (·≤ ·):=by
  rw[hd]
  have:=List.pairwise_mergeSort (le:=fun(x y:Hu UInt8)=>decide (x≤y)) (fun a b c h1 h2=>by
   simp only[Ar] at h1 h2 ⊢
   exact List.le_trans h1 h2) (fun a b=>by
   simp only[Cr,Ar]
   exact List.le_total a b) (l.map toS)
  exact this.imp (fun h=>by simpa using h)
 have hmem:∀x,x∈d↔x∈l.map toS:=fun x=>by rw[hd];exact(List.mergeSort_perm _ _).mem_iff
 have hs:∀i j:Nat,i≤j→j<d.toArray.size→d.toArray[i]! ≤d.toArray[j]! :=fun i j hij hj=>by
  have hj' :j<d.length:=by simpa using hj
  have hi' :i<d.length:=by omega
  rw[Fl _ i (by simpa using hi'),Fl _ j hj]
  simp only[List.getElem_toArray]
  rcases B8 i j with q | q
  ·exact Cp.mp hsort i j hi' hj' q
  ·have:i=j:=by omega
   subst this
   exact List.le_refl _
 obtain⟨h1,h2⟩:=r4w d.toArray hs d.length (by simp)
 rw[hk]
 constructor
 ·unfold Asc
  rw[Dl]
  exact h1.imp (fun h=>p36.mpr h)
 ·intro x
  rw[Bx]
  constructor
  ·rintro⟨y,hy,rfl⟩
   obtain⟨i,hi,rfl⟩:=(h2 y).mp hy
   rw[Fl _ i (by simpa using hi)]
   have:d[i] ∈l.map toS:=(hmem _).mp (Ag hi)
   obtain⟨z,hz,e⟩:=Bx.mp this
   simp only[List.getElem_toArray]
   rw[←e,y8q]
   exact hz
  ·intro hx
   have:toS x∈d:=(hmem _).mpr (Bx.mpr ⟨x,hx,rfl⟩)
   obtain⟨i,hi,e⟩:=Gy.mp this
   refine⟨toS x,(h2 _).mpr ⟨i,hi,?_⟩,y8q x⟩
   rw[Fl _ i (by simpa using hi)]
   simpa using e
theorem q7b (l:Hu Hs):(y4d l).length=l.length:=by simp[y4d]
theorem p8a (l:Hu Hs) (p:Hs→Bool):(l.filter p).foldl (fun a k=>p14 k a) [] =(r2h l).filter p:=by
 obtain⟨h1,h2⟩:=p28 (l:=l.filter p) (a:= []) List.Pairwise.nil
 obtain⟨k1,k2⟩:=t1f l
 refine Asc.ext h1 (k1.filter p) fun x=> ?_
 rw[h2,A6,A6,k2]
 simp
end
section
def u0y:Nat:=1099511627776
theorem q2l {α:Type} {f:α→Nat} {l:Hu α} {x:α} (h:x∈l):f x≤(l.map f).sum:=by
 induction l with
 | nil=>cases h
 | cons y l ih=>
  simp only[C8,Ge]
  rcases A8.mp h with rfl | h
  ·omega
  ·have:=ih h;omega
abbrev t44:Ty:=(.pair .str .str)
abbrev u2u:Ty:=(.pair .str (.pair .str .bool))
abbrev u0g:Ty:=(.pair .str (.pair .str (.pair .bool (.int .i64))))
abbrev o20:Ty:=(.pair .str .str)
abbrev o51:Ty:=(.pair .str .str)
abbrev q9c:Ty:=(.pair (.int .i64) .str)
abbrev o2z:Ty:=(.pair (.sl .str) (.sl q9c))
abbrev u1f:Ty:=(.pair (.int .i64) (.pair (.int .i64) (.pair (.int .i64) (.pair (.int .i64) (.pair (.sl t44) (.pair (.sl u2u) (.pair .bool .str)))))))
abbrev p92:Ty:=(.pair (.sl u0g) (.pair (.sl u1f) (.pair (.sl u1f) (.pair (.int .i64) (.int .i64)))))
abbrev o21:Ty:=(.pair (.int .i64) (.pair u1f (.pair .str (.pair .bool p92))))
abbrev p72:Ty:=(.pair p92 (.sl u1f))
abbrev p93:Ty:=(.pair p72 o2z)
abbrev p62:Ty:=(.pair (.int .i64) (.pair (.int .i64) (.pair .str (.pair .str (.sl (.int .i64))))))
abbrev o3u:Ty:=(.pair p93 (.pair (.sl u1f) (.pair (.sl (.int .i64)) (.sl .str))))
end
section
abbrev u0f:=Int×Int×Int×Int×Hu (Hs×Hs)×Hu (Hs×Hs×Bool)×Bool×Hs
theorem u07 {n:Nat} (h:n≤1099511627776):Nat.ble n z8x=true:=Nat.ble_eq_true_of_le h
def inR (r:Hs×Hs) (k:Hs):Bool:= !y2y k r.1&&(y2y k r.2 || z7l k r.2)
theorem r4d (r:Hs×Hs) (k:Hs):t3k (r,k)=some (inR r k):=by
 rw[r91];unfold s72 inR;cases y2y k r.1<;>rfl
theorem q49 (r:Hs×Hs) (k:Hs):t82 (r,k)=some (inR r k):=by
 rw[r9t];unfold s7u inR;cases y2y k r.1<;>rfl
def r37 (r:Hu t44.den) (w:Hu u2u.den):Bool:=r.any fun x=>w.any fun y=>inR x y.1
def r2l (a b:Hu u2u.den):Bool:=a.any fun x=>b.any fun y=>z7l x.1 y.1
def r86 (m:Hu o51.den) (r:t44.den):Hu o20.den:=m.filter fun c=>inR r c.1
end
section
theorem r64 {X R A:Type} (W:X→Ht R) (n:Nat) (mk:A→Int→X) (v:Nat→A) (r:R) (hend:W (mk (v n) (n:Int))=some r)
 (hstep:∀i,i<n→W (mk (v i) (i:Int))=W (mk (v (i+1)) ((i+1:Nat):Int))):W (mk (v 0) 0)=some r:=by
 have:=r65 W n (fun(_:Unit) i=>mk (v i.toNat) i) (fun _ _=>r) (fun _ _=>True) (fun _ _=>by simpa using hend) (fun i a hi _=> .inr ⟨(),trivial,rfl,by
  have h:=hstep i hi
  have e:((i:Int)+1).toNat=i+1:=by omega
  simp only[zTn]
  exact h⟩) 0 () (Cn _) trivial
 simpa using this
theorem q9o {α:Type} (p:α→Bool):∀(l a:Hu α),l.foldl (fun a x=>if p x=true then a++ [x] else a) a=a++l.filter p
 | [],a=>by simp
 | x::l,a=>by
  rw[Bs,q9o p l]
  cases hc:p x<;>simp[hc]
abbrev u1m:=Hs×Hs×Bool×Int
def emp:Hs:=⟨#[]⟩
def q5k (l:Hu u1m) (k:Hs) (snap out:Int) (i:Nat):Int:=
 if z7l (rdL u0g l i).1 k=true∧(rdL u0g l i).2.2.2≤snap∧(out<0∨(rdL u0g l i).2.2.2 >(rdL u0g l out.toNat).2.2.2) then(i:Int) else out
def r1m (l:Hu u1m) (k:Hs) (snap:Int):Nat→Int
 | 0=> -1
 | n+1=>q5k l k snap (r1m l k snap n) n
def u5j (l:Hu u1m) (k:Hs) (snap:Int):Int:=r1m l k snap l.length
theorem r1n (l:Hu u1m) (k:Hs) (snap:Int):∀n,-1≤r1m l k snap n∧r1m l k snap n<(n:Int)
 | 0=>by simp[r1m]
 | n+1=>by
  have:=r1n l k snap n
  simp only[r1m,q5k]
  split<;>omega
theorem s0f (l:Hu u1m) (k:Hs) (snap:Int): -1≤u5j l k snap∧u5j l k snap<(l.length:Int):=r1n l k snap l.length
theorem r8h (l:Hu u1m) (k:Hs) (snap:Int) (hl:l.length≤1099511627776):t79 (l,k,snap)=some (u5j l k snap):=by
 have L:=r64 u9n l.length (fun a i=>(l,k,snap,a,i)) (fun i=>r1m l k snap i) (.inl (u5j l k snap))
  (by rw[s9p];simp only[t3b,u0b,Am,Ah,Aa];rfl)
  (fun i hi=>by
   have hr:=r1n l k snap i
   rw[s9p]
   simp only[t3b,u0b,hi,Ae,Ad,y7s hi,zTn,r1m,q5k]
   rw[y7j (by omega)]
   cases h1:z7l (rdL u0g l i).1 k with
   | false=>simp[h1]
   | true=>
    by_cases h2:(rdL u0g l i).2.2.2≤snap
    ·by_cases h3:r1m l k snap i<0
     ·simp[h1,h2,h3]
     ·have hg:y4l (r1m l k snap i) l.length=true:=y7r.mpr ⟨by omega,by omega⟩
      by_cases h4:(rdL u0g l i).2.2.2 >(rdL u0g l (r1m l k snap i).toNat).2.2.2
      ·simp[h1,h2,h3,h4,hg]
      ·simp[h1,h2,h3,h4,hg]
    ·simp[h1,h2])
 have L:u9n (l,k,snap,-1,0)=_:=L
 rw[q53];unfold r4r
 simp only[L,zOb]
theorem q78 (l:Hu u1m) (k:Hs) (snap:Int) (hl:l.length≤1099511627776):s1i (l,k,snap)=some (u5j l k snap):=by
 have L:=r64 u72 l.length (fun a i=>(l,k,snap,a,l,(l.length:Int),i)) (fun i=>r1m l k snap i) (.inl (u5j l k snap))
  (by rw[s6o];simp only[t1p,u0b,Am,Ah,Aa];rfl)
  (fun i hi=>by
   have hr:=r1n l k snap i
   rw[s6o]
   simp only[t1p,u0b,hi,Ae,Ad,y7s hi,zTn,r1m,q5k]
   rw[y7j (by omega)]
   cases h1:z7l (rdL u0g l i).1 k with
   | false=>simp[h1]
   | true=>
    by_cases h2:(rdL u0g l i).2.2.2≤snap
    ·by_cases h3:r1m l k snap i<0
     ·simp[h1,h2,h3]
     ·have hg:y4l (r1m l k snap i) l.length=true:=y7r.mpr ⟨by omega,by omega⟩
      by_cases h4:(rdL u0g l i).2.2.2 >(rdL u0g l (r1m l k snap i).toNat).2.2.2
      ·simp[h1,h2,h3,h4,hg]
      ·simp[h1,h2,h3,h4,hg]
    ·simp[h1,h2])
 have L:u72 (l,k,snap,-1,l,(l.length:Int),0)=_:=L
 rw[q27];unfold r0m
 simp only[L,zOb]
def t2l (l:Hu u1m) (k:Hs) (snap:Int):Hs×Bool:=
 if u5j l k snap<0∨(rdL u0g l (u5j l k snap).toNat).2.2.1=true then(emp,false) else((rdL u0g l (u5j l k snap).toNat).2.1,true)
theorem q65 (l:Hu u1m) (k:Hs) (snap:Int) (y:Int) (hy:y=u5j l k snap):
 (((bif decide (y<0) then some true else(bif y4l y l.length then some (rdL u0g l y.toNat).2.2.1 else none)):Ht Bool).bind fun j2=>(bif j2 then some ((⟨#[]⟩:Hs),false) else(bif y4l y l.length then some ((rdL u0g l y.toNat).2.1,true) else none)))=some (t2l l k snap):=by
 subst hy
 have hr:=s0f l k snap
 unfold t2l
 by_cases h:u5j l k snap<0
 ·simp[h,emp]
 ·have hg:y4l (u5j l k snap) l.length=true:=y7r.mpr ⟨by omega,by omega⟩
  cases h2:(rdL u0g l (u5j l k snap).toNat).2.2.1<;>simp[h,hg,h2,emp]
theorem r61 (l:Hu u1m) (k:Hs) (snap:Int) (hl:l.length≤1099511627776):t5u (l,k,snap)=some (t2l l k snap):=by
 rw[q3m];unfold r01
 simp only[r8h l k snap hl,zOb]
 exact q65 l k snap _ rfl
theorem q7x (l:Hu u1m) (k:Hs) (snap:Int) (hl:l.length≤1099511627776):s1g (l,k,snap)=some (t2l l k snap):=by
 rw[q25];unfold r0k
 simp only[q78 l k snap hl,zOb]
 exact q65 l k snap _ rfl
theorem p2g (l:Hu u1m) (hl:l.length≤1099511627775):s1h l=some (r2h (l.map fun v=>v.1)):=by
 have L:=t7f t1z l (fun a i=>(a,l,(l.length:Int),i)) (fun _=>true) (fun v=>v.1) (fun a=> .inl a) (by omega)
  (fun a _=>by rw[s6n];simp only[t1o,u0b,Am,Ah,Aa])
  (fun i hi a ha=>by
   rw[s6n];simp only[t1o,u0b,hi,Ae,Ad,y7s hi,zTn,y8l (t:=u0g) hi,Aw,u07 (show a.length+1≤1099511627776 by omega)]
   rw[y7j (by omega)])
 have hf:l.filter (fun _=>true)=l:=by simp
 rw[hf] at L
 have h1:y6y (l.map fun v=>v.1)=some (y4d (l.map fun v=>v.1)):=by
  unfold y6y;rw[Da,u07 (by omega)];rfl
 have h2:y0i (y4d (l.map fun v=>v.1))=some (r2h (l.map fun v=>v.1)):=by
  unfold y0i;rw[q7b,Da,u07 (by omega)];rfl
 rw[q26];unfold r0l
 simp only[L,zOb,t6f,t34]
 simp only[h1,h2,zOb]
theorem t9y (l:Hu Hs):(r2h l).length≤l.length:=by
 have:=z6f (y4d l)
 rw[q7b] at this
 exact this
theorem q77 (k:Hs) (r:Hs×Hs) (l:Hu u1m) (j:Int) (out:Hu Hs) (ho:out.length≤1099511627775):
 u6q (l,r,out,j,k, [],0)=some (.inl (l,r,out,j,k,out.filter fun x=>y2y x k)):=by
 have L:=t7f u6q out (fun a i=>(l,r,out,j,k,a,i)) (fun x=>y2y x k) (fun x=>x) (fun a=> .inl (l,r,out,j,k,a)) (by omega)
  (fun a _=>by rw[s4d];simp only[t0i,u0b,Am,Ah,Aa])
  (fun i hi a ha=>by
   rw[s4d];simp only[t0i,u0b,hi,Ae,Ad,y7s hi,zTn,y8l (t:=Ty.str) hi,Aw,u07 (show a.length+1≤1099511627776 by omega)]
   rw[y7j (by omega)])
 rw[Er] at L
 exact L
theorem q6g (k:Hs) (r:Hs×Hs) (l:Hu u1m) (j:Int) (out a0:Hu Hs) (ho:out.length+a0.length≤1099511627775):
 u5e (l,r,out,j,k,a0,0)=some (.inl (l,r,j,a0++out.filter fun x=> !(y2y x k || z7l x k))):=by
 have L:=t40 u5e out (fun a i=>(l,r,out,j,k,a,i)) (fun a x=>if(!(y2y x k || z7l x k))=true then a++ [x] else a) (fun a=> .inl (l,r,j,a)) (fun i a=>a.length≤a0.length+i)
  (fun a _=>by rw[s01];simp only[u83,u0b,Am,Ah,Aa])
  (fun i hi a ha=>by
   rw[s01];simp only[u83,u0b,hi,Ae,Ad,y7s hi,zTn,y8l (t:=Ty.str) hi,Aw,u07 (show a.length+1≤1099511627776 by omega)]
   rw[y7j (by omega)]
   cases hc:(!(y2y out[i] k || z7l out[i] k)) with
   | true=>simp;omega
   | false=>simp;omega) a0 (by simp)
 rw[q9o (fun x=> !(y2y x k || z7l x k))] at L
 exact L
theorem p5c (k:Hs) (l:Hu Hs):(p14 k l).length≤l.length+1:=by
 unfold p14
 have h:(fun x=> !(y2y x k || z7l x k))=fun x=>y2y k x:=by funext x;exact r4z
 rw[h]
 have:(l.filter fun x=>y2y x k).length+(l.filter fun x=>y2y k x).length≤l.length:=by
  induction l with
  | nil=>simp
  | cons x l ih=>
   simp only[Di]
   cases h1:y2y x k with
   | true=>rw[s1u h1];simp;omega
   | false=>cases h2:y2y k x<;>simp<;>omega
 simp
 omega
theorem q5a (l:Hu u1m) (r:Hs×Hs) (hl:l.length≤500000000000):t3r (l,r)=some ((r2h (l.map fun v=>v.1)).filter fun k=>inR r k):=by
 have L:=t40 t0s l (fun a i=>(l,r,a,i)) (fun a v=>if inR r v.1=true then p14 v.1 a else a) (fun a=> .inl a) (fun i a=>a.length≤i)
  (fun a _=>by rw[s4c];simp only[t0h,u0b,Am,Ah,Aa])
  (fun i hi a ha=>by
   rw[s4c];simp only[t0h,u0b,hi,Ae,Ad,y7s hi,zTn,y8l (t:=u0g) hi,r4d,zOb]
   cases hc:inR r l[i].1 with
   | false=>
    simp only[Bh,Ad,Br,Bk]
    rw[y7j (by omega)]
    exact⟨by omega,rfl⟩
   | true=>
    have hlow:(a.filter fun x=>y2y x l[i].1).length≤a.length:=Cs _ _
    simp only[Ap,Aa,Bl,q77 l[i].1 r l (i:Int) a (by omega),zOb,Aw,u07 (show(a.filter fun x=>y2y x l[i].1).length+1≤1099511627776 by omega),Ad,
     q6g l[i].1 r l (i:Int) a (a.filter (fun x=>y2y x l[i].1)++ [l[i].1]) (by simp;omega)]
    rw[y7j (by omega)]
    exact⟨A9 (p5c _ _) (by omega),rfl⟩) [] (by simp)
 rw[q0o];unfold s8q
 simp only[L,zOb]
 have hfold:∀(m:Hu u1m) (a:Hu Hs),m.foldl (fun a v=>if inR r v.1=true then p14 v.1 a else a) a=((m.map fun v=>v.1).filter fun k=>inR r k).foldl (fun a k=>p14 k a) a:=by
  intro m
  induction m with
  | nil=>intro a;rfl
  | cons x m ih=>
   intro a
   rw[Bs,ih]
   cases hc:inR r x.1<;>simp[hc]
 rw[hfold,p8a]
def u9x (l:Hu u1m) (r:Hs×Hs) (snap:Int):Hu (Hs×Hs):=
 ((r2h (l.map fun v=>v.1)).filter fun k=>(t2l l k snap).2&&inR r k).map fun k=>(k,(t2l l k snap).1)
theorem s9v (l:Hu u1m) (r:Hs×Hs) (snap:Int) (hl:l.length≤500000000000):u4u (l,r,snap)=some (u9x l r snap):=by
 obtain⟨ks,hks⟩:∃ks,ks=(r2h (l.map fun v=>v.1)).filter fun k=>inR r k:=⟨_,rfl⟩
 have hkl:ks.length≤l.length:=by
  rw[hks]
  refine A9 (Cs _ _) (A9 (t9y _) (by simp))
 have L:=t7f t14 ks (fun a i=>(l,snap,a,ks,i)) (fun k=>(t2l l k snap).2) (fun k=>(k,(t2l l k snap).1)) (fun a=> .inl a) (by omega)
  (fun a _=>by rw[s6v];simp only[t1u,u0b,Am,Ah,Aa])
  (fun i hi a ha=>by
   rw[s6v];simp only[t1u,u0b,hi,Ae,Ad,y7s hi,zTn,y8l (t:=Ty.str) hi,r61 l _ snap (show l.length≤1099511627776 by omega),zOb,Aw,u07 (show a.length+1≤1099511627776 by omega)]
   rw[y7j (by omega)])
 rw[q3k];unfold r0z
 simp only[q5a l r hl,zOb]
 rw[←hks]
 simp only[L,zOb]
 rw[hks,List.filter_filter]
 rfl
theorem q7w (l:Hu u1m) (r:Hs×Hs) (snap:Int) (hl:l.length≤500000000000):t5p (l,r,snap)=some (u9x l r snap):=by
 obtain⟨ks,hks⟩:∃ks,ks=r2h (l.map fun v=>v.1):=⟨_,rfl⟩
 have hkl:ks.length≤l.length:=by
  rw[hks]
  refine A9 (t9y _) (by simp)
 have L:=t7f t1y ks (fun a i=>(l,snap,r,a,ks,(ks.length:Int),i)) (fun k=>(t2l l k snap).2&&inR r k) (fun k=>(k,(t2l l k snap).1)) (fun a=> .inl a) (by omega)
  (fun a _=>by rw[s6m];simp only[t1n,u0b,Am,Ah,Aa])
  (fun i hi a ha=>by
   rw[s6m];simp only[t1n,u0b,hi,Ae,Ad,y7s hi,zTn,y8l (t:=Ty.str) hi,q7x l _ snap (show l.length≤1099511627776 by omega),q49,zOb,Aw,u07 (show a.length+1≤1099511627776 by omega)]
   rw[y7j (by omega)]
   cases (t2l l ks[i] snap).2<;>rfl)
 rw[q24];unfold r0j
 simp only[p2g l (show l.length≤1099511627775 by omega),zOb]
 rw[←hks]
 simp only[L,zOb]
 rw[hks]
 rfl
end
section
theorem q4p {E:Type} (p:E→Bool):∀(l:Hu E),(l.takeWhile p).length≤l.length∧(∀(i:Nat) (h:i<l.length),i<(l.takeWhile p).length→p l[i] =true)∧
 (∀(h:(l.takeWhile p).length<l.length),p l[(l.takeWhile p).length] =false)∧l.takeWhile p=l.take (l.takeWhile p).length∧l.dropWhile p=l.drop (l.takeWhile p).length
 | [] =>⟨Au _,fun i h=>absurd h (Ee i),fun h=>absurd h (Ee _),rfl,rfl⟩
 | x::l=>by
  obtain⟨h1,h2,h3,h4,h5⟩:=q4p p l
  cases hp:p x with
  | false=>
   simp only[F8,hp,List.dropWhile_cons,Br,Bk,Cc]
   exact⟨Cn _,fun i _ h=>absurd h (Ee i),fun _=>hp,rfl,rfl⟩
  | true=>
   simp only[F8,hp,List.dropWhile_cons,Bl,Bc]
   refine⟨by omega,fun i h k=> ?_,fun h=> ?_,?_,?_⟩
   ·cases i with
    | zero=>exact hp
    | succ i=>simpa using h2 i (by simpa using h) (by omega)
   ·simpa using h3 (by omega)
   ·rw[List.take_succ_cons,←h4]
   ·rw[List.drop_succ_cons,←h5]
theorem p90 {X R E:Type} (W:X→Ht R) (l:Hu E) (mk:Hu E→Int→X) (p:E→Bool) (fin:Hu E→Int→R)
 (hend:W (mk l (l.length:Int))=some (fin l (l.length:Int)))
 (hstep:∀(i:Nat) (h:i<l.length),W (mk (l.take i) (i:Int))=bif p l[i] then W (mk (l.take (i+1)) ((i+1:Nat):Int)) else some (fin (l.take i) (i:Int))):
 W (mk [] 0)=some (fin (l.takeWhile p) ((l.takeWhile p).length:Int)):=by
 obtain⟨h1,h2,h3,h4,_⟩:=q4p p l
 have:=r65 W (l.takeWhile p).length (fun(a:Hu E) i=>mk a i) (fun _ _=>fin (l.takeWhile p) ((l.takeWhile p).length:Int)) (fun i a=>a=l.take i)
  (fun a ha=>by
   rw[ha]
   by_cases hk:(l.takeWhile p).length<l.length
   ·rw[hstep _ hk,h3 hk,Aa,←h4]
   ·have e:(l.takeWhile p).length=l.length:=by omega
    have e2:l.takeWhile p=l:=by rw[h4,e];exact Cq
    rw[e2,Cq]
    exact hend)
  (fun i a hi ha=> .inr ⟨_,rfl,rfl,by rw[ha,hstep i (by omega),h2 i (by omega) hi,Ad]⟩) 0 [] (Cn _) (by simp)
 exact this
def t2o (v y:u1m):Bool:=y2y y.1 v.1 || (z7l y.1 v.1&&decide (y.2.2.2≤v.2.2.2))
def p3w (l:Hu u1m) (v:u1m):Hu u1m:=l.takeWhile (t2o v)++ [v] ++l.dropWhile (t2o v)
def t05 (l:Hu u1m) (ws:Hu u2u.den) (cs:Int):Hu u1m:=ws.foldl (fun l w=>p3w l (w.1,w.2.1,w.2.2,cs)) l
theorem q9v (l:Hu u1m) (v:u1m):(p3w l v).length=l.length+1:=by
 have:l.length=(l.takeWhile (t2o v)).length+(l.dropWhile (t2o v)).length:=by rw[←Ba,Fe]
 simp[p3w]
 omega
theorem r2o:∀(ws:Hu u2u.den) (l:Hu u1m) (cs:Int),(t05 l ws cs).length=l.length+ws.length
 | [],l,cs=>rfl
 | w::ws,l,cs=>by
  have:=r2o ws (p3w l (w.1,w.2.1,w.2.2,cs)) cs
  unfold t05 at this ⊢
  rw[Bs,this,q9v]
  simp
  omega
theorem p4v (ws:Hu u2u.den) (cs:Int) (l:Hu u1m) (j:Int) (v:u1m) (hl:l.length≤1000000000000):
 u3e (ws,cs,l,j,v, [],0)=some (.inl (ws,cs,l,j,v,l.takeWhile (t2o v),((l.takeWhile (t2o v)).length:Int))):=
 p90 u3e l (fun a i=>(ws,cs,l,j,v,a,i)) (t2o v) (fun a i=> .inl (ws,cs,l,j,v,a,i))
  (by rw[t5i];simp only[u43,u0b,Am,Ah,Aa,zOb])
  (fun i hi=>by
   rw[t5i]
   have hb:((l.take i).length+ [l[i]].length)≤1099511627776:=by simp;omega
   simp only[u43,u0b,hi,Ae,Ad,y7s hi,zTn,y8l (t:=u0g) hi,u07 hb]
   rw[y7j (by omega),B9 hi]
   unfold t2o
   cases h1:y2y l[i].1 v.1 with
   | true=>simp
   | false=>
    cases h2:z7l l[i].1 v.1 with
    | false=>simp
    | true=>
     by_cases h3:l[i].2.2.2≤v.2.2.2<;>simp[h3])
theorem s1z (l:Hu u1m) (ws:Hu u2u.den) (cs:Int) (hl:l.length+ws.length≤1000000000000):u4t (l,ws,cs)=some (t05 l ws cs):=by
 have L:=t40 u45 ws (fun a i=>(ws,cs,a,i)) (fun l w=>p3w l (w.1,w.2.1,w.2.2,cs)) (fun a=> .inl a) (fun i a=>a.length=l.length+i)
  (fun a _=>by rw[t5h];simp only[u42,u0b,Am,Ah,Aa])
  (fun i hi a ha=>by
   have hal:a.length≤1000000000000:=by omega
   rw[t5h]
   simp only[u42,u0b,hi,Ae,Ad,y7s hi,zTn,y8l (t:=u2u) hi,p4v ws cs a _ _ hal,zOb]
   obtain⟨v,hv⟩:∃v:u1m,v=(ws[i].1,ws[i].2.1,ws[i].2.2,cs):=⟨_,rfl⟩
   rw[←hv]
   obtain⟨t1,_,_,t4,t5⟩:=q4p (t2o v) a
   refine⟨by rw[q9v];omega,?_⟩
   have g1:decide ((0:Int)≤((a.takeWhile (t2o v)).length:Int))=true:=by simp
   have g2:decide (((a.takeWhile (t2o v)).length:Int)≤(a.length:Int))=true:=by simpa using t1
   have g3:decide ((a.length:Int)≤(a.length:Int))=true:=by simp
   have b1:(a.takeWhile (t2o v)).length+ [v].length≤1099511627776:=by simp;omega
   have b2:(a.takeWhile (t2o v)++ [v]).length+(a.drop (a.takeWhile (t2o v)).length).length≤1099511627776:=by simp;omega
   simp only[g1,g2,g3,Bz,u07 b1,Ad,Cq,u07 b2]
   rw[y7j (by omega),←t5]
   rfl) l (by simp)
 rw[r1r];unfold t7g
 simp only[Cc,Co,Cf,u07 (show l.length≤1099511627776 by omega),Ad,L,zOb]
 rfl
end
section
abbrev PrT:=Hs×Hs
end
section
theorem q5f (r:Hu t44.den) (w:Hu u2u.den) (hr:r.length≤u0y) (hw:w.length≤u0y):t89 (r,w)=some (r37 r w):=by
 unfold u0y at hr hw
 have inner:∀(i:Nat) (hi:i<r.length),u6m (r,w,(i:Int),0)=some (bif w.any (fun y=>inR r[i] y.1) then .inr true else .inl (r,w,(i:Int))):=fun i hi=>
  s9w u6m w (fun j=>(r,w,(i:Int),j)) (fun y=>inR r[i] y.1) _ _ (by
   rw[s38];simp only[t0d,u0b,Am,Ah,Aa]) (fun j hj=>by
   rw[s38];simp only[t0d,u0b,hj,Ae,Ad,y7s hi,y7s hj,zTn,y8l hi,y8l hj,r4d,zOb]
   rw[y7j (by omega)])
 have outer:=s9w t0r r (fun i=>(r,w,i)) (fun x=>w.any fun y=>inR x y.1) (.inr true) (.inl ()) (by
  rw[s37];simp only[t0c,u0b,Am,Ah,Aa]) (fun i hi=>by
  rw[s37];simp only[t0c,u0b,hi,Ae,Ad,inner i hi,zOb]
  have ws:=y7j (i:=i) (by omega)
  cases w.any fun y=>inR r[i] y.1<;>simp only[Ad,Aa,ws])
 rw[q0b];unfold s8c
 simp only[outer,zOb]
 unfold r37
 cases r.any fun x=>w.any fun y=>inR x y.1<;>rfl
theorem p0i (r w:Hu u2u.den) (hr:r.length≤u0y) (hw:w.length≤u0y):t77 (r,w)=some (r2l r w):=by
 unfold u0y at hr hw
 have inner:∀(i:Nat) (hi:i<r.length),u9m (r,w,(i:Int),0)=some (bif w.any (fun y=>z7l r[i].1 y.1) then .inr true else .inl (r,w,(i:Int))):=fun i hi=>
  s9w u9m w (fun j=>(r,w,(i:Int),j)) (fun y=>z7l r[i].1 y.1) _ _ (by
   rw[s9m];simp only[t28,u0b,Am,Ah,Aa]) (fun j hj=>by
   rw[s9m];simp only[t28,u0b,hj,Ae,Ad,y7s hi,y7s hj,zTn,y8l hi,y8l hj,zOb]
   rw[y7j (by omega)])
 have outer:=s9w t3d r (fun i=>(r,w,i)) (fun x=>w.any fun y=>z7l x.1 y.1) (.inr true) (.inl ()) (by
  rw[s9l];simp only[t27,u0b,Am,Ah,Aa]) (fun i hi=>by
  rw[s9l];simp only[t27,u0b,hi,Ae,Ad,inner i hi,zOb]
  have ws:=y7j (i:=i) (by omega)
  cases w.any fun y=>z7l r[i].1 y.1<;>simp only[Ad,Aa,ws])
 rw[q50];unfold r4o
 simp only[outer,zOb]
 unfold r2l
 cases r.any fun x=>w.any fun y=>z7l x.1 y.1<;>rfl
def t9s (a b:u1f.den):Bool:=
 decide (a.2.1=3)&&decide (b.2.1=3)&& !decide (a.1=b.1)&&
 (decide (a.2.2.2.1≤b.2.2.1)&&r37 b.2.2.2.2.1 a.2.2.2.2.2.1 || decide (a.2.2.2.1<b.2.2.2.1)&&r2l a.2.2.2.2.2.1 b.2.2.2.2.2.1 || decide (b.2.2.2.1 >a.2.2.1)&&r37 a.2.2.2.2.1 b.2.2.2.2.2.1)
end
section
def p99 (t:Hu Nat):Hu Int:=t.map fun i:Nat=>(i:Int)
def o54 (l:Hu u1f.den) (j i:Nat):Bool:=t9s (rdL u1f l j) (rdL u1f l i)
def o0m (l:Hu u1f.den) (t:Hu Nat) (i:Nat):Bool:= !t.contains i&& !(List.range l.length).any (fun j=> !decide (j=i)&&(!t.contains j&&o54 l j i))
def p5u (l:Hu u1f.den) (t:Hu Nat):Ht Nat:=(List.range l.length).find? (o0m l t)
def o0n (l:Hu u1f.den):Nat→Hu Nat→Ht (Hu Nat)
 | 0,t=>some t
 | k+1,t=>match p5u l t with
  | none=>none
  | some i=>o0n l k (t++ [i])
def o0o (l:Hu u1f.den):Ht (Hu Nat):=o0n l l.length []
section
variable {l:Hu u1f.den} (hw:∀x∈l,u1f.wt x≤u0y) (hl:l.length≤1048576)
include hw hl
end
end
section
def p8i (m:Hu o51.den) (w:u2u.den):Hu o51.den:=
 m.filter (fun c=>y2y c.1 w.1)++(if w.2.2 then[] else[(w.1,w.2.1)])++m.filter (fun c=> !(y2y c.1 w.1 || z7l c.1 w.1))
def t81 (m:Hu o51.den) (ws:Hu u2u.den):Hu o51.den:=ws.foldl p8i m
section
variable (t:u1f.den) (w:u2u.den) (m:Hu o51.den) (hm:m.length≤500000000000)
include hm
end
end
section
def o02 (a:Hu u1m) (t:u1f.den):Hu u1m:=t05 a t.2.2.2.2.2.1 t.2.2.2.1
def o6e (l:Hu u1f.den):Hu u1m:=l.foldl o02 []
def p8k (vs:Hu u1m) (m:Hu PrT) (t:u1f.den):Bool:=t.2.2.2.2.1.any fun r=> !decide (r86 m r=u9x vs r t.2.2.1)
def o3a (l:Hu u1f.den) (vs:Hu u1m) (i:Nat) (x:Int) (m:Hu PrT):Hu PrT⊕(Unit⊕Bool):=
 if p8k vs m (rdL u1f l x.toNat)=true then .inr (.inr false) else .inl (t81 m (rdL u1f l x.toNat).2.2.2.2.2.1)
def o0p (l:Hu u1f.den) (u:Hu Nat):Unit⊕Bool:=p5f (o3a l (o6e l)) (fun _=> .inl ()) 0 (p99 u) []
def o6f (l:Hu u1f.den):Bool:=match o0o l with
 | none=>false
 | some u=>match o0p l u with
  | .inl _=>true
  | .inr b=>b
def o3g (l:Hu u1f.den):Nat:=(l.map fun t=>t.2.2.2.2.2.1.length).sum
section
variable {l:Hu u1f.den} (hw:∀x∈l,u1f.wt x≤u0y) (hl:l.length+o3g l≤1048576) (hr:∀x∈l,x.2.2.2.2.1.length≤1048576)
include hl
include hr
include hw
end
end
section
abbrev Src:=Hu Int×Int×Int
def Src.ok (s:Src):Prop:=s.1.length≤1048576∧0≤s.2.1∧s.2.1≤(s.1.length:Int)
def Dr {T:Type} (F:Ht (T×Src)) (p:T→Prop):Prop:= ∃y s,F=some (y,s)∧s.ok∧p y
theorem q9f (v:BitVec IntKind.i64.bits):0≤IntKind.i64.wrap ((v&&&BitVec.ofInt IntKind.i64.bits 255).toNat:Int)∧IntKind.i64.wrap ((v&&&BitVec.ofInt IntKind.i64.bits 255).toNat:Int)<256:=by
 have h:(v&&&BitVec.ofInt IntKind.i64.bits 255).toNat≤255:=by
  rw[BitVec.toNat_and]
  exact A9 Nat.and_le_right (by decide)
 rw[y4u (by omega) (by omega)]
 omega
theorem r29 {s:Src} (h:s.ok):Dr (u3s s) (fun y=>0≤y∧y<256):=by
 obtain⟨l,p,z⟩:=s
 obtain⟨h1,h2,h3⟩:=h
 simp only at h1 h2 h3
 rw[q0f];unfold s8g
 simp only
 by_cases hp:p<(l.length:Int)
 ·have hg:y4l p l.length=true:=by simp[y4l,h2,hp]
  simp only[hp,Ae,Ad,hg]
  exact⟨_,_,rfl,⟨h1,by simp only;rw[y4u (by omega) (by omega)];omega,by simp only;rw[y4u (by omega) (by omega)];omega⟩,q9f _⟩
 ·simp only[hp,Ah,Aa]
  exact⟨_,_,rfl,⟨h1,h2,h3⟩,q9f _⟩
theorem s7a {a n:Int} (ha:0≤a) (hn:0<n):0≤Int.tmod a n∧Int.tmod a n<n:=⟨Int.tmod_nonneg _ ha,Int.tmod_lt_of_pos _ hn⟩
theorem u1e {s:Src} (h:s.ok) {n:Int} (hn:0<n):Dr (u0e (s,n)) (fun y=>0≤y∧y<n):=by
 rw[r7x];unfold s48
 have h0:decide (n≤0)=false:=by simp;omega
 have h0' :(!decide (n=0))=true:=by simp;omega
 simp only[h0,Aa,h0',Ad]
 by_cases h1:n≤256
 ·simp only[h1,Ae,Ad]
  obtain⟨y,s1,e1,k1,r1⟩:=r29 h
  simp only[e1,zOb]
  exact⟨_,_,rfl,k1,s7a r1.1 hn⟩
 ·simp only[h1,Ah,Aa]
  obtain⟨y1,s1,e1,k1,r1⟩:=r29 h
  obtain⟨y2,s2,e2,k2,r2⟩:=r29 k1
  obtain⟨y3,s3,e3,k3,r3⟩:=r29 k2
  obtain⟨y4,s4,e4,k4,r4⟩:=r29 k3
  simp only[e1,e2,e3,e4,zOb]
  refine⟨_,_,rfl,k4,s7a ?_ hn⟩
  rw[y4u (n:=y1*16777216) (by omega) (by omega),y4u (n:=y2*65536) (by omega) (by omega),y4u (n:=y3*256) (by omega) (by omega),y4u (n:=y1*16777216+y2*65536) (by omega) (by omega),
   y4u (n:=y1*16777216+y2*65536+y3*256) (by omega) (by omega),y4u (n:=y1*16777216+y2*65536+y3*256+y4) (by omega) (by omega)]
  omega
theorem t8s {s:Src} (h:s.ok) {n:Int} (hn:0<n):Dr (u06 (s,n)) (fun _=>True):=by
 rw[q0g];unfold s8h
 obtain⟨y,s1,e1,k1,r1⟩:=u1e h hn
 simp only[e1,zOb]
 exact⟨_,_,rfl,k1,trivial⟩
theorem t52 {s:Src} (h:s.ok) {l:Hu Hs} (hl:0<l.length):Dr (u0o (s,l)) (fun y=>y∈l):=by
 rw[q0h];unfold s8i
 obtain⟨y,s1,e1,k1,r1⟩:=u1e h (n:=(l.length:Int)) (by omega)
 obtain⟨i,rfl⟩:∃i:Nat,y=(i:Int):=⟨y.toNat,by omega⟩
 have hi:i<l.length:=by omega
 simp only[e1,zOb,y7s hi,Ad,zTn]
 exact⟨_,_,rfl,k1,by show rdL Ty.str l i∈l;have h:rdL Ty.str l i=l[i] :=y8l (t:=Ty.str) (l:=l) hi;rw[h];exact Ag hi⟩
theorem p2j {l:Hu Int} (hl:l.length≤1048576):∃s:Src,t2e l=some s∧s.ok:=by
 have key:∀(d i:Nat) (z:Int),i≤l.length→l.length - i≤d→ ∃z',u77 (l,z,(i:Int))=some (.inl (l,z')):=by
  intro d
  induction d with
  | zero=>
   intro i z hi hd
   have:i=l.length:=by omega
   subst this
   rw[t69]
   simp only[u71,u0b,Am,Ah,Aa,zOb]
   exact⟨_,rfl⟩
  | succ d ih=>
   intro i z hi hd
   by_cases h:i<l.length
   ·rw[t69]
    simp only[u71,u0b,h,Ae,Ad,zOb,y7s h]
    rw[y7j (by omega)]
    cases decide ((i:Int)<4000) with
    | false=>exact⟨_,rfl⟩
    | true=>exact ih (i+1) _ (by omega) (by omega)
   ·have:i=l.length:=by omega
    subst this
    rw[t69]
    simp only[u71,u0b,Am,Ah,Aa,zOb]
    exact⟨_,rfl⟩
 obtain⟨z',hz⟩:=key l.length 0 (IntKind.i64.wrap (77601+(l.length:Int))) (Cn _) (by omega)
 rw[q3o];unfold r03
 have hz' :u77 (l,IntKind.i64.wrap (77601+(l.length:Int)),0)=_:=hz
 simp only[hz',zOb]
 exact⟨_,rfl,hl,Bv _,by simp only;omega⟩
theorem q83 {s:Src} (h:s.ok):Dr (u19 s) (fun y=>y.size≤2):=by
 rw[r1u];unfold s08
 obtain⟨y,s1,e1,k1,r1⟩:=t52 h (l:= [(⟨#[97]⟩:Hs),(⟨#[98]⟩:Hs),(⟨#[99]⟩:Hs),(⟨#[100]⟩:Hs),(⟨#[97,98]⟩:Hs)]) (by decide)
 simp only[e1,zOb]
 refine⟨_,_,rfl,k1,?_⟩
 simp only[A8,Ep,Em] at r1
 rcases r1 with rfl | rfl | rfl | rfl | rfl<;>decide
theorem p4w {s:Src} (h:s.ok):Dr (u2x s) (fun y=>y.1.size≤2∧y.2.size≤2):=by
 rw[s5m];unfold t57
 obtain⟨y1,s1,e1,k1,r1⟩:=q83 h
 obtain⟨y2,s2,e2,k2,r2⟩:=t8s k1 (n:=2) (by omega)
 obtain⟨y3,s3,e3,k3,r3⟩:=q83 k2
 simp only[e1,e2,e3,zOb]
 cases y2 with
 | true=>exact⟨_,_,rfl,k2,r1,r1⟩
 | false=>
  simp only[Aa]
  cases y2y y3 y1 with
  | true=>exact⟨_,_,rfl,k3,r3,r1⟩
  | false=>exact⟨_,_,rfl,k3,r1,r3⟩
theorem p2m {s:Src} (h:s.ok):Dr (t4u s) (fun y=>y.length≤3∧ ∀r∈y,r.1.size≤2∧r.2.size≤2):=by
 have key:∀(d i:Nat) (s:Src) (a:Hu t44.den),s.ok→a.length=i→4≤i+d→i≤3→(∀r∈a,r.1.size≤2∧r.2.size≤2)→
  ∃(s' :Src) (a' :Hu t44.den),u4o (s,a,(i:Int))=some (.inl (s',a'))∧s'.ok∧a'.length≤3∧ ∀r∈a',r.1.size≤2∧r.2.size≤2:=by
  intro d
  induction d with
  | zero=>intro i s a _ _ h1 h2;omega
  | succ d ih=>
   intro i s a hs ha hd hi hr
   obtain⟨y,s1,e1,k1,r1⟩:=u1e hs (n:=4) (by omega)
   rw[r22]
   simp only[t1w,e1,zOb]
   by_cases hy:(i:Int)<y
   ·obtain⟨y2,s2,e2,k2,r2⟩:=p4w k1
    have hc:Nat.ble (a.length+([y2] :Hu t44.den).length) z8x=true:=by
     rw[Nat.ble_eq,ha];simp only[Bc,Cc,z8x];omega
    simp only[hy,Ae,Ad,e2,zOb]
    rw[hc,y7j (by omega)]
    exact ih (i+1) s2 (a++ [y2]) k2 (by simp[ha]) (by omega) (by omega) (fun r hm=>by
     rcases Ay.mp hm with q | q
     ·exact hr r q
     ·simp only[A8,Ep,Em] at q;subst q;exact r2)
   ·simp only[hy,Ah,Aa]
    exact⟨_,_,rfl,k1,by omega,hr⟩
 obtain⟨s',a',e1,k1,r1,r2⟩:=key 4 0 s [] h rfl (by omega) (by omega) (fun r hr=>by cases hr)
 rw[r53];unfold s2o
 have e1:u4o (s, [],0)=_:=e1
 simp only[e1,zOb]
 exact⟨_,_,rfl,k1,r1,r2⟩
theorem q9b {s:Src} (h:s.ok):Dr (u2a s) (fun y=>y.1.size≤2∧y.2.1.size≤3):=by
 rw[s5n];unfold t58
 obtain⟨y1,s1,e1,k1,r1⟩:=q83 h
 obtain⟨y2,s2,e2,k2,r2⟩:=t52 k1 (l:= [(⟨#[111,110,101]⟩:Hs),(⟨#[116,119,111]⟩:Hs),(⟨#[]⟩:Hs),(⟨#[120,0]⟩:Hs)]) (by decide)
 obtain⟨y3,s3,e3,k3,r3⟩:=t8s k2 (n:=5) (by omega)
 simp only[e1,e2,e3,zOb]
 have hz:y2.size≤3:=by
  simp only[A8,Ep,Em] at r2
  rcases r2 with rfl | rfl | rfl | rfl<;>decide
 cases y3 with
 | true=>exact⟨_,_,rfl,k3,r1,by show ByteArray.size ⟨#[]⟩≤3;decide⟩
 | false=>exact⟨_,_,rfl,k3,r1,hz⟩
def r9e (l:Hu u2u.den) (w:u2u.den):Hu u2u.den:=l.filter (fun x=>y2y x.1 w.1)++ [w] ++l.filter (fun x=> !(y2y x.1 w.1 || z7l x.1 w.1))
theorem s04 (l:Hu u2u.den) (w:u2u.den) (hl:l.length≤1048576):t19 (l,w)=some (r9e l w):=by
 have L1:=t7f u86 l (fun a i=>(l,w,a,i)) (fun x=>y2y x.1 w.1) (fun x=>x) (fun a=> .inl (l,w,a)) (by omega) (fun a ha=>by
  rw[s0r];simp only[u8t,u0b,Am,Ah,Aa]) (fun i hi a ha=>by
  have hc:Nat.ble (a.length+([l[i]] :Hu u2u.den).length) z8x=true:=by
   rw[Nat.ble_eq];simp only[Bc,Cc,z8x];omega
  rw[s0r];simp only[u8t,u0b,hi,Ae,Ad,y7s hi,zTn,y8l hi]
  rw[y7j (by omega),hc]
  rfl)
 simp only[Er] at L1
 have L2:=t40 u87 l (fun a i=>(l,w,a,i)) (fun(a:Hu u2u.den) x=>if y2y x.1 w.1 || z7l x.1 w.1 then a else a++ [x]) (fun a=> .inl a) (fun i a=>a.length≤1048577+i) (fun a ha=>by
  rw[s0s];simp only[u8u,u0b,Am,Ah,Aa]) (fun i hi a ha=>by
  have hc:Nat.ble (a.length+([l[i]] :Hu u2u.den).length) z8x=true:=by
   rw[Nat.ble_eq];simp only[Bc,Cc,z8x];omega
  rw[s0s];simp only[u8u,u0b,hi,Ae,Ad,y7s hi,zTn,y8l hi]
  rw[y7j (by omega),hc]
  cases hq:y2y l[i].1 w.1 || z7l l[i].1 w.1 with
  | true=>simp only[Ap,Aa,Bl];refine⟨by omega,?_⟩;trivial
  | false=>simp only[Bh,Ad,Br,Bk];refine⟨by simp;omega,?_⟩;trivial)
 have key:∀(l:Hu u2u.den) (a:Hu u2u.den),l.foldl (fun(a:Hu u2u.den) x=>if y2y x.1 w.1 || z7l x.1 w.1 then a else a++ [x]) a=a++l.filter (fun x=> !(y2y x.1 w.1 || z7l x.1 w.1)):=by
  intro l
  induction l with
  | nil=>intro a;simp
  | cons x l ih=>
   intro a
   simp only[Bs,ih,Di]
   cases hq:y2y x.1 w.1 || z7l x.1 w.1<;>simp
 have hlen:(l.filter (fun x=>y2y x.1 w.1)).length≤l.length:=Cs _ _
 have L2' :=L2 (l.filter (fun x=>y2y x.1 w.1)++ [w]) (by simp;omega)
 rw[key] at L2'
 have hc:Nat.ble ((l.filter (fun x=>y2y x.1 w.1)).length+([w] :Hu u2u.den).length) z8x=true:=by
  rw[Nat.ble_eq];simp only[Bc,Cc,z8x];omega
 rw[r7n];unfold s4x
 simp only[L1,zOb]
 rw[hc]
 simp only[Ad,L2',zOb]
 rfl
theorem s65 {l:Hu u2u.den} {w x:u2u.den} (h:x∈r9e l w):x∈l∨x=w:=by
 unfold r9e at h
 simp only[Bi,Ay,A6,A8,Ep,Em] at h
 rcases h with h | h | h
 ·exact .inl h.1
 ·exact .inr h
 ·exact .inl h.1
theorem q4h (l:Hu u2u.den) (w:u2u.den):(r9e l w).length≤l.length+1:=by
 have:∀l:Hu u2u.den,(l.filter (fun x=>y2y x.1 w.1)).length+(l.filter (fun x=> !(y2y x.1 w.1 || z7l x.1 w.1))).length≤l.length:=by
  intro l
  induction l with
  | nil=>simp
  | cons x l ih=>
   simp only[Di]
   cases y2y x.1 w.1<;>cases z7l x.1 w.1<;>simp only[Ew,Fp,Ap,Bh,Bl,Bk,Br,Bc] <;>omega
 unfold r9e
 have:=this l
 simp only[Ba,Bc,Cc]
 omega
def KD (l:Hu u2u.den):Prop:=l.Pairwise fun a b=>a.1≠b.1
theorem p8j {l:Hu u2u.den} {w:u2u.den} (h:KD l):KD (r9e l w):=by
 unfold KD r9e at*
 rw[Bi,Cg]
 refine⟨h.filter _,?_,fun a ha b hb e=> ?_⟩
 ·rw[Fs,Ch]
  refine⟨fun b hb e=> ?_,h.filter _⟩
  have:=(A6.mp hb).2
  simp[z7l,e] at this
 ·have h1:=(A6.mp ha).2
  rw[Fs,A8] at hb
  rcases hb with rfl | hb
  ·rw[e,u58] at h1;cases h1
  ·have h2:=(A6.mp hb).2
   rw[←e,h1] at h2
   cases h2
theorem p2t {s:Src} (h:s.ok):Dr (u6y s) (fun y=>y.length≤3∧(∀r∈y,r.1.size≤2∧r.2.1.size≤3)∧KD y):=by
 have key:∀(d i:Nat) (s:Src) (a:Hu u2u.den),s.ok→a.length≤i→4≤i+d→i≤3→(∀r∈a,r.1.size≤2∧r.2.1.size≤3)→KD a→
  ∃(s' :Src) (a' :Hu u2u.den),u17 (s,a,(i:Int))=some (.inl (s',a'))∧s'.ok∧a'.length≤3∧(∀r∈a',r.1.size≤2∧r.2.1.size≤3)∧KD a' :=by
  intro d
  induction d with
  | zero=>intro i s a _ _ h1 h2;omega
  | succ d ih=>
   intro i s a hs ha hd hi hr hk
   obtain⟨y,s1,e1,k1,r1⟩:=u1e hs (n:=4) (by omega)
   rw[t8p]
   simp only[u7k,e1,zOb]
   by_cases hy:(i:Int)<y
   ·obtain⟨y2,s2,e2,k2,r2⟩:=q9b k1
    simp only[hy,Ae,Ad,e2,zOb,s04 a y2 (by omega)]
    rw[y7j (by omega)]
    exact ih (i+1) s2 (r9e a y2) k2 (by have:=q4h a y2;omega) (by omega) (by omega) (fun r hm=>by
     rcases s65 hm with q | q
     ·exact hr r q
     ·subst q;exact r2) (p8j hk)
   ·simp only[hy,Ah,Aa]
    exact⟨_,_,rfl,k1,by omega,hr,hk⟩
 obtain⟨s',a',e1,k1,r1,r2⟩:=key 4 0 s [] h (by simp) (by omega) (by omega) (fun r hr=>by cases hr) List.Pairwise.nil
 rw[s2w];unfold t4n
 have e1:u17 (s, [],0)=_:=e1
 simp only[e1,zOb]
 exact⟨_,_,rfl,k1,r1,r2⟩
def o3e (t:u1f.den):Prop:=t.2.2.2.2.1.length≤3∧(∀r∈t.2.2.2.2.1,r.1.size≤2∧r.2.size≤2)∧t.2.2.2.2.2.1.length≤3∧(∀r∈t.2.2.2.2.2.1,r.1.size≤2∧r.2.1.size≤3)∧t.2.2.2.2.2.2.2.size≤16
def tId (t:u1f.den):Int:=t.1
def tSt (t:u1f.den):Int:=t.2.1
def o3f (t:u1f.den):Int:=t.2.2.1
def tCs (t:u1f.den):Int:=t.2.2.2.1
def o0b (t:u1f.den):Prop:=tSt t=3∧o3f t<tCs t∧KD t.2.2.2.2.2.1
def o0h (l:Hu u1f.den):Prop:=(∀t∈l,o0b t)∧l.Pairwise fun a b=>tId a≠tId b∧tCs a<tCs b
end
section
def q86 (m:Hu PrT):Prop:=m.Pairwise fun a b=>y2y a.1 b.1=true
theorem p5v {m:Hu PrT} (h:q86 m) (w:u2u.den):q86 (p8i m w):=by
 unfold q86 p8i at*
 rw[Bi,Cg]
 refine⟨h.filter _,?_,fun a ha b hb=> ?_⟩
 ·rw[Cg]
  refine⟨by split<;>simp,h.filter _,fun a ha b hb=> ?_⟩
  have hb:=(A6.mp hb).2
  rw[r4z] at hb
  split at ha
  ·cases ha
  ·simp only[Ax] at ha
   subst ha
   exact hb
 ·have ha:=(A6.mp ha).2
  rcases Ay.mp hb with hb | hb
  ·split at hb
   ·cases hb
   ·simp only[Ax] at hb
    subst hb
    exact ha
  ·have hb:=(A6.mp hb).2
   rw[r4z] at hb
   exact s9i ha hb
theorem p5m {m:Hu PrT} {w:u2u.den} {k v:Hs} :(k,v)∈p8i m w↔(k≠w.1∧(k,v)∈m)∨(k=w.1∧w.2.2=false∧v=w.2.1):=by
 unfold p8i
 simp only[Bi,Ay,A6,r4z]
 constructor
 ·rintro(⟨h1,h2⟩ | h | ⟨h1,h2⟩)
  ·exact .inl ⟨(fun e=>by subst e;rw[u58] at h2;cases h2),h1⟩
  ·split at h
   ·cases h
   ·rename_i hg
    simp only[Ax,Ak] at h
    exact .inr ⟨h.1,by simpa using hg,h.2⟩
  ·exact .inl ⟨(fun e=>by subst e;rw[u58] at h2;cases h2),h1⟩
 ·rintro(⟨h1,h2⟩ | ⟨h1,h2,h3⟩)
  ·rcases r0a k w.1 with e | e | e
   ·exact .inl ⟨h2,e⟩
   ·exact absurd e h1
   ·exact .inr (.inr ⟨h2,e⟩)
  ·refine .inr (.inl ?_)
   rw[h2]
   simp[h1,h3]
theorem r8n:∀(ws:Hu u2u.den) {m:Hu PrT},q86 m→q86 (t81 m ws)
 | [],_,h=>h
 | w::ws,_,h=>r8n ws (p5v h w)
theorem r8j {k v:Hs} :∀(ws:Hu u2u.den) (m:Hu PrT),KD ws→((k,v)∈t81 m ws↔(∃w∈ws,w.1=k∧w.2.2=false∧w.2.1=v)∨((∀w∈ws,w.1≠k)∧(k,v)∈m))
 | [],m,_=>by simp[t81]
 | w::ws,m,h=>by
  have h' :=Ch.mp h
  have ih:=r8j (k:=k) (v:=v) ws (p8i m w) h'.2
  have e:t81 m (w::ws)=t81 (p8i m w) ws:=rfl
  rw[e,ih,p5m]
  constructor
  ·rintro(⟨x,hx,q⟩ | ⟨h1,h2 | h2⟩)
   ·exact .inl ⟨x,Bm _ hx,q⟩
   ·refine .inr ⟨fun x hx=> ?_,h2.2⟩
    rcases A8.mp hx with rfl | hx
    ·exact fun e=>h2.1 e.symm
    ·exact h1 x hx
   ·exact .inl ⟨w,C9 ..,h2.1.symm,h2.2.1,h2.2.2.symm⟩
  ·rintro(⟨x,hx,q⟩ | ⟨h1,h2⟩)
   ·rcases A8.mp hx with rfl | hx
    ·exact .inr ⟨fun y hy e=>h'.1 y hy (q.1.trans e.symm), .inr ⟨q.1.symm,q.2.1,q.2.2.symm⟩⟩
    ·exact .inl ⟨x,hx,q⟩
   ·exact .inr ⟨fun y hy=>h1 y (Bm _ hy), .inl ⟨fun e=>h1 w (C9 ..) e.symm,h2⟩⟩
def wrs (t:u1f.den) (k:Hs):Prop:= ∃w∈t.2.2.2.2.2.1,w.1=k
def q07 (P:Hu u1f.den):Hu PrT:=P.foldl (fun m t=>t81 m t.2.2.2.2.2.1) []
theorem p1c (P:Hu u1f.den) (t:u1f.den):q07 (P++ [t])=t81 (q07 P) t.2.2.2.2.2.1:=by simp[q07]
theorem q6t (P:Hu u1f.den):q86 (q07 P):=by
 unfold q07
 have:∀(P:Hu u1f.den) (m:Hu PrT),q86 m→q86 (P.foldl (fun m t=>t81 m t.2.2.2.2.2.1) m):=by
  intro P
  induction P with
  | nil=>intro m h;exact h
  | cons t P ih=>intro m h;exact ih _ (r8n _ h)
 exact this P [] List.Pairwise.nil
def o5j (P:Hu u1f.den) (k v:Hs) (lim:Int→Prop):Prop:=
 ∃t∈P,lim (tCs t)∧(∃w∈t.2.2.2.2.2.1,w.1=k∧w.2.2=false∧w.2.1=v)∧ ∀x∈P,lim (tCs x)→wrs x k→tCs x≤tCs t
theorem p5n {l:Hu u1m} {v x:u1m} :x∈p3w l v↔x=v∨x∈l:=by
 unfold p3w
 conv=>rhs;rw[←Fe (p:=t2o v) (l:=l)]
 simp only[Ay,Ax]
 constructor
 ·rintro((h | h) | h)
  ·exact .inr (.inl h)
  ·exact .inl h
  ·exact .inr (.inr h)
 ·rintro(h | h | h)
  ·exact .inl (.inr h)
  ·exact .inl (.inl h)
  ·exact .inr h
theorem u2w {x:u1m} :∀(ws:Hu u2u.den) (l:Hu u1m) (cs:Int),x∈t05 l ws cs↔x∈l∨ ∃w∈ws,x=(w.1,w.2.1,w.2.2,cs)
 | [],l,cs=>by simp[t05]
 | w::ws,l,cs=>by
  have e:t05 l (w::ws) cs=t05 (p3w l (w.1,w.2.1,w.2.2,cs)) ws cs:=rfl
  rw[e,u2w ws,p5n]
  constructor
  ·rintro((h | h) | ⟨y,hy,h⟩)
   ·exact .inr ⟨w,by simp,h⟩
   ·exact .inl h
   ·exact .inr ⟨y,by simp[hy],h⟩
  ·rintro(h | ⟨y,hy,h⟩)
   ·exact .inl (.inr h)
   ·rcases A8.mp hy with rfl | hy
    ·exact .inl (.inl h)
    ·exact .inr ⟨y,hy,h⟩
def vCs (x:u1m):Int:=x.2.2.2
theorem r3g (l:Hu u1m) (k:Hs) (snap:Int):∀n,n≤l.length→
 (r1m l k snap n<0→ ∀(i:Nat) (h:i<l.length),i<n→ ¬(l[i].1=k∧vCs l[i] ≤snap))∧
 (∀a:Nat,r1m l k snap n=(a:Int)→ ∃h:a<l.length,l[a].1=k∧vCs l[a] ≤snap∧ ∀(i:Nat) (h:i<l.length),i<n→l[i].1=k→vCs l[i] ≤snap→vCs l[i] ≤vCs l[a])
 | 0,_=>⟨fun _ i _ h=>absurd h (Ee i),fun a e=>by simp only[r1m] at e;omega⟩
 | n+1,hn=>by
  obtain⟨h1,h2⟩:=r3g l k snap n (by omega)
  have hlt:n<l.length:=by omega
  have hr:=r1n l k snap n
  simp only[r1m,q5k,y8l (t:=u0g) hlt]
  by_cases hc:z7l l[n].1 k=true∧l[n].2.2.2≤snap∧(r1m l k snap n<0∨l[n].2.2.2 >(rdL u0g l (r1m l k snap n).toNat).2.2.2)
  ·rw[Al hc]
   obtain⟨c1,c2,c3⟩:=hc
   have c1:l[n].1=k:=y7d.mp c1
   refine⟨fun h=>by omega,fun a e=> ?_⟩
   have e:n=a:=by omega
   subst e
   refine⟨hlt,c1,c2,fun i hi hin hk hs=> ?_⟩
   by_cases q:i=n
   ·subst q;exact Bv _
   ·rcases Int.lt_or_le (r1m l k snap n) 0 with z | z
    ·exact absurd ⟨hk,hs⟩ (h1 z i hi (by omega))
    ·obtain⟨b,hb⟩:∃b:Nat,r1m l k snap n=(b:Int):=⟨(r1m l k snap n).toNat,by omega⟩
     obtain⟨hbl,_,_,g3⟩:=h2 b hb
     rcases c3 with c3 | c3
     ·omega
     ·rw[hb,zTn,y8l (t:=u0g) hbl] at c3
      have h5:=g3 i hi (by omega) hk hs
      have c3:vCs l[n] >vCs l[b] :=c3
      omega
  ·rw[Ao hc]
   have hc' :l[n].1=k→vCs l[n] ≤snap→ ∃b:Nat,r1m l k snap n=(b:Int)∧ ∃h:b<l.length,vCs l[n] ≤vCs l[b] :=fun c1 c2=>by
    rcases Int.lt_or_le (r1m l k snap n) 0 with z | z
    ·exact absurd ⟨y7d.mpr c1,c2, .inl z⟩ hc
    ·obtain⟨b,hb⟩:∃b:Nat,r1m l k snap n=(b:Int):=⟨(r1m l k snap n).toNat,by omega⟩
     obtain⟨hbl,_⟩:=h2 b hb
     refine⟨b,hb,hbl,Hk.mp fun z2=>hc ⟨y7d.mpr c1,c2, .inr ?_⟩⟩
     rw[hb,zTn,y8l (t:=u0g) hbl]
     exact z2
   refine⟨fun h i hi hin=> ?_,fun a e=> ?_⟩
   ·by_cases q:i=n
    ·subst q
     rintro⟨z1,z2⟩
     obtain⟨b,hb,_⟩:=hc' z1 z2
     omega
    ·exact h1 h i hi (by omega)
   ·obtain⟨ha,g1,g2,g3⟩:=h2 a e
    refine⟨ha,g1,g2,fun i hi hin hk hs=> ?_⟩
    by_cases q:i=n
    ·subst q
     obtain⟨b,hb,hbl,g4⟩:=hc' hk hs
     have e:b=a:=by omega
     subst e
     exact g4
    ·exact g3 i hi (by omega) hk hs
theorem q95 (l:Hu u1m) (k v:Hs) (snap:Int) (hu:∀x∈l,∀y∈l,x.1=y.1→vCs x=vCs y→x=y):
 ((t2l l k snap).2=true∧(t2l l k snap).1=v)↔ ∃x∈l,x.1=k∧vCs x≤snap∧x.2.2.1=false∧x.2.1=v∧ ∀y∈l,y.1=k→vCs y≤snap→vCs y≤vCs x:=by
 obtain⟨h1,h2⟩:=r3g l k snap l.length (Au _)
 have hr:=s0f l k snap
 unfold t2l
 rcases Int.lt_or_le (u5j l k snap) 0 with z | z
 ·rw[Al (.inl z)]
  constructor
  ·rintro⟨h,_⟩;cases h
  ·rintro⟨x,hx,q1,q2,_⟩
   obtain⟨i,hi,rfl⟩:=B7 hx
   exact absurd ⟨q1,q2⟩ (h1 z i hi hi)
 ·obtain⟨b,hb⟩:∃b:Nat,u5j l k snap=(b:Int):=⟨(u5j l k snap).toNat,by omega⟩
  obtain⟨hbl,g1,g2,g3⟩:=h2 b hb
  rw[hb,zTn,y8l (t:=u0g) hbl]
  have hmax:∀y∈l,y.1=k→vCs y≤snap→vCs y≤vCs l[b] :=fun y hy q1 q2=>by
   obtain⟨i,hi,rfl⟩:=B7 hy
   exact g3 i hi hi q1 q2
  have hnn: ¬((b:Int)<0):=by omega
  cases hg:l[b].2.2.1 with
  | true=>
   rw[Al (.inr rfl)]
   constructor
   ·rintro⟨h,_⟩;cases h
   ·rintro⟨x,hx,q1,q2,q3,_,q5⟩
    have m1:=hmax x hx q1 q2
    have m2:=q5 l[b] (Ag hbl) g1 g2
    have e:=hu x hx l[b] (Ag hbl) (q1.trans g1.symm) (by omega)
    rw[e,hg] at q3
    cases q3
  | false=>
   rw[Ao (by simp)]
   constructor
   ·rintro⟨_,h⟩
    exact⟨l[b],Ag hbl,g1,g2,hg,h,hmax⟩
   ·rintro⟨x,hx,q1,q2,q3,q4,q5⟩
    have m1:=hmax x hx q1 q2
    have m2:=q5 l[b] (Ag hbl) g1 g2
    have e:=hu x hx l[b] (Ag hbl) (q1.trans g1.symm) (by omega)
    rw[e] at q4
    exact⟨rfl,q4⟩
theorem r6o (l:Hu u1m) (r:PrT) (snap:Int):q86 (u9x l r snap):=by
 unfold q86 u9x
 rw[Dl]
 exact((t1f _).1).filter _
theorem r2m (l:Hu u1m) (r:PrT) (snap:Int) (k v:Hs) (hu:∀x∈l,∀y∈l,x.1=y.1→vCs x=vCs y→x=y):
 (k,v)∈u9x l r snap↔inR r k=true∧ ∃x∈l,x.1=k∧vCs x≤snap∧x.2.2.1=false∧x.2.1=v∧ ∀y∈l,y.1=k→vCs y≤snap→vCs y≤vCs x:=by
 unfold u9x
 simp only[Bx,A6,Ai,Ak]
 constructor
 ·rintro⟨k',⟨_,h2,h3⟩,rfl,h5⟩
  exact⟨h3,(q95 l k' v snap hu).mp ⟨h2,h5⟩⟩
 ·rintro⟨h1,h2⟩
  obtain⟨q1,q2⟩:=(q95 l k v snap hu).mpr h2
  obtain⟨x,hx,e,_⟩:=h2
  exact⟨k,⟨((t1f _).2 k).mpr (Bx.mpr ⟨x,hx,e⟩),q1,h1⟩,rfl,q2⟩
theorem p0a {m:Hu PrT} (h:q86 m) (r:PrT):q86 (r86 m r):=Dz _ h
end
section
theorem twl {E:Type} (p:E→Bool):∀(l:Hu E),(l.takeWhile p).length≤l.length∧(∀(i:Nat) (h:i<l.length),i<(l.takeWhile p).length→p l[i] =true)∧
 (∀(h:(l.takeWhile p).length<l.length),p l[(l.takeWhile p).length] =false)
 | [] =>⟨Au _,fun i h=>absurd h (Ee i),fun h=>absurd h (Ee _)⟩
 | x::l=>by
  obtain⟨h1,h2,h3⟩:=twl p l
  cases hp:p x with
  | false=>
   simp only[F8,hp,Br,Bk,Cc]
   exact⟨Cn _,fun i _ h=>absurd h (Ee i),fun _=>hp⟩
  | true=>
   simp only[F8,hp,Bl,Bc]
   refine⟨by omega,fun i h k=> ?_,fun h=> ?_⟩
   ·cases i with
    | zero=>exact hp
    | succ i=>simpa using h2 i (by simpa using h) (by omega)
   ·simpa using h3 (by omega)
def u10 {E:Type} (p:E→Bool) (l:Hu E):Nat:=(l.takeWhile fun x=> !p x).length
theorem t5y {E:Type} (p:E→Bool) (l:Hu E):u10 p l≤l.length:=(twl _ l).1
theorem s63 {E:Type} {p:E→Bool} {l:Hu E} {i:Nat} (h:i<l.length) (hi:i<u10 p l):p l[i] =false:=by
 have:=(twl (fun x=> !p x) l).2.1 i h hi
 simpa using this
theorem t2u {E:Type} {p:E→Bool} {l:Hu E} (h:u10 p l<l.length):p l[u10 p l] =true:=by
 unfold u10 at h ⊢
 have:=(twl (fun x=> !p x) l).2.2 h
 simpa using this
end
section
def q15 (x y:u0f):Bool:=decide (x.2.1=3)&&decide (x.2.2.2.1≤y.2.2.1)
def r7c (a b:u0f):Bool:= !decide (a.1=b.1)&&(!q15 a b&& !q15 b a)
def ahead (a b:u0f):Bool:=r7c a b&&r37 a.2.2.2.2.1 b.2.2.2.2.2.1
def s7h (t:u0f) (l:Hu u0f):Bool:=l.any fun x=>decide (x.2.1=3)&&ahead t x
theorem q7s (a b:u0f):s1j (a,b)=some (r7c a b):=by
 rw[q29];unfold r0o r7c q15
 by_cases h1:a.1=b.1
 ·simp[h1]
 ·by_cases h2:a.2.1=3<;>by_cases h3:a.2.2.2.1≤b.2.2.1<;>by_cases h4:b.2.1=3<;>by_cases h5:b.2.2.2.1≤a.2.2.1<;>simp[h1,h2,h3,h4,h5]
theorem u8o (a b:u0f) (ha:a.2.2.2.2.1.length≤u0y) (hb:b.2.2.2.2.2.1.length≤u0y):u1v (a,b)=some (ahead a b):=by
 rw[q5u];unfold r4i ahead
 have h1:=q7s a b
 have h2:=q5f _ _ ha hb
 simp only[h2,zOb]
 rw[h1]
 cases r7c a b<;>rfl
end
section
def r3u (t:u0f):Prop:=t.2.2.2.2.1.length≤1048576∧t.2.2.2.2.2.1.length≤1048576
def p00 (l:Hu u0f):Prop:=l.length≤4194304∧ ∀t∈l,r3u t
theorem t9w {n:Nat} (h:n≤1048576):n≤u0y:=by unfold u0y;omega
theorem r3d (t:u0f) (l:Hu u0f) (ht:r3u t) (hl:p00 l):t4c (t,l)=some (s7h t l):=by
 obtain⟨l1,l2⟩:=hl
 have L:=s9w t3e l (fun i=>(l,t,i)) (fun x=>decide (x.2.1=3)&&ahead t x) (.inr true) (.inl ())
  (by rw[s9n];simp only[t29,u0b,Am,Ah,Aa])
  (fun i hi=>by
   have h1:=u8o t l[i] (t9w ht.1) (t9w (l2 _ (Ag hi)).2)
   rw[s9n]
   simp only[t29,u0b,hi,Ae,Ad,y7s hi,zTn,y8l (t:=u1f) hi,h1,zOb]
   rw[y7j (by omega)]
   cases decide (l[i].2.1=3)<;>cases ahead t l[i] <;>rfl)
 rw[q51];unfold r4p s7h
 simp only[L,zOb]
 cases l.any fun x=>decide (x.2.1=3)&&ahead t x<;>rfl
theorem u59 (t:u0f) (h:r3u t):u0t t=some t:=by
 rw[t8z];unfold t3g
 simp only[Cc,Co,Cf,u07 (show t.2.2.2.2.1.length≤1099511627776 by have:=h.1;omega),u07 (show t.2.2.2.2.2.1.length≤1099511627776 by have:=h.2;omega),Ad]
theorem s9s (l:Hu u0f) (h:p00 l):u9u l=some l:=by
 have L:=t7f t0t l (fun a i=>(l,a,i)) (fun _=>true) (fun x=>x) (fun a=> .inl a) (by have:=h.1;omega)
  (fun a _=>by rw[s4e];simp only[t0j,u0b,Am,Ah,Aa])
  (fun i hi a ha=>by
   have h1:=u59 l[i] (h.2 _ (Ag hi))
   have:=h.1
   rw[s4e]
   simp only[t0j,u0b,hi,Ae,Ad,y7s hi,zTn,y8l (t:=u1f) hi,h1,zOb,Aw,u07 (show a.length+1≤1099511627776 by omega)]
   rw[y7j (by omega)])
 rw[q0r];unfold s8t
 simp only[L,zOb]
 simp
abbrev u0k:=Hu u1m×Hu u0f×Hu u0f×Int×Int
def fewB (b:u0k):Prop:=b.1.length≤4194304∧p00 b.2.1∧p00 b.2.2.1
theorem t09 (b:u0k) (h:fewB b):u1o b=some b:=by
 have h1:=s9s b.2.1 h.2.1
 have h2:=s9s b.2.2.1 h.2.2
 rw[q0q];unfold s8s
 simp only[Cc,Co,Cf,u07 (show b.1.length≤1099511627776 by have:=h.1;omega),Ad,h1,h2,zOb]
end
section
def t5e (b:u0k) (open_:Hu u0f):Int:=open_.foldl (fun m t=>if t.2.2.1<m then t.2.2.1 else m) b.2.2.2.1
theorem q7u (b:u0k) (o:Hu u0f) (h:o.length≤4194304):t6u (b,o)=some (t5e b o):=by
 have L:=t40 u85 o (fun a i=>(o,a,i)) (fun(m:Int) t=>if t.2.2.1<m then t.2.2.1 else m) (fun a=> .inl a) (fun _ _=>True)
  (fun a _=>by rw[s0q];simp only[u8r,u0b,Am,Ah,Aa])
  (fun i hi a _=>by
   refine⟨trivial,?_⟩
   rw[s0q]
   simp only[u8r,u0b,hi,Ae,Ad,y7s hi,zTn,y8l (t:=u1f) hi]
   rw[y7j (by omega)]
   by_cases hc:o[i].2.2.1<a
   ·simp only[hc,Ae,Ad,Bl]
   ·simp only[hc,Ah,Aa,Bk]) b.2.2.2.1 trivial
 rw[r7m];unfold s4w
 simp only[L,zOb]
 rfl
def u0n (b:u0k) (n:Hs):Int:=if u10 (fun x:u0f=>z7l x.2.2.2.2.2.2.2 n) b.2.2.1<b.2.2.1.length then((u10 (fun x:u0f=>z7l x.2.2.2.2.2.2.2 n) b.2.2.1:Nat):Int) else -1
theorem t1b (b:u0k) (n:Hs) (h:b.2.2.1.length≤4194304):u1c (b,n)=some (u0n b n):=by
 have L:=r65 u6l (u10 (fun x:u0f=>z7l x.2.2.2.2.2.2.2 n) b.2.2.1) (fun(_:Unit) i=>(n,b,i)) (fun _ _=>if u10 (fun x:u0f=>z7l x.2.2.2.2.2.2.2 n) b.2.2.1<b.2.2.1.length then .inr ((u10 (fun x:u0f=>z7l x.2.2.2.2.2.2.2 n) b.2.2.1:Nat):Int) else .inl ()) (fun _ _=>True)
  (fun a _=>by
   have hle:=t5y (fun x:u0f=>z7l x.2.2.2.2.2.2.2 n) b.2.2.1
   rw[s35]
   by_cases hk:u10 (fun x:u0f=>z7l x.2.2.2.2.2.2.2 n) b.2.2.1<b.2.2.1.length
   ·have hy:=t2u hk
    simp only[u6b,u0b,hk,Ae,Ad,y7s hk,zTn,y8l (t:=u1f) hk,hy,Bl]
   ·simp only[u6b,u0b,hk,Ah,Aa,Bk])
  (fun i a hi _=> .inr ⟨(),trivial,rfl,by
   have hle:=t5y (fun x:u0f=>z7l x.2.2.2.2.2.2.2 n) b.2.2.1
   have hil:i<b.2.2.1.length:=by omega
   have hn:=s63 hil hi
   rw[s35]
   simp only[u6b,u0b,hil,Ae,Ad,y7s hil,zTn,y8l (t:=u1f) hil,hn,Aa]
   rw[y7j (by omega)]⟩) 0 () (Cn _) trivial
 have L:u6l (n,b,0)=_:=L
 rw[r98];unfold s79 u0n
 simp only[L,zOb]
 by_cases hk:u10 (fun x:u0f=>z7l x.2.2.2.2.2.2.2 n) b.2.2.1<b.2.2.1.length
 ·simp only[Al hk]
 ·simp only[Ao hk]
end
section
def q4b (l:Hu u1m) (snap:Int) (i:Nat):Bool:=decide ((rdL u0g l i).2.2.2 >snap) || decide (u5j l (rdL u0g l i).1 snap=(i:Int))
def trA (l:Hu u1m) (snap:Int):Nat→Hu u1m
 | 0=> []
 | n+1=>if q4b l snap n=true then trA l snap n++ [rdL u0g l n] else trA l snap n
theorem q4o (l:Hu u1m) (snap:Int):∀n,(trA l snap n).length≤n
 | 0=>Au _
 | n+1=>by
  have:=q4o l snap n
  simp only[trA]
  split
  ·simp;omega
  ·omega
def p67 (l:Hu u1m) (k:Hs):Nat:=(l.filter fun v=>z7l v.1 k).length
def p5g (l:Hu u1m) (snap:Int) (v:u1m):Bool:= !v.2.2.1 || (decide (v.2.2.2 >snap) || decide ((p67 l v.1:Int) >1))
def u1r (l:Hu u1m) (snap:Int):Hu u1m:=(trA l snap l.length).filter (p5g (trA l snap l.length) snap)
theorem p1s (l:Hu u1m) (snap:Int) (hl:l.length≤8388608):u6n (l,snap, [],0)=some (.inl (snap,trA l snap l.length)):=
 r64 u6n l.length (fun a i=>(l,snap,a,i)) (fun i=>trA l snap i) (.inl (snap,trA l snap l.length))
  (by rw[s39];simp only[t0e,u0b,Am,Ah,Aa])
  (fun i hi=>by
   have hL:=r8h l (rdL u0g l i).1 snap (by omega)
   have hn:=q4o l snap i
   rw[s39]
   simp only[t0e,u0b,hi,Ae,Ad,y7s hi,zTn,hL,zOb,Aw,u07 (show(trA l snap i).length+1≤1099511627776 by omega)]
   rw[y7j (by omega)]
   simp only[trA,q4b]
   by_cases h1:(rdL u0g l i).2.2.2 >snap
   ·simp[h1]
   ·by_cases h2:u5j l (rdL u0g l i).1 snap=(i:Int)<;>simp[h1,h2])
end
section
theorem q5n (k:Hs):∀(l:Hu u1m) (a:Nat),l.foldl (fun(a:Nat) v=>if z7l v.1 k=true then a+1 else a) a=a+p67 l k
 | [],a=>by simp[p67]
 | x::l,a=>by
  rw[Bs,q5n k l]
  unfold p67
  cases hc:z7l x.1 k with
  | true=>simp[Di,hc];omega
  | false=>simp[Di,hc]
theorem p1t (s out:Hu u1m) (snap:Int) (i:Nat) (hi:i<s.length) (hl:s.length≤8388608):
 u5c (snap,s,out,(i:Int),0,0)=some (.inl (snap,s,out,(i:Int),(p67 s s[i].1:Int))):=by
 have L:=t40 u5c s (fun(a:Nat) j=>(snap,s,out,(i:Int),(a:Int),j)) (fun(a:Nat) v=>if z7l v.1 s[i].1=true then a+1 else a) (fun a=> .inl (snap,s,out,(i:Int),(a:Int))) (fun j a=>a≤j)
  (fun a _=>by rw[s0y];simp only[u80,u0b,Am,Ah,Aa])
  (fun j hj a ha=>by
   rw[s0y]
   simp only[u80,u0b,hj,Ae,Ad,y7s hj,y7s hi,zTn,y8l (t:=u0g) hj,y8l (t:=u0g) hi]
   rw[y7j (i:=j) (by omega),y7j (i:=a) (by omega)]
   cases z7l s[j].1 s[i].1 with
   | true=>simp only[Ad,Bl];exact⟨by omega,trivial⟩
   | false=>simp only[Aa,Br,Bk];exact⟨by omega,trivial⟩) 0 (Cn _)
 rw[q5n,Co] at L
 exact L
theorem q5g (l:Hu u1m) (snap:Int) (hl:l.length≤8388608):t9a (l,snap)=some (u1r l snap):=by
 have hs:(trA l snap l.length).length≤8388608:=A9 (q4o _ _ _) hl
 obtain⟨s,hse⟩:∃s,s=trA l snap l.length:=⟨_,rfl⟩
 rw[←hse] at hs
 have L:=t7f u88 s (fun a i=>(snap,s,a,i)) (p5g s snap) (fun v=>v) (fun a=> .inl a) (by omega)
  (fun a _=>by rw[s0x];simp only[u8z,u0b,Am,Ah,Aa])
  (fun i hi a ha=>by
   rw[s0x]
   simp only[u8z,u0b,hi,Ae,Ad,p1t s a snap i hi hs,zOb,y7s hi,zTn,y8l (t:=u0g) hi,Aw,u07 (show a.length+1≤1099511627776 by omega)]
   rw[y7j (by omega)]
   unfold p5g
   cases h1:s[i].2.2.1 with
   | false=>simp
   | true=>
    by_cases h2:s[i].2.2.2 >snap
    ·simp[h2]
    ·by_cases h3:(p67 s s[i].1:Int) >1<;>simp[h2,h3])
 rw[Er] at L
 have hA:=p1s l snap hl
 rw[←hse] at hA
 rw[q0c];unfold s8d u1r
 rw[←hse]
 simp only[hA,L,zOb]
theorem q8w (l:Hu u1m) (snap:Int):(u1r l snap).length≤l.length:=A9 (Cs _ _) (q4o _ _ _)
end
section
theorem p3z {E:Type} {r:E→E→Prop} (hi:∀x,¬r x x) (ha:∀x y,r x y→ ¬r y x):∀ {l m:Hu E},l.Pairwise r→m.Pairwise r→(∀x,x∈l↔x∈m)→l=m
 | [], [],_,_,_=>rfl
 | [],y::m,_,_,h=>by have:=(h y).mpr (by simp);simp at this
 | x::l, [],_,_,h=>by have:=(h x).mp (by simp);simp at this
 | x::l,y::m,hl,hm,h=>by
  have hl' :=Ch.mp hl
  have hm' :=Ch.mp hm
  have hxy:x=y:=by
   rcases A8.mp ((h x).mp (by simp)) with e | e
   ·exact e
   ·rcases A8.mp ((h y).mpr (by simp)) with e' | e'
    ·exact e'.symm
    ·exact absurd (hm'.1 x e) (ha _ _ (hl'.1 y e'))
  subst hxy
  congr 1
  refine p3z hi ha hl'.2 hm'.2 fun z=> ?_
  constructor
  ·intro hz
   rcases A8.mp ((h z).mp (by simp[hz])) with e | e
   ·subst e;exact absurd (hl'.1 z hz) (hi z)
   ·exact e
  ·intro hz
   rcases A8.mp ((h z).mpr (by simp[hz])) with e | e
   ·subst e;exact absurd (hm'.1 z hz) (hi z)
   ·exact e
def vLt (a b:u1m):Prop:=y2y a.1 b.1=true∨(a.1=b.1∧vCs a<vCs b)
def VAsc (l:Hu u1m):Prop:=l.Pairwise vLt
theorem q8x (a:u1m): ¬vLt a a:=fun h=>by
 rcases h with h | h
 ·rw[u58] at h;cases h
 ·omega
theorem p6l (a b:u1m) (h:vLt a b): ¬vLt b a:=fun k=>by
 rcases h with h | ⟨h,h'⟩<;>rcases k with k | ⟨k,k'⟩
 ·rw[s1u h] at k;cases k
 ·rw[k,u58] at h;cases h
 ·rw[h,u58] at k;cases k
 ·omega
theorem p81 (a b:u1m) (h: ¬(a.1=b.1∧vCs a=vCs b)):vLt a b∨vLt b a:=by
 rcases r0a a.1 b.1 with c | c | c
 ·exact .inl (.inl c)
 ·rcases Int.lt_trichotomy (vCs a) (vCs b) with d | d | d
  ·exact .inl (.inr ⟨c,d⟩)
  ·exact absurd ⟨c,d⟩ h
  ·exact .inr (.inr ⟨c.symm,d⟩)
 ·exact .inr (.inl c)
theorem VAsc.ext {l m:Hu u1m} (h:VAsc l) (k:VAsc m) (e:∀x,x∈l↔x∈m):l=m:=p3z q8x p6l h k e
theorem VAsc.uni:∀ {l:Hu u1m},VAsc l→ ∀x∈l,∀y∈l,x.1=y.1→vCs x=vCs y→x=y
 | [],_,x,hx=>by cases hx
 | z::l,h,x,hx=>fun y hy e1 e2=>by
  have h' :=Ch.mp h
  have no:∀a b:u1m,a.1=b.1→vCs a=vCs b→ ¬vLt a b:=fun a b e1 e2 k=>by
   rcases k with k | k
   ·rw[e1,u58] at k;cases k
   ·omega
  rcases A8.mp hx with rfl | hx' <;>rcases A8.mp hy with rfl | hy'
  ·rfl
  ·exact absurd (h'.1 y hy') (no _ _ e1 e2)
  ·exact absurd (h'.1 x hx') (no _ _ e1.symm e2.symm)
  ·exact VAsc.uni h'.2 x hx' y hy' e1 e2
def p5h (l:Hu u1m) (s:Int) (x:u1m):Prop:=vCs x≤s∧ ∀y∈l,y.1=x.1→vCs y≤s→vCs y≤vCs x
theorem q11 {l:Hu u1m} (hA:VAsc l) {s:Int} {i:Nat} (h:i<l.length):u5j l l[i].1 s=(i:Int)↔p5h l s l[i] :=by
 obtain⟨h1,h2⟩:=r3g l l[i].1 s l.length (Au _)
 constructor
 ·intro e
  obtain⟨_,g1,g2,g3⟩:=h2 i e
  refine⟨g2,fun y hy e1 e2=> ?_⟩
  obtain⟨j,hj,rfl⟩:=B7 hy
  exact g3 j hj hj e1 e2
 ·rintro⟨g2,g3⟩
  have hr:=s0f l l[i].1 s
  rcases Int.lt_or_le (u5j l l[i].1 s) 0 with z | z
  ·exact absurd ⟨rfl,g2⟩ (h1 z i h h)
  ·obtain⟨b,hb⟩:∃b:Nat,u5j l l[i].1 s=(b:Int):=⟨(u5j l l[i].1 s).toNat,by omega⟩
   obtain⟨hbl,k1,k2,k3⟩:=h2 b hb
   have m1:=g3 l[b] (Ag hbl) k1 k2
   have m2:=k3 i h h rfl g2
   have e:=VAsc.uni hA l[b] (Ag hbl) l[i] (Ag h) k1 (by omega)
   have hp:l.Nodup:=hA.imp fun h e=>by subst e;exact q8x _ h
   have:b=i:=(List.getElem_inj hp).mp e
   rw[hb,this]
theorem q8v (l:Hu u1m) (s:Int):∀n,n≤l.length→(trA l s n).Sublist (l.take n)
 | 0,_=>by simp[trA]
 | n+1,h=>by
  have ih:=q8v l s n (by omega)
  have hn:n<l.length:=by omega
  rw[B9 hn]
  simp only[trA]
  split
  ·rw[y8l (t:=u0g) hn]
   exact ih.append (Dm _)
  ·exact ih.trans (List.sublist_append_left _ _)
theorem u35 (l:Hu u1m) (s:Int):(u1r l s).Sublist l:=by
 have h:=q8v l s l.length (Au _)
 rw[Cq] at h
 exact Fg.trans h
theorem t08 {l:Hu u1m} (h:VAsc l) (s:Int):VAsc (u1r l s):=h.sublist (u35 l s)
theorem q6m {l:Hu u1m} {s:Int} {x:u1m} :∀n,n≤l.length→(x∈trA l s n↔ ∃(i:Nat) (h:i<l.length),i<n∧l[i] =x∧q4b l s i=true)
 | 0,_=>by simp[trA]
 | n+1,h=>by
  have ih:=q6m (x:=x) (s:=s) n (Nat.le_of_succ_le h)
  have hn:n<l.length:=by omega
  have split:(∃(i:Nat) (h:i<l.length),i<n+1∧l[i] =x∧q4b l s i=true)↔(∃(i:Nat) (h:i<l.length),i<n∧l[i] =x∧q4b l s i=true)∨(l[n] =x∧q4b l s n=true):=by
   constructor
   ·rintro⟨i,hi,h1,h2⟩
    by_cases e:i=n
    ·subst e;exact .inr h2
    ·exact .inl ⟨i,hi,by omega,h2⟩
   ·rintro(⟨i,hi,h1,h2⟩ | h2)
    ·exact⟨i,hi,by omega,h2⟩
    ·exact⟨n,hn,by omega,h2⟩
  rw[split,←ih]
  simp only[trA]
  by_cases c:q4b l s n=true
  ·rw[Al c,y8l (t:=u0g) hn,Ay,Ax]
   simp only[c,and_true]
   exact or_congr Hp eq_comm
  ·rw[Ao c]
   simp[c]
theorem q4e {l:Hu u1m} (hA:VAsc l) {s:Int} {x:u1m} :x∈trA l s l.length↔x∈l∧(vCs x >s∨p5h l s x):=by
 rw[q6m _ (Au _)]
 constructor
 ·rintro⟨i,hi,_,rfl,k⟩
  refine⟨Ag hi,?_⟩
  unfold q4b at k
  rw[y8l (t:=u0g) hi,Cr,Ar,Ar] at k
  rcases k with k | k
  ·exact .inl k
  ·exact .inr ((q11 hA hi).mp k)
 ·rintro⟨hx,k⟩
  obtain⟨i,hi,rfl⟩:=B7 hx
  refine⟨i,hi,hi,rfl,?_⟩
  unfold q4b
  rw[y8l (t:=u0g) hi,Cr,Ar,Ar]
  rcases k with k | k
  ·exact .inl k
  ·exact .inr ((q11 hA hi).mpr k)
theorem p1v {E:Type} :∀ {l:Hu E},l.Nodup→1<l.length→ ∀x,∃y∈l,y≠x
 | [],_,h,_=>by simp at h
 | [_],_,h,_=>by simp at h
 | a::b::l,hn,_,x=>by
  by_cases e:a=x
  ·subst e
   refine⟨b,by simp,fun e=> ?_⟩
   subst e
   simp at hn
  ·exact⟨a,by simp,e⟩
theorem p1a {E:Type} {l:Hu E} {x y:E} (hx:x∈l) (hy:y∈l) (h:x≠y):1<l.length:=by
 match l,hx,hy with
 | [a],hx,hy=>rw[Ax] at hx hy;exact absurd (hx.trans hy.symm) h
 | a::b::l,_,_=>simp
theorem u2o {l:Hu u1m} (hA:VAsc l) {s:Int} {x:u1m} :x∈u1r l s↔x∈l∧(vCs x >s∨(p5h l s x∧(x.2.2.1=false∨ ∃y∈l,y.1=x.1∧vCs y >s))):=by
 unfold u1r
 rw[A6,q4e hA]
 unfold p5g
 rw[Cr,Cr,Ar,Ar,Bj]
 have hs:VAsc (trA l s l.length):=by
  have h:=q8v l s l.length (Au _)
  rw[Cq] at h
  exact hA.sublist h
 constructor
 ·rintro⟨⟨hx,h1⟩,h2⟩
  refine⟨hx,?_⟩
  by_cases c:vCs x >s
  ·exact .inl c
  ·rcases h1 with h1 | h1
   ·exact absurd h1 c
   ·refine .inr ⟨h1,?_⟩
    rcases h2 with h2 | h2 | h2
    ·exact .inl h2
    ·exact absurd h2 c
    ·have hn:((trA l s l.length).filter fun v=>z7l v.1 x.1).Nodup:=(hs.filter _).imp fun h e=>by subst e;exact q8x _ h
     have hl:1<((trA l s l.length).filter fun v=>z7l v.1 x.1).length:=by unfold p67 at h2;omega
     obtain⟨y,hy,hne⟩:=p1v hn hl x
     rw[A6,q4e hA] at hy
     obtain⟨⟨hyl,hy1⟩,hy2⟩:=hy
     have hk:=y7d.mp hy2
     refine .inr ⟨y,hyl,hk,?_⟩
     rcases hy1 with hy1 | hy1
     ·exact hy1
     ·have a1:=h1.2 y hyl hk hy1.1
      have a2:=hy1.2 x hx hk.symm h1.1
      exact absurd (VAsc.uni hA y hyl x hx hk (by omega)) hne
 ·rintro⟨hx,h1⟩
  rcases h1 with h1 | ⟨h1,h2⟩
  ·exact⟨⟨hx, .inl h1⟩, .inr (.inl h1)⟩
  ·refine⟨⟨hx, .inr h1⟩,?_⟩
   rcases h2 with h2 | ⟨y,hy,hk,hc⟩
   ·exact .inl h2
   ·refine .inr (.inr ?_)
    have m1:x∈(trA l s l.length).filter fun v=>z7l v.1 x.1:=by rw[A6,q4e hA];exact⟨⟨hx, .inr h1⟩,y7d.mpr rfl⟩
    have m2:y∈(trA l s l.length).filter fun v=>z7l v.1 x.1:=by rw[A6,q4e hA];exact⟨⟨hy, .inl hc⟩,y7d.mpr hk⟩
    have:=p1a m1 m2 (fun e=>by have:=h1.1;subst e;omega)
    unfold p67
    omega
theorem p3f {s:Int} {k:Hs} :∀(l:Hu u1m),(∃y∈l,y.1=k∧vCs y≤s)→ ∃x∈l,x.1=k∧vCs x≤s∧ ∀y∈l,y.1=k→vCs y≤s→vCs y≤vCs x
 | [],h=>by obtain⟨y,hy,_⟩:=h;cases hy
 | z::l,h=>by
  by_cases hl:∃y∈l,y.1=k∧vCs y≤s
  ·obtain⟨x,hx,h1,h2,h3⟩:=p3f l hl
   by_cases hz:z.1=k∧vCs z≤s∧vCs x<vCs z
   ·refine⟨z,by simp,hz.1,hz.2.1,fun y hy e1 e2=> ?_⟩
    rcases A8.mp hy with rfl | hy
    ·exact Bv _
    ·have:=h3 y hy e1 e2;omega
   ·refine⟨x,by simp[hx],h1,h2,fun y hy e1 e2=> ?_⟩
    rcases A8.mp hy with rfl | hy
    ·exact Hk.mp fun q=>hz ⟨e1,e2,q⟩
    ·exact h3 y hy e1 e2
  ·obtain⟨y,hy,h1,h2⟩:=h
   have hyz:y=z:=by
    rcases A8.mp hy with e | e
    ·exact e
    ·exact absurd ⟨y,e,h1,h2⟩ hl
   subst hyz
   refine⟨y,by simp,h1,h2,fun w hw e1 e2=> ?_⟩
   rcases A8.mp hw with rfl | hw
   ·exact Bv _
   ·exact absurd ⟨w,hw,e1,e2⟩ hl
theorem r2w {l:Hu u1m} (hA:VAsc l) {a b:Int} (hab:a≤b):u1r (u1r l a) b=u1r l b:=by
 have hT:=t08 hA a
 refine(t08 hT b).ext (t08 hA b) fun x=> ?_
 refine Iff.trans (u2o hT) (Iff.trans ?_ (u2o hA).symm)
 have hsub:∀y,y∈u1r l a→y∈l:=fun y hy=>(u35 l a).subset hy
 have hup:∀y,y∈l→vCs y >a→y∈u1r l a:=fun y hy h=>(u2o hA).mpr ⟨hy, .inl h⟩
 constructor
 ·rintro⟨hx,h⟩
  have hxl:=hsub x hx
  refine⟨hxl,?_⟩
  rcases h with h | ⟨h1,h2⟩
  ·exact .inl h
  ·right
   have hL:p5h l b x:=by
    refine⟨h1.1,fun y hy e1 e2=> ?_⟩
    by_cases c:vCs y >a
    ·exact h1.2 y (hup y hy c) e1 e2
    ·by_cases c2:vCs x >a
     ·omega
     ·rcases(u2o hA).mp hx with ⟨_,h3 | ⟨h3,_⟩⟩
      ·exact absurd h3 c2
      ·exact h3.2 y hy e1 (by omega)
   refine⟨hL,?_⟩
   rcases h2 with h2 | ⟨y,hy,e1,e2⟩
   ·exact .inl h2
   ·exact .inr ⟨y,hsub y hy,e1,e2⟩
 ·rintro⟨hxl,h⟩
  rcases h with h | ⟨h1,h2⟩
  ·exact⟨hup x hxl (by omega), .inl h⟩
  ·have hx:x∈u1r l a:=by
    by_cases c:vCs x >a
    ·exact hup x hxl c
    ·refine(u2o hA).mpr ⟨hxl, .inr ⟨⟨by omega,fun y hy e1 e2=>h1.2 y hy e1 (by omega)⟩,?_⟩⟩
     rcases h2 with h2 | ⟨y,hy,e1,e2⟩
     ·exact .inl h2
     ·exact .inr ⟨y,hy,e1,by omega⟩
   refine⟨hx, .inr ⟨⟨h1.1,fun y hy=>h1.2 y (hsub y hy)⟩,?_⟩⟩
   rcases h2 with h2 | ⟨y,hy,e1,e2⟩
   ·exact .inl h2
   ·exact .inr ⟨y,hup y hy (by omega),e1,e2⟩
theorem r43 {l:Hu u1m} (hA:VAsc l) {s:Int} (hs:∀x∈l,vCs x≤s) {x:u1m} :x∈u1r l s↔x∈l∧x.2.2.1=false∧ ∀y∈l,y.1=x.1→vCs y≤vCs x:=by
 rw[u2o hA]
 constructor
 ·rintro⟨hx,h⟩
  refine⟨hx,?_⟩
  rcases h with h | ⟨h1,h2 | ⟨y,hy,_,h2⟩⟩
  ·have:=hs x hx;omega
  ·exact⟨h2,fun y hy e=>h1.2 y hy e (hs y hy)⟩
  ·have:=hs y hy;omega
 ·rintro⟨hx,h1,h2⟩
  exact⟨hx, .inr ⟨⟨hs x hx,fun y hy e _=>h2 y hy e⟩, .inl h1⟩⟩
theorem r3w {l:Hu u1m} (hA:VAsc l) {a:Int} {x:u1m} :(x∈u1r l a∧x.2.2.1=false∧ ∀y∈u1r l a,y.1=x.1→vCs y≤vCs x)↔(x∈l∧x.2.2.1=false∧ ∀y∈l,y.1=x.1→vCs y≤vCs x):=by
 constructor
 ·rintro⟨hx,h1,h2⟩
  have hxl:=(u35 l a).subset hx
  refine⟨hxl,h1,fun y hy e=> ?_⟩
  by_cases c:vCs y >a
  ·exact h2 y ((u2o hA).mpr ⟨hy, .inl c⟩) e
  ·rcases(u2o hA).mp hx with ⟨_,h3 | ⟨h3,_⟩⟩
   ·omega
   ·exact h3.2 y hy e (by omega)
 ·rintro⟨hx,h1,h2⟩
  refine⟨(u2o hA).mpr ⟨hx,?_⟩,h1,fun y hy=>h2 y ((u35 l a).subset hy)⟩
  by_cases c:vCs x >a
  ·exact .inl c
  ·exact .inr ⟨⟨by omega,fun y hy e _=>h2 y hy e⟩, .inl h1⟩
theorem p5w {l:Hu u1m} (hA:VAsc l) {v:u1m} (hn:∀x∈l,¬(x.1=v.1∧vCs x=vCs v)):VAsc (p3w l v):=by
 have le_iff:∀x:u1m,t2o v x=true↔(vLt x v∨(x.1=v.1∧vCs x=vCs v)):=fun x=>by
  unfold t2o vLt
  rw[Cr,Ai,Ar]
  constructor
  ·rintro(h | ⟨h1,h2⟩)
   ·exact .inl (.inl h)
   ·have h1:=y7d.mp h1
    have h2:vCs x≤vCs v:=h2
    rcases Int.lt_or_eq_of_le h2 with h2 | h2
    ·exact .inl (.inr ⟨h1,h2⟩)
    ·exact .inr ⟨h1,h2⟩
  ·rintro((h | ⟨h1,h2⟩) | ⟨h1,h2⟩)
   ·exact .inl h
   ·exact .inr ⟨y7d.mpr h1,Int.le_of_lt h2⟩
   ·exact .inr ⟨y7d.mpr h1,Int.le_of_eq h2⟩
 have tr:∀ {a b c:u1m},vLt a b→vLt b c→vLt a c:=fun {a b c} h k=>by
  rcases h with h | ⟨h,h'⟩<;>rcases k with k | ⟨k,k'⟩
  ·exact .inl (s9i h k)
  ·exact .inl (k ▸ h)
  ·exact .inl (h ▸ k)
  ·exact .inr ⟨h.trans k,by omega⟩
 unfold p3w VAsc
 have hsplit:l.takeWhile (t2o v)++l.dropWhile (t2o v)=l:=Fe
 have hA' :(l.takeWhile (t2o v)++l.dropWhile (t2o v)).Pairwise vLt:=by rw[hsplit];exact hA
 obtain⟨p1,p2,p3⟩:=Cg.mp hA'
 have lo:∀x∈l.takeWhile (t2o v),vLt x v:=fun x hx=>by
  have h1:t2o v x=true:=by
   have:=List.all_takeWhile (p:=t2o v) (l:=l)
   exact Bg.mp this x hx
  have h2:x∈l:=(List.takeWhile_sublist _).subset hx
  rcases(le_iff x).mp h1 with h | h
  ·exact h
  ·exact absurd h (hn x h2)
 have hi:∀x∈l.dropWhile (t2o v),vLt v x:=by
  intro x hx
  match hd:l.dropWhile (t2o v),hx,p2 with
  | [],hx,_=>cases hx
  | y::r,hx,p2=>
   have hy:t2o v y=false:=by
    have:=List.head?_dropWhile_not (t2o v) l
    rw[hd] at this
    simpa using this
   have hyl:y∈l:=(List.dropWhile_sublist (p:=t2o v)).subset (by rw[hd];simp)
   have hvy:vLt v y:=by
    rcases p81 y v (hn y hyl) with h | h
    ·rw[(le_iff y).mpr (.inl h)] at hy;cases hy
    ·exact h
   rcases A8.mp hx with rfl | hx
   ·exact hvy
   ·exact tr hvy ((Ch.mp p2).1 x hx)
 rw[Bi,Cg]
 refine⟨p1,?_,?_⟩
 ·rw[Fs,Ch]
  exact⟨hi,p2⟩
 ·intro x hx y hy
  rcases Ay.mp hy with hy | hy
  ·rw[Ax] at hy;subst hy;exact lo x hx
  ·exact p3 x hx y hy
theorem s6b {cs:Int} :∀(ws:Hu u2u.den) {l:Hu u1m},VAsc l→KD ws→(∀x∈l,∀w∈ws,¬(x.1=w.1∧vCs x=cs))→VAsc (t05 l ws cs)
 | [],l,h,_,_=>h
 | w::ws,l,h,hk,hn=>by
  have hk' :=Ch.mp hk
  have e:t05 l (w::ws) cs=t05 (p3w l (w.1,w.2.1,w.2.2,cs)) ws cs:=rfl
  rw[e]
  refine s6b ws (p5w h fun x hx=>hn x hx w (by simp)) hk'.2 fun x hx z hz=> ?_
  rcases p5n.mp hx with rfl | hx
  ·exact fun q=>hk'.1 z hz q.1
  ·exact hn x hx z (by simp[hz])
theorem p6j {l:Hu u1m} (hA:VAsc l) {ws:Hu u2u.den} (hk:KD ws) {a c:Int} (hl:∀x∈l,vCs x<c):
 u1r (t05 (u1r l a) ws c) c=u1r (t05 l ws c) c:=by
 have hT:=t08 hA a
 have hlT:∀x∈u1r l a,vCs x<c:=fun x hx=>hl x ((u35 l a).subset hx)
 have P1:VAsc (t05 (u1r l a) ws c):=s6b ws hT hk fun x hx w _ q=>by have:=hlT x hx;omega
 have P2:VAsc (t05 l ws c):=s6b ws hA hk fun x hx w _ q=>by have:=hl x hx;omega
 have t1:∀x∈t05 (u1r l a) ws c,vCs x≤c:=fun x hx=>by
  rcases(u2w ws _ c).mp hx with h | ⟨w,_,rfl⟩
  ·have:=hlT x h;omega
  ·exact Bv _
 have t2:∀x∈t05 l ws c,vCs x≤c:=fun x hx=>by
  rcases(u2w ws _ c).mp hx with h | ⟨w,_,rfl⟩
  ·have:=hl x h;omega
  ·exact Bv _
 have key:∀(m:Hu u1m),(∀x∈m,vCs x<c)→ ∀x,(x∈t05 m ws c∧x.2.2.1=false∧ ∀y∈t05 m ws c,y.1=x.1→vCs y≤vCs x)↔
  ((∃w∈ws,x=(w.1,w.2.1,w.2.2,c))∧x.2.2.1=false)∨((∀w∈ws,w.1≠x.1)∧x∈m∧x.2.2.1=false∧ ∀y∈m,y.1=x.1→vCs y≤vCs x):=by
  intro m hm x
  have mp:=fun y=>u2w (x:=y) ws m c
  constructor
  ·rintro⟨h1,h2,h3⟩
   rcases(mp x).mp h1 with h | h
   ·refine .inr ⟨fun w hw e=> ?_,h,h2,fun y hy e=>h3 y ((mp y).mpr (.inl hy)) e⟩
    have q:c≤vCs x:=h3 (w.1,w.2.1,w.2.2,c) ((mp _).mpr (.inr ⟨w,hw,rfl⟩)) e
    have:=hm x h
    omega
   ·exact .inl ⟨h,h2⟩
  ·rintro(⟨h1,h2⟩ | ⟨h1,h2,h3,h4⟩)
   ·refine⟨(mp x).mpr (.inr h1),h2,fun y hy _=> ?_⟩
    obtain⟨w,hw,rfl⟩:=h1
    show vCs y≤c
    rcases(mp y).mp hy with h | ⟨w,_,rfl⟩
    ·have:=hm y h;omega
    ·exact Bv _
   ·refine⟨(mp x).mpr (.inl h2),h3,fun y hy e=> ?_⟩
    rcases(mp y).mp hy with h | ⟨w,hw,rfl⟩
    ·exact h4 y h e
    ·exact absurd e (h1 w hw)
 refine(t08 P1 c).ext (t08 P2 c) fun x=> ?_
 rw[r43 P1 t1,r43 P2 t2,key _ hlT,key _ hl,r3w hA]
end
section
abbrev t25:=Hs×Hs
abbrev WrT:=Hs×Hs×Bool
abbrev u08:=u0k×Hu u0f
def inB (x lo hi:Int):Bool:=decide (lo≤x)&&decide (x≤hi)
theorem r3v {x lo hi:Int} :inB x lo hi=true↔lo≤x∧x≤hi:=by simp[inB]
def u38 (s:Hs):Bool:=s.data.toList.all (fun b=>decide (97≤b.toNat)&&decide (b.toNat≤122))&&(decide (1≤s.size)&&decide (s.size≤3))
def u12 (r:t25):Bool:=u38 r.1&&(u38 r.2&&(y2y r.1 r.2 || z7l r.1 r.2))
def u2i (w:WrT):Bool:=u38 w.1&&(decide (w.2.1.size≤12)&&(!w.2.2 || decide (w.2.1.size=0)))
def q7p (t:Ty) (lt:t.den→t.den→Bool) (l:Hu t.den):Bool:=(List.range l.length).all fun i=>decide (i=0) || lt (rdL t l (i - 1)) (rdL t l i)
def u26 (l:Hu WrT):Bool:=l.all u2i&&(q7p u2u (fun a b=>y2y a.1 b.1) l&&decide (l.length≤8))
def t23 (t:u0f):Bool:=
 inB t.1 1 9999&&(inB t.2.1 1 3&&(inB t.2.2.1 0 9999&&(decide (t.2.2.2.2.1.length≤8)&&(u26 t.2.2.2.2.2.1&&(t.2.2.2.2.1.all u12&&
 ((if t.2.1=3 then inB t.2.2.2.1 (t.2.2.1+1) 9999 else decide (t.2.2.2.1=0))&&((if t.2.1=2 then u38 t.2.2.2.2.2.2.2 else decide (t.2.2.2.2.2.2.2.size=0))&&(!decide (t.2.1=1) || !t.2.2.2.2.2.2.1))))))))
def s7k (v:u1m):Bool:=u38 v.1&&(decide (v.2.1.size≤12)&&((!v.2.2.1 || decide (v.2.1.size=0))&&inB v.2.2.2 1 9999))
def r5d (a b:u1m):Bool:=y2y a.1 b.1 || (z7l a.1 b.1&&decide (a.2.2.2<b.2.2.2))
def u4h (l:Hu u1m):Bool:=l.all s7k&&(q7p u0g r5d l&&decide (l.length≤120))
def q03 (l:Hu Int) (below:Int):Bool:=decide (∀x∈l,x<below)&&decide l.Nodup
def p3p (c:Int) (l:Hu u0f):Bool:=decide (l.length≤12)&&(l.all (fun t=>t23 t&&(decide (t.2.1=3)&&decide (t.2.2.2.1≤c)))&&q7p u1f (fun a b=>decide (a.2.2.2.1<b.2.2.2.1)) l)
def q8n (c:Int) (l:Hu u0f):Bool:=decide (l.length≤3)&&(l.all (fun t=>t23 t&&(decide (t.2.1=2)&&decide (t.2.2.1≤c)))&&q7p u1f (fun a b=>y2y a.2.2.2.2.2.2.2 b.2.2.2.2.2.2.2) l)
def p3o (c:Int) (l:Hu u0f):Bool:=decide (l.length≤4)&&(l.all (fun t=>t23 t&&(decide (t.2.1=1)&&decide (t.2.2.1≤c)))&&q7p u1f (fun a b=>decide (a.1<b.1)) l)
def u3k (l:Hu u0f):Hu Int:=l.map fun t=>t.1
def t2p (b:u0k):Bool:=u4h b.1&&(b.1.all (fun v=>decide (v.2.2.2≤b.2.2.2.1))&&(inB b.2.2.2.1 0 9999&&(inB b.2.2.2.2 1 9999&&(p3p b.2.2.2.1 b.2.1&&(q8n b.2.2.2.1 b.2.2.1&&q03 (u3k (b.2.1++b.2.2.1)) b.2.2.2.2)))))
def p48 (e:u08):Bool:=t2p e.1&&(p3o e.1.2.2.2.1 e.2&&q03 (u3k (e.1.2.1++e.1.2.2.1++e.2)) e.1.2.2.2.2)
theorem q2w {t:Ty} {lt:t.den→t.den→Bool} (tr:∀a b c,lt a b=true→lt b c=true→lt a c=true) {l:Hu t.den} :q7p t lt l=true↔l.Pairwise fun a b=>lt a b=true:=by
 unfold q7p
 rw[Bg]
 constructor
 ·intro h
  have step:∀(i:Nat) (hi:i+1<l.length),lt l[i] l[i+1] =true:=fun i hi=>by
   have:=h (i+1) (Bq.mpr hi)
   rw[Cr,Ar] at this
   rcases this with q | q
   ·omega
   ·rw[Nat.add_sub_cancel,y8l (show i<l.length by omega),y8l hi] at q
    exact q
  rw[Cp]
  intro i j hi hj hij
  obtain⟨d,rfl⟩:∃d,j=i+1+d:=⟨j - (i+1),by omega⟩
  clear hij
  induction d with
  | zero=>exact step i hj
  | succ d ih=>exact tr _ _ _ (ih (by omega)) (step (i+1+d) hj)
 ·intro h i hi
  have hi:=Bq.mp hi
  rw[Cr,Ar]
  by_cases e:i=0
  ·exact .inl e
  ·refine .inr ?_
   rw[y8l (show i - 1<l.length by omega),y8l hi]
   exact Cp.mp h (i - 1) i (by omega) hi (by omega)
theorem u1w {s:Hs} (h:u38 s=true):1≤s.size∧s.size≤3:=by
 unfold u38 at h
 simp only[Ai,Ar] at h
 exact h.2
structure TxnR (t:u0f):Prop where
 id:1≤t.1∧t.1≤9999
 st:1≤t.2.1∧t.2.1≤3
 snap:0≤t.2.2.1∧t.2.2.1≤9999
 rlen:t.2.2.2.2.1.length≤8
 ws:u26 t.2.2.2.2.2.1=true
 rs:∀r∈t.2.2.2.2.1,u12 r=true
 done:t.2.1=3→t.2.2.1+1≤t.2.2.2.1∧t.2.2.2.1≤9999
 nocs:t.2.1≠3→t.2.2.2.1=0
 name:t.2.1=2→u38 t.2.2.2.2.2.2.2=true
 noname:t.2.1≠2→t.2.2.2.2.2.2.2.size=0
 out:t.2.1=1→t.2.2.2.2.2.2.1=false
theorem r2x {t:u0f} :t23 t=true↔TxnR t:=by
 unfold t23
 simp only[Ai,Cr,r3v,Ar,Bg,Bj,Bu]
 constructor
 ·rintro⟨h1,h2,h3,h4,h5,h6,h7,h8,h9⟩
  refine⟨h1,h2,h3,h4,h5,h6,fun e=> ?_,fun e=> ?_,fun e=> ?_,fun e=> ?_,fun e=> ?_⟩
  ·rw[Al e,r3v] at h7;exact h7
  ·rw[Ao e,Ar] at h7;exact h7
  ·rw[Al e] at h8;exact h8
  ·rw[Ao e,Ar] at h8;exact h8
  ·rcases h9 with h9 | h9
   ·exact absurd e h9
   ·exact h9
 ·intro h
  refine⟨h.id,h.st,h.snap,h.rlen,h.ws,h.rs,?_,?_,?_⟩
  ·split
   ·rename_i e;rw[r3v];exact h.done e
   ·rename_i e;rw[Ar];exact h.nocs e
  ·split
   ·rename_i e;exact h.name e
   ·rename_i e;rw[Ar];exact h.noname e
  ·by_cases e:t.2.1=1
   ·exact .inr (h.out e)
   ·exact .inl e
theorem p7i {l:Hu WrT} :u26 l=true↔(∀w∈l,u2i w=true)∧(l.Pairwise fun a b=>y2y a.1 b.1=true)∧l.length≤8:=by
 unfold u26
 rw[Ai,Ai,Ar,Bg,q2w (t:=u2u) (lt:=fun a b=>y2y a.1 b.1) (fun a b c h k=>s9i h k)]
theorem r89 {l:Hu WrT} (h:u26 l=true):KD l:=
 (p7i.mp h).2.1.imp fun {a b} q e=>by rw[e,u58] at q;cases q
theorem p1w {a b:u1m} :r5d a b=true↔vLt a b:=by
 unfold r5d vLt vCs
 rw[Cr,Ai,Ar,y7d]
theorem o01 {a b c:u1m} (h:vLt a b) (k:vLt b c):vLt a c:=by
 rcases h with h | ⟨h,h'⟩<;>rcases k with k | ⟨k,k'⟩
 ·exact .inl (s9i h k)
 ·exact .inl (k ▸ h)
 ·exact .inl (h ▸ k)
 ·exact .inr ⟨h.trans k,by omega⟩
theorem p4m {l:Hu u1m} :u4h l=true↔(∀v∈l,s7k v=true)∧VAsc l∧l.length≤120:=by
 unfold u4h
 rw[Ai,Ai,Ar,Bg,q2w (t:=u0g) (lt:=r5d) (fun a b c h k=>p1w.mpr (o01 (p1w.mp h) (p1w.mp k)))]
 unfold VAsc
 simp only[p1w]
theorem r2e {l:Hu Int} {n:Int} :q03 l n=true↔(∀x∈l,x<n)∧l.Nodup:=by
 unfold q03;rw[Ai,Ar,Ar]
structure BaseR (b:u0k):Prop where
 vs:u4h b.1=true
 vcs:∀v∈b.1,v.2.2.2≤b.2.2.2.1
 cs:0≤b.2.2.2.1∧b.2.2.2.1≤9999
 next:1≤b.2.2.2.2∧b.2.2.2.2≤9999
 plen:b.2.1.length≤12
 past:∀t∈b.2.1,TxnR t∧t.2.1=3∧t.2.2.2.1≤b.2.2.2.1
 pasc:b.2.1.Pairwise fun x y=>x.2.2.2.1<y.2.2.2.1
 rlen:b.2.2.1.length≤3
 ready:∀t∈b.2.2.1,TxnR t∧t.2.1=2∧t.2.2.1≤b.2.2.2.1
 rasc:b.2.2.1.Pairwise fun x y=>y2y x.2.2.2.2.2.2.2 y.2.2.2.2.2.2.2=true
 below:∀x∈u3k (b.2.1++b.2.2.1),x<b.2.2.2.2
 nodup:(u3k (b.2.1++b.2.2.1)).Nodup
theorem o23 {l:Hu u0f} {f:u0f→Int} :q7p u1f (fun a b=>decide (f a<f b)) l=true↔l.Pairwise fun x y=>f x<f y:=by
 rw[q2w (t:=u1f) (lt:=fun a b=>decide (f a<f b)) (fun a b c h k=>by simp only[Ar] at*;omega)]
 simp only[Ar]
theorem o53 {l:Hu u0f} :q7p u1f (fun a b=>y2y a.2.2.2.2.2.2.2 b.2.2.2.2.2.2.2) l=true↔l.Pairwise fun x y=>y2y x.2.2.2.2.2.2.2 y.2.2.2.2.2.2.2=true:=
 q2w (t:=u1f) (lt:=fun a b=>y2y a.2.2.2.2.2.2.2 b.2.2.2.2.2.2.2) (fun a b c h k=>s9i h k)
theorem q1n {b:u0k} :t2p b=true↔BaseR b:=by
 unfold t2p p3p q8n
 simp only[Ai,r3v,Ar,Bg,r2x,r2e,o53]
 rw[o23 (f:=fun t=>t.2.2.2.1)]
 constructor
 ·rintro⟨h1,h2,h3,h4,⟨h5,h6,h7⟩,⟨h8,h9,h10⟩,h11,h12⟩
  exact⟨h1,h2,h3,h4,h5,h6,h7,h8,h9,h10,h11,h12⟩
 ·intro h
  exact⟨h.vs,h.vcs,h.cs,h.next,⟨h.plen,h.past,h.pasc⟩,⟨h.rlen,h.ready,h.rasc⟩,h.below,h.nodup⟩
structure EngR (e:u08):Prop where
 base:BaseR e.1
 olen:e.2.length≤4
 open_:∀t∈e.2,TxnR t∧t.2.1=1∧t.2.2.1≤e.1.2.2.2.1
 oasc:e.2.Pairwise fun x y=>x.1<y.1
 below:∀x∈u3k (e.1.2.1++e.1.2.2.1++e.2),x<e.1.2.2.2.2
 nodup:(u3k (e.1.2.1++e.1.2.2.1++e.2)).Nodup
theorem o0c {e:u08} :p48 e=true↔EngR e:=by
 unfold p48 p3o
 simp only[Ai,Ar,Bg,r2x,r2e,q1n]
 rw[o23 (f:=fun t=>t.1)]
 constructor
 ·rintro⟨h1,⟨h2,h3,h4⟩,h5,h6⟩
  exact⟨h1,h2,h3,h4,h5,h6⟩
 ·intro h
  exact⟨h.base,⟨h.olen,h.open_,h.oasc⟩,h.below,h.nodup⟩
end
section
theorem t6g {E:Type} (p:E→Bool) (l:Hu E):(l.filter p).length≤l.length:=Cs _ _
end
section
def u2c (b:u0k) (o:Hu u0f):u0k:=(u1r b.1 (t5e b o),b.2.1.filter (fun x=> !decide (x.2.2.2.1≤t5e b o)),b.2.2)
theorem s07 (b:u0k) (o:Hu u0f) (hb:fewB b) (ho:o.length≤4194304):u9b (b,o)=some (u2c b o):=by
 have h1:=t09 b hb
 have h2:=q7u b o ho
 have h4:=q5g b.1 (t5e b o) (by have:=hb.1;omega)
 have hl:=hb.2.1.1
 have L:=t7f t15 b.2.1 (fun a i=>(b,(([], [], [],0,0):u0k),(b.1,a,b.2.2),t5e b o,i)) (fun x=> !decide (x.2.2.2.1≤t5e b o)) (fun x=>x) (fun a=> .inl (b,(([], [], [],0,0):u0k),(b.1,a,b.2.2),t5e b o)) (by omega)
  (fun a _=>by rw[s6w];simp only[t1v,u0b,Am,Ah,Aa])
  (fun i hi a ha=>by
   have hc:=u59 b.2.1[i] (hb.2.1.2 _ (Ag hi))
   rw[s6w]
   simp only[t1v,u0b,hi,Ae,Ad,y7s hi,zTn,y8l (t:=u1f) hi,hc,zOb,Aw,u07 (show a.length+1≤1099511627776 by omega)]
   rw[y7j (by omega)]
   by_cases h:b.2.1[i].2.2.2.1≤t5e b o
   ·have h' : ¬b.2.1[i].2.2.2.1 >t5e b o:=Hk.mpr h
    simp[h,h']
   ·have h' :b.2.1[i].2.2.2.1 >t5e b o:=Int.not_le.mp h
    simp[h,h'])
 rw[Er] at L
 rw[q3n];unfold r02 u2c
 simp only[h1,h2,zOb,L,h4]
end
section
def q1w (d x:u0f):u0f:=(x.1,x.2.1,x.2.2.1,x.2.2.2.1,x.2.2.2.2.1,x.2.2.2.2.2.1,(x.2.2.2.2.2.2.1 || ahead x d),x.2.2.2.2.2.2.2)
end
section
def q5t (b:u0k) (t:u0f):u0f:=(t.1,(3:Int),t.2.2.1,IntKind.i64.wrap (b.2.2.2.1+1),t.2.2.2.2.1,t.2.2.2.2.2.1,(t.2.2.2.2.2.2.1 || s7h t b.2.1),(⟨#[]⟩:Hs))
def s1w (b:u0k) (t:u0f):u0k:=
 (t05 b.1 t.2.2.2.2.2.1 (IntKind.i64.wrap (b.2.2.2.1+1)),b.2.1++ [q5t b t],(b.2.2.1.filter fun x=> !decide (x.1=t.1)).map (q1w (q5t b t)),IntKind.i64.wrap (b.2.2.2.1+1),y8h b.2.2.2.2 (IntKind.i64.wrap (t.1+1)))
end
section
def r6r (b:u0k) (t:u0f):u0k:=
 ((s1w b t).1,(s1w b t).2.1,(s1w b t).2.2.1,(s1w b t).2.2.2.1,if t.1≥b.2.2.2.2 then IntKind.i64.wrap (t.1+1) else b.2.2.2.2)
theorem q5e (b:u0k) (t:u0f) (b0:u0k) (v:Hu u1m) (p:Hu u0f) (c n:Int) (d:u0f) (hb:fewB b) (hd:r3u d):
 u3w (b,t,b0,(v,p, [],c,n),d,0)=some (.inl (t,b0,(v,p,(b.2.2.1.filter fun x=> !decide (x.1=t.1)).map (q1w d),c,n))):=by
 have hl:=hb.2.2.1
 exact t7f u3w b.2.2.1 (fun a i=>(b,t,b0,((v,p,a,c,n):u0k),d,i)) (fun x=> !decide (x.1=t.1)) (q1w d) (fun a=> .inl (t,b0,((v,p,a,c,n):u0k))) (by omega)
  (fun a _=>by rw[s0w];simp only[u8y,u0b,Am,Ah,Aa])
  (fun i hi a ha=>by
   have h1:=u59 b.2.2.1[i] (hb.2.2.2 _ (Ag hi))
   have h2:=u8o b.2.2.1[i] d (t9w (hb.2.2.2 _ (Ag hi)).1) (t9w hd.2)
   rw[s0w]
   simp only[u8y,u0b,hi,Ae,Ad,y7s hi,zTn,y8l (t:=u1f) hi,h1,h2,zOb,Aw,u07 (show a.length+1≤1099511627776 by omega)]
   rw[y7j (by omega)]
   cases decide (b.2.2.1[i].1=t.1) with
   | true=>rfl
   | false=>
    simp only[Aa,Bh,Ad]
    unfold q1w
    cases ahead b.2.2.1[i] d with
    | true=>simp
    | false=>simp)
end
section
theorem r4h (b:u0k) (t:u0f) (hb:fewB b) (ht:r3u t):u3q (b,t)=some (r6r b t):=by
 have h1:=t09 b hb
 have h2:=u59 t ht
 have h3:=s1z b.1 t.2.2.2.2.2.1 (IntKind.i64.wrap (b.2.2.2.1+1)) (by have:=hb.1;have:=ht.2;omega)
 have h5:=r3d t b.2.1 ht hb.2.1
 have hp:=hb.2.1.1
 have hc:∀d:u0f,Nat.ble (b.2.1.length+([d] :Hu u0f).length) z8x=true:=fun d=>u07 (by simp;omega)
 rw[q0a];unfold s8b r6r s1w q5t
 simp only[h1,h2,h3,h5,zOb]
 cases ho:t.2.2.2.2.2.2.1 with
 | true=>
  have hd:r3u ((t.1,(3:Int),t.2.2.1,IntKind.i64.wrap (b.2.2.2.1+1),t.2.2.2.2.1,t.2.2.2.2.2.1,true,(⟨#[]⟩:Hs)):u0f):=ht
  have L:=fun p=>q5e b t ([], [], [],0,0) (t05 b.1 t.2.2.2.2.2.1 (IntKind.i64.wrap (b.2.2.2.1+1))) p (IntKind.i64.wrap (b.2.2.2.1+1)) b.2.2.2.2 _ hb hd
  simp only[Ad,L,zOb,hc,Dx]
  by_cases h:t.1≥b.2.2.2.2<;>simp[h]
 | false=>
  have hd:r3u ((t.1,(3:Int),t.2.2.1,IntKind.i64.wrap (b.2.2.2.1+1),t.2.2.2.2.1,t.2.2.2.2.2.1,s7h t b.2.1,(⟨#[]⟩:Hs)):u0f):=ht
  have L:=fun p=>q5e b t ([], [], [],0,0) (t05 b.1 t.2.2.2.2.2.1 (IntKind.i64.wrap (b.2.2.2.1+1))) p (IntKind.i64.wrap (b.2.2.2.1+1)) b.2.2.2.2 _ hb hd
  simp only[Aa,Ad,h5,zOb,L,hc,Ci]
  by_cases h:t.1≥b.2.2.2.2<;>simp[h]
end
section
def o5m (b:u0k):Prop:=b.1.length≤1048576∧(b.2.1.length≤1048576∧ ∀t∈b.2.1,r3u t)∧b.2.2.1.length≤1048576∧ ∀t∈b.2.2.1,r3u t
end
section
def t80 (b:u0k):Bool:=decide ((b.2.1.length:Int)≥12) || (decide ((b.1.length:Int) >100) || decide (b.2.2.2.1≥9999))
theorem q6a (b:u0k):t3u b=some (t80 b):=by
 rw[q0v];unfold s8x t80
 cases decide ((b.2.1.length:Int)≥12)<;>cases decide ((b.1.length:Int) >100)<;>rfl
theorem p1g (b:u0k) {n:Hs} {i:Nat} (hi:i<b.2.2.1.length) (hn:b.2.2.1[i].2.2.2.2.2.2.2=n):∃k:Nat,k<b.2.2.1.length∧u0n b n=(k:Int):=by
 have h:u10 (fun x:u0f=>z7l x.2.2.2.2.2.2.2 n) b.2.2.1<b.2.2.1.length:=by
  rcases B8 (u10 (fun x:u0f=>z7l x.2.2.2.2.2.2.2 n) b.2.2.1) b.2.2.1.length with q | q
  ·exact q
  ·have:=s63 (p:=fun x:u0f=>z7l x.2.2.2.2.2.2.2 n) hi (by omega)
   rw[y7d.mpr hn] at this
   cases this
 exact⟨_,h,Al h⟩
end
section
def u01 (n i:Int):Int:=if i<n then n else i+1
def u41 (b:u0k) (t:u0f):u0f:=(t.1,(3:Int),t.2.2.1,b.2.2.2.1+1,t.2.2.2.2.1,t.2.2.2.2.2.1,(t.2.2.2.2.2.2.1 || s7h t b.2.1),(⟨#[]⟩:Hs))
def u04 (b:u0k) (t:u0f):u0k:=
 (t05 b.1 t.2.2.2.2.2.1 (b.2.2.2.1+1),b.2.1++ [u41 b t],(b.2.2.1.filter fun x=> !decide (x.1=t.1)).map (q1w (u41 b t)),b.2.2.2.1+1,u01 b.2.2.2.2 t.1)
def u2b (b:u0k) (t:u0f) (n:Hs):u0f:=(t.1,(2:Int),t.2.2.1,t.2.2.2.1,t.2.2.2.2.1,t.2.2.2.2.2.1,(t.2.2.2.2.2.2.1 || s7h t b.2.1),n)
def u1a (b:u0k) (t:u0f) (n:Hs):u0k:=
 (b.1,b.2.1,(b.2.2.1.filter fun x=>y2y x.2.2.2.2.2.2.2 n)++ [u2b b t n] ++(b.2.2.1.filter fun x=> !y2y x.2.2.2.2.2.2.2 n),b.2.2.2.1,u01 b.2.2.2.2 t.1)
def u50 (b:u0k) (n:Hs):u0k:=(b.1,b.2.1,(b.2.2.1.filter fun x=> !z7l x.2.2.2.2.2.2.2 n),b.2.2.2.1,b.2.2.2.2)
def p15 (n:Int):Prop:= -1000000≤n∧n≤1000000
theorem t5x {n:Int} (h:p15 n):IntKind.i64.wrap (n+1)=n+1:=by
 obtain⟨h1,h2⟩:=h
 rw[y4u (by omega) (by omega)]
theorem q8r {b:u0k} {t:u0f} (hc:p15 b.2.2.2.1) (hi:p15 t.1):s1w b t=u04 b t:=by
 have e:q5t b t=u41 b t:=by unfold q5t u41;rw[t5x hc]
 unfold s1w u04
 rw[e,t5x hc,t5x hi]
 unfold y8h u01
 congr 4
 by_cases h:t.1<b.2.2.2.2
 ·rw[Al h,Ao (by omega)]
 ·rw[Ao h,Al (by omega)]
theorem r82 {b:u0k} {t:u0f} (hc:p15 b.2.2.2.1) (hi:p15 t.1):r6r b t=u04 b t:=by
 unfold r6r
 rw[q8r hc hi,t5x hi]
 unfold u04 u01
 congr 4
 by_cases h:t.1<b.2.2.2.2
 ·rw[Al h,Ao (by omega)]
 ·rw[Ao h,Al (by omega)]
def uq (l:Hu u0f):Prop:=l.Pairwise fun a b=>a.1≠b.1
theorem q2h {l:Hu u0f} :(u3k l).Nodup↔uq l:=by
 unfold u3k uq;rw[D8,Dl]
theorem o5p {a b:Hu u0f} :uq (a++b)↔uq a∧uq b∧ ∀x∈a,∀y∈b,x.1≠y.1:=Cg
theorem r83 {l:Hu u0f} (h:uq l) (p:u0f→Bool):uq (l.filter p):=Dz p h
theorem o0z {l:Hu u0f} (f:u0f→u0f) (hf:∀x,(f x).1=x.1) (h:uq l):uq (l.map f):=by
 unfold uq;rw[Dl];simp only[hf];exact h
theorem q99 {t:u0f} :uq [t] :=Eu _ _
theorem o00 {l:Hu u0f} :uq l→ ∀x∈l,∀y∈l,x.1=y.1→x=y:=by
 induction l with
 | nil=>intro _ x hx;cases hx
 | cons z l ih=>
  intro h x hx y hy e
  have h' :=Ch.mp h
  rcases A8.mp hx with rfl | hx' <;>rcases A8.mp hy with rfl | hy'
  ·rfl
  ·exact absurd e (h'.1 y hy')
  ·exact absurd e.symm (h'.1 x hx')
  ·exact ih h'.2 x hx' y hy' e
theorem t6d {l:Hu u0f} {n:Int} :(∀x∈u3k l,x<n)↔ ∀t∈l,t.1<n:=by
 unfold u3k
 constructor
 ·exact fun h t ht=>h _ (Bx.mpr ⟨t,ht,rfl⟩)
 ·intro h x hx
  obtain⟨t,ht,rfl⟩:=Bx.mp hx
  exact h t ht
theorem o0d {d x:u0f} (h:TxnR x) (hs:x.2.1=2):TxnR (q1w d x):=
 ⟨h.id,h.st,h.snap,h.rlen,h.ws,h.rs,h.done,h.nocs,h.name,h.noname,fun e=>by have e:x.2.1=1:=e;omega⟩
theorem q74 {b:u0k} {t:u0f} (ht:TxnR t) (hs:t.2.2.1≤b.2.2.2.1) (hc:b.2.2.2.1<9999):TxnR (u41 b t):=
 ⟨ht.id,⟨by show(1:Int)≤3;omega,by show(3:Int)≤3;omega⟩,ht.snap,ht.rlen,ht.ws,ht.rs,fun _=>⟨by show t.2.2.1+1≤b.2.2.2.1+1;omega,by show b.2.2.2.1+1≤9999;omega⟩,
   fun e=>absurd rfl e,fun e=>by have e:(3:Int)=2:=e;omega,fun _=>rfl,fun e=>by have e:(3:Int)=1:=e;omega⟩
theorem q4k {b:u0k} {t:u0f} {n:Hs} (ht:TxnR t) (hs:t.2.1≠3) (hn:u38 n=true):TxnR (u2b b t n):=
 ⟨ht.id,⟨by show(1:Int)≤2;omega,by show(2:Int)≤3;omega⟩,ht.snap,ht.rlen,ht.ws,ht.rs,fun e=>by have e:(2:Int)=3:=e;omega,
   fun _=>ht.nocs hs,fun _=>hn,fun e=>absurd rfl e,fun e=>by have e:(2:Int)=1:=e;omega⟩
theorem p6o {w:WrT} {c:Int} (h:u2i w=true) (h1:1≤c) (h2:c≤9999):s7k (w.1,w.2.1,w.2.2,c)=true:=by
 unfold u2i at h
 unfold s7k
 simp only[Ai,r3v] at h ⊢
 exact⟨h.1,h.2.1,h.2.2,h1,h2⟩
theorem p5x {l:Hu u1m} {ws:Hu WrT} {c:Int} (hl:u4h l=true) (hv:∀v∈l,v.2.2.2≤c) (hw:u26 ws=true) (h0:0≤c) (h9:c<9999) (hn:l.length≤112):
 u4h (t05 l ws (c+1))=true∧ ∀v∈t05 l ws (c+1),v.2.2.2≤c+1:=by
 obtain⟨h1,h2,h3⟩:=p4m.mp hl
 obtain⟨w1,w2,w3⟩:=p7i.mp hw
 refine⟨p4m.mpr ⟨fun v h=> ?_,s6b ws h2 (r89 hw) fun x hx w _ q=>by have:=hv x hx;have:vCs x=c+1:=q.2;unfold vCs at this;omega,by rw[r2o];omega⟩,fun v h=> ?_⟩
 ·rcases(u2w ws l (c+1)).mp h with h | ⟨w,hw,rfl⟩
  ·exact h1 v h
  ·exact p6o (w1 w hw) (by omega) (by omega)
 ·rcases(u2w ws l (c+1)).mp h with h | ⟨w,hw,rfl⟩
  ·have:=hv v h;omega
  ·exact Bv _
theorem q6o {n i:Int} (h:i<n):u01 n i=n:=Al h
theorem u5k (n i:Int):n≤u01 n i∧i<u01 n i:=by unfold u01;split<;>omega
theorem q7d {b:u0k} {t:u0f} (hb:BaseR b) (ht:TxnR t) (hs:t.2.2.1≤b.2.2.2.1) (hc:b.2.2.2.1<9999) (hp:b.2.1.length<12) (hv:b.1.length≤112)
 (hid:∀x∈b.2.1,x.1≠t.1) (hn:t.1<9999):BaseR (u04 b t):=by
 have c0:=hb.cs.1
 obtain⟨v1,v2⟩:=p5x hb.vs hb.vcs ht.ws c0 hc hv
 have hu:=q2h.mp hb.nodup
 have hbl:=t6d.mp hb.below
 obtain⟨u1,u2,u3⟩:=o5p.mp hu
 have hg:=u5k b.2.2.2.2 t.1
 have hnx:u01 b.2.2.2.2 t.1≤9999:=by have:=hb.next.2;unfold u01;split<;>omega
 refine⟨v1,v2,⟨by show 0≤b.2.2.2.1+1;omega,by show b.2.2.2.1+1≤9999;omega⟩,⟨by show 1≤u01 b.2.2.2.2 t.1;have:=hb.next.1;omega,hnx⟩,?_,?_,?_,?_,?_,?_,?_,?_⟩
 ·show(b.2.1++ [u41 b t]).length≤12
  simp only[Ba,Aw];omega
 ·intro x hx
  rcases Ay.mp hx with hx | hx
  ·obtain⟨q1,q2,q3⟩:=hb.past x hx
   exact⟨q1,q2,by show x.2.2.2.1≤b.2.2.2.1+1;omega⟩
  ·rw[Ax] at hx
   subst hx
   exact⟨q74 ht hs hc,rfl,Bv _⟩
 ·show(b.2.1++ [u41 b t]).Pairwise _
  rw[Cg]
  refine⟨hb.pasc,Eu _ _,fun x hx y hy=> ?_⟩
  rw[Ax] at hy
  subst hy
  have:=(hb.past x hx).2.2
  show x.2.2.2.1<b.2.2.2.1+1
  omega
 ·show((b.2.2.1.filter _).map _).length≤3
  rw[Da]
  exact A9 (Cs _ _) hb.rlen
 ·intro x hx
  obtain⟨y,hy,rfl⟩:=Bx.mp hx
  obtain⟨q1,q2,q3⟩:=hb.ready y (A6.mp hy).1
  exact⟨o0d q1 q2,q2,by show y.2.2.1≤b.2.2.2.1+1;omega⟩
 ·show((b.2.2.1.filter _).map _).Pairwise _
  rw[Dl]
  exact(Dz _ hb.rasc)
 ·rw[t6d]
  intro x hx
  show x.1<u01 b.2.2.2.2 t.1
  rcases Ay.mp hx with hx | hx
  ·rcases Ay.mp hx with hx | hx
   ·have:=hbl x (Bf _ hx);omega
   ·rw[Ax] at hx;subst hx;exact hg.2
  ·obtain⟨y,hy,rfl⟩:=Bx.mp hx
   have:=hbl y (Az _ (A6.mp hy).1)
   show y.1<_
   omega
 ·rw[q2h]
  refine o5p.mpr ⟨o5p.mpr ⟨u1,q99,fun x hx y hy=> ?_⟩,o0z _ (fun _=>rfl) (r83 u2 _),fun x hx y hy=> ?_⟩
  ·rw[Ax] at hy;subst hy;exact hid x hx
  ·obtain⟨z,hz,rfl⟩:=Bx.mp hy
   obtain⟨z1,z2⟩:=A6.mp hz
   show x.1≠z.1
   rcases Ay.mp hx with hx | hx
   ·exact u3 x hx z z1
   ·rw[Ax] at hx;subst hx
    intro e
    simp only[Bj,Bu] at z2
    exact z2 e.symm
theorem t2m {b:u0k} (hb:BaseR b) (o:Hu u0f):BaseR (u2c b o):=by
 obtain⟨h1,h2,h3⟩:=p4m.mp hb.vs
 have sv:=u35 b.1 (t5e b o)
 have sp:(b.2.1.filter fun x=> !decide (x.2.2.2.1≤t5e b o)).Sublist b.2.1:=Fg
 have si:((b.2.1.filter fun x=> !decide (x.2.2.2.1≤t5e b o))++b.2.2.1).Sublist (b.2.1++b.2.2.1):=sp.append (Dm _)
 refine⟨p4m.mpr ⟨fun v h=>h1 v (sv.subset h),h2.sublist sv,A9 sv.length_le h3⟩,fun v h=>hb.vcs v (sv.subset h),hb.cs,hb.next,A9 sp.length_le hb.plen,
  fun t h=>hb.past t (sp.subset h),hb.pasc.sublist sp,hb.rlen,hb.ready,hb.rasc,?_,?_⟩
 ·rw[t6d]
  intro x hx
  exact t6d.mp hb.below x (si.subset hx)
 ·rw[q2h]
  exact Ez si (q2h.mp hb.nodup)
theorem s1e {b:u0k} {t:u0f} {n:Hs} (hb:BaseR b) (ht:TxnR t) (h3:t.2.1≠3) (hs:t.2.2.1≤b.2.2.2.1) (hk:u38 n=true) (hl:b.2.2.1.length<3)
 (hn:∀x∈b.2.2.1,x.2.2.2.2.2.2.2≠n) (hid:∀x∈b.2.1++b.2.2.1,x.1≠t.1) (h9:t.1<9999):BaseR (u1a b t n):=by
 have hu:=q2h.mp hb.nodup
 have hbl:=t6d.mp hb.below
 obtain⟨u1,u2,u3⟩:=o5p.mp hu
 have hg:=u5k b.2.2.2.2 t.1
 have hnx:u01 b.2.2.2.2 t.1≤9999:=by have:=hb.next.2;unfold u01;split<;>omega
 have mem:∀ {x:u0f},x∈(b.2.2.1.filter fun x=>y2y x.2.2.2.2.2.2.2 n)++ [u2b b t n] ++(b.2.2.1.filter fun x=> !y2y x.2.2.2.2.2.2.2 n)→x∈b.2.2.1∨x=u2b b t n:=fun {x} hx=>by
  rcases Ay.mp hx with hx | hx
  ·rcases Ay.mp hx with hx | hx
   ·exact .inl (A6.mp hx).1
   ·rw[Ax] at hx;exact .inr hx
  ·exact .inl (A6.mp hx).1
 have len:∀(l:Hu u0f) (p:u0f→Bool),(l.filter p).length+(l.filter fun x=> !p x).length=l.length:=fun l p=>by
  induction l with
  | nil=>rfl
  | cons x l ih=>cases hp:p x<;>simp[Di,hp] <;>omega
 refine⟨hb.vs,hb.vcs,hb.cs,⟨by show 1≤u01 b.2.2.2.2 t.1;have:=hb.next.1;omega,hnx⟩,hb.plen,hb.past,hb.pasc,?_,?_,?_,?_,?_⟩
 ·show((b.2.2.1.filter fun x=>y2y x.2.2.2.2.2.2.2 n)++ [u2b b t n] ++(b.2.2.1.filter fun x=> !y2y x.2.2.2.2.2.2.2 n)).length≤3
  have:=len b.2.2.1 fun x=>y2y x.2.2.2.2.2.2.2 n
  simp only[Ba,Aw]
  omega
 ·intro x hx
  rcases mem hx with hx | rfl
  ·exact hb.ready x hx
  ·exact⟨q4k ht h3 hk,rfl,hs⟩
 ·show((b.2.2.1.filter fun x=>y2y x.2.2.2.2.2.2.2 n)++ [u2b b t n] ++(b.2.2.1.filter fun x=> !y2y x.2.2.2.2.2.2.2 n)).Pairwise _
  have up:∀y∈b.2.2.1,(!y2y y.2.2.2.2.2.2.2 n)=true→y2y n y.2.2.2.2.2.2.2=true:=fun y hy h=>by
   rcases r0a y.2.2.2.2.2.2.2 n with c | c | c
   ·rw[c] at h;cases h
   ·exact absurd c (hn y hy)
   ·exact c
  rw[Bi,Cg]
  refine⟨Dz _ hb.rasc,?_,?_⟩
  ·rw[Fs,Ch]
   refine⟨fun y hy=> ?_,Dz _ hb.rasc⟩
   obtain⟨y1,y2⟩:=A6.mp hy
   exact up y y1 y2
  ·intro x hx y hy
   obtain⟨x1,x2⟩:=A6.mp hx
   rcases Ay.mp hy with hy | hy
   ·rw[Ax] at hy;subst hy;exact x2
   ·obtain⟨y1,y2⟩:=A6.mp hy
    exact s9i x2 (up y y1 y2)
 ·rw[t6d]
  intro x hx
  show x.1<u01 b.2.2.2.2 t.1
  rcases Ay.mp hx with hx | hx
  ·have:=hbl x (Bf _ hx);omega
  ·rcases mem hx with hx | rfl
   ·have:=hbl x (Az _ hx);omega
   ·exact hg.2
 ·rw[q2h]
  refine o5p.mpr ⟨u1,?_,fun x hx y hy=> ?_⟩
  ·show uq ((b.2.2.1.filter fun x=>y2y x.2.2.2.2.2.2.2 n)++ [u2b b t n] ++(b.2.2.1.filter fun x=> !y2y x.2.2.2.2.2.2.2 n))
   rw[Bi]
   refine o5p.mpr ⟨r83 u2 _,?_,fun x hx y hy=> ?_⟩
   ·rw[Fs]
    refine Ch.mpr ⟨fun y hy=> ?_,r83 u2 _⟩
    exact(hid y (Az _ (A6.mp hy).1)).symm
   ·obtain⟨x1,x2⟩:=A6.mp hx
    rcases Ay.mp hy with hy | hy
    ·rw[Ax] at hy;subst hy
     exact hid x (Az _ x1)
    ·obtain⟨y1,y2⟩:=A6.mp hy
     intro e
     have:=o00 u2 x x1 y y1 e
     subst this
     rw[x2] at y2;cases y2
  ·rcases mem hy with hy | rfl
   ·exact u3 x hx y hy
   ·exact hid x (Bf _ hx)
theorem s5q {b:u0k} (hb:BaseR b) (n:Hs):BaseR (u50 b n):=by
 have sp:(b.2.2.1.filter fun x=> !z7l x.2.2.2.2.2.2.2 n).Sublist b.2.2.1:=Fg
 have si:(b.2.1++(b.2.2.1.filter fun x=> !z7l x.2.2.2.2.2.2.2 n)).Sublist (b.2.1++b.2.2.1):=(Dm _).append sp
 refine⟨hb.vs,hb.vcs,hb.cs,hb.next,hb.plen,hb.past,hb.pasc,A9 sp.length_le hb.rlen,fun t h=>hb.ready t (sp.subset h),hb.rasc.sublist sp,?_,?_⟩
 ·rw[t6d]
  intro x hx
  exact t6d.mp hb.below x (si.subset hx)
 ·rw[q2h]
  exact Ez si (q2h.mp hb.nodup)
end
section
def o2a (id snap:Int):u0f:=(id,(1:Int),snap,(0:Int), [], [],false,(⟨#[]⟩:Hs))
def p66 (e:u08):u08:=((e.1.1,e.1.2.1,e.1.2.2.1,e.1.2.2.2.1,e.1.2.2.2.2+1),e.2++ [o2a e.1.2.2.2.2 e.1.2.2.2.1])
def r8z (e:u08) (k:Nat) (t:u0f):u08:=(e.1,e.2.set k t)
def t2q (e:u08) (id:Int):Hu u0f:=e.2.filter fun x=> !decide (x.1=id)
def leaveE (e:u08) (id:Int):u08:=(u2c e.1 (t2q e id),t2q e id)
def t6e (e:u08) (t:u0f):u08:=(u2c (u04 e.1 t) (t2q e t.1),t2q e t.1)
def p3s (e:u08) (t:u0f) (n:Hs):u08:=(u2c (u1a e.1 t n) (t2q e t.1),t2q e t.1)
def p6t (e:u08) (t:u0f):u08:=(u2c (u04 e.1 t) e.2,e.2)
def noE (e:u08) (n:Hs):u08:=(u2c (u50 e.1 n) e.2,e.2)
theorem EngR.uq {e:u08} (h:EngR e):uq (e.1.2.1++e.1.2.2.1++e.2):=q2h.mp h.nodup
theorem EngR.bel {e:u08} (h:EngR e):∀t∈e.1.2.1++e.1.2.2.1++e.2,t.1<e.1.2.2.2.2:=t6d.mp h.below
theorem EngR.apart {e:u08} (h:EngR e):∀x∈e.1.2.1++e.1.2.2.1,∀y∈e.2,x.1≠y.1:=(o5p.mp h.uq).2.2
theorem EngR.uqo {e:u08} (h:EngR e):Ab.uq e.2:=(o5p.mp h.uq).2.1
theorem s59 {e:u08} {b:u0k} {o:Hu u0f} (h:EngR e) (hb:BaseR b) (ho:o.Sublist e.2) (hc:e.1.2.2.2.1≤b.2.2.2.1) (hn:e.1.2.2.2.2≤b.2.2.2.2) (hu:∀x∈b.2.1++b.2.2.1,∀y∈o,x.1≠y.1):EngR (b,o):=by
 refine⟨hb,A9 ho.length_le h.olen,fun t ht=> ?_,h.oasc.sublist ho,?_,?_⟩
 ·obtain⟨q1,q2,q3⟩:=h.open_ t (ho.subset ht)
  exact⟨q1,q2,by show t.2.2.1≤b.2.2.2.1;omega⟩
 ·rw[t6d]
  intro x hx
  rcases Ay.mp hx with hx | hx
  ·exact t6d.mp hb.below x hx
  ·have:=h.bel x (Az _ (ho.subset hx))
   show x.1<b.2.2.2.2
   omega
 ·rw[q2h]
  exact o5p.mpr ⟨q2h.mp hb.nodup,Ez ho h.uqo,hu⟩
theorem t5z {b:u0k} {o:Hu u0f} {x:u0f} (h:x∈(u2c b o).2.1++(u2c b o).2.2.1):x∈b.2.1++b.2.2.1:=by
 rcases Ay.mp h with h | h
 ·exact Bf _ (A6.mp h).1
 ·exact Az _ h
theorem u3m (e:u08) (id:Int):(t2q e id).Sublist e.2:=Fg
theorem q4l {e:u08} {id:Int} {x:u0f} (h:x∈t2q e id):x.1≠id:=by
 have:=(A6.mp h).2
 simpa using this
theorem p75 {e:u08} (h:EngR e) (hl:e.2.length<4) (hn:e.1.2.2.2.2<9999):EngR (p66 e):=by
 have hb:=h.base
 have n1:=hb.next.1
 have hT:TxnR (o2a e.1.2.2.2.2 e.1.2.2.2.1):=
  ⟨⟨n1,by show e.1.2.2.2.2≤9999;omega⟩,⟨by show(1:Int)≤1;omega,by show(1:Int)≤3;omega⟩,hb.cs,Cn _,rfl,fun r hr=>(by cases hr),fun e=>by have e:(1:Int)=3:=e;omega,fun _=>rfl,fun e=>by have e:(1:Int)=2:=e;omega,fun _=>rfl,fun _=>rfl⟩
 have hbel:=h.bel
 refine⟨⟨hb.vs,hb.vcs,hb.cs,⟨by show 1≤e.1.2.2.2.2+1;omega,by show e.1.2.2.2.2+1≤9999;omega⟩,hb.plen,hb.past,hb.pasc,hb.rlen,hb.ready,hb.rasc,?_,hb.nodup⟩,?_,?_,?_,?_,?_⟩
 ·rw[t6d]
  intro x hx
  have:=hbel x (Bf _ hx)
  show x.1<e.1.2.2.2.2+1
  omega
 ·show(e.2++ [_]).length≤4
  simp only[Ba,Aw];omega
 ·intro t ht
  rcases Ay.mp ht with ht | ht
  ·exact h.open_ t ht
  ·rw[Ax] at ht;subst ht
   exact⟨hT,rfl,Bv _⟩
 ·show(e.2++ [_]).Pairwise _
  rw[Cg]
  refine⟨h.oasc,Eu _ _,fun x hx y hy=> ?_⟩
  rw[Ax] at hy;subst hy
  exact hbel x (Az _ hx)
 ·rw[t6d]
  intro x hx
  show x.1<e.1.2.2.2.2+1
  have hx:x∈e.1.2.1++e.1.2.2.1++(e.2++ [o2a e.1.2.2.2.2 e.1.2.2.2.1]):=hx
  rw[←Bi] at hx
  rcases Ay.mp hx with hx | hx
  ·have:=hbel x hx;omega
  ·rw[Ax] at hx;subst hx
   show e.1.2.2.2.2<_
   omega
 ·rw[q2h]
  show uq (e.1.2.1++e.1.2.2.1++(e.2++ [o2a e.1.2.2.2.2 e.1.2.2.2.1]))
  rw[←Bi]
  refine o5p.mpr ⟨h.uq,q99,fun x hx y hy=> ?_⟩
  rw[Ax] at hy;subst hy
  have:=hbel x hx
  show x.1≠e.1.2.2.2.2
  omega
theorem q6l {α β:Type} (f:α→β) (l:Hu α) (k:Nat) (a:α) (h:k<l.length) (ha:f a=f l[k]):(l.set k a).map f=l.map f:=by
 apply Gw (by simp)
 intro i h1 h2
 simp only[F6,List.getElem_set]
 split
 ·rename_i e;subst e;exact ha
 ·rfl
theorem s69 {α:Type} {l:Hu α} {k:Nat} {a x:α} (h:x∈l.set k a):x∈l∨x=a:=E0 h
theorem q66 {e:u08} (h:EngR e) {k:Nat} (hk:k<e.2.length) {t:u0f} (ht:TxnR t) (h1:t.1=e.2[k].1) (h2:t.2.1=1) (h3:t.2.2.1=e.2[k].2.2.1):EngR (r8z e k t):=by
 have hm:u3k (e.2.set k t)=u3k e.2:=q6l _ _ _ _ hk h1
 have hid:u3k (e.1.2.1++e.1.2.2.1++e.2.set k t)=u3k (e.1.2.1++e.1.2.2.1++e.2):=by
  have:∀a b:Hu u0f,u3k (a++b)=u3k a++u3k b:=fun a b=>by simp[u3k]
  rw[this,hm,←this]
 refine⟨h.base,by show(e.2.set k t).length≤4;rw[Dq];exact h.olen,fun x hx=> ?_,?_,?_,?_⟩
 ·rcases s69 hx with hx | rfl
  ·exact h.open_ x hx
  ·have:=(h.open_ _ (Ag hk)).2.2
   exact⟨ht,h2,by rw[h3];exact this⟩
 ·have q:(u3k (e.2.set k t)).Pairwise fun a b=>a<b:=by
   rw[hm];unfold u3k;rw[Dl];exact h.oasc
  unfold u3k at q
  rw[Dl] at q
  exact q
 ·show ∀x∈u3k (e.1.2.1++e.1.2.2.1++e.2.set k t),x<e.1.2.2.2.2
  rw[hid];exact h.below
 ·show(u3k (e.1.2.1++e.1.2.2.1++e.2.set k t)).Nodup
  rw[hid];exact h.nodup
theorem p8d {e:u08} (h:EngR e) (id:Int):EngR (leaveE e id):=
 s59 h (t2m h.base _) (u3m e id) (Bv _) (Bv _) fun x hx y hy=>h.apart x (t5z hx) y ((u3m e id).subset hy)
theorem p8x {e:u08} (h:EngR e):EngR (u2c e.1 e.2,e.2):=
 s59 h (t2m h.base _) (Dm _) (Bv _) (Bv _) fun x hx y hy=>h.apart x (t5z hx) y hy
theorem r2b {b:u0k} (h:t80 b=false):b.2.1.length<12∧b.1.length≤100∧b.2.2.2.1<9999:=by
 unfold t80 at h
 simp only[Es,Bu] at h
 obtain⟨h1,h2,h3⟩:=h
 exact⟨by omega,by omega,by omega⟩
theorem t1i {e:u08} (h:EngR e) {t:u0f} (ht:t∈e.2∨t∈e.1.2.2.1) (hf:t80 e.1=false):BaseR (u04 e.1 t):=by
 obtain⟨f1,f2,f3⟩:=r2b hf
 have hq:TxnR t∧t.2.2.1≤e.1.2.2.2.1:=by
  rcases ht with ht | ht
  ·exact⟨(h.open_ t ht).1,(h.open_ t ht).2.2⟩
  ·exact⟨(h.base.ready t ht).1,(h.base.ready t ht).2.2⟩
 have hlt:t.1<e.1.2.2.2.2:=by
  rcases ht with ht | ht
  ·exact h.bel t (Az _ ht)
  ·exact h.bel t (Bf _ (Az _ ht))
 refine q7d h.base hq.1 hq.2 f3 f1 (by omega) (fun x hx=> ?_) (by have:=h.base.next.2;omega)
 rcases ht with ht | ht
 ·exact h.apart x (Bf _ hx) t ht
 ·exact(o5p.mp (o5p.mp h.uq).1).2.2 x hx t ht
theorem s1x {b:u0k} {t x:u0f} (h:x∈(u04 b t).2.1++(u04 b t).2.2.1):x.1=t.1∨ ∃y∈b.2.1++b.2.2.1,y.1=x.1:=by
 rcases Ay.mp h with h | h
 ·rcases Ay.mp h with h | h
  ·exact .inr ⟨x,Bf _ h,rfl⟩
  ·rw[Ax] at h;subst h;exact .inl rfl
 ·obtain⟨y,hy,rfl⟩:=Bx.mp h
  exact .inr ⟨y,Az _ (A6.mp hy).1,rfl⟩
theorem q9k {e:u08} (h:EngR e) {t:u0f} (ht:t∈e.2) (hf:t80 e.1=false):EngR (t6e e t):=by
 have hg:=u5k e.1.2.2.2.2 t.1
 refine s59 h (t2m (t1i h (.inl ht) hf) _) (u3m e t.1) (by show e.1.2.2.2.1≤e.1.2.2.2.1+1;omega) hg.1 fun x hx y hy=> ?_
 rcases s1x (t5z hx) with q | ⟨z,hz,q⟩
 ·rw[q];exact(q4l hy).symm
 ·rw[←q];exact h.apart z hz y ((u3m e t.1).subset hy)
theorem o3h {e:u08} (h:EngR e) {t:u0f} (ht:t∈e.1.2.2.1) (hf:t80 e.1=false):EngR (p6t e t):=by
 have hg:=u5k e.1.2.2.2.2 t.1
 refine s59 h (t2m (t1i h (.inr ht) hf) _) (Dm _) (by show e.1.2.2.2.1≤e.1.2.2.2.1+1;omega) hg.1 fun x hx y hy=> ?_
 rcases s1x (t5z hx) with q | ⟨z,hz,q⟩
 ·rw[q];exact h.apart t (Az _ ht) y hy
 ·rw[←q];exact h.apart z hz y hy
theorem o6a {e:u08} (h:EngR e) (n:Hs):EngR (noE e n):=by
 refine s59 h (t2m (s5q h.base n) _) (Dm _) (Bv _) (Bv _) fun x hx y hy=> ?_
 rcases Ay.mp (t5z hx) with hx | hx
 ·exact h.apart x (Bf _ hx) y hy
 ·exact h.apart x (Az _ (A6.mp hx).1) y hy
theorem o0r {e:u08} (h:EngR e) {t:u0f} (ht:t∈e.2) {n:Hs} (hk:u38 n=true) (hl:e.1.2.2.1.length<3) (hn:∀x∈e.1.2.2.1,x.2.2.2.2.2.2.2≠n):EngR (p3s e t n):=by
 obtain⟨q1,q2,q3⟩:=h.open_ t ht
 have hlt:=h.bel t (Az _ ht)
 have hg:=u5k e.1.2.2.2.2 t.1
 have hb:BaseR (u1a e.1 t n):=s1e h.base q1 (by omega) q3 hk hl hn (fun x hx=>h.apart x hx t ht) (by have:=h.base.next.2;omega)
 refine s59 h (t2m hb _) (u3m e t.1) (Bv _) hg.1 fun x hx y hy=> ?_
 have hy' :=(u3m e t.1).subset hy
 rcases Ay.mp (t5z hx) with hx | hx
 ·exact h.apart x (Bf _ hx) y hy'
 ·rcases Ay.mp hx with hx | hx
  ·rcases Ay.mp hx with hx | hx
   ·exact h.apart x (Az _ (A6.mp hx).1) y hy'
   ·rw[Ax] at hx;subst hx;exact(q4l hy).symm
  ·exact h.apart x (Az _ (A6.mp hx).1) y hy'
end
section
def p3b (x:u0f):Bool:=decide (x.2.1=2) || decide (x.2.1=3)
def q9s (t:u0f) (l:Hu u0f):Bool:=l.any fun x=>p3b x&&ahead x t
def s9y (t:u0f) (l:Hu u0f):Bool:=l.any fun x=> !decide (x.1=t.1)&&((decide (x.2.1=2) || (decide (x.2.1=3)&&decide (x.2.2.2.1 >t.2.2.1)))&&r2l x.2.2.2.2.2.1 t.2.2.2.2.2.1)
def r7g (f:u0f→Bool) (t:u0f) (l:Hu u0f):Bool:=
 (q9s t l&&s7h t l) || (l.any (fun x=>p3b x&&(x.2.2.2.2.2.2.1&&ahead t x)) ||
  l.any fun p=>decide (p.2.1=2)&&(ahead p t&&(ahead t p || l.any fun x=>decide (x.2.1=2)&&(f x&&ahead x p))))
def s84 (t:u0f) (l:Hu u0f):Bool:=r7g (fun x=> !decide (x.1=t.1)) t l
def s6h (f:u0f→Bool) (t:u0f) (l:Hu u0f):Bool:=
 r7g f t l || ((q9s t l&&l.any fun x=>decide (x.2.1=2)&&ahead t x) || l.any fun x=>(decide (x.2.1=2)&&ahead t x)&&l.any fun y=>decide (y.2.1=2)&&(!decide (y.1=t.1)&&ahead x y))
def t07 (t:u0f) (l:Hu u0f):Bool:=s6h (fun x=> !decide (x.1=t.1)) t l
theorem t32 {a b:u0f} :ahead a b=true↔a.1≠b.1∧ ¬(a.2.1=3∧a.2.2.2.1≤b.2.2.1)∧ ¬(b.2.1=3∧b.2.2.2.1≤a.2.2.1)∧r37 a.2.2.2.2.1 b.2.2.2.2.2.1=true:=by
 unfold ahead r7c q15
 simp only[Ai,Bj,Bool.and_eq_false_iff,Bu,not_and,and_assoc]
 constructor
 ·rintro⟨h1,h2,h3,h4⟩
  exact⟨h1,fun e=>h2.resolve_left (fun q=>q e),fun e=>h3.resolve_left (fun q=>q e),h4⟩
 ·rintro⟨h1,h2,h3,h4⟩
  refine⟨h1,?_,?_,h4⟩
  ·by_cases e:a.2.1=3
   ·exact .inr (h2 e)
   ·exact .inl e
  ·by_cases e:b.2.1=3
   ·exact .inr (h3 e)
   ·exact .inl e
structure SameC (x y:u0f):Prop where
 id:x.1=y.1
 st:x.2.1=y.2.1
 snap:x.2.2.1=y.2.2.1
 cs:x.2.2.2.1=y.2.2.2.1
 rs:x.2.2.2.2.1=y.2.2.2.2.1
 ws:x.2.2.2.2.2.1=y.2.2.2.2.2.1
theorem SameC.refl (x:u0f):SameC x x:=⟨rfl,rfl,rfl,rfl,rfl,rfl⟩
theorem SameC.symm {x y:u0f} (h:SameC x y):SameC y x:=⟨h.id.symm,h.st.symm,h.snap.symm,h.cs.symm,h.rs.symm,h.ws.symm⟩
theorem SameC.ahead {x x' y y' :u0f} (h:SameC x x') (k:SameC y y'):Ab.ahead x y=Ab.ahead x' y' :=by
 unfold Ab.ahead r7c q15
 rw[h.id,h.st,h.snap,h.cs,h.rs,k.id,k.st,k.snap,k.cs,k.ws]
theorem r19 (d x:u0f):SameC (q1w d x) x:=⟨rfl,rfl,rfl,rfl,rfl,rfl⟩
theorem s60 {b:u0k} {t d y:u0f} (hd:SameC d (u41 b t)) (ht:t.2.1≠3) (hy:y.2.2.1≤b.2.2.2.1):ahead d y=ahead t y∧ahead y d=ahead y t:=by
 have h1:ahead d y=ahead (u41 b t) y:=hd.ahead (SameC.refl y)
 have h2:ahead y d=ahead y (u41 b t):=(SameC.refl y).ahead hd
 rw[h1,h2]
 constructor
 ·apply Cd.mpr
  rw[t32,t32]
  refine Fo fun _=>Hc ?_ (Hc Hp Hp)
  constructor
  ·exact fun _ q=>ht q.1
  ·rintro _ ⟨_,q⟩
   have q:b.2.2.2.1+1≤y.2.2.1:=q
   omega
 ·apply Cd.mpr
  rw[t32,t32]
  refine Fo fun _=>Hc Hp (Hc ?_ Hp)
  constructor
  ·exact fun _ q=>ht q.1
  ·rintro _ ⟨_,q⟩
   have q:b.2.2.2.1+1≤y.2.2.1:=q
   omega
theorem q13 (a b:Hu WrT):r2l a b=r2l b a:=by
 unfold r2l
 apply Cd.mpr
 simp only[Cm]
 constructor
 ·rintro⟨x,hx,y,hy,h⟩;exact⟨y,hy,x,hx,by rw[q2d];exact h⟩
 ·rintro⟨x,hx,y,hy,h⟩;exact⟨y,hy,x,hx,by rw[q2d];exact h⟩
structure Ser (H:Hu u0f) (e:u08):Prop where
 eng:EngR e
 st:∀x∈H,x.2.1=3
 snap:∀x∈H,x.2.2.1<x.2.2.2.1∧x.2.2.2.1≤e.1.2.2.2.1
 asc:H.Pairwise fun x y=>x.2.2.2.1<y.2.2.2.1
 uqh:uq (H++(e.1.2.2.1++e.2))
 bel:∀x∈H,x.1<e.1.2.2.2.2
 pin:∀x∈e.1.2.1,∃y∈H,SameC x y
 cov:∀y∈H,∀o∈e.2,o.2.2.1<y.2.2.2.1→ ∃x∈e.1.2.1,SameC x y
 outp:∀x∈e.1.2.1,∀y∈H,ahead x y=true→y.2.2.2.1<x.2.2.2.1→x.2.2.2.2.2.2.1=true
 outr:∀p∈e.1.2.2.1,∀y∈H,ahead p y=true→p.2.2.2.2.2.2.1=true
 no3:∀x∈H,∀y∈H,∀z∈H,ahead x y=true→ahead y z=true→z.2.2.2.1<y.2.2.2.1→z.2.2.2.1≤x.2.2.2.1→False
 noA:∀x∈H,∀p∈e.1.2.2.1,∀z∈H,ahead x p=true→ahead p z=true→z.2.2.2.1≤x.2.2.2.1→False
 noB:∀p∈e.1.2.2.1,∀y∈H,∀z∈H,ahead p y=true→ahead y z=true→z.2.2.2.1<y.2.2.2.1→False
 noD:∀p∈e.1.2.2.1,∀q∈e.1.2.2.1,∀z∈H,ahead p q=true→ahead q z=true→False
 noE:∀p∈e.1.2.2.1,∀q∈e.1.2.2.1,∀r∈e.1.2.2.1,ahead p q=true→ahead q r=true→False
 ww:∀x∈H,∀y∈H,x.2.2.2.1<y.2.2.2.1→r2l x.2.2.2.2.2.1 y.2.2.2.2.2.1=true→x.2.2.2.1≤y.2.2.1
 wr:∀p∈e.1.2.2.1,∀y∈H,r2l y.2.2.2.2.2.1 p.2.2.2.2.2.1=true→y.2.2.2.1≤p.2.2.1
 rr:∀p∈e.1.2.2.1,∀q∈e.1.2.2.1,p.1≠q.1→r2l p.2.2.2.2.2.1 q.2.2.2.2.2.1=true→False
def s4j (c:Int) (t:u0f):u0f:=(t.1,(3:Int),t.2.2.1,c,t.2.2.2.2.1,t.2.2.2.2.2.1,t.2.2.2.2.2.2.1,(⟨#[]⟩:Hs))
theorem q93 (b:u0k) (t:u0f):SameC (s4j (b.2.2.2.1+1) t) (u41 b t):=⟨rfl,rfl,rfl,rfl,rfl,rfl⟩
theorem Ser.opens {H:Hu u0f} {e e' :u08} (h:Ser H e) (hR:EngR e') (h1:e'.1.2.1=e.1.2.1) (h2:e'.1.2.2.1=e.1.2.2.1) (h3:e'.1.2.2.2.1=e.1.2.2.2.1) (h4:e.1.2.2.2.2≤e'.1.2.2.2.2)
 (ho:∀o∈e'.2,(∃p∈e.2,p.1=o.1∧p.2.2.1=o.2.2.1)∨(e.1.2.2.2.2≤o.1∧o.2.2.1=e.1.2.2.2.1)):Ser H e' :=by
 obtain⟨u1,u2,u3⟩:=o5p.mp h.uqh
 refine⟨hR,h.st,by rw[h3];exact h.snap,h.asc,?_,fun x hx=>by have:=h.bel x hx;omega,by rw[h1];exact h.pin,?_,by rw[h1];exact h.outp,by rw[h2];exact h.outr,h.no3,by rw[h2];exact h.noA,by rw[h2];exact h.noB,by rw[h2];exact h.noD,by rw[h2];exact h.noE,h.ww,by rw[h2];exact h.wr,by rw[h2];exact h.rr⟩
 ·have hu:=hR.uq
  rw[Bi] at hu
  refine o5p.mpr ⟨u1,(o5p.mp hu).2.1,fun x hx y hy=> ?_⟩
  rcases Ay.mp hy with hy | hy
  ·rw[h2] at hy;exact u3 x hx y (Bf _ hy)
  ·rcases ho y hy with ⟨p,hp,e1,_⟩ | ⟨e1,_⟩
   ·rw[←e1];exact u3 x hx p (Az _ hp)
   ·have:=h.bel x hx;omega
 ·intro y hy o ho' hlt
  rw[h1]
  rcases ho o ho' with ⟨p,hp,_,e2⟩ | ⟨_,e2⟩
  ·exact h.cov y hy p hp (by omega)
  ·have:=(h.snap y hy).2;omega
theorem q8h (b:u0k):∀(o:Hu u0f),∀t∈o,t5e b o≤t.2.2.1:=by
 have le:∀(o:Hu u0f) (m:Int),o.foldl (fun m t=>if t.2.2.1<m then t.2.2.1 else m) m≤m:=by
  intro o
  induction o with
  | nil=>intro m;exact Bv _
  | cons t o ih=>
   intro m
   rw[Bs]
   refine Int.le_trans (ih _) ?_
   split<;>omega
 have key:∀(o:Hu u0f) (m:Int),∀t∈o,o.foldl (fun m t=>if t.2.2.1<m then t.2.2.1 else m) m≤t.2.2.1:=by
  intro o
  induction o with
  | nil=>intro m t ht;cases ht
  | cons x o ih=>
   intro m t ht
   rw[Bs]
   rcases A8.mp ht with rfl | ht
   ·refine Int.le_trans (le o _) ?_
    split<;>omega
   ·exact ih _ t ht
 exact fun o t ht=>key o _ t ht
theorem Ser.tidy {H:Hu u0f} {e:u08} (h:Ser H e):Ser H (u2c e.1 e.2,e.2):=by
 have sub:∀x∈(u2c e.1 e.2).2.1,x∈e.1.2.1:=fun x hx=>(A6.mp hx).1
 refine⟨p8x h.eng,h.st,h.snap,h.asc,h.uqh,h.bel,fun x hx=>h.pin x (sub x hx),?_,fun x hx=>h.outp x (sub x hx),h.outr,h.no3,h.noA,h.noB,h.noD,h.noE,h.ww,h.wr,h.rr⟩
 intro y hy o ho hlt
 obtain⟨x,hx,hs⟩:=h.cov y hy o ho hlt
 refine⟨x,A6.mpr ⟨hx,?_⟩,hs⟩
 have:=q8h e.1 e.2 o ho
 have:=hs.cs
 simp only[Bj,Bu]
 omega
theorem Ser.fall {H:Hu u0f} {e:u08} {b:u0k} (h:Ser H e) (hb:BaseR b) (h1:b.2.1= []) (h2:b.2.2.1=e.1.2.2.1) (h3:b.2.2.2.1=e.1.2.2.2.1) (h4:∀x∈H,x.1<b.2.2.2.2):Ser H (b, []):=by
 have hE:EngR (b, []):=⟨hb,Cn _,fun t ht=>(by cases ht),List.Pairwise.nil,by simpa using hb.below,by simpa using hb.nodup⟩
 refine⟨hE,h.st,by rw[h3];exact h.snap,h.asc,?_,h4,(by rw[h1];intro x hx;cases hx),fun y _ o ho=>(by cases ho),(by rw[h1];intro x hx;cases hx),by rw[h2];exact h.outr,h.no3,by rw[h2];exact h.noA,by rw[h2];exact h.noB,by rw[h2];exact h.noD,by rw[h2];exact h.noE,h.ww,by rw[h2];exact h.wr,by rw[h2];exact h.rr⟩
 show uq (H++(b.2.2.1++ []))
 rw[Bw,h2]
 refine Ez ?_ h.uqh
 exact(Dm H).append (List.sublist_append_left _ _)
structure Passed (t:u0f) (P R:Hu u0f):Prop where
 nb:∀x∈P++R,x.1≠t.1→(x.2.1=2∨(x.2.1=3∧x.2.2.2.1 >t.2.2.1))→r2l x.2.2.2.2.2.1 t.2.2.2.2.2.1=true→False
 d1:∀x∈P++R,∀y∈P,ahead x t=true→ahead t y=true→False
 d2:∀x∈P++R,x.2.2.2.2.2.2.1=true→ahead t x=true→False
 d3:∀p∈R,ahead p t=true→ahead t p=true→False
 d4:∀p∈R,∀x∈R,ahead p t=true→ahead x p=true→x.1≠t.1→False
theorem q6s {t:u0f} {P R:Hu u0f} (hp:∀x∈P,x.2.1=3) (hr:∀x∈R,x.2.1=2) (h1:s9y t (P++R)=false) (h2:s84 t (P++R)=false):Passed t P R:=by
 have rd:∀x∈P++R,p3b x=true:=fun x hx=>by
  unfold p3b
  rcases Ay.mp hx with hx | hx
  ·simp[hp x hx]
  ·simp[hr x hx]
 unfold s84 r7g at h2
 simp only[Es] at h2
 obtain⟨g1,g2,g3⟩:=h2
 refine⟨fun x hx hne hs hm=> ?_,fun x hx y hy q1 q2=> ?_,fun x hx q1 q2=> ?_,fun p hp' q1 q2=> ?_,fun p hp' x hx q1 q2 hne=> ?_⟩
 ·have:=Ct.mp h1 x hx
  simp only[Ai,Cr,Bj,Ar,Bu,not_and] at this
  exact this hne hs hm
 ·have a1:q9s t (P++R)=true:=Cm.mpr ⟨x,hx,by rw[rd x hx,q1];rfl⟩
  have a2:s7h t (P++R)=true:=Cm.mpr ⟨y,Bf _ hy,by rw[hp y hy,q2];rfl⟩
  rw[a1,a2] at g1;cases g1
 ·have:=Ct.mp g2 x hx
  rw[rd x hx,q1,q2] at this
  exact this rfl
 ·have:=Ct.mp g3 p (Az _ hp')
  rw[hr p hp',q1,q2] at this
  exact this rfl
 ·have:=Ct.mp g3 p (Az _ hp')
  rw[hr p hp',q1] at this
  have a:((P++R).any fun x=>decide (x.2.1=2)&&(!decide (x.1=t.1)&&ahead x p))=true:=Cm.mpr ⟨x,Az _ hx,by rw[hr x hx,q2];simp[hne]⟩
  rw[a] at this
  simp at this
theorem Ser.inPast {H:Hu u0f} {e:u08} (h:Ser H e) {t:u0f} (ht:t∈e.2) {y:u0f} (hy:y∈H) (ha:ahead t y=true∨ahead y t=true):∃x∈e.1.2.1,SameC x y:=by
 refine h.cov y hy t ht ?_
 have hs:=h.st y hy
 rcases ha with ha | ha
 ·have:=(t32.mp ha).2.2.1
  exact Int.not_le.mp fun q=>this ⟨hs,q⟩
 ·have:=(t32.mp ha).2.1
  exact Int.not_le.mp fun q=>this ⟨hs,q⟩
theorem Ser.commit {H:Hu u0f} {e:u08} (h:Ser H e) {t:u0f} (ht:t∈e.2) (hf:t80 e.1=false) (hp:Passed t e.1.2.1 e.1.2.2.1):Ser (H++ [s4j (e.1.2.2.2.1+1) t]) (u04 e.1 t,t2q e t.1):=by
 have hE:=h.eng
 obtain⟨tR,t1,ts⟩:=hE.open_ t ht
 have t3:t.2.1≠3:=by omega
 have hsame:=q93 e.1 t
 have hgn:=u5k e.1.2.2.2.2 t.1
 have hHs:∀y∈H,y.2.2.1≤e.1.2.2.2.1:=fun y hy=>by have:=h.snap y hy;omega
 have hRs:∀y∈e.1.2.2.1,y.2.2.1≤e.1.2.2.2.1:=fun y hy=>(hE.base.ready y hy).2.2
 have hPs:∀y∈e.1.2.1,y.2.2.1≤e.1.2.2.2.1:=fun y hy=>by obtain⟨z,hz,q⟩:=h.pin y hy;rw[q.snap];exact hHs z hz
 have aL:∀y:u0f,y.2.2.1≤e.1.2.2.2.1→ahead (s4j (e.1.2.2.2.1+1) t) y=ahead t y:=fun y hy=>(s60 hsame t3 hy).1
 have aR:∀y:u0f,y.2.2.1≤e.1.2.2.2.1→ahead y (s4j (e.1.2.2.2.1+1) t)=ahead y t:=fun y hy=>(s60 hsame t3 hy).2
 have self:∀x:u0f,ahead x x=false:=fun x=>by
  cases q:ahead x x with
  | false=>rfl
  | true=>exact absurd rfl (t32.mp q).1
 have inP:∀y∈H,ahead y t=true→ ∃x∈e.1.2.1,ahead x t=true:=fun y hy q=>by
  obtain⟨x,hx,hs⟩:=h.inPast ht hy (.inr q)
  exact⟨x,hx,by rw[hs.ahead (SameC.refl t)];exact q⟩
 have outP:∀y∈H,ahead t y=true→ ∃x∈e.1.2.1,SameC x y∧ahead t x=true:=fun y hy q=>by
  obtain⟨x,hx,hs⟩:=h.inPast ht hy (.inl q)
  exact⟨x,hx,hs,by rw[(SameC.refl t).ahead hs];exact q⟩
 have ready' :∀p∈(u04 e.1 t).2.2.1,∃q∈e.1.2.2.1,p=q1w (u41 e.1 t) q:=fun p hp=>by
  obtain⟨q,hq,rfl⟩:=Bx.mp hp
  exact⟨q,(A6.mp hq).1,rfl⟩
 have snoc:∀ {x:u0f},x∈H++ [s4j (e.1.2.2.2.1+1) t] →x∈H∨x=s4j (e.1.2.2.2.1+1) t:=fun {x} hx=>by
  rcases Ay.mp hx with hx | hx
  ·exact .inl hx
  ·exact .inr (Ax.mp hx)
 have csN:(s4j (e.1.2.2.2.1+1) t).2.2.2.1=e.1.2.2.2.1+1:=rfl
 have fl:∀(q y:u0f),ahead (q1w (u41 e.1 t) q) y=ahead q y:=fun q y=>(r19 _ q).ahead (SameC.refl y)
 have fr:∀(q y:u0f),ahead y (q1w (u41 e.1 t) q)=ahead y q:=fun q y=>(SameC.refl y).ahead (r19 _ q)
 obtain⟨u1,u2,u3⟩:=o5p.mp h.uqh
 obtain⟨u4,u5,u6⟩:=o5p.mp u2
 have hEc:=q9k hE ht hf
 have hE' :EngR (u04 e.1 t,t2q e t.1):=s59 hE (t1i hE (.inl ht) hf) (u3m e t.1) (by show e.1.2.2.2.1≤e.1.2.2.2.1+1;omega) hgn.1 fun x hx y hy=>by
  rcases s1x hx with q | ⟨z,hz,q⟩
  ·rw[q];exact(q4l hy).symm
  ·rw[←q];exact hE.apart z hz y ((u3m e t.1).subset hy)
 refine⟨hE',?_,?_,?_,?_,?_,?_,?_,?_,?_,?_,?_,?_,?_,?_,?_,?_,?_⟩
 ·-- st
  intro x hx
  rcases snoc hx with hx | rfl
  ·exact h.st x hx
  ·rfl
 ·-- snap
  intro x hx
  show x.2.2.1<x.2.2.2.1∧x.2.2.2.1≤e.1.2.2.2.1+1
  rcases snoc hx with hx | rfl
  ·have:=h.snap x hx;omega
  ·show t.2.2.1<e.1.2.2.2.1+1∧e.1.2.2.2.1+1≤e.1.2.2.2.1+1
   omega
 ·-- asc
  rw[Cg]
  refine⟨h.asc,Eu _ _,fun x hx y hy=> ?_⟩
  rw[Ax] at hy;subst hy
  have:=(h.snap x hx).2
  show x.2.2.2.1<e.1.2.2.2.1+1
  omega
 ·-- uq
  have hu:=hE'.uq
  rw[Bi] at hu
  obtain⟨k1,k2,k3⟩:=o5p.mp hu
  refine o5p.mpr ⟨o5p.mpr ⟨u1,q99,fun x hx y hy=> ?_⟩,k2,fun x hx y hy=> ?_⟩
  ·rw[Ax] at hy;subst hy
   exact u3 x hx t (Az _ ht)
  ·rcases snoc hx with hx | rfl
   ·rcases Ay.mp hy with hy | hy
    ·obtain⟨q,hq,rfl⟩:=ready' y hy
     exact u3 x hx q (Bf _ hq)
    ·exact u3 x hx y (Az _ ((u3m e t.1).subset hy))
   ·exact k3 (u41 e.1 t) (by show _∈e.1.2.1++ [u41 e.1 t];simp) y hy
 ·-- below
  intro x hx
  show x.1<u01 e.1.2.2.2.2 t.1
  rcases snoc hx with hx | rfl
  ·have:=h.bel x hx;omega
  ·exact hgn.2
 ·-- pin
  intro x hx
  rcases Ay.mp hx with hx | hx
  ·obtain⟨y,hy,q⟩:=h.pin x hx
   exact⟨y,Bf _ hy,q⟩
  ·rw[Ax] at hx;subst hx
   exact⟨_,Az _ (Ax.mpr rfl),hsame.symm⟩
 ·-- cov
  intro y hy o ho hlt
  rcases snoc hy with hy | rfl
  ·obtain⟨x,hx,q⟩:=h.cov y hy o ((u3m e t.1).subset ho) hlt
   exact⟨x,Bf _ hx,q⟩
  ·exact⟨u41 e.1 t,Az _ (Ax.mpr rfl),hsame.symm⟩
 ·-- outp
  intro x hx y hy ha hlt
  rcases Ay.mp hx with hx | hx
  ·rcases snoc hy with hy | rfl
   ·exact h.outp x hx y hy ha hlt
   ·obtain⟨z,hz,q⟩:=h.pin x hx
    have:=(h.snap z hz).2
    have:=q.cs
    have hlt:e.1.2.2.2.1+1<x.2.2.2.1:=hlt
    omega
  ·rw[Ax] at hx;subst hx
   rcases snoc hy with hy | rfl
   ·have q:ahead t y=true:=by
     rw[hsame.symm.ahead (SameC.refl y),aL y (hHs y hy)] at ha;exact ha
    obtain⟨z,hz,hs,hz2⟩:=outP y hy q
    show(t.2.2.2.2.2.2.1 || s7h t e.1.2.1)=true
    have:s7h t e.1.2.1=true:=Cm.mpr ⟨z,hz,by rw[(hE.base.past z hz).2.1,hz2];rfl⟩
    rw[this,Ew]
   ·rw[hsame.symm.ahead (SameC.refl _),self] at ha;cases ha
 ·-- outr
  intro p hp' y hy ha
  obtain⟨q,hq,rfl⟩:=ready' p hp'
  rw[fl] at ha
  show(q.2.2.2.2.2.2.1 || ahead q (u41 e.1 t))=true
  rcases snoc hy with hy | rfl
  ·rw[h.outr q hq y hy ha];rfl
  ·rw[(SameC.refl q).ahead hsame] at ha
   rw[ha,Ew]
 ·-- no3
  intro x hx y hy z hz q1 q2 l1 l2
  rcases snoc hz with hz | rfl
  ·rcases snoc hy with hy | rfl
   ·rcases snoc hx with hx | rfl
    ·exact h.no3 x hx y hy z hz q1 q2 l1 l2
    ·-- it reads ahead of y,which is Out
     rw[aL y (hHs y hy)] at q1
     obtain⟨w,hw,hs,hw2⟩:=outP y hy q1
     refine hp.d2 w (Bf _ hw) (h.outp w hw z hz ?_ (by rw[hs.cs];exact l1)) hw2
     rw[hs.ahead (SameC.refl z)];exact q2
   ·rw[aL z (hHs z hz)] at q2
    obtain⟨w,hw,_,hw2⟩:=outP z hz q2
    rcases snoc hx with hx | rfl
    ·rw[aR x (hHs x hx)] at q1
     obtain⟨v,hv,hv2⟩:=inP x hx q1
     exact hp.d1 v (Bf _ hv) w hw hv2 hw2
    ·rw[self] at q1;cases q1
  ·rcases snoc hy with hy | rfl
   ·have:=(h.snap y hy).2
    rw[csN] at l1
    omega
   ·rw[self] at q2;cases q2
 ·-- noA
  intro x hx p hp' z hz q1 q2 l
  obtain⟨q,hq,rfl⟩:=ready' p hp'
  rw[fr] at q1;rw[fl] at q2
  rcases snoc hz with hz | rfl
  ·rcases snoc hx with hx | rfl
   ·exact h.noA x hx q hq z hz q1 q2 l
   ·rw[aL q (hRs q hq)] at q1
    exact hp.d2 q (Az _ hq) (h.outr q hq z hz q2) q1
  ·rcases snoc hx with hx | rfl
   ·have:=(h.snap x hx).2
    rw[csN] at l
    omega
   ·rw[aL q (hRs q hq)] at q1
    rw[aR q (hRs q hq)] at q2
    exact hp.d3 q hq q2 q1
 ·-- noB
  intro p hp' y hy z hz q1 q2 l
  obtain⟨q,hq,rfl⟩:=ready' p hp'
  rw[fl] at q1
  rcases snoc hz with hz | rfl
  ·rcases snoc hy with hy | rfl
   ·exact h.noB q hq y hy z hz q1 q2 l
   ·rw[aR q (hRs q hq)] at q1
    rw[aL z (hHs z hz)] at q2
    obtain⟨w,hw,_,hw2⟩:=outP z hz q2
    exact hp.d1 q (Az _ hq) w hw q1 hw2
  ·rcases snoc hy with hy | rfl
   ·have:=(h.snap y hy).2
    rw[csN] at l
    omega
   ·rw[self] at q2;cases q2
 ·-- noD
  intro p hp' p2 hp2 z hz q1 q2
  obtain⟨q,hq,rfl⟩:=ready' p hp'
  obtain⟨r,hr,rfl⟩:=ready' p2 hp2
  rw[fl,fr] at q1;rw[fl] at q2
  rcases snoc hz with hz | rfl
  ·exact h.noD q hq r hr z hz q1 q2
  ·rw[aR r (hRs r hr)] at q2
   exact hp.d4 r hr q hq q2 q1 (hE.apart q (Az _ hq) t ht)
 ·-- noE
  intro p hp' p2 hp2 p3 hp3 q1 q2
  obtain⟨q,hq,rfl⟩:=ready' p hp'
  obtain⟨r,hr,rfl⟩:=ready' p2 hp2
  obtain⟨s,hs,rfl⟩:=ready' p3 hp3
  rw[fl,fr] at q1;rw[fl,fr] at q2
  exact h.noE q hq r hr s hs q1 q2
 ·-- ww
  intro x hx y hy l m
  rcases snoc hy with hy | rfl
  ·rcases snoc hx with hx | rfl
   ·exact h.ww x hx y hy l m
   ·have:=(h.snap y hy).2
    rw[csN] at l
    omega
  ·rcases snoc hx with hx | rfl
   ·show x.2.2.2.1≤t.2.2.1
    apply Hk.mp
    intro hlt
    obtain⟨w,hw,hs⟩:=h.cov x hx t ht hlt
    refine hp.nb w (Bf _ hw) (hE.apart w (Bf _ hw) t ht) (.inr ⟨(hE.base.past w hw).2.1,by rw[hs.cs];exact hlt⟩) ?_
    rw[hs.ws];exact m
   ·rw[csN] at l;omega
 ·-- wr
  intro p hp' y hy m
  obtain⟨q,hq,rfl⟩:=ready' p hp'
  show y.2.2.2.1≤q.2.2.1
  rcases snoc hy with hy | rfl
  ·exact h.wr q hq y hy m
  ·exfalso
   refine hp.nb q (Az _ hq) (hE.apart q (Az _ hq) t ht) (.inl (hE.base.ready q hq).2.1) ?_
   rw[q13];exact m
 ·-- rr
  intro p hp' p2 hp2 hne m
  obtain⟨q,hq,rfl⟩:=ready' p hp'
  obtain⟨r,hr,rfl⟩:=ready' p2 hp2
  exact h.rr q hq r hr hne m
end
section
section
variable {l:Hu u1f.den} (hl:o0h l) {u:Hu Nat} (ho:o0o l=some u)
include hl
include ho
def pre (l:Hu u1f.den) (u:Hu Nat) (a:Nat):Hu u1f.den:=(u.take a).map fun i=>rdL u1f l i
end
end
section
theorem t2t (x:u0f):ahead x x=false:=by
 cases q:ahead x x with
 | false=>rfl
 | true=>exact absurd rfl (t32.mp q).1
theorem Ser.yes {H:Hu u0f} {e:u08} (h:Ser H e) {t:u0f} (ht:t∈e.1.2.2.1) (hf:t80 e.1=false):Ser (H++ [s4j (e.1.2.2.2.1+1) t]) (u04 e.1 t,e.2):=by
 have hE:=h.eng
 obtain⟨tR,t2,ts⟩:=hE.base.ready t ht
 have t3:t.2.1≠3:=by omega
 have hsame:=q93 e.1 t
 have hgn:=u5k e.1.2.2.2.2 t.1
 have hHs:∀y∈H,y.2.2.1≤e.1.2.2.2.1:=fun y hy=>by have:=h.snap y hy;omega
 have hRs:∀y∈e.1.2.2.1,y.2.2.1≤e.1.2.2.2.1:=fun y hy=>(hE.base.ready y hy).2.2
 have aL:∀y:u0f,y.2.2.1≤e.1.2.2.2.1→ahead (s4j (e.1.2.2.2.1+1) t) y=ahead t y:=fun y hy=>(s60 hsame t3 hy).1
 have aR:∀y:u0f,y.2.2.1≤e.1.2.2.2.1→ahead y (s4j (e.1.2.2.2.1+1) t)=ahead y t:=fun y hy=>(s60 hsame t3 hy).2
 have ready' :∀p∈(u04 e.1 t).2.2.1,∃q∈e.1.2.2.1,p=q1w (u41 e.1 t) q:=fun p hp=>by
  obtain⟨q,hq,rfl⟩:=Bx.mp hp
  exact⟨q,(A6.mp hq).1,rfl⟩
 have readyN:∀p∈(u04 e.1 t).2.2.1,p.1≠t.1:=fun p hp=>by
  obtain⟨q,hq,rfl⟩:=Bx.mp hp
  have:=(A6.mp hq).2
  simp only[Bj,Bu] at this
  exact this
 have snoc:∀ {x:u0f},x∈H++ [s4j (e.1.2.2.2.1+1) t] →x∈H∨x=s4j (e.1.2.2.2.1+1) t:=fun {x} hx=>by
  rcases Ay.mp hx with hx | hx
  ·exact .inl hx
  ·exact .inr (Ax.mp hx)
 have csN:(s4j (e.1.2.2.2.1+1) t).2.2.2.1=e.1.2.2.2.1+1:=rfl
 have fl:∀(q y:u0f),ahead (q1w (u41 e.1 t) q) y=ahead q y:=fun q y=>(r19 _ q).ahead (SameC.refl y)
 have fr:∀(q y:u0f),ahead y (q1w (u41 e.1 t) q)=ahead y q:=fun q y=>(SameC.refl y).ahead (r19 _ q)
 obtain⟨u1,u2,u3⟩:=o5p.mp h.uqh
 obtain⟨u4,u5,u6⟩:=o5p.mp u2
 have hE' :EngR (u04 e.1 t,e.2):=s59 hE (t1i hE (.inr ht) hf) (Dm _) (by show e.1.2.2.2.1≤e.1.2.2.2.1+1;omega) hgn.1 fun x hx y hy=>by
  rcases s1x hx with q | ⟨z,hz,q⟩
  ·rw[q];exact hE.apart t (Az _ ht) y hy
  ·rw[←q];exact hE.apart z hz y hy
 refine⟨hE',?_,?_,?_,?_,?_,?_,?_,?_,?_,?_,?_,?_,?_,?_,?_,?_,?_⟩
 ·-- st
  intro x hx
  rcases snoc hx with hx | rfl
  ·exact h.st x hx
  ·rfl
 ·-- snap
  intro x hx
  show x.2.2.1<x.2.2.2.1∧x.2.2.2.1≤e.1.2.2.2.1+1
  rcases snoc hx with hx | rfl
  ·have:=h.snap x hx;omega
  ·show t.2.2.1<e.1.2.2.2.1+1∧e.1.2.2.2.1+1≤e.1.2.2.2.1+1
   omega
 ·-- asc
  rw[Cg]
  refine⟨h.asc,Eu _ _,fun x hx y hy=> ?_⟩
  rw[Ax] at hy;subst hy
  have:=(h.snap x hx).2
  show x.2.2.2.1<e.1.2.2.2.1+1
  omega
 ·-- uq
  have hu:=hE'.uq
  rw[Bi] at hu
  obtain⟨k1,k2,k3⟩:=o5p.mp hu
  refine o5p.mpr ⟨o5p.mpr ⟨u1,q99,fun x hx y hy=> ?_⟩,k2,fun x hx y hy=> ?_⟩
  ·rw[Ax] at hy;subst hy
   exact u3 x hx t (Bf _ ht)
  ·rcases snoc hx with hx | rfl
   ·rcases Ay.mp hy with hy | hy
    ·obtain⟨q,hq,rfl⟩:=ready' y hy
     exact u3 x hx q (Bf _ hq)
    ·exact u3 x hx y (Az _ hy)
   ·exact k3 (u41 e.1 t) (by show _∈e.1.2.1++ [u41 e.1 t];simp) y hy
 ·-- below
  intro x hx
  show x.1<u01 e.1.2.2.2.2 t.1
  rcases snoc hx with hx | rfl
  ·have:=h.bel x hx;omega
  ·exact hgn.2
 ·-- pin
  intro x hx
  rcases Ay.mp hx with hx | hx
  ·obtain⟨y,hy,q⟩:=h.pin x hx
   exact⟨y,Bf _ hy,q⟩
  ·rw[Ax] at hx;subst hx
   exact⟨_,Az _ (Ax.mpr rfl),hsame.symm⟩
 ·-- cov
  intro y hy o ho hlt
  rcases snoc hy with hy | rfl
  ·obtain⟨x,hx,q⟩:=h.cov y hy o ho hlt
   exact⟨x,Bf _ hx,q⟩
  ·exact⟨u41 e.1 t,Az _ (Ax.mpr rfl),hsame.symm⟩
 ·-- outp
  intro x hx y hy ha hlt
  rcases Ay.mp hx with hx | hx
  ·rcases snoc hy with hy | rfl
   ·exact h.outp x hx y hy ha hlt
   ·obtain⟨z,hz,q⟩:=h.pin x hx
    have:=(h.snap z hz).2
    have:=q.cs
    have hlt:e.1.2.2.2.1+1<x.2.2.2.1:=hlt
    omega
  ·rw[Ax] at hx;subst hx
   rcases snoc hy with hy | rfl
   ·have q:ahead t y=true:=by
     rw[hsame.symm.ahead (SameC.refl y),aL y (hHs y hy)] at ha;exact ha
    show(t.2.2.2.2.2.2.1 || s7h t e.1.2.1)=true
    rw[h.outr t ht y hy q];rfl
   ·rw[hsame.symm.ahead (SameC.refl _),t2t] at ha;cases ha
 ·-- outr
  intro p hp' y hy ha
  obtain⟨q,hq,rfl⟩:=ready' p hp'
  rw[fl] at ha
  show(q.2.2.2.2.2.2.1 || ahead q (u41 e.1 t))=true
  rcases snoc hy with hy | rfl
  ·rw[h.outr q hq y hy ha];rfl
  ·rw[(SameC.refl q).ahead hsame] at ha
   rw[ha,Ew]
 ·-- no3
  intro x hx y hy z hz q1 q2 l1 l2
  rcases snoc hz with hz | rfl
  ·rcases snoc hy with hy | rfl
   ·rcases snoc hx with hx | rfl
    ·exact h.no3 x hx y hy z hz q1 q2 l1 l2
    ·rw[aL y (hHs y hy)] at q1
     exact h.noB t ht y hy z hz q1 q2 l1
   ·rw[aL z (hHs z hz)] at q2
    rcases snoc hx with hx | rfl
    ·rw[aR x (hHs x hx)] at q1
     exact h.noA x hx t ht z hz q1 q2 l2
    ·rw[t2t] at q1;cases q1
  ·rcases snoc hy with hy | rfl
   ·have:=(h.snap y hy).2
    rw[csN] at l1
    omega
   ·rw[t2t] at q2;cases q2
 ·-- noA
  intro x hx p hp' z hz q1 q2 l
  obtain⟨q,hq,rfl⟩:=ready' p hp'
  rw[fr] at q1;rw[fl] at q2
  rcases snoc hz with hz | rfl
  ·rcases snoc hx with hx | rfl
   ·exact h.noA x hx q hq z hz q1 q2 l
   ·rw[aL q (hRs q hq)] at q1
    exact h.noD t ht q hq z hz q1 q2
  ·rcases snoc hx with hx | rfl
   ·have:=(h.snap x hx).2
    rw[csN] at l
    omega
   ·rw[aL q (hRs q hq)] at q1
    rw[aR q (hRs q hq)] at q2
    exact h.noE t ht q hq t ht q1 q2
 ·-- noB
  intro p hp' y hy z hz q1 q2 l
  obtain⟨q,hq,rfl⟩:=ready' p hp'
  rw[fl] at q1
  rcases snoc hz with hz | rfl
  ·rcases snoc hy with hy | rfl
   ·exact h.noB q hq y hy z hz q1 q2 l
   ·rw[aR q (hRs q hq)] at q1
    rw[aL z (hHs z hz)] at q2
    exact h.noD q hq t ht z hz q1 q2
  ·rcases snoc hy with hy | rfl
   ·have:=(h.snap y hy).2
    rw[csN] at l
    omega
   ·rw[t2t] at q2;cases q2
 ·-- noD
  intro p hp' p2 hp2 z hz q1 q2
  obtain⟨q,hq,rfl⟩:=ready' p hp'
  obtain⟨r,hr,rfl⟩:=ready' p2 hp2
  rw[fl,fr] at q1;rw[fl] at q2
  rcases snoc hz with hz | rfl
  ·exact h.noD q hq r hr z hz q1 q2
  ·rw[aR r (hRs r hr)] at q2
   exact h.noE q hq r hr t ht q1 q2
 ·-- noE
  intro p hp' p2 hp2 p3 hp3 q1 q2
  obtain⟨q,hq,rfl⟩:=ready' p hp'
  obtain⟨r,hr,rfl⟩:=ready' p2 hp2
  obtain⟨s,hs,rfl⟩:=ready' p3 hp3
  rw[fl,fr] at q1;rw[fl,fr] at q2
  exact h.noE q hq r hr s hs q1 q2
 ·-- ww
  intro x hx y hy l m
  rcases snoc hy with hy | rfl
  ·rcases snoc hx with hx | rfl
   ·exact h.ww x hx y hy l m
   ·have:=(h.snap y hy).2
    rw[csN] at l
    omega
  ·rcases snoc hx with hx | rfl
   ·exact h.wr t ht x hx m
   ·rw[csN] at l;omega
 ·-- wr
  intro p hp' y hy m
  have hne:=readyN p hp'
  obtain⟨q,hq,rfl⟩:=ready' p hp'
  show y.2.2.2.1≤q.2.2.1
  rcases snoc hy with hy | rfl
  ·exact h.wr q hq y hy m
  ·exact(h.rr t ht q hq (fun e=>hne e.symm) m).elim
 ·-- rr
  intro p hp' p2 hp2 hne m
  obtain⟨q,hq,rfl⟩:=ready' p hp'
  obtain⟨r,hr,rfl⟩:=ready' p2 hp2
  exact h.rr q hq r hr hne m
structure PassedR (t:u0f) (P R:Hu u0f):Prop extends Passed t P R where
 e1:∀x∈P++R,∀y∈R,ahead x t=true→ahead t y=true→False
 e2:∀x∈R,∀y∈R,ahead t x=true→ahead x y=true→y.1≠t.1→False
theorem q14 {t:u0f} {P R:Hu u0f} (hp:∀x∈P,x.2.1=3) (hr:∀x∈R,x.2.1=2) (h1:s9y t (P++R)=false) (h2:t07 t (P++R)=false):PassedR t P R:=by
 have rd:∀x∈P++R,p3b x=true:=fun x hx=>by
  unfold p3b
  rcases Ay.mp hx with hx | hx
  ·simp[hp x hx]
  ·simp[hr x hx]
 unfold t07 s6h at h2
 simp only[Es] at h2
 obtain⟨g1,g2,g3⟩:=h2
 refine {toPassed:=q6s hp hr h1 g1,e1:=fun x hx y hy q1 q2=> ?_,e2:=fun x hx y hy q1 q2 hne=> ?_}
 ·have a1:q9s t (P++R)=true:=Cm.mpr ⟨x,hx,by rw[rd x hx,q1];rfl⟩
  have a2:((P++R).any fun x=>decide (x.2.1=2)&&ahead t x)=true:=Cm.mpr ⟨y,Az _ hy,by rw[hr y hy,q2];rfl⟩
  rw[a1,a2] at g2;cases g2
 ·have:=Ct.mp g3 x (Az _ hx)
  have a:((P++R).any fun y=>decide (y.2.1=2)&&(!decide (y.1=t.1)&&ahead x y))=true:=Cm.mpr ⟨y,Az _ hy,by rw[hr y hy,q2];simp[hne]⟩
  rw[a,hr x hx,q1] at this
  exact this rfl
theorem Ser.ready {H:Hu u0f} {e:u08} (h:Ser H e) {t:u0f} {n:Hs} (ht:t∈e.2) (hk:u38 n=true) (hl:e.1.2.2.1.length<3) (hn:∀x∈e.1.2.2.1,x.2.2.2.2.2.2.2≠n) (hp:PassedR t e.1.2.1 e.1.2.2.1):
 Ser H (u1a e.1 t n,t2q e t.1):=by
 have hE:=h.eng
 obtain⟨tR,t1,ts⟩:=hE.open_ t ht
 have t3:t.2.1≠3:=by omega
 have hgn:=u5k e.1.2.2.2.2 t.1
 have hHs:∀y∈H,y.2.2.1≤e.1.2.2.2.1:=fun y hy=>by have:=h.snap y hy;omega
 have hRs:∀y∈e.1.2.2.1,y.2.2.1≤e.1.2.2.2.1:=fun y hy=>(hE.base.ready y hy).2.2
 have aL:∀y:u0f,ahead (u2b e.1 t n) y=ahead t y:=fun y=>by
  apply Cd.mpr
  rw[t32,t32]
  refine Fo fun _=>Hc ⟨fun _ q=>t3 q.1,fun _ q=> ?_⟩ Hp
  have q:(2:Int)=3:=q.1
  omega
 have aR:∀y:u0f,ahead y (u2b e.1 t n)=ahead y t:=fun y=>by
  apply Cd.mpr
  rw[t32,t32]
  refine Fo fun _=>Hc Hp (Hc ⟨fun _ q=>t3 q.1,fun _ q=> ?_⟩ Hp)
  have q:(2:Int)=3:=q.1
  omega
 have inP:∀y∈H,ahead y t=true→ ∃x∈e.1.2.1,ahead x t=true:=fun y hy q=>by
  obtain⟨x,hx,hs⟩:=h.inPast ht hy (.inr q)
  exact⟨x,hx,by rw[hs.ahead (SameC.refl t)];exact q⟩
 have outP:∀y∈H,ahead t y=true→ ∃x∈e.1.2.1,SameC x y∧ahead t x=true:=fun y hy q=>by
  obtain⟨x,hx,hs⟩:=h.inPast ht hy (.inl q)
  exact⟨x,hx,hs,by rw[(SameC.refl t).ahead hs];exact q⟩
 have ready' :∀ {p:u0f},p∈(u1a e.1 t n).2.2.1→p∈e.1.2.2.1∨p=u2b e.1 t n:=fun {x} hx=>by
  rcases Ay.mp hx with hx | hx
  ·rcases Ay.mp hx with hx | hx
   ·exact .inl (A6.mp hx).1
   ·rw[Ax] at hx;exact .inr hx
  ·exact .inl (A6.mp hx).1
 obtain⟨u1,u2,u3⟩:=o5p.mp h.uqh
 have hB:BaseR (u1a e.1 t n):=s1e hE.base tR t3 ts hk hl hn (fun x hx=>hE.apart x hx t ht) (by have:=hE.bel t (Az _ ht);have:=hE.base.next.2;omega)
 have hE' :EngR (u1a e.1 t n,t2q e t.1):=s59 hE hB (u3m e t.1) (Bv _) hgn.1 fun x hx y hy=>by
  have hy' :=(u3m e t.1).subset hy
  rcases Ay.mp hx with hx | hx
  ·exact hE.apart x (Bf _ hx) y hy'
  ·rcases ready' hx with hx | rfl
   ·exact hE.apart x (Az _ hx) y hy'
   ·exact(q4l hy).symm
 have apart:∀q∈e.1.2.2.1,q.1≠t.1:=fun q hq=>hE.apart q (Az _ hq) t ht
 refine⟨hE',h.st,h.snap,h.asc,?_,?_,h.pin,?_,h.outp,?_,h.no3,?_,?_,?_,?_,h.ww,?_,?_⟩
 ·-- uq
  have hu:=hE'.uq
  rw[Bi] at hu
  obtain⟨k1,k2,k3⟩:=o5p.mp hu
  refine o5p.mpr ⟨u1,k2,fun x hx y hy=> ?_⟩
  rcases Ay.mp hy with hy | hy
  ·rcases ready' hy with hy | rfl
   ·exact u3 x hx y (Bf _ hy)
   ·exact u3 x hx t (Az _ ht)
  ·exact u3 x hx y (Az _ ((u3m e t.1).subset hy))
 ·intro x hx
  have:=h.bel x hx
  show x.1<u01 e.1.2.2.2.2 t.1
  omega
 ·exact fun y hy o ho=>h.cov y hy o ((u3m e t.1).subset ho)
 ·-- outr
  intro p hp' y hy ha
  rcases ready' hp' with hp' | rfl
  ·exact h.outr p hp' y hy ha
  ·rw[aL] at ha
   obtain⟨z,hz,_,hz2⟩:=outP y hy ha
   show(t.2.2.2.2.2.2.1 || s7h t e.1.2.1)=true
   have:s7h t e.1.2.1=true:=Cm.mpr ⟨z,hz,by rw[(hE.base.past z hz).2.1,hz2];rfl⟩
   rw[this,Ew]
 ·-- noA
  intro x hx p hp' z hz q1 q2 l
  rcases ready' hp' with hp' | rfl
  ·exact h.noA x hx p hp' z hz q1 q2 l
  ·rw[aR] at q1;rw[aL] at q2
   obtain⟨v,hv,hv2⟩:=inP x hx q1
   obtain⟨w,hw,_,hw2⟩:=outP z hz q2
   exact hp.d1 v (Bf _ hv) w hw hv2 hw2
 ·-- noB
  intro p hp' y hy z hz q1 q2 l
  rcases ready' hp' with hp' | rfl
  ·exact h.noB p hp' y hy z hz q1 q2 l
  ·rw[aL] at q1
   obtain⟨w,hw,hs,hw2⟩:=outP y hy q1
   refine hp.d2 w (Bf _ hw) (h.outp w hw z hz ?_ (by rw[hs.cs];exact l)) hw2
   rw[hs.ahead (SameC.refl z)];exact q2
 ·-- noD
  intro p hp' q hq z hz q1 q2
  rcases ready' hp' with hp' | rfl
  ·rcases ready' hq with hq | rfl
   ·exact h.noD p hp' q hq z hz q1 q2
   ·rw[aR] at q1;rw[aL] at q2
    obtain⟨w,hw,_,hw2⟩:=outP z hz q2
    exact hp.d1 p (Az _ hp') w hw q1 hw2
  ·rcases ready' hq with hq | rfl
   ·rw[aL] at q1
    exact hp.d2 q (Az _ hq) (h.outr q hq z hz q2) q1
   ·rw[t2t] at q1;cases q1
 ·-- noE
  intro p hp' q hq r hr q1 q2
  rcases ready' hq with hq | rfl
  ·rcases ready' hp' with hp' | rfl
   ·rcases ready' hr with hr | rfl
    ·exact h.noE p hp' q hq r hr q1 q2
    ·rw[aR] at q2
     exact hp.d4 q hq p hp' q2 q1 (apart p hp')
   ·rw[aL] at q1
    rcases ready' hr with hr | rfl
    ·exact hp.e2 q hq r hr q1 q2 (apart r hr)
    ·rw[aR] at q2
     exact hp.d3 q hq q2 q1
  ·rw[aR] at q1;rw[aL] at q2
   rcases ready' hp' with hp' | rfl
   ·rcases ready' hr with hr | rfl
    ·exact hp.e1 p (Az _ hp') r hr q1 q2
    ·rw[aR,t2t] at q2;cases q2
   ·rw[aL,t2t] at q1;cases q1
 ·-- wr
  intro p hp' y hy m
  rcases ready' hp' with hp' | rfl
  ·exact h.wr p hp' y hy m
  ·show y.2.2.2.1≤t.2.2.1
   apply Hk.mp
   intro hlt
   obtain⟨w,hw,hs⟩:=h.cov y hy t ht hlt
   refine hp.nb w (Bf _ hw) (hE.apart w (Bf _ hw) t ht) (.inr ⟨(hE.base.past w hw).2.1,by rw[hs.cs];exact hlt⟩) ?_
   rw[hs.ws];exact m
 ·-- rr
  intro p hp' q hq hne m
  rcases ready' hp' with hp' | rfl
  ·rcases ready' hq with hq | rfl
   ·exact h.rr p hp' q hq hne m
   ·exact hp.nb p (Az _ hp') (apart p hp') (.inl (hE.base.ready p hp').2.1) m
  ·rcases ready' hq with hq | rfl
   ·refine hp.nb q (Az _ hq) (apart q hq) (.inl (hE.base.ready q hq).2.1) ?_
    rw[q13];exact m
   ·exact hne rfl
theorem Ser.no {H:Hu u0f} {e:u08} (h:Ser H e) (n:Hs):Ser H (u50 e.1 n,e.2):=by
 have sub:(u50 e.1 n).2.2.1.Sublist e.1.2.2.1:=Fg
 have m:∀ {x:u0f},x∈(u50 e.1 n).2.2.1→x∈e.1.2.2.1:=fun hx=>sub.subset hx
 have hE:=h.eng
 have hE' :EngR (u50 e.1 n,e.2):=s59 hE (s5q hE.base n) (Dm _) (Bv _) (Bv _) fun x hx y hy=>by
  rcases Ay.mp hx with hx | hx
  ·exact hE.apart x (Bf _ hx) y hy
  ·exact hE.apart x (Az _ (m hx)) y hy
 exact⟨hE',h.st,h.snap,h.asc,Ez ((Dm H).append (sub.append (Dm _))) h.uqh,h.bel,h.pin,h.cov,h.outp,fun p hp=>h.outr p (m hp),h.no3,
  fun x hx p hp=>h.noA x hx p (m hp),fun p hp=>h.noB p (m hp),fun p hp q hq=>h.noD p (m hp) q (m hq),fun p hp q hq r hr=>h.noE p (m hp) q (m hq) r (m hr),h.ww,fun p hp=>h.wr p (m hp),fun p hp q hq=>h.rr p (m hp) q (m hq)⟩
end
section
theorem u2j (l:Hu Int):(y7e l).size=l.length:=by
 simp[y7e,ByteArray.size]
theorem r6i {s:Hs} {i:Nat} (h:i<s.size):s.data.toList.getD i 0=s.data.toList[i]'(by simpa using h):=by
 rw[A5,A4 (by simpa using h)]
 rfl
theorem p38 (n m:Nat):Int.tdiv (n:Int) (m:Int)=((n / m:Nat):Int):=(Int.ofNat_tdiv n m).symm
theorem q7e (n m:Nat):Int.tmod (n:Int) (m:Int)=((n % m:Nat):Int):=(Int.ofNat_tmod n m).symm
theorem p4f {n:Nat} (h:n<256):IntKind.u8.wrap (n:Int)=(n:Int):=by
 simp[IntKind.wrap,IntKind.bits,IntKind.signed]
 omega
end
end
end Go.Proofs.YtdeadnnhblaflaaGreatDoor.Ab
