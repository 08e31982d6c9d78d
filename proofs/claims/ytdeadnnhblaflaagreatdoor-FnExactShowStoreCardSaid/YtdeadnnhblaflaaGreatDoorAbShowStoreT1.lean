import Derived.Test.YtdeadnnhblaflaaGreatDoorAbShowStoreG1
import Derived.Test.YtdeadnnhblaflaaGreatDoorAbK2
import Derived.Test.YtdeadnnhblaflaaGreatDoorAbF4
import Derived.Test.YtdeadnnhblaflaaGreatDoorAbS2
import Derived.Test.YtdeadnnhblaflaaGreatDoorAbS4
namespace Go.Proofs.YtdeadnnhblaflaaGreatDoor.Ab
open Go
set_option linter.unusedVariables false
set_option linter.unusedSimpArgs false
set_option linter.unnecessarySimpa false
set_option linter.unusedSectionVars false
section
section
theorem u0d (a b:Nat):decide ((a:Int)<(b:Int))=decide (a<b):=by simp
theorem t1y {X R A:Type} (W:X→Ht R) (n:Nat) (mk:A→Int→X) (res:Nat→A→R) (P:Nat→A→Prop)
 (hend:∀a,P n a→W (mk a (n:Int))=some (res n a))
 (hstep:∀(i:Nat) a,i<n→P i a→W (mk a (i:Int))=some (res i a)∨ ∃a',P (i+1) a' ∧res (i+1) a' =res i a∧W (mk a (i:Int))=W (mk a' ((i+1:Nat):Int))):
 ∀(i:Nat) a,i≤n→P i a→W (mk a (i:Int))=some (res i a):=by
 intro i a hi hP
 obtain⟨d,hd⟩:∃d,i+d=n:=⟨n - i,by omega⟩
 clear hi
 induction d generalizing i a with
 | zero=>
  have:i=n:=by omega
  subst this
  exact hend a hP
 | succ d ih=>
  rcases hstep i a (by omega) hP with h | ⟨a',h1,h2,h3⟩
  ·exact h
  ·rw[h3,ih (i+1) a' h1 (by omega),h2]
def t5i {E A R:Type} (f:Nat→E→A→A⊕R) (fin:A→R):Nat→Hu E→A→R
 | _, [],a=>fin a
 | i,x::l,a=>match f i x a with
  | .inl a' =>t5i f fin (i+1) l a'
  | .inr r=>r
theorem t5s {X R A E:Type} (W:X→Ht R) (l:Hu E) (mk:A→Int→X) (f:Nat→E→A→A⊕R) (fin:A→R) (P:Nat→A→Prop)
 (hend:∀a,P l.length a→W (mk a (l.length:Int))=some (fin a))
 (hstep:∀(i:Nat) (h:i<l.length) a,P i a→match f i l[i] a with
  | .inl a' =>P (i+1) a' ∧W (mk a (i:Int))=W (mk a' ((i+1:Nat):Int))
  | .inr r=>W (mk a (i:Int))=some r) (a:A) (hP:P 0 a):W (mk a 0)=some (t5i f fin 0 l a):=by
 have key:=t1y W l.length mk (fun i a=>t5i f fin i (l.drop i) a) P (fun a h=>by
  rw[hend a h,Dp (Au _)];rfl) (fun i a hi hP=>by
   have hs:=hstep i hi a hP
   have hd:l.drop i=l[i] ::l.drop (i+1):=Ce hi
   rw[hd]
   simp only[t5i]
   cases hf:f i l[i] a with
   | inl a' =>
    rw[hf] at hs
    exact .inr ⟨a',hs.1,rfl,hs.2⟩
   | inr r=>
    rw[hf] at hs
    exact .inl hs) 0 a (Cn _) hP
 exact key
def szr (b:Int) (w:Nat):Int:=if(w:Int)≤b then b - w else -1
theorem u57 {b:Int} {w:Nat} (h:(w:Int)≤b):szr b w=b - w:=Al h
theorem t2k {b:Int} {w:Nat} (h: ¬(w:Int)≤b):szr b w= -1:=Ao h
theorem t3r {b:Int} {v w:Nat} (h:(v:Int)≤b):szr (b - v) w=szr b (v+w):=by
 unfold szr
 by_cases h2:(w:Int)≤b - v
 ·rw[Al h2,Al (by omega)];omega
 ·rw[Ao h2,Ao (by omega)]
def Ty.wt:(t:Ty)→t.den→Nat
 | .int _,_=>0
 | .bool,_=>0
 | .str,s=>s.size
 | .sl e,l=>l.length+(l.map e.wt).sum
 | .pair a b,x=>a.wt x.1+b.wt x.2
theorem u1y {b:Int} {v w:Nat} {F:Ht Int} {K:Int→Ht Int} (hF:F=some (szr b v)) (hK:(v:Int)≤b→K (b - v)=some (szr (b - v) w)):
 (F.bind fun y=>bif decide (y<0) then some (-1) else K y)=some (szr b (v+w)):=by
 subst hF
 by_cases h:(v:Int)≤b
 ·rw[u57 h]
  have:decide (b - (v:Int)<0)=false:=by simp;omega
  simp only[zOb,this,Aa]
  rw[hK h,t3r h]
 ·rw[t2k h,t2k (b:=b) (w:=v+w) (by omega)]
  rfl
theorem t1b {X R E A:Type} (W:X→Ht R) (l:Hu E) (mk:A→Int→X) (f:A→E→A) (fin:A→R) (P:Nat→A→Prop)
 (hend:∀a,P l.length a→W (mk a (l.length:Int))=some (fin a))
 (hstep:∀(i:Nat) (h:i<l.length) a,P i a→P (i+1) (f a l[i])∧W (mk a (i:Int))=W (mk (f a l[i]) ((i+1:Nat):Int))) (a:A) (hP:P 0 a):W (mk a 0)=some (fin (l.foldl f a)):=by
 have:=t5s W l mk (fun _ x a=> .inl (f a x)) fin P hend (fun i h a hp=>hstep i h a hp) a hP
 rw[this]
 congr 1
 have key:∀(l:Hu E) (i:Nat) (a:A),t5i (fun _ x a=>(.inl (f a x):A⊕R)) fin i l a=fin (l.foldl f a):=by
  intro l
  induction l with
  | nil=>intro i a;rfl
  | cons x l ih=>intro i a;simp only[t5i,Bs];exact ih _ _
 exact key l 0 a
theorem t2d {X R E B:Type} (W:X→Ht R) (l:Hu E) (mk:Hu B→Int→X) (p:E→Bool) (g:E→B) (fin:Hu B→R) (hl:l.length≤1099511627776)
 (hend:∀a:Hu B,a.length≤l.length→W (mk a (l.length:Int))=some (fin a))
 (hstep:∀(i:Nat) (h:i<l.length) (a:Hu B),a.length≤i→W (mk a (i:Int))=bif p l[i] then W (mk (a++ [g l[i]]) ((i+1:Nat):Int)) else W (mk a ((i+1:Nat):Int))):W (mk [] 0)=some (fin ((l.filter p).map g)):=by
 have:=t1b W l mk (fun a x=>if p x then a++ [g x] else a) fin (fun i a=>a.length≤i) hend (fun i h a hp=>by
  have hs:=hstep i h a hp
  cases hc:p l[i] with
  | true=>
   simp only[hc,Ad] at hs
   simp only[Bl]
   exact⟨by simp;omega,hs⟩
  | false=>
   simp only[hc,Aa] at hs
   simp only[Br,Bk]
   exact⟨by omega,hs⟩) [] (Au 0)
 rw[this]
 congr 1
 have key:∀(l:Hu E) (a:Hu B),l.foldl (fun a x=>if p x then a++ [g x] else a) a=a++(l.filter p).map g:=by
  intro l
  induction l with
  | nil=>intro a;simp
  | cons x l ih=>
   intro a
   simp only[Bs,ih,Di]
   cases hp:p x<;>simp
 rw[key];simp
end
section
theorem t0h (b:Hs):b.toList=toS b:=by rw[ByteArray.toList_eq];rfl
theorem t5c {a b:Hs} (h:toS a=toS b):a=b:=by rw[←y8p a,h,y8p]
theorem u8e:∀(x y:Hu UInt8),Op.bytesLess x y=decide (x<y)
 | x, [] =>by simp[Op.bytesLess]
 | [],y::ys=>by simp[Op.bytesLess]
 | x::xs,y::ys=>by
  rw[Op.bytesLess,u8e xs ys,Cd]
  simp[List.cons_lt_cons_iff]
theorem t3n {a b:Hs} :y2y a b=true↔toS a<toS b:=by
 unfold y2y
 rw[t0h,t0h,u8e]
 simp
theorem t6s {a b:Hs} :y2y a b=false↔ ¬toS a<toS b:=by
 rw[←t3n];simp
theorem t54 (x:Hu UInt8): ¬x<x:=List.lt_irrefl x
theorem t55 {x y z:Hu UInt8} (h:x<y) (k:y<z):x<z:=List.lt_trans h k
theorem t56 (x y:Hu UInt8):x<y∨x=y∨y<x:=by
 rcases List.le_total x y with h | h
 ·rcases Fv.mp h with h | h
  ·exact .inl h
  ·exact .inr (.inl h)
 ·rcases Fv.mp h with h | h
  ·exact .inr (.inr h)
  ·exact .inr (.inl h.symm)
theorem u7z (a:Hs):y2y a a=false:=t6s.mpr (t54 _)
theorem t3k {a b c:Hs} (h:y2y a b=true) (k:y2y b c=true):y2y a c=true:=t3n.mpr (t55 (t3n.mp h) (t3n.mp k))
theorem t3l (a b:Hs):y2y a b=true∨a=b∨y2y b a=true:=by
 rcases t56 (toS a) (toS b) with h | h | h
 ·exact .inl (t3n.mpr h)
 ·exact .inr (.inl (t5c h))
 ·exact .inr (.inr (t3n.mpr h))
theorem t04 {a b:Hs} (h:y2y a b=true):y2y b a=false:=by
 cases k:y2y b a with
 | false=>rfl
 | true=>exact absurd (t3k h k) (by rw[u7z];exact Hf)
theorem t44 {a b:Hs} :z7m a b=false↔a≠b:=by
 rw[←Ey,y7c]
theorem t3i {a b:Hs} :(!(y2y a b || z7m a b))=y2y b a:=by
 rcases t3l a b with h | h | h
 ·rw[h,t04 h];rfl
 ·subst h;rw[u7z,y6i];rfl
 ·rw[t04 h,h]
  have:z7m a b=false:=t44.mpr (fun e=>by subst e;rw[u7z] at h;cases h)
  rw[this];rfl
def Asc (l:Hu Hs):Prop:=l.Pairwise fun a b=>y2y a b=true
theorem Asc.ext:∀ {l m:Hu Hs},Asc l→Asc m→(∀x,x∈l↔x∈m)→l=m
 | [], [],_,_,_=>rfl
 | [],y::m,_,_,h=>by have:=(h y).mpr (by simp);simp at this
 | x::l, [],_,_,h=>by have:=(h x).mp (by simp);simp at this
 | x::l,y::m,hl,hm,h=>by
  have hl' :=Ch.mp hl
  have hm' :=Ch.mp hm
  have hxy:x=y:=by
   rcases A8.mp ((h x).mp (by simp)) with e | e
   ·exact e
   ·rcases A8.mp ((h y).mpr (by simp)) with e' | e'
    ·exact e'.symm
    ·have:=t3k (hm'.1 x e) (hl'.1 y e')
     rw[u7z] at this;cases this
  subst hxy
  congr 1
  refine Asc.ext hl'.2 hm'.2 fun z=> ?_
  constructor
  ·intro hz
   rcases A8.mp ((h z).mp (by simp[hz])) with e | e
   ·subst e;have:=hl'.1 z hz;rw[u7z] at this;cases this
   ·exact e
  ·intro hz
   rcases A8.mp ((h z).mpr (by simp[hz])) with e | e
   ·subst e;have:=hm'.1 z hz;rw[u7z] at this;cases this
   ·exact e
theorem Asc.filter {l:Hu Hs} (h:Asc l) (p:Hs→Bool):Asc (l.filter p):=Dz p h
def t21 (k:Hs) (l:Hu Hs):Hu Hs:=l.filter (fun x=>y2y x k)++ [k] ++l.filter (fun x=> !(y2y x k || z7m x k))
theorem t4g {k x:Hs} {l:Hu Hs} :x∈t21 k l↔x=k∨x∈l:=by
 simp only[t21,Ay,A6,Ax,t3i]
 constructor
 ·rintro((h | h) | h)
  ·exact .inr h.1
  ·exact .inl h
  ·exact .inr h.1
 ·rintro(h | h)
  ·exact .inl (.inr h)
  ·rcases t3l x k with e | e | e
   ·exact .inl (.inl ⟨h,e⟩)
   ·exact .inl (.inr e)
   ·exact .inr ⟨h,e⟩
theorem t4d {k:Hs} {l:Hu Hs} (h:Asc l):Asc (t21 k l):=by
 unfold Asc t21
 rw[Cg,Cg]
 refine⟨⟨h.filter _,by simp,fun a ha b hb=> ?_⟩,h.filter _,fun a ha b hb=> ?_⟩
 ·simp only[Ax] at hb
  subst hb
  exact(A6.mp ha).2
 ·have hb:=(A6.mp hb).2
  rw[t3i] at hb
  rcases Ay.mp ha with ha | ha
  ·exact t3k (A6.mp ha).2 hb
  ·simp only[Ax] at ha
   subst ha
   exact hb
theorem t3g {l:Hu Hs} :∀ {a:Hu Hs},Asc a→Asc (l.foldl (fun a k=>t21 k a) a)∧ ∀x,x∈l.foldl (fun a k=>t21 k a) a↔x∈l∨x∈a:=by
 induction l with
 | nil=>intro a h;exact⟨h,fun x=>by simp⟩
 | cons k l ih=>
  intro a h
  obtain⟨h1,h2⟩:=ih (t4d (k:=k) h)
  refine⟨h1,fun x=> ?_⟩
  rw[Bs,h2,t4g,A8]
  constructor
  ·rintro(q | q | q)
   ·exact .inl (.inr q)
   ·exact .inl (.inl q)
   ·exact .inr q
  ·rintro((q | q) | q)
   ·exact .inr (.inl q)
   ·exact .inl q
   ·exact .inr (.inr q)
theorem u8f (d:Array (Hu UInt8)) (hs:∀i j:Nat,i≤j→j<d.size→d[i]! ≤d[j]!):∀m,m≤d.size→(Lib.compactUpTo d m).Pairwise (·< ·)∧(∀x,x∈Lib.compactUpTo d m↔ ∃i,i<m∧d[i]! =x)
 | 0,_=>by simp[Lib.compactUpTo]
 | m+1,hm=>by
  obtain⟨h1,h2⟩:=u8f d hs m (by omega)
  rw[Lib.compactUpTo_succ]
  by_cases hk:Lib.keeps d m=true
  ·rw[Al hk]
   constructor
   ·rw[Cg]
    refine⟨h1,by simp,fun a ha b hb=> ?_⟩
    simp only[Ax] at hb
    subst hb
    obtain⟨i,hi,rfl⟩:=(h2 a).mp ha
    unfold Lib.keeps at hk
    have hk:=Ej hk
    rcases hk with hk | hk
    ·omega
    ·have l1:=hs i (m - 1) (by omega) (by omega)
     have l2:=hs (m - 1) m (by omega) (by omega)
     rcases Fv.mp l2 with l2 | l2
     ·rcases Fv.mp l1 with l1 | l1
      ·exact t55 l1 l2
      ·rw[l1];exact l2
     ·exact absurd l2.symm hk
   ·intro x
    simp only[Ay,Ax,h2]
    constructor
    ·rintro(⟨i,hi,rfl⟩ | rfl)
     ·exact⟨i,by omega,rfl⟩
     ·exact⟨m,by omega,rfl⟩
    ·rintro⟨i,hi,rfl⟩
     rcases B8 i m with q | q
     ·exact .inl ⟨i,q,rfl⟩
     ·exact .inr (by rw[show i=m by omega])
  ·rw[Ao hk,Bw]
   refine⟨h1,fun x=> ?_⟩
   rw[h2]
   unfold Lib.keeps at hk
   simp only[Ar,Hr,ne_eq,Decidable.not_not] at hk
   constructor
   ·rintro⟨i,hi,rfl⟩;exact⟨i,by omega,rfl⟩
   ·rintro⟨i,hi,rfl⟩
    rcases B8 i m with q | q
    ·exact⟨i,q,rfl⟩
    ·have:i=m:=by omega
     subst this
     exact⟨i - 1,by omega,hk.2.symm⟩
def u8y (l:Hu Hs):Hu Hs:=y6n (y4d l)
theorem t0f (l:Hu Hs):Asc (u8y l)∧ ∀x,x∈u8y l↔x∈l:=by
 obtain⟨d,hd⟩:∃d,d=(l.map toS).mergeSort fun x y=>decide (x≤y):=⟨_,rfl⟩
 have hk:u8y l=(Lib.compact d).map unS:=by
  unfold u8y y6n y4d
  rw[←hd,List.map_map]
  have:(toS ∘unS)=id:=by funext x;rfl
  rw[this,List.map_id]
 have hsort:d.Pairwise (·≤ ·):=by
  rw[hd]
  have:=List.pairwise_mergeSort (le:=fun(x y:Hu UInt8)=>decide (x≤y)) (fun a b c h1 h2=>by
   simp only[Ar] at h1 h2 ⊢
   exact List.le_trans h1 h2) (fun a b=>by
   simp only[Cr,Ar]
   exact List.le_total a b) (l.map toS)
  exact this.imp (fun h=>by simpa using h)
 have hmem:∀x,x∈d↔x∈l.map toS:=fun x=>by rw[hd];exact(List.mergeSort_perm _ _).mem_iff
 have hs:∀i j:Nat,i≤j→j<d.toArray.size→d.toArray[i]! ≤d.toArray[j]! :=fun i j hij hj=>by
  have hj' :j<d.length:=by simpa using hj
  have hi' :i<d.length:=by omega
  rw[Fl _ i (by simpa using hi'),Fl _ j hj]
  simp only[List.getElem_toArray]
  rcases B8 i j with q | q
  ·exact Cp.mp hsort i j hi' hj' q
  ·have:i=j:=by omega
   subst this
   exact List.le_refl _
 obtain⟨h1,h2⟩:=u8f d.toArray hs d.length (by simp)
 rw[hk]
 constructor
 ·unfold Asc
  rw[Dl]
  exact h1.imp (fun h=>t3n.mpr h)
 ·intro x
  rw[Bx]
  constructor
  ·rintro⟨y,hy,rfl⟩
   obtain⟨i,hi,rfl⟩:=(h2 y).mp hy
   rw[Fl _ i (by simpa using hi)]
   have:d[i] ∈l.map toS:=(hmem _).mp (Ag hi)
   obtain⟨z,hz,e⟩:=Bx.mp this
   simp only[List.getElem_toArray]
   rw[←e,y8p]
   exact hz
  ·intro hx
   have:toS x∈d:=(hmem _).mpr (Bx.mpr ⟨x,hx,rfl⟩)
   obtain⟨i,hi,e⟩:=Gy.mp this
   refine⟨toS x,(h2 _).mpr ⟨i,hi,?_⟩,y8p x⟩
   rw[Fl _ i (by simpa using hi)]
   simpa using e
theorem t1q (l:Hu Hs):(y4d l).length=l.length:=by simp[y4d]
theorem t4z (l:Hu Hs) (p:Hs→Bool):(l.filter p).foldl (fun a k=>t21 k a) [] =(u8y l).filter p:=by
 obtain⟨h1,h2⟩:=t3g (l:=l.filter p) (a:= []) List.Pairwise.nil
 obtain⟨k1,k2⟩:=t0f l
 refine Asc.ext h1 (k1.filter p) fun x=> ?_
 rw[h2,A6,A6,k2]
 simp
end
section
def t5t:Nat:=1099511627776
theorem t2q {α β:Type} {l:Hu α} {z:β} {i:Nat} {f:α→β} (h:i<l.length):
 ((l.map f).take i++List.replicate (l.length - i) z).set i (f l[i])=(l.map f).take (i+1)++List.replicate (l.length - (i+1)) z:=by
 have h1:((l.map f).take i).length=i:=by simp;omega
 rw[List.set_append_right _ _ (by omega),h1,Dw]
 have:l.length - i=(l.length - (i+1))+1:=by omega
 rw[this,List.replicate_succ,Hj,Gm]
 simp[h]
theorem Q.copy {T T' :Ty} {S:Type} {q:T.den→Ht T'.den} {g:T.den→T'.den} {W:Hu T.den×Hu T'.den×Int→Ht (Hu T'.den⊕S)}
 (hW:∀x,W x=(bif (decide (x.2.2<(x.1.length:Int))) then(bif (y4l x.2.2 x.1.length) then((q (rdL T x.1 (x.2.2).toNat)).bind fun(y1:T'.den)=>
  (bif (y4l x.2.2 x.2.1.length) then(W (x.1,((x.2.1.set (x.2.2).toNat y1),(IntKind.i64.wrap (x.2.2+(1:Int)))))) else none)) else none) else(some (.inl x.2.1))))
 (l:Hu T.den) (hl:l.length≤1099511627776) (hq:∀x∈l,q x=some (g x)) (z:T'.den):W (l,(List.replicate ((l.length:Int)).toNat z,(0:Int)))=some (.inl (l.map g)):=by
 have:=t1y W l.length (fun(_:Unit) i=>(l,(l.map g).take i.toNat++List.replicate (l.length - i.toNat) z,i)) (fun _ _=> .inl (l.map g)) (fun _ _=>True)
  (fun a _=>by
   rw[hW]
   simp only[u0d,Am,Ah,Aa,zTn]
   have h2:(l.map g).take l.length=l.map g:=List.take_of_length_le (by simp)
   simp[h2])
  (fun i a h _=> .inr ⟨(),trivial,rfl,by
   rw[hW]
   have h2:y4l (i:Int) ((l.map g).take i++List.replicate (l.length - i) z).length=true:=y7r (by simp;omega)
   simp only[u0d,h,Ae,Ad,y7r h,zTn,y8k h,hq _ (Ag h),zOb,h2]
   rw[y7i (by omega),t2q h]⟩) 0 () (by omega) trivial
 simpa using this
theorem Q.copy0 {T:Ty} {S:Type} {W:Hu T.den×Hu T.den×Int→Ht (Hu T.den⊕S)}
 (hW:∀x,W x=(bif (decide (x.2.2<(x.1.length:Int))) then(bif (y4l x.2.2 x.1.length) then(bif (y4l x.2.2 x.2.1.length) then(W (x.1,((x.2.1.set (x.2.2).toNat (rdL T x.1 (x.2.2).toNat)),(IntKind.i64.wrap (x.2.2+(1:Int)))))) else none) else none) else(some (.inl x.2.1))))
 (l:Hu T.den) (hl:l.length≤1099511627776) (z:T.den):W (l,(List.replicate ((l.length:Int)).toNat z,(0:Int)))=some (.inl l):=by
 have:=Q.copy (W:=W) (q:=fun x=>some x) (g:=fun x=>x) (fun x=>hW x) l hl (fun _ _=>rfl) z
 simpa using this
theorem Q.same {T:Ty} {S:Type} {q:T.den×T.den→Ht Bool} {W:Hu T.den×Hu T.den×Int→Ht (Unit⊕Bool)}
 (hW:∀x,W x=(bif (decide (x.2.2<(x.1.length:Int))) then(bif (y4l x.2.2 x.1.length) then(bif (y4l x.2.2 x.2.1.length) then
  ((q ((rdL T x.1 (x.2.2).toNat),(rdL T x.2.1 (x.2.2).toNat))).bind fun(y1:Bool)=>(bif (!y1) then(some (.inr false)) else(W (x.1,(x.2.1,(IntKind.i64.wrap (x.2.2+(1:Int)))))))) else none) else none) else(some (.inl ()))))
 (l:Hu T.den) (hl:l.length≤1099511627776) (hq:∀x∈l,q (x,x)=some true):W (l,(l,(0:Int)))=some (.inl ()):=
 t1y W l.length (fun(_:Unit) i=>(l,l,i)) (fun _ _=> .inl ()) (fun _ _=>True)
  (fun a _=>by
   rw[hW]
   simp only[u0d,Am,Ah,Aa])
  (fun i a h _=> .inr ⟨(),trivial,rfl,by
   rw[hW]
   simp only[u0d,h,Ae,Ad,y7r h,zTn,y8k h,hq _ (Ag h),zOb,Ap,Aa]
   rw[y7i (by omega)]⟩) 0 () (by omega) trivial
theorem Q.size {T:Ty} {q:T.den×Int→Ht Int} {W:Hu T.den×Int×Int→Ht (Int⊕Int)}
 (hW:∀x,W x=(bif (decide (x.2.2<(x.1.length:Int))) then(bif (y4l x.2.2 x.1.length) then((q ((rdL T x.1 (x.2.2).toNat),x.2.1)).bind fun(y1:Int)=>
  (bif (decide (y1<(0:Int))) then(some (.inr (-1:Int))) else(W (x.1,(y1,(IntKind.i64.wrap (x.2.2+(1:Int)))))))) else none) else(some (.inl x.2.1))))
 (l:Hu T.den) (hl:l.length≤1099511627776) (hq:∀x∈l,∀c:Int,0≤c→c≤1048576→ ∃y,q (x,c)=some y∧if(T.wt x:Int)≤c then y=c - T.wt x else y<0) (b:Int) (hb:0≤b) (hb2:b≤1048576):
 ((W (l,(b,(0:Int)))).bind fun r=>match r with
  | .inl o=>some o
  | .inr z=>some z)=some (szr b (l.map T.wt).sum):=by
 have key:=t1y W l.length (fun(c:Int) i=>(l,c,i)) (fun i c=>if(((l.drop i).map T.wt).sum:Int)≤c then .inl (c - ((l.drop i).map T.wt).sum) else .inr (-1)) (fun _ c=>0≤c∧c≤1048576)
  (fun c hc=>by
   rw[hW]
   simp only[u0d,Am,Ah,Aa,F5,Eh,Gq]
   rw[Al (by simpa using hc.1)]
   simp)
  (fun i c h hc=>by
   have hd:l.drop i=l[i] ::l.drop (i+1):=Ce h
   obtain⟨y,hy,hy2⟩:=hq _ (Ag h) c hc.1 hc.2
   rw[hW,hd]
   simp only[u0d,h,Ae,Ad,y7r h,zTn,y8k h,hy,zOb,C8,Ge]
   by_cases hw:(T.wt l[i] :Int)≤c
   ·right
    rw[Al hw] at hy2
    subst hy2
    refine⟨c - T.wt l[i],⟨by omega,by omega⟩,?_,?_⟩
    ·by_cases h2:(((l.drop (i+1)).map T.wt).sum:Int)≤c - T.wt l[i]
     ·rw[Al h2,Al (by omega)];congr 1;omega
     ·rw[Ao h2,Ao (by omega)]
    ·have:decide (c - (T.wt l[i] :Int)<0)=false:=by simp;omega
     rw[this,Aa,y7i (by omega)]
   ·left
    rw[Ao hw] at hy2
    have:decide (y<0)=true:=by simp;omega
    rw[this,Ao (by omega)]
    rfl) 0 b (by omega) ⟨hb,hb2⟩
 have key:W (l,b,0)=_:=key
 rw[key]
 simp only[Fh,zOb]
 unfold szr
 by_cases h:((l.map T.wt).sum:Int)≤b
 ·rw[Al h,Al h]
 ·rw[Ao h,Ao h]
theorem u1z {b:Int} {v w:Nat} {K:Ht Int} (hK:(v:Int)≤b→K=some (szr (b - v) w)):(bif decide (b - (v:Int)<0) then some (-1) else K)=some (szr b (v+w)):=by
 by_cases h:(v:Int)≤b
 ·have:decide (b - (v:Int)<0)=false:=by simp;omega
  rw[this,Aa,hK h,t3r h]
 ·have:decide (b - (v:Int)<0)=true:=by simp;omega
  rw[this,t2k (b:=b) (w:=v+w) (by omega)]
  rfl
theorem u7p {b:Int} {w:Nat} :if(w:Int)≤b then szr b w=b - w else szr b w<0:=by
 unfold szr
 split<;>rename_i h<;>simp[h]
theorem t49 {b:Int} {w:Nat} {F:Ht Int} {K:Int→Ht Bool} (hF:F=some (szr b w)) (hK:(w:Int)≤b→K (b - w)=some true):
 (F.bind fun y=>bif decide (y<0) then some true else K y)=some true:=by
 subst hF
 by_cases h:(w:Int)≤b
 ·rw[u57 h]
  have:decide (b - (w:Int)<0)=false:=by simp;omega
  simp only[zOb,this,Aa]
  exact hK h
 ·rw[t2k h]
  rfl
theorem u6c {α:Type} {f:α→Nat} {l:Hu α} {x:α} (h:x∈l):f x≤(l.map f).sum:=by
 induction l with
 | nil=>cases h
 | cons y l ih=>
  simp only[C8,Ge]
  rcases A8.mp h with rfl | h
  ·omega
  ·have:=ih h;omega
theorem u6d {T:Ty} {l:Hu T.den} (h:(Ty.sl T).fine l) {x:T.den} (hx:x∈l):T.fine x:=by
 obtain⟨i,hi,rfl⟩:=B7 hx
 exact h.2 i hi
abbrev u0g:Ty:=(.pair .str .str)
abbrev u0h:Ty:=(.pair .str (.pair .str .bool))
abbrev u0b:Ty:=(.pair .str (.pair .str (.pair .bool (.int .i64))))
abbrev t7t:Ty:=(.pair .str .str)
abbrev t7s:Ty:=(.pair .str .str)
abbrev u61:Ty:=(.pair (.int .i64) .str)
abbrev t0j:Ty:=(.pair (.sl .str) (.sl u61))
abbrev u3l:Ty:=(.pair (.int .i64) (.pair (.int .i64) (.pair (.int .i64) (.pair (.int .i64) (.pair (.sl u0g) (.pair (.sl u0h) (.pair .bool .str)))))))
abbrev u9v:Ty:=(.pair (.sl u0b) (.pair (.sl u3l) (.pair (.sl u3l) (.pair (.int .i64) (.int .i64)))))
abbrev t64:Ty:=(.pair (.int .i64) (.pair u3l (.pair .str (.pair .bool u9v))))
abbrev u4b:Ty:=(.pair u9v (.sl u3l))
abbrev u8d:Ty:=(.pair u4b t0j)
end
section
theorem t2s (l:Hu (Ty.str).den) (b:Int) (hf:(Ty.sl Ty.str).fine l) (hb:0≤b) (hb2:b≤1048576):u2h (l,b)=some (szr b ((Ty.sl Ty.str).wt l)):=by
 have hl:l.length≤9223372036854775807:=by have:=hf.1;simp only[maxLen] at this;exact this
 rw[u8r];unfold u4y;simp only
 rw[y4u (n:=b - (l.length:Int)) (by omega) (by omega)]
 have hw:(Ty.sl Ty.str).wt l=l.length+(l.map (Ty.str).wt).sum:=rfl
 rw[hw];refine u1z (fun c=> ?_)
 exact Q.size (T:=Ty.str) (q:=(fun x=>some (IntKind.i64.wrap (x.2 - (x.1.size:Int))))) (W:=u0y) (fun x=>u7r x) l (by omega) (fun x hx c h1 h2=>⟨_,rfl,by have:=u6d hf hx;simp only[Ty.fine,maxLen] at this;simp only[Ty.wt];rw[y4u (by omega) (by omega)];by_cases hc:((ByteArray.size x:Nat):Int)≤c<;>simp only[hc,Bl,Bk] <;>omega⟩) (b - (l.length:Int)) (by omega) (by omega)
theorem t2u (l:Hu (Ty.str).den) (hx:(Ty.sl Ty.str).wt l≤1099511627776):u2i l=some l:=by
 have hw:(Ty.sl Ty.str).wt l=l.length+(l.map (Ty.str).wt).sum:=rfl
 rw[hw] at hx;rw[u8t];unfold u40
 have h1:(decide (0≤(l.length:Int))&&decide ((l.length:Int)≤1099511627776))=true:=by simp;omega
 have h2:u0l (l,(List.replicate ((l.length:Int)).toNat (Ty.str).zero),(0:Int))=some (.inl l):=Q.copy0 (T:=Ty.str) (W:=u0l) (fun x=>u7s x) l (by omega) _
 simp only[h1,Ad,h2,zOb]
theorem t2o (l:Hu (Ty.str).den) (hx:(Ty.sl Ty.str).wt l≤1099511627776):u2g (l,l)=some true:=by
 have hw:(Ty.sl Ty.str).wt l=l.length+(l.map (Ty.str).wt).sum:=rfl
 rw[hw] at hx;rw[u8p];unfold u4w;simp only
 have h2:u0k (l,l,(0:Int))=some (.inl ()):=Q.same (T:=Ty.str) (S:=Unit) (q:=fun x=>some (z7m x.1 x.2)) (W:=u0k) (fun x=>u7q x) l (by omega) (fun x _=>by simp[y6i])
 simp only[Ae,Ap,Aa,h2,zOb]
theorem t4j (x:(u0g).den) (b:Int) (hf:(u0g).fine x) (hb:0≤b) (hb2:b≤1048576):u16 (x,b)=some (szr b ((u0g).wt x)):=by
 obtain⟨hf0,hf1⟩:=hf
 have hs0:x.1.size≤9223372036854775807:=by have:=hf0;simp only[Ty.fine,maxLen] at this;exact this
 have hs1:x.2.size≤9223372036854775807:=by have:=hf1;simp only[Ty.fine,maxLen] at this;exact this
 have hw:(u0g).wt x=(x.1.size+(x.2.size+0)):=by simp only[Ty.wt] <;>omega
 rw[hw,u92];unfold u6m;simp only
 rw[y4u (n:=b - (x.1.size:Int)) (by omega) (by omega)]
 refine u1z (fun c0=> ?_)
 rw[y4u (n:=b - ((x.1.size:Nat):Int) - (x.2.size:Int)) (by omega) (by omega)]
 refine u1z (fun c1=> ?_)
 rw[u57 (by omega)];simp
theorem t3p (l:Hu (u0g).den) (b:Int) (hf:(Ty.sl u0g).fine l) (hb:0≤b) (hb2:b≤1048576):u2y (l,b)=some (szr b ((Ty.sl u0g).wt l)):=by
 have hl:l.length≤9223372036854775807:=by have:=hf.1;simp only[maxLen] at this;exact this
 rw[u88];unfold u5n;simp only
 rw[y4u (n:=b - (l.length:Int)) (by omega) (by omega)]
 have hw:(Ty.sl u0g).wt l=l.length+(l.map (u0g).wt).sum:=rfl
 rw[hw];refine u1z (fun c=> ?_)
 exact Q.size (T:=u0g) (q:=u16) (W:=u07) (fun x=>u72 x) l (by omega) (fun x hx c h1 h2=>⟨_,t4j x c (u6d hf hx) h1 h2,u7p⟩) (b - (l.length:Int)) (by omega) (by omega)
theorem t4n (x:(u0g).den) (hx:(u0g).wt x≤1099511627776):u18 x=some x:=by
 rw[u95];rfl
theorem t3t (l:Hu (u0g).den) (hx:(Ty.sl u0g).wt l≤1099511627776):u21 l=some l:=by
 have hw:(Ty.sl u0g).wt l=l.length+(l.map (u0g).wt).sum:=rfl
 rw[hw] at hx;rw[u9b];unfold u5q
 have h1:(decide (0≤(l.length:Int))&&decide ((l.length:Int)≤1099511627776))=true:=by simp;omega
 have h2:u0o (l,(List.replicate ((l.length:Int)).toNat (u0g).zero),(0:Int))=some (.inl (l.map fun x=>x)):=Q.copy (T:=u0g) (T' :=u0g) (q:=u18) (W:=u0o) (fun x=>u74 x) l (by omega) (fun x hm=>t4n x (by have:=u6c (f:=(u0g).wt) hm;omega)) _
 rw[Er] at h2
 simp only[h1,Ad,h2,zOb]
theorem t4a (x:(u0g).den) (hx:(u0g).wt x≤1099511627776):u14 (x,x)=some true:=by
 simp only[Ty.wt] at hx
 rw[u9z];unfold u6j;simp only
 simp only[zOb,y6i,Ae,beq_self_eq_true,Ap,Aa]
theorem t3e (l:Hu (u0g).den) (hx:(Ty.sl u0g).wt l≤1099511627776):u2v (l,l)=some true:=by
 have hw:(Ty.sl u0g).wt l=l.length+(l.map (u0g).wt).sum:=rfl
 rw[hw] at hx;rw[u85];unfold u5k;simp only
 have h2:u0m (l,l,(0:Int))=some (.inl ()):=Q.same (T:=u0g) (S:=Unit) (q:=u14) (W:=u0m) (fun x=>u70 x) l (by omega) (fun x hm=>t4a x (by have:=u6c (f:=(u0g).wt) hm;omega))
 simp only[Ae,Ap,Aa,h2,zOb]
theorem t4l (x:(u0h).den) (b:Int) (hf:(u0h).fine x) (hb:0≤b) (hb2:b≤1048576):u17 (x,b)=some (szr b ((u0h).wt x)):=by
 obtain⟨hf0,hf1,hf2⟩:=hf
 have hs0:x.1.size≤9223372036854775807:=by have:=hf0;simp only[Ty.fine,maxLen] at this;exact this
 have hs1:x.2.1.size≤9223372036854775807:=by have:=hf1;simp only[Ty.fine,maxLen] at this;exact this
 have hw:(u0h).wt x=(x.1.size+(x.2.1.size+0)):=by simp only[Ty.wt] <;>omega
 rw[hw,u94];unfold u6o;simp only
 rw[y4u (n:=b - (x.1.size:Int)) (by omega) (by omega)]
 refine u1z (fun c0=> ?_)
 rw[y4u (n:=b - ((x.1.size:Nat):Int) - (x.2.1.size:Int)) (by omega) (by omega)]
 refine u1z (fun c1=> ?_)
 rw[u57 (by omega)];simp
theorem t3q (l:Hu (u0h).den) (b:Int) (hf:(Ty.sl u0h).fine l) (hb:0≤b) (hb2:b≤1048576):u2z (l,b)=some (szr b ((Ty.sl u0h).wt l)):=by
 have hl:l.length≤9223372036854775807:=by have:=hf.1;simp only[maxLen] at this;exact this
 rw[u89];unfold u5o;simp only
 rw[y4u (n:=b - (l.length:Int)) (by omega) (by omega)]
 have hw:(Ty.sl u0h).wt l=l.length+(l.map (u0h).wt).sum:=rfl
 rw[hw];refine u1z (fun c=> ?_)
 exact Q.size (T:=u0h) (q:=u17) (W:=u08) (fun x=>u73 x) l (by omega) (fun x hx c h1 h2=>⟨_,t4l x c (u6d hf hx) h1 h2,u7p⟩) (b - (l.length:Int)) (by omega) (by omega)
theorem t4p (x:(u0h).den) (hx:(u0h).wt x≤1099511627776):u19 x=some x:=by
 rw[u97];rfl
theorem t3u (l:Hu (u0h).den) (hx:(Ty.sl u0h).wt l≤1099511627776):u22 l=some l:=by
 have hw:(Ty.sl u0h).wt l=l.length+(l.map (u0h).wt).sum:=rfl
 rw[hw] at hx;rw[u9c];unfold u5r
 have h1:(decide (0≤(l.length:Int))&&decide ((l.length:Int)≤1099511627776))=true:=by simp;omega
 have h2:u0p (l,(List.replicate ((l.length:Int)).toNat (u0h).zero),(0:Int))=some (.inl (l.map fun x=>x)):=Q.copy (T:=u0h) (T' :=u0h) (q:=u19) (W:=u0p) (fun x=>u75 x) l (by omega) (fun x hm=>t4p x (by have:=u6c (f:=(u0h).wt) hm;omega)) _
 rw[Er] at h2
 simp only[h1,Ad,h2,zOb]
theorem t4c (x:(u0h).den) (hx:(u0h).wt x≤1099511627776):u15 (x,x)=some true:=by
 simp only[Ty.wt] at hx
 rw[u91];unfold u6l;simp only
 simp only[zOb,y6i,Ae,beq_self_eq_true,Ap,Aa]
theorem t3f (l:Hu (u0h).den) (hx:(Ty.sl u0h).wt l≤1099511627776):u2w (l,l)=some true:=by
 have hw:(Ty.sl u0h).wt l=l.length+(l.map (u0h).wt).sum:=rfl
 rw[hw] at hx;rw[u86];unfold u5l;simp only
 have h2:u0n (l,l,(0:Int))=some (.inl ()):=Q.same (T:=u0h) (S:=Unit) (q:=u15) (W:=u0n) (fun x=>u71 x) l (by omega) (fun x hm=>t4c x (by have:=u6c (f:=(u0h).wt) hm;omega))
 simp only[Ae,Ap,Aa,h2,zOb]
theorem t2t (x:(u0b).den) (b:Int) (hf:(u0b).fine x) (hb:0≤b) (hb2:b≤1048576):u1i (x,b)=some (szr b ((u0b).wt x)):=by
 obtain⟨hf0,hf1,hf2,hf3⟩:=hf
 have hs0:x.1.size≤9223372036854775807:=by have:=hf0;simp only[Ty.fine,maxLen] at this;exact this
 have hs1:x.2.1.size≤9223372036854775807:=by have:=hf1;simp only[Ty.fine,maxLen] at this;exact this
 have hw:(u0b).wt x=(x.1.size+(x.2.1.size+0)):=by simp only[Ty.wt] <;>omega
 rw[hw,u8s];unfold u4z;simp only
 rw[y4u (n:=b - (x.1.size:Int)) (by omega) (by omega)]
 refine u1z (fun c0=> ?_)
 rw[y4u (n:=b - ((x.1.size:Nat):Int) - (x.2.1.size:Int)) (by omega) (by omega)]
 refine u1z (fun c1=> ?_)
 rw[u57 (by omega)];simp
theorem t19 (l:Hu (u0b).den) (b:Int) (hf:(Ty.sl u0b).fine l) (hb:0≤b) (hb2:b≤1048576):u11 (l,b)=some (szr b ((Ty.sl u0b).wt l)):=by
 have hl:l.length≤9223372036854775807:=by have:=hf.1;simp only[maxLen] at this;exact this
 rw[u7u];unfold u3z;simp only
 rw[y4u (n:=b - (l.length:Int)) (by omega) (by omega)]
 have hw:(Ty.sl u0b).wt l=l.length+(l.map (u0b).wt).sum:=rfl
 rw[hw];refine u1z (fun c=> ?_)
 exact Q.size (T:=u0b) (q:=u1i) (W:=u0s) (fun x=>u6z x) l (by omega) (fun x hx c h1 h2=>⟨_,t2t x c (u6d hf hx) h1 h2,u7p⟩) (b - (l.length:Int)) (by omega) (by omega)
theorem t2v (x:(u0b).den) (hx:(u0b).wt x≤1099511627776):u1j x=some x:=by
 rw[u8u];rfl
theorem t2b (l:Hu (u0b).den) (hx:(Ty.sl u0b).wt l≤1099511627776):u12 l=some l:=by
 have hw:(Ty.sl u0b).wt l=l.length+(l.map (u0b).wt).sum:=rfl
 rw[hw] at hx;rw[u7v];unfold u30
 have h1:(decide (0≤(l.length:Int))&&decide ((l.length:Int)≤1099511627776))=true:=by simp;omega
 have h2:u0f (l,(List.replicate ((l.length:Int)).toNat (u0b).zero),(0:Int))=some (.inl (l.map fun x=>x)):=Q.copy (T:=u0b) (T' :=u0b) (q:=u1j) (W:=u0f) (fun x=>u60 x) l (by omega) (fun x hm=>t2v x (by have:=u6c (f:=(u0b).wt) hm;omega)) _
 rw[Er] at h2
 simp only[h1,Ad,h2,zOb]
theorem t2p (x:(u0b).den) (hx:(u0b).wt x≤1099511627776):u1h (x,x)=some true:=by
 simp only[Ty.wt] at hx
 rw[u8q];unfold u4x;simp only
 simp only[zOb,y6i,Ae,beq_self_eq_true,Ap,Aa]
theorem t11 (l:Hu (u0b).den) (hx:(Ty.sl u0b).wt l≤1099511627776):u10 (l,l)=some true:=by
 have hw:(Ty.sl u0b).wt l=l.length+(l.map (u0b).wt).sum:=rfl
 rw[hw] at hx;rw[u7t];unfold u3y;simp only
 have h2:u0e (l,l,(0:Int))=some (.inl ()):=Q.same (T:=u0b) (S:=Unit) (q:=u1h) (W:=u0e) (fun x=>u6y x) l (by omega) (fun x hm=>t2p x (by have:=u6c (f:=(u0b).wt) hm;omega))
 simp only[Ae,Ap,Aa,h2,zOb]
theorem t6c (x:(u61).den) (b:Int) (hf:(u61).fine x) (hb:0≤b) (hb2:b≤1048576):u3f (x,b)=some (szr b ((u61).wt x)):=by
 obtain⟨hf0,hf1⟩:=hf
 have hs1:x.2.size≤9223372036854775807:=by have:=hf1;simp only[Ty.fine,maxLen] at this;exact this
 have hw:(u61).wt x=(x.2.size+0):=by simp only[Ty.wt] <;>omega
 rw[hw,t1f];unfold u79;simp only
 rw[y4u (n:=b - (x.2.size:Int)) (by omega) (by omega)]
 refine u1z (fun c1=> ?_)
 rw[u57 (by omega)];simp
theorem t48 (l:Hu (u61).den) (b:Int) (hf:(Ty.sl u61).fine l) (hb:0≤b) (hb2:b≤1048576):u4l (l,b)=some (szr b ((Ty.sl u61).wt l)):=by
 have hl:l.length≤9223372036854775807:=by have:=hf.1;simp only[maxLen] at this;exact this
 rw[t0u];unfold u7e;simp only
 rw[y4u (n:=b - (l.length:Int)) (by omega) (by omega)]
 have hw:(Ty.sl u61).wt l=l.length+(l.map (u61).wt).sum:=rfl
 rw[hw];refine u1z (fun c=> ?_)
 exact Q.size (T:=u61) (q:=u3f) (W:=u1q) (fun x=>u9k x) l (by omega) (fun x hx c h1 h2=>⟨_,t6c x c (u6d hf hx) h1 h2,u7p⟩) (b - (l.length:Int)) (by omega) (by omega)
theorem t6f (x:(u61).den) (hx:(u61).wt x≤1099511627776):u3h x=some x:=by
 rw[t1h];rfl
theorem t5f (l:Hu (u61).den) (hx:(Ty.sl u61).wt l≤1099511627776):u4o l=some l:=by
 have hw:(Ty.sl u61).wt l=l.length+(l.map (u61).wt).sum:=rfl
 rw[hw] at hx;rw[t0y];unfold u7i
 have h1:(decide (0≤(l.length:Int))&&decide ((l.length:Int)≤1099511627776))=true:=by simp;omega
 have h2:u03 (l,(List.replicate ((l.length:Int)).toNat (u61).zero),(0:Int))=some (.inl (l.map fun x=>x)):=Q.copy (T:=u61) (T' :=u61) (q:=u3h) (W:=u03) (fun x=>u9m x) l (by omega) (fun x hm=>t6f x (by have:=u6c (f:=(u61).wt) hm;omega)) _
 rw[Er] at h2
 simp only[h1,Ad,h2,zOb]
theorem t5x (x:(u61).den) (hx:(u61).wt x≤1099511627776):u3d (x,x)=some true:=by
 simp only[Ty.wt] at hx
 rw[t1d];unfold u77;simp only
 simp only[zOb,y6i,Ae,beq_self_eq_true,Ap,Aa]
theorem t4y (l:Hu (u61).den) (hx:(Ty.sl u61).wt l≤1099511627776):u4i (l,l)=some true:=by
 have hw:(Ty.sl u61).wt l=l.length+(l.map (u61).wt).sum:=rfl
 rw[hw] at hx;rw[t0q];unfold u7a;simp only
 have h2:u01 (l,l,(0:Int))=some (.inl ()):=Q.same (T:=u61) (S:=Unit) (q:=u3d) (W:=u01) (fun x=>u9i x) l (by omega) (fun x hm=>t5x x (by have:=u6c (f:=(u61).wt) hm;omega))
 simp only[Ae,Ap,Aa,h2,zOb]
theorem t47 (x:(t0j).den) (b:Int) (hf:(t0j).fine x) (hb:0≤b) (hb2:b≤1048576):u4k (x,b)=some (szr b ((t0j).wt x)):=by
 obtain⟨hf0,hf1⟩:=hf
 have hw:(t0j).wt x=((Ty.sl Ty.str).wt x.1+((Ty.sl u61).wt x.2+0)):=by simp only[Ty.wt] <;>omega
 rw[hw,t0t];unfold u7d;simp only
 refine u1y (t2s _ _ hf0 (by omega) (by omega)) (fun c0=> ?_)
 refine u1y (t48 _ _ hf1 (by omega) (by omega)) (fun c1=> ?_)
 rw[u57 (by omega)];simp
theorem t5e (x:(t0j).den) (hx:(t0j).wt x≤1099511627776):u4n x=some x:=by
 simp only[Ty.wt] at hx
 rw[t0x];unfold u7h
 simp only[t2u x.1 (by simp only[Ty.wt];omega),t5f x.2 (by simp only[Ty.wt];omega),zOb]
theorem t4x (x:(t0j).den) (hx:(t0j).wt x≤1099511627776):u4h (x,x)=some true:=by
 simp only[Ty.wt] at hx
 rw[t0p];unfold u69;simp only
 simp only[t2o x.1 (by simp only[Ty.wt];omega),t4y x.2 (by simp only[Ty.wt];omega),zOb,y6i,Ae,beq_self_eq_true,Ap,Aa]
theorem t6d (x:(u3l).den) (b:Int) (hf:(u3l).fine x) (hb:0≤b) (hb2:b≤1048576):u3g (x,b)=some (szr b ((u3l).wt x)):=by
 obtain⟨hf0,hf1,hf2,hf3,hf4,hf5,hf6,hf7⟩:=hf
 have hs7:x.2.2.2.2.2.2.2.size≤9223372036854775807:=by have:=hf7;simp only[Ty.fine,maxLen] at this;exact this
 have hw:(u3l).wt x=((Ty.sl u0g).wt x.2.2.2.2.1+((Ty.sl u0h).wt x.2.2.2.2.2.1+(x.2.2.2.2.2.2.2.size+0))):=by simp only[Ty.wt] <;>omega
 rw[hw,t1g];unfold u8a;simp only
 refine u1y (t3p _ _ hf4 (by omega) (by omega)) (fun c4=> ?_)
 refine u1y (t3q _ _ hf5 (by omega) (by omega)) (fun c5=> ?_)
 rw[y4u (n:=b - (((Ty.sl u0g).wt x.2.2.2.2.1:Nat):Int) - (((Ty.sl u0h).wt x.2.2.2.2.2.1:Nat):Int) - (x.2.2.2.2.2.2.2.size:Int)) (by omega) (by omega)]
 refine u1z (fun c7=> ?_)
 rw[u57 (by omega)];simp
theorem t18 (l:Hu (u3l).den) (b:Int) (hf:(Ty.sl u3l).fine l) (hb:0≤b) (hb2:b≤1048576):u1w (l,b)=some (szr b ((Ty.sl u3l).wt l)):=by
 have hl:l.length≤9223372036854775807:=by have:=hf.1;simp only[maxLen] at this;exact this
 rw[t0v];unfold u7f;simp only
 rw[y4u (n:=b - (l.length:Int)) (by omega) (by omega)]
 have hw:(Ty.sl u3l).wt l=l.length+(l.map (u3l).wt).sum:=rfl
 rw[hw];refine u1z (fun c=> ?_)
 exact Q.size (T:=u3l) (q:=u3g) (W:=u1r) (fun x=>u9l x) l (by omega) (fun x hx c h1 h2=>⟨_,t6d x c (u6d hf hx) h1 h2,u7p⟩) (b - (l.length:Int)) (by omega) (by omega)
theorem t6g (x:(u3l).den) (hx:(u3l).wt x≤1099511627776):u3i x=some x:=by
 simp only[Ty.wt] at hx
 rw[t1i];unfold u8b
 simp only[t3t x.2.2.2.2.1 (by simp only[Ty.wt];omega),t3u x.2.2.2.2.2.1 (by simp only[Ty.wt];omega),zOb]
theorem t2a (l:Hu (u3l).den) (hx:(Ty.sl u3l).wt l≤1099511627776):u1x l=some l:=by
 have hw:(Ty.sl u3l).wt l=l.length+(l.map (u3l).wt).sum:=rfl
 rw[hw] at hx;rw[t0z];unfold u7j
 have h1:(decide (0≤(l.length:Int))&&decide ((l.length:Int)≤1099511627776))=true:=by simp;omega
 have h2:u04 (l,(List.replicate ((l.length:Int)).toNat (u3l).zero),(0:Int))=some (.inl (l.map fun x=>x)):=Q.copy (T:=u3l) (T' :=u3l) (q:=u3i) (W:=u04) (fun x=>u9n x) l (by omega) (fun x hm=>t6g x (by have:=u6c (f:=(u3l).wt) hm;omega)) _
 rw[Er] at h2
 simp only[h1,Ad,h2,zOb]
theorem t5y (x:(u3l).den) (hx:(u3l).wt x≤1099511627776):u3e (x,x)=some true:=by
 simp only[Ty.wt] at hx
 rw[t1e];unfold u78;simp only
 simp only[t3e x.2.2.2.2.1 (by simp only[Ty.wt];omega),t3f x.2.2.2.2.2.1 (by simp only[Ty.wt];omega),zOb,y6i,Ae,beq_self_eq_true,Ap,Aa]
theorem t10 (l:Hu (u3l).den) (hx:(Ty.sl u3l).wt l≤1099511627776):u1v (l,l)=some true:=by
 have hw:(Ty.sl u3l).wt l=l.length+(l.map (u3l).wt).sum:=rfl
 rw[hw] at hx;rw[t0r];unfold u7b;simp only
 have h2:u02 (l,l,(0:Int))=some (.inl ()):=Q.same (T:=u3l) (S:=Unit) (q:=u3e) (W:=u02) (fun x=>u9j x) l (by omega) (fun x hm=>t5y x (by have:=u6c (f:=(u3l).wt) hm;omega))
 simp only[Ae,Ap,Aa,h2,zOb]
theorem t45 (x:(u9v).den) (b:Int) (hf:(u9v).fine x) (hb:0≤b) (hb2:b≤1048576):u4j (x,b)=some (szr b ((u9v).wt x)):=by
 obtain⟨hf0,hf1,hf2,hf3,hf4⟩:=hf
 have hw:(u9v).wt x=((Ty.sl u0b).wt x.1+((Ty.sl u3l).wt x.2.1+((Ty.sl u3l).wt x.2.2.1+0))):=by simp only[Ty.wt] <;>omega
 rw[hw,t0s];unfold u7c;simp only
 refine u1y (t19 _ _ hf0 (by omega) (by omega)) (fun c0=> ?_)
 refine u1y (t18 _ _ hf1 (by omega) (by omega)) (fun c1=> ?_)
 refine u1y (t18 _ _ hf2 (by omega) (by omega)) (fun c2=> ?_)
 rw[u57 (by omega)];simp
theorem t5d (x:(u9v).den) (hx:(u9v).wt x≤1099511627776):u4m x=some x:=by
 simp only[Ty.wt] at hx
 rw[t0w];unfold u7g
 simp only[t2b x.1 (by simp only[Ty.wt];omega),t2a x.2.1 (by simp only[Ty.wt];omega),t2a x.2.2.1 (by simp only[Ty.wt];omega),zOb]
theorem t4w (x:(u9v).den) (hx:(u9v).wt x≤1099511627776):u4g (x,x)=some true:=by
 simp only[Ty.wt] at hx
 rw[t0o];unfold u68;simp only
 simp only[t11 x.1 (by simp only[Ty.wt];omega),t10 x.2.1 (by simp only[Ty.wt];omega),t10 x.2.2.1 (by simp only[Ty.wt];omega),zOb,y6i,Ae,beq_self_eq_true,Ap,Aa]
theorem t3o (x:(u4b).den) (b:Int) (hf:(u4b).fine x) (hb:0≤b) (hb2:b≤1048576):u2x (x,b)=some (szr b ((u4b).wt x)):=by
 obtain⟨hf0,hf1⟩:=hf
 have hw:(u4b).wt x=(u9v.wt x.1+((Ty.sl u3l).wt x.2+0)):=by simp only[Ty.wt] <;>omega
 rw[hw,u87];unfold u5m;simp only
 refine u1y (t45 _ _ hf0 (by omega) (by omega)) (fun c0=> ?_)
 refine u1y (t18 _ _ hf1 (by omega) (by omega)) (fun c1=> ?_)
 rw[u57 (by omega)];simp
theorem t3s (x:(u4b).den) (hx:(u4b).wt x≤1099511627776):u20 x=some x:=by
 simp only[Ty.wt] at hx
 rw[u9a];unfold u5p
 simp only[t5d x.1 (by simp only[Ty.wt];omega),t2a x.2 (by simp only[Ty.wt];omega),zOb]
theorem t3d (x:(u4b).den) (hx:(u4b).wt x≤1099511627776):u2u (x,x)=some true:=by
 simp only[Ty.wt] at hx
 rw[u84];unfold u5j;simp only
 simp only[t4w x.1 (by simp only[Ty.wt];omega),t10 x.2 (by simp only[Ty.wt];omega),zOb,y6i,Ae,beq_self_eq_true,Ap,Aa]
theorem t4k (x:(u8d).den) (b:Int) (hf:(u8d).fine x) (hb:0≤b) (hb2:b≤1048576):u3p (x,b)=some (szr b ((u8d).wt x)):=by
 obtain⟨hf0,hf1⟩:=hf
 have hw:(u8d).wt x=(u4b.wt x.1+(t0j.wt x.2+0)):=by simp only[Ty.wt] <;>omega
 rw[hw,u93];unfold u6n;simp only
 refine u1y (t3o _ _ hf0 (by omega) (by omega)) (fun c0=> ?_)
 refine u1y (t47 _ _ hf1 (by omega) (by omega)) (fun c1=> ?_)
 rw[u57 (by omega)];simp
theorem t4o (x:(u8d).den) (hx:(u8d).wt x≤1099511627776):u1a x=some x:=by
 simp only[Ty.wt] at hx
 rw[u96];unfold u6p
 simp only[t3s x.1 (by simp only[Ty.wt];omega),t5e x.2 (by simp only[Ty.wt];omega),zOb]
theorem t4b (x:(u8d).den) (hx:(u8d).wt x≤1099511627776):u3o (x,x)=some true:=by
 simp only[Ty.wt] at hx
 rw[u90];unfold u6k;simp only
 simp only[t3d x.1 (by simp only[Ty.wt];omega),t4x x.2 (by simp only[Ty.wt];omega),zOb,y6i,Ae,beq_self_eq_true,Ap,Aa]
end
section
abbrev t5r:=Int×Int×Int×Int×Hu (Hs×Hs)×Hu (Hs×Hs×Bool)×Bool×Hs
theorem u5u {n:Nat} (h:n≤1099511627776):Nat.ble n z8y=true:=Nat.ble_eq_true_of_le h
def inR (r:Hs×Hs) (k:Hs):Bool:= !y2y k r.1&&(y2y k r.2 || z7m k r.2)
theorem t1a (r:Hs×Hs) (k:Hs):u3q (r,k)=some (inR r k):=by
 rw[u99];unfold u6r inR;cases y2y k r.1<;>rfl
theorem t09 (r:Hs×Hs) (k:Hs):u3m (r,k)=some (inR r k):=by
 rw[u9x];unfold u6i inR;cases y2y k r.1<;>rfl
def t3v (r:Hu u0g.den) (w:Hu u0h.den):Bool:=r.any fun x=>w.any fun y=>inR x y.1
def t7a (a b:Hu u0h.den):Bool:=a.any fun x=>b.any fun y=>z7m x.1 y.1
end
section
theorem t3b {X R A:Type} (W:X→Ht R) (n:Nat) (mk:A→Int→X) (v:Nat→A) (r:R) (hend:W (mk (v n) (n:Int))=some r)
 (hstep:∀i,i<n→W (mk (v i) (i:Int))=W (mk (v (i+1)) ((i+1:Nat):Int))):W (mk (v 0) 0)=some r:=by
 have:=t1y W n (fun(_:Unit) i=>mk (v i.toNat) i) (fun _ _=>r) (fun _ _=>True) (fun _ _=>by simpa using hend) (fun i a hi _=> .inr ⟨(),trivial,rfl,by
  have h:=hstep i hi
  have e:((i:Int)+1).toNat=i+1:=by omega
  simp only[zTn]
  exact h⟩) 0 () (Cn _) trivial
 simpa using this
theorem t2h {α:Type} (p:α→Bool):∀(l a:Hu α),l.foldl (fun a x=>if p x=true then a++ [x] else a) a=a++l.filter p
 | [],a=>by simp
 | x::l,a=>by
  rw[Bs,t2h p l]
  cases hc:p x<;>simp[hc]
abbrev u83:=Hs×Hs×Bool×Int
def emp:Hs:=⟨#[]⟩
def t2f (l:Hu u83) (k:Hs) (snap out:Int) (i:Nat):Int:=
 if z7m (rdL u0b l i).1 k=true∧(rdL u0b l i).2.2.2≤snap∧(out<0∨(rdL u0b l i).2.2.2 >(rdL u0b l out.toNat).2.2.2) then(i:Int) else out
def t1s (l:Hu u83) (k:Hs) (snap:Int):Nat→Int
 | 0=> -1
 | n+1=>t2f l k snap (t1s l k snap n) n
def u39 (l:Hu u83) (k:Hs) (snap:Int):Int:=t1s l k snap l.length
theorem u8z (l:Hu u83) (k:Hs) (snap:Int):∀n,-1≤t1s l k snap n∧t1s l k snap n<(n:Int)
 | 0=>by simp[t1s]
 | n+1=>by
  have:=u8z l k snap n
  simp only[t1s,t2f]
  split<;>omega
theorem t2r (l:Hu u83) (k:Hs) (snap:Int): -1≤u39 l k snap∧u39 l k snap<(l.length:Int):=u8z l k snap l.length
theorem t14 (l:Hu u83) (k:Hs) (snap:Int) (hl:l.length≤1099511627776):u55 (l,k,snap)=some (u39 l k snap):=by
 have L:=t3b u09 l.length (fun a i=>(l,k,snap,a,i)) (fun i=>t1s l k snap i) (.inl (u39 l k snap))
  (by rw[u6v];simp only[u13,u0d,Am,Ah,Aa];rfl)
  (fun i hi=>by
   have hr:=u8z l k snap i
   rw[u6v]
   simp only[u13,u0d,hi,Ae,Ad,y7r hi,zTn,t1s,t2f]
   rw[y7i (by omega)]
   cases h1:z7m (rdL u0b l i).1 k with
   | false=>simp[h1]
   | true=>
    by_cases h2:(rdL u0b l i).2.2.2≤snap
    ·by_cases h3:t1s l k snap i<0
     ·simp[h1,h2,h3]
     ·have hg:y4l (t1s l k snap i) l.length=true:=y7q.mpr ⟨by omega,by omega⟩
      by_cases h4:(rdL u0b l i).2.2.2 >(rdL u0b l (t1s l k snap i).toNat).2.2.2
      ·simp[h1,h2,h3,h4,hg]
      ·simp[h1,h2,h3,h4,hg]
    ·simp[h1,h2])
 have L:u09 (l,k,snap,-1,0)=_:=L
 rw[t1j];unfold u8c
 simp only[L,zOb]
theorem t13 (l:Hu u83) (k:Hs) (snap:Int) (hl:l.length≤1099511627776):u4f (l,k,snap)=some (u39 l k snap):=by
 have L:=t3b u00 l.length (fun a i=>(l,k,snap,a,l,(l.length:Int),i)) (fun i=>t1s l k snap i) (.inl (u39 l k snap))
  (by rw[u6a];simp only[u1m,u0d,Am,Ah,Aa];rfl)
  (fun i hi=>by
   have hr:=u8z l k snap i
   rw[u6a]
   simp only[u1m,u0d,hi,Ae,Ad,y7r hi,zTn,t1s,t2f]
   rw[y7i (by omega)]
   cases h1:z7m (rdL u0b l i).1 k with
   | false=>simp[h1]
   | true=>
    by_cases h2:(rdL u0b l i).2.2.2≤snap
    ·by_cases h3:t1s l k snap i<0
     ·simp[h1,h2,h3]
     ·have hg:y4l (t1s l k snap i) l.length=true:=y7q.mpr ⟨by omega,by omega⟩
      by_cases h4:(rdL u0b l i).2.2.2 >(rdL u0b l (t1s l k snap i).toNat).2.2.2
      ·simp[h1,h2,h3,h4,hg]
      ·simp[h1,h2,h3,h4,hg]
    ·simp[h1,h2])
 have L:u00 (l,k,snap,-1,l,(l.length:Int),0)=_:=L
 rw[t0n];unfold u67
 simp only[L,zOb]
def u56 (l:Hu u83) (k:Hs) (snap:Int):Hs×Bool:=
 if u39 l k snap<0∨(rdL u0b l (u39 l k snap).toNat).2.2.1=true then(emp,false) else((rdL u0b l (u39 l k snap).toNat).2.1,true)
theorem t1p (l:Hu u83) (k:Hs) (snap:Int) (y:Int) (hy:y=u39 l k snap):
 (((bif decide (y<0) then some true else(bif y4l y l.length then some (rdL u0b l y.toNat).2.2.1 else none)):Ht Bool).bind fun j2=>(bif j2 then some ((⟨#[]⟩:Hs),false) else(bif y4l y l.length then some ((rdL u0b l y.toNat).2.1,true) else none)))=some (u56 l k snap):=by
 subst hy
 have hr:=t2r l k snap
 unfold u56
 by_cases h:u39 l k snap<0
 ·simp[h,emp]
 ·have hg:y4l (u39 l k snap) l.length=true:=y7q.mpr ⟨by omega,by omega⟩
  cases h2:(rdL u0b l (u39 l k snap).toNat).2.2.1<;>simp[h,hg,h2,emp]
theorem t1w (l:Hu u83) (k:Hs) (snap:Int) (hl:l.length≤1099511627776):u4p (l,k,snap)=some (u56 l k snap):=by
 rw[t01];unfold u7l
 simp only[t14 l k snap hl,zOb]
 exact t1p l k snap _ rfl
theorem t1v (l:Hu u83) (k:Hs) (snap:Int) (hl:l.length≤1099511627776):u4d (l,k,snap)=some (u56 l k snap):=by
 rw[t0l];unfold u65
 simp only[t13 l k snap hl,zOb]
 exact t1p l k snap _ rfl
theorem t29 (l:Hu u83) (hl:l.length≤1099511627775):u4e l=some (u8y (l.map fun v=>v.1)):=by
 have L:=t2d u1p l (fun a i=>(a,l,(l.length:Int),i)) (fun _=>true) (fun v=>v.1) (fun a=> .inl a) (by omega)
  (fun a _=>by rw[u59];simp only[u1l,u0d,Am,Ah,Aa])
  (fun i hi a ha=>by
   rw[u59];simp only[u1l,u0d,hi,Ae,Ad,y7r hi,zTn,y8k (t:=u0b) hi,Aw,u5u (show a.length+1≤1099511627776 by omega)]
   rw[y7i (by omega)])
 have hf:l.filter (fun _=>true)=l:=by simp
 rw[hf] at L
 have h1:y6x (l.map fun v=>v.1)=some (y4d (l.map fun v=>v.1)):=by
  unfold y6x;rw[Da,u5u (by omega)];rfl
 have h2:y0j (y4d (l.map fun v=>v.1))=some (u8y (l.map fun v=>v.1)):=by
  unfold y0j;rw[t1q,Da,u5u (by omega)];rfl
 rw[t0m];unfold u66
 simp only[L,zOb,u2q,u2c]
 simp only[h1,h2,zOb]
theorem u9f (l:Hu Hs):(u8y l).length≤l.length:=by
 have:=z6g (y4d l)
 rw[t1q] at this
 exact this
theorem t12 (k:Hs) (r:Hs×Hs) (l:Hu u83) (j:Int) (out:Hu Hs) (ho:out.length≤1099511627775):
 u0t (l,r,out,j,k, [],0)=some (.inl (l,r,out,j,k,out.filter fun x=>y2y x k)):=by
 have L:=t2d u0t out (fun a i=>(l,r,out,j,k,a,i)) (fun x=>y2y x k) (fun x=>x) (fun a=> .inl (l,r,out,j,k,a)) (by omega)
  (fun a _=>by rw[u49];simp only[u1e,u0d,Am,Ah,Aa])
  (fun i hi a ha=>by
   rw[u49];simp only[u1e,u0d,hi,Ae,Ad,y7r hi,zTn,y8k (t:=Ty.str) hi,Aw,u5u (show a.length+1≤1099511627776 by omega)]
   rw[y7i (by omega)])
 rw[Er] at L
 exact L
theorem t1l (k:Hs) (r:Hs×Hs) (l:Hu u83) (j:Int) (out a0:Hu Hs) (ho:out.length+a0.length≤1099511627775):
 u0q (l,r,out,j,k,a0,0)=some (.inl (l,r,j,a0++out.filter fun x=> !(y2y x k || z7m x k))):=by
 have L:=t1b u0q out (fun a i=>(l,r,out,j,k,a,i)) (fun a x=>if(!(y2y x k || z7m x k))=true then a++ [x] else a) (fun a=> .inl (l,r,j,a)) (fun i a=>a.length≤a0.length+i)
  (fun a _=>by rw[u4a];simp only[u06,u0d,Am,Ah,Aa])
  (fun i hi a ha=>by
   rw[u4a];simp only[u06,u0d,hi,Ae,Ad,y7r hi,zTn,y8k (t:=Ty.str) hi,Aw,u5u (show a.length+1≤1099511627776 by omega)]
   rw[y7i (by omega)]
   cases hc:(!(y2y out[i] k || z7m out[i] k)) with
   | true=>simp;omega
   | false=>simp;omega) a0 (by simp)
 rw[t2h (fun x=> !(y2y x k || z7m x k))] at L
 exact L
theorem t4e (k:Hs) (l:Hu Hs):(t21 k l).length≤l.length+1:=by
 unfold t21
 have h:(fun x=> !(y2y x k || z7m x k))=fun x=>y2y k x:=by funext x;exact t3i
 rw[h]
 have:(l.filter fun x=>y2y x k).length+(l.filter fun x=>y2y k x).length≤l.length:=by
  induction l with
  | nil=>simp
  | cons x l ih=>
   simp only[Di]
   cases h1:y2y x k with
   | true=>rw[t04 h1];simp;omega
   | false=>cases h2:y2y k x<;>simp<;>omega
 simp
 omega
theorem t3a (l:Hu u83) (r:Hs×Hs) (hl:l.length≤500000000000):u3r (l,r)=some ((u8y (l.map fun v=>v.1)).filter fun k=>inR r k):=by
 have L:=t1b u1g l (fun a i=>(l,r,a,i)) (fun a v=>if inR r v.1=true then t21 v.1 a else a) (fun a=> .inl a) (fun i a=>a.length≤i)
  (fun a _=>by rw[u48];simp only[u1d,u0d,Am,Ah,Aa])
  (fun i hi a ha=>by
   rw[u48];simp only[u1d,u0d,hi,Ae,Ad,y7r hi,zTn,y8k (t:=u0b) hi,t1a,zOb]
   cases hc:inR r l[i].1 with
   | false=>
    simp only[Bh,Ad,Br,Bk]
    rw[y7i (by omega)]
    exact⟨by omega,rfl⟩
   | true=>
    have hlow:(a.filter fun x=>y2y x l[i].1).length≤a.length:=Cs _ _
    simp only[Ap,Aa,Bl,t12 l[i].1 r l (i:Int) a (by omega),zOb,Aw,u5u (show(a.filter fun x=>y2y x l[i].1).length+1≤1099511627776 by omega),Ad,
     t1l l[i].1 r l (i:Int) a (a.filter (fun x=>y2y x l[i].1)++ [l[i].1]) (by simp;omega)]
    rw[y7i (by omega)]
    exact⟨A9 (t4e _ _) (by omega),rfl⟩) [] (by simp)
 rw[t0a];unfold u6s
 simp only[L,zOb]
 have hfold:∀(m:Hu u83) (a:Hu Hs),m.foldl (fun a v=>if inR r v.1=true then t21 v.1 a else a) a=((m.map fun v=>v.1).filter fun k=>inR r k).foldl (fun a k=>t21 k a) a:=by
  intro m
  induction m with
  | nil=>intro a;rfl
  | cons x m ih=>
   intro a
   rw[Bs,ih]
   cases hc:inR r x.1<;>simp[hc]
 rw[hfold,t4z]
def t2j (l:Hu u83) (r:Hs×Hs) (snap:Int):Hu (Hs×Hs):=
 ((u8y (l.map fun v=>v.1)).filter fun k=>(u56 l k snap).2&&inR r k).map fun k=>(k,(u56 l k snap).1)
theorem t1u (l:Hu u83) (r:Hs×Hs) (snap:Int) (hl:l.length≤500000000000):u2m (l,r,snap)=some (t2j l r snap):=by
 obtain⟨ks,hks⟩:∃ks,ks=(u8y (l.map fun v=>v.1)).filter fun k=>inR r k:=⟨_,rfl⟩
 have hkl:ks.length≤l.length:=by
  rw[hks]
  refine A9 (Cs _ _) (A9 (u9f _) (by simp))
 have L:=t2d u1s ks (fun a i=>(l,snap,a,ks,i)) (fun k=>(u56 l k snap).2) (fun k=>(k,(u56 l k snap).1)) (fun a=> .inl a) (by omega)
  (fun a _=>by rw[u6b];simp only[u1n,u0d,Am,Ah,Aa])
  (fun i hi a ha=>by
   rw[u6b];simp only[u1n,u0d,hi,Ae,Ad,y7r hi,zTn,y8k (t:=Ty.str) hi,t1w l _ snap (show l.length≤1099511627776 by omega),zOb,Aw,u5u (show a.length+1≤1099511627776 by omega)]
   rw[y7i (by omega)])
 rw[t00];unfold u7k
 simp only[t3a l r hl,zOb]
 rw[←hks]
 simp only[L,zOb]
 rw[hks,List.filter_filter]
 rfl
theorem t1t (l:Hu u83) (r:Hs×Hs) (snap:Int) (hl:l.length≤500000000000):u2l (l,r,snap)=some (t2j l r snap):=by
 obtain⟨ks,hks⟩:∃ks,ks=u8y (l.map fun v=>v.1):=⟨_,rfl⟩
 have hkl:ks.length≤l.length:=by
  rw[hks]
  refine A9 (u9f _) (by simp)
 have L:=t2d u1o ks (fun a i=>(l,snap,r,a,ks,(ks.length:Int),i)) (fun k=>(u56 l k snap).2&&inR r k) (fun k=>(k,(u56 l k snap).1)) (fun a=> .inl a) (by omega)
  (fun a _=>by rw[u58];simp only[u1k,u0d,Am,Ah,Aa])
  (fun i hi a ha=>by
   rw[u58];simp only[u1k,u0d,hi,Ae,Ad,y7r hi,zTn,y8k (t:=Ty.str) hi,t1v l _ snap (show l.length≤1099511627776 by omega),t09,zOb,Aw,u5u (show a.length+1≤1099511627776 by omega)]
   rw[y7i (by omega)]
   cases (u56 l ks[i] snap).2<;>rfl)
 rw[t0k];unfold u63
 simp only[t29 l (show l.length≤1099511627775 by omega),zOb]
 rw[←hks]
 simp only[L,zOb]
 rw[hks]
 rfl
end
section
theorem t1r (l:Hu Int):(y7d l).size=l.length:=by
 simp[y7d,ByteArray.size]
theorem t2g {s:Hs} {i:Nat} (h:i<s.size):s.data.toList.getD i 0=s.data.toList[i]'(by simpa using h):=by
 rw[A5,A4 (by simpa using h)]
 rfl
theorem t5a (n m:Nat):Int.tdiv (n:Int) (m:Int)=((n / m:Nat):Int):=(Int.ofNat_tdiv n m).symm
theorem t5b (n m:Nat):Int.tmod (n:Int) (m:Int)=((n % m:Nat):Int):=(Int.ofNat_tmod n m).symm
theorem t6k {n:Nat} (h:n<256):IntKind.u8.wrap (n:Int)=(n:Int):=by
 simp[IntKind.wrap,IntKind.bits,IntKind.signed]
 omega
end
section
abbrev PrT:=Hs×Hs
end
section
def u5t (a b:u3l.den):Bool:=
 decide (a.2.1=3)&&decide (b.2.1=3)&& !decide (a.1=b.1)&&
 (decide (a.2.2.2.1≤b.2.2.1)&&t3v b.2.2.2.2.1 a.2.2.2.2.2.1 || decide (a.2.2.2.1<b.2.2.2.1)&&t7a a.2.2.2.2.2.1 b.2.2.2.2.2.1 || decide (b.2.2.2.1 >a.2.2.1)&&t3v a.2.2.2.2.1 b.2.2.2.2.2.1)
end
section
def t7u (l:Hu u3l.den) (j i:Nat):Bool:=u5t (rdL u3l l j) (rdL u3l l i)
def t57 (l:Hu u3l.den) (t:Hu Nat) (i:Nat):Bool:= !t.contains i&& !(List.range l.length).any (fun j=> !decide (j=i)&&(!t.contains j&&t7u l j i))
def t4h (l:Hu u3l.den) (t:Hu Nat):Ht Nat:=(List.range l.length).find? (t57 l t)
def t59 (l:Hu u3l.den):Nat→Hu Nat→Ht (Hu Nat)
 | 0,t=>some t
 | k+1,t=>match t4h l t with
  | none=>none
  | some i=>t59 l k (t++ [i])
def t7b (l:Hu u3l.den):Ht (Hu Nat):=t59 l l.length []
section
variable {l:Hu u3l.den} (hw:∀x∈l,u3l.wt x≤t5t) (hl:l.length≤1048576)
include hw hl
end
end
section
def t7e (l:Hu u3l.den):Nat:=(l.map fun t=>t.2.2.2.2.2.1.length).sum
section
variable {l:Hu u3l.den} (hw:∀x∈l,u3l.wt x≤t5t) (hl:l.length+t7e l≤1048576) (hr:∀x∈l,x.2.2.2.2.1.length≤1048576)
include hl
include hr
include hw
end
end
section
def KD (l:Hu u0h.den):Prop:=l.Pairwise fun a b=>a.1≠b.1
def t7c (t:u3l.den):Prop:=t.2.2.2.2.1.length≤3∧(∀r∈t.2.2.2.2.1,r.1.size≤2∧r.2.size≤2)∧t.2.2.2.2.2.1.length≤3∧(∀r∈t.2.2.2.2.2.1,r.1.size≤2∧r.2.1.size≤3)∧t.2.2.2.2.2.2.2.size≤16
def tId (t:u3l.den):Int:=t.1
def tSt (t:u3l.den):Int:=t.2.1
def t7d (t:u3l.den):Int:=t.2.2.1
def tCs (t:u3l.den):Int:=t.2.2.2.1
def t5w (t:u3l.den):Prop:=tSt t=3∧t7d t<tCs t∧KD t.2.2.2.2.2.1
def t50 (l:Hu u3l.den):Prop:=(∀t∈l,t5w t)∧l.Pairwise fun a b=>tId a≠tId b∧tCs a<tCs b
end
section
def t71 (m:Hu PrT):Prop:=m.Pairwise fun a b=>y2y a.1 b.1=true
def vCs (x:u83):Int:=x.2.2.2
end
section
abbrev t5p:=Hu u83×Hu t5r×Hu t5r×Int×Int
end
section
def vLt (a b:u83):Prop:=y2y a.1 b.1=true∨(a.1=b.1∧vCs a<vCs b)
def t72 (l:Hu u83):Prop:=l.Pairwise vLt
end
section
abbrev t7n:=Hs×Hs
end
section
abbrev u82:=Hu Hs×Hu (Int×Hs)
def t7x (a b c:Int):Bool:=decide (b≤a)&&decide (a≤c)
def t40 (c:Hu (Int×Hs)) (at_:Int):Ht Hs:=c.foldl (fun t p=>if p.1=at_ then some p.2 else t) none
def u9h (d:u82) (at_:Int):Hs×Bool:=if 0≤at_∧at_<d.1.length then((t40 d.2 at_).getD (rdL Ty.str d.1 at_.toNat),true) else(emp,false)
def t6b (d:u82) (from_:Int):Nat→Nat→Hs→Hs×Bool
 | 0,_,acc=>(acc,true)
 | m+1,i,acc=>if(u9h d (from_+(i:Int))).2 then t6b d from_ m (i+1) (acc++(u9h d (from_+(i:Int))).1) else(emp,false)
def t3m (d:u82) (from_ n:Int):Hs×Bool:=if 0≤n∧n≤100 then t6b d from_ n.toNat 0 emp else(emp,false)
end
section
section
variable {l:Hu u3l.den} (hl:t50 l) {u:Hu Nat} (ho:t7b l=some u)
include hl
include ho
def pre (l:Hu u3l.den) (u:Hu Nat) (a:Nat):Hu u3l.den:=(u.take a).map fun i=>rdL u3l l i
end
end
section
def t7z (w:u0h.den):Prop:=w.1.size≤4∧w.2.1.size≤13
def t7y (n:Nat) (t:u3l.den):Prop:=t.2.2.2.2.1.length≤n∧(∀r∈t.2.2.2.2.1,r.1.size≤2∧r.2.size≤2)∧t.2.2.2.2.2.1.length≤n∧(∀r∈t.2.2.2.2.2.1,t7z r)∧t.2.2.2.2.2.2.2.size≤16
end
section
def t7j (n:Nat):Hu Int:=if h:n<128 then[(n:Int)] else((n % 128+128:Nat):Int)::t7j (n / 128)
termination_by n
decreasing_by omega
def t6i:Nat→Nat→Nat→Hu UInt8→Ht (Nat×Nat)
 | 0,_,_,_=>none
 | _+1,_,_, [] =>none
 | f+1,i,n,b::l=>
  if b.toNat<128 then(if n+b.toNat % 128*128^i≤1000000000∧(t7j (n+b.toNat % 128*128^i)).length=i+1 then some (n+b.toNat % 128*128^i,i+1) else none)
  else t6i f (i+1) (n+b.toNat % 128*128^i) l
def t6h (at_:Int) (r:Ht (Nat×Nat)):Int×Int×Bool:=match r with
 | some (n,k)=>((n:Int),at_+(k:Int),true)
 | none=>(0,0,false)
def u4s (t:Hs) (at_:Int):Int×Int×Bool:=if 0≤at_∧at_≤t.size then t6h at_ (t6i 5 0 0 (t.data.toList.drop at_.toNat)) else(0,0,false)
end
section
def u7o (t:Hs) (at_:Int):Hs×Int×Bool:=
 if(u4s t at_).2.2=true∧(u4s t at_).1≤20000∧(u4s t at_).1≤(t.size:Int) - (u4s t at_).2.1 then
  (t.extract (u4s t at_).2.1.toNat ((u4s t at_).2.1+(u4s t at_).1).toNat,(u4s t at_).2.1+(u4s t at_).1,true)
 else(emp,0,false)
def t65 (t:Hs):Int:=((t.data.toList.getD 0 0).toNat:Int)
def t3h (d:u82) (s:Int):Int:=t65 (u9h d s).1
def t2e (d:u82):Int:=Int.tmod (t3h d 0) 2
def t68 (a:Int):Bool:=decide (a=0) || decide (a=1)
def u5s (a:Int):Int:=if t68 a then 1+a*48 else 0
def t4v (d:u82) (a:Int):Int:=if t68 a then t3h d (u5s a) else 0
def t4s (t:Hs):Nat→Int→Hu Hs→Hu Hs×Int×Bool
 | 0,at_,acc=>(acc,at_,true)
 | m+1,at_,acc=>if(u7o t at_).2.2&& !z7m (u7o t at_).1 emp then t4s t m (u7o t at_).2.1 (acc++ [(u7o t at_).1]) else([],0,false)
def u6e (d:u82) (a:Int):Hu Hs×Int×Bool:=
 if t68 a&&(t3m d (u5s a+1) 47).2 then t4s (t3m d (u5s a+1) 47).1 (t4v d a).toNat 0 [] else([],0,false)
end
section
def t5v (d:u82):Bool:=decide (1≤d.1.length∧d.1.length≤100)&&decide (d.2.length≤60)&&d.1.all (fun s=>decide (s.size=64))&&d.2.all (fun p=>t7x p.1 0 ((d.1.length:Int) - 1)&&decide (p.2.size=64))
def t69 (d:u82):Bool:=t5v d&&decide (d.1.length=97)&&decide (d.2.length=0)&&(u6e d 0).2.2&&(u6e d 1).2.2
end
section
def t6r (a:Int) (d d' :u82):Prop:= ∀j:Nat,¬(u5s a≤(j:Int)∧(j:Int)<u5s a+48)→u9h d' (j:Int)=u9h d (j:Int)
end
section
abbrev t7m:=Int×t5r×Hs×Bool×t5p
end
section
def t63 (d e:u82):Prop:=t69 e=true∧t2e e=t2e d∧u6e e 0=u6e d 0∧u6e e 1=u6e d 1
end
section
structure SameC (x y:t5r):Prop where
 id:x.1=y.1
 st:x.2.1=y.2.1
 snap:x.2.2.1=y.2.2.1
 cs:x.2.2.2.1=y.2.2.2.1
 rs:x.2.2.2.2.1=y.2.2.2.2.1
 ws:x.2.2.2.2.2.1=y.2.2.2.2.2.1
end
section
structure tinyT (t:t5r):Prop where
 rl:t.2.2.2.2.1.length≤100
 rs:∀r∈t.2.2.2.2.1,r.1.size≤100∧r.2.size≤100
 wl:t.2.2.2.2.2.1.length≤100
 ws:∀w∈t.2.2.2.2.2.1,w.1.size≤100∧w.2.1.size≤100
 nm:t.2.2.2.2.2.2.2.size≤100
structure tinyB (b:t5p):Prop where
 vl:b.1.length≤10000
 vs:∀v∈b.1,v.1.size≤100∧v.2.1.size≤100
 pl:b.2.1.length≤1000
 ps:∀t∈b.2.1,tinyT t
 rl:b.2.2.1.length≤1000
 rs:∀t∈b.2.2.1,tinyT t
structure tinyR (r:t7m):Prop where
 t:tinyT r.2.1
 n:r.2.2.1.size≤100
 b:tinyB r.2.2.2.2
end
section
def t4u:t7n:=((⟨#[97]⟩:Hs),(⟨#[122,122,122]⟩:Hs))
end
section
def fig (n:Nat):Int:=if n<10 then 48+(n:Int) else 87+(n:Int)
def t67 (b:UInt8):Hu Int:= [fig (b.toNat / 16),fig (b.toNat % 16)]
def t2i (l:Hu UInt8):Hu Int:=l.flatMap t67
def t2z (s:Hs):Hs×Bool:=if s.size >20000 then(⟨#[]⟩,false) else(y7d (t2i s.data.toList),true)
theorem u6w (l:Hu UInt8):(t2i l).length=2*l.length:=by
 induction l with
 | nil=>rfl
 | cons x l ih=>
  simp only[t2i,List.flatMap_cons,Ba] at ih ⊢
  rw[ih]
  simp[t67];omega
theorem t1k {l:Hu UInt8} {i:Nat} (h:i<l.length):t2i (l.take (i+1))=t2i (l.take i)++t67 l[i] :=by
 unfold t2i
 rw[B9 h,List.flatMap_append]
 simp only[List.flatMap_cons,List.flatMap_nil,Bw]
theorem t5u {n:Nat} (h:n≤100000000000):Nat.ble n z8y=true:=Nat.ble_eq_true_of_le (A9 h (by decide))
theorem t6l {n:Nat} (h:n<200):IntKind.u8.wrap (n:Int)=(n:Int):=t6k (by omega)
theorem u9d (n:Nat) (h:n<16):u0j (n:Int)=some (fig n):=by
 rw[u8x];unfold u43 fig
 by_cases hc:n<10
 ·have:decide ((n:Int)<(10:Int))=true:=by simp;omega
  have e1:IntKind.i64.wrap ((48:Int)+(n:Int))=((48+n:Nat):Int):=by rw[y4u (by omega) (by omega)];omega
  rw[this,Ad,Al hc,e1,t6l (by omega)];exact Dj some (by omega)
 ·have:decide ((n:Int)<(10:Int))=false:=by simp;omega
  have e1:IntKind.i64.wrap ((97:Int)+(n:Int))=(97:Int)+(n:Int):=y4u (by omega) (by omega)
  have e2:IntKind.i64.wrap ((97:Int)+(n:Int) - 10)=((87+n:Nat):Int):=by rw[y4u (by omega) (by omega)];omega
  rw[this,Aa,Ao hc,e1,e2,t6l (by omega)];exact Dj some (by omega)
theorem t34 (s:Hs):u7y s=some (t2z s):=by
 rw[t2n];unfold t0e t2z
 by_cases hz:s.size >20000
 ·have:decide ((s.size:Int) >(20000:Int))=true:=by simp;omega
  rw[this,Ad,Al hz]
 have h0:decide ((s.size:Int) >(20000:Int))=false:=by simp;omega
 rw[h0,Aa,Ao hz]
 have L:=t1y u2b s.size (fun(_:Unit) i=>(s,t2i (s.data.toList.take i.toNat),i)) (fun _ _=> .inl (t2i s.data.toList)) (fun _ _=>True)
  (fun a _=>by
   rw[u8k];simp only[u27,u0d,Am,Ah,Aa,zTn]
   rw[List.take_of_length_le (by simp)])
  (fun i a hi _=> .inr ⟨(),trivial,rfl,by
   have hb:(s.data.toList[i]'(by simpa using hi)).toNat<256:=Fw _
   rw[u8k]
   have t1:Int.tdiv (((s.data.toList[i]'(by simpa using hi)).toNat:Nat):Int) (16:Int)=(((s.data.toList[i]'(by simpa using hi)).toNat / 16:Nat):Int):=t5a _ 16
   have t2:Int.tmod (((s.data.toList[i]'(by simpa using hi)).toNat:Nat):Int) (16:Int)=(((s.data.toList[i]'(by simpa using hi)).toNat % 16:Nat):Int):=t5b _ 16
   have hble:Nat.ble ((t2i (s.data.toList.take i)).length+2) z8y=true:=t5u (by rw[u6w];simp;omega)
   simp only[u27,u0d,hi,Ae,Ad,y7r hi,zTn,t2g hi,y8a (show(s.data.toList[i]'(by simpa using hi)).toNat≤4611686018427387904 by omega),t1,t2,y8a (show(s.data.toList[i]'(by simpa using hi)).toNat / 16≤4611686018427387904 by omega),
    u9d ((s.data.toList[i]'(by simpa using hi)).toNat / 16) (by omega),u9d ((s.data.toList[i]'(by simpa using hi)).toNat % 16) (by omega),zOb,Bc,Cc,hble]
   rw[y7i (by omega),t1k (by simpa using hi)]
   rfl⟩) 0 () (by omega) trivial
 have L:u2b (s, [],0)=some (.inl (t2i s.data.toList)):=L
 simp only[L,zOb]
def t70:Hs:=⟨#[48,49,50,51,52,53,54,55,56,57,97,98,99,100,101,102]⟩
theorem t6e:(⟨#[48,49,50,51,52,53,54,55,56,57,97,98,99,100,101,102]⟩:Hs)=t70:=rfl
theorem t4m:t70.size=16:=rfl
theorem t7h:∀n:Nat,n<16→((([48,49,50,51,52,53,54,55,56,57,97,98,99,100,101,102] :Hu UInt8).getD n 0).toNat:Int)=fig n:=by decide
theorem t33 (s:Hs):u7x s=some (t2z s):=by
 rw[t2m];unfold t0d t2z
 by_cases hz:s.size >20000
 ·have:decide ((s.size:Int) >(20000:Int))=true:=by simp;omega
  rw[this,Ad,Al hz]
 have h0:decide ((s.size:Int) >(20000:Int))=false:=by simp;omega
 rw[h0,Aa,Ao hz]
 have L:=t1y u2a s.size (fun(_:Unit) i=>(s,t2i (s.data.toList.take i.toNat),i)) (fun _ _=> .inl (t2i s.data.toList)) (fun _ _=>True)
  (fun a _=>by
   rw[u8j];simp only[u23,u0d,Am,Ah,Aa,zTn]
   rw[List.take_of_length_le (by simp)])
  (fun i a hi _=> .inr ⟨(),trivial,rfl,by
   have hb:(s.data.toList[i]'(by simpa using hi)).toNat<256:=Fw _
   rw[u8j]
   have t1:Int.tdiv (((s.data.toList[i]'(by simpa using hi)).toNat:Nat):Int) (16:Int)=(((s.data.toList[i]'(by simpa using hi)).toNat / 16:Nat):Int):=t5a _ 16
   have t2:Int.tmod (((s.data.toList[i]'(by simpa using hi)).toNat:Nat):Int) (16:Int)=(((s.data.toList[i]'(by simpa using hi)).toNat % 16:Nat):Int):=t5b _ 16
   have w2:IntKind.u8.wrap (((s.data.toList[i]'(by simpa using hi)).toNat / 16:Nat):Int)=(((s.data.toList[i]'(by simpa using hi)).toNat / 16:Nat):Int):=t6k (by omega)
   have hble:Nat.ble ((t2i (s.data.toList.take i)).length+2) z8y=true:=t5u (by rw[u6w];simp;omega)
   simp only[u23,t6e,t4m,u0d,hi,Ae,Ad,y7r hi,zTn,t2g hi,t1,t2,w2,y7r (show(s.data.toList[i]'(by simpa using hi)).toNat / 16<16 by omega),y7r (show(s.data.toList[i]'(by simpa using hi)).toNat % 16<16 by omega),
    t7h ((s.data.toList[i]'(by simpa using hi)).toNat / 16) (by omega),t7h ((s.data.toList[i]'(by simpa using hi)).toNat % 16) (by omega),Bc,Cc,hble]
   rw[y7i (by omega),t1k (by simpa using hi)]
   rfl⟩) 0 () (by omega) trivial
 have L:u2a (s, [],0)=some (.inl (t2i s.data.toList)):=L
 simp only[L,zOb]
def u8i (p:t7t.den):Hs:=p.1++⟨#[61]⟩++(t2z p.2).1++⟨#[10]⟩
def u7w (l:Hu t7t.den):Hs:=l.foldl (fun a p=>a++u8i p) ⟨#[]⟩
theorem u9e (s:Hs):(t2z s).1.size≤40000:=by
 unfold t2z
 split
 ·show 0≤_;omega
 ·show(y7d _).size≤_
  rw[t1r,u6w]
  simp;omega
theorem u6x (p:t7t.den):(u8i p).size≤p.1.size+40002:=by
 have:=u9e p.2
 have e1:(⟨#[61]⟩:Hs).size=1:=rfl
 have e2:(⟨#[10]⟩:Hs).size=1:=rfl
 unfold u8i
 simp only[Af,e1,e2]
 omega
theorem t0g:∀(l:Hu t7t.den) (a:Hs),(∀p∈l,p.1.size≤1048576)→(l.foldl (fun a p=>a++u8i p) a).size≤a.size+l.length*2000000
 | [],a,_=>by simp
 | p::l,a,h=>by
  have h1:=t0g l (a++u8i p) fun q hq=>h q (Bm _ hq)
  have h2:=u6x p
  have h3:=h p (C9 ..)
  rw[Bs,Bc,C7]
  rw[Af] at h1
  omega
theorem t1n {l:Hu t7t.den} (h:∀p∈l,p.1.size≤1048576):(u7w l).size≤l.length*2000000:=by
 have:=t0g l ⟨#[]⟩ h
 have e:(⟨#[]⟩:Hs).size=0:=rfl
 unfold u7w
 omega
theorem u9p (l:Hu t7t.den) (hn:l.length≤1048576) (hk:∀p∈l,p.1.size≤1048576):u2j l=some (u7w l):=by
 have L:=t1b u0z l (fun a i=>(l,a,i)) (fun a p=>a++u8i p) (fun a=> .inl a) (fun i a=>a.size≤i*2000000)
  (fun a _=>by rw[u3k];simp only[u0w,u0d,Am,Ah,Aa])
  (fun i hi a ha=>by
   have hk:=hk _ (Ag hi)
   have hh:=u9e l[i].2
   have e1:(⟨#[61]⟩:Hs).size=1:=rfl
   have e2:(⟨#[10]⟩:Hs).size=1:=rfl
   have hs:=u6x l[i]
   refine⟨by rw[Af];omega,?_⟩
   rw[u3k]
   simp only[u0w,u0d,hi,Ae,Ad,y7r hi,zTn,y8k hi,t34,zOb,Af,e1,e2]
   rw[Bb (show a.size+(l[i]).1.size≤140737488355328 by omega),Bb (show a.size+(l[i]).1.size+1≤140737488355328 by omega),Bb (show a.size+(l[i]).1.size+1+(t2z (l[i]).2).1.size≤140737488355328 by omega),Bb (show a.size+(l[i]).1.size+1+(t2z (l[i]).2).1.size+1≤140737488355328 by omega)]
   simp only[Ad]
   rw[y7i (by omega)]
   simp only[u8i,ByteArray.append_assoc]) ⟨#[]⟩ (by show 0≤_;omega)
 rw[u8v];unfold u41
 simp only[L,zOb]
 rfl
theorem u9o (l:Hu t7t.den) (hn:l.length≤1048576) (hk:∀p∈l,p.1.size≤1048576):u2e l=some (u7w l):=by
 have L:=t1b u0x l (fun a i=>(a,l,(l.length:Int),i)) (fun a p=>a++u8i p) (fun a=> .inl a) (fun i a=>a.size≤i*2000000)
  (fun a _=>by rw[u3j];simp only[u0v,u0d,Am,Ah,Aa])
  (fun i hi a ha=>by
   have hk:=hk _ (Ag hi)
   have hh:=u9e l[i].2
   have e1:(⟨#[61]⟩:Hs).size=1:=rfl
   have e2:(⟨#[10]⟩:Hs).size=1:=rfl
   have hs:=u6x l[i]
   refine⟨by rw[Af];omega,?_⟩
   rw[u3j]
   simp only[u0v,u0d,hi,Ae,Ad,y7r hi,zTn,y8k hi,t33,zOb,Af,e1,e2]
   rw[Bb (show(l[i]).1.size+1≤140737488355328 by omega),Bb (show(l[i]).1.size+1+(t2z (l[i]).2).1.size≤140737488355328 by omega),Bb (show(l[i]).1.size+1+(t2z (l[i]).2).1.size+1≤140737488355328 by omega),Bb (show a.size+((l[i]).1.size+1+(t2z (l[i]).2).1.size+1)≤140737488355328 by omega)]
   simp only[Ad]
   rw[y7i (by omega)]
   rfl) ⟨#[]⟩ (by show 0≤_;omega)
 rw[u8n];unfold u4u
 simp only[L,zOb]
 rfl
theorem t7v:∀k:Nat,k<10→y7d [fig k] =(⟨#[UInt8.ofNat (48+k)]⟩:Hs):=by decide
theorem t38 (u:Nat) (h:u<9223372036854775808):(Lib.decDigits u).length≤19:=by
 rw[Lib.decDigits_length]
 have h2:=Lib.nDigits_pos u
 have key:∀(m v:Nat),v<10^m→1≤m→Lib.nDigits v≤m:=by
  intro m
  induction m with
  | zero=>intro v _ h;omega
  | succ m ih=>
   intro v hv _
   by_cases c:v<10
   ·rw[Lib.nDigits_small c];omega
   ·rw[Lib.nDigits_big c]
    have hv' :v / 10<10^m:=by rw[Gr] at hv;omega
    have hm:1≤m:=by
     rcases De m with e | e
     ·subst e;simp at hv';omega
     ·exact e
    have:=ih (v / 10) hv' hm
    omega
 exact key 19 u (by have:(10:Nat)^19=10000000000000000000:=by decide
                    omega) (by omega)
theorem u7n (u:Nat):y5q (u:Int)=⟨(Lib.decDigits u).toArray⟩:=by unfold y5q;rw[Lib.itoa_nonneg]
theorem u31 {n:Int} (h0:0≤n) (h1:n≤9223372036854775807):(y5q n).size≤19:=by
 obtain⟨u,rfl⟩:∃u:Nat,n=(u:Int):=⟨n.toNat,by omega⟩
 rw[u7n]
 show(Lib.decDigits u).toArray.size≤19
 have:=t38 u (by omega)
 simpa using this
theorem t39 {u:Nat} (h: ¬u<10):y5q (u:Int)=y5q ((u / 10:Nat):Int)++⟨#[UInt8.ofNat (48+u % 10)]⟩:=by
 rw[u7n,u7n,Lib.decDigits,dif_neg h]
 apply Gf
 simp[Ft]
theorem t1z {u:Nat} (h:u<10):y5q (u:Int)=⟨#[UInt8.ofNat (48+u)]⟩:=by
 rw[u7n,Lib.decDigits_one h]
theorem t3c:∀(m:Nat) (u:Nat) (s:Hs),u<10^m→0<u→u<9223372036854775808→s.size+m≤1000→u1f ((u:Int),false,s)=some (.inl (false,y5q (u:Int)++s))
 | 0,u,s,h1,h2,h3,h4=>by simp at h1;omega
 | m+1,u,s,h1,h2,h3,h4=>by
  have e1:Int.tmod (u:Int) 10=((u % 10:Nat):Int):=t5b u 10
  have e2:Int.tdiv (u:Int) 10=((u / 10:Nat):Int):=t5a u 10
  have d1:decide ((u:Int)=0)=false:=A7 (by omega)
  have d2:decide (((u % 10:Nat):Int)<0)=false:=A7 (by omega)
  have hl:(y7d [fig (u % 10)]).size+s.size≤140737488355328:=by rw[t1r];simp only[Aw];omega
  rw[u47]
  simp only[u1c,d1,e1,e2,d2,Bh,Ad,Aa,u9d (u % 10) (by omega),zOb,hl,Ae,y8a (show u / 10≤4611686018427387904 by omega)]
  rw[t7v (u % 10) (by omega)]
  by_cases c:u<10
  ·have z:u / 10=0:=by omega
   have z2:u % 10=u:=by omega
   rw[z,u47,z2,←t1z c]
   simp[u1c]
  ·have p:u / 10<10^m:=by rw[Gr] at h1;omega
   have:=t3c m (u / 10) (⟨#[UInt8.ofNat (48+u % 10)]⟩++s) p (by omega) (by omega) (by rw[Af];show 1+s.size+m≤1000;omega)
   rw[this,t39 c,ByteArray.append_assoc]
theorem u5c {n:Int} (h0:0≤n) (h1:n≤9223372036854775807):u1b n=some (y5q n):=by
 obtain⟨u,rfl⟩:∃u:Nat,n=(u:Int):=⟨n.toNat,by omega⟩
 rw[u98];unfold u6q
 by_cases c:u=0
 ·subst c
  have:=t1z (u:=0) (by omega)
  simp only[this]
  rfl
 ·have p:u<10^19:=by have:(10:Nat)^19=10000000000000000000:=by decide
                     omega
  have e:=t3c 19 u (⟨#[]⟩:Hs) p (by omega) (by omega) (by decide)
  have d:decide ((u:Int)<0)=false:=A7 (by omega)
  have d0:decide ((u:Int)=0)=false:=A7 (by omega)
  have ez:y5q (u:Int)++(⟨#[]⟩:Hs)=y5q (u:Int):=ByteArray.append_empty
  simp only[d0,Aa,d,e,zOb,ez]
end
section
theorem cc {T:Type} {a b:Nat} {x:Ht T} (h:a+b≤140737488355328):(bif decide (a+b≤140737488355328) then x else none)=x:=by rw[Bb h];rfl
def t58 (n:Int):Hs:=y5q (y8g n 0)
theorem u80 {n:Int} (h:n≤9223372036854775807):0≤y8g n 0∧y8g n 0≤9223372036854775807:=by
 unfold y8g;split<;>omega
theorem t1o {n:Int} (h:n≤9223372036854775807):(t58 n).size≤19:=u31 (u80 h).1 (u80 h).2
theorem u5b {n:Int} (h0:0≤n) (h1:n≤9223372036854775807):u0u n=some (y5q n):=by
 rw[u9w];unfold u6h
 rw[t0b];unfold y6w
 have d1:decide (-9223372036854775808≤n)=true:=Bb (by omega)
 have d2:decide (n≤9223372036854775807)=true:=Bb h1
 rw[d1,d2];rfl
theorem t36 {n:Int} (h:n≤9223372036854775807):u4r n=some (t58 n):=by
 rw[t03];unfold u7m t58 y8g
 by_cases c:n<0
 ·have d:decide (n<0)=true:=Bb c
  have e:y5q 0=(⟨#[48]⟩:Hs):=t1z (u:=0) (by omega)
  rw[d,Ad,Al (by omega),e]
 ·have d:decide (n<0)=false:=A7 c
  rw[d,Aa,Ao (by omega),u5c (by omega) h];rfl
theorem t35 {n:Int} (h:n≤9223372036854775807):u0u (y8g n 0)=some (t58 n):=u5b (u80 h).1 (u80 h).2
def t66 (s:u8d.den):Hs:=((((((⟨#[99,115,32]⟩:Hs)++t58 s.1.1.2.2.2.1)++(⟨#[32,111,112,101,110,32]⟩:Hs))++y5q (s.1.2.length:Int))++(⟨#[32,114,101,97,100,121,32]⟩:Hs))++y5q (s.1.1.2.2.1.length:Int))++(⟨#[10]⟩:Hs)
def u9g (s:u8d.den):Hu t7t.den:=t2j s.1.1.1 t4u s.1.1.2.2.2.1
def t4i (s:u8d.den):Hs:=t66 s++u7w (u9g s)
structure SmallS (s:u8d.den):Prop where
 cs:s.1.1.2.2.2.1≤9223372036854775807
 vl:s.1.1.1.length≤1048576
 vk:∀v∈s.1.1.1,v.1.size≤1048576
 ol:s.1.2.length≤1048576
 rl:s.1.1.2.2.1.length≤1048576
theorem SmallS.pairs {s:u8d.den} (h:SmallS s):(u9g s).length≤1048576∧ ∀p∈u9g s,p.1.size≤1048576:=by
 unfold u9g t2j
 constructor
 ·rw[Da]
  refine A9 (Cs _ _) (A9 (u9f _) ?_)
  rw[Da];exact h.vl
 ·intro p hp
  obtain⟨k,hk,rfl⟩:=Bx.mp hp
  have hk:=((t0f _).2 k).mp (A6.mp hk).1
  obtain⟨v,hv,rfl⟩:=Bx.mp hk
  exact h.vk v hv
theorem SmallS.lines {s:u8d.den} (h:SmallS s):(u7w (u9g s)).size≤3000000000000:=by
 have:=t1n h.pairs.2
 have:=h.pairs.1
 omega
theorem u9r {s:u8d.den} (h:SmallS s):u2k s=some (t4i s):=by
 have h1:=t1o h.cs
 have h2:=u31 (n:=(s.1.2.length:Int)) (by omega) (by have:=h.ol;omega)
 have h3:=u31 (n:=(s.1.1.2.2.1.length:Int)) (by omega) (by have:=h.rl;omega)
 have h4:=h.lines
 have z1:(⟨#[99,115,32]⟩:Hs).size=3:=rfl
 have z2:(⟨#[32,111,112,101,110,32]⟩:Hs).size=6:=rfl
 have z3:(⟨#[32,114,101,97,100,121,32]⟩:Hs).size=7:=rfl
 have z4:(⟨#[10]⟩:Hs).size=1:=rfl
 have hall:u4q ()=some t4u:=by rw[t02];rfl
 have hsc:u2m (s.1.1.1,t4u,s.1.1.2.2.2.1)=some (u9g s):=t1u s.1.1.1 t4u _ (by have:=h.vl;omega)
 rw[u8w];unfold u42
 simp only[t36 h.cs,u5c (n:=(s.1.2.length:Int)) (by omega) (by have:=h.ol;omega),u5c (n:=(s.1.1.2.2.1.length:Int)) (by omega) (by have:=h.rl;omega),hall,hsc,u9p _ h.pairs.1 h.pairs.2,zOb]
 repeat rw[cc]
 ·rfl
 all_goals ((try simp only[Af]);omega)
theorem u9q {s:u8d.den} (h:SmallS s):u2f s=some (t4i s):=by
 have h1:=t1o h.cs
 have h2:=u31 (n:=(s.1.2.length:Int)) (by omega) (by have:=h.ol;omega)
 have h3:=u31 (n:=(s.1.1.2.2.1.length:Int)) (by omega) (by have:=h.rl;omega)
 have h4:=h.lines
 have z1:(⟨#[99,115,32]⟩:Hs).size=3:=rfl
 have z2:(⟨#[32,111,112,101,110,32]⟩:Hs).size=6:=rfl
 have z3:(⟨#[32,114,101,97,100,121,32]⟩:Hs).size=7:=rfl
 have z4:(⟨#[10]⟩:Hs).size=1:=rfl
 have hall:u3n ()=some t4u:=by rw[u9y];rfl
 have hsc:u2l (s.1.1.1,t4u,s.1.1.2.2.2.1)=some (u9g s):=t1t s.1.1.1 t4u _ (by have:=h.vl;omega)
 rw[u8o];unfold u4v
 simp only[t35 h.cs,u5b (n:=(s.1.2.length:Int)) (by omega) (by have:=h.ol;omega),u5b (n:=(s.1.1.2.2.1.length:Int)) (by omega) (by have:=h.rl;omega),hall,hsc,u9o _ h.pairs.1 h.pairs.2,zOb]
 repeat rw[cc]
 ·rfl
 all_goals ((try simp only[Af]);omega)
end
section
theorem t6j {n:Int} (h:(Ty.int .i64).fine n): -9223372036854775808≤n∧n≤9223372036854775807:=by
 have h:(Lit.int .i64 n).wf=true:=h
 simp[Lit.wf,IntKind.min,IntKind.max,IntKind.signed,IntKind.bits] at h
 omega
theorem t17 {x:u8d.den} (hx:u8d.fine x) (h:u8d.wt x≤1048576):SmallS x:=by
 have k1:u8d.wt x=(((Ty.sl u0b).wt x.1.1.1+((Ty.sl u3l).wt x.1.1.2.1+((Ty.sl u3l).wt x.1.1.2.2.1+(0+0))))+(Ty.sl u3l).wt x.1.2)+t0j.wt x.2:=rfl
 have k2:(Ty.sl u0b).wt x.1.1.1=x.1.1.1.length+(x.1.1.1.map u0b.wt).sum:=rfl
 have k3:(Ty.sl u3l).wt x.1.1.2.2.1=x.1.1.2.2.1.length+(x.1.1.2.2.1.map u3l.wt).sum:=rfl
 have k4:(Ty.sl u3l).wt x.1.2=x.1.2.length+(x.1.2.map u3l.wt).sum:=rfl
 refine⟨(t6j hx.1.1.2.2.2.1).2,by omega,fun v hv=> ?_,by omega,by omega⟩
 have:=u6c (f:=u0b.wt) hv
 have e:u0b.wt v=v.1.size+(v.2.1.size+(0+0)):=rfl
 omega
theorem u6g (x:u8d.den) (hx:u8d.fine x):u1u x=some true:=by
 rw[u4c];unfold u1t
 refine t49 (t4k x _ hx (by omega) (by omega)) (fun c1=> ?_)
 have wx:u8d.wt x≤1099511627776:=by omega
 have hs:=t17 hx (by omega)
 have e0:z7m (t4i x) (t4i x)=true:=y7c.mpr rfl
 simp only[t4o x wx,u9r hs,u9q hs,t4b x wx,e0,zOb,Ap,Aa]
end
end
end Go.Proofs.YtdeadnnhblaflaaGreatDoor.Ab
