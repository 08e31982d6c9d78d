import Derived.Test.YtdeadnnhblaflaaGreatDoorAbShowWorldG1
import Derived.Test.YtdeadnnhblaflaaGreatDoorAbK2
import Derived.Test.YtdeadnnhblaflaaGreatDoorAbF4
import Derived.Test.YtdeadnnhblaflaaGreatDoorAbS2
import Derived.Test.YtdeadnnhblaflaaGreatDoorAbS4
namespace Go.Proofs.YtdeadnnhblaflaaGreatDoor.Ab
open Go
set_option linter.unusedVariables false
set_option linter.unusedSimpArgs false
set_option linter.unnecessarySimpa false
set_option linter.unusedSectionVars false
section
section
theorem u0d (a b:Nat):decide ((a:Int)<(b:Int))=decide (a<b):=by simp
theorem t3j {X R A:Type} (W:X→Ht R) (n:Nat) (mk:A→Int→X) (res:Nat→A→R) (P:Nat→A→Prop)
 (hend:∀a,P n a→W (mk a (n:Int))=some (res n a))
 (hstep:∀(i:Nat) a,i<n→P i a→W (mk a (i:Int))=some (res i a)∨ ∃a',P (i+1) a' ∧res (i+1) a' =res i a∧W (mk a (i:Int))=W (mk a' ((i+1:Nat):Int))):
 ∀(i:Nat) a,i≤n→P i a→W (mk a (i:Int))=some (res i a):=by
 intro i a hi hP
 obtain⟨d,hd⟩:∃d,i+d=n:=⟨n - i,by omega⟩
 clear hi
 induction d generalizing i a with
 | zero=>
  have:i=n:=by omega
  subst this
  exact hend a hP
 | succ d ih=>
  rcases hstep i a (by omega) hP with h | ⟨a',h1,h2,h3⟩
  ·exact h
  ·rw[h3,ih (i+1) a' h1 (by omega),h2]
def t7f {E A R:Type} (f:Nat→E→A→A⊕R) (fin:A→R):Nat→Hu E→A→R
 | _, [],a=>fin a
 | i,x::l,a=>match f i x a with
  | .inl a' =>t7f f fin (i+1) l a'
  | .inr r=>r
theorem t7t {X R A E:Type} (W:X→Ht R) (l:Hu E) (mk:A→Int→X) (f:Nat→E→A→A⊕R) (fin:A→R) (P:Nat→A→Prop)
 (hend:∀a,P l.length a→W (mk a (l.length:Int))=some (fin a))
 (hstep:∀(i:Nat) (h:i<l.length) a,P i a→match f i l[i] a with
  | .inl a' =>P (i+1) a' ∧W (mk a (i:Int))=W (mk a' ((i+1:Nat):Int))
  | .inr r=>W (mk a (i:Int))=some r) (a:A) (hP:P 0 a):W (mk a 0)=some (t7f f fin 0 l a):=by
 have key:=t3j W l.length mk (fun i a=>t7f f fin i (l.drop i) a) P (fun a h=>by
  rw[hend a h,Dp (Au _)];rfl) (fun i a hi hP=>by
   have hs:=hstep i hi a hP
   have hd:l.drop i=l[i] ::l.drop (i+1):=Ce hi
   rw[hd]
   simp only[t7f]
   cases hf:f i l[i] a with
   | inl a' =>
    rw[hf] at hs
    exact .inr ⟨a',hs.1,rfl,hs.2⟩
   | inr r=>
    rw[hf] at hs
    exact .inl hs) 0 a (Cn _) hP
 exact key
def szr (b:Int) (w:Nat):Int:=if(w:Int)≤b then b - w else -1
theorem u4t {b:Int} {w:Nat} (h:(w:Int)≤b):szr b w=b - w:=Al h
theorem t38 {b:Int} {w:Nat} (h: ¬(w:Int)≤b):szr b w= -1:=Ao h
theorem t5h {b:Int} {v w:Nat} (h:(v:Int)≤b):szr (b - v) w=szr b (v+w):=by
 unfold szr
 by_cases h2:(w:Int)≤b - v
 ·rw[Al h2,Al (by omega)];omega
 ·rw[Ao h2,Ao (by omega)]
def Ty.wt:(t:Ty)→t.den→Nat
 | .int _,_=>0
 | .bool,_=>0
 | .str,s=>s.size
 | .sl e,l=>l.length+(l.map e.wt).sum
 | .pair a b,x=>a.wt x.1+b.wt x.2
theorem u0w {b:Int} {v w:Nat} {F:Ht Int} {K:Int→Ht Int} (hF:F=some (szr b v)) (hK:(v:Int)≤b→K (b - v)=some (szr (b - v) w)):
 (F.bind fun y=>bif decide (y<0) then some (-1) else K y)=some (szr b (v+w)):=by
 subst hF
 by_cases h:(v:Int)≤b
 ·rw[u4t h]
  have:decide (b - (v:Int)<0)=false:=by simp;omega
  simp only[zOb,this,Aa]
  rw[hK h,t5h h]
 ·rw[t38 h,t38 (b:=b) (w:=v+w) (by omega)]
  rfl
theorem t2w {X R E A:Type} (W:X→Ht R) (l:Hu E) (mk:A→Int→X) (f:A→E→A) (fin:A→R) (P:Nat→A→Prop)
 (hend:∀a,P l.length a→W (mk a (l.length:Int))=some (fin a))
 (hstep:∀(i:Nat) (h:i<l.length) a,P i a→P (i+1) (f a l[i])∧W (mk a (i:Int))=W (mk (f a l[i]) ((i+1:Nat):Int))) (a:A) (hP:P 0 a):W (mk a 0)=some (fin (l.foldl f a)):=by
 have:=t7t W l mk (fun _ x a=> .inl (f a x)) fin P hend (fun i h a hp=>hstep i h a hp) a hP
 rw[this]
 congr 1
 have key:∀(l:Hu E) (i:Nat) (a:A),t7f (fun _ x a=>(.inl (f a x):A⊕R)) fin i l a=fin (l.foldl f a):=by
  intro l
  induction l with
  | nil=>intro i a;rfl
  | cons x l ih=>intro i a;simp only[t7f,Bs];exact ih _ _
 exact key l 0 a
theorem t3z {X R E B:Type} (W:X→Ht R) (l:Hu E) (mk:Hu B→Int→X) (p:E→Bool) (g:E→B) (fin:Hu B→R) (hl:l.length≤1099511627776)
 (hend:∀a:Hu B,a.length≤l.length→W (mk a (l.length:Int))=some (fin a))
 (hstep:∀(i:Nat) (h:i<l.length) (a:Hu B),a.length≤i→W (mk a (i:Int))=bif p l[i] then W (mk (a++ [g l[i]]) ((i+1:Nat):Int)) else W (mk a ((i+1:Nat):Int))):W (mk [] 0)=some (fin ((l.filter p).map g)):=by
 have:=t2w W l mk (fun a x=>if p x then a++ [g x] else a) fin (fun i a=>a.length≤i) hend (fun i h a hp=>by
  have hs:=hstep i h a hp
  cases hc:p l[i] with
  | true=>
   simp only[hc,Ad] at hs
   simp only[Bl]
   exact⟨by simp;omega,hs⟩
  | false=>
   simp only[hc,Aa] at hs
   simp only[Br,Bk]
   exact⟨by omega,hs⟩) [] (Au 0)
 rw[this]
 congr 1
 have key:∀(l:Hu E) (a:Hu B),l.foldl (fun a x=>if p x then a++ [g x] else a) a=a++(l.filter p).map g:=by
  intro l
  induction l with
  | nil=>intro a;simp
  | cons x l ih=>
   intro a
   simp only[Bs,ih,Di]
   cases hp:p x<;>simp
 rw[key];simp
end
section
theorem t1u (b:Hs):b.toList=toS b:=by rw[ByteArray.toList_eq];rfl
theorem t68 {a b:Hs} (h:toS a=toS b):a=b:=by rw[←y8p a,h,y8p]
theorem u9f:∀(x y:Hu UInt8),Op.bytesLess x y=decide (x<y)
 | x, [] =>by simp[Op.bytesLess]
 | [],y::ys=>by simp[Op.bytesLess]
 | x::xs,y::ys=>by
  rw[Op.bytesLess,u9f xs ys,Cd]
  simp[List.cons_lt_cons_iff]
theorem t5d {a b:Hs} :y2y a b=true↔toS a<toS b:=by
 unfold y2y
 rw[t1u,t1u,u9f]
 simp
theorem t8q {a b:Hs} :y2y a b=false↔ ¬toS a<toS b:=by
 rw[←t5d];simp
theorem t73 (x:Hu UInt8): ¬x<x:=List.lt_irrefl x
theorem t74 {x y z:Hu UInt8} (h:x<y) (k:y<z):x<z:=List.lt_trans h k
theorem t75 (x y:Hu UInt8):x<y∨x=y∨y<x:=by
 rcases List.le_total x y with h | h
 ·rcases Fv.mp h with h | h
  ·exact .inl h
  ·exact .inr (.inl h)
 ·rcases Fv.mp h with h | h
  ·exact .inr (.inr h)
  ·exact .inr (.inl h.symm)
theorem u8z (a:Hs):y2y a a=false:=t8q.mpr (t73 _)
theorem t49 {a b c:Hs} (h:y2y a b=true) (k:y2y b c=true):y2y a c=true:=t5d.mpr (t74 (t5d.mp h) (t5d.mp k))
theorem t5a (a b:Hs):y2y a b=true∨a=b∨y2y b a=true:=by
 rcases t75 (toS a) (toS b) with h | h | h
 ·exact .inl (t5d.mpr h)
 ·exact .inr (.inl (t68 h))
 ·exact .inr (.inr (t5d.mpr h))
theorem t2m {a b:Hs} (h:y2y a b=true):y2y b a=false:=by
 cases k:y2y b a with
 | false=>rfl
 | true=>exact absurd (t49 h k) (by rw[u8z];exact Hf)
theorem t60 {a b:Hs} :z7m a b=false↔a≠b:=by
 rw[←Ey,y7c]
theorem t47 {a b:Hs} :(!(y2y a b || z7m a b))=y2y b a:=by
 rcases t5a a b with h | h | h
 ·rw[h,t2m h];rfl
 ·subst h;rw[u8z,y6i];rfl
 ·rw[t2m h,h]
  have:z7m a b=false:=t60.mpr (fun e=>by subst e;rw[u8z] at h;cases h)
  rw[this];rfl
def Asc (l:Hu Hs):Prop:=l.Pairwise fun a b=>y2y a b=true
theorem Asc.ext:∀ {l m:Hu Hs},Asc l→Asc m→(∀x,x∈l↔x∈m)→l=m
 | [], [],_,_,_=>rfl
 | [],y::m,_,_,h=>by have:=(h y).mpr (by simp);simp at this
 | x::l, [],_,_,h=>by have:=(h x).mp (by simp);simp at this
 | x::l,y::m,hl,hm,h=>by
  have hl' :=Ch.mp hl
  have hm' :=Ch.mp hm
  have hxy:x=y:=by
   rcases A8.mp ((h x).mp (by simp)) with e | e
   ·exact e
   ·rcases A8.mp ((h y).mpr (by simp)) with e' | e'
    ·exact e'.symm
    ·have:=t49 (hm'.1 x e) (hl'.1 y e')
     rw[u8z] at this;cases this
  subst hxy
  congr 1
  refine Asc.ext hl'.2 hm'.2 fun z=> ?_
  constructor
  ·intro hz
   rcases A8.mp ((h z).mp (by simp[hz])) with e | e
   ·subst e;have:=hl'.1 z hz;rw[u8z] at this;cases this
   ·exact e
  ·intro hz
   rcases A8.mp ((h z).mpr (by simp[hz])) with e | e
   ·subst e;have:=hm'.1 z hz;rw[u8z] at this;cases this
   ·exact e
theorem Asc.filter {l:Hu Hs} (h:Asc l) (p:Hs→Bool):Asc (l.filter p):=Dz p h
def t4q (k:Hs) (l:Hu Hs):Hu Hs:=l.filter (fun x=>y2y x k)++ [k] ++l.filter (fun x=> !(y2y x k || z7m x k))
theorem t55 {k x:Hs} {l:Hu Hs} :x∈t4q k l↔x=k∨x∈l:=by
 simp only[t4q,Ay,A6,Ax,t47]
 constructor
 ·rintro((h | h) | h)
  ·exact .inr h.1
  ·exact .inl h
  ·exact .inr h.1
 ·rintro(h | h)
  ·exact .inl (.inr h)
  ·rcases t5a x k with e | e | e
   ·exact .inl (.inl ⟨h,e⟩)
   ·exact .inl (.inr e)
   ·exact .inr ⟨h,e⟩
theorem t50 {k:Hs} {l:Hu Hs} (h:Asc l):Asc (t4q k l):=by
 unfold Asc t4q
 rw[Cg,Cg]
 refine⟨⟨h.filter _,by simp,fun a ha b hb=> ?_⟩,h.filter _,fun a ha b hb=> ?_⟩
 ·simp only[Ax] at hb
  subst hb
  exact(A6.mp ha).2
 ·have hb:=(A6.mp hb).2
  rw[t47] at hb
  rcases Ay.mp ha with ha | ha
  ·exact t49 (A6.mp ha).2 hb
  ·simp only[Ax] at ha
   subst ha
   exact hb
theorem t44 {l:Hu Hs} :∀ {a:Hu Hs},Asc a→Asc (l.foldl (fun a k=>t4q k a) a)∧ ∀x,x∈l.foldl (fun a k=>t4q k a) a↔x∈l∨x∈a:=by
 induction l with
 | nil=>intro a h;exact⟨h,fun x=>by simp⟩
 | cons k l ih=>
  intro a h
  obtain⟨h1,h2⟩:=ih (t50 (k:=k) h)
  refine⟨h1,fun x=> ?_⟩
  rw[Bs,h2,t55,A8]
  constructor
  ·rintro(q | q | q)
   ·exact .inl (.inr q)
   ·exact .inl (.inl q)
   ·exact .inr q
  ·rintro((q | q) | q)
   ·exact .inr (.inl q)
   ·exact .inl q
   ·exact .inr (.inr q)
theorem u9g (d:Array (Hu UInt8)) (hs:∀i j:Nat,i≤j→j<d.size→d[i]! ≤d[j]!):∀m,m≤d.size→(Lib.compactUpTo d m).Pairwise (·< ·)∧(∀x,x∈Lib.compactUpTo d m↔ ∃i,i<m∧d[i]! =x)
 | 0,_=>by simp[Lib.compactUpTo]
 | m+1,hm=>by
  obtain⟨h1,h2⟩:=u9g d hs m (by omega)
  rw[Lib.compactUpTo_succ]
  by_cases hk:Lib.keeps d m=true
  ·rw[Al hk]
   constructor
   ·rw[Cg]
    refine⟨h1,by simp,fun a ha b hb=> ?_⟩
    simp only[Ax] at hb
    subst hb
    obtain⟨i,hi,rfl⟩:=(h2 a).mp ha
    unfold Lib.keeps at hk
    have hk:=Ej hk
    rcases hk with hk | hk
    ·omega
    ·have l1:=hs i (m - 1) (by omega) (by omega)
     have l2:=hs (m - 1) m (by omega) (by omega)
     rcases Fv.mp l2 with l2 | l2
     ·rcases Fv.mp l1 with l1 | l1
      ·exact t74 l1 l2
      ·rw[l1];exact l2
     ·exact absurd l2.symm hk
   ·intro x
    simp only[Ay,Ax,h2]
    constructor
    ·rintro(⟨i,hi,rfl⟩ | rfl)
     ·exact⟨i,by omega,rfl⟩
     ·exact⟨m,by omega,rfl⟩
    ·rintro⟨i,hi,rfl⟩
     rcases B8 i m with q | q
     ·exact .inl ⟨i,q,rfl⟩
     ·exact .inr (by rw[show i=m by omega])
  ·rw[Ao hk,Bw]
   refine⟨h1,fun x=> ?_⟩
   rw[h2]
   unfold Lib.keeps at hk
   simp only[Ar,Hr,ne_eq,Decidable.not_not] at hk
   constructor
   ·rintro⟨i,hi,rfl⟩;exact⟨i,by omega,rfl⟩
   ·rintro⟨i,hi,rfl⟩
    rcases B8 i m with q | q
    ·exact⟨i,q,rfl⟩
    ·have:i=m:=by omega
     subst this
     exact⟨i - 1,by omega,hk.2.symm⟩
def u91 (l:Hu Hs):Hu Hs:=y6n (y4d l)
theorem t1q (l:Hu Hs):Asc (u91 l)∧ ∀x,x∈u91 l↔x∈l:=by
 obtain⟨d,hd⟩:∃d,d=(l.map toS).mergeSort fun x y=>decide (x≤y):=⟨_,rfl⟩
 have hk:u91 l=(Lib.compact d).map unS:=by
  unfold u91 y6n y4d
  rw[←hd,List.map_map]
  have:(toS ∘unS)=id:=by funext x;rfl
  rw[this,List.map_id]
 have hsort:d.Pairwise (·≤ ·):=by
  rw[hd]
  have:=List.pairwise_mergeSort (le:=fun(x y:Hu UInt8)=>decide (x≤y)) (fun a b c h1 h2=>by
   simp only[Ar] at h1 h2 ⊢
   exact List.le_trans h1 h2) (fun a b=>by
   simp only[Cr,Ar]
   exact List.le_total a b) (l.map toS)
  exact this.imp (fun h=>by simpa using h)
 have hmem:∀x,x∈d↔x∈l.map toS:=fun x=>by rw[hd];exact(List.mergeSort_perm _ _).mem_iff
 have hs:∀i j:Nat,i≤j→j<d.toArray.size→d.toArray[i]! ≤d.toArray[j]! :=fun i j hij hj=>by
  have hj' :j<d.length:=by simpa using hj
  have hi' :i<d.length:=by omega
  rw[Fl _ i (by simpa using hi'),Fl _ j hj]
  simp only[List.getElem_toArray]
  rcases B8 i j with q | q
  ·exact Cp.mp hsort i j hi' hj' q
  ·have:i=j:=by omega
   subst this
   exact List.le_refl _
 obtain⟨h1,h2⟩:=u9g d.toArray hs d.length (by simp)
 rw[hk]
 constructor
 ·unfold Asc
  rw[Dl]
  exact h1.imp (fun h=>t5d.mpr h)
 ·intro x
  rw[Bx]
  constructor
  ·rintro⟨y,hy,rfl⟩
   obtain⟨i,hi,rfl⟩:=(h2 y).mp hy
   rw[Fl _ i (by simpa using hi)]
   have:d[i] ∈l.map toS:=(hmem _).mp (Ag hi)
   obtain⟨z,hz,e⟩:=Bx.mp this
   simp only[List.getElem_toArray]
   rw[←e,y8p]
   exact hz
  ·intro hx
   have:toS x∈d:=(hmem _).mpr (Bx.mpr ⟨x,hx,rfl⟩)
   obtain⟨i,hi,e⟩:=Gy.mp this
   refine⟨toS x,(h2 _).mpr ⟨i,hi,?_⟩,y8p x⟩
   rw[Fl _ i (by simpa using hi)]
   simpa using e
theorem t3b (l:Hu Hs):(y4d l).length=l.length:=by simp[y4d]
theorem t6v (l:Hu Hs) (p:Hs→Bool):(l.filter p).foldl (fun a k=>t4q k a) [] =(u91 l).filter p:=by
 obtain⟨h1,h2⟩:=t44 (l:=l.filter p) (a:= []) List.Pairwise.nil
 obtain⟨k1,k2⟩:=t1q l
 refine Asc.ext h1 (k1.filter p) fun x=> ?_
 rw[h2,A6,A6,k2]
 simp
end
section
def t7u:Nat:=1099511627776
theorem t4g {α β:Type} {l:Hu α} {z:β} {i:Nat} {f:α→β} (h:i<l.length):
 ((l.map f).take i++List.replicate (l.length - i) z).set i (f l[i])=(l.map f).take (i+1)++List.replicate (l.length - (i+1)) z:=by
 have h1:((l.map f).take i).length=i:=by simp;omega
 rw[List.set_append_right _ _ (by omega),h1,Dw]
 have:l.length - i=(l.length - (i+1))+1:=by omega
 rw[this,List.replicate_succ,Hj,Gm]
 simp[h]
theorem Q.copy {T T' :Ty} {S:Type} {q:T.den→Ht T'.den} {g:T.den→T'.den} {W:Hu T.den×Hu T'.den×Int→Ht (Hu T'.den⊕S)}
 (hW:∀x,W x=(bif (decide (x.2.2<(x.1.length:Int))) then(bif (y4l x.2.2 x.1.length) then((q (rdL T x.1 (x.2.2).toNat)).bind fun(y1:T'.den)=>
  (bif (y4l x.2.2 x.2.1.length) then(W (x.1,((x.2.1.set (x.2.2).toNat y1),(IntKind.i64.wrap (x.2.2+(1:Int)))))) else none)) else none) else(some (.inl x.2.1))))
 (l:Hu T.den) (hl:l.length≤1099511627776) (hq:∀x∈l,q x=some (g x)) (z:T'.den):W (l,(List.replicate ((l.length:Int)).toNat z,(0:Int)))=some (.inl (l.map g)):=by
 have:=t3j W l.length (fun(_:Unit) i=>(l,(l.map g).take i.toNat++List.replicate (l.length - i.toNat) z,i)) (fun _ _=> .inl (l.map g)) (fun _ _=>True)
  (fun a _=>by
   rw[hW]
   simp only[u0d,Am,Ah,Aa,zTn]
   have h2:(l.map g).take l.length=l.map g:=List.take_of_length_le (by simp)
   simp[h2])
  (fun i a h _=> .inr ⟨(),trivial,rfl,by
   rw[hW]
   have h2:y4l (i:Int) ((l.map g).take i++List.replicate (l.length - i) z).length=true:=y7r (by simp;omega)
   simp only[u0d,h,Ae,Ad,y7r h,zTn,y8k h,hq _ (Ag h),zOb,h2]
   rw[y7i (by omega),t4g h]⟩) 0 () (by omega) trivial
 simpa using this
theorem Q.copy0 {T:Ty} {S:Type} {W:Hu T.den×Hu T.den×Int→Ht (Hu T.den⊕S)}
 (hW:∀x,W x=(bif (decide (x.2.2<(x.1.length:Int))) then(bif (y4l x.2.2 x.1.length) then(bif (y4l x.2.2 x.2.1.length) then(W (x.1,((x.2.1.set (x.2.2).toNat (rdL T x.1 (x.2.2).toNat)),(IntKind.i64.wrap (x.2.2+(1:Int)))))) else none) else none) else(some (.inl x.2.1))))
 (l:Hu T.den) (hl:l.length≤1099511627776) (z:T.den):W (l,(List.replicate ((l.length:Int)).toNat z,(0:Int)))=some (.inl l):=by
 have:=Q.copy (W:=W) (q:=fun x=>some x) (g:=fun x=>x) (fun x=>hW x) l hl (fun _ _=>rfl) z
 simpa using this
theorem Q.same {T:Ty} {S:Type} {q:T.den×T.den→Ht Bool} {W:Hu T.den×Hu T.den×Int→Ht (Unit⊕Bool)}
 (hW:∀x,W x=(bif (decide (x.2.2<(x.1.length:Int))) then(bif (y4l x.2.2 x.1.length) then(bif (y4l x.2.2 x.2.1.length) then
  ((q ((rdL T x.1 (x.2.2).toNat),(rdL T x.2.1 (x.2.2).toNat))).bind fun(y1:Bool)=>(bif (!y1) then(some (.inr false)) else(W (x.1,(x.2.1,(IntKind.i64.wrap (x.2.2+(1:Int)))))))) else none) else none) else(some (.inl ()))))
 (l:Hu T.den) (hl:l.length≤1099511627776) (hq:∀x∈l,q (x,x)=some true):W (l,(l,(0:Int)))=some (.inl ()):=
 t3j W l.length (fun(_:Unit) i=>(l,l,i)) (fun _ _=> .inl ()) (fun _ _=>True)
  (fun a _=>by
   rw[hW]
   simp only[u0d,Am,Ah,Aa])
  (fun i a h _=> .inr ⟨(),trivial,rfl,by
   rw[hW]
   simp only[u0d,h,Ae,Ad,y7r h,zTn,y8k h,hq _ (Ag h),zOb,Ap,Aa]
   rw[y7i (by omega)]⟩) 0 () (by omega) trivial
theorem Q.size {T:Ty} {q:T.den×Int→Ht Int} {W:Hu T.den×Int×Int→Ht (Int⊕Int)}
 (hW:∀x,W x=(bif (decide (x.2.2<(x.1.length:Int))) then(bif (y4l x.2.2 x.1.length) then((q ((rdL T x.1 (x.2.2).toNat),x.2.1)).bind fun(y1:Int)=>
  (bif (decide (y1<(0:Int))) then(some (.inr (-1:Int))) else(W (x.1,(y1,(IntKind.i64.wrap (x.2.2+(1:Int)))))))) else none) else(some (.inl x.2.1))))
 (l:Hu T.den) (hl:l.length≤1099511627776) (hq:∀x∈l,∀c:Int,0≤c→c≤1048576→ ∃y,q (x,c)=some y∧if(T.wt x:Int)≤c then y=c - T.wt x else y<0) (b:Int) (hb:0≤b) (hb2:b≤1048576):
 ((W (l,(b,(0:Int)))).bind fun r=>match r with
  | .inl o=>some o
  | .inr z=>some z)=some (szr b (l.map T.wt).sum):=by
 have key:=t3j W l.length (fun(c:Int) i=>(l,c,i)) (fun i c=>if(((l.drop i).map T.wt).sum:Int)≤c then .inl (c - ((l.drop i).map T.wt).sum) else .inr (-1)) (fun _ c=>0≤c∧c≤1048576)
  (fun c hc=>by
   rw[hW]
   simp only[u0d,Am,Ah,Aa,F5,Eh,Gq]
   rw[Al (by simpa using hc.1)]
   simp)
  (fun i c h hc=>by
   have hd:l.drop i=l[i] ::l.drop (i+1):=Ce h
   obtain⟨y,hy,hy2⟩:=hq _ (Ag h) c hc.1 hc.2
   rw[hW,hd]
   simp only[u0d,h,Ae,Ad,y7r h,zTn,y8k h,hy,zOb,C8,Ge]
   by_cases hw:(T.wt l[i] :Int)≤c
   ·right
    rw[Al hw] at hy2
    subst hy2
    refine⟨c - T.wt l[i],⟨by omega,by omega⟩,?_,?_⟩
    ·by_cases h2:(((l.drop (i+1)).map T.wt).sum:Int)≤c - T.wt l[i]
     ·rw[Al h2,Al (by omega)];congr 1;omega
     ·rw[Ao h2,Ao (by omega)]
    ·have:decide (c - (T.wt l[i] :Int)<0)=false:=by simp;omega
     rw[this,Aa,y7i (by omega)]
   ·left
    rw[Ao hw] at hy2
    have:decide (y<0)=true:=by simp;omega
    rw[this,Ao (by omega)]
    rfl) 0 b (by omega) ⟨hb,hb2⟩
 have key:W (l,b,0)=_:=key
 rw[key]
 simp only[Fh,zOb]
 unfold szr
 by_cases h:((l.map T.wt).sum:Int)≤b
 ·rw[Al h,Al h]
 ·rw[Ao h,Ao h]
theorem u1x {b:Int} {v w:Nat} {K:Ht Int} (hK:(v:Int)≤b→K=some (szr (b - v) w)):(bif decide (b - (v:Int)<0) then some (-1) else K)=some (szr b (v+w)):=by
 by_cases h:(v:Int)≤b
 ·have:decide (b - (v:Int)<0)=false:=by simp;omega
  rw[this,Aa,hK h,t5h h]
 ·have:decide (b - (v:Int)<0)=true:=by simp;omega
  rw[this,t38 (b:=b) (w:=v+w) (by omega)]
  rfl
theorem u8p {b:Int} {w:Nat} :if(w:Int)≤b then szr b w=b - w else szr b w<0:=by
 unfold szr
 split<;>rename_i h<;>simp[h]
theorem t65 {b:Int} {w:Nat} {F:Ht Int} {K:Int→Ht Bool} (hF:F=some (szr b w)) (hK:(w:Int)≤b→K (b - w)=some true):
 (F.bind fun y=>bif decide (y<0) then some true else K y)=some true:=by
 subst hF
 by_cases h:(w:Int)≤b
 ·rw[u4t h]
  have:decide (b - (w:Int)<0)=false:=by simp;omega
  simp only[zOb,this,Aa]
  exact hK h
 ·rw[t38 h]
  rfl
theorem u5y {α:Type} {f:α→Nat} {l:Hu α} {x:α} (h:x∈l):f x≤(l.map f).sum:=by
 induction l with
 | nil=>cases h
 | cons y l ih=>
  simp only[C8,Ge]
  rcases A8.mp h with rfl | h
  ·omega
  ·have:=ih h;omega
theorem u65 {T:Ty} {l:Hu T.den} (h:(Ty.sl T).fine l) {x:T.den} (hx:x∈l):T.fine x:=by
 obtain⟨i,hi,rfl⟩:=B7 hx
 exact h.2 i hi
abbrev u0i:Ty:=(.pair .str .str)
abbrev u0j:Ty:=(.pair .str (.pair .str .bool))
abbrev u0b:Ty:=(.pair .str (.pair .str (.pair .bool (.int .i64))))
abbrev t9v:Ty:=(.pair .str .str)
abbrev t9u:Ty:=(.pair .str .str)
abbrev u7x:Ty:=(.pair (.int .i64) .str)
abbrev t1x:Ty:=(.pair (.sl .str) (.sl u7x))
abbrev u3e:Ty:=(.pair (.int .i64) (.pair (.int .i64) (.pair (.int .i64) (.pair (.int .i64) (.pair (.sl u0i) (.pair (.sl u0j) (.pair .bool .str)))))))
abbrev t02:Ty:=(.pair (.sl u0b) (.pair (.sl u3e) (.pair (.sl u3e) (.pair (.int .i64) (.int .i64)))))
abbrev t82:Ty:=(.pair (.int .i64) (.pair u3e (.pair .str (.pair .bool t02))))
abbrev u4v:Ty:=(.pair t02 (.sl u3e))
abbrev u8l:Ty:=(.pair u4v t1x)
abbrev u9e:Ty:=(.pair u8l (.pair (.sl u3e) (.pair (.sl (.int .i64)) (.sl .str))))
end
section
theorem t63 (l:Hu ((Ty.int .i64)).den) (b:Int) (hf:(Ty.sl (Ty.int .i64)).fine l) (hb:0≤b) (hb2:b≤1048576):u46 (l,b)=some (szr b ((Ty.sl (Ty.int .i64)).wt l)):=by
 have hl:l.length≤9223372036854775807:=by have:=hf.1;simp only[maxLen] at this;exact this
 rw[t19];unfold u8a;simp only
 rw[y4u (n:=b - (l.length:Int)) (by omega) (by omega)]
 have hw:(Ty.sl (Ty.int .i64)).wt l=l.length+(l.map ((Ty.int .i64)).wt).sum:=rfl
 rw[hw];refine u1x (fun c=> ?_)
 have h0:(l.map (Ty.int .i64).wt).sum=0:=by clear hf hl hw c;induction l with
  | nil=>rfl
  | cons x l ih=>rw[C8,Ge,ih];rfl
 rw[h0,u4t (by omega)];simp
theorem t7b (l:Hu ((Ty.int .i64)).den) (hx:(Ty.sl (Ty.int .i64)).wt l≤1099511627776):u5a l=some l:=by
 have hw:(Ty.sl (Ty.int .i64)).wt l=l.length+(l.map ((Ty.int .i64)).wt).sum:=rfl
 rw[hw] at hx;rw[t2e];unfold u8f
 have h1:(decide (0≤(l.length:Int))&&decide ((l.length:Int)≤1099511627776))=true:=by simp;omega
 have h2:u09 (l,(List.replicate ((l.length:Int)).toNat ((Ty.int .i64)).zero),(0:Int))=some (.inl l):=Q.copy0 (T:=(Ty.int .i64)) (W:=u09) (fun x=>t0q x) l (by omega) _
 simp only[h1,Ad,h2,zOb]
theorem t6s (l:Hu ((Ty.int .i64)).den) (hx:(Ty.sl (Ty.int .i64)).wt l≤1099511627776):u42 (l,l)=some true:=by
 have hw:(Ty.sl (Ty.int .i64)).wt l=l.length+(l.map ((Ty.int .i64)).wt).sum:=rfl
 rw[hw] at hx;rw[t14];unfold u75;simp only
 have h2:u06 (l,l,(0:Int))=some (.inl ()):=Q.same (T:=(Ty.int .i64)) (S:=Unit) (q:=fun x=>some (decide (x.1=x.2))) (W:=u06) (fun x=>t0l x) l (by omega) (fun x _=>by simp[y6i])
 simp only[Ae,Ap,Aa,h2,zOb]
theorem t1t (l:Hu (Ty.str).den) (b:Int) (hf:(Ty.sl Ty.str).fine l) (hb:0≤b) (hb2:b≤1048576):u1t (l,b)=some (szr b ((Ty.sl Ty.str).wt l)):=by
 have hl:l.length≤9223372036854775807:=by have:=hf.1;simp only[maxLen] at this;exact this
 rw[u9t];unfold u5l;simp only
 rw[y4u (n:=b - (l.length:Int)) (by omega) (by omega)]
 have hw:(Ty.sl Ty.str).wt l=l.length+(l.map (Ty.str).wt).sum:=rfl
 rw[hw];refine u1x (fun c=> ?_)
 exact Q.size (T:=Ty.str) (q:=(fun x=>some (IntKind.i64.wrap (x.2 - (x.1.size:Int))))) (W:=u03) (fun x=>u8r x) l (by omega) (fun x hx c h1 h2=>⟨_,rfl,by have:=u65 hf hx;simp only[Ty.fine,maxLen] at this;simp only[Ty.wt];rw[y4u (by omega) (by omega)];by_cases hc:((ByteArray.size x:Nat):Int)≤c<;>simp only[hc,Bl,Bk] <;>omega⟩) (b - (l.length:Int)) (by omega) (by omega)
theorem t1v (l:Hu (Ty.str).den) (hx:(Ty.sl Ty.str).wt l≤1099511627776):u1v l=some l:=by
 have hw:(Ty.sl Ty.str).wt l=l.length+(l.map (Ty.str).wt).sum:=rfl
 rw[hw] at hx;rw[u9v];unfold u5n
 have h1:(decide (0≤(l.length:Int))&&decide ((l.length:Int)≤1099511627776))=true:=by simp;omega
 have h2:u0n (l,(List.replicate ((l.length:Int)).toNat (Ty.str).zero),(0:Int))=some (.inl l):=Q.copy0 (T:=Ty.str) (W:=u0n) (fun x=>u8s x) l (by omega) _
 simp only[h1,Ad,h2,zOb]
theorem t1p (l:Hu (Ty.str).den) (hx:(Ty.sl Ty.str).wt l≤1099511627776):u1r (l,l)=some true:=by
 have hw:(Ty.sl Ty.str).wt l=l.length+(l.map (Ty.str).wt).sum:=rfl
 rw[hw] at hx;rw[u9r];unfold u5j;simp only
 have h2:u0m (l,l,(0:Int))=some (.inl ()):=Q.same (T:=Ty.str) (S:=Unit) (q:=fun x=>some (z7m x.1 x.2)) (W:=u0m) (fun x=>u8q x) l (by omega) (fun x _=>by simp[y6i])
 simp only[Ae,Ap,Aa,h2,zOb]
theorem t58 (x:(u0i).den) (b:Int) (hf:(u0i).fine x) (hb:0≤b) (hb2:b≤1048576):u2h (x,b)=some (szr b ((u0i).wt x)):=by
 obtain⟨hf0,hf1⟩:=hf
 have hs0:x.1.size≤9223372036854775807:=by have:=hf0;simp only[Ty.fine,maxLen] at this;exact this
 have hs1:x.2.size≤9223372036854775807:=by have:=hf1;simp only[Ty.fine,maxLen] at this;exact this
 have hw:(u0i).wt x=(x.1.size+(x.2.size+0)):=by simp only[Ty.wt] <;>omega
 rw[hw,t1a];unfold u7f;simp only
 rw[y4u (n:=b - (x.1.size:Int)) (by omega) (by omega)]
 refine u1x (fun c0=> ?_)
 rw[y4u (n:=b - ((x.1.size:Nat):Int) - (x.2.size:Int)) (by omega) (by omega)]
 refine u1x (fun c1=> ?_)
 rw[u4t (by omega)];simp
theorem t5f (l:Hu (u0i).den) (b:Int) (hf:(Ty.sl u0i).fine l) (hb:0≤b) (hb2:b≤1048576):u29 (l,b)=some (szr b ((Ty.sl u0i).wt l)):=by
 have hl:l.length≤9223372036854775807:=by have:=hf.1;simp only[maxLen] at this;exact this
 rw[t0b];unfold u6e;simp only
 rw[y4u (n:=b - (l.length:Int)) (by omega) (by omega)]
 have hw:(Ty.sl u0i).wt l=l.length+(l.map (u0i).wt).sum:=rfl
 rw[hw];refine u1x (fun c=> ?_)
 exact Q.size (T:=u0i) (q:=u2h) (W:=u1e) (fun x=>u83 x) l (by omega) (fun x hx c h1 h2=>⟨_,t58 x c (u65 hf hx) h1 h2,u8p⟩) (b - (l.length:Int)) (by omega) (by omega)
theorem t6d (x:(u0i).den) (hx:(u0i).wt x≤1099511627776):u2j x=some x:=by
 rw[t1e];rfl
theorem t5j (l:Hu (u0i).den) (hx:(Ty.sl u0i).wt l≤1099511627776):u3c l=some l:=by
 have hw:(Ty.sl u0i).wt l=l.length+(l.map (u0i).wt).sum:=rfl
 rw[hw] at hx;rw[t0e];unfold u6h
 have h1:(decide (0≤(l.length:Int))&&decide ((l.length:Int)≤1099511627776))=true:=by simp;omega
 have h2:u0r (l,(List.replicate ((l.length:Int)).toNat (u0i).zero),(0:Int))=some (.inl (l.map fun x=>x)):=Q.copy (T:=u0i) (T' :=u0i) (q:=u2j) (W:=u0r) (fun x=>u85 x) l (by omega) (fun x hm=>t6d x (by have:=u5y (f:=(u0i).wt) hm;omega)) _
 rw[Er] at h2
 simp only[h1,Ad,h2,zOb]
theorem t5w (x:(u0i).den) (hx:(u0i).wt x≤1099511627776):u2f (x,x)=some true:=by
 simp only[Ty.wt] at hx
 rw[t06];unfold u7b;simp only
 simp only[zOb,y6i,Ae,beq_self_eq_true,Ap,Aa]
theorem t42 (l:Hu (u0i).den) (hx:(Ty.sl u0i).wt l≤1099511627776):u26 (l,l)=some true:=by
 have hw:(Ty.sl u0i).wt l=l.length+(l.map (u0i).wt).sum:=rfl
 rw[hw] at hx;rw[u98];unfold u6b;simp only
 have h2:u0p (l,l,(0:Int))=some (.inl ()):=Q.same (T:=u0i) (S:=Unit) (q:=u2f) (W:=u0p) (fun x=>u81 x) l (by omega) (fun x hm=>t5w x (by have:=u5y (f:=(u0i).wt) hm;omega))
 simp only[Ae,Ap,Aa,h2,zOb]
theorem t6b (x:(u0j).den) (b:Int) (hf:(u0j).fine x) (hb:0≤b) (hb2:b≤1048576):u2i (x,b)=some (szr b ((u0j).wt x)):=by
 obtain⟨hf0,hf1,hf2⟩:=hf
 have hs0:x.1.size≤9223372036854775807:=by have:=hf0;simp only[Ty.fine,maxLen] at this;exact this
 have hs1:x.2.1.size≤9223372036854775807:=by have:=hf1;simp only[Ty.fine,maxLen] at this;exact this
 have hw:(u0j).wt x=(x.1.size+(x.2.1.size+0)):=by simp only[Ty.wt] <;>omega
 rw[hw,t1d];unfold u7i;simp only
 rw[y4u (n:=b - (x.1.size:Int)) (by omega) (by omega)]
 refine u1x (fun c0=> ?_)
 rw[y4u (n:=b - ((x.1.size:Nat):Int) - (x.2.1.size:Int)) (by omega) (by omega)]
 refine u1x (fun c1=> ?_)
 rw[u4t (by omega)];simp
theorem t5g (l:Hu (u0j).den) (b:Int) (hf:(Ty.sl u0j).fine l) (hb:0≤b) (hb2:b≤1048576):u3a (l,b)=some (szr b ((Ty.sl u0j).wt l)):=by
 have hl:l.length≤9223372036854775807:=by have:=hf.1;simp only[maxLen] at this;exact this
 rw[t0c];unfold u6f;simp only
 rw[y4u (n:=b - (l.length:Int)) (by omega) (by omega)]
 have hw:(Ty.sl u0j).wt l=l.length+(l.map (u0j).wt).sum:=rfl
 rw[hw];refine u1x (fun c=> ?_)
 exact Q.size (T:=u0j) (q:=u2i) (W:=u1f) (fun x=>u84 x) l (by omega) (fun x hx c h1 h2=>⟨_,t6b x c (u65 hf hx) h1 h2,u8p⟩) (b - (l.length:Int)) (by omega) (by omega)
theorem t6g (x:(u0j).den) (hx:(u0j).wt x≤1099511627776):u2k x=some x:=by
 rw[t1h];rfl
theorem t5k (l:Hu (u0j).den) (hx:(Ty.sl u0j).wt l≤1099511627776):u3d l=some l:=by
 have hw:(Ty.sl u0j).wt l=l.length+(l.map (u0j).wt).sum:=rfl
 rw[hw] at hx;rw[t0f];unfold u6i
 have h1:(decide (0≤(l.length:Int))&&decide ((l.length:Int)≤1099511627776))=true:=by simp;omega
 have h2:u0s (l,(List.replicate ((l.length:Int)).toNat (u0j).zero),(0:Int))=some (.inl (l.map fun x=>x)):=Q.copy (T:=u0j) (T' :=u0j) (q:=u2k) (W:=u0s) (fun x=>u86 x) l (by omega) (fun x hm=>t6g x (by have:=u5y (f:=(u0j).wt) hm;omega)) _
 rw[Er] at h2
 simp only[h1,Ad,h2,zOb]
theorem t5z (x:(u0j).den) (hx:(u0j).wt x≤1099511627776):u2g (x,x)=some true:=by
 simp only[Ty.wt] at hx
 rw[t09];unfold u7e;simp only
 simp only[zOb,y6i,Ae,beq_self_eq_true,Ap,Aa]
theorem t43 (l:Hu (u0j).den) (hx:(Ty.sl u0j).wt l≤1099511627776):u27 (l,l)=some true:=by
 have hw:(Ty.sl u0j).wt l=l.length+(l.map (u0j).wt).sum:=rfl
 rw[hw] at hx;rw[u99];unfold u6c;simp only
 have h2:u0q (l,l,(0:Int))=some (.inl ()):=Q.same (T:=u0j) (S:=Unit) (q:=u2g) (W:=u0q) (fun x=>u82 x) l (by omega) (fun x hm=>t5z x (by have:=u5y (f:=(u0j).wt) hm;omega))
 simp only[Ae,Ap,Aa,h2,zOb]
theorem t4k (x:(u0b).den) (b:Int) (hf:(u0b).fine x) (hb:0≤b) (hb2:b≤1048576):u1u (x,b)=some (szr b ((u0b).wt x)):=by
 obtain⟨hf0,hf1,hf2,hf3⟩:=hf
 have hs0:x.1.size≤9223372036854775807:=by have:=hf0;simp only[Ty.fine,maxLen] at this;exact this
 have hs1:x.2.1.size≤9223372036854775807:=by have:=hf1;simp only[Ty.fine,maxLen] at this;exact this
 have hw:(u0b).wt x=(x.1.size+(x.2.1.size+0)):=by simp only[Ty.wt] <;>omega
 rw[hw,u9u];unfold u5m;simp only
 rw[y4u (n:=b - (x.1.size:Int)) (by omega) (by omega)]
 refine u1x (fun c0=> ?_)
 rw[y4u (n:=b - ((x.1.size:Nat):Int) - (x.2.1.size:Int)) (by omega) (by omega)]
 refine u1x (fun c1=> ?_)
 rw[u4t (by omega)];simp
theorem t3u (l:Hu (u0b).den) (b:Int) (hf:(Ty.sl u0b).fine l) (hb:0≤b) (hb2:b≤1048576):u2c (l,b)=some (szr b ((Ty.sl u0b).wt l)):=by
 have hl:l.length≤9223372036854775807:=by have:=hf.1;simp only[maxLen] at this;exact this
 rw[u8u];unfold u4h;simp only
 rw[y4u (n:=b - (l.length:Int)) (by omega) (by omega)]
 have hw:(Ty.sl u0b).wt l=l.length+(l.map (u0b).wt).sum:=rfl
 rw[hw];refine u1x (fun c=> ?_)
 exact Q.size (T:=u0b) (q:=u1u) (W:=u0v) (fun x=>u7v x) l (by omega) (fun x hx c h1 h2=>⟨_,t4k x c (u65 hf hx) h1 h2,u8p⟩) (b - (l.length:Int)) (by omega) (by omega)
theorem t4l (x:(u0b).den) (hx:(u0b).wt x≤1099511627776):u1w x=some x:=by
 rw[u9w];rfl
theorem t3v (l:Hu (u0b).den) (hx:(Ty.sl u0b).wt l≤1099511627776):u2d l=some l:=by
 have hw:(Ty.sl u0b).wt l=l.length+(l.map (u0b).wt).sum:=rfl
 rw[hw] at hx;rw[u8v];unfold u4i
 have h1:(decide (0≤(l.length:Int))&&decide ((l.length:Int)≤1099511627776))=true:=by simp;omega
 have h2:u0h (l,(List.replicate ((l.length:Int)).toNat (u0b).zero),(0:Int))=some (.inl (l.map fun x=>x)):=Q.copy (T:=u0b) (T' :=u0b) (q:=u1w) (W:=u0h) (fun x=>u7w x) l (by omega) (fun x hm=>t4l x (by have:=u5y (f:=(u0b).wt) hm;omega)) _
 rw[Er] at h2
 simp only[h1,Ad,h2,zOb]
theorem t4f (x:(u0b).den) (hx:(u0b).wt x≤1099511627776):u1s (x,x)=some true:=by
 simp only[Ty.wt] at hx
 rw[u9s];unfold u5k;simp only
 simp only[zOb,y6i,Ae,beq_self_eq_true,Ap,Aa]
theorem t3l (l:Hu (u0b).den) (hx:(Ty.sl u0b).wt l≤1099511627776):u2b (l,l)=some true:=by
 have hw:(Ty.sl u0b).wt l=l.length+(l.map (u0b).wt).sum:=rfl
 rw[hw] at hx;rw[u8t];unfold u4g;simp only
 have h2:u0g (l,l,(0:Int))=some (.inl ()):=Q.same (T:=u0b) (S:=Unit) (q:=u1s) (W:=u0g) (fun x=>u7u x) l (by omega) (fun x hm=>t4f x (by have:=u5y (f:=(u0b).wt) hm;omega))
 simp only[Ae,Ap,Aa,h2,zOb]
theorem t8a (x:(u7x).den) (b:Int) (hf:(u7x).fine x) (hb:0≤b) (hb2:b≤1048576):u3t (x,b)=some (szr b ((u7x).wt x)):=by
 obtain⟨hf0,hf1⟩:=hf
 have hs1:x.2.size≤9223372036854775807:=by have:=hf1;simp only[Ty.fine,maxLen] at this;exact this
 have hw:(u7x).wt x=(x.2.size+0):=by simp only[Ty.wt] <;>omega
 rw[hw,t21];unfold u9a;simp only
 rw[y4u (n:=b - (x.2.size:Int)) (by omega) (by omega)]
 refine u1x (fun c1=> ?_)
 rw[u4t (by omega)];simp
theorem t64 (l:Hu (u7x).den) (b:Int) (hf:(Ty.sl u7x).fine l) (hb:0≤b) (hb2:b≤1048576):u47 (l,b)=some (szr b ((Ty.sl u7x).wt l)):=by
 have hl:l.length≤9223372036854775807:=by have:=hf.1;simp only[maxLen] at this;exact this
 rw[t2a];unfold u8b;simp only
 rw[y4u (n:=b - (l.length:Int)) (by omega) (by omega)]
 have hw:(Ty.sl u7x).wt l=l.length+(l.map (u7x).wt).sum:=rfl
 rw[hw];refine u1x (fun c=> ?_)
 exact Q.size (T:=u7x) (q:=u3t) (W:=u14) (fun x=>t0o x) l (by omega) (fun x hx c h1 h2=>⟨_,t8a x c (u65 hf hx) h1 h2,u8p⟩) (b - (l.length:Int)) (by omega) (by omega)
theorem t8d (x:(u7x).den) (hx:(u7x).wt x≤1099511627776):u3v x=some x:=by
 rw[t23];rfl
theorem t7c (l:Hu (u7x).den) (hx:(Ty.sl u7x).wt l≤1099511627776):u5b l=some l:=by
 have hw:(Ty.sl u7x).wt l=l.length+(l.map (u7x).wt).sum:=rfl
 rw[hw] at hx;rw[t2f];unfold u8g
 have h1:(decide (0≤(l.length:Int))&&decide ((l.length:Int)≤1099511627776))=true:=by simp;omega
 have h2:u1a (l,(List.replicate ((l.length:Int)).toNat (u7x).zero),(0:Int))=some (.inl (l.map fun x=>x)):=Q.copy (T:=u7x) (T' :=u7x) (q:=u3v) (W:=u1a) (fun x=>t0r x) l (by omega) (fun x hm=>t8d x (by have:=u5y (f:=(u7x).wt) hm;omega)) _
 rw[Er] at h2
 simp only[h1,Ad,h2,zOb]
theorem t7y (x:(u7x).den) (hx:(u7x).wt x≤1099511627776):u3r (x,x)=some true:=by
 simp only[Ty.wt] at hx
 rw[t2y];unfold u88;simp only
 simp only[zOb,y6i,Ae,beq_self_eq_true,Ap,Aa]
theorem t6t (l:Hu (u7x).den) (hx:(Ty.sl u7x).wt l≤1099511627776):u43 (l,l)=some true:=by
 have hw:(Ty.sl u7x).wt l=l.length+(l.map (u7x).wt).sum:=rfl
 rw[hw] at hx;rw[t15];unfold u76;simp only
 have h2:u07 (l,l,(0:Int))=some (.inl ()):=Q.same (T:=u7x) (S:=Unit) (q:=u3r) (W:=u07) (fun x=>t0m x) l (by omega) (fun x hm=>t7y x (by have:=u5y (f:=(u7x).wt) hm;omega))
 simp only[Ae,Ap,Aa,h2,zOb]
theorem t62 (x:(t1x).den) (b:Int) (hf:(t1x).fine x) (hb:0≤b) (hb2:b≤1048576):u45 (x,b)=some (szr b ((t1x).wt x)):=by
 obtain⟨hf0,hf1⟩:=hf
 have hw:(t1x).wt x=((Ty.sl Ty.str).wt x.1+((Ty.sl u7x).wt x.2+0)):=by simp only[Ty.wt] <;>omega
 rw[hw,t18];unfold u79;simp only
 refine u0w (t1t _ _ hf0 (by omega) (by omega)) (fun c0=> ?_)
 refine u0w (t64 _ _ hf1 (by omega) (by omega)) (fun c1=> ?_)
 rw[u4t (by omega)];simp
theorem t7a (x:(t1x).den) (hx:(t1x).wt x≤1099511627776):u49 x=some x:=by
 simp only[Ty.wt] at hx
 rw[t2d];unfold u8e
 simp only[t1v x.1 (by simp only[Ty.wt];omega),t7c x.2 (by simp only[Ty.wt];omega),zOb]
theorem t6r (x:(t1x).den) (hx:(t1x).wt x≤1099511627776):u41 (x,x)=some true:=by
 simp only[Ty.wt] at hx
 rw[t13];unfold u74;simp only
 simp only[t1p x.1 (by simp only[Ty.wt];omega),t6t x.2 (by simp only[Ty.wt];omega),zOb,y6i,Ae,beq_self_eq_true,Ap,Aa]
theorem t8b (x:(u3e).den) (b:Int) (hf:(u3e).fine x) (hb:0≤b) (hb2:b≤1048576):u3u (x,b)=some (szr b ((u3e).wt x)):=by
 obtain⟨hf0,hf1,hf2,hf3,hf4,hf5,hf6,hf7⟩:=hf
 have hs7:x.2.2.2.2.2.2.2.size≤9223372036854775807:=by have:=hf7;simp only[Ty.fine,maxLen] at this;exact this
 have hw:(u3e).wt x=((Ty.sl u0i).wt x.2.2.2.2.1+((Ty.sl u0j).wt x.2.2.2.2.2.1+(x.2.2.2.2.2.2.2.size+0))):=by simp only[Ty.wt] <;>omega
 rw[hw,t22];unfold u9b;simp only
 refine u0w (t5f _ _ hf4 (by omega) (by omega)) (fun c4=> ?_)
 refine u0w (t5g _ _ hf5 (by omega) (by omega)) (fun c5=> ?_)
 rw[y4u (n:=b - (((Ty.sl u0i).wt x.2.2.2.2.1:Nat):Int) - (((Ty.sl u0j).wt x.2.2.2.2.2.1:Nat):Int) - (x.2.2.2.2.2.2.2.size:Int)) (by omega) (by omega)]
 refine u1x (fun c7=> ?_)
 rw[u4t (by omega)];simp
theorem t2n (l:Hu (u3e).den) (b:Int) (hf:(Ty.sl u3e).fine l) (hb:0≤b) (hb2:b≤1048576):u1h (l,b)=some (szr b ((Ty.sl u3e).wt l)):=by
 have hl:l.length≤9223372036854775807:=by have:=hf.1;simp only[maxLen] at this;exact this
 rw[t2b];unfold u8c;simp only
 rw[y4u (n:=b - (l.length:Int)) (by omega) (by omega)]
 have hw:(Ty.sl u3e).wt l=l.length+(l.map (u3e).wt).sum:=rfl
 rw[hw];refine u1x (fun c=> ?_)
 exact Q.size (T:=u3e) (q:=u3u) (W:=u15) (fun x=>t0p x) l (by omega) (fun x hx c h1 h2=>⟨_,t8b x c (u65 hf hx) h1 h2,u8p⟩) (b - (l.length:Int)) (by omega) (by omega)
theorem t8e (x:(u3e).den) (hx:(u3e).wt x≤1099511627776):u3w x=some x:=by
 simp only[Ty.wt] at hx
 rw[t24];unfold u9c
 simp only[t5j x.2.2.2.2.1 (by simp only[Ty.wt];omega),t5k x.2.2.2.2.2.1 (by simp only[Ty.wt];omega),zOb]
theorem t2o (l:Hu (u3e).den) (hx:(Ty.sl u3e).wt l≤1099511627776):u1i l=some l:=by
 have hw:(Ty.sl u3e).wt l=l.length+(l.map (u3e).wt).sum:=rfl
 rw[hw] at hx;rw[t2g];unfold u8h
 have h1:(decide (0≤(l.length:Int))&&decide ((l.length:Int)≤1099511627776))=true:=by simp;omega
 have h2:u1b (l,(List.replicate ((l.length:Int)).toNat (u3e).zero),(0:Int))=some (.inl (l.map fun x=>x)):=Q.copy (T:=u3e) (T' :=u3e) (q:=u3w) (W:=u1b) (fun x=>t0s x) l (by omega) (fun x hm=>t8e x (by have:=u5y (f:=(u3e).wt) hm;omega)) _
 rw[Er] at h2
 simp only[h1,Ad,h2,zOb]
theorem t7z (x:(u3e).den) (hx:(u3e).wt x≤1099511627776):u3s (x,x)=some true:=by
 simp only[Ty.wt] at hx
 rw[t2z];unfold u89;simp only
 simp only[t42 x.2.2.2.2.1 (by simp only[Ty.wt];omega),t43 x.2.2.2.2.2.1 (by simp only[Ty.wt];omega),zOb,y6i,Ae,beq_self_eq_true,Ap,Aa]
theorem t2l (l:Hu (u3e).den) (hx:(Ty.sl u3e).wt l≤1099511627776):u1g (l,l)=some true:=by
 have hw:(Ty.sl u3e).wt l=l.length+(l.map (u3e).wt).sum:=rfl
 rw[hw] at hx;rw[t16];unfold u77;simp only
 have h2:u08 (l,l,(0:Int))=some (.inl ()):=Q.same (T:=u3e) (S:=Unit) (q:=u3s) (W:=u08) (fun x=>t0n x) l (by omega) (fun x hm=>t7z x (by have:=u5y (f:=(u3e).wt) hm;omega))
 simp only[Ae,Ap,Aa,h2,zOb]
theorem t61 (x:(t02).den) (b:Int) (hf:(t02).fine x) (hb:0≤b) (hb2:b≤1048576):u44 (x,b)=some (szr b ((t02).wt x)):=by
 obtain⟨hf0,hf1,hf2,hf3,hf4⟩:=hf
 have hw:(t02).wt x=((Ty.sl u0b).wt x.1+((Ty.sl u3e).wt x.2.1+((Ty.sl u3e).wt x.2.2.1+0))):=by simp only[Ty.wt] <;>omega
 rw[hw,t17];unfold u78;simp only
 refine u0w (t3u _ _ hf0 (by omega) (by omega)) (fun c0=> ?_)
 refine u0w (t2n _ _ hf1 (by omega) (by omega)) (fun c1=> ?_)
 refine u0w (t2n _ _ hf2 (by omega) (by omega)) (fun c2=> ?_)
 rw[u4t (by omega)];simp
theorem t69 (x:(t02).den) (hx:(t02).wt x≤1099511627776):u48 x=some x:=by
 simp only[Ty.wt] at hx
 rw[t2c];unfold u8d
 simp only[t3v x.1 (by simp only[Ty.wt];omega),t2o x.2.1 (by simp only[Ty.wt];omega),t2o x.2.2.1 (by simp only[Ty.wt];omega),zOb]
theorem t6q (x:(t02).den) (hx:(t02).wt x≤1099511627776):u40 (x,x)=some true:=by
 simp only[Ty.wt] at hx
 rw[t12];unfold u73;simp only
 simp only[t3l x.1 (by simp only[Ty.wt];omega),t2l x.2.1 (by simp only[Ty.wt];omega),t2l x.2.2.1 (by simp only[Ty.wt];omega),zOb,y6i,Ae,beq_self_eq_true,Ap,Aa]
theorem t5e (x:(u4v).den) (b:Int) (hf:(u4v).fine x) (hb:0≤b) (hb2:b≤1048576):u28 (x,b)=some (szr b ((u4v).wt x)):=by
 obtain⟨hf0,hf1⟩:=hf
 have hw:(u4v).wt x=(t02.wt x.1+((Ty.sl u3e).wt x.2+0)):=by simp only[Ty.wt] <;>omega
 rw[hw,t0a];unfold u6d;simp only
 refine u0w (t61 _ _ hf0 (by omega) (by omega)) (fun c0=> ?_)
 refine u0w (t2n _ _ hf1 (by omega) (by omega)) (fun c1=> ?_)
 rw[u4t (by omega)];simp
theorem t5i (x:(u4v).den) (hx:(u4v).wt x≤1099511627776):u3b x=some x:=by
 simp only[Ty.wt] at hx
 rw[t0d];unfold u6g
 simp only[t69 x.1 (by simp only[Ty.wt];omega),t2o x.2 (by simp only[Ty.wt];omega),zOb]
theorem t41 (x:(u4v).den) (hx:(u4v).wt x≤1099511627776):u25 (x,x)=some true:=by
 simp only[Ty.wt] at hx
 rw[u97];unfold u6a;simp only
 simp only[t6q x.1 (by simp only[Ty.wt];omega),t2l x.2 (by simp only[Ty.wt];omega),zOb,y6i,Ae,beq_self_eq_true,Ap,Aa]
theorem t59 (x:(u8l).den) (b:Int) (hf:(u8l).fine x) (hb:0≤b) (hb2:b≤1048576):u35 (x,b)=some (szr b ((u8l).wt x)):=by
 obtain⟨hf0,hf1⟩:=hf
 have hw:(u8l).wt x=(u4v.wt x.1+(t1x.wt x.2+0)):=by simp only[Ty.wt] <;>omega
 rw[hw,t1b];unfold u7g;simp only
 refine u0w (t5e _ _ hf0 (by omega) (by omega)) (fun c0=> ?_)
 refine u0w (t62 _ _ hf1 (by omega) (by omega)) (fun c1=> ?_)
 rw[u4t (by omega)];simp
theorem t6e (x:(u8l).den) (hx:(u8l).wt x≤1099511627776):u37 x=some x:=by
 simp only[Ty.wt] at hx
 rw[t1f];unfold u7j
 simp only[t5i x.1 (by simp only[Ty.wt];omega),t7a x.2 (by simp only[Ty.wt];omega),zOb]
theorem t5x (x:(u8l).den) (hx:(u8l).wt x≤1099511627776):u33 (x,x)=some true:=by
 simp only[Ty.wt] at hx
 rw[t07];unfold u7c;simp only
 simp only[t41 x.1 (by simp only[Ty.wt];omega),t6r x.2 (by simp only[Ty.wt];omega),zOb,y6i,Ae,beq_self_eq_true,Ap,Aa]
theorem t6a (x:(u9e).den) (b:Int) (hf:(u9e).fine x) (hb:0≤b) (hb2:b≤1048576):u36 (x,b)=some (szr b ((u9e).wt x)):=by
 obtain⟨hf0,hf1,hf2,hf3⟩:=hf
 have hw:(u9e).wt x=(u8l.wt x.1+((Ty.sl u3e).wt x.2.1+((Ty.sl (Ty.int .i64)).wt x.2.2.1+((Ty.sl Ty.str).wt x.2.2.2+0)))):=by simp only[Ty.wt] <;>omega
 rw[hw,t1c];unfold u7h;simp only
 refine u0w (t59 _ _ hf0 (by omega) (by omega)) (fun c0=> ?_)
 refine u0w (t2n _ _ hf1 (by omega) (by omega)) (fun c1=> ?_)
 refine u0w (t63 _ _ hf2 (by omega) (by omega)) (fun c2=> ?_)
 refine u0w (t1t _ _ hf3 (by omega) (by omega)) (fun c3=> ?_)
 rw[u4t (by omega)];simp
theorem t6f (x:(u9e).den) (hx:(u9e).wt x≤1099511627776):u1k x=some x:=by
 simp only[Ty.wt] at hx
 rw[t1g];unfold u7k
 simp only[t6e x.1 (by simp only[Ty.wt];omega),t2o x.2.1 (by simp only[Ty.wt];omega),t7b x.2.2.1 (by simp only[Ty.wt];omega),t1v x.2.2.2 (by simp only[Ty.wt];omega),zOb]
theorem t5y (x:(u9e).den) (hx:(u9e).wt x≤1099511627776):u34 (x,x)=some true:=by
 simp only[Ty.wt] at hx
 rw[t08];unfold u7d;simp only
 simp only[t5x x.1 (by simp only[Ty.wt];omega),t2l x.2.1 (by simp only[Ty.wt];omega),t6s x.2.2.1 (by simp only[Ty.wt];omega),t1p x.2.2.2 (by simp only[Ty.wt];omega),zOb,y6i,Ae,beq_self_eq_true,Ap,Aa]
end
section
abbrev t7s:=Int×Int×Int×Int×Hu (Hs×Hs)×Hu (Hs×Hs×Bool)×Bool×Hs
theorem u6l {n:Nat} (h:n≤1099511627776):Nat.ble n z8y=true:=Nat.ble_eq_true_of_le h
def inR (r:Hs×Hs) (k:Hs):Bool:= !y2y k r.1&&(y2y k r.2 || z7m k r.2)
theorem t2v (r:Hs×Hs) (k:Hs):u38 (r,k)=some (inR r k):=by
 rw[t1j];unfold u7m inR;cases y2y k r.1<;>rfl
theorem t2u (r:Hs×Hs) (k:Hs):u31 (r,k)=some (inR r k):=by
 rw[t04];unfold u7a inR;cases y2y k r.1<;>rfl
def t5l (r:Hu u0i.den) (w:Hu u0j.den):Bool:=r.any fun x=>w.any fun y=>inR x y.1
def t88 (a b:Hu u0j.den):Bool:=a.any fun x=>b.any fun y=>z7m x.1 y.1
end
section
theorem t4z {X R A:Type} (W:X→Ht R) (n:Nat) (mk:A→Int→X) (v:Nat→A) (r:R) (hend:W (mk (v n) (n:Int))=some r)
 (hstep:∀i,i<n→W (mk (v i) (i:Int))=W (mk (v (i+1)) ((i+1:Nat):Int))):W (mk (v 0) 0)=some r:=by
 have:=t3j W n (fun(_:Unit) i=>mk (v i.toNat) i) (fun _ _=>r) (fun _ _=>True) (fun _ _=>by simpa using hend) (fun i a hi _=> .inr ⟨(),trivial,rfl,by
  have h:=hstep i hi
  have e:((i:Int)+1).toNat=i+1:=by omega
  simp only[zTn]
  exact h⟩) 0 () (Cn _) trivial
 simpa using this
theorem t34 {α:Type} (p:α→Bool):∀(l a:Hu α),l.foldl (fun a x=>if p x=true then a++ [x] else a) a=a++l.filter p
 | [],a=>by simp
 | x::l,a=>by
  rw[Bs,t34 p l]
  cases hc:p x<;>simp[hc]
abbrev u96:=Hs×Hs×Bool×Int
def emp:Hs:=⟨#[]⟩
def t32 (l:Hu u96) (k:Hs) (snap out:Int) (i:Nat):Int:=
 if z7m (rdL u0b l i).1 k=true∧(rdL u0b l i).2.2.2≤snap∧(out<0∨(rdL u0b l i).2.2.2 >(rdL u0b l out.toNat).2.2.2) then(i:Int) else out
def t3d (l:Hu u96) (k:Hs) (snap:Int):Nat→Int
 | 0=> -1
 | n+1=>t32 l k snap (t3d l k snap n) n
def u4q (l:Hu u96) (k:Hs) (snap:Int):Int:=t3d l k snap l.length
theorem u92 (l:Hu u96) (k:Hs) (snap:Int):∀n,-1≤t3d l k snap n∧t3d l k snap n<(n:Int)
 | 0=>by simp[t3d]
 | n+1=>by
  have:=u92 l k snap n
  simp only[t3d,t32]
  split<;>omega
theorem t4i (l:Hu u96) (k:Hs) (snap:Int): -1≤u4q l k snap∧u4q l k snap<(l.length:Int):=u92 l k snap l.length
theorem t3o (l:Hu u96) (k:Hs) (snap:Int) (hl:l.length≤1099511627776):u6y (l,k,snap)=some (u4q l k snap):=by
 have L:=t4z u1j l.length (fun a i=>(l,k,snap,a,i)) (fun i=>t3d l k snap i) (.inl (u4q l k snap))
  (by rw[u7q];simp only[u2e,u0d,Am,Ah,Aa];rfl)
  (fun i hi=>by
   have hr:=u92 l k snap i
   rw[u7q]
   simp only[u2e,u0d,hi,Ae,Ad,y7r hi,zTn,t3d,t32]
   rw[y7i (by omega)]
   cases h1:z7m (rdL u0b l i).1 k with
   | false=>simp[h1]
   | true=>
    by_cases h2:(rdL u0b l i).2.2.2≤snap
    ·by_cases h3:t3d l k snap i<0
     ·simp[h1,h2,h3]
     ·have hg:y4l (t3d l k snap i) l.length=true:=y7q.mpr ⟨by omega,by omega⟩
      by_cases h4:(rdL u0b l i).2.2.2 >(rdL u0b l (t3d l k snap i).toNat).2.2.2
      ·simp[h1,h2,h3,h4,hg]
      ·simp[h1,h2,h3,h4,hg]
    ·simp[h1,h2])
 have L:u1j (l,k,snap,-1,0)=_:=L
 rw[t25];unfold u9d
 simp only[L,zOb]
theorem t3n (l:Hu u96) (k:Hs) (snap:Int) (hl:l.length≤1099511627776):u4z (l,k,snap)=some (u4q l k snap):=by
 have L:=t4z u05 l.length (fun a i=>(l,k,snap,a,l,(l.length:Int),i)) (fun i=>t3d l k snap i) (.inl (u4q l k snap))
  (by rw[u62];simp only[u10,u0d,Am,Ah,Aa];rfl)
  (fun i hi=>by
   have hr:=u92 l k snap i
   rw[u62]
   simp only[u10,u0d,hi,Ae,Ad,y7r hi,zTn,t3d,t32]
   rw[y7i (by omega)]
   cases h1:z7m (rdL u0b l i).1 k with
   | false=>simp[h1]
   | true=>
    by_cases h2:(rdL u0b l i).2.2.2≤snap
    ·by_cases h3:t3d l k snap i<0
     ·simp[h1,h2,h3]
     ·have hg:y4l (t3d l k snap i) l.length=true:=y7q.mpr ⟨by omega,by omega⟩
      by_cases h4:(rdL u0b l i).2.2.2 >(rdL u0b l (t3d l k snap i).toNat).2.2.2
      ·simp[h1,h2,h3,h4,hg]
      ·simp[h1,h2,h3,h4,hg]
    ·simp[h1,h2])
 have L:u05 (l,k,snap,-1,l,(l.length:Int),0)=_:=L
 rw[t11];unfold u72
 simp only[L,zOb]
def u6z (l:Hu u96) (k:Hs) (snap:Int):Hs×Bool:=
 if u4q l k snap<0∨(rdL u0b l (u4q l k snap).toNat).2.2.1=true then(emp,false) else((rdL u0b l (u4q l k snap).toNat).2.1,true)
theorem t3a (l:Hu u96) (k:Hs) (snap:Int) (y:Int) (hy:y=u4q l k snap):
 (((bif decide (y<0) then some true else(bif y4l y l.length then some (rdL u0b l y.toNat).2.2.1 else none)):Ht Bool).bind fun j2=>(bif j2 then some ((⟨#[]⟩:Hs),false) else(bif y4l y l.length then some ((rdL u0b l y.toNat).2.1,true) else none)))=some (u6z l k snap):=by
 subst hy
 have hr:=t4i l k snap
 unfold u6z
 by_cases h:u4q l k snap<0
 ·simp[h,emp]
 ·have hg:y4l (u4q l k snap) l.length=true:=y7q.mpr ⟨by omega,by omega⟩
  cases h2:(rdL u0b l (u4q l k snap).toNat).2.2.1<;>simp[h,hg,h2,emp]
theorem t3h (l:Hu u96) (k:Hs) (snap:Int) (hl:l.length≤1099511627776):u5c (l,k,snap)=some (u6z l k snap):=by
 rw[t2i];unfold u8j
 simp only[t3o l k snap hl,zOb]
 exact t3a l k snap _ rfl
theorem t3g (l:Hu u96) (k:Hs) (snap:Int) (hl:l.length≤1099511627776):u4x (l,k,snap)=some (u6z l k snap):=by
 rw[t1z];unfold u70
 simp only[t3n l k snap hl,zOb]
 exact t3a l k snap _ rfl
theorem t4x (l:Hu u96) (hl:l.length≤1099511627775):u4y l=some (u91 (l.map fun v=>v.1)):=by
 have L:=t3z u13 l (fun a i=>(a,l,(l.length:Int),i)) (fun _=>true) (fun v=>v.1) (fun a=> .inl a) (by omega)
  (fun a _=>by rw[u61];simp only[u1z,u0d,Am,Ah,Aa])
  (fun i hi a ha=>by
   rw[u61];simp only[u1z,u0d,hi,Ae,Ad,y7r hi,zTn,y8k (t:=u0b) hi,Aw,u6l (show a.length+1≤1099511627776 by omega)]
   rw[y7i (by omega)])
 have hf:l.filter (fun _=>true)=l:=by simp
 rw[hf] at L
 have h1:y6x (l.map fun v=>v.1)=some (y4d (l.map fun v=>v.1)):=by
  unfold y6x;rw[Da,u6l (by omega)];rfl
 have h2:y0j (y4d (l.map fun v=>v.1))=some (u91 (l.map fun v=>v.1)):=by
  unfold y0j;rw[t3b,Da,u6l (by omega)];rfl
 rw[t10];unfold u71
 simp only[L,zOb,u20,u2n]
 simp only[h1,h2,zOb]
theorem t0i (l:Hu Hs):(u91 l).length≤l.length:=by
 have:=z6g (y4d l)
 rw[t3b] at this
 exact this
theorem t3m (k:Hs) (r:Hs×Hs) (l:Hu u96) (j:Int) (out:Hu Hs) (ho:out.length≤1099511627775):
 u0x (l,r,out,j,k, [],0)=some (.inl (l,r,out,j,k,out.filter fun x=>y2y x k)):=by
 have L:=t3z u0x out (fun a i=>(l,r,out,j,k,a,i)) (fun x=>y2y x k) (fun x=>x) (fun a=> .inl (l,r,out,j,k,a)) (by omega)
  (fun a _=>by rw[u5x];simp only[u1o,u0d,Am,Ah,Aa])
  (fun i hi a ha=>by
   rw[u5x];simp only[u1o,u0d,hi,Ae,Ad,y7r hi,zTn,y8k (t:=Ty.str) hi,Aw,u6l (show a.length+1≤1099511627776 by omega)]
   rw[y7i (by omega)])
 rw[Er] at L
 exact L
theorem t27 (k:Hs) (r:Hs×Hs) (l:Hu u96) (j:Int) (out a0:Hu Hs) (ho:out.length+a0.length≤1099511627775):
 u0t (l,r,out,j,k,a0,0)=some (.inl (l,r,j,a0++out.filter fun x=> !(y2y x k || z7m x k))):=by
 have L:=t2w u0t out (fun a i=>(l,r,out,j,k,a,i)) (fun a x=>if(!(y2y x k || z7m x k))=true then a++ [x] else a) (fun a=> .inl (l,r,j,a)) (fun i a=>a.length≤a0.length+i)
  (fun a _=>by rw[u4u];simp only[u1d,u0d,Am,Ah,Aa])
  (fun i hi a ha=>by
   rw[u4u];simp only[u1d,u0d,hi,Ae,Ad,y7r hi,zTn,y8k (t:=Ty.str) hi,Aw,u6l (show a.length+1≤1099511627776 by omega)]
   rw[y7i (by omega)]
   cases hc:(!(y2y out[i] k || z7m out[i] k)) with
   | true=>simp;omega
   | false=>simp;omega) a0 (by simp)
 rw[t34 (fun x=> !(y2y x k || z7m x k))] at L
 exact L
theorem t52 (k:Hs) (l:Hu Hs):(t4q k l).length≤l.length+1:=by
 unfold t4q
 have h:(fun x=> !(y2y x k || z7m x k))=fun x=>y2y k x:=by funext x;exact t47
 rw[h]
 have:(l.filter fun x=>y2y x k).length+(l.filter fun x=>y2y k x).length≤l.length:=by
  induction l with
  | nil=>simp
  | cons x l ih=>
   simp only[Di]
   cases h1:y2y x k with
   | true=>rw[t2m h1];simp;omega
   | false=>cases h2:y2y k x<;>simp<;>omega
 simp
 omega
theorem t4y (l:Hu u96) (r:Hs×Hs) (hl:l.length≤500000000000):u39 (l,r)=some ((u91 (l.map fun v=>v.1)).filter fun k=>inR r k):=by
 have L:=t2w u1q l (fun a i=>(l,r,a,i)) (fun a v=>if inR r v.1=true then t4q v.1 a else a) (fun a=> .inl a) (fun i a=>a.length≤i)
  (fun a _=>by rw[u5w];simp only[u1n,u0d,Am,Ah,Aa])
  (fun i hi a ha=>by
   rw[u5w];simp only[u1n,u0d,hi,Ae,Ad,y7r hi,zTn,y8k (t:=u0b) hi,t2v,zOb]
   cases hc:inR r l[i].1 with
   | false=>
    simp only[Bh,Ad,Br,Bk]
    rw[y7i (by omega)]
    exact⟨by omega,rfl⟩
   | true=>
    have hlow:(a.filter fun x=>y2y x l[i].1).length≤a.length:=Cs _ _
    simp only[Ap,Aa,Bl,t3m l[i].1 r l (i:Int) a (by omega),zOb,Aw,u6l (show(a.filter fun x=>y2y x l[i].1).length+1≤1099511627776 by omega),Ad,
     t27 l[i].1 r l (i:Int) a (a.filter (fun x=>y2y x l[i].1)++ [l[i].1]) (by simp;omega)]
    rw[y7i (by omega)]
    exact⟨A9 (t52 _ _) (by omega),rfl⟩) [] (by simp)
 rw[t1k];unfold u7n
 simp only[L,zOb]
 have hfold:∀(m:Hu u96) (a:Hu Hs),m.foldl (fun a v=>if inR r v.1=true then t4q v.1 a else a) a=((m.map fun v=>v.1).filter fun k=>inR r k).foldl (fun a k=>t4q k a) a:=by
  intro m
  induction m with
  | nil=>intro a;rfl
  | cons x m ih=>
   intro a
   rw[Bs,ih]
   cases hc:inR r x.1<;>simp[hc]
 rw[hfold,t6v]
def t36 (l:Hu u96) (r:Hs×Hs) (snap:Int):Hu (Hs×Hs):=
 ((u91 (l.map fun v=>v.1)).filter fun k=>(u6z l k snap).2&&inR r k).map fun k=>(k,(u6z l k snap).1)
theorem t3f (l:Hu u96) (r:Hs×Hs) (snap:Int) (hl:l.length≤500000000000):u2w (l,r,snap)=some (t36 l r snap):=by
 obtain⟨ks,hks⟩:∃ks,ks=(u91 (l.map fun v=>v.1)).filter fun k=>inR r k:=⟨_,rfl⟩
 have hkl:ks.length≤l.length:=by
  rw[hks]
  refine A9 (Cs _ _) (A9 (t0i _) (by simp))
 have L:=t3z u16 ks (fun a i=>(l,snap,a,ks,i)) (fun k=>(u6z l k snap).2) (fun k=>(k,(u6z l k snap).1)) (fun a=> .inl a) (by omega)
  (fun a _=>by rw[u63];simp only[u11,u0d,Am,Ah,Aa])
  (fun i hi a ha=>by
   rw[u63];simp only[u11,u0d,hi,Ae,Ad,y7r hi,zTn,y8k (t:=Ty.str) hi,t3h l _ snap (show l.length≤1099511627776 by omega),zOb,Aw,u6l (show a.length+1≤1099511627776 by omega)]
   rw[y7i (by omega)])
 rw[t2h];unfold u8i
 simp only[t4y l r hl,zOb]
 rw[←hks]
 simp only[L,zOb]
 rw[hks,List.filter_filter]
 rfl
theorem t3e (l:Hu u96) (r:Hs×Hs) (snap:Int) (hl:l.length≤500000000000):u2v (l,r,snap)=some (t36 l r snap):=by
 obtain⟨ks,hks⟩:∃ks,ks=u91 (l.map fun v=>v.1):=⟨_,rfl⟩
 have hkl:ks.length≤l.length:=by
  rw[hks]
  refine A9 (t0i _) (by simp)
 have L:=t3z u12 ks (fun a i=>(l,snap,r,a,ks,(ks.length:Int),i)) (fun k=>(u6z l k snap).2&&inR r k) (fun k=>(k,(u6z l k snap).1)) (fun a=> .inl a) (by omega)
  (fun a _=>by rw[u60];simp only[u1y,u0d,Am,Ah,Aa])
  (fun i hi a ha=>by
   rw[u60];simp only[u1y,u0d,hi,Ae,Ad,y7r hi,zTn,y8k (t:=Ty.str) hi,t3g l _ snap (show l.length≤1099511627776 by omega),t2u,zOb,Aw,u6l (show a.length+1≤1099511627776 by omega)]
   rw[y7i (by omega)]
   cases (u6z l ks[i] snap).2<;>rfl)
 rw[t1y];unfold u7z
 simp only[t4x l (show l.length≤1099511627775 by omega),zOb]
 rw[←hks]
 simp only[L,zOb]
 rw[hks]
 rfl
end
section
theorem t3c (l:Hu Int):(y7d l).size=l.length:=by
 simp[y7d,ByteArray.size]
theorem t33 {s:Hs} {i:Nat} (h:i<s.size):s.data.toList.getD i 0=s.data.toList[i]'(by simpa using h):=by
 rw[A5,A4 (by simpa using h)]
 rfl
theorem t66 (n m:Nat):Int.tdiv (n:Int) (m:Int)=((n / m:Nat):Int):=(Int.ofNat_tdiv n m).symm
theorem t67 (n m:Nat):Int.tmod (n:Int) (m:Int)=((n % m:Nat):Int):=(Int.ofNat_tmod n m).symm
theorem t8h {n:Nat} (h:n<256):IntKind.u8.wrap (n:Int)=(n:Int):=by
 simp[IntKind.wrap,IntKind.bits,IntKind.signed]
 omega
end
section
abbrev PrT:=Hs×Hs
end
section
def u6k (a b:u3e.den):Bool:=
 decide (a.2.1=3)&&decide (b.2.1=3)&& !decide (a.1=b.1)&&
 (decide (a.2.2.2.1≤b.2.2.1)&&t5l b.2.2.2.2.1 a.2.2.2.2.2.1 || decide (a.2.2.2.1<b.2.2.2.1)&&t88 a.2.2.2.2.2.1 b.2.2.2.2.2.1 || decide (b.2.2.2.1 >a.2.2.1)&&t5l a.2.2.2.2.1 b.2.2.2.2.2.1)
end
section
def t9w (l:Hu u3e.den) (j i:Nat):Bool:=u6k (rdL u3e l j) (rdL u3e l i)
def t76 (l:Hu u3e.den) (t:Hu Nat) (i:Nat):Bool:= !t.contains i&& !(List.range l.length).any (fun j=> !decide (j=i)&&(!t.contains j&&t9w l j i))
def t56 (l:Hu u3e.den) (t:Hu Nat):Ht Nat:=(List.range l.length).find? (t76 l t)
def t77 (l:Hu u3e.den):Nat→Hu Nat→Ht (Hu Nat)
 | 0,t=>some t
 | k+1,t=>match t56 l t with
  | none=>none
  | some i=>t77 l k (t++ [i])
def t89 (l:Hu u3e.den):Ht (Hu Nat):=t77 l l.length []
section
variable {l:Hu u3e.den} (hw:∀x∈l,u3e.wt x≤t7u) (hl:l.length≤1048576)
include hw hl
end
end
section
def t9d (l:Hu u3e.den):Nat:=(l.map fun t=>t.2.2.2.2.2.1.length).sum
section
variable {l:Hu u3e.den} (hw:∀x∈l,u3e.wt x≤t7u) (hl:l.length+t9d l≤1048576) (hr:∀x∈l,x.2.2.2.2.1.length≤1048576)
include hl
include hr
include hw
end
end
section
def KD (l:Hu u0j.den):Prop:=l.Pairwise fun a b=>a.1≠b.1
def t9b (t:u3e.den):Prop:=t.2.2.2.2.1.length≤3∧(∀r∈t.2.2.2.2.1,r.1.size≤2∧r.2.size≤2)∧t.2.2.2.2.2.1.length≤3∧(∀r∈t.2.2.2.2.2.1,r.1.size≤2∧r.2.1.size≤3)∧t.2.2.2.2.2.2.2.size≤16
def tId (t:u3e.den):Int:=t.1
def tSt (t:u3e.den):Int:=t.2.1
def t9c (t:u3e.den):Int:=t.2.2.1
def tCs (t:u3e.den):Int:=t.2.2.2.1
def t7x (t:u3e.den):Prop:=tSt t=3∧t9c t<tCs t∧KD t.2.2.2.2.2.1
def t71 (l:Hu u3e.den):Prop:=(∀t∈l,t7x t)∧l.Pairwise fun a b=>tId a≠tId b∧tCs a<tCs b
end
section
def t93 (m:Hu PrT):Prop:=m.Pairwise fun a b=>y2y a.1 b.1=true
def vCs (x:u96):Int:=x.2.2.2
end
section
abbrev t7p:=Hu u96×Hu t7s×Hu t7s×Int×Int
end
section
def vLt (a b:u96):Prop:=y2y a.1 b.1=true∨(a.1=b.1∧vCs a<vCs b)
def t94 (l:Hu u96):Prop:=l.Pairwise vLt
end
section
abbrev t9p:=Hs×Hs
end
section
abbrev u95:=Hu Hs×Hu (Int×Hs)
def t9z (a b c:Int):Bool:=decide (b≤a)&&decide (a≤c)
def t6w (c:Hu (Int×Hs)) (at_:Int):Ht Hs:=c.foldl (fun t p=>if p.1=at_ then some p.2 else t) none
def t0k (d:u95) (at_:Int):Hs×Bool:=if 0≤at_∧at_<d.1.length then((t6w d.2 at_).getD (rdL Ty.str d.1 at_.toNat),true) else(emp,false)
def t79 (d:u95) (from_:Int):Nat→Nat→Hs→Hs×Bool
 | 0,_,acc=>(acc,true)
 | m+1,i,acc=>if(t0k d (from_+(i:Int))).2 then t79 d from_ m (i+1) (acc++(t0k d (from_+(i:Int))).1) else(emp,false)
def t5b (d:u95) (from_ n:Int):Hs×Bool:=if 0≤n∧n≤100 then t79 d from_ n.toNat 0 emp else(emp,false)
end
section
section
variable {l:Hu u3e.den} (hl:t71 l) {u:Hu Nat} (ho:t89 l=some u)
include hl
include ho
def pre (l:Hu u3e.den) (u:Hu Nat) (a:Nat):Hu u3e.den:=(u.take a).map fun i=>rdL u3e l i
end
end
section
def t91 (w:u0j.den):Prop:=w.1.size≤4∧w.2.1.size≤13
def t90 (n:Nat) (t:u3e.den):Prop:=t.2.2.2.2.1.length≤n∧(∀r∈t.2.2.2.2.1,r.1.size≤2∧r.2.size≤2)∧t.2.2.2.2.2.1.length≤n∧(∀r∈t.2.2.2.2.2.1,t91 r)∧t.2.2.2.2.2.2.2.size≤16
end
section
def t9i (n:Nat):Hu Int:=if h:n<128 then[(n:Int)] else((n % 128+128:Nat):Int)::t9i (n / 128)
termination_by n
decreasing_by omega
def t8g:Nat→Nat→Nat→Hu UInt8→Ht (Nat×Nat)
 | 0,_,_,_=>none
 | _+1,_,_, [] =>none
 | f+1,i,n,b::l=>
  if b.toNat<128 then(if n+b.toNat % 128*128^i≤1000000000∧(t9i (n+b.toNat % 128*128^i)).length=i+1 then some (n+b.toNat % 128*128^i,i+1) else none)
  else t8g f (i+1) (n+b.toNat % 128*128^i) l
def t8f (at_:Int) (r:Ht (Nat×Nat)):Int×Int×Bool:=match r with
 | some (n,k)=>((n:Int),at_+(k:Int),true)
 | none=>(0,0,false)
def u5e (t:Hs) (at_:Int):Int×Int×Bool:=if 0≤at_∧at_≤t.size then t8f at_ (t8g 5 0 0 (t.data.toList.drop at_.toNat)) else(0,0,false)
end
section
def u8o (t:Hs) (at_:Int):Hs×Int×Bool:=
 if(u5e t at_).2.2=true∧(u5e t at_).1≤20000∧(u5e t at_).1≤(t.size:Int) - (u5e t at_).2.1 then
  (t.extract (u5e t at_).2.1.toNat ((u5e t at_).2.1+(u5e t at_).1).toNat,(u5e t at_).2.1+(u5e t at_).1,true)
 else(emp,0,false)
def t83 (t:Hs):Int:=((t.data.toList.getD 0 0).toNat:Int)
def t45 (d:u95) (s:Int):Int:=t83 (t0k d s).1
def t30 (d:u95):Int:=Int.tmod (t45 d 0) 2
def t86 (a:Int):Bool:=decide (a=0) || decide (a=1)
def u6j (a:Int):Int:=if t86 a then 1+a*48 else 0
def t6p (d:u95) (a:Int):Int:=if t86 a then t45 d (u6j a) else 0
def t6k (t:Hs):Nat→Int→Hu Hs→Hu Hs×Int×Bool
 | 0,at_,acc=>(acc,at_,true)
 | m+1,at_,acc=>if(u8o t at_).2.2&& !z7m (u8o t at_).1 emp then t6k t m (u8o t at_).2.1 (acc++ [(u8o t at_).1]) else([],0,false)
def u66 (d:u95) (a:Int):Hu Hs×Int×Bool:=
 if t86 a&&(t5b d (u6j a+1) 47).2 then t6k (t5b d (u6j a+1) 47).1 (t6p d a).toNat 0 [] else([],0,false)
end
section
def t7w (d:u95):Bool:=decide (1≤d.1.length∧d.1.length≤100)&&decide (d.2.length≤60)&&d.1.all (fun s=>decide (s.size=64))&&d.2.all (fun p=>t9z p.1 0 ((d.1.length:Int) - 1)&&decide (p.2.size=64))
def t87 (d:u95):Bool:=t7w d&&decide (d.1.length=97)&&decide (d.2.length=0)&&(u66 d 0).2.2&&(u66 d 1).2.2
end
section
def t8p (a:Int) (d d' :u95):Prop:= ∀j:Nat,¬(u6j a≤(j:Int)∧(j:Int)<u6j a+48)→t0k d' (j:Int)=t0k d (j:Int)
end
section
abbrev t9o:=Int×t7s×Hs×Bool×t7p
end
section
def t81 (d e:u95):Prop:=t87 e=true∧t30 e=t30 d∧u66 e 0=u66 d 0∧u66 e 1=u66 d 1
end
section
structure SameC (x y:t7s):Prop where
 id:x.1=y.1
 st:x.2.1=y.2.1
 snap:x.2.2.1=y.2.2.1
 cs:x.2.2.2.1=y.2.2.2.1
 rs:x.2.2.2.2.1=y.2.2.2.2.1
 ws:x.2.2.2.2.2.1=y.2.2.2.2.2.1
end
section
structure tinyT (t:t7s):Prop where
 rl:t.2.2.2.2.1.length≤100
 rs:∀r∈t.2.2.2.2.1,r.1.size≤100∧r.2.size≤100
 wl:t.2.2.2.2.2.1.length≤100
 ws:∀w∈t.2.2.2.2.2.1,w.1.size≤100∧w.2.1.size≤100
 nm:t.2.2.2.2.2.2.2.size≤100
structure tinyB (b:t7p):Prop where
 vl:b.1.length≤10000
 vs:∀v∈b.1,v.1.size≤100∧v.2.1.size≤100
 pl:b.2.1.length≤1000
 ps:∀t∈b.2.1,tinyT t
 rl:b.2.2.1.length≤1000
 rs:∀t∈b.2.2.1,tinyT t
structure tinyR (r:t9o):Prop where
 t:tinyT r.2.1
 n:r.2.2.1.size≤100
 b:tinyB r.2.2.2.2
end
section
def t6o:t9p:=((⟨#[97]⟩:Hs),(⟨#[122,122,122]⟩:Hs))
end
section
def fig (n:Nat):Int:=if n<10 then 48+(n:Int) else 87+(n:Int)
def t84 (b:UInt8):Hu Int:= [fig (b.toNat / 16),fig (b.toNat % 16)]
def t35 (l:Hu UInt8):Hu Int:=l.flatMap t84
def t4p (s:Hs):Hs×Bool:=if s.size >20000 then(⟨#[]⟩,false) else(y7d (t35 s.data.toList),true)
theorem u7r (l:Hu UInt8):(t35 l).length=2*l.length:=by
 induction l with
 | nil=>rfl
 | cons x l ih=>
  simp only[t35,List.flatMap_cons,Ba] at ih ⊢
  rw[ih]
  simp[t84];omega
theorem t26 {l:Hu UInt8} {i:Nat} (h:i<l.length):t35 (l.take (i+1))=t35 (l.take i)++t84 l[i] :=by
 unfold t35
 rw[B9 h,List.flatMap_append]
 simp only[List.flatMap_cons,List.flatMap_nil,Bw]
theorem t7v {n:Nat} (h:n≤100000000000):Nat.ble n z8y=true:=Nat.ble_eq_true_of_le (A9 h (by decide))
theorem t8i {n:Nat} (h:n<200):IntKind.u8.wrap (n:Int)=(n:Int):=t8h (by omega)
theorem t0g (n:Nat) (h:n<16):u0k (n:Int)=some (fig n):=by
 rw[u90];unfold u5r fig
 by_cases hc:n<10
 ·have:decide ((n:Int)<(10:Int))=true:=by simp;omega
  have e1:IntKind.i64.wrap ((48:Int)+(n:Int))=((48+n:Nat):Int):=by rw[y4u (by omega) (by omega)];omega
  rw[this,Ad,Al hc,e1,t8i (by omega)];exact Dj some (by omega)
 ·have:decide ((n:Int)<(10:Int))=false:=by simp;omega
  have e1:IntKind.i64.wrap ((97:Int)+(n:Int))=(97:Int)+(n:Int):=y4u (by omega) (by omega)
  have e2:IntKind.i64.wrap ((97:Int)+(n:Int) - 10)=((87+n:Nat):Int):=by rw[y4u (by omega) (by omega)];omega
  rw[this,Aa,Ao hc,e1,e2,t8i (by omega)];exact Dj some (by omega)
theorem t5t (s:Hs):u8y s=some (t4p s):=by
 rw[t4e];unfold t1o t4p
 by_cases hz:s.size >20000
 ·have:decide ((s.size:Int) >(20000:Int))=true:=by simp;omega
  rw[this,Ad,Al hz]
 have h0:decide ((s.size:Int) >(20000:Int))=false:=by simp;omega
 rw[h0,Aa,Ao hz]
 have L:=t3j u2m s.size (fun(_:Unit) i=>(s,t35 (s.data.toList.take i.toNat),i)) (fun _ _=> .inl (t35 s.data.toList)) (fun _ _=>True)
  (fun a _=>by
   rw[u9l];simp only[u3j,u0d,Am,Ah,Aa,zTn]
   rw[List.take_of_length_le (by simp)])
  (fun i a hi _=> .inr ⟨(),trivial,rfl,by
   have hb:(s.data.toList[i]'(by simpa using hi)).toNat<256:=Fw _
   rw[u9l]
   have t1:Int.tdiv (((s.data.toList[i]'(by simpa using hi)).toNat:Nat):Int) (16:Int)=(((s.data.toList[i]'(by simpa using hi)).toNat / 16:Nat):Int):=t66 _ 16
   have t2:Int.tmod (((s.data.toList[i]'(by simpa using hi)).toNat:Nat):Int) (16:Int)=(((s.data.toList[i]'(by simpa using hi)).toNat % 16:Nat):Int):=t67 _ 16
   have hble:Nat.ble ((t35 (s.data.toList.take i)).length+2) z8y=true:=t7v (by rw[u7r];simp;omega)
   simp only[u3j,u0d,hi,Ae,Ad,y7r hi,zTn,t33 hi,y8a (show(s.data.toList[i]'(by simpa using hi)).toNat≤4611686018427387904 by omega),t1,t2,y8a (show(s.data.toList[i]'(by simpa using hi)).toNat / 16≤4611686018427387904 by omega),
    t0g ((s.data.toList[i]'(by simpa using hi)).toNat / 16) (by omega),t0g ((s.data.toList[i]'(by simpa using hi)).toNat % 16) (by omega),zOb,Bc,Cc,hble]
   rw[y7i (by omega),t26 (by simpa using hi)]
   rfl⟩) 0 () (by omega) trivial
 have L:u2m (s, [],0)=some (.inl (t35 s.data.toList)):=L
 simp only[L,zOb]
def t92:Hs:=⟨#[48,49,50,51,52,53,54,55,56,57,97,98,99,100,101,102]⟩
theorem t8c:(⟨#[48,49,50,51,52,53,54,55,56,57,97,98,99,100,101,102]⟩:Hs)=t92:=rfl
theorem t6c:t92.size=16:=rfl
theorem t9g:∀n:Nat,n<16→((([48,49,50,51,52,53,54,55,56,57,97,98,99,100,101,102] :Hu UInt8).getD n 0).toNat:Int)=fig n:=by decide
theorem t5s (s:Hs):u8x s=some (t4p s):=by
 rw[t4d];unfold t1n t4p
 by_cases hz:s.size >20000
 ·have:decide ((s.size:Int) >(20000:Int))=true:=by simp;omega
  rw[this,Ad,Al hz]
 have h0:decide ((s.size:Int) >(20000:Int))=false:=by simp;omega
 rw[h0,Aa,Ao hz]
 have L:=t3j u2l s.size (fun(_:Unit) i=>(s,t35 (s.data.toList.take i.toNat),i)) (fun _ _=> .inl (t35 s.data.toList)) (fun _ _=>True)
  (fun a _=>by
   rw[u9k];simp only[u3f,u0d,Am,Ah,Aa,zTn]
   rw[List.take_of_length_le (by simp)])
  (fun i a hi _=> .inr ⟨(),trivial,rfl,by
   have hb:(s.data.toList[i]'(by simpa using hi)).toNat<256:=Fw _
   rw[u9k]
   have t1:Int.tdiv (((s.data.toList[i]'(by simpa using hi)).toNat:Nat):Int) (16:Int)=(((s.data.toList[i]'(by simpa using hi)).toNat / 16:Nat):Int):=t66 _ 16
   have t2:Int.tmod (((s.data.toList[i]'(by simpa using hi)).toNat:Nat):Int) (16:Int)=(((s.data.toList[i]'(by simpa using hi)).toNat % 16:Nat):Int):=t67 _ 16
   have w2:IntKind.u8.wrap (((s.data.toList[i]'(by simpa using hi)).toNat / 16:Nat):Int)=(((s.data.toList[i]'(by simpa using hi)).toNat / 16:Nat):Int):=t8h (by omega)
   have hble:Nat.ble ((t35 (s.data.toList.take i)).length+2) z8y=true:=t7v (by rw[u7r];simp;omega)
   simp only[u3f,t8c,t6c,u0d,hi,Ae,Ad,y7r hi,zTn,t33 hi,t1,t2,w2,y7r (show(s.data.toList[i]'(by simpa using hi)).toNat / 16<16 by omega),y7r (show(s.data.toList[i]'(by simpa using hi)).toNat % 16<16 by omega),
    t9g ((s.data.toList[i]'(by simpa using hi)).toNat / 16) (by omega),t9g ((s.data.toList[i]'(by simpa using hi)).toNat % 16) (by omega),Bc,Cc,hble]
   rw[y7i (by omega),t26 (by simpa using hi)]
   rfl⟩) 0 () (by omega) trivial
 have L:u2l (s, [],0)=some (.inl (t35 s.data.toList)):=L
 simp only[L,zOb]
def u9j (p:t9v.den):Hs:=p.1++⟨#[61]⟩++(t4p p.2).1++⟨#[10]⟩
def u8w (l:Hu t9v.den):Hs:=l.foldl (fun a p=>a++u9j p) ⟨#[]⟩
theorem t0h (s:Hs):(t4p s).1.size≤40000:=by
 unfold t4p
 split
 ·show 0≤_;omega
 ·show(y7d _).size≤_
  rw[t3c,u7r]
  simp;omega
theorem u7s (p:t9v.den):(u9j p).size≤p.1.size+40002:=by
 have:=t0h p.2
 have e1:(⟨#[61]⟩:Hs).size=1:=rfl
 have e2:(⟨#[10]⟩:Hs).size=1:=rfl
 unfold u9j
 simp only[Af,e1,e2]
 omega
theorem t1r:∀(l:Hu t9v.den) (a:Hs),(∀p∈l,p.1.size≤1048576)→(l.foldl (fun a p=>a++u9j p) a).size≤a.size+l.length*2000000
 | [],a,_=>by simp
 | p::l,a,h=>by
  have h1:=t1r l (a++u9j p) fun q hq=>h q (Bm _ hq)
  have h2:=u7s p
  have h3:=h p (C9 ..)
  rw[Bs,Bc,C7]
  rw[Af] at h1
  omega
theorem t29 {l:Hu t9v.den} (h:∀p∈l,p.1.size≤1048576):(u8w l).size≤l.length*2000000:=by
 have:=t1r l ⟨#[]⟩ h
 have e:(⟨#[]⟩:Hs).size=0:=rfl
 unfold u8w
 omega
theorem t0u (l:Hu t9v.den) (hn:l.length≤1048576) (hk:∀p∈l,p.1.size≤1048576):u2s l=some (u8w l):=by
 have L:=t2w u04 l (fun a i=>(l,a,i)) (fun a p=>a++u9j p) (fun a=> .inl a) (fun i a=>a.size≤i*2000000)
  (fun a _=>by rw[u3z];simp only[u00,u0d,Am,Ah,Aa])
  (fun i hi a ha=>by
   have hk:=hk _ (Ag hi)
   have hh:=t0h l[i].2
   have e1:(⟨#[61]⟩:Hs).size=1:=rfl
   have e2:(⟨#[10]⟩:Hs).size=1:=rfl
   have hs:=u7s l[i]
   refine⟨by rw[Af];omega,?_⟩
   rw[u3z]
   simp only[u00,u0d,hi,Ae,Ad,y7r hi,zTn,y8k hi,t5t,zOb,Af,e1,e2]
   rw[Bb (show a.size+(l[i]).1.size≤140737488355328 by omega),Bb (show a.size+(l[i]).1.size+1≤140737488355328 by omega),Bb (show a.size+(l[i]).1.size+1+(t4p (l[i]).2).1.size≤140737488355328 by omega),Bb (show a.size+(l[i]).1.size+1+(t4p (l[i]).2).1.size+1≤140737488355328 by omega)]
   simp only[Ad]
   rw[y7i (by omega)]
   simp only[u9j,ByteArray.append_assoc]) ⟨#[]⟩ (by show 0≤_;omega)
 rw[u9x];unfold u5o
 simp only[L,zOb]
 rfl
theorem t0t (l:Hu t9v.den) (hn:l.length≤1048576) (hk:∀p∈l,p.1.size≤1048576):u2p l=some (u8w l):=by
 have L:=t2w u02 l (fun a i=>(a,l,(l.length:Int),i)) (fun a p=>a++u9j p) (fun a=> .inl a) (fun i a=>a.size≤i*2000000)
  (fun a _=>by rw[u3x];simp only[u0y,u0d,Am,Ah,Aa])
  (fun i hi a ha=>by
   have hk:=hk _ (Ag hi)
   have hh:=t0h l[i].2
   have e1:(⟨#[61]⟩:Hs).size=1:=rfl
   have e2:(⟨#[10]⟩:Hs).size=1:=rfl
   have hs:=u7s l[i]
   refine⟨by rw[Af];omega,?_⟩
   rw[u3x]
   simp only[u0y,u0d,hi,Ae,Ad,y7r hi,zTn,y8k hi,t5s,zOb,Af,e1,e2]
   rw[Bb (show(l[i]).1.size+1≤140737488355328 by omega),Bb (show(l[i]).1.size+1+(t4p (l[i]).2).1.size≤140737488355328 by omega),Bb (show(l[i]).1.size+1+(t4p (l[i]).2).1.size+1≤140737488355328 by omega),Bb (show a.size+((l[i]).1.size+1+(t4p (l[i]).2).1.size+1)≤140737488355328 by omega)]
   simp only[Ad]
   rw[y7i (by omega)]
   rfl) ⟨#[]⟩ (by show 0≤_;omega)
 rw[u9o];unfold u5g
 simp only[L,zOb]
 rfl
theorem t9x:∀k:Nat,k<10→y7d [fig k] =(⟨#[UInt8.ofNat (48+k)]⟩:Hs):=by decide
theorem t5u (u:Nat) (h:u<9223372036854775808):(Lib.decDigits u).length≤19:=by
 rw[Lib.decDigits_length]
 have h2:=Lib.nDigits_pos u
 have key:∀(m v:Nat),v<10^m→1≤m→Lib.nDigits v≤m:=by
  intro m
  induction m with
  | zero=>intro v _ h;omega
  | succ m ih=>
   intro v hv _
   by_cases c:v<10
   ·rw[Lib.nDigits_small c];omega
   ·rw[Lib.nDigits_big c]
    have hv' :v / 10<10^m:=by rw[Gr] at hv;omega
    have hm:1≤m:=by
     rcases De m with e | e
     ·subst e;simp at hv';omega
     ·exact e
    have:=ih (v / 10) hv' hm
    omega
 exact key 19 u (by have:(10:Nat)^19=10000000000000000000:=by decide
                    omega) (by omega)
theorem u8n (u:Nat):y5q (u:Int)=⟨(Lib.decDigits u).toArray⟩:=by unfold y5q;rw[Lib.itoa_nonneg]
theorem u2a {n:Int} (h0:0≤n) (h1:n≤9223372036854775807):(y5q n).size≤19:=by
 obtain⟨u,rfl⟩:∃u:Nat,n=(u:Int):=⟨n.toNat,by omega⟩
 rw[u8n]
 show(Lib.decDigits u).toArray.size≤19
 have:=t5u u (by omega)
 simpa using this
theorem t5v {u:Nat} (h: ¬u<10):y5q (u:Int)=y5q ((u / 10:Nat):Int)++⟨#[UInt8.ofNat (48+u % 10)]⟩:=by
 rw[u8n,u8n,Lib.decDigits,dif_neg h]
 apply Gf
 simp[Ft]
theorem t3k {u:Nat} (h:u<10):y5q (u:Int)=⟨#[UInt8.ofNat (48+u)]⟩:=by
 rw[u8n,Lib.decDigits_one h]
theorem t40:∀(m:Nat) (u:Nat) (s:Hs),u<10^m→0<u→u<9223372036854775808→s.size+m≤1000→u1p ((u:Int),false,s)=some (.inl (false,y5q (u:Int)++s))
 | 0,u,s,h1,h2,h3,h4=>by simp at h1;omega
 | m+1,u,s,h1,h2,h3,h4=>by
  have e1:Int.tmod (u:Int) 10=((u % 10:Nat):Int):=t67 u 10
  have e2:Int.tdiv (u:Int) 10=((u / 10:Nat):Int):=t66 u 10
  have d1:decide ((u:Int)=0)=false:=A7 (by omega)
  have d2:decide (((u % 10:Nat):Int)<0)=false:=A7 (by omega)
  have hl:(y7d [fig (u % 10)]).size+s.size≤140737488355328:=by rw[t3c];simp only[Aw];omega
  rw[u5v]
  simp only[u1m,d1,e1,e2,d2,Bh,Ad,Aa,t0g (u % 10) (by omega),zOb,hl,Ae,y8a (show u / 10≤4611686018427387904 by omega)]
  rw[t9x (u % 10) (by omega)]
  by_cases c:u<10
  ·have z:u / 10=0:=by omega
   have z2:u % 10=u:=by omega
   rw[z,u5v,z2,←t3k c]
   simp[u1m]
  ·have p:u / 10<10^m:=by rw[Gr] at h1;omega
   have:=t40 m (u / 10) (⟨#[UInt8.ofNat (48+u % 10)]⟩++s) p (by omega) (by omega) (by rw[Af];show 1+s.size+m≤1000;omega)
   rw[this,t5v c,ByteArray.append_assoc]
theorem u51 {n:Int} (h0:0≤n) (h1:n≤9223372036854775807):u1l n=some (y5q n):=by
 obtain⟨u,rfl⟩:∃u:Nat,n=(u:Int):=⟨n.toNat,by omega⟩
 rw[t1i];unfold u7l
 by_cases c:u=0
 ·subst c
  have:=t3k (u:=0) (by omega)
  simp only[this]
  rfl
 ·have p:u<10^19:=by have:(10:Nat)^19=10000000000000000000:=by decide
                     omega
  have e:=t40 19 u (⟨#[]⟩:Hs) p (by omega) (by omega) (by decide)
  have d:decide ((u:Int)<0)=false:=A7 (by omega)
  have d0:decide ((u:Int)=0)=false:=A7 (by omega)
  have ez:y5q (u:Int)++(⟨#[]⟩:Hs)=y5q (u:Int):=ByteArray.append_empty
  simp only[d0,Aa,d,e,zOb,ez]
end
section
theorem cc {T:Type} {a b:Nat} {x:Ht T} (h:a+b≤140737488355328):(bif decide (a+b≤140737488355328) then x else none)=x:=by rw[Bb h];rfl
def t7g (n:Int):Hs:=y5q (y8g n 0)
theorem u93 {n:Int} (h:n≤9223372036854775807):0≤y8g n 0∧y8g n 0≤9223372036854775807:=by
 unfold y8g;split<;>omega
theorem u4s {n:Int} (h:n≤9223372036854775807):(t7g n).size≤19:=u2a (u93 h).1 (u93 h).2
theorem u50 {n:Int} (h0:0≤n) (h1:n≤9223372036854775807):u0e n=some (y5q n):=by
 rw[t03];unfold u69
 rw[t1l];unfold y6w
 have d1:decide (-9223372036854775808≤n)=true:=Bb (by omega)
 have d2:decide (n≤9223372036854775807)=true:=Bb h1
 rw[d1,d2];rfl
theorem t3x {n:Int} (h:n≤9223372036854775807):u19 n=some (t7g n):=by
 rw[t2k];unfold u8k t7g y8g
 by_cases c:n<0
 ·have d:decide (n<0)=true:=Bb c
  have e:y5q 0=(⟨#[48]⟩:Hs):=t3k (u:=0) (by omega)
  rw[d,Ad,Al (by omega),e]
 ·have d:decide (n<0)=false:=A7 c
  rw[d,Aa,Ao (by omega),u51 (by omega) h];rfl
theorem t3w {n:Int} (h:n≤9223372036854775807):u0e (y8g n 0)=some (t7g n):=u50 (u93 h).1 (u93 h).2
def t6u (s:u8l.den):Hs:=((((((⟨#[99,115,32]⟩:Hs)++t7g s.1.1.2.2.2.1)++(⟨#[32,111,112,101,110,32]⟩:Hs))++y5q (s.1.2.length:Int))++(⟨#[32,114,101,97,100,121,32]⟩:Hs))++y5q (s.1.1.2.2.1.length:Int))++(⟨#[10]⟩:Hs)
def t0j (s:u8l.den):Hu t9v.den:=t36 s.1.1.1 t6o s.1.1.2.2.2.1
def t5c (s:u8l.den):Hs:=t6u s++u8w (t0j s)
structure SmallS (s:u8l.den):Prop where
 cs:s.1.1.2.2.2.1≤9223372036854775807
 vl:s.1.1.1.length≤1048576
 vk:∀v∈s.1.1.1,v.1.size≤1048576
 ol:s.1.2.length≤1048576
 rl:s.1.1.2.2.1.length≤1048576
theorem SmallS.pairs {s:u8l.den} (h:SmallS s):(t0j s).length≤1048576∧ ∀p∈t0j s,p.1.size≤1048576:=by
 unfold t0j t36
 constructor
 ·rw[Da]
  refine A9 (Cs _ _) (A9 (t0i _) ?_)
  rw[Da];exact h.vl
 ·intro p hp
  obtain⟨k,hk,rfl⟩:=Bx.mp hp
  have hk:=((t1q _).2 k).mp (A6.mp hk).1
  obtain⟨v,hv,rfl⟩:=Bx.mp hk
  exact h.vk v hv
theorem SmallS.lines {s:u8l.den} (h:SmallS s):(u8w (t0j s)).size≤3000000000000:=by
 have:=t29 h.pairs.2
 have:=h.pairs.1
 omega
theorem t4h {s:u8l.den} (h:SmallS s):(t6u s).size≤100:=by
 have h1:=u4s h.cs
 have h2:=u2a (n:=(s.1.2.length:Int)) (by omega) (by have:=h.ol;omega)
 have h3:=u2a (n:=(s.1.1.2.2.1.length:Int)) (by omega) (by have:=h.rl;omega)
 have z1:(⟨#[99,115,32]⟩:Hs).size=3:=rfl
 have z2:(⟨#[32,111,112,101,110,32]⟩:Hs).size=6:=rfl
 have z3:(⟨#[32,114,101,97,100,121,32]⟩:Hs).size=7:=rfl
 have z4:(⟨#[10]⟩:Hs).size=1:=rfl
 unfold t6u
 simp only[Af]
 omega
theorem t0w {s:u8l.den} (h:SmallS s):u2t s=some (t5c s):=by
 have h1:=u4s h.cs
 have h2:=u2a (n:=(s.1.2.length:Int)) (by omega) (by have:=h.ol;omega)
 have h3:=u2a (n:=(s.1.1.2.2.1.length:Int)) (by omega) (by have:=h.rl;omega)
 have h4:=h.lines
 have z1:(⟨#[99,115,32]⟩:Hs).size=3:=rfl
 have z2:(⟨#[32,111,112,101,110,32]⟩:Hs).size=6:=rfl
 have z3:(⟨#[32,114,101,97,100,121,32]⟩:Hs).size=7:=rfl
 have z4:(⟨#[10]⟩:Hs).size=1:=rfl
 have hall:u5d ()=some t6o:=by rw[t2j];rfl
 have hsc:u2w (s.1.1.1,t6o,s.1.1.2.2.2.1)=some (t0j s):=t3f s.1.1.1 t6o _ (by have:=h.vl;omega)
 rw[u9y];unfold u5p
 simp only[t3x h.cs,u51 (n:=(s.1.2.length:Int)) (by omega) (by have:=h.ol;omega),u51 (n:=(s.1.1.2.2.1.length:Int)) (by omega) (by have:=h.rl;omega),hall,hsc,t0u _ h.pairs.1 h.pairs.2,zOb]
 repeat rw[cc]
 ·rfl
 all_goals ((try simp only[Af]);omega)
theorem t0v {s:u8l.den} (h:SmallS s):u2q s=some (t5c s):=by
 have h1:=u4s h.cs
 have h2:=u2a (n:=(s.1.2.length:Int)) (by omega) (by have:=h.ol;omega)
 have h3:=u2a (n:=(s.1.1.2.2.1.length:Int)) (by omega) (by have:=h.rl;omega)
 have h4:=h.lines
 have z1:(⟨#[99,115,32]⟩:Hs).size=3:=rfl
 have z2:(⟨#[32,111,112,101,110,32]⟩:Hs).size=6:=rfl
 have z3:(⟨#[32,114,101,97,100,121,32]⟩:Hs).size=7:=rfl
 have z4:(⟨#[10]⟩:Hs).size=1:=rfl
 have hall:u32 ()=some t6o:=by rw[t05];rfl
 have hsc:u2v (s.1.1.1,t6o,s.1.1.2.2.2.1)=some (t0j s):=t3e s.1.1.1 t6o _ (by have:=h.vl;omega)
 rw[u9p];unfold u5h
 simp only[t3w h.cs,u50 (n:=(s.1.2.length:Int)) (by omega) (by have:=h.ol;omega),u50 (n:=(s.1.1.2.2.1.length:Int)) (by omega) (by have:=h.rl;omega),hall,hsc,t0t _ h.pairs.1 h.pairs.2,zOb]
 repeat rw[cc]
 ·rfl
 all_goals ((try simp only[Af]);omega)
def u7t (l:Hu Hs) (i:Nat):Hs:=if i<l.length∧z7m (rdL Ty.str l i) (⟨#[]⟩:Hs)=false then rdL Ty.str l i else(⟨#[46]⟩:Hs)
def t3r (w:u9e.den) (i:Nat):Hs:=((t7g (rdL (Ty.int .i64) w.2.2.1 i)++(⟨#[32]⟩:Hs))++u7t w.2.2.2 i)++(⟨#[10]⟩:Hs)
def u4r (w:u9e.den):Nat→Hs
 | 0=>⟨#[]⟩
 | n+1=>u4r w n++t3r w n
def t57 (w:u9e.den):Hs:=u4r w w.2.2.1.length++t5c w.1
structure SmallW (w:u9e.den):Prop where
 st:SmallS w.1
 cl:w.2.2.1.length≤1048576
 cr:∀c∈w.2.2.1,c≤9223372036854775807
 sd:∀t∈w.2.2.2,t.size≤1048576
 sl:w.2.2.2.length≤1048576
theorem u80 {w:u9e.den} (h:SmallW w) (i:Nat):(u7t w.2.2.2 i).size≤1048576:=by
 unfold u7t
 split
 ·rename_i c
  rw[y8k (t:=Ty.str) c.1]
  exact h.sd _ (Ag c.1)
 ·have z:(⟨#[46]⟩:Hs).size=1:=rfl
  omega
theorem u8m {w:u9e.den} (h:SmallW w) {i:Nat} (hi:i<w.2.2.1.length):rdL (Ty.int .i64) w.2.2.1 i≤(9223372036854775807:Int):=by
 rw[y8k (t:=Ty.int .i64) hi]
 exact h.cr _ (Ag hi)
theorem t4j {w:u9e.den} (h:SmallW w) {i:Nat} (hi:i<w.2.2.1.length):(t3r w i).size≤1048600:=by
 have h1:=u4s (u8m h hi)
 have h2:=u80 h i
 have z1:(⟨#[32]⟩:Hs).size=1:=rfl
 have z2:(⟨#[10]⟩:Hs).size=1:=rfl
 unfold t3r
 simp only[Af]
 omega
theorem u24 {w:u9e.den} (h:SmallW w):∀n:Nat,n≤w.2.2.1.length→(u4r w n).size≤n*1048600
 | 0,_=>by rw[show(u4r w 0).size=0 from rfl];exact Cn _
 | n+1,hn=>by
  have h1:=u24 h n (by omega)
  have h2:=t4j h (i:=n) (by omega)
  unfold u4r
  rw[Af,C7];omega
theorem t9a {w:u9e.den} (h:SmallW w):∀d i:Nat,i+d=w.2.2.1.length→u0o (w,u4r w i,(i:Int))=some (.inl (w,u4r w w.2.2.1.length)):=by
 intro d
 induction d with
 | zero=>
  intro i hi
  rw[u30];simp only[u01,u0d,show ¬i<w.2.2.1.length by omega,Ah,Aa]
  rw[show i=w.2.2.1.length by omega]
 | succ d ih=>
  intro i hi
  have hlt:i<w.2.2.1.length:=by omega
  have hcl:=h.cl
  have k1:=u4s (u8m h hlt)
  have k2:=u80 h i
  have k3:=u24 h i (by omega)
  have z1:(⟨#[32]⟩:Hs).size=1:=rfl
  have z2:(⟨#[10]⟩:Hs).size=1:=rfl
  have z3:(⟨#[46]⟩:Hs).size=1:=rfl
  have nx:=ih (i+1) (by omega)
  have e:u4r w (i+1)=u4r w i++t3r w i:=rfl
  rw[e] at nx
  unfold t3r at nx
  rw[u30]
  simp only[u01,u0d,hlt,Ae,Ad,y7r hlt,zTn,t3x (u8m h hlt),zOb]
  rw[y7i (by omega)]
  by_cases c1:i<w.2.2.2.length
  ·cases c2:z7m (rdL Ty.str w.2.2.2 i) (⟨#[]⟩:Hs)
   ·have es:u7t w.2.2.2 i=rdL Ty.str w.2.2.2 i:=by unfold u7t;rw[Al ⟨c1,c2⟩]
    rw[es] at nx k2
    simp only[c1,Ae,Ad,y7r c1,c2,Bh,zOb]
    repeat rw[cc]
    ·rw[←nx];simp only[ByteArray.append_assoc]
    all_goals ((try simp only[Af]);omega)
   ·have es:u7t w.2.2.2 i=(⟨#[46]⟩:Hs):=by unfold u7t;rw[Ao (by rw[c2];simp)]
    rw[es] at nx k2
    simp only[c1,Ae,Ad,y7r c1,c2,Ap,zOb,Aa]
    repeat rw[cc]
    ·rw[←nx];simp only[ByteArray.append_assoc]
    all_goals ((try simp only[Af]);omega)
  ·have es:u7t w.2.2.2 i=(⟨#[46]⟩:Hs):=by unfold u7t;rw[Ao (fun q=>c1 q.1)]
   rw[es] at nx k2
   simp only[c1,Ah,Aa,zOb]
   repeat rw[cc]
   ·rw[←nx];simp only[ByteArray.append_assoc]
   all_goals ((try simp only[Af]);omega)
theorem t85 {w:u9e.den} (h:SmallW w):∀d i:Nat,i+d=w.2.2.1.length→u0l (w,u4r w i,w.2.2.1,(w.2.2.1.length:Int),(i:Int))=some (.inl (w,u4r w w.2.2.1.length)):=by
 intro d
 induction d with
 | zero=>
  intro i hi
  rw[u3y];simp only[u0z,u0d,show ¬i<w.2.2.1.length by omega,Ah,Aa]
  rw[show i=w.2.2.1.length by omega]
 | succ d ih=>
  intro i hi
  have hlt:i<w.2.2.1.length:=by omega
  have hcl:=h.cl
  have k1:=u4s (u8m h hlt)
  have k2:=u80 h i
  have k3:=u24 h i (by omega)
  have z1:(⟨#[32]⟩:Hs).size=1:=rfl
  have z2:(⟨#[10]⟩:Hs).size=1:=rfl
  have z3:(⟨#[46]⟩:Hs).size=1:=rfl
  have nx:=ih (i+1) (by omega)
  have e:u4r w (i+1)=u4r w i++t3r w i:=rfl
  rw[e] at nx
  unfold t3r at nx
  rw[u3y]
  simp only[u0z,u0d,hlt,Ae,Ad,y7r hlt,zTn,t3w (u8m h hlt),zOb]
  rw[y7i (by omega)]
  have e0:z7m (⟨#[]⟩:Hs) (⟨#[]⟩:Hs)=true:=y7c.mpr rfl
  by_cases c1:i<w.2.2.2.length
  ·cases c2:z7m (rdL Ty.str w.2.2.2 i) (⟨#[]⟩:Hs)
   ·have es:u7t w.2.2.2 i=rdL Ty.str w.2.2.2 i:=by unfold u7t;rw[Al ⟨c1,c2⟩]
    rw[es] at nx k2
    simp only[c1,Ae,Ad,y7r c1,c2,Aa]
    repeat rw[cc]
    ·exact nx
    all_goals ((try simp only[Af]);omega)
   ·have es:u7t w.2.2.2 i=(⟨#[46]⟩:Hs):=by unfold u7t;rw[Ao (by rw[c2];simp)]
    rw[es] at nx k2
    simp only[c1,Ae,Ad,y7r c1,c2]
    repeat rw[cc]
    ·exact nx
    all_goals ((try simp only[Af]);omega)
  ·have es:u7t w.2.2.2 i=(⟨#[46]⟩:Hs):=by unfold u7t;rw[Ao (fun q=>c1 q.1)]
   rw[es] at nx k2
   simp only[c1,Ah,Aa,e0,Ad]
   repeat rw[cc]
   ·exact nx
   all_goals ((try simp only[Af]);omega)
theorem t1s {s:u8l.den} (h:SmallS s):(t5c s).size≤4000000000000:=by
 have:=t4h h
 have:=h.lines
 unfold t5c
 rw[Af];omega
theorem t0y {w:u9e.den} (h:SmallW w):u2u w=some (t57 w):=by
 have e:=t9a h w.2.2.1.length 0 (by omega)
 have e:u0o (w,(⟨#[]⟩:Hs),0)=_:=e
 have k:=u24 h _ (Au _)
 have hcl:=h.cl
 have k2:=t1s h.st
 rw[u9z];unfold u5q
 simp only[e,t0w h.st,zOb]
 rw[cc (by omega)];rfl
theorem t0x {w:u9e.den} (h:SmallW w):u2r w=some (t57 w):=by
 have e:=t85 h w.2.2.1.length 0 (by omega)
 have e:u0l (w,(⟨#[]⟩:Hs),w.2.2.1,(w.2.2.1.length:Int),0)=_:=e
 have k:=u24 h _ (Au _)
 have hcl:=h.cl
 have k2:=t1s h.st
 rw[u9q];unfold u5i
 simp only[e,t0v h.st,zOb]
 rw[cc (by omega)];rfl
end
section
theorem t6m {n:Int} (h:(Ty.int .i64).fine n): -9223372036854775808≤n∧n≤9223372036854775807:=by
 have h:(Lit.int .i64 n).wf=true:=h
 simp[Lit.wf,IntKind.min,IntKind.max,IntKind.signed,IntKind.bits] at h
 omega
theorem t3s {x:u8l.den} (hx:u8l.fine x) (h:u8l.wt x≤1048576):SmallS x:=by
 have k1:u8l.wt x=(((Ty.sl u0b).wt x.1.1.1+((Ty.sl u3e).wt x.1.1.2.1+((Ty.sl u3e).wt x.1.1.2.2.1+(0+0))))+(Ty.sl u3e).wt x.1.2)+t1x.wt x.2:=rfl
 have k2:(Ty.sl u0b).wt x.1.1.1=x.1.1.1.length+(x.1.1.1.map u0b.wt).sum:=rfl
 have k3:(Ty.sl u3e).wt x.1.1.2.2.1=x.1.1.2.2.1.length+(x.1.1.2.2.1.map u3e.wt).sum:=rfl
 have k4:(Ty.sl u3e).wt x.1.2=x.1.2.length+(x.1.2.map u3e.wt).sum:=rfl
 refine⟨(t6m hx.1.1.2.2.2.1).2,by omega,fun v hv=> ?_,by omega,by omega⟩
 have:=u5y (f:=u0b.wt) hv
 have e:u0b.wt v=v.1.size+(v.2.1.size+(0+0)):=rfl
 omega
end
section
theorem t3t {x:u9e.den} (hx:u9e.fine x) (h:u9e.wt x≤1048576):SmallW x:=by
 have hw:u9e.wt x=u8l.wt x.1+((Ty.sl u3e).wt x.2.1+((Ty.sl (Ty.int .i64)).wt x.2.2.1+(Ty.sl Ty.str).wt x.2.2.2)):=rfl
 have k1:(Ty.sl (Ty.int .i64)).wt x.2.2.1=x.2.2.1.length+(x.2.2.1.map (Ty.int .i64).wt).sum:=rfl
 have k2:(Ty.sl Ty.str).wt x.2.2.2=x.2.2.2.length+(x.2.2.2.map Ty.str.wt).sum:=rfl
 refine⟨t3s hx.1 (by omega),by omega,fun c hc=> ?_,fun t ht=> ?_,by omega⟩
 ·obtain⟨i,hi,rfl⟩:=B7 hc
  exact(t6m (hx.2.2.1.2 i hi)).2
 ·have:=u5y (f:=Ty.str.wt) ht
  have e:Ty.str.wt t=t.size:=rfl
  omega
theorem u68 (x:u9e.den) (hx:u9e.fine x):u18 x=some true:=by
 rw[u4w];unfold u17
 refine t65 (t6a x _ hx (by omega) (by omega)) (fun c1=> ?_)
 have wx:u9e.wt x≤1099511627776:=by omega
 have hs:=t3t hx (by omega)
 have e0:z7m (t57 x) (t57 x)=true:=y7c.mpr rfl
 simp only[t6f x wx,t0y hs,t0x hs,t5y x wx,e0,zOb,Ap,Aa]
end
end
end Go.Proofs.YtdeadnnhblaflaaGreatDoor.Ab
