import Derived.Test.YtbkicjpdlchbgaaGreatAbPlayedG2
import Derived.Test.YtbkicjpdlchbgaaGreatAbK2
import Derived.Test.YtbkicjpdlchbgaaGreatAbF4
import Derived.Test.YtbkicjpdlchbgaaGreatAbS2
namespace Go.Proofs.YtbkicjpdlchbgaaGreat.Ab
open Go
set_option linter.unusedVariables false
set_option linter.unusedSimpArgs false
set_option linter.unnecessarySimpa false
section
section
theorem p38 (n:Int):IntKind.u8.wrap n=n % 256:=by
 simp[IntKind.wrap,IntKind.bits,IntKind.signed]
theorem u0b (a b:Nat):decide ((a:Int)<(b:Int))=decide (a<b):=by simp
theorem r1k {X R A:Type} (W:X→Option R) (n:Nat) (mk:A→Int→X) (res:Nat→A→R) (P:Nat→A→Prop)
 (hend:∀a,P n a→W (mk a (n:Int))=some (res n a))
 (hstep:∀(i:Nat) a,i<n→P i a→W (mk a (i:Int))=some (res i a)∨ ∃a',P (i+1) a' ∧res (i+1) a' =res i a∧W (mk a (i:Int))=W (mk a' ((i+1:Nat):Int))):
 ∀(i:Nat) a,i≤n→P i a→W (mk a (i:Int))=some (res i a):=by
 intro i a hi hP
 obtain⟨d,hd⟩:∃d,i+d=n:=⟨n - i,by omega⟩
 clear hi
 induction d generalizing i a with
 | zero=>
  have:i=n:=by omega
  subst this
  exact hend a hP
 | succ d ih=>
  rcases hstep i a (by omega) hP with h | ⟨a',h1,h2,h3⟩
  ·exact h
  ·rw[h3,ih (i+1) a' h1 (by omega),h2]
def p6g {E A R:Type} (f:Nat→E→A→A⊕R) (fin:A→R):Nat→List E→A→R
 | _, [],a=>fin a
 | i,x::l,a=>match f i x a with
  | .inl a' =>p6g f fin (i+1) l a'
  | .inr r=>r
theorem p6b {X R A E:Type} (W:X→Option R) (l:List E) (mk:A→Int→X) (f:Nat→E→A→A⊕R) (fin:A→R) (P:Nat→A→Prop)
 (hend:∀a,P l.length a→W (mk a (l.length:Int))=some (fin a))
 (hstep:∀(i:Nat) (h:i<l.length) a,P i a→match f i l[i] a with
  | .inl a' =>P (i+1) a' ∧W (mk a (i:Int))=W (mk a' ((i+1:Nat):Int))
  | .inr r=>W (mk a (i:Int))=some r) (a:A) (hP:P 0 a):W (mk a 0)=some (p6g f fin 0 l a):=by
 have key:=r1k W l.length mk (fun i a=>p6g f fin i (l.drop i) a) P (fun a h=>by
  rw[hend a h,List.drop_eq_nil_of_le (Nat.le_refl _)];rfl) (fun i a hi hP=>by
   have hs:=hstep i hi a hP
   have hd:l.drop i=l[i] ::l.drop (i+1):=List.drop_eq_getElem_cons hi
   rw[hd]
   simp only[p6g]
   cases hf:f i l[i] a with
   | inl a' =>
    rw[hf] at hs
    exact .inr ⟨a',hs.1,rfl,hs.2⟩
   | inr r=>
    rw[hf] at hs
    exact .inl hs) 0 a (Nat.zero_le _) hP
 exact key
def szr (b:Int) (w:Nat):Int:=if(w:Int)≤b then b - w else -1
def Ty.wt:(t:Ty)→t.den→Nat
 | .int _,_=>0
 | .bool,_=>0
 | .str,s=>s.size
 | .sl e,l=>l.length+(l.map e.wt).sum
 | .pair a b,x=>a.wt x.1+b.wt x.2
theorem s02 {X R E:Type} (W:X→Option R) (l:List E) (mk:Int→X) (p:E→Bool) (yes no:R) (hend:W (mk (l.length:Int))=some no)
 (hstep:∀(i:Nat) (h:i<l.length),W (mk (i:Int))=bif p l[i] then some yes else W (mk ((i+1:Nat):Int))):W (mk 0)=some (bif l.any p then yes else no):=by
 have:=p6b W l (fun(_:Unit) i=>mk i) (fun _ x _=>if p x then .inr yes else .inl ()) (fun _=>no) (fun _ _=>True) (fun _ _=>hend) (fun i h a _=>by
  have hs:=hstep i h
  cases hp:p l[i] with
  | true=>simp only[hp,cond_true] at hs;simp only[if_true];exact hs
  | false=>simp only[hp,cond_false] at hs;simp only[Bool.false_eq_true,if_false];exact⟨trivial,hs⟩) () trivial
 rw[this]
 congr 1
 have key:∀(l:List E) (i:Nat),p6g (fun _ x (_:Unit)=>if p x then .inr yes else .inl ()) (fun _=>no) i l ()=bif l.any p then yes else no:=by
  intro l
  induction l with
  | nil=>intro i;rfl
  | cons x l ih=>
   intro i
   simp only[p6g,List.any_cons]
   cases hp:p x with
   | true=>simp
   | false=>simp only[Bool.false_eq_true,if_false,Bool.false_or];exact ih _
 exact key l 0
theorem t4r {X R E A:Type} (W:X→Option R) (l:List E) (mk:A→Int→X) (f:A→E→A) (fin:A→R) (P:Nat→A→Prop)
 (hend:∀a,P l.length a→W (mk a (l.length:Int))=some (fin a))
 (hstep:∀(i:Nat) (h:i<l.length) a,P i a→P (i+1) (f a l[i])∧W (mk a (i:Int))=W (mk (f a l[i]) ((i+1:Nat):Int))) (a:A) (hP:P 0 a):W (mk a 0)=some (fin (l.foldl f a)):=by
 have:=p6b W l mk (fun _ x a=> .inl (f a x)) fin P hend (fun i h a hp=>hstep i h a hp) a hP
 rw[this]
 congr 1
 have key:∀(l:List E) (i:Nat) (a:A),p6g (fun _ x a=>(.inl (f a x):A⊕R)) fin i l a=fin (l.foldl f a):=by
  intro l
  induction l with
  | nil=>intro i a;rfl
  | cons x l ih=>intro i a;simp only[p6g,List.foldl_cons];exact ih _ _
 exact key l 0 a
theorem s03 {X R E B:Type} (W:X→Option R) (l:List E) (mk:List B→Int→X) (p:E→Bool) (g:E→B) (fin:List B→R) (hl:l.length≤1099511627776)
 (hend:∀a:List B,a.length≤l.length→W (mk a (l.length:Int))=some (fin a))
 (hstep:∀(i:Nat) (h:i<l.length) (a:List B),a.length≤i→W (mk a (i:Int))=bif p l[i] then W (mk (a++ [g l[i]]) ((i+1:Nat):Int)) else W (mk a ((i+1:Nat):Int))):W (mk [] 0)=some (fin ((l.filter p).map g)):=by
 have:=t4r W l mk (fun a x=>if p x then a++ [g x] else a) fin (fun i a=>a.length≤i) hend (fun i h a hp=>by
  have hs:=hstep i h a hp
  cases hc:p l[i] with
  | true=>
   simp only[hc,cond_true] at hs
   simp only[if_true]
   exact⟨by simp;omega,hs⟩
  | false=>
   simp only[hc,cond_false] at hs
   simp only[Bool.false_eq_true,if_false]
   exact⟨by omega,hs⟩) [] (Nat.le_refl 0)
 rw[this]
 congr 1
 have key:∀(l:List E) (a:List B),l.foldl (fun a x=>if p x then a++ [g x] else a) a=a++(l.filter p).map g:=by
  intro l
  induction l with
  | nil=>intro a;simp
  | cons x l ih=>
   intro a
   simp only[List.foldl_cons,ih,List.filter_cons]
   cases hp:p x<;>simp
 rw[key];simp
end
section
theorem q3o (b:ByteArray):b.toList=toS b:=by rw[ByteArray.toList_eq];rfl
theorem p7k {a b:ByteArray} (h:toS a=toS b):a=b:=by rw[←y8p a,h,y8p]
theorem r6d:∀(x y:List UInt8),Op.bytesLess x y=decide (x<y)
 | x, [] =>by simp[Op.bytesLess]
 | [],y::ys=>by simp[Op.bytesLess]
 | x::xs,y::ys=>by
  rw[Op.bytesLess,r6d xs ys,Bool.eq_iff_iff]
  simp[List.cons_lt_cons_iff]
theorem p3y {a b:ByteArray} :y3c a b=true↔toS a<toS b:=by
 unfold y3c
 rw[q3o,q3o,r6d]
 simp
theorem o0f {a b:ByteArray} :y3c a b=false↔ ¬toS a<toS b:=by
 rw[←p3y];simp
theorem p8x (x:List UInt8): ¬x<x:=List.lt_irrefl x
theorem p8y {x y z:List UInt8} (h:x<y) (k:y<z):x<z:=List.lt_trans h k
theorem p8z (x y:List UInt8):x<y∨x=y∨y<x:=by
 rcases List.le_total x y with h | h
 ·rcases List.le_iff_lt_or_eq.mp h with h | h
  ·exact .inl h
  ·exact .inr (.inl h)
 ·rcases List.le_iff_lt_or_eq.mp h with h | h
  ·exact .inr (.inr h)
  ·exact .inr (.inl h.symm)
theorem u52 (a:ByteArray):y3c a a=false:=o0f.mpr (p8x _)
theorem r08 {a b c:ByteArray} (h:y3c a b=true) (k:y3c b c=true):y3c a c=true:=p3y.mpr (p8y (p3y.mp h) (p3y.mp k))
theorem r1y (a b:ByteArray):y3c a b=true∨a=b∨y3c b a=true:=by
 rcases p8z (toS a) (toS b) with h | h | h
 ·exact .inl (p3y.mpr h)
 ·exact .inr (.inl (p7k h))
 ·exact .inr (.inr (p3y.mpr h))
theorem s3o {a b:ByteArray} (h:y3c a b=true):y3c b a=false:=by
 cases k:y3c b a with
 | false=>rfl
 | true=>exact absurd (r08 h k) (by rw[u52];exact Bool.false_ne_true)
theorem q9m {a b:ByteArray} :z7o a b=false↔a≠b:=by
 rw[←Bool.not_eq_true,y7f]
theorem q3k (a b:ByteArray):z7o a b=z7o b a:=by
 rw[Bool.eq_iff_iff,y7f,y7f]
 exact⟨Eq.symm,Eq.symm⟩
theorem q7g {a b:ByteArray} :(!(y3c a b || z7o a b))=y3c b a:=by
 rcases r1y a b with h | h | h
 ·rw[h,s3o h];rfl
 ·subst h;rw[u52,y6l];rfl
 ·rw[s3o h,h]
  have:z7o a b=false:=q9m.mpr (fun e=>by subst e;rw[u52] at h;cases h)
  rw[this];rfl
def Asc (l:List ByteArray):Prop:=l.Pairwise fun a b=>y3c a b=true
theorem Asc.ext:∀ {l m:List ByteArray},Asc l→Asc m→(∀x,x∈l↔x∈m)→l=m
 | [], [],_,_,_=>rfl
 | [],y::m,_,_,h=>by have:=(h y).mpr (by simp);simp at this
 | x::l, [],_,_,h=>by have:=(h x).mp (by simp);simp at this
 | x::l,y::m,hl,hm,h=>by
  have hl' :=List.pairwise_cons.mp hl
  have hm' :=List.pairwise_cons.mp hm
  have hxy:x=y:=by
   rcases List.mem_cons.mp ((h x).mp (by simp)) with e | e
   ·exact e
   ·rcases List.mem_cons.mp ((h y).mpr (by simp)) with e' | e'
    ·exact e'.symm
    ·have:=r08 (hm'.1 x e) (hl'.1 y e')
     rw[u52] at this;cases this
  subst hxy
  congr 1
  refine Asc.ext hl'.2 hm'.2 fun z=> ?_
  constructor
  ·intro hz
   rcases List.mem_cons.mp ((h z).mp (by simp[hz])) with e | e
   ·subst e;have:=hl'.1 z hz;rw[u52] at this;cases this
   ·exact e
  ·intro hz
   rcases List.mem_cons.mp ((h z).mpr (by simp[hz])) with e | e
   ·subst e;have:=hm'.1 z hz;rw[u52] at this;cases this
   ·exact e
theorem Asc.filter {l:List ByteArray} (h:Asc l) (p:ByteArray→Bool):Asc (l.filter p):=List.Pairwise.filter p h
def p17 (k:ByteArray) (l:List ByteArray):List ByteArray:=l.filter (fun x=>y3c x k)++ [k] ++l.filter (fun x=> !(y3c x k || z7o x k))
theorem p44 {k x:ByteArray} {l:List ByteArray} :x∈p17 k l↔x=k∨x∈l:=by
 simp only[p17,List.mem_append,List.mem_filter,List.mem_singleton,q7g]
 constructor
 ·rintro((h | h) | h)
  ·exact .inr h.1
  ·exact .inl h
  ·exact .inr h.1
 ·rintro(h | h)
  ·exact .inl (.inr h)
  ·rcases r1y x k with e | e | e
   ·exact .inl (.inl ⟨h,e⟩)
   ·exact .inl (.inr e)
   ·exact .inr ⟨h,e⟩
theorem p4x {k:ByteArray} {l:List ByteArray} (h:Asc l):Asc (p17 k l):=by
 unfold Asc p17
 rw[List.pairwise_append,List.pairwise_append]
 refine⟨⟨h.filter _,by simp,fun a ha b hb=> ?_⟩,h.filter _,fun a ha b hb=> ?_⟩
 ·simp only[List.mem_singleton] at hb
  subst hb
  exact(List.mem_filter.mp ha).2
 ·have hb:=(List.mem_filter.mp hb).2
  rw[q7g] at hb
  rcases List.mem_append.mp ha with ha | ha
  ·exact r08 (List.mem_filter.mp ha).2 hb
  ·simp only[List.mem_singleton] at ha
   subst ha
   exact hb
theorem p26 {l:List ByteArray} :∀ {a:List ByteArray},Asc a→Asc (l.foldl (fun a k=>p17 k a) a)∧ ∀x,x∈l.foldl (fun a k=>p17 k a) a↔x∈l∨x∈a:=by
 induction l with
 | nil=>intro a h;exact⟨h,fun x=>by simp⟩
 | cons k l ih=>
  intro a h
  obtain⟨h1,h2⟩:=ih (p4x (k:=k) h)
  refine⟨h1,fun x=> ?_⟩
  rw[List.foldl_cons,h2,p44,List.mem_cons]
  constructor
  ·rintro(q | q | q)
   ·exact .inl (.inr q)
   ·exact .inl (.inl q)
   ·exact .inr q
  ·rintro((q | q) | q)
   ·exact .inr (.inl q)
   ·exact .inl q
   ·exact .inr (.inr q)
theorem r6e (d:Array (List UInt8)) (hs:∀i j:Nat,i≤j→j<d.size→d[i]! ≤d[j]!):∀m,m≤d.size→(Lib.compactUpTo d m).Pairwise (·< ·)∧(∀x,x∈Lib.compactUpTo d m↔ ∃i,i<m∧d[i]! =x)
 | 0,_=>by simp[Lib.compactUpTo]
 | m+1,hm=>by
  obtain⟨h1,h2⟩:=r6e d hs m (by omega)
  rw[Lib.compactUpTo_succ]
  by_cases hk:Lib.keeps d m=true
  ·rw[if_pos hk]
   constructor
   ·rw[List.pairwise_append]
    refine⟨h1,by simp,fun a ha b hb=> ?_⟩
    simp only[List.mem_singleton] at hb
    subst hb
    obtain⟨i,hi,rfl⟩:=(h2 a).mp ha
    unfold Lib.keeps at hk
    have hk:=of_decide_eq_true hk
    rcases hk with hk | hk
    ·omega
    ·have l1:=hs i (m - 1) (by omega) (by omega)
     have l2:=hs (m - 1) m (by omega) (by omega)
     rcases List.le_iff_lt_or_eq.mp l2 with l2 | l2
     ·rcases List.le_iff_lt_or_eq.mp l1 with l1 | l1
      ·exact p8y l1 l2
      ·rw[l1];exact l2
     ·exact absurd l2.symm hk
   ·intro x
    simp only[List.mem_append,List.mem_singleton,h2]
    constructor
    ·rintro(⟨i,hi,rfl⟩ | rfl)
     ·exact⟨i,by omega,rfl⟩
     ·exact⟨m,by omega,rfl⟩
    ·rintro⟨i,hi,rfl⟩
     rcases Nat.lt_or_ge i m with q | q
     ·exact .inl ⟨i,q,rfl⟩
     ·exact .inr (by rw[show i=m by omega])
  ·rw[if_neg hk,List.append_nil]
   refine⟨h1,fun x=> ?_⟩
   rw[h2]
   unfold Lib.keeps at hk
   simp only[decide_eq_true_eq,not_or,ne_eq,Decidable.not_not] at hk
   constructor
   ·rintro⟨i,hi,rfl⟩;exact⟨i,by omega,rfl⟩
   ·rintro⟨i,hi,rfl⟩
    rcases Nat.lt_or_ge i m with q | q
    ·exact⟨i,q,rfl⟩
    ·have:i=m:=by omega
     subst this
     exact⟨i - 1,by omega,hk.2.symm⟩
def q5h (l:List ByteArray):List ByteArray:=y6r (y4i l)
theorem p1f (l:List ByteArray):Asc (q5h l)∧ ∀x,x∈q5h l↔x∈l:=by
 obtain⟨d,hd⟩:∃d,d=(l.map toS).mergeSort fun x y=>decide (x≤y):=⟨_,rfl⟩
 have hk:q5h l=(Lib.compact d).map unS:=by
  unfold q5h y6r y4i
  rw[←hd,List.map_map]
  have:(toS ∘unS)=id:=by funext x;rfl
  rw[this,List.map_id]
 have hsort:d.Pairwise (·≤ ·):=by
  rw[hd]
  have:=List.pairwise_mergeSort (le:=fun(x y:List UInt8)=>decide (x≤y)) (fun a b c h1 h2=>by
   simp only[decide_eq_true_eq] at h1 h2 ⊢
   exact List.le_trans h1 h2) (fun a b=>by
   simp only[Bool.or_eq_true,decide_eq_true_eq]
   exact List.le_total a b) (l.map toS)
  exact this.imp (fun h=>by simpa using h)
 have hmem:∀x,x∈d↔x∈l.map toS:=fun x=>by rw[hd];exact(List.mergeSort_perm _ _).mem_iff
 have hs:∀i j:Nat,i≤j→j<d.toArray.size→d.toArray[i]! ≤d.toArray[j]! :=fun i j hij hj=>by
  have hj' :j<d.length:=by simpa using hj
  have hi' :i<d.length:=by omega
  rw[getElem!_pos _ i (by simpa using hi'),getElem!_pos _ j hj]
  simp only[List.getElem_toArray]
  rcases Nat.lt_or_ge i j with q | q
  ·exact List.pairwise_iff_getElem.mp hsort i j hi' hj' q
  ·have:i=j:=by omega
   subst this
   exact List.le_refl _
 obtain⟨h1,h2⟩:=r6e d.toArray hs d.length (by simp)
 rw[hk]
 constructor
 ·unfold Asc
  rw[List.pairwise_map]
  exact h1.imp (fun h=>p3y.mpr h)
 ·intro x
  rw[List.mem_map]
  constructor
  ·rintro⟨y,hy,rfl⟩
   obtain⟨i,hi,rfl⟩:=(h2 y).mp hy
   rw[getElem!_pos _ i (by simpa using hi)]
   have:d[i] ∈l.map toS:=(hmem _).mp (List.getElem_mem hi)
   obtain⟨z,hz,e⟩:=List.mem_map.mp this
   simp only[List.getElem_toArray]
   rw[←e,y8p]
   exact hz
  ·intro hx
   have:toS x∈d:=(hmem _).mpr (List.mem_map.mpr ⟨x,hx,rfl⟩)
   obtain⟨i,hi,e⟩:=List.mem_iff_getElem.mp this
   refine⟨toS x,(h2 _).mpr ⟨i,hi,?_⟩,y8p x⟩
   rw[getElem!_pos _ i (by simpa using hi)]
   simpa using e
theorem p3x (l:List ByteArray):(y4i l).length=l.length:=by simp[y4i]
theorem p68 (l:List ByteArray) (p:ByteArray→Bool):(l.filter p).foldl (fun a k=>p17 k a) [] =(q5h l).filter p:=by
 obtain⟨h1,h2⟩:=p26 (l:=l.filter p) (a:= []) List.Pairwise.nil
 obtain⟨k1,k2⟩:=p1f l
 refine Asc.ext h1 (k1.filter p) fun x=> ?_
 rw[h2,List.mem_filter,List.mem_filter,k2]
 simp
end
section
def u0p:Nat:=1099511627776
theorem Q.same {T:Ty} {S:Type} {q:T.den×T.den→Option Bool} {W:List T.den×List T.den×Int→Option (Unit⊕Bool)}
 (hW:∀x,W x=(bif (decide (x.2.2<(x.1.length:Int))) then(bif (y4q x.2.2 x.1.length) then(bif (y4q x.2.2 x.2.1.length) then
  ((q ((rdL T x.1 (x.2.2).toNat),(rdL T x.2.1 (x.2.2).toNat))).bind fun(y1:Bool)=>(bif (!y1) then(some (.inr false)) else(W (x.1,(x.2.1,(IntKind.i64.wrap (x.2.2+(1:Int)))))))) else none) else none) else(some (.inl ()))))
 (l:List T.den) (hl:l.length≤1099511627776) (hq:∀x∈l,q (x,x)=some true):W (l,(l,(0:Int)))=some (.inl ()):=
 r1k W l.length (fun(_:Unit) i=>(l,l,i)) (fun _ _=> .inl ()) (fun _ _=>True)
  (fun a _=>by
   rw[hW]
   simp only[u0b,Nat.lt_irrefl,decide_false,cond_false])
  (fun i a h _=> .inr ⟨(),trivial,rfl,by
   rw[hW]
   simp only[u0b,h,decide_true,cond_true,y7t h,zTn,y8k h,hq _ (List.getElem_mem h),zOb,Bool.not_true,cond_false]
   rw[y7l (by omega)]⟩) 0 () (by omega) trivial
theorem Q.size {T:Ty} {q:T.den×Int→Option Int} {W:List T.den×Int×Int→Option (Int⊕Int)}
 (hW:∀x,W x=(bif (decide (x.2.2<(x.1.length:Int))) then(bif (y4q x.2.2 x.1.length) then((q ((rdL T x.1 (x.2.2).toNat),x.2.1)).bind fun(y1:Int)=>
  (bif (decide (y1<(0:Int))) then(some (.inr (-1:Int))) else(W (x.1,(y1,(IntKind.i64.wrap (x.2.2+(1:Int)))))))) else none) else(some (.inl x.2.1))))
 (l:List T.den) (hl:l.length≤1099511627776) (hq:∀x∈l,∀c:Int,0≤c→c≤1048576→ ∃y,q (x,c)=some y∧if(T.wt x:Int)≤c then y=c - T.wt x else y<0) (b:Int) (hb:0≤b) (hb2:b≤1048576):
 ((W (l,(b,(0:Int)))).bind fun r=>match r with
  | .inl o=>some o
  | .inr z=>some z)=some (szr b (l.map T.wt).sum):=by
 have key:=r1k W l.length (fun(c:Int) i=>(l,c,i)) (fun i c=>if(((l.drop i).map T.wt).sum:Int)≤c then .inl (c - ((l.drop i).map T.wt).sum) else .inr (-1)) (fun _ c=>0≤c∧c≤1048576)
  (fun c hc=>by
   rw[hW]
   simp only[u0b,Nat.lt_irrefl,decide_false,cond_false,List.drop_length,List.map_nil,List.sum_nil]
   rw[if_pos (by simpa using hc.1)]
   simp)
  (fun i c h hc=>by
   have hd:l.drop i=l[i] ::l.drop (i+1):=List.drop_eq_getElem_cons h
   obtain⟨y,hy,hy2⟩:=hq _ (List.getElem_mem h) c hc.1 hc.2
   rw[hW,hd]
   simp only[u0b,h,decide_true,cond_true,y7t h,zTn,y8k h,hy,zOb,List.map_cons,List.sum_cons]
   by_cases hw:(T.wt l[i] :Int)≤c
   ·right
    rw[if_pos hw] at hy2
    subst hy2
    refine⟨c - T.wt l[i],⟨by omega,by omega⟩,?_,?_⟩
    ·by_cases h2:(((l.drop (i+1)).map T.wt).sum:Int)≤c - T.wt l[i]
     ·rw[if_pos h2,if_pos (by omega)];congr 1;omega
     ·rw[if_neg h2,if_neg (by omega)]
    ·have:decide (c - (T.wt l[i] :Int)<0)=false:=by simp;omega
     rw[this,cond_false,y7l (by omega)]
   ·left
    rw[if_neg hw] at hy2
    have:decide (y<0)=true:=by simp;omega
    rw[this,if_neg (by omega)]
    rfl) 0 b (by omega) ⟨hb,hb2⟩
 have key:W (l,b,0)=_:=key
 rw[key]
 simp only[List.drop_zero,zOb]
 unfold szr
 by_cases h:((l.map T.wt).sum:Int)≤b
 ·rw[if_pos h,if_pos h]
 ·rw[if_neg h,if_neg h]
theorem q3t {α:Type} {f:α→Nat} {l:List α} {x:α} (h:x∈l):f x≤(l.map f).sum:=by
 induction l with
 | nil=>cases h
 | cons y l ih=>
  simp only[List.map_cons,List.sum_cons]
  rcases List.mem_cons.mp h with rfl | h
  ·omega
  ·have:=ih h;omega
abbrev u9o:Ty:=(.pair .str .str)
abbrev u12:Ty:=(.pair .str (.pair .str .bool))
abbrev u0c:Ty:=(.pair .str (.pair .str (.pair .bool (.int .i64))))
abbrev o3m:Ty:=(.pair .str .str)
abbrev p4c:Ty:=(.pair (.int .i64) .str)
abbrev o3n:Ty:=(.pair (.sl .str) (.sl p4c))
abbrev u1f:Ty:=(.pair (.int .i64) (.pair (.int .i64) (.pair (.int .i64) (.pair (.int .i64) (.pair (.sl u9o) (.pair (.sl u12) (.pair .bool .str)))))))
abbrev p8j:Ty:=(.pair (.sl u0c) (.pair (.sl u1f) (.pair (.sl u1f) (.pair (.int .i64) (.int .i64)))))
abbrev o00:Ty:=(.pair (.int .i64) (.pair u1f (.pair .str (.pair .bool p8j))))
abbrev o0z:Ty:=(.pair p8j (.sl u1f))
end
section
abbrev u0g:=Int×Int×Int×Int×List (ByteArray×ByteArray)×List (ByteArray×ByteArray×Bool)×Bool×ByteArray
theorem u04 {n:Nat} (h:n≤1099511627776):Nat.ble n z7w=true:=Nat.ble_eq_true_of_le h
def inR (r:ByteArray×ByteArray) (k:ByteArray):Bool:= !y3c k r.1&&(y3c k r.2 || z7o k r.2)
theorem r5r (r:ByteArray×ByteArray) (k:ByteArray):t5t (r,k)=some (inR r k):=by
 rw[q1e];unfold s9p inR;cases y3c k r.1<;>rfl
theorem q6b (r:ByteArray×ByteArray) (k:ByteArray):s0i (r,k)=some (inR r k):=by
 rw[q0z];unfold s9a inR;cases y3c k r.1<;>rfl
def s79 (r:List u9o.den) (w:List u12.den):Bool:=r.any fun x=>w.any fun y=>inR x y.1
def r31 (a b:List u12.den):Bool:=a.any fun x=>b.any fun y=>z7o x.1 y.1
end
section
theorem r8c {X R A:Type} (W:X→Option R) (n:Nat) (mk:A→Int→X) (v:Nat→A) (r:R) (hend:W (mk (v n) (n:Int))=some r)
 (hstep:∀i,i<n→W (mk (v i) (i:Int))=W (mk (v (i+1)) ((i+1:Nat):Int))):W (mk (v 0) 0)=some r:=by
 have:=r1k W n (fun(_:Unit) i=>mk (v i.toNat) i) (fun _ _=>r) (fun _ _=>True) (fun _ _=>by simpa using hend) (fun i a hi _=> .inr ⟨(),trivial,rfl,by
  have h:=hstep i hi
  have e:((i:Int)+1).toNat=i+1:=by omega
  simp only[zTn]
  exact h⟩) 0 () (Nat.zero_le _) trivial
 simpa using this
theorem q95 {α:Type} (p:α→Bool):∀(l a:List α),l.foldl (fun a x=>if p x=true then a++ [x] else a) a=a++l.filter p
 | [],a=>by simp
 | x::l,a=>by
  rw[List.foldl_cons,q95 p l]
  cases hc:p x<;>simp[hc]
abbrev u14:=ByteArray×ByteArray×Bool×Int
def emp:ByteArray:=⟨#[]⟩
def q6p (l:List u14) (k:ByteArray) (snap out:Int) (i:Nat):Int:=
 if z7o (rdL u0c l i).1 k=true∧(rdL u0c l i).2.2.2≤snap∧(out<0∨(rdL u0c l i).2.2.2 >(rdL u0c l out.toNat).2.2.2) then(i:Int) else out
def r3d (l:List u14) (k:ByteArray) (snap:Int):Nat→Int
 | 0=> -1
 | n+1=>q6p l k snap (r3d l k snap n) n
def t3a (l:List u14) (k:ByteArray) (snap:Int):Int:=r3d l k snap l.length
theorem r3e (l:List u14) (k:ByteArray) (snap:Int):∀n,-1≤r3d l k snap n∧r3d l k snap n<(n:Int)
 | 0=>by simp[r3d]
 | n+1=>by
  have:=r3e l k snap n
  simp only[r3d,q6p]
  split<;>omega
theorem q3b (l:List u14) (k:ByteArray) (snap:Int): -1≤t3a l k snap∧t3a l k snap<(l.length:Int):=r3e l k snap l.length
theorem r9y (l:List u14) (k:ByteArray) (snap:Int) (hl:l.length≤1099511627776):t92 (l,k,snap)=some (t3a l k snap):=by
 have L:=r8c t1a l.length (fun a i=>(l,k,snap,a,i)) (fun i=>r3d l k snap i) (.inl (t3a l k snap))
  (by rw[r1g];simp only[t5f,u0b,Nat.lt_irrefl,decide_false,cond_false];rfl)
  (fun i hi=>by
   have hr:=r3e l k snap i
   rw[r1g]
   simp only[t5f,u0b,hi,decide_true,cond_true,y7t hi,zTn,r3d,q6p]
   rw[y7l (by omega)]
   cases h1:z7o (rdL u0c l i).1 k with
   | false=>simp[h1]
   | true=>
    by_cases h2:(rdL u0c l i).2.2.2≤snap
    ·by_cases h3:r3d l k snap i<0
     ·simp[h1,h2,h3]
     ·have hg:y4q (r3d l k snap i) l.length=true:=y7s.mpr ⟨by omega,by omega⟩
      by_cases h4:(rdL u0c l i).2.2.2 >(rdL u0c l (r3d l k snap i).toNat).2.2.2
      ·simp[h1,h2,h3,h4,hg]
      ·simp[h1,h2,h3,h4,hg]
    ·simp[h1,h2])
 have L:t1a (l,k,snap,-1,0)=_:=L
 rw[q69];unfold r6a
 simp only[L,zOb]
theorem q89 (l:List u14) (k:ByteArray) (snap:Int) (hl:l.length≤1099511627776):s3d (l,k,snap)=some (t3a l k snap):=by
 have L:=r8c u9g l.length (fun a i=>(l,k,snap,a,l,(l.length:Int),i)) (fun i=>r3d l k snap i) (.inl (t3a l k snap))
  (by rw[s8c];simp only[t3l,u0b,Nat.lt_irrefl,decide_false,cond_false];rfl)
  (fun i hi=>by
   have hr:=r3e l k snap i
   rw[s8c]
   simp only[t3l,u0b,hi,decide_true,cond_true,y7t hi,zTn,r3d,q6p]
   rw[y7l (by omega)]
   cases h1:z7o (rdL u0c l i).1 k with
   | false=>simp[h1]
   | true=>
    by_cases h2:(rdL u0c l i).2.2.2≤snap
    ·by_cases h3:r3d l k snap i<0
     ·simp[h1,h2,h3]
     ·have hg:y4q (r3d l k snap i) l.length=true:=y7s.mpr ⟨by omega,by omega⟩
      by_cases h4:(rdL u0c l i).2.2.2 >(rdL u0c l (r3d l k snap i).toNat).2.2.2
      ·simp[h1,h2,h3,h4,hg]
      ·simp[h1,h2,h3,h4,hg]
    ·simp[h1,h2])
 have L:u9g (l,k,snap,-1,l,(l.length:Int),0)=_:=L
 rw[q4j];unfold r2j
 simp only[L,zOb]
def p0k (l:List u14) (k:ByteArray) (snap:Int):ByteArray×Bool:=
 if t3a l k snap<0∨(rdL u0c l (t3a l k snap).toNat).2.2.1=true then(emp,false) else((rdL u0c l (t3a l k snap).toNat).2.1,true)
theorem p3v (l:List u14) (k:ByteArray) (snap:Int) (y:Int) (hy:y=t3a l k snap):
 (((bif decide (y<0) then some true else(bif y4q y l.length then some (rdL u0c l y.toNat).2.2.1 else none)):Option Bool).bind fun j2=>(bif j2 then some ((⟨#[]⟩:ByteArray),false) else(bif y4q y l.length then some ((rdL u0c l y.toNat).2.1,true) else none)))=some (p0k l k snap):=by
 subst hy
 have hr:=q3b l k snap
 unfold p0k
 by_cases h:t3a l k snap<0
 ·simp[h,emp]
 ·have hg:y4q (t3a l k snap) l.length=true:=y7s.mpr ⟨by omega,by omega⟩
  cases h2:(rdL u0c l (t3a l k snap).toNat).2.2.1<;>simp[h,hg,h2,emp]
theorem q8v (l:List u14) (k:ByteArray) (snap:Int) (hl:l.length≤1099511627776):s3j (l,k,snap)=some (p0k l k snap):=by
 rw[q4y];unfold r2y
 simp only[r9y l k snap hl,zOb]
 exact p3v l k snap _ rfl
theorem p3b (l:List ByteArray):(q5h l).length≤l.length:=by
 have:=z6h (y4i l)
 rw[p3x] at this
 exact this
theorem q88 (k:ByteArray) (r:ByteArray×ByteArray) (l:List u14) (j:Int) (out:List ByteArray) (ho:out.length≤1099511627775):
 u79 (l,r,out,j,k, [],0)=some (.inl (l,r,out,j,k,out.filter fun x=>y3c x k)):=by
 have L:=s03 u79 out (fun a i=>(l,r,out,j,k,a,i)) (fun x=>y3c x k) (fun x=>x) (fun a=> .inl (l,r,out,j,k,a)) (by omega)
  (fun a _=>by rw[s51];simp only[t2c,u0b,Nat.lt_irrefl,decide_false,cond_false])
  (fun i hi a ha=>by
   rw[s51];simp only[t2c,u0b,hi,decide_true,cond_true,y7t hi,zTn,y8k (t:=Ty.str) hi,List.length_singleton,u04 (show a.length+1≤1099511627776 by omega)]
   rw[y7l (by omega)])
 rw[List.map_id'] at L
 exact L
theorem q7k (k:ByteArray) (r:ByteArray×ByteArray) (l:List u14) (j:Int) (out a0:List ByteArray) (ho:out.length+a0.length≤1099511627775):
 u6k (l,r,out,j,k,a0,0)=some (.inl (l,r,j,a0++out.filter fun x=> !(y3c x k || z7o x k))):=by
 have L:=t4r u6k out (fun a i=>(l,r,out,j,k,a,i)) (fun a x=>if(!(y3c x k || z7o x k))=true then a++ [x] else a) (fun a=> .inl (l,r,j,a)) (fun i a=>a.length≤a0.length+i)
  (fun a _=>by rw[s2u];simp only[t0i,u0b,Nat.lt_irrefl,decide_false,cond_false])
  (fun i hi a ha=>by
   rw[s2u];simp only[t0i,u0b,hi,decide_true,cond_true,y7t hi,zTn,y8k (t:=Ty.str) hi,List.length_singleton,u04 (show a.length+1≤1099511627776 by omega)]
   rw[y7l (by omega)]
   cases hc:(!(y3c out[i] k || z7o out[i] k)) with
   | true=>simp;omega
   | false=>simp;omega) a0 (by simp)
 rw[q95 (fun x=> !(y3c x k || z7o x k))] at L
 exact L
theorem p4y (k:ByteArray) (l:List ByteArray):(p17 k l).length≤l.length+1:=by
 unfold p17
 have h:(fun x=> !(y3c x k || z7o x k))=fun x=>y3c k x:=by funext x;exact q7g
 rw[h]
 have:(l.filter fun x=>y3c x k).length+(l.filter fun x=>y3c k x).length≤l.length:=by
  induction l with
  | nil=>simp
  | cons x l ih=>
   simp only[List.filter_cons]
   cases h1:y3c x k with
   | true=>rw[s3o h1];simp;omega
   | false=>cases h2:y3c k x<;>simp<;>omega
 simp
 omega
theorem p2l (l:List u14) (r:ByteArray×ByteArray) (hl:l.length≤500000000000):s0y (l,r)=some ((q5h (l.map fun v=>v.1)).filter fun k=>inR r k):=by
 have L:=t4r t2l l (fun a i=>(l,r,a,i)) (fun a v=>if inR r v.1=true then p17 v.1 a else a) (fun a=> .inl a) (fun i a=>a.length≤i)
  (fun a _=>by rw[s50];simp only[t2b,u0b,Nat.lt_irrefl,decide_false,cond_false])
  (fun i hi a ha=>by
   rw[s50];simp only[t2b,u0b,hi,decide_true,cond_true,y7t hi,zTn,y8k (t:=u0c) hi,r5r,zOb]
   cases hc:inR r l[i].1 with
   | false=>
    simp only[Bool.not_false,cond_true,Bool.false_eq_true,if_false]
    rw[y7l (by omega)]
    exact⟨by omega,rfl⟩
   | true=>
    have hlow:(a.filter fun x=>y3c x l[i].1).length≤a.length:=List.length_filter_le _ _
    simp only[Bool.not_true,cond_false,if_true,q88 l[i].1 r l (i:Int) a (by omega),zOb,List.length_singleton,u04 (show(a.filter fun x=>y3c x l[i].1).length+1≤1099511627776 by omega),cond_true,
     q7k l[i].1 r l (i:Int) a (a.filter (fun x=>y3c x l[i].1)++ [l[i].1]) (by simp;omega)]
    rw[y7l (by omega)]
    exact⟨Nat.le_trans (p4y _ _) (by omega),rfl⟩) [] (by simp)
 rw[q10];unfold r0c
 simp only[L,zOb]
 have hfold:∀(m:List u14) (a:List ByteArray),m.foldl (fun a v=>if inR r v.1=true then p17 v.1 a else a) a=((m.map fun v=>v.1).filter fun k=>inR r k).foldl (fun a k=>p17 k a) a:=by
  intro m
  induction m with
  | nil=>intro a;rfl
  | cons x m ih=>
   intro a
   rw[List.foldl_cons,ih]
   cases hc:inR r x.1<;>simp[hc]
 rw[hfold,p68]
end
section
theorem s8t {E:Type} (p:E→Bool):∀(l:List E),(l.takeWhile p).length≤l.length∧(∀(i:Nat) (h:i<l.length),i<(l.takeWhile p).length→p l[i] =true)∧
 (∀(h:(l.takeWhile p).length<l.length),p l[(l.takeWhile p).length] =false)∧l.takeWhile p=l.take (l.takeWhile p).length∧l.dropWhile p=l.drop (l.takeWhile p).length
 | [] =>⟨Nat.le_refl _,fun i h=>absurd h (Nat.not_lt_zero i),fun h=>absurd h (Nat.not_lt_zero _),rfl,rfl⟩
 | x::l=>by
  obtain⟨h1,h2,h3,h4,h5⟩:=s8t p l
  cases hp:p x with
  | false=>
   simp only[List.takeWhile_cons,hp,List.dropWhile_cons,Bool.false_eq_true,if_false,List.length_nil]
   exact⟨Nat.zero_le _,fun i _ h=>absurd h (Nat.not_lt_zero i),fun _=>hp,rfl,rfl⟩
  | true=>
   simp only[List.takeWhile_cons,hp,List.dropWhile_cons,if_true,List.length_cons]
   refine⟨by omega,fun i h k=> ?_,fun h=> ?_,?_,?_⟩
   ·cases i with
    | zero=>exact hp
    | succ i=>simpa using h2 i (by simpa using h) (by omega)
   ·simpa using h3 (by omega)
   ·rw[List.take_succ_cons,←h4]
   ·rw[List.drop_succ_cons,←h5]
theorem p8i {X R E:Type} (W:X→Option R) (l:List E) (mk:List E→Int→X) (p:E→Bool) (fin:List E→Int→R)
 (hend:W (mk l (l.length:Int))=some (fin l (l.length:Int)))
 (hstep:∀(i:Nat) (h:i<l.length),W (mk (l.take i) (i:Int))=bif p l[i] then W (mk (l.take (i+1)) ((i+1:Nat):Int)) else some (fin (l.take i) (i:Int))):
 W (mk [] 0)=some (fin (l.takeWhile p) ((l.takeWhile p).length:Int)):=by
 obtain⟨h1,h2,h3,h4,_⟩:=s8t p l
 have:=r1k W (l.takeWhile p).length (fun(a:List E) i=>mk a i) (fun _ _=>fin (l.takeWhile p) ((l.takeWhile p).length:Int)) (fun i a=>a=l.take i)
  (fun a ha=>by
   rw[ha]
   by_cases hk:(l.takeWhile p).length<l.length
   ·rw[hstep _ hk,h3 hk,cond_false,←h4]
   ·have e:(l.takeWhile p).length=l.length:=by omega
    have e2:l.takeWhile p=l:=by rw[h4,e];exact List.take_length
    rw[e2,List.take_length]
    exact hend)
  (fun i a hi ha=> .inr ⟨_,rfl,rfl,by rw[ha,hstep i (by omega),h2 i (by omega) hi,cond_true]⟩) 0 [] (Nat.zero_le _) (by simp)
 exact this
theorem p6z {X R E:Type} (W:X→Option R) (l:List E) (mk:Int→X) (p:E→Bool) (yes:Int→R) (no:R)
 (hend:W (mk (l.length:Int))=some no)
 (hstep:∀(i:Nat) (h:i<l.length),W (mk (i:Int))=bif p l[i] then W (mk ((i+1:Nat):Int)) else some (yes (i:Int))):
 W (mk 0)=some (if(l.takeWhile p).length<l.length then yes ((l.takeWhile p).length:Int) else no):=by
 obtain⟨h1,h2,h3,_,_⟩:=s8t p l
 have:=r1k W (l.takeWhile p).length (fun(_:Unit) i=>mk i) (fun _ _=>if(l.takeWhile p).length<l.length then yes ((l.takeWhile p).length:Int) else no) (fun _ _=>True)
  (fun a _=>by
   by_cases hk:(l.takeWhile p).length<l.length
   ·rw[hstep _ hk,h3 hk,cond_false,if_pos hk]
   ·have e:(l.takeWhile p).length=l.length:=by omega
    rw[if_neg hk,e]
    exact hend)
  (fun i a hi _=> .inr ⟨(),trivial,rfl,by rw[hstep i (by omega),h2 i (by omega) hi,cond_true]⟩) 0 () (Nat.zero_le _) trivial
 exact this
def u54 (v y:u14):Bool:=y3c y.1 v.1 || (z7o y.1 v.1&&decide (y.2.2.2≤v.2.2.2))
def p0c (l:List u14) (v:u14):List u14:=l.takeWhile (u54 v)++ [v] ++l.dropWhile (u54 v)
def t1d (l:List u14) (ws:List u12.den) (cs:Int):List u14:=ws.foldl (fun l w=>p0c l (w.1,w.2.1,w.2.2,cs)) l
theorem q5k (l:List u14) (v:u14):(p0c l v).length=l.length+1:=by
 have:l.length=(l.takeWhile (u54 v)).length+(l.dropWhile (u54 v)).length:=by rw[←List.length_append,List.takeWhile_append_dropWhile]
 simp[p0c]
 omega
theorem r33:∀(ws:List u12.den) (l:List u14) (cs:Int),(t1d l ws cs).length=l.length+ws.length
 | [],l,cs=>rfl
 | w::ws,l,cs=>by
  have:=r33 ws (p0c l (w.1,w.2.1,w.2.2,cs)) cs
  unfold t1d at this ⊢
  rw[List.foldl_cons,this,q5k]
  simp
  omega
theorem p7b (l:List u14) (v:u14):p0c l v=l.take (l.takeWhile (u54 v)).length++ [v] ++l.drop (l.takeWhile (u54 v)).length:=by
 obtain⟨_,_,_,h4,h5⟩:=s8t (u54 v) l
 unfold p0c
 rw[←h4,←h5]
theorem q2n (a b:ByteArray):t06 (a,b)=some (if y3c a b then -1 else if z7o a b then 0 else 1):=by
 have ns:∀x,u86 x=some false:=fun x=>by
  rw[r3j];unfold t9a
  have:z7o x x=true:=by simp[z7o]
  rw[this];rfl
 rw[s8y];unfold t6y
 simp only[ns,zOb,cond_false]
 cases y3c a b<;>cases z7o a b<;>rfl
theorem p2c (a b:Int):t4w (a,b)=some (if a<b then -1 else if a >b then 1 else 0):=by
 have ns:∀x,t33 x=some false:=fun x=>by
  rw[r8n];unfold s6f
  simp
 rw[r4w];unfold s04
 simp only[ns,zOb,cond_false]
 by_cases h:a<b
 ·simp[h]
 ·by_cases h2:a >b<;>simp[h,h2]
theorem p6u (y v:u14):t07 (y,v)=some (!u54 v y):=by
 rw[s8z];unfold t6z
 rw[t57];unfold u9n
 simp only[q2n,zOb]
 unfold u54
 cases h1:y3c y.1 v.1 with
 | true=>simp
 | false=>
  cases h2:z7o y.1 v.1 with
  | false=>simp
  | true=>
   simp only[Bool.false_eq_true,if_false,if_true,decide_true,Bool.not_true,cond_false,p2c,zOb,Bool.false_or,Bool.true_and]
   by_cases h3:y.2.2.2<v.2.2.2
   ·have:y.2.2.2≤v.2.2.2:=by omega
    simp[h3,this]
   ·by_cases h4:y.2.2.2 >v.2.2.2
    ·have: ¬y.2.2.2≤v.2.2.2:=by omega
     simp[h3,h4,this]
    ·have:y.2.2.2≤v.2.2.2:=by omega
     simp[h3,h4,this]
theorem p2k (l:List u14) (v:u14) (hl:l.length≤1099511627775):u1g (l,v)=some (if(l.takeWhile (u54 v)).length<l.length then((l.takeWhile (u54 v)).length:Int) else -1):=by
 have L:=p6z u0u l (fun i=>(l,v,(l.length:Int),i)) (u54 v) (fun i=> .inr i) (.inl ())
  (by rw[u10];simp only[u0t,u0b,Nat.lt_irrefl,decide_false,cond_false])
  (fun i hi=>by
   rw[u10]
   simp only[u0t,u0b,hi,decide_true,cond_true,y7t hi,zTn,y8k (t:=u0c) hi,p6u,zOb]
   rw[y7l (by omega)]
   cases u54 v l[i] <;>rfl)
 rw[u47];unfold u15
 simp only[L,zOb]
 by_cases h:(l.takeWhile (u54 v)).length<l.length
 ·simp only[if_pos h]
 ·simp only[if_neg h]
theorem q2p (l:List u14) (v:u14) (k:Nat) (hk:k≤l.length) (hl:l.length≤1099511627775):u2t (l,(k:Int), [v])=some (l.take k++ [v] ++l.drop k):=by
 rw[t7d]
 unfold y2q
 have h1:decide ((0:Int)≤(k:Int))=true:=by simp
 have h2:decide ((k:Int)≤(l.length:Int))=true:=by simpa using hk
 simp only[h1,h2,u04 (show l.length+1≤1099511627776 by omega),Bool.true_and,List.length_singleton,zTn]
 rfl
theorem r6u (l:List u14) (ws:List u12.den) (cs:Int) (hl:l.length+ws.length≤1000000000000):u87 (l,ws,cs)=some (t1d l ws cs):=by
 have L:=t4r u6a ws (fun a i=>(cs,a,ws,(ws.length:Int),i)) (fun l w=>p0c l (w.1,w.2.1,w.2.2,cs)) (fun a=> .inl a) (fun i a=>a.length=l.length+i)
  (fun a _=>by rw[t66];simp only[u56,u0b,Nat.lt_irrefl,decide_false,cond_false])
  (fun i hi a ha=>by
   have hal:a.length≤1099511627775:=by omega
   rw[t66]
   simp only[u56,u0b,hi,decide_true,cond_true,y7t hi,zTn,y8k (t:=u12) hi,p2k a _ hal,zOb]
   refine⟨by rw[q5k];omega,?_⟩
   obtain⟨t1,_⟩:=s8t (u54 (ws[i].1,ws[i].2.1,ws[i].2.2,cs)) a
   rw[p7b,y7l (by omega)]
   by_cases hk:(a.takeWhile (u54 (ws[i].1,ws[i].2.1,ws[i].2.2,cs))).length<a.length
   ·rw[if_pos hk]
    have:decide (((a.takeWhile (u54 (ws[i].1,ws[i].2.1,ws[i].2.2,cs))).length:Int)<0)=false:=by simp
    simp only[this,cond_false,q2p a _ _ t1 hal,zOb]
   ·rw[if_neg hk]
    have e:(a.takeWhile (u54 (ws[i].1,ws[i].2.1,ws[i].2.2,cs))).length=a.length:=by omega
    have:decide ((-1:Int)<0)=true:=by decide
    simp only[this,cond_true,q2p a _ _ (Nat.le_refl _) hal,zOb]
    rw[e]) l (by simp)
 rw[r3k];unfold t9b
 simp only[u04 (show l.length≤1099511627776 by omega),cond_true,L,zOb]
 rfl
theorem p4l (ws:List u12.den) (cs:Int) (l:List u14) (j:Int) (v:u14) (hl:l.length≤1000000000000):
 u4j (ws,cs,l,j,v, [],0)=some (.inl (ws,cs,l,j,v,l.takeWhile (u54 v),((l.takeWhile (u54 v)).length:Int))):=
 p8i u4j l (fun a i=>(ws,cs,l,j,v,a,i)) (u54 v) (fun a i=> .inl (ws,cs,l,j,v,a,i))
  (by rw[t68];simp only[u58,u0b,Nat.lt_irrefl,decide_false,cond_false,zOb])
  (fun i hi=>by
   rw[t68]
   have hb:((l.take i).length+ [l[i]].length)≤1099511627776:=by simp;omega
   simp only[u58,u0b,hi,decide_true,cond_true,y7t hi,zTn,y8k (t:=u0c) hi,u04 hb]
   rw[y7l (by omega),List.take_succ_eq_append_getElem hi]
   unfold u54
   cases h1:y3c l[i].1 v.1 with
   | true=>simp
   | false=>
    cases h2:z7o l[i].1 v.1 with
    | false=>simp
    | true=>
     by_cases h3:l[i].2.2.2≤v.2.2.2<;>simp[h3])
theorem s3q (l:List u14) (ws:List u12.den) (cs:Int) (hl:l.length+ws.length≤1000000000000):u5w (l,ws,cs)=some (t1d l ws cs):=by
 have L:=t4r u6b ws (fun a i=>(ws,cs,a,i)) (fun l w=>p0c l (w.1,w.2.1,w.2.2,cs)) (fun a=> .inl a) (fun i a=>a.length=l.length+i)
  (fun a _=>by rw[t67];simp only[u57,u0b,Nat.lt_irrefl,decide_false,cond_false])
  (fun i hi a ha=>by
   have hal:a.length≤1000000000000:=by omega
   rw[t67]
   simp only[u57,u0b,hi,decide_true,cond_true,y7t hi,zTn,y8k (t:=u12) hi,p4l ws cs a _ _ hal,zOb]
   obtain⟨v,hv⟩:∃v:u14,v=(ws[i].1,ws[i].2.1,ws[i].2.2,cs):=⟨_,rfl⟩
   rw[←hv]
   obtain⟨t1,_,_,t4,t5⟩:=s8t (u54 v) a
   refine⟨by rw[q5k];omega,?_⟩
   have g1:decide ((0:Int)≤((a.takeWhile (u54 v)).length:Int))=true:=by simp
   have g2:decide (((a.takeWhile (u54 v)).length:Int)≤(a.length:Int))=true:=by simpa using t1
   have g3:decide ((a.length:Int)≤(a.length:Int))=true:=by simp
   have b1:(a.takeWhile (u54 v)).length+ [v].length≤1099511627776:=by simp;omega
   have b2:(a.takeWhile (u54 v)++ [v]).length+(a.drop (a.takeWhile (u54 v)).length).length≤1099511627776:=by simp;omega
   simp only[g1,g2,g3,Bool.true_and,u04 b1,cond_true,List.take_length,u04 b2]
   rw[y7l (by omega),←t5]
   rfl) l (by simp)
 rw[r3n];unfold t9c
 simp only[List.length_nil,Nat.zero_add,List.nil_append,u04 (show l.length≤1099511627776 by omega),cond_true,L,zOb]
 rfl
end
section
abbrev PrT:=ByteArray×ByteArray
end
section
theorem q6j (r:List u9o.den) (w:List u12.den) (hr:r.length≤u0p) (hw:w.length≤u0p):s0t (r,w)=some (s79 r w):=by
 unfold u0p at hr hw
 have inner:∀(i:Nat) (hi:i<r.length),u75 (r,w,(i:Int),0)=some (bif w.any (fun y=>inR r[i] y.1) then .inr true else .inl (r,w,(i:Int))):=fun i hi=>
  s02 u75 w (fun j=>(r,w,(i:Int),j)) (fun y=>inR r[i] y.1) _ _ (by
   rw[s5x];simp only[t18,u0b,Nat.lt_irrefl,decide_false,cond_false]) (fun j hj=>by
   rw[s5x];simp only[t18,u0b,hj,decide_true,cond_true,y7t hi,y7t hj,zTn,y8k hi,y8k hj,r5r,zOb]
   rw[y7l (by omega)])
 have outer:=s02 t2k r (fun i=>(r,w,i)) (fun x=>w.any fun y=>inR x y.1) (.inr true) (.inl ()) (by
  rw[s5w];simp only[t17,u0b,Nat.lt_irrefl,decide_false,cond_false]) (fun i hi=>by
  rw[s5w];simp only[t17,u0b,hi,decide_true,cond_true,inner i hi,zOb]
  have ws:=y7l (i:=i) (by omega)
  cases w.any fun y=>inR r[i] y.1<;>simp only[cond_true,cond_false,ws])
 rw[q1o];unfold s9z
 simp only[outer,zOb]
 unfold s79
 cases r.any fun x=>w.any fun y=>inR x y.1<;>rfl
theorem p0y (r w:List u12.den) (hr:r.length≤u0p) (hw:w.length≤u0p):t90 (r,w)=some (r31 r w):=by
 unfold u0p at hr hw
 have inner:∀(i:Nat) (hi:i<r.length),t09 (r,w,(i:Int),0)=some (bif w.any (fun y=>z7o r[i].1 y.1) then .inr true else .inl (r,w,(i:Int))):=fun i hi=>
  s02 t09 w (fun j=>(r,w,(i:Int),j)) (fun y=>z7o r[i].1 y.1) _ _ (by
   rw[r1d];simp only[t5c,u0b,Nat.lt_irrefl,decide_false,cond_false]) (fun j hj=>by
   rw[r1d];simp only[t5c,u0b,hj,decide_true,cond_true,y7t hi,y7t hj,zTn,y8k hi,y8k hj,zOb]
   rw[y7l (by omega)])
 have outer:=s02 t5j r (fun i=>(r,w,i)) (fun x=>w.any fun y=>z7o x.1 y.1) (.inr true) (.inl ()) (by
  rw[r1c];simp only[t5b,u0b,Nat.lt_irrefl,decide_false,cond_false]) (fun i hi=>by
  rw[r1c];simp only[t5b,u0b,hi,decide_true,cond_true,inner i hi,zOb]
  have ws:=y7l (i:=i) (by omega)
  cases w.any fun y=>z7o r[i].1 y.1<;>simp only[cond_true,cond_false,ws])
 rw[q65];unfold r56
 simp only[outer,zOb]
 unfold r31
 cases r.any fun x=>w.any fun y=>z7o x.1 y.1<;>rfl
theorem q6i (r:List u9o.den) (w:List u12.den) (hr:r.length≤u0p) (hw:w.length≤u0p):s0k (r,w)=some (s79 r w):=by
 unfold u0p at hr hw
 have inner:∀(i:Nat) (hi:i<r.length),u7u (w,r[i],r,(r.length:Int),(i:Int),w,(w.length:Int),0)=some (bif w.any (fun y=>inR r[i] y.1) then .inr true else .inl (w,r,(r.length:Int),(i:Int))):=fun i hi=>
  s02 u7u w (fun j=>(w,r[i],r,(r.length:Int),(i:Int),w,(w.length:Int),j)) (fun y=>inR r[i] y.1) _ _ (by
   rw[s5f];simp only[t1r,u0b,Nat.lt_irrefl,decide_false,cond_false]) (fun j hj=>by
   rw[s5f];simp only[t1r,u0b,hj,decide_true,cond_true,y7t hi,y7t hj,zTn,y8k hi,y8k hj,q6b,zOb]
   rw[y7l (by omega)])
 have outer:=s02 t2f r (fun i=>(w,r,(r.length:Int),i)) (fun x=>w.any fun y=>inR x y.1) (.inr true) (.inl ()) (by
  rw[s5e];simp only[t1q,u0b,Nat.lt_irrefl,decide_false,cond_false]) (fun i hi=>by
  rw[s5e];simp only[t1q,u0b,hi,decide_true,cond_true,y7t hi,zTn,y8k hi,inner i hi,zOb]
  have ws:=y7l (i:=i) (by omega)
  cases w.any fun y=>inR r[i] y.1<;>simp only[cond_true,cond_false,ws])
 rw[q04];unfold s9f
 simp only[outer,zOb]
 unfold s79
 cases r.any fun x=>w.any fun y=>inR x y.1<;>rfl
def r6c (a b:u1f.den):Bool:=
 decide (a.2.1=3)&&decide (b.2.1=3)&& !decide (a.1=b.1)&&
 (decide (a.2.2.2.1≤b.2.2.1)&&s79 b.2.2.2.2.1 a.2.2.2.2.2.1 || decide (a.2.2.2.1<b.2.2.2.1)&&r31 a.2.2.2.2.2.1 b.2.2.2.2.2.1 || decide (b.2.2.2.1 >a.2.2.1)&&s79 a.2.2.2.2.1 b.2.2.2.2.2.1)
theorem r9u (a:u1f.den):t37 a=some (decide (a.2.1=3)):=by
 rw[r3m];rfl
end
section
def o3q (l:List u1f.den) (j i:Nat):Bool:=r6c (rdL u1f l j) (rdL u1f l i)
def p81 (l:List u1f.den) (t:List Nat) (i:Nat):Bool:= !t.contains i&& !(List.range l.length).any (fun j=> !decide (j=i)&&(!t.contains j&&o3q l j i))
def p5c (l:List u1f.den) (t:List Nat):Option Nat:=(List.range l.length).find? (p81 l t)
def p82 (l:List u1f.den):Nat→List Nat→Option (List Nat)
 | 0,t=>some t
 | k+1,t=>match p5c l t with
  | none=>none
  | some i=>p82 l k (t++ [i])
def o09 (l:List u1f.den):Option (List Nat):=p82 l l.length []
section
variable {l:List u1f.den} (hw:∀x∈l,u1f.wt x≤u0p) (hl:l.length≤1048576)
include hw hl
end
end
section
def o1d (l:List u1f.den):Nat:=(l.map fun t=>t.2.2.2.2.2.1.length).sum
section
variable {l:List u1f.den} (hw:∀x∈l,u1f.wt x≤u0p) (hl:l.length+o1d l≤1048576) (hr:∀x∈l,x.2.2.2.2.1.length≤1048576)
include hl
include hr
include hw
end
end
section
abbrev Src:=List Int×Int×Int
def Src.ok (s:Src):Prop:=s.1.length≤1048576∧0≤s.2.1∧s.2.1≤(s.1.length:Int)
def Dr {T:Type} (F:Option (T×Src)) (p:T→Prop):Prop:= ∃y s,F=some (y,s)∧s.ok∧p y
theorem q92 (v:BitVec IntKind.i64.bits):0≤IntKind.i64.wrap ((v&&&BitVec.ofInt IntKind.i64.bits 255).toNat:Int)∧IntKind.i64.wrap ((v&&&BitVec.ofInt IntKind.i64.bits 255).toNat:Int)<256:=by
 have h:(v&&&BitVec.ofInt IntKind.i64.bits 255).toNat≤255:=by
  rw[BitVec.toNat_and]
  exact Nat.le_trans Nat.and_le_right (by decide)
 rw[y4y (by omega) (by omega)]
 omega
theorem r7z {s:Src} (h:s.ok):Dr (u51 s) (fun y=>0≤y∧y<256):=by
 obtain⟨l,p,z⟩:=s
 obtain⟨h1,h2,h3⟩:=h
 simp only at h1 h2 h3
 rw[q1s];unfold s93
 simp only
 by_cases hp:p<(l.length:Int)
 ·have hg:y4q p l.length=true:=by simp[y4q,h2,hp]
  simp only[hp,decide_true,cond_true,hg]
  exact⟨_,_,rfl,⟨h1,by simp only;rw[y4y (by omega) (by omega)];omega,by simp only;rw[y4y (by omega) (by omega)];omega⟩,q92 _⟩
 ·simp only[hp,decide_false,cond_false]
  exact⟨_,_,rfl,⟨h1,h2,h3⟩,q92 _⟩
theorem s8s {a n:Int} (ha:0≤a) (hn:0<n):0≤Int.tmod a n∧Int.tmod a n<n:=⟨Int.tmod_nonneg _ ha,Int.tmod_lt_of_pos _ hn⟩
theorem u2f {s:Src} (h:s.ok) {n:Int} (hn:0<n):Dr (u0j (s,n)) (fun y=>0≤y∧y<n):=by
 rw[r9f];unfold s67
 have h0:decide (n≤0)=false:=by simp;omega
 have h0' :(!decide (n=0))=true:=by simp;omega
 simp only[h0,cond_false,h0',cond_true]
 by_cases h1:n≤256
 ·simp only[h1,decide_true,cond_true]
  obtain⟨y,s1,e1,k1,r1⟩:=r7z h
  simp only[e1,zOb]
  exact⟨_,_,rfl,k1,s8s r1.1 hn⟩
 ·simp only[h1,decide_false,cond_false]
  obtain⟨y1,s1,e1,k1,r1⟩:=r7z h
  obtain⟨y2,s2,e2,k2,r2⟩:=r7z k1
  obtain⟨y3,s3,e3,k3,r3⟩:=r7z k2
  obtain⟨y4,s4,e4,k4,r4⟩:=r7z k3
  simp only[e1,e2,e3,e4,zOb]
  refine⟨_,_,rfl,k4,s8s ?_ hn⟩
  rw[y4y (n:=y1*16777216) (by omega) (by omega),y4y (n:=y2*65536) (by omega) (by omega),y4y (n:=y3*256) (by omega) (by omega),y4y (n:=y1*16777216+y2*65536) (by omega) (by omega),
   y4y (n:=y1*16777216+y2*65536+y3*256) (by omega) (by omega),y4y (n:=y1*16777216+y2*65536+y3*256+y4) (by omega) (by omega)]
  omega
theorem s2y {s:Src} (h:s.ok) {n:Int} (hn:0<n):Dr (u1l (s,n)) (fun _=>True):=by
 rw[q1t];unfold s94
 obtain⟨y,s1,e1,k1,r1⟩:=u2f h hn
 simp only[e1,zOb]
 exact⟨_,_,rfl,k1,trivial⟩
theorem s6a {s:Src} (h:s.ok) {l:List ByteArray} (hl:0<l.length):Dr (u1m (s,l)) (fun y=>y∈l):=by
 rw[q1u];unfold s95
 obtain⟨y,s1,e1,k1,r1⟩:=u2f h (n:=(l.length:Int)) (by omega)
 obtain⟨i,rfl⟩:∃i:Nat,y=(i:Int):=⟨y.toNat,by omega⟩
 have hi:i<l.length:=by omega
 simp only[e1,zOb,y7t hi,cond_true,zTn]
 exact⟨_,_,rfl,k1,by show rdL Ty.str l i∈l;have h:rdL Ty.str l i=l[i] :=y8k (t:=Ty.str) (l:=l) hi;rw[h];exact List.getElem_mem hi⟩
theorem p6a {l:List Int} (hl:l.length≤1048576):∃s:Src,t4f l=some s∧s.ok:=by
 have key:∀(d i:Nat) (z:Int),i≤l.length→l.length - i≤d→ ∃z',u9l (l,z,(i:Int))=some (.inl (l,z')):=by
  intro d
  induction d with
  | zero=>
   intro i z hi hd
   have:i=l.length:=by omega
   subst this
   rw[t82]
   simp only[u9e,u0b,Nat.lt_irrefl,decide_false,cond_false,zOb]
   exact⟨_,rfl⟩
  | succ d ih=>
   intro i z hi hd
   by_cases h:i<l.length
   ·rw[t82]
    simp only[u9e,u0b,h,decide_true,cond_true,zOb,y7t h]
    rw[y7l (by omega)]
    cases decide ((i:Int)<4000) with
    | false=>exact⟨_,rfl⟩
    | true=>exact ih (i+1) _ (by omega) (by omega)
   ·have:i=l.length:=by omega
    subst this
    rw[t82]
    simp only[u9e,u0b,Nat.lt_irrefl,decide_false,cond_false,zOb]
    exact⟨_,rfl⟩
 obtain⟨z',hz⟩:=key l.length 0 (IntKind.i64.wrap (77601+(l.length:Int))) (Nat.zero_le _) (by omega)
 rw[q40];unfold r20
 have hz' :u9l (l,IntKind.i64.wrap (77601+(l.length:Int)),0)=_:=hz
 simp only[hz',zOb]
 exact⟨_,rfl,hl,Int.le_refl _,by simp only;omega⟩
theorem q9t {s:Src} (h:s.ok):Dr (u3e s) (fun y=>y.size≤2):=by
 rw[r3r];unfold s25
 obtain⟨y,s1,e1,k1,r1⟩:=s6a h (l:= [(⟨#[97]⟩:ByteArray),(⟨#[98]⟩:ByteArray),(⟨#[99]⟩:ByteArray),(⟨#[100]⟩:ByteArray),(⟨#[97,98]⟩:ByteArray)]) (by decide)
 simp only[e1,zOb]
 refine⟨_,_,rfl,k1,?_⟩
 simp only[List.mem_cons,List.not_mem_nil,or_false] at r1
 rcases r1 with rfl | rfl | rfl | rfl | rfl<;>decide
theorem p4m {s:Src} (h:s.ok):Dr (u39 s) (fun y=>y.1.size≤2∧y.2.size≤2):=by
 rw[s7g];unfold t7u
 obtain⟨y1,s1,e1,k1,r1⟩:=q9t h
 obtain⟨y2,s2,e2,k2,r2⟩:=s2y k1 (n:=2) (by omega)
 obtain⟨y3,s3,e3,k3,r3⟩:=q9t k2
 simp only[e1,e2,e3,zOb]
 cases y2 with
 | true=>exact⟨_,_,rfl,k2,r1,r1⟩
 | false=>
  simp only[cond_false]
  cases y3c y3 y1 with
  | true=>exact⟨_,_,rfl,k3,r3,r1⟩
  | false=>exact⟨_,_,rfl,k3,r1,r3⟩
theorem p2p {s:Src} (h:s.ok):Dr (t6t s) (fun y=>y.length≤3∧ ∀r∈y,r.1.size≤2∧r.2.size≤2):=by
 have key:∀(d i:Nat) (s:Src) (a:List u9o.den),s.ok→a.length=i→4≤i+d→i≤3→(∀r∈a,r.1.size≤2∧r.2.size≤2)→
  ∃(s' :Src) (a' :List u9o.den),u5s (s,a,(i:Int))=some (.inl (s',a'))∧s'.ok∧a'.length≤3∧ ∀r∈a',r.1.size≤2∧r.2.size≤2:=by
  intro d
  induction d with
  | zero=>intro i s a _ _ h1 h2;omega
  | succ d ih=>
   intro i s a hs ha hd hi hr
   obtain⟨y,s1,e1,k1,r1⟩:=u2f hs (n:=4) (by omega)
   rw[r4i]
   simp only[t3r,e1,zOb]
   by_cases hy:(i:Int)<y
   ·obtain⟨y2,s2,e2,k2,r2⟩:=p4m k1
    have hc:Nat.ble (a.length+([y2] :List u9o.den).length) z7w=true:=by
     rw[Nat.ble_eq,ha];simp only[List.length_cons,List.length_nil,z7w];omega
    simp only[hy,decide_true,cond_true,e2,zOb]
    rw[hc,y7l (by omega)]
    exact ih (i+1) s2 (a++ [y2]) k2 (by simp[ha]) (by omega) (by omega) (fun r hm=>by
     rcases List.mem_append.mp hm with q | q
     ·exact hr r q
     ·simp only[List.mem_cons,List.not_mem_nil,or_false] at q;subst q;exact r2)
   ·simp only[hy,decide_false,cond_false]
    exact⟨_,_,rfl,k1,by omega,hr⟩
 obtain⟨s',a',e1,k1,r1,r2⟩:=key 4 0 s [] h rfl (by omega) (by omega) (fun r hr=>by cases hr)
 rw[r7h];unfold s36
 have e1:u5s (s, [],0)=_:=e1
 simp only[e1,zOb]
 exact⟨_,_,rfl,k1,r1,r2⟩
theorem q9z {s:Src} (h:s.ok):Dr (u3f s) (fun y=>y.1.size≤2∧y.2.1.size≤3):=by
 rw[s7h];unfold t7v
 obtain⟨y1,s1,e1,k1,r1⟩:=q9t h
 obtain⟨y2,s2,e2,k2,r2⟩:=s6a k1 (l:= [(⟨#[111,110,101]⟩:ByteArray),(⟨#[116,119,111]⟩:ByteArray),(⟨#[]⟩:ByteArray),(⟨#[120,0]⟩:ByteArray)]) (by decide)
 obtain⟨y3,s3,e3,k3,r3⟩:=s2y k2 (n:=5) (by omega)
 simp only[e1,e2,e3,zOb]
 have hz:y2.size≤3:=by
  simp only[List.mem_cons,List.not_mem_nil,or_false] at r2
  rcases r2 with rfl | rfl | rfl | rfl<;>decide
 cases y3 with
 | true=>exact⟨_,_,rfl,k3,r1,by show ByteArray.size ⟨#[]⟩≤3;decide⟩
 | false=>exact⟨_,_,rfl,k3,r1,hz⟩
def q0r (l:List u12.den) (w:u12.den):List u12.den:=l.filter (fun x=>y3c x.1 w.1)++ [w] ++l.filter (fun x=> !(y3c x.1 w.1 || z7o x.1 w.1))
theorem s20 (l:List u12.den) (w:u12.den) (hl:l.length≤1048576):t4a (l,w)=some (q0r l w):=by
 have L1:=s03 t0p l (fun a i=>(l,w,a,i)) (fun x=>y3c x.1 w.1) (fun x=>x) (fun a=> .inl (l,w,a)) (by omega) (fun a ha=>by
  rw[s2l];simp only[u99,u0b,Nat.lt_irrefl,decide_false,cond_false]) (fun i hi a ha=>by
  have hc:Nat.ble (a.length+([l[i]] :List u12.den).length) z7w=true:=by
   rw[Nat.ble_eq];simp only[List.length_cons,List.length_nil,z7w];omega
  rw[s2l];simp only[u99,u0b,hi,decide_true,cond_true,y7t hi,zTn,y8k hi]
  rw[y7l (by omega),hc]
  rfl)
 simp only[List.map_id'] at L1
 have L2:=t4r t0q l (fun a i=>(l,w,a,i)) (fun(a:List u12.den) x=>if y3c x.1 w.1 || z7o x.1 w.1 then a else a++ [x]) (fun a=> .inl a) (fun i a=>a.length≤1048577+i) (fun a ha=>by
  rw[s2m];simp only[t0a,u0b,Nat.lt_irrefl,decide_false,cond_false]) (fun i hi a ha=>by
  have hc:Nat.ble (a.length+([l[i]] :List u12.den).length) z7w=true:=by
   rw[Nat.ble_eq];simp only[List.length_cons,List.length_nil,z7w];omega
  rw[s2m];simp only[t0a,u0b,hi,decide_true,cond_true,y7t hi,zTn,y8k hi]
  rw[y7l (by omega),hc]
  cases hq:y3c l[i].1 w.1 || z7o l[i].1 w.1 with
  | true=>simp only[Bool.not_true,cond_false,if_true];refine⟨by omega,?_⟩;trivial
  | false=>simp only[Bool.not_false,cond_true,Bool.false_eq_true,if_false];refine⟨by simp;omega,?_⟩;trivial)
 have key:∀(l:List u12.den) (a:List u12.den),l.foldl (fun(a:List u12.den) x=>if y3c x.1 w.1 || z7o x.1 w.1 then a else a++ [x]) a=a++l.filter (fun x=> !(y3c x.1 w.1 || z7o x.1 w.1)):=by
  intro l
  induction l with
  | nil=>intro a;simp
  | cons x l ih=>
   intro a
   simp only[List.foldl_cons,ih,List.filter_cons]
   cases hq:y3c x.1 w.1 || z7o x.1 w.1<;>simp
 have hlen:(l.filter (fun x=>y3c x.1 w.1)).length≤l.length:=List.length_filter_le _ _
 have L2' :=L2 (l.filter (fun x=>y3c x.1 w.1)++ [w]) (by simp;omega)
 rw[key] at L2'
 have hc:Nat.ble ((l.filter (fun x=>y3c x.1 w.1)).length+([w] :List u12.den).length) z7w=true:=by
  rw[Nat.ble_eq];simp only[List.length_cons,List.length_nil,z7w];omega
 rw[r86];unfold s6x
 simp only[L1,zOb]
 rw[hc]
 simp only[cond_true,L2',zOb]
 rfl
theorem r34 {l:List u12.den} {w x:u12.den} (h:x∈q0r l w):x∈l∨x=w:=by
 unfold q0r at h
 simp only[List.append_assoc,List.mem_append,List.mem_filter,List.mem_cons,List.not_mem_nil,or_false] at h
 rcases h with h | h | h
 ·exact .inl h.1
 ·exact .inr h
 ·exact .inl h.1
theorem q5l (l:List u12.den) (w:u12.den):(q0r l w).length≤l.length+1:=by
 have:∀l:List u12.den,(l.filter (fun x=>y3c x.1 w.1)).length+(l.filter (fun x=> !(y3c x.1 w.1 || z7o x.1 w.1))).length≤l.length:=by
  intro l
  induction l with
  | nil=>simp
  | cons x l ih=>
   simp only[List.filter_cons]
   cases y3c x.1 w.1<;>cases z7o x.1 w.1<;>simp only[Bool.or_true,Bool.or_false,Bool.not_true,Bool.not_false,if_true,if_false,Bool.false_eq_true,List.length_cons] <;>omega
 unfold q0r
 have:=this l
 simp only[List.length_append,List.length_cons,List.length_nil]
 omega
def KD (l:List u12.den):Prop:=l.Pairwise fun a b=>a.1≠b.1
theorem p7c {l:List u12.den} {w:u12.den} (h:KD l):KD (q0r l w):=by
 unfold KD q0r at*
 rw[List.append_assoc,List.pairwise_append]
 refine⟨h.filter _,?_,fun a ha b hb e=> ?_⟩
 ·rw[List.singleton_append,List.pairwise_cons]
  refine⟨fun b hb e=> ?_,h.filter _⟩
  have:=(List.mem_filter.mp hb).2
  simp[z7o,e] at this
 ·have h1:=(List.mem_filter.mp ha).2
  rw[List.singleton_append,List.mem_cons] at hb
  rcases hb with rfl | hb
  ·rw[e,u52] at h1;cases h1
  ·have h2:=(List.mem_filter.mp hb).2
   rw[←e,h1] at h2
   cases h2
theorem p2u {s:Src} (h:s.ok):Dr (u5i s) (fun y=>y.length≤3∧(∀r∈y,r.1.size≤2∧r.2.1.size≤3)∧KD y):=by
 have key:∀(d i:Nat) (s:Src) (a:List u12.den),s.ok→a.length≤i→4≤i+d→i≤3→(∀r∈a,r.1.size≤2∧r.2.1.size≤3)→KD a→
  ∃(s' :Src) (a' :List u12.den),u26 (s,a,(i:Int))=some (.inl (s',a'))∧s'.ok∧a'.length≤3∧(∀r∈a',r.1.size≤2∧r.2.1.size≤3)∧KD a' :=by
  intro d
  induction d with
  | zero=>intro i s a _ _ h1 h2;omega
  | succ d ih=>
   intro i s a hs ha hd hi hr hk
   obtain⟨y,s1,e1,k1,r1⟩:=u2f hs (n:=4) (by omega)
   rw[s0e]
   simp only[u81,e1,zOb]
   by_cases hy:(i:Int)<y
   ·obtain⟨y2,s2,e2,k2,r2⟩:=q9z k1
    simp only[hy,decide_true,cond_true,e2,zOb,s20 a y2 (by omega)]
    rw[y7l (by omega)]
    exact ih (i+1) s2 (q0r a y2) k2 (by have:=q5l a y2;omega) (by omega) (by omega) (fun r hm=>by
     rcases r34 hm with q | q
     ·exact hr r q
     ·subst q;exact r2) (p7c hk)
   ·simp only[hy,decide_false,cond_false]
    exact⟨_,_,rfl,k1,by omega,hr,hk⟩
 obtain⟨s',a',e1,k1,r1,r2⟩:=key 4 0 s [] h (by simp) (by omega) (by omega) (fun r hr=>by cases hr) List.Pairwise.nil
 rw[s4c];unfold t6k
 have e1:u26 (s, [],0)=_:=e1
 simp only[e1,zOb]
 exact⟨_,_,rfl,k1,r1,r2⟩
def smallTx (t:u1f.den):Prop:=t.2.2.2.2.1.length≤3∧(∀r∈t.2.2.2.2.1,r.1.size≤2∧r.2.size≤2)∧t.2.2.2.2.2.1.length≤3∧(∀r∈t.2.2.2.2.2.1,r.1.size≤2∧r.2.1.size≤3)∧t.2.2.2.2.2.2.2.size≤16
theorem p0m {α:Type} {l:List α} {f:α→Nat} {k:Nat} (h:∀x∈l,f x≤k):(l.map f).sum≤l.length*k:=by
 induction l with
 | nil=>simp
 | cons x l ih=>
  have h1:=h x (List.mem_cons_self ..)
  have h2:=ih (fun y hy=>h y (List.mem_cons_of_mem _ hy))
  simp only[List.map_cons,List.sum_cons,List.length_cons,Nat.succ_mul]
  omega
theorem smallTx.wt {t:u1f.den} (h:smallTx t):u1f.wt t≤u0p:=by
 obtain⟨h1,h2,h3,h4,h5⟩:=h
 have a1:=p0m (l:=t.2.2.2.2.1) (f:=(Ty.pair .str .str).wt) (k:=4) (fun x hx=>by have:=h2 x hx;simp only[Ty.wt];omega)
 have a2:=p0m (l:=t.2.2.2.2.2.1) (f:=(Ty.pair .str (.pair .str .bool)).wt) (k:=5) (fun x hx=>by have:=h4 x hx;simp only[Ty.wt];omega)
 have hw:u1f.wt t=0+(0+(0+(0+((t.2.2.2.2.1.length+(t.2.2.2.2.1.map (Ty.pair .str .str).wt).sum)+((t.2.2.2.2.2.1.length+(t.2.2.2.2.2.1.map (Ty.pair .str (.pair .str .bool)).wt).sum)+(0+t.2.2.2.2.2.2.2.size)))))):=rfl
 rw[hw]
 unfold u0p
 omega
def tId (t:u1f.den):Int:=t.1
def tSt (t:u1f.den):Int:=t.2.1
def o1c (t:u1f.den):Int:=t.2.2.1
def tCs (t:u1f.den):Int:=t.2.2.2.1
def p8n (t:u1f.den):Prop:=tSt t=3∧o1c t<tCs t∧KD t.2.2.2.2.2.1
def p8u (l:List u1f.den):Prop:=(∀t∈l,p8n t)∧l.Pairwise fun a b=>tId a≠tId b∧tCs a<tCs b
end
section
def PAsc (m:List PrT):Prop:=m.Pairwise fun a b=>y3c a.1 b.1=true
theorem PAsc.ext:∀ {l m:List PrT},PAsc l→PAsc m→(∀x,x∈l↔x∈m)→l=m
 | [], [],_,_,_=>rfl
 | [],y::m,_,_,h=>by have:=(h y).mpr (by simp);simp at this
 | x::l, [],_,_,h=>by have:=(h x).mp (by simp);simp at this
 | x::l,y::m,hl,hm,h=>by
  have hl' :=List.pairwise_cons.mp hl
  have hm' :=List.pairwise_cons.mp hm
  have hxy:x=y:=by
   rcases List.mem_cons.mp ((h x).mp (by simp)) with e | e
   ·exact e
   ·rcases List.mem_cons.mp ((h y).mpr (by simp)) with e' | e'
    ·exact e'.symm
    ·have:=r08 (hm'.1 x e) (hl'.1 y e')
     rw[u52] at this;cases this
  subst hxy
  congr 1
  refine PAsc.ext hl'.2 hm'.2 fun z=> ?_
  constructor
  ·intro hz
   rcases List.mem_cons.mp ((h z).mp (by simp[hz])) with e | e
   ·subst e;have:=hl'.1 z hz;rw[u52] at this;cases this
   ·exact e
  ·intro hz
   rcases List.mem_cons.mp ((h z).mpr (by simp[hz])) with e | e
   ·subst e;have:=hm'.1 z hz;rw[u52] at this;cases this
   ·exact e
theorem p45 {l:List u14} {v x:u14} :x∈p0c l v↔x=v∨x∈l:=by
 unfold p0c
 conv=>rhs;rw[←List.takeWhile_append_dropWhile (p:=u54 v) (l:=l)]
 simp only[List.mem_append,List.mem_singleton]
 constructor
 ·rintro((h | h) | h)
  ·exact .inr (.inl h)
  ·exact .inl h
  ·exact .inr (.inr h)
 ·rintro(h | h | h)
  ·exact .inl (.inr h)
  ·exact .inl (.inl h)
  ·exact .inr h
theorem t30 {x:u14} :∀(ws:List u12.den) (l:List u14) (cs:Int),x∈t1d l ws cs↔x∈l∨ ∃w∈ws,x=(w.1,w.2.1,w.2.2,cs)
 | [],l,cs=>by simp[t1d]
 | w::ws,l,cs=>by
  have e:t1d l (w::ws) cs=t1d (p0c l (w.1,w.2.1,w.2.2,cs)) ws cs:=rfl
  rw[e,t30 ws,p45]
  constructor
  ·rintro((h | h) | ⟨y,hy,h⟩)
   ·exact .inr ⟨w,by simp,h⟩
   ·exact .inl h
   ·exact .inr ⟨y,by simp[hy],h⟩
  ·rintro(h | ⟨y,hy,h⟩)
   ·exact .inl (.inr h)
   ·rcases List.mem_cons.mp hy with rfl | hy
    ·exact .inl (.inl h)
    ·exact .inr ⟨y,hy,h⟩
def vCs (x:u14):Int:=x.2.2.2
theorem q20 (l:List u14) (k:ByteArray) (snap:Int):∀n,n≤l.length→
 (r3d l k snap n<0→ ∀(i:Nat) (h:i<l.length),i<n→ ¬(l[i].1=k∧vCs l[i] ≤snap))∧
 (∀a:Nat,r3d l k snap n=(a:Int)→ ∃h:a<l.length,l[a].1=k∧vCs l[a] ≤snap∧ ∀(i:Nat) (h:i<l.length),i<n→l[i].1=k→vCs l[i] ≤snap→vCs l[i] ≤vCs l[a])
 | 0,_=>⟨fun _ i _ h=>absurd h (Nat.not_lt_zero i),fun a e=>by simp only[r3d] at e;omega⟩
 | n+1,hn=>by
  obtain⟨h1,h2⟩:=q20 l k snap n (by omega)
  have hlt:n<l.length:=by omega
  have hr:=r3e l k snap n
  simp only[r3d,q6p,y8k (t:=u0c) hlt]
  by_cases hc:z7o l[n].1 k=true∧l[n].2.2.2≤snap∧(r3d l k snap n<0∨l[n].2.2.2 >(rdL u0c l (r3d l k snap n).toNat).2.2.2)
  ·rw[if_pos hc]
   obtain⟨c1,c2,c3⟩:=hc
   have c1:l[n].1=k:=y7f.mp c1
   refine⟨fun h=>by omega,fun a e=> ?_⟩
   have e:n=a:=by omega
   subst e
   refine⟨hlt,c1,c2,fun i hi hin hk hs=> ?_⟩
   by_cases q:i=n
   ·subst q;exact Int.le_refl _
   ·rcases Int.lt_or_le (r3d l k snap n) 0 with z | z
    ·exact absurd ⟨hk,hs⟩ (h1 z i hi (by omega))
    ·obtain⟨b,hb⟩:∃b:Nat,r3d l k snap n=(b:Int):=⟨(r3d l k snap n).toNat,by omega⟩
     obtain⟨hbl,_,_,g3⟩:=h2 b hb
     rcases c3 with c3 | c3
     ·omega
     ·rw[hb,zTn,y8k (t:=u0c) hbl] at c3
      have h5:=g3 i hi (by omega) hk hs
      have c3:vCs l[n] >vCs l[b] :=c3
      omega
  ·rw[if_neg hc]
   have hc' :l[n].1=k→vCs l[n] ≤snap→ ∃b:Nat,r3d l k snap n=(b:Int)∧ ∃h:b<l.length,vCs l[n] ≤vCs l[b] :=fun c1 c2=>by
    rcases Int.lt_or_le (r3d l k snap n) 0 with z | z
    ·exact absurd ⟨y7f.mpr c1,c2, .inl z⟩ hc
    ·obtain⟨b,hb⟩:∃b:Nat,r3d l k snap n=(b:Int):=⟨(r3d l k snap n).toNat,by omega⟩
     obtain⟨hbl,_⟩:=h2 b hb
     refine⟨b,hb,hbl,Int.not_lt.mp fun z2=>hc ⟨y7f.mpr c1,c2, .inr ?_⟩⟩
     rw[hb,zTn,y8k (t:=u0c) hbl]
     exact z2
   refine⟨fun h i hi hin=> ?_,fun a e=> ?_⟩
   ·by_cases q:i=n
    ·subst q
     rintro⟨z1,z2⟩
     obtain⟨b,hb,_⟩:=hc' z1 z2
     omega
    ·exact h1 h i hi (by omega)
   ·obtain⟨ha,g1,g2,g3⟩:=h2 a e
    refine⟨ha,g1,g2,fun i hi hin hk hs=> ?_⟩
    by_cases q:i=n
    ·subst q
     obtain⟨b,hb,hbl,g4⟩:=hc' hk hs
     have e:b=a:=by omega
     subst e
     exact g4
    ·exact g3 i hi (by omega) hk hs
end
section
theorem twl {E:Type} (p:E→Bool):∀(l:List E),(l.takeWhile p).length≤l.length∧(∀(i:Nat) (h:i<l.length),i<(l.takeWhile p).length→p l[i] =true)∧
 (∀(h:(l.takeWhile p).length<l.length),p l[(l.takeWhile p).length] =false)
 | [] =>⟨Nat.le_refl _,fun i h=>absurd h (Nat.not_lt_zero i),fun h=>absurd h (Nat.not_lt_zero _)⟩
 | x::l=>by
  obtain⟨h1,h2,h3⟩:=twl p l
  cases hp:p x with
  | false=>
   simp only[List.takeWhile_cons,hp,Bool.false_eq_true,if_false,List.length_nil]
   exact⟨Nat.zero_le _,fun i _ h=>absurd h (Nat.not_lt_zero i),fun _=>hp⟩
  | true=>
   simp only[List.takeWhile_cons,hp,if_true,List.length_cons]
   refine⟨by omega,fun i h k=> ?_,fun h=> ?_⟩
   ·cases i with
    | zero=>exact hp
    | succ i=>simpa using h2 i (by simpa using h) (by omega)
   ·simpa using h3 (by omega)
def u0q {E:Type} (p:E→Bool) (l:List E):Nat:=(l.takeWhile fun x=> !p x).length
theorem t29 {E:Type} (p:E→Bool) (l:List E):u0q p l≤l.length:=(twl _ l).1
theorem u8l {E:Type} {p:E→Bool} {l:List E} {i:Nat} (h:i<l.length) (hi:i<u0q p l):p l[i] =false:=by
 have:=(twl (fun x=> !p x) l).2.1 i h hi
 simpa using this
theorem u7g {E:Type} {p:E→Bool} {l:List E} (h:u0q p l<l.length):p l[u0q p l] =true:=by
 unfold u0q at h ⊢
 have:=(twl (fun x=> !p x) l).2.2 h
 simpa using this
theorem r9n {E:Type} (p:E→Bool) (l:List E):decide (u0q p l<l.length)=l.any p:=by
 cases hc:l.any p with
 | true=>
  obtain⟨x,hx,hp⟩:=List.any_eq_true.mp hc
  obtain⟨i,hi,rfl⟩:=List.getElem_of_mem hx
  have: ¬i<u0q p l:=fun q=>by rw[u8l hi q] at hp;cases hp
  simp only[decide_eq_true_eq]
  omega
 | false=>
  simp only[decide_eq_false_iff_not]
  intro h
  have:=u7g h
  have:=List.any_eq_false.mp hc _ (List.getElem_mem h)
  contradiction
theorem Q.first {T:Ty} {c:Type} {q:T.den×c→Option Bool} {p:T.den→Bool} {W:List T.den×c×Int×Int→Option (Unit⊕Int)}
 (hW:∀x,W x=(bif (decide (x.2.2.2<x.2.2.1)) then(bif (y4q x.2.2.2 x.1.length) then((q ((rdL T x.1 (x.2.2.2).toNat),x.2.1)).bind fun(y1:Bool)=>(bif y1 then(some (.inr x.2.2.2)) else(W (x.1,(x.2.1,(x.2.2.1,(IntKind.i64.wrap (x.2.2.2+(1:Int))))))))) else none) else(some (.inl ()))))
 (l:List T.den) (k:c) (hl:l.length≤1099511627776) (hq:∀x∈l,q (x,k)=some (p x)):
 W (l,k,(l.length:Int),0)=some (if u0q p l<l.length then .inr ((u0q p l:Nat):Int) else .inl ()):=by
 have hle:=t29 p l
 have:=r1k W (u0q p l) (fun(_:Unit) i=>(l,k,(l.length:Int),i)) (fun _ _=>if u0q p l<l.length then .inr ((u0q p l:Nat):Int) else .inl ()) (fun _ _=>True)
  (fun a _=>by
   rw[hW]
   by_cases hk:u0q p l<l.length
   ·simp only[u0b,hk,decide_true,cond_true,y7t hk,zTn,y8k hk,hq _ (List.getElem_mem hk),u7g hk,zOb,if_true]
   ·simp only[u0b,hk,decide_false,cond_false,if_false])
  (fun i a hi _=> .inr ⟨(),trivial,rfl,by
   have hil:i<l.length:=by omega
   rw[hW]
   simp only[u0b,hil,decide_true,cond_true,y7t hil,zTn,y8k hil,hq _ (List.getElem_mem hil),u8l hil hi,zOb,cond_false]
   rw[y7l (by omega)]⟩) 0 () (Nat.zero_le _) trivial
 exact this
theorem Q.delete {T:Ty} {c R:Type} {q:T.den×c→Option Bool} {p:T.den→Bool} {W:List T.den×c×Int×Int→Option ((List T.den×Int)⊕R)}
 (hW:∀x,W x=(bif (decide (x.2.2.2<(x.1.length:Int))) then(bif (y4q x.2.2.2 x.1.length) then((q ((rdL T x.1 (x.2.2.2).toNat),x.2.1)).bind fun(y2:Bool)=>(bif (!y2) then(bif (y4q x.2.2.1 x.1.length) then(W ((x.1.set (x.2.2.1).toNat (rdL T x.1 (x.2.2.2).toNat)),(x.2.1,((IntKind.i64.wrap (x.2.2.1+(1:Int))),(IntKind.i64.wrap (x.2.2.2+(1:Int))))))) else none) else(W (x.1,(x.2.1,(x.2.2.1,(IntKind.i64.wrap (x.2.2.2+(1:Int))))))))) else none) else(some (.inl (x.1,x.2.2.1)))))
 (l:List T.den) (k:c) (hl:l.length≤1099511627776) (hq:∀x∈l,q (x,k)=some (p x)) (hf:u0q p l<l.length):
 ∃a:List T.den,W (l,k,((u0q p l:Nat):Int),((u0q p l+1:Nat):Int))=some (.inl (a,((l.filter fun x=> !p x).length:Int)))∧a.length=l.length∧a.take (l.filter fun x=> !p x).length=l.filter fun x=> !p x:=by
 have key:∀(d j:Nat) (a:List T.den),j+d=l.length→a.length=l.length→a.drop j=l.drop j→((l.take j).filter fun x=> !p x).length≤j→((l.take j).filter fun x=> !p x).length<l.length→a.take ((l.take j).filter fun x=> !p x).length=(l.take j).filter (fun x=> !p x)→
  ((l.take j).filter fun x=> !p x).length<j→
  ∃a' :List T.den,W (a,k,(((l.take j).filter fun x=> !p x).length:Int),(j:Int))=some (.inl (a',((l.filter fun x=> !p x).length:Int)))∧a'.length=l.length∧a'.take (l.filter fun x=> !p x).length=l.filter fun x=> !p x:=by
  intro d
  induction d with
  | zero=>
   intro j a hj ha h1 h2 h3 h4 h5
   have e:j=l.length:=by omega
   subst e
   rw[List.take_length] at h4 ⊢
   rw[hW]
   simp only[ha,u0b,Nat.lt_irrefl,decide_false,cond_false]
   exact⟨a,rfl,ha,h4⟩
  | succ d ih=>
   intro j a hj ha h1 h2 h3 h4 h5
   have hjl:j<l.length:=by omega
   have hja:j<a.length:=by omega
   have haj:a[j] =l[j] :=by
    have e1:=List.drop_eq_getElem_cons hja
    have e2:=List.drop_eq_getElem_cons hjl
    rw[h1,e2] at e1
    injection e1 with e1 _
    exact e1.symm
   have hs:l.take (j+1)=l.take j++ [l[j]] :=List.take_succ_eq_append_getElem hjl
   have hd:a.drop (j+1)=l.drop (j+1):=by
    have:=congrArg List.tail h1
    simpa using this
   rw[hW]
   simp only[u0b,hja,decide_true,cond_true,y7t hja,zTn,y8k hja,haj,hq _ (List.getElem_mem hjl),zOb]
   rw[y7l (i:=j) (by omega)]
   cases hp:p l[j] with
   | true=>
    simp only[Bool.not_true,cond_false]
    have e:(l.take (j+1)).filter (fun x=> !p x)=(l.take j).filter fun x=> !p x:=by rw[hs,List.filter_append,List.filter_cons];simp only[hp,Bool.not_true,Bool.false_eq_true,if_false,List.filter_nil,List.append_nil]
    have:=ih (j+1) a (by omega) ha hd (by rw[e];omega) (by rw[e];exact h3) (by rw[e];exact h4) (by rw[e];omega)
    rwa [e] at this
   | false=>
    have e:(l.take (j+1)).filter (fun x=> !p x)=(l.take j).filter (fun x=> !p x)++ [l[j]] :=by rw[hs,List.filter_append,List.filter_cons];simp only[hp,Bool.not_false,if_true,List.filter_nil]
    have el:((l.take (j+1)).filter fun x=> !p x).length=((l.take j).filter fun x=> !p x).length+1:=by rw[e];simp
    have hia:((l.take j).filter fun x=> !p x).length<a.length:=by omega
    simp only[Bool.not_false,cond_true,y7t hia]
    rw[y7l (i:=((l.take j).filter fun x=> !p x).length) (by omega)]
    have:=ih (j+1) (a.set ((l.take j).filter fun x=> !p x).length l[j]) (by omega) (by simpa using ha) (by
     rw[List.drop_set_of_lt (by omega)]
     exact hd) (by rw[el];omega) (by rw[el];omega) (by
     rw[el,List.take_succ_eq_append_getElem (by simpa using hia),e]
     congr 1
     ·rw[List.take_set_of_le (Nat.le_refl _)]
      exact h4
     ·simp) (by rw[el];omega)
    rwa [el] at this
 have hk:=t29 p l
 have e:(l.take (u0q p l+1)).filter (fun x=> !p x)=l.take (u0q p l):=by
  rw[List.take_succ_eq_append_getElem hf,List.filter_append]
  have h1:(l.take (u0q p l)).filter (fun x=> !p x)=l.take (u0q p l):=by
   rw[List.filter_eq_self]
   intro x hx
   obtain⟨i,hi,rfl⟩:=List.getElem_of_mem hx
   have hi' :i<u0q p l:=by have:=hi;rw[List.length_take] at this;omega
   rw[List.getElem_take,u8l (by omega) hi']
   rfl
  rw[h1]
  simp[u7g hf]
 have el:((l.take (u0q p l+1)).filter fun x=> !p x).length=u0q p l:=by rw[e,List.length_take];omega
 have:=key (l.length - (u0q p l+1)) (u0q p l+1) l (by omega) rfl rfl (by rw[el];omega) (by rw[el];exact hf) (by rw[el,e]) (by rw[el];omega)
 rwa [el] at this
end
section
def r92 (x y:u0g):Bool:=decide (x.2.1=3)&&decide (x.2.2.2.1≤y.2.2.1)
def r0o (a b:u0g):Bool:= !decide (a.1=b.1)&&(!r92 a b&& !r92 b a)
def ahead (a b:u0g):Bool:=r0o a b&&s79 a.2.2.2.2.1 b.2.2.2.2.2.1
def s7y (t:u0g) (l:List u0g):Bool:=l.any fun x=>decide (x.2.1=3)&&ahead t x
theorem q8m (a b:u0g):s3e (a,b)=some (r0o a b):=by
 rw[q4m];unfold r2m r0o r92
 by_cases h1:a.1=b.1
 ·simp[h1]
 ·by_cases h2:a.2.1=3<;>by_cases h3:a.2.2.2.1≤b.2.2.1<;>by_cases h4:b.2.1=3<;>by_cases h5:b.2.2.2.1≤a.2.2.1<;>simp[h1,h2,h3,h4,h5]
theorem q8l (a b:u0g):s3c (a,b)=some (r0o a b):=by
 rw[q4g];unfold r2e
 simp only[r8o,s6g]
 unfold r0o r92
 by_cases h1:a.1=b.1
 ·simp[h1]
 ·by_cases h2:a.2.1=3<;>by_cases h3:a.2.2.2.1≤b.2.2.1<;>by_cases h4:b.2.1=3<;>by_cases h5:b.2.2.2.1≤a.2.2.1<;>simp[h1,h2,h3,h4,h5]
theorem u9z (a b:u0g) (ha:a.2.2.2.2.1.length≤u0p) (hb:b.2.2.2.2.2.1.length≤u0p):u2a (a,b)=some (ahead a b):=by
 rw[q6z];unfold r50 ahead
 have h1:=q8m a b
 have h2:=q6j _ _ ha hb
 simp only[h2,zOb]
 rw[h1]
 cases r0o a b<;>rfl
theorem q2m (a b:u0g) (ha:a.2.2.2.2.1.length≤u0p) (hb:b.2.2.2.2.2.1.length≤u0p):t9w (a,b)=some (ahead a b):=by
 rw[q6v];unfold r5w ahead
 have h1:=q8l a b
 have h2:=q6i _ _ ha hb
 simp only[h2,zOb]
 rw[h1]
 cases r0o a b<;>rfl
end
section
def r4l (t:u0g):Prop:=t.2.2.2.2.1.length≤1048576∧t.2.2.2.2.2.1.length≤1048576
def q7a (l:List u0g):Prop:=l.length≤4194304∧ ∀t∈l,r4l t
theorem t7e {n:Nat} (h:n≤1048576):n≤u0p:=by unfold u0p;omega
theorem r4m (t:u0g) (l:List u0g) (ht:r4l t) (hl:q7a l):t6b (t,l)=some (s7y t l):=by
 obtain⟨l1,l2⟩:=hl
 have L:=s02 t5k l (fun i=>(l,t,i)) (fun x=>decide (x.2.1=3)&&ahead t x) (.inr true) (.inl ())
  (by rw[r1e];simp only[t5d,u0b,Nat.lt_irrefl,decide_false,cond_false])
  (fun i hi=>by
   have h1:=u9z t l[i] (t7e ht.1) (t7e (l2 _ (List.getElem_mem hi)).2)
   rw[r1e]
   simp only[t5d,u0b,hi,decide_true,cond_true,y7t hi,zTn,y8k (t:=u1f) hi,h1,zOb]
   rw[y7l (by omega)]
   cases decide (l[i].2.1=3)<;>cases ahead t l[i] <;>rfl)
 rw[q66];unfold r57 s7y
 simp only[L,zOb]
 cases l.any fun x=>decide (x.2.1=3)&&ahead t x<;>rfl
theorem q2s (t:u0g) (l:List u0g) (ht:r4l t) (hl:q7a l):t9x (t,l)=some (s7y t l):=by
 obtain⟨l1,l2⟩:=hl
 have hq:∀x∈l,t5p (x,t)=some (decide (x.2.1=3)&&ahead t x):=fun x hx=>by
  have h1:=q2m t x (t7e ht.1) (t7e (l2 x hx).2)
  rw[q00];unfold s9b
  simp only[r3m,r2i,zOb,h1]
  cases decide (x.2.1=3)<;>rfl
 have L:=Q.first (T:=u1f) (c:=u0g) (W:=u1e) (q:=t5p) (p:=fun x:u0g=>decide (x.2.1=3)&&ahead t x) (fun x=>u8k x) l t (by omega) hq
 rw[q6x];unfold r5y s7y
 simp only[s1j,t27,u7d,u27,u9a,u30,L,zOb]
 rw[←r9n]
 by_cases h:u0q (fun x:u0g=>decide (x.2.1=3)&&ahead t x) l<l.length
 ·simp[h]
 ·simp[h]
theorem u7n (t:u0g) (h:r4l t):u0w t=some t:=by
 rw[r0s];unfold s0g
 simp only[List.length_nil,Nat.zero_add,List.nil_append,u04 (show t.2.2.2.2.1.length≤1099511627776 by have:=h.1;omega),u04 (show t.2.2.2.2.2.1.length≤1099511627776 by have:=h.2;omega),cond_true]
theorem r71 (t:u0g) (h:r4l t):t1f t=some t:=by
 rw[q07];unfold s9i
 simp only[u04 (show t.2.2.2.2.1.length≤1099511627776 by have:=h.1;omega),u04 (show t.2.2.2.2.2.1.length≤1099511627776 by have:=h.2;omega),cond_true]
theorem r1j (l:List u0g) (h:q7a l):t1k l=some l:=by
 have L:=s03 t2m l (fun a i=>(l,a,i)) (fun _=>true) (fun x=>x) (fun a=> .inl a) (by have:=h.1;omega)
  (fun a _=>by rw[s52];simp only[t2d,u0b,Nat.lt_irrefl,decide_false,cond_false])
  (fun i hi a ha=>by
   have h1:=u7n l[i] (h.2 _ (List.getElem_mem hi))
   have:=h.1
   rw[s52]
   simp only[t2d,u0b,hi,decide_true,cond_true,y7t hi,zTn,y8k (t:=u1f) hi,h1,zOb,List.length_singleton,u04 (show a.length+1≤1099511627776 by omega)]
   rw[y7l (by omega)])
 rw[q13];unfold r0f
 simp only[L,zOb]
 simp
theorem r70 (l:List u0g) (h:q7a l):t35 l=some l:=by
 have L:=s03 t0m l (fun a i=>(a,l,(l.length:Int),i)) (fun _=>true) (fun x=>x) (fun a=> .inl a) (by have:=h.1;omega)
  (fun a _=>by rw[s2g];simp only[u94,u0b,Nat.lt_irrefl,decide_false,cond_false])
  (fun i hi a ha=>by
   have h1:=r71 l[i] (h.2 _ (List.getElem_mem hi))
   have:=h.1
   rw[s2g]
   simp only[u94,u0b,hi,decide_true,cond_true,y7t hi,zTn,y8k (t:=u1f) hi,h1,zOb,List.length_singleton,u04 (show a.length+1≤1099511627776 by omega)]
   rw[y7l (by omega)])
 rw[r8u];unfold s6l
 simp only[L,zOb]
 simp
abbrev u0i:=List u14×List u0g×List u0g×Int×Int
def fewB (b:u0i):Prop:=b.1.length≤4194304∧q7a b.2.1∧q7a b.2.2.1
theorem t22 (b:u0i) (h:fewB b):u13 b=some b:=by
 have h1:=r1j b.2.1 h.2.1
 have h2:=r1j b.2.2.1 h.2.2
 rw[q12];unfold r0e
 simp only[List.length_nil,Nat.zero_add,List.nil_append,u04 (show b.1.length≤1099511627776 by have:=h.1;omega),cond_true,h1,h2,zOb]
theorem t7n (b:u0i) (h:fewB b):u1i b=some b:=by
 have h1:=r70 b.2.1 h.2.1
 have h2:=r70 b.2.2.1 h.2.2
 rw[r8t];unfold s6k
 simp only[u04 (show b.1.length≤1099511627776 by have:=h.1;omega),cond_true,h1,h2,zOb]
end
section
def t32 (b:u0i) (open_:List u0g):Int:=open_.foldl (fun m t=>if t.2.2.1<m then t.2.2.1 else m) b.2.2.2.1
theorem q8t (b:u0i) (o:List u0g) (h:o.length≤4194304):t8i (b,o)=some (t32 b o):=by
 have L:=t4r t0o o (fun a i=>(o,a,i)) (fun(m:Int) t=>if t.2.2.1<m then t.2.2.1 else m) (fun a=> .inl a) (fun _ _=>True)
  (fun a _=>by rw[s2k];simp only[u98,u0b,Nat.lt_irrefl,decide_false,cond_false])
  (fun i hi a _=>by
   refine⟨trivial,?_⟩
   rw[s2k]
   simp only[u98,u0b,hi,decide_true,cond_true,y7t hi,zTn,y8k (t:=u1f) hi]
   rw[y7l (by omega)]
   by_cases hc:o[i].2.2.1<a
   ·simp only[hc,decide_true,cond_true,if_true]
   ·simp only[hc,decide_false,cond_false,if_false]) b.2.2.2.1 trivial
 rw[r85];unfold s6w
 simp only[L,zOb]
 rfl
theorem q8s (b:u0i) (o:List u0g) (h:o.length≤4194304):t8a (b,o)=some (t32 b o):=by
 have L:=t4r t0j o (fun a i=>(a,o,(o.length:Int),i)) (fun(m:Int) t=>if t.2.2.1<m then t.2.2.1 else m) (fun a=> .inl a) (fun _ _=>True)
  (fun a _=>by rw[s2d];simp only[u91,u0b,Nat.lt_irrefl,decide_false,cond_false])
  (fun i hi a _=>by
   refine⟨trivial,?_⟩
   rw[s2d]
   simp only[u91,u0b,hi,decide_true,cond_true,y7t hi,zTn,y8k (t:=u1f) hi]
   rw[y7l (by omega)]
   have e:y8i a o[i].2.2.1=if o[i].2.2.1<a then o[i].2.2.1 else a:=by
    unfold y8i
    split<;>rfl
   rw[e]) b.2.2.2.1 trivial
 rw[r8p];unfold s6h
 simp only[L,zOb]
 rfl
def u0n (b:u0i) (n:ByteArray):Int:=if u0q (fun x:u0g=>z7o x.2.2.2.2.2.2.2 n) b.2.2.1<b.2.2.1.length then((u0q (fun x:u0g=>z7o x.2.2.2.2.2.2.2 n) b.2.2.1:Nat):Int) else -1
theorem r5t (b:u0i) (n:ByteArray) (h:b.2.2.1.length≤4194304):t5q (b,n)=some (u0n b n):=by
 have hq:∀x∈b.2.2.1,t2o (x,n)=some (z7o x.2.2.2.2.2.2.2 n):=fun x _=>by
  rw[r63];unfold s3t;rfl
 have L:=Q.first (T:=u1f) (c:=ByteArray) (W:=u07) (q:=t2o) (p:=fun x:u0g=>z7o x.2.2.2.2.2.2.2 n) (fun x=>u6y x) b.2.2.1 n (by omega) hq
 rw[q02];unfold s9d u0n
 simp only[u8f,u3l,L,zOb]
 by_cases hk:u0q (fun x:u0g=>z7o x.2.2.2.2.2.2.2 n) b.2.2.1<b.2.2.1.length
 ·simp only[if_pos hk,zOb]
 ·simp only[if_neg hk,zOb]
theorem t55 (b:u0i) (n:ByteArray) (h:b.2.2.1.length≤4194304):u1u (b,n)=some (u0n b n):=by
 have L:=r1k u74 (u0q (fun x:u0g=>z7o x.2.2.2.2.2.2.2 n) b.2.2.1) (fun(_:Unit) i=>(n,b,i)) (fun _ _=>if u0q (fun x:u0g=>z7o x.2.2.2.2.2.2.2 n) b.2.2.1<b.2.2.1.length then .inr ((u0q (fun x:u0g=>z7o x.2.2.2.2.2.2.2 n) b.2.2.1:Nat):Int) else .inl ()) (fun _ _=>True)
  (fun a _=>by
   have hle:=t29 (fun x:u0g=>z7o x.2.2.2.2.2.2.2 n) b.2.2.1
   rw[s5u]
   by_cases hk:u0q (fun x:u0g=>z7o x.2.2.2.2.2.2.2 n) b.2.2.1<b.2.2.1.length
   ·have hy:=u7g hk
    simp only[u7p,u0b,hk,decide_true,cond_true,y7t hk,zTn,y8k (t:=u1f) hk,hy,if_true]
   ·simp only[u7p,u0b,hk,decide_false,cond_false,if_false])
  (fun i a hi _=> .inr ⟨(),trivial,rfl,by
   have hle:=t29 (fun x:u0g=>z7o x.2.2.2.2.2.2.2 n) b.2.2.1
   have hil:i<b.2.2.1.length:=by omega
   have hn:=u8l hil hi
   rw[s5u]
   simp only[u7p,u0b,hil,decide_true,cond_true,y7t hil,zTn,y8k (t:=u1f) hil,hn,cond_false]
   rw[y7l (by omega)]⟩) 0 () (Nat.zero_le _) trivial
 have L:u74 (n,b,0)=_:=L
 rw[q1l];unfold s9w u0n
 simp only[L,zOb]
 by_cases hk:u0q (fun x:u0g=>z7o x.2.2.2.2.2.2.2 n) b.2.2.1<b.2.2.1.length
 ·simp only[if_pos hk]
 ·simp only[if_neg hk]
end
section
def q2d (l:List u14) (snap:Int) (i:Nat):Bool:=decide ((rdL u0c l i).2.2.2 >snap) || decide (t3a l (rdL u0c l i).1 snap=(i:Int))
def trA (l:List u14) (snap:Int):Nat→List u14
 | 0=> []
 | n+1=>if q2d l snap n=true then trA l snap n++ [rdL u0c l n] else trA l snap n
theorem r5m (l:List u14) (snap:Int):∀n,(trA l snap n).length≤n
 | 0=>Nat.le_refl _
 | n+1=>by
  have:=r5m l snap n
  simp only[trA]
  split
  ·simp;omega
  ·omega
def p4d (l:List u14) (k:ByteArray):Nat:=(l.filter fun v=>z7o v.1 k).length
def p1e (l:List u14) (snap:Int) (v:u14):Bool:= !v.2.2.1 || (decide (v.2.2.2 >snap) || decide ((p4d l v.1:Int) >1))
def u1k (l:List u14) (snap:Int):List u14:=(trA l snap l.length).filter (p1e (trA l snap l.length) snap)
theorem p1v (l:List u14) (snap:Int) (hl:l.length≤8388608):u76 (l,snap, [],0)=some (.inl (snap,trA l snap l.length)):=
 r8c u76 l.length (fun a i=>(l,snap,a,i)) (fun i=>trA l snap i) (.inl (snap,trA l snap l.length))
  (by rw[s5y];simp only[t19,u0b,Nat.lt_irrefl,decide_false,cond_false])
  (fun i hi=>by
   have hL:=r9y l (rdL u0c l i).1 snap (by omega)
   have hn:=r5m l snap i
   rw[s5y]
   simp only[t19,u0b,hi,decide_true,cond_true,y7t hi,zTn,hL,zOb,List.length_singleton,u04 (show(trA l snap i).length+1≤1099511627776 by omega)]
   rw[y7l (by omega)]
   simp only[trA,q2d]
   by_cases h1:(rdL u0c l i).2.2.2 >snap
   ·simp[h1]
   ·by_cases h2:t3a l (rdL u0c l i).1 snap=(i:Int)<;>simp[h1,h2])
theorem p1u (l:List u14) (snap:Int) (hl:l.length≤8388608):u7v (l,snap, [],l,(l.length:Int),0)=some (.inl (snap,trA l snap l.length)):=
 r8c u7v l.length (fun a i=>(l,snap,a,l,(l.length:Int),i)) (fun i=>trA l snap i) (.inl (snap,trA l snap l.length))
  (by rw[s5g];simp only[t1s,u0b,Nat.lt_irrefl,decide_false,cond_false])
  (fun i hi=>by
   have hL:=q89 l (rdL u0c l i).1 snap (by omega)
   have hn:=r5m l snap i
   rw[s5g]
   simp only[t1s,u0b,hi,decide_true,cond_true,y7t hi,zTn,hL,zOb,List.length_singleton,u04 (show(trA l snap i).length+1≤1099511627776 by omega)]
   rw[y7l (by omega)]
   simp only[trA,q2d]
   by_cases h1:(rdL u0c l i).2.2.2 >snap
   ·simp[h1]
   ·by_cases h2:t3a l (rdL u0c l i).1 snap=(i:Int)<;>simp[h1,h2])
end
section
theorem r8j (k:ByteArray):∀(l:List u14) (a:Nat),l.foldl (fun(a:Nat) v=>if z7o v.1 k=true then a+1 else a) a=a+p4d l k
 | [],a=>by simp[p4d]
 | x::l,a=>by
  rw[List.foldl_cons,r8j k l]
  unfold p4d
  cases hc:z7o x.1 k with
  | true=>simp[List.filter_cons,hc];omega
  | false=>simp[List.filter_cons,hc]
theorem p1x (s out:List u14) (snap:Int) (i:Nat) (hi:i<s.length) (hl:s.length≤8388608):
 u6i (snap,s,out,(i:Int),0,0)=some (.inl (snap,s,out,(i:Int),(p4d s s[i].1:Int))):=by
 have L:=t4r u6i s (fun(a:Nat) j=>(snap,s,out,(i:Int),(a:Int),j)) (fun(a:Nat) v=>if z7o v.1 s[i].1=true then a+1 else a) (fun a=> .inl (snap,s,out,(i:Int),(a:Int))) (fun j a=>a≤j)
  (fun a _=>by rw[s2r];simp only[t0f,u0b,Nat.lt_irrefl,decide_false,cond_false])
  (fun j hj a ha=>by
   rw[s2r]
   simp only[t0f,u0b,hj,decide_true,cond_true,y7t hj,y7t hi,zTn,y8k (t:=u0c) hj,y8k (t:=u0c) hi]
   rw[y7l (i:=j) (by omega),y7l (i:=a) (by omega)]
   cases z7o s[j].1 s[i].1 with
   | true=>simp only[cond_true,if_true];exact⟨by omega,trivial⟩
   | false=>simp only[cond_false,Bool.false_eq_true,if_false];exact⟨by omega,trivial⟩) 0 (Nat.zero_le _)
 rw[r8j,Nat.zero_add] at L
 exact L
theorem p1w (s:List u14) (k:ByteArray) (hl:s.length≤8388608):t6o (k,s)=some (p4d s k:Int):=by
 have L:=t4r u5o s (fun(a:Nat) j=>(k,(a:Int),s,(s.length:Int),j)) (fun(a:Nat) v=>if z7o v.1 k=true then a+1 else a) (fun a=> .inl (a:Int)) (fun j a=>a≤j)
  (fun a _=>by rw[t96];simp only[u8t,u0b,Nat.lt_irrefl,decide_false,cond_false])
  (fun j hj a ha=>by
   rw[t96]
   simp only[u8t,u0b,hj,decide_true,cond_true,y7t hj,zTn,y8k (t:=u0c) hj]
   rw[y7l (i:=j) (by omega),y7l (i:=a) (by omega)]
   cases z7o s[j].1 k with
   | true=>simp only[cond_true,if_true];exact⟨by omega,trivial⟩
   | false=>simp only[cond_false,Bool.false_eq_true,if_false];exact⟨by omega,trivial⟩) 0 (Nat.zero_le _)
 rw[r8j,Nat.zero_add] at L
 have L:u5o (k,0,s,(s.length:Int),0)=_:=L
 rw[r65];unfold s3u
 simp only[L,zOb]
theorem q6l (l:List u14) (snap:Int) (hl:l.length≤8388608):s0u (l,snap)=some (u1k l snap):=by
 have hs:(trA l snap l.length).length≤8388608:=Nat.le_trans (r5m _ _ _) hl
 obtain⟨s,hse⟩:∃s,s=trA l snap l.length:=⟨_,rfl⟩
 rw[←hse] at hs
 have L:=s03 t0r s (fun a i=>(snap,s,a,i)) (p1e s snap) (fun v=>v) (fun a=> .inl a) (by omega)
  (fun a _=>by rw[s2q];simp only[t0e,u0b,Nat.lt_irrefl,decide_false,cond_false])
  (fun i hi a ha=>by
   rw[s2q]
   simp only[t0e,u0b,hi,decide_true,cond_true,p1x s a snap i hi hs,zOb,y7t hi,zTn,y8k (t:=u0c) hi,List.length_singleton,u04 (show a.length+1≤1099511627776 by omega)]
   rw[y7l (by omega)]
   unfold p1e
   cases h1:s[i].2.2.1 with
   | false=>simp
   | true=>
    by_cases h2:s[i].2.2.2 >snap
    ·simp[h2]
    ·by_cases h3:(p4d s s[i].1:Int) >1<;>simp[h2,h3])
 rw[List.map_id'] at L
 have hA:=p1v l snap hl
 rw[←hse] at hA
 rw[q1p];unfold s90 u1k
 rw[←hse]
 simp only[hA,L,zOb]
theorem q6k (l:List u14) (snap:Int) (hl:l.length≤8388608):s0l (l,snap)=some (u1k l snap):=by
 have hs:(trA l snap l.length).length≤8388608:=Nat.le_trans (r5m _ _ _) hl
 obtain⟨s,hse⟩:∃s,s=trA l snap l.length:=⟨_,rfl⟩
 rw[←hse] at hs
 have L:=s03 t0k s (fun a i=>(snap,s,a,s,(s.length:Int),i)) (p1e s snap) (fun v=>v) (fun a=> .inl a) (by omega)
  (fun a _=>by rw[s2e];simp only[u92,u0b,Nat.lt_irrefl,decide_false,cond_false])
  (fun i hi a ha=>by
   rw[s2e]
   simp only[u92,u0b,hi,decide_true,cond_true,p1w s _ hs,zOb,y7t hi,zTn,y8k (t:=u0c) hi,List.length_singleton,u04 (show a.length+1≤1099511627776 by omega)]
   rw[y7l (by omega)]
   unfold p1e
   cases h1:s[i].2.2.1 with
   | false=>simp
   | true=>
    by_cases h2:s[i].2.2.2 >snap
    ·simp[h2]
    ·by_cases h3:(p4d s s[i].1:Int) >1<;>simp[h2,h3])
 rw[List.map_id'] at L
 have hA:=p1u l snap hl
 rw[←hse] at hA
 rw[q05];unfold s9g u1k
 rw[←hse]
 simp only[hA,L,zOb]
theorem q9q (l:List u14) (snap:Int):(u1k l snap).length≤l.length:=Nat.le_trans (List.length_filter_le _ _) (r5m _ _ _)
end
section
theorem p6j {E:Type} {r:E→E→Prop} (hi:∀x,¬r x x) (ha:∀x y,r x y→ ¬r y x):∀ {l m:List E},l.Pairwise r→m.Pairwise r→(∀x,x∈l↔x∈m)→l=m
 | [], [],_,_,_=>rfl
 | [],y::m,_,_,h=>by have:=(h y).mpr (by simp);simp at this
 | x::l, [],_,_,h=>by have:=(h x).mp (by simp);simp at this
 | x::l,y::m,hl,hm,h=>by
  have hl' :=List.pairwise_cons.mp hl
  have hm' :=List.pairwise_cons.mp hm
  have hxy:x=y:=by
   rcases List.mem_cons.mp ((h x).mp (by simp)) with e | e
   ·exact e
   ·rcases List.mem_cons.mp ((h y).mpr (by simp)) with e' | e'
    ·exact e'.symm
    ·exact absurd (hm'.1 x e) (ha _ _ (hl'.1 y e'))
  subst hxy
  congr 1
  refine p6j hi ha hl'.2 hm'.2 fun z=> ?_
  constructor
  ·intro hz
   rcases List.mem_cons.mp ((h z).mp (by simp[hz])) with e | e
   ·subst e;exact absurd (hl'.1 z hz) (hi z)
   ·exact e
  ·intro hz
   rcases List.mem_cons.mp ((h z).mpr (by simp[hz])) with e | e
   ·subst e;exact absurd (hm'.1 z hz) (hi z)
   ·exact e
def vLt (a b:u14):Prop:=y3c a.1 b.1=true∨(a.1=b.1∧vCs a<vCs b)
def VAsc (l:List u14):Prop:=l.Pairwise vLt
theorem q5t (a:u14): ¬vLt a a:=fun h=>by
 rcases h with h | h
 ·rw[u52] at h;cases h
 ·omega
theorem p5x (a b:u14) (h:vLt a b): ¬vLt b a:=fun k=>by
 rcases h with h | ⟨h,h'⟩<;>rcases k with k | ⟨k,k'⟩
 ·rw[s3o h] at k;cases k
 ·rw[k,u52] at h;cases h
 ·rw[h,u52] at k;cases k
 ·omega
theorem p7n (a b:u14) (h: ¬(a.1=b.1∧vCs a=vCs b)):vLt a b∨vLt b a:=by
 rcases r1y a.1 b.1 with c | c | c
 ·exact .inl (.inl c)
 ·rcases Int.lt_trichotomy (vCs a) (vCs b) with d | d | d
  ·exact .inl (.inr ⟨c,d⟩)
  ·exact absurd ⟨c,d⟩ h
  ·exact .inr (.inr ⟨c.symm,d⟩)
 ·exact .inr (.inl c)
theorem VAsc.ext {l m:List u14} (h:VAsc l) (k:VAsc m) (e:∀x,x∈l↔x∈m):l=m:=p6j q5t p5x h k e
theorem VAsc.uni:∀ {l:List u14},VAsc l→ ∀x∈l,∀y∈l,x.1=y.1→vCs x=vCs y→x=y
 | [],_,x,hx=>by cases hx
 | z::l,h,x,hx=>fun y hy e1 e2=>by
  have h' :=List.pairwise_cons.mp h
  have no:∀a b:u14,a.1=b.1→vCs a=vCs b→ ¬vLt a b:=fun a b e1 e2 k=>by
   rcases k with k | k
   ·rw[e1,u52] at k;cases k
   ·omega
  rcases List.mem_cons.mp hx with rfl | hx' <;>rcases List.mem_cons.mp hy with rfl | hy'
  ·rfl
  ·exact absurd (h'.1 y hy') (no _ _ e1 e2)
  ·exact absurd (h'.1 x hx') (no _ _ e1.symm e2.symm)
  ·exact VAsc.uni h'.2 x hx' y hy' e1 e2
def p41 (l:List u14) (s:Int) (x:u14):Prop:=vCs x≤s∧ ∀y∈l,y.1=x.1→vCs y≤s→vCs y≤vCs x
theorem q3a {l:List u14} (hA:VAsc l) {s:Int} {i:Nat} (h:i<l.length):t3a l l[i].1 s=(i:Int)↔p41 l s l[i] :=by
 obtain⟨h1,h2⟩:=q20 l l[i].1 s l.length (Nat.le_refl _)
 constructor
 ·intro e
  obtain⟨_,g1,g2,g3⟩:=h2 i e
  refine⟨g2,fun y hy e1 e2=> ?_⟩
  obtain⟨j,hj,rfl⟩:=List.getElem_of_mem hy
  exact g3 j hj hj e1 e2
 ·rintro⟨g2,g3⟩
  have hr:=q3b l l[i].1 s
  rcases Int.lt_or_le (t3a l l[i].1 s) 0 with z | z
  ·exact absurd ⟨rfl,g2⟩ (h1 z i h h)
  ·obtain⟨b,hb⟩:∃b:Nat,t3a l l[i].1 s=(b:Int):=⟨(t3a l l[i].1 s).toNat,by omega⟩
   obtain⟨hbl,k1,k2,k3⟩:=h2 b hb
   have m1:=g3 l[b] (List.getElem_mem hbl) k1 k2
   have m2:=k3 i h h rfl g2
   have e:=VAsc.uni hA l[b] (List.getElem_mem hbl) l[i] (List.getElem_mem h) k1 (by omega)
   have hp:l.Nodup:=hA.imp fun h e=>by subst e;exact q5t _ h
   have:b=i:=(List.getElem_inj hp).mp e
   rw[hb,this]
theorem q9p (l:List u14) (s:Int):∀n,n≤l.length→(trA l s n).Sublist (l.take n)
 | 0,_=>by simp[trA]
 | n+1,h=>by
  have ih:=q9p l s n (by omega)
  have hn:n<l.length:=by omega
  rw[List.take_succ_eq_append_getElem hn]
  simp only[trA]
  split
  ·rw[y8k (t:=u0c) hn]
   exact ih.append (List.Sublist.refl _)
  ·exact ih.trans (List.sublist_append_left _ _)
theorem u53 (l:List u14) (s:Int):(u1k l s).Sublist l:=by
 have h:=q9p l s l.length (Nat.le_refl _)
 rw[List.take_length] at h
 exact List.filter_sublist.trans h
theorem t21 {l:List u14} (h:VAsc l) (s:Int):VAsc (u1k l s):=h.sublist (u53 l s)
theorem q7o {l:List u14} {s:Int} {x:u14} :∀n,n≤l.length→(x∈trA l s n↔ ∃(i:Nat) (h:i<l.length),i<n∧l[i] =x∧q2d l s i=true)
 | 0,_=>by simp[trA]
 | n+1,h=>by
  have ih:=q7o (x:=x) (s:=s) n (Nat.le_of_succ_le h)
  have hn:n<l.length:=by omega
  have split:(∃(i:Nat) (h:i<l.length),i<n+1∧l[i] =x∧q2d l s i=true)↔(∃(i:Nat) (h:i<l.length),i<n∧l[i] =x∧q2d l s i=true)∨(l[n] =x∧q2d l s n=true):=by
   constructor
   ·rintro⟨i,hi,h1,h2⟩
    by_cases e:i=n
    ·subst e;exact .inr h2
    ·exact .inl ⟨i,hi,by omega,h2⟩
   ·rintro(⟨i,hi,h1,h2⟩ | h2)
    ·exact⟨i,hi,by omega,h2⟩
    ·exact⟨n,hn,by omega,h2⟩
  rw[split,←ih]
  simp only[trA]
  by_cases c:q2d l s n=true
  ·rw[if_pos c,y8k (t:=u0c) hn,List.mem_append,List.mem_singleton]
   simp only[c,and_true]
   exact or_congr Iff.rfl eq_comm
  ·rw[if_neg c]
   simp[c]
theorem q5i {l:List u14} (hA:VAsc l) {s:Int} {x:u14} :x∈trA l s l.length↔x∈l∧(vCs x >s∨p41 l s x):=by
 rw[q7o _ (Nat.le_refl _)]
 constructor
 ·rintro⟨i,hi,_,rfl,k⟩
  refine⟨List.getElem_mem hi,?_⟩
  unfold q2d at k
  rw[y8k (t:=u0c) hi,Bool.or_eq_true,decide_eq_true_eq,decide_eq_true_eq] at k
  rcases k with k | k
  ·exact .inl k
  ·exact .inr ((q3a hA hi).mp k)
 ·rintro⟨hx,k⟩
  obtain⟨i,hi,rfl⟩:=List.getElem_of_mem hx
  refine⟨i,hi,hi,rfl,?_⟩
  unfold q2d
  rw[y8k (t:=u0c) hi,Bool.or_eq_true,decide_eq_true_eq,decide_eq_true_eq]
  rcases k with k | k
  ·exact .inl k
  ·exact .inr ((q3a hA hi).mpr k)
theorem p1z {E:Type} :∀ {l:List E},l.Nodup→1<l.length→ ∀x,∃y∈l,y≠x
 | [],_,h,_=>by simp at h
 | [_],_,h,_=>by simp at h
 | a::b::l,hn,_,x=>by
  by_cases e:a=x
  ·subst e
   refine⟨b,by simp,fun e=> ?_⟩
   subst e
   simp at hn
  ·exact⟨a,by simp,e⟩
theorem p1j {E:Type} {l:List E} {x y:E} (hx:x∈l) (hy:y∈l) (h:x≠y):1<l.length:=by
 match l,hx,hy with
 | [a],hx,hy=>rw[List.mem_singleton] at hx hy;exact absurd (hx.trans hy.symm) h
 | a::b::l,_,_=>simp
theorem u7i {l:List u14} (hA:VAsc l) {s:Int} {x:u14} :x∈u1k l s↔x∈l∧(vCs x >s∨(p41 l s x∧(x.2.2.1=false∨ ∃y∈l,y.1=x.1∧vCs y >s))):=by
 unfold u1k
 rw[List.mem_filter,q5i hA]
 unfold p1e
 rw[Bool.or_eq_true,Bool.or_eq_true,decide_eq_true_eq,decide_eq_true_eq,Bool.not_eq_true']
 have hs:VAsc (trA l s l.length):=by
  have h:=q9p l s l.length (Nat.le_refl _)
  rw[List.take_length] at h
  exact hA.sublist h
 constructor
 ·rintro⟨⟨hx,h1⟩,h2⟩
  refine⟨hx,?_⟩
  by_cases c:vCs x >s
  ·exact .inl c
  ·rcases h1 with h1 | h1
   ·exact absurd h1 c
   ·refine .inr ⟨h1,?_⟩
    rcases h2 with h2 | h2 | h2
    ·exact .inl h2
    ·exact absurd h2 c
    ·have hn:((trA l s l.length).filter fun v=>z7o v.1 x.1).Nodup:=(hs.filter _).imp fun h e=>by subst e;exact q5t _ h
     have hl:1<((trA l s l.length).filter fun v=>z7o v.1 x.1).length:=by unfold p4d at h2;omega
     obtain⟨y,hy,hne⟩:=p1z hn hl x
     rw[List.mem_filter,q5i hA] at hy
     obtain⟨⟨hyl,hy1⟩,hy2⟩:=hy
     have hk:=y7f.mp hy2
     refine .inr ⟨y,hyl,hk,?_⟩
     rcases hy1 with hy1 | hy1
     ·exact hy1
     ·have a1:=h1.2 y hyl hk hy1.1
      have a2:=hy1.2 x hx hk.symm h1.1
      exact absurd (VAsc.uni hA y hyl x hx hk (by omega)) hne
 ·rintro⟨hx,h1⟩
  rcases h1 with h1 | ⟨h1,h2⟩
  ·exact⟨⟨hx, .inl h1⟩, .inr (.inl h1)⟩
  ·refine⟨⟨hx, .inr h1⟩,?_⟩
   rcases h2 with h2 | ⟨y,hy,hk,hc⟩
   ·exact .inl h2
   ·refine .inr (.inr ?_)
    have m1:x∈(trA l s l.length).filter fun v=>z7o v.1 x.1:=by rw[List.mem_filter,q5i hA];exact⟨⟨hx, .inr h1⟩,y7f.mpr rfl⟩
    have m2:y∈(trA l s l.length).filter fun v=>z7o v.1 x.1:=by rw[List.mem_filter,q5i hA];exact⟨⟨hy, .inl hc⟩,y7f.mpr hk⟩
    have:=p1j m1 m2 (fun e=>by have:=h1.1;subst e;omega)
    unfold p4d
    omega
theorem r4c {l:List u14} (hA:VAsc l) {a b:Int} (hab:a≤b):u1k (u1k l a) b=u1k l b:=by
 have hT:=t21 hA a
 refine(t21 hT b).ext (t21 hA b) fun x=> ?_
 refine Iff.trans (u7i hT) (Iff.trans ?_ (u7i hA).symm)
 have hsub:∀y,y∈u1k l a→y∈l:=fun y hy=>(u53 l a).subset hy
 have hup:∀y,y∈l→vCs y >a→y∈u1k l a:=fun y hy h=>(u7i hA).mpr ⟨hy, .inl h⟩
 constructor
 ·rintro⟨hx,h⟩
  have hxl:=hsub x hx
  refine⟨hxl,?_⟩
  rcases h with h | ⟨h1,h2⟩
  ·exact .inl h
  ·right
   have hL:p41 l b x:=by
    refine⟨h1.1,fun y hy e1 e2=> ?_⟩
    by_cases c:vCs y >a
    ·exact h1.2 y (hup y hy c) e1 e2
    ·by_cases c2:vCs x >a
     ·omega
     ·rcases(u7i hA).mp hx with ⟨_,h3 | ⟨h3,_⟩⟩
      ·exact absurd h3 c2
      ·exact h3.2 y hy e1 (by omega)
   refine⟨hL,?_⟩
   rcases h2 with h2 | ⟨y,hy,e1,e2⟩
   ·exact .inl h2
   ·exact .inr ⟨y,hsub y hy,e1,e2⟩
 ·rintro⟨hxl,h⟩
  rcases h with h | ⟨h1,h2⟩
  ·exact⟨hup x hxl (by omega), .inl h⟩
  ·have hx:x∈u1k l a:=by
    by_cases c:vCs x >a
    ·exact hup x hxl c
    ·refine(u7i hA).mpr ⟨hxl, .inr ⟨⟨by omega,fun y hy e1 e2=>h1.2 y hy e1 (by omega)⟩,?_⟩⟩
     rcases h2 with h2 | ⟨y,hy,e1,e2⟩
     ·exact .inl h2
     ·exact .inr ⟨y,hy,e1,by omega⟩
   refine⟨hx, .inr ⟨⟨h1.1,fun y hy=>h1.2 y (hsub y hy)⟩,?_⟩⟩
   rcases h2 with h2 | ⟨y,hy,e1,e2⟩
   ·exact .inl h2
   ·exact .inr ⟨y,hup y hy (by omega),e1,e2⟩
theorem t9v {l:List u14} (hA:VAsc l) {s:Int} (hs:∀x∈l,vCs x≤s) {x:u14} :x∈u1k l s↔x∈l∧x.2.2.1=false∧ ∀y∈l,y.1=x.1→vCs y≤vCs x:=by
 rw[u7i hA]
 constructor
 ·rintro⟨hx,h⟩
  refine⟨hx,?_⟩
  rcases h with h | ⟨h1,h2 | ⟨y,hy,_,h2⟩⟩
  ·have:=hs x hx;omega
  ·exact⟨h2,fun y hy e=>h1.2 y hy e (hs y hy)⟩
  ·have:=hs y hy;omega
 ·rintro⟨hx,h1,h2⟩
  exact⟨hx, .inr ⟨⟨hs x hx,fun y hy e _=>h2 y hy e⟩, .inl h1⟩⟩
theorem r5d {l:List u14} (hA:VAsc l) {a:Int} {x:u14} :(x∈u1k l a∧x.2.2.1=false∧ ∀y∈u1k l a,y.1=x.1→vCs y≤vCs x)↔(x∈l∧x.2.2.1=false∧ ∀y∈l,y.1=x.1→vCs y≤vCs x):=by
 constructor
 ·rintro⟨hx,h1,h2⟩
  have hxl:=(u53 l a).subset hx
  refine⟨hxl,h1,fun y hy e=> ?_⟩
  by_cases c:vCs y >a
  ·exact h2 y ((u7i hA).mpr ⟨hy, .inl c⟩) e
  ·rcases(u7i hA).mp hx with ⟨_,h3 | ⟨h3,_⟩⟩
   ·omega
   ·exact h3.2 y hy e (by omega)
 ·rintro⟨hx,h1,h2⟩
  refine⟨(u7i hA).mpr ⟨hx,?_⟩,h1,fun y hy=>h2 y ((u53 l a).subset hy)⟩
  by_cases c:vCs x >a
  ·exact .inl c
  ·exact .inr ⟨⟨by omega,fun y hy e _=>h2 y hy e⟩, .inl h1⟩
theorem p5d {l:List u14} (hA:VAsc l) {v:u14} (hn:∀x∈l,¬(x.1=v.1∧vCs x=vCs v)):VAsc (p0c l v):=by
 have le_iff:∀x:u14,u54 v x=true↔(vLt x v∨(x.1=v.1∧vCs x=vCs v)):=fun x=>by
  unfold u54 vLt
  rw[Bool.or_eq_true,Bool.and_eq_true,decide_eq_true_eq]
  constructor
  ·rintro(h | ⟨h1,h2⟩)
   ·exact .inl (.inl h)
   ·have h1:=y7f.mp h1
    have h2:vCs x≤vCs v:=h2
    rcases Int.lt_or_eq_of_le h2 with h2 | h2
    ·exact .inl (.inr ⟨h1,h2⟩)
    ·exact .inr ⟨h1,h2⟩
  ·rintro((h | ⟨h1,h2⟩) | ⟨h1,h2⟩)
   ·exact .inl h
   ·exact .inr ⟨y7f.mpr h1,Int.le_of_lt h2⟩
   ·exact .inr ⟨y7f.mpr h1,Int.le_of_eq h2⟩
 have tr:∀ {a b c:u14},vLt a b→vLt b c→vLt a c:=fun {a b c} h k=>by
  rcases h with h | ⟨h,h'⟩<;>rcases k with k | ⟨k,k'⟩
  ·exact .inl (r08 h k)
  ·exact .inl (k ▸ h)
  ·exact .inl (h ▸ k)
  ·exact .inr ⟨h.trans k,by omega⟩
 unfold p0c VAsc
 have hsplit:l.takeWhile (u54 v)++l.dropWhile (u54 v)=l:=List.takeWhile_append_dropWhile
 have hA' :(l.takeWhile (u54 v)++l.dropWhile (u54 v)).Pairwise vLt:=by rw[hsplit];exact hA
 obtain⟨p1,p2,p3⟩:=List.pairwise_append.mp hA'
 have lo:∀x∈l.takeWhile (u54 v),vLt x v:=fun x hx=>by
  have h1:u54 v x=true:=by
   have:=List.all_takeWhile (p:=u54 v) (l:=l)
   exact List.all_eq_true.mp this x hx
  have h2:x∈l:=(List.takeWhile_sublist _).subset hx
  rcases(le_iff x).mp h1 with h | h
  ·exact h
  ·exact absurd h (hn x h2)
 have hi:∀x∈l.dropWhile (u54 v),vLt v x:=by
  intro x hx
  match hd:l.dropWhile (u54 v),hx,p2 with
  | [],hx,_=>cases hx
  | y::r,hx,p2=>
   have hy:u54 v y=false:=by
    have:=List.head?_dropWhile_not (u54 v) l
    rw[hd] at this
    simpa using this
   have hyl:y∈l:=(List.dropWhile_sublist (p:=u54 v)).subset (by rw[hd];simp)
   have hvy:vLt v y:=by
    rcases p7n y v (hn y hyl) with h | h
    ·rw[(le_iff y).mpr (.inl h)] at hy;cases hy
    ·exact h
   rcases List.mem_cons.mp hx with rfl | hx
   ·exact hvy
   ·exact tr hvy ((List.pairwise_cons.mp p2).1 x hx)
 rw[List.append_assoc,List.pairwise_append]
 refine⟨p1,?_,?_⟩
 ·rw[List.singleton_append,List.pairwise_cons]
  exact⟨hi,p2⟩
 ·intro x hx y hy
  rcases List.mem_append.mp hy with hy | hy
  ·rw[List.mem_singleton] at hy;subst hy;exact lo x hx
  ·exact p3 x hx y hy
theorem r32 {cs:Int} :∀(ws:List u12.den) {l:List u14},VAsc l→KD ws→(∀x∈l,∀w∈ws,¬(x.1=w.1∧vCs x=cs))→VAsc (t1d l ws cs)
 | [],l,h,_,_=>h
 | w::ws,l,h,hk,hn=>by
  have hk' :=List.pairwise_cons.mp hk
  have e:t1d l (w::ws) cs=t1d (p0c l (w.1,w.2.1,w.2.2,cs)) ws cs:=rfl
  rw[e]
  refine r32 ws (p5d h fun x hx=>hn x hx w (by simp)) hk'.2 fun x hx z hz=> ?_
  rcases p45.mp hx with rfl | hx
  ·exact fun q=>hk'.1 z hz q.1
  ·exact hn x hx z (by simp[hz])
theorem p0n {l:List u14} (hA:VAsc l) {ws:List u12.den} (hk:KD ws) {a c:Int} (hl:∀x∈l,vCs x<c):
 u1k (t1d (u1k l a) ws c) c=u1k (t1d l ws c) c:=by
 have hT:=t21 hA a
 have hlT:∀x∈u1k l a,vCs x<c:=fun x hx=>hl x ((u53 l a).subset hx)
 have P1:VAsc (t1d (u1k l a) ws c):=r32 ws hT hk fun x hx w _ q=>by have:=hlT x hx;omega
 have P2:VAsc (t1d l ws c):=r32 ws hA hk fun x hx w _ q=>by have:=hl x hx;omega
 have t1:∀x∈t1d (u1k l a) ws c,vCs x≤c:=fun x hx=>by
  rcases(t30 ws _ c).mp hx with h | ⟨w,_,rfl⟩
  ·have:=hlT x h;omega
  ·exact Int.le_refl _
 have t2:∀x∈t1d l ws c,vCs x≤c:=fun x hx=>by
  rcases(t30 ws _ c).mp hx with h | ⟨w,_,rfl⟩
  ·have:=hl x h;omega
  ·exact Int.le_refl _
 have key:∀(m:List u14),(∀x∈m,vCs x<c)→ ∀x,(x∈t1d m ws c∧x.2.2.1=false∧ ∀y∈t1d m ws c,y.1=x.1→vCs y≤vCs x)↔
  ((∃w∈ws,x=(w.1,w.2.1,w.2.2,c))∧x.2.2.1=false)∨((∀w∈ws,w.1≠x.1)∧x∈m∧x.2.2.1=false∧ ∀y∈m,y.1=x.1→vCs y≤vCs x):=by
  intro m hm x
  have mp:=fun y=>t30 (x:=y) ws m c
  constructor
  ·rintro⟨h1,h2,h3⟩
   rcases(mp x).mp h1 with h | h
   ·refine .inr ⟨fun w hw e=> ?_,h,h2,fun y hy e=>h3 y ((mp y).mpr (.inl hy)) e⟩
    have q:c≤vCs x:=h3 (w.1,w.2.1,w.2.2,c) ((mp _).mpr (.inr ⟨w,hw,rfl⟩)) e
    have:=hm x h
    omega
   ·exact .inl ⟨h,h2⟩
  ·rintro(⟨h1,h2⟩ | ⟨h1,h2,h3,h4⟩)
   ·refine⟨(mp x).mpr (.inr h1),h2,fun y hy _=> ?_⟩
    obtain⟨w,hw,rfl⟩:=h1
    show vCs y≤c
    rcases(mp y).mp hy with h | ⟨w,_,rfl⟩
    ·have:=hm y h;omega
    ·exact Int.le_refl _
   ·refine⟨(mp x).mpr (.inl h2),h3,fun y hy e=> ?_⟩
    rcases(mp y).mp hy with h | ⟨w,hw,rfl⟩
    ·exact h4 y h e
    ·exact absurd e (h1 w hw)
 refine(t21 P1 c).ext (t21 P2 c) fun x=> ?_
 rw[t9v P1 t1,t9v P2 t2,key _ hlT,key _ hl,r5d hA]
end
section
abbrev s22:=ByteArray×ByteArray
abbrev WrT:=ByteArray×ByteArray×Bool
abbrev u2b:=u0i×List u0g
def inB (x lo hi:Int):Bool:=decide (lo≤x)&&decide (x≤hi)
theorem r5b {x lo hi:Int} :inB x lo hi=true↔lo≤x∧x≤hi:=by simp[inB]
def u48 (s:ByteArray):Bool:=s.data.toList.all (fun b=>decide (97≤b.toNat)&&decide (b.toNat≤122))&&(decide (1≤s.size)&&decide (s.size≤3))
def u18 (r:s22):Bool:=u48 r.1&&(u48 r.2&&(y3c r.1 r.2 || z7o r.1 r.2))
def u19 (w:WrT):Bool:=u48 w.1&&(decide (w.2.1.size≤12)&&(!w.2.2 || decide (w.2.1.size=0)))
def q2z (t:Ty) (lt:t.den→t.den→Bool) (l:List t.den):Bool:=(List.range l.length).all fun i=>decide (i=0) || lt (rdL t l (i - 1)) (rdL t l i)
def u2i (l:List WrT):Bool:=l.all u19&&(q2z u12 (fun a b=>y3c a.1 b.1) l&&decide (l.length≤8))
def u8j (t:u0g):Bool:=
 inB t.1 1 9999&&(inB t.2.1 1 3&&(inB t.2.2.1 0 9999&&(decide (t.2.2.2.2.1.length≤8)&&(u2i t.2.2.2.2.2.1&&(t.2.2.2.2.1.all u18&&
 ((if t.2.1=3 then inB t.2.2.2.1 (t.2.2.1+1) 9999 else decide (t.2.2.2.1=0))&&((if t.2.1=2 then u48 t.2.2.2.2.2.2.2 else decide (t.2.2.2.2.2.2.2.size=0))&&(!decide (t.2.1=1) || !t.2.2.2.2.2.2.1))))))))
def r12 (v:u14):Bool:=u48 v.1&&(decide (v.2.1.size≤12)&&((!v.2.2.1 || decide (v.2.1.size=0))&&inB v.2.2.2 1 9999))
def t94 (a b:u14):Bool:=y3c a.1 b.1 || (z7o a.1 b.1&&decide (a.2.2.2<b.2.2.2))
def u5l (l:List u14):Bool:=l.all r12&&(q2z u0c t94 l&&decide (l.length≤120))
def r3x (l:List Int) (below:Int):Bool:=decide (∀x∈l,x<below)&&decide l.Nodup
def q99 (c:Int) (l:List u0g):Bool:=decide (l.length≤12)&&(l.all (fun t=>u8j t&&(decide (t.2.1=3)&&decide (t.2.2.2.1≤c)))&&q2z u1f (fun a b=>decide (a.2.2.2.1<b.2.2.2.1)) l)
def q5n (c:Int) (l:List u0g):Bool:=decide (l.length≤3)&&(l.all (fun t=>u8j t&&(decide (t.2.1=2)&&decide (t.2.2.1≤c)))&&q2z u1f (fun a b=>y3c a.2.2.2.2.2.2.2 b.2.2.2.2.2.2.2) l)
def p3j (c:Int) (l:List u0g):Bool:=decide (l.length≤4)&&(l.all (fun t=>u8j t&&(decide (t.2.1=1)&&decide (t.2.2.1≤c)))&&q2z u1f (fun a b=>decide (a.1<b.1)) l)
def u3z (l:List u0g):List Int:=l.map fun t=>t.1
def u6l (b:u0i):Bool:=u5l b.1&&(b.1.all (fun v=>decide (v.2.2.2≤b.2.2.2.1))&&(inB b.2.2.2.1 0 9999&&(inB b.2.2.2.2 1 9999&&(q99 b.2.2.2.1 b.2.1&&(q5n b.2.2.2.1 b.2.2.1&&r3x (u3z (b.2.1++b.2.2.1)) b.2.2.2.2)))))
def p4t (e:u2b):Bool:=u6l e.1&&(p3j e.1.2.2.2.1 e.2&&r3x (u3z (e.1.2.1++e.1.2.2.1++e.2)) e.1.2.2.2.2)
theorem q38 {t:Ty} {lt:t.den→t.den→Bool} (tr:∀a b c,lt a b=true→lt b c=true→lt a c=true) {l:List t.den} :q2z t lt l=true↔l.Pairwise fun a b=>lt a b=true:=by
 unfold q2z
 rw[List.all_eq_true]
 constructor
 ·intro h
  have step:∀(i:Nat) (hi:i+1<l.length),lt l[i] l[i+1] =true:=fun i hi=>by
   have:=h (i+1) (List.mem_range.mpr hi)
   rw[Bool.or_eq_true,decide_eq_true_eq] at this
   rcases this with q | q
   ·omega
   ·rw[Nat.add_sub_cancel,y8k (show i<l.length by omega),y8k hi] at q
    exact q
  rw[List.pairwise_iff_getElem]
  intro i j hi hj hij
  obtain⟨d,rfl⟩:∃d,j=i+1+d:=⟨j - (i+1),by omega⟩
  clear hij
  induction d with
  | zero=>exact step i hj
  | succ d ih=>exact tr _ _ _ (ih (by omega)) (step (i+1+d) hj)
 ·intro h i hi
  have hi:=List.mem_range.mp hi
  rw[Bool.or_eq_true,decide_eq_true_eq]
  by_cases e:i=0
  ·exact .inl e
  ·refine .inr ?_
   rw[y8k (show i - 1<l.length by omega),y8k hi]
   exact List.pairwise_iff_getElem.mp h (i - 1) i (by omega) hi (by omega)
theorem u2o {s:ByteArray} (h:u48 s=true):1≤s.size∧s.size≤3:=by
 unfold u48 at h
 simp only[Bool.and_eq_true,decide_eq_true_eq] at h
 exact h.2
structure TxnR (t:u0g):Prop where
 id:1≤t.1∧t.1≤9999
 st:1≤t.2.1∧t.2.1≤3
 snap:0≤t.2.2.1∧t.2.2.1≤9999
 rlen:t.2.2.2.2.1.length≤8
 ws:u2i t.2.2.2.2.2.1=true
 rs:∀r∈t.2.2.2.2.1,u18 r=true
 done:t.2.1=3→t.2.2.1+1≤t.2.2.2.1∧t.2.2.2.1≤9999
 nocs:t.2.1≠3→t.2.2.2.1=0
 name:t.2.1=2→u48 t.2.2.2.2.2.2.2=true
 noname:t.2.1≠2→t.2.2.2.2.2.2.2.size=0
 out:t.2.1=1→t.2.2.2.2.2.2.1=false
theorem r4d {t:u0g} :u8j t=true↔TxnR t:=by
 unfold u8j
 simp only[Bool.and_eq_true,Bool.or_eq_true,r5b,decide_eq_true_eq,List.all_eq_true,Bool.not_eq_true',decide_eq_false_iff_not]
 constructor
 ·rintro⟨h1,h2,h3,h4,h5,h6,h7,h8,h9⟩
  refine⟨h1,h2,h3,h4,h5,h6,fun e=> ?_,fun e=> ?_,fun e=> ?_,fun e=> ?_,fun e=> ?_⟩
  ·rw[if_pos e,r5b] at h7;exact h7
  ·rw[if_neg e,decide_eq_true_eq] at h7;exact h7
  ·rw[if_pos e] at h8;exact h8
  ·rw[if_neg e,decide_eq_true_eq] at h8;exact h8
  ·rcases h9 with h9 | h9
   ·exact absurd e h9
   ·exact h9
 ·intro h
  refine⟨h.id,h.st,h.snap,h.rlen,h.ws,h.rs,?_,?_,?_⟩
  ·split
   ·rename_i e;rw[r5b];exact h.done e
   ·rename_i e;rw[decide_eq_true_eq];exact h.nocs e
  ·split
   ·rename_i e;exact h.name e
   ·rename_i e;rw[decide_eq_true_eq];exact h.noname e
  ·by_cases e:t.2.1=1
   ·exact .inr (h.out e)
   ·exact .inl e
theorem p6l {l:List WrT} :u2i l=true↔(∀w∈l,u19 w=true)∧(l.Pairwise fun a b=>y3c a.1 b.1=true)∧l.length≤8:=by
 unfold u2i
 rw[Bool.and_eq_true,Bool.and_eq_true,decide_eq_true_eq,List.all_eq_true,q38 (t:=u12) (lt:=fun a b=>y3c a.1 b.1) (fun a b c h k=>r08 h k)]
theorem q0n {l:List WrT} (h:u2i l=true):KD l:=
 (p6l.mp h).2.1.imp fun {a b} q e=>by rw[e,u52] at q;cases q
theorem p10 {a b:u14} :t94 a b=true↔vLt a b:=by
 unfold t94 vLt vCs
 rw[Bool.or_eq_true,Bool.and_eq_true,decide_eq_true_eq,y7f]
theorem p9b {a b c:u14} (h:vLt a b) (k:vLt b c):vLt a c:=by
 rcases h with h | ⟨h,h'⟩<;>rcases k with k | ⟨k,k'⟩
 ·exact .inl (r08 h k)
 ·exact .inl (k ▸ h)
 ·exact .inl (h ▸ k)
 ·exact .inr ⟨h.trans k,by omega⟩
theorem p4f {l:List u14} :u5l l=true↔(∀v∈l,r12 v=true)∧VAsc l∧l.length≤120:=by
 unfold u5l
 rw[Bool.and_eq_true,Bool.and_eq_true,decide_eq_true_eq,List.all_eq_true,q38 (t:=u0c) (lt:=t94) (fun a b c h k=>p10.mpr (p9b (p10.mp h) (p10.mp k)))]
 unfold VAsc
 simp only[p10]
theorem s7i {l:List Int} {n:Int} :r3x l n=true↔(∀x∈l,x<n)∧l.Nodup:=by
 unfold r3x;rw[Bool.and_eq_true,decide_eq_true_eq,decide_eq_true_eq]
structure BaseR (b:u0i):Prop where
 vs:u5l b.1=true
 vcs:∀v∈b.1,v.2.2.2≤b.2.2.2.1
 cs:0≤b.2.2.2.1∧b.2.2.2.1≤9999
 next:1≤b.2.2.2.2∧b.2.2.2.2≤9999
 plen:b.2.1.length≤12
 past:∀t∈b.2.1,TxnR t∧t.2.1=3∧t.2.2.2.1≤b.2.2.2.1
 pasc:b.2.1.Pairwise fun x y=>x.2.2.2.1<y.2.2.2.1
 rlen:b.2.2.1.length≤3
 ready:∀t∈b.2.2.1,TxnR t∧t.2.1=2∧t.2.2.1≤b.2.2.2.1
 rasc:b.2.2.1.Pairwise fun x y=>y3c x.2.2.2.2.2.2.2 y.2.2.2.2.2.2.2=true
 below:∀x∈u3z (b.2.1++b.2.2.1),x<b.2.2.2.2
 nodup:(u3z (b.2.1++b.2.2.1)).Nodup
theorem o06 {l:List u0g} {f:u0g→Int} :q2z u1f (fun a b=>decide (f a<f b)) l=true↔l.Pairwise fun x y=>f x<f y:=by
 rw[q38 (t:=u1f) (lt:=fun a b=>decide (f a<f b)) (fun a b c h k=>by simp only[decide_eq_true_eq] at*;omega)]
 simp only[decide_eq_true_eq]
theorem o3p {l:List u0g} :q2z u1f (fun a b=>y3c a.2.2.2.2.2.2.2 b.2.2.2.2.2.2.2) l=true↔l.Pairwise fun x y=>y3c x.2.2.2.2.2.2.2 y.2.2.2.2.2.2.2=true:=
 q38 (t:=u1f) (lt:=fun a b=>y3c a.2.2.2.2.2.2.2 b.2.2.2.2.2.2.2) (fun a b c h k=>r08 h k)
theorem q21 {b:u0i} :u6l b=true↔BaseR b:=by
 unfold u6l q99 q5n
 simp only[Bool.and_eq_true,r5b,decide_eq_true_eq,List.all_eq_true,r4d,s7i,o3p]
 rw[o06 (f:=fun t=>t.2.2.2.1)]
 constructor
 ·rintro⟨h1,h2,h3,h4,⟨h5,h6,h7⟩,⟨h8,h9,h10⟩,h11,h12⟩
  exact⟨h1,h2,h3,h4,h5,h6,h7,h8,h9,h10,h11,h12⟩
 ·intro h
  exact⟨h.vs,h.vcs,h.cs,h.next,⟨h.plen,h.past,h.pasc⟩,⟨h.rlen,h.ready,h.rasc⟩,h.below,h.nodup⟩
structure EngR (e:u2b):Prop where
 base:BaseR e.1
 olen:e.2.length≤4
 open_:∀t∈e.2,TxnR t∧t.2.1=1∧t.2.2.1≤e.1.2.2.2.1
 oasc:e.2.Pairwise fun x y=>x.1<y.1
 below:∀x∈u3z (e.1.2.1++e.1.2.2.1++e.2),x<e.1.2.2.2.2
 nodup:(u3z (e.1.2.1++e.1.2.2.1++e.2)).Nodup
theorem p8o {e:u2b} :p4t e=true↔EngR e:=by
 unfold p4t p3j
 simp only[Bool.and_eq_true,decide_eq_true_eq,List.all_eq_true,r4d,s7i,q21]
 rw[o06 (f:=fun t=>t.1)]
 constructor
 ·rintro⟨h1,⟨h2,h3,h4⟩,h5,h6⟩
  exact⟨h1,h2,h3,h4,h5,h6⟩
 ·intro h
  exact⟨h.base,⟨h.olen,h.open_,h.oasc⟩,h.below,h.nodup⟩
end
section
theorem u45 (l:List Int):(y7g l).size=l.length:=by
 simp[y7g,ByteArray.size]
theorem p4r {s:ByteArray} {i:Nat} (h:i<s.size):s.data.toList.getD i 0=s.data.toList[i]'(by simpa using h):=by
 rw[List.getD_eq_getElem?_getD,List.getElem?_eq_getElem (by simpa using h)]
 rfl
theorem p88 (n m:Nat):Int.tdiv (n:Int) (m:Int)=((n / m:Nat):Int):=(Int.ofNat_tdiv n m).symm
theorem p30 (n m:Nat):Int.tmod (n:Int) (m:Int)=((n % m:Nat):Int):=(Int.ofNat_tmod n m).symm
theorem p7q {n:Nat} (h:n<256):IntKind.u8.wrap (n:Int)=(n:Int):=by
 simp[IntKind.wrap,IntKind.bits,IntKind.signed]
 omega
end
section
abbrev u0k:=List ByteArray×List (Int×ByteArray)
theorem p6e:(⟨#[]⟩:ByteArray)=emp:=rfl
def r0v (a b c:Int):Bool:=decide (b≤a)&&decide (a≤c)
theorem p37 (a b c:Int):u2h (a,b,c)=some (r0v a b c):=by
 rw[q4k];unfold r2k r0v
 simp only[ge_iff_le]
 cases decide (b≤a)<;>rfl
theorem t5n (a b c:Int):u0r (a,b,c)=some (r0v a b c):=by
 rw[q68];unfold r59 r0v
 simp only[ge_iff_le]
 cases decide (b≤a)<;>rfl
theorem s1i {d:u0k} :d.1.length≤o3n.wt d:=by simp only[Ty.wt];omega
theorem s7f {d:u0k} :d.2.length≤o3n.wt d:=by simp only[Ty.wt];omega
theorem p5n {d:u0k} {s:ByteArray} (h:s∈d.1):s.size≤o3n.wt d:=by
 have h1:o3n.wt d=(d.1.length+(d.1.map Ty.str.wt).sum)+(d.2.length+(d.2.map p4c.wt).sum):=rfl
 have h2:=q3t (f:=Ty.str.wt) h
 have h3:Ty.str.wt s=s.size:=rfl
 omega
theorem p5g {d:u0k} {p:Int×ByteArray} (h:p∈d.2):p.2.size≤o3n.wt d:=by
 have h1:o3n.wt d=(d.1.length+(d.1.map Ty.str.wt).sum)+(d.2.length+(d.2.map p4c.wt).sum):=rfl
 have h2:=q3t (f:=p4c.wt) h
 have h3:p4c.wt p=0+p.2.size:=rfl
 omega
def u9t (c:List (Int×ByteArray)) (at_:Int):Option ByteArray:=c.foldl (fun t p=>if p.1=at_ then some p.2 else t) none
def u0h (d:u0k) (at_:Int):ByteArray×Bool:=if 0≤at_∧at_<d.1.length then((u9t d.2 at_).getD (rdL Ty.str d.1 at_.toNat),true) else(emp,false)
theorem s7w (c:List (Int×ByteArray)) (p:Int×ByteArray) (at_:Int):u9t (c++ [p]) at_=if p.1=at_ then some p.2 else u9t c at_:=by
 simp[u9t,List.foldl_append]
theorem r1s {c:List (Int×ByteArray)} {at_:Int} {s:ByteArray} (h:u9t c at_=some s):∃p∈c,p.2=s:=by
 have key:∀(c:List (Int×ByteArray)) (z:Option ByteArray),c.foldl (fun t p=>if p.1=at_ then some p.2 else t) z=some s→z=some s∨ ∃p∈c,p.2=s:=by
  intro c
  induction c with
  | nil=>intro z h;exact .inl h
  | cons p c ih=>
   intro z h
   rw[List.foldl_cons] at h
   rcases ih _ h with h | ⟨q,hq,h⟩
   ·split at h
    ·exact .inr ⟨p,by simp,by simpa using h⟩
    ·exact .inl h
   ·exact .inr ⟨q,by simp[hq],h⟩
 rcases key c none h with h | h
 ·cases h
 ·exact h
theorem r6l (d:u0k) (at_:Int):(u0h d at_).1.size≤o3n.wt d:=by
 unfold u0h
 split
 ·rename_i h
  cases hl:u9t d.2 at_ with
  | none=>
   simp only[Option.getD_none]
   have hi:at_.toNat<d.1.length:=by omega
   rw[y8k (t:=Ty.str) hi]
   exact p5n (List.getElem_mem hi)
  | some s=>
   simp only[Option.getD_some]
   obtain⟨p,hp,rfl⟩:=r1s hl
   exact p5g hp
 ·show 0≤_;omega
theorem p40 (d:u0k) (at_:Int) (hd:d.1.length≤u0p):r0v at_ 0 (IntKind.i64.wrap ((d.1.length:Int) - 1))=decide (0≤at_∧at_<d.1.length):=by
 unfold u0p at hd
 rw[y4y (by omega) (by omega)]
 unfold r0v
 by_cases h:0≤at_∧at_<d.1.length
 ·rw[decide_eq_true h,decide_eq_true h.1,decide_eq_true (by omega)];rfl
 ·rw[decide_eq_false h]
  by_cases h0:0≤at_
  ·rw[decide_eq_true h0,decide_eq_false (by omega)];rfl
  ·rw[decide_eq_false h0];rfl
theorem t7q (d:u0k) (at_:Int) (hd:o3n.wt d≤u0p):u4y (d,at_)=some (u0h d at_):=by
 have h1:d.1.length≤u0p:=Nat.le_trans s1i hd
 have h2:d.2.length≤u0p:=Nat.le_trans s7f hd
 rw[r42];unfold s1a
 simp only[t5n,p40 d at_ h1,zOb]
 unfold u0h
 unfold u0p at h1 h2
 by_cases h:0≤at_∧at_<d.1.length
 ·have hg:y4q at_ d.1.length=true:=by simp[y4q,h]
  have L:∀n:Nat,n≤d.2.length→u69 (at_,d,(n:Int) - 1)=some (match u9t (d.2.take n) at_ with
   | some s=> .inr (s,true)
   | none=> .inl (at_,d)):=by
   intro n
   induction n with
   | zero=>
    intro _
    rw[t8z];simp only[u64]
    rfl
   | succ n ih=>
    intro hn
    have hlt:n<d.2.length:=by omega
    rw[t8z];simp only[u64]
    have e0:((n+1:Nat):Int) - 1=(n:Int):=by simp
    have e1:decide ((n:Int)≥0)=true:=by simp
    simp only[e0,e1,cond_true,y7t hlt,zTn,y8k (t:=p4c) hlt]
    rw[List.take_succ_eq_append_getElem hlt,s7w]
    by_cases hp:(d.2[n]).1=at_
    ·simp only[hp,decide_true,cond_true,if_true]
    ·simp only[hp,decide_false,cond_false,if_false]
     rw[y4y (by omega) (by omega)]
     exact ih (by omega)
  have L:=L d.2.length (Nat.le_refl _)
  rw[List.take_length] at L
  have wl:IntKind.i64.wrap ((d.2.length:Int) - 1)=(d.2.length:Int) - 1:=y4y (by omega) (by omega)
  simp only[h,and_self,decide_true,Bool.not_true,cond_false,if_true]
  rw[wl,L]
  cases u9t d.2 at_ with
  | none=>simp only[zOb,hg,cond_true,Option.getD_none]
  | some s=>rfl
 ·simp only[h,decide_false,Bool.not_false,cond_true,if_false];rfl
def r5k (d:u0k) (from_:Int):Nat→Nat→ByteArray→ByteArray×Bool
 | 0,_,acc=>(acc,true)
 | m+1,i,acc=>if(u0h d (from_+(i:Int))).2 then r5k d from_ m (i+1) (acc++(u0h d (from_+(i:Int))).1) else(emp,false)
def u9x (d:u0k) (from_ n:Int):ByteArray×Bool:=if 0≤n∧n≤100 then r5k d from_ n.toNat 0 emp else(emp,false)
theorem q5f {a b c:Int} :r0v a b c=decide (b≤a∧a≤c):=by
 unfold r0v
 by_cases h:b≤a<;>by_cases g:a≤c<;>simp[h,g]
theorem r79 (d:u0k) (from_ n:Int) (hd:o3n.wt d≤1073741824) (h1: -4611686018427387904≤from_) (h2:from_≤4611686018427387904):t42 (d,from_,n)=some (u9x d from_ n):=by
 have hb:o3n.wt d≤u0p:=by unfold u0p;omega
 rw[r44];unfold s1c u9x
 simp only[t5n,q5f,zOb]
 by_cases h:0≤n∧n≤100
 ·obtain⟨m,rfl⟩:∃m:Nat,n=m:=⟨n.toNat,by omega⟩
  have L:=r1k (fun x=>(u7a x).bind fun r=>match r with
   | .inl o=>some (o,true)
   | .inr z=>some z) m (fun(a:ByteArray) i=>(from_,(m:Int),d,a,i)) (fun i a=>r5k d from_ (m - i) i a) (fun i a=>a.size≤i*1073741824∧(i=0∨0≤from_))
   (fun a _=>by
    rw[t80];simp only[u65,u0b,Nat.lt_irrefl,decide_false,cond_false,zOb,Nat.sub_self,r5k])
   (fun i a hi ha=>by
    have e:m - i=(m - (i+1))+1:=by omega
    have hs:=r6l d (from_+(i:Int))
    rw[t80];simp only[u65,u0b,hi,decide_true,cond_true]
    rw[e]
    simp only[r5k]
    by_cases hf:from_<0∨from_ >(d.1.length:Int)
    ·left
     have hno:(u0h d (from_+(i:Int))).2=false:=by
      unfold u0h
      rw[if_neg (by omega)]
     rw[hno]
     by_cases hf1:from_<0
     ·rw[decide_eq_true hf1];rfl
     ·have hf2:from_ >(d.1.length:Int):=by omega
      rw[decide_eq_false hf1,decide_eq_true hf2];rfl
    ·have hf1: ¬from_<0:=by omega
     have hf2: ¬from_ >(d.1.length:Int):=by omega
     rw[decide_eq_false hf1,decide_eq_false hf2]
     simp only[cond_false,zOb]
     rw[y4y (n:=from_+(i:Int)) (by omega) (by omega),t7q d _ hb]
     simp only[zOb]
     cases hr:(u0h d (from_+(i:Int))).2 with
     | false=>left;rfl
     | true=>
      right
      refine⟨a++(u0h d (from_+(i:Int))).1,⟨by rw[ByteArray.size_append];omega,by omega⟩,by simp,?_⟩
      simp only[Bool.not_true,cond_false,decide_eq_true (show a.size+(u0h d (from_+(i:Int))).1.size≤140737488355328 by omega),cond_true]
      rw[y7l (by omega)]) 0 emp (by omega) ⟨by show 0≤_;omega, .inl rfl⟩
  rw[decide_eq_true h,if_pos h,Bool.not_true,cond_false]
  exact L
 ·rw[decide_eq_false h,if_neg h];rfl
end
section
theorem p20 (v:Nat):(bif decide ((v:Int)<97) then some true else some (decide ((v:Int) >122)))=some (!(decide (97≤v)&&decide (v≤122))):=by
 have e1:decide ((v:Int)<97)= !decide (97≤v):=by by_cases h:97≤v<;>simp[h] <;>omega
 have e2:decide ((v:Int) >122)= !decide (v≤122):=by by_cases h:v≤122<;>simp[h] <;>omega
 rw[e1,e2]
 cases decide (97≤v)<;>cases decide (v≤122)<;>rfl
theorem s8w (a b c:Int):u2h (a,b,c)=some (inB a b c):=p37 a b c
theorem s1o (a b c:Int):u0r (a,b,c)=some (inB a b c):=t5n a b c
theorem t26 {X R:Type} (W:X→Option R) (n:Nat) (mk:Int→X) (ok:Nat→Bool) (yes no:R) (hend:W (mk (n:Int))=some yes)
 (hstep:∀(i:Nat),i<n→W (mk (i:Int))=bif ok i then W (mk ((i+1:Nat):Int)) else some no):W (mk 0)=some (bif (List.range n).all ok then yes else no):=by
 have key:∀d i:Nat,i+d=n→W (mk (i:Int))=some (bif (List.range d).all (fun j=>ok (i+j)) then yes else no):=by
  intro d
  induction d with
  | zero=>intro i hi;have:i=n:=by omega
          subst this;simpa using hend
  | succ d ih=>
   intro i hi
   rw[hstep i (by omega),ih (i+1) (by omega),List.range_succ_eq_map,List.all_cons,List.all_map,Nat.add_zero]
   have e:((fun j=>ok (i+j)) ∘Nat.succ)=fun j=>ok (i+1+j):=by funext j;simp only[Function.comp];congr 1;omega
   rw[e]
   cases ok i<;>rfl
 have:=key n 0 (by omega)
 simpa using this
theorem t7x {t:Ty} (l:List t.den) (f:t.den→Bool):((List.range l.length).all fun i=>f (rdL t l i))=l.all f:=by
 rw[Bool.eq_iff_iff,List.all_eq_true,List.all_eq_true]
 constructor
 ·intro h x hx
  obtain⟨i,hi,rfl⟩:=List.getElem_of_mem hx
  have:=h i (List.mem_range.mpr hi)
  rwa [y8k hi] at this
 ·intro h i hi
  rw[y8k (List.mem_range.mp hi)]
  exact h _ (List.getElem_mem _)
theorem p2v {α:Type} (l:List α) (f g:α→Bool):(l.all fun i=>f i&&g i)=(l.all f&&l.all g):=by
 induction l with
 | nil=>rfl
 | cons x l ih=>simp only[List.all_cons,ih];cases f x<;>cases g x<;>simp
theorem s26 {t:Ty} (l:List t.den) (f:t.den→Bool) (lt:t.den→t.den→Bool):
 ((List.range l.length).all fun i=>f (rdL t l i)&&(decide (i=0) || lt (rdL t l (i - 1)) (rdL t l i)))=(l.all f&&q2z t lt l):=by
 rw[p2v (List.range l.length) (fun i=>f (rdL t l i)) (fun i=>decide (i=0) || lt (rdL t l (i - 1)) (rdL t l i)),t7x]
 rfl
theorem t7g (i:Nat):decide ((i:Int) >0)= !decide (i=0):=by by_cases h:i=0<;>simp[h] <;>omega
theorem t4q {i:Nat} (h:i<4611686018427387904) (h0:i≠0):IntKind.i64.wrap ((i:Int) - (1:Int))=((i - 1:Nat):Int):=by
 rw[y4y (by omega) (by omega)];omega
theorem q5g (s:ByteArray) {i:Nat} (h:i<s.size):s.data.toList.getD i 0=s.data.toList[i]'h:=by
 rw[List.getD_eq_getElem?_getD,List.getElem?_eq_getElem h];rfl
theorem t7o (s:ByteArray) (hs:s.size≤u0p):u60 s=some (u48 s):=by
 have hb:u0p=1099511627776:=rfl
 have L:=t26 t5g s.size (fun i=>(s,i)) (fun i=>(fun b:UInt8=>decide (97≤b.toNat)&&decide (b.toNat≤122)) (s.data.toList.getD i 0)) (.inl s) (.inr false)
  (by rw[r09];simp only[t48,u0b,Nat.lt_irrefl,decide_false,cond_false])
  (fun i hi=>by
   rw[r09];simp only[t48,u0b,hi,decide_true,cond_true,y7t hi,zTn,y7l (show i<4611686018427387904 by omega)]
   rw[p20];simp only[zOb]
   cases (decide (97≤(s.data.toList.getD i 0).toNat)&&decide ((s.data.toList.getD i 0).toNat≤122))<;>rfl)
 have hA:((List.range s.size).all fun i=>(fun b:UInt8=>decide (97≤b.toNat)&&decide (b.toNat≤122)) (s.data.toList.getD i 0))=s.data.toList.all (fun b=>decide (97≤b.toNat)&&decide (b.toNat≤122)):=by
  rw[Bool.eq_iff_iff,List.all_eq_true,List.all_eq_true]
  constructor
  ·intro h x hx
   obtain⟨i,hi,rfl⟩:=List.getElem_of_mem hx
   have:=h i (List.mem_range.mpr hi)
   rwa [q5g s hi] at this
  ·intro h i hi
   rw[q5g s (List.mem_range.mp hi)]
   exact h _ (List.getElem_mem _)
 rw[hA] at L
 rw[q6w];unfold r5x
 simp only[L,zOb]
 unfold u48
 cases s.data.toList.all (fun b=>decide (97≤b.toNat)&&decide (b.toNat≤122))
 ·rfl
 ·simp only[cond_true,s8w,zOb,Bool.true_and]
  unfold inB
  congr 1
  have e1:decide ((1:Int)≤(s.size:Int))=decide (1≤s.size):=by simp;omega
  have e2:decide ((s.size:Int)≤3)=decide (s.size≤3):=by simp;omega
  rw[e1,e2]
theorem t23 (s:ByteArray) (hs:s.size≤u0p):u4t s=some (u48 s):=by
 have hb:u0p=1099511627776:=rfl
 have L:=t26 t5i s.size (fun i=>(s,i)) (fun i=>(fun b:UInt8=>decide (97≤b.toNat)&&decide (b.toNat≤122)) (s.data.toList.getD i 0)) (.inl s) (.inr false)
  (by rw[r1b];simp only[t5a,u0b,Nat.lt_irrefl,decide_false,cond_false])
  (fun i hi=>by
   rw[r1b];simp only[t5a,u0b,hi,decide_true,cond_true,y7t hi,zTn,y7l (show i<4611686018427387904 by omega)]
   rw[p20];simp only[zOb]
   cases (decide (97≤(s.data.toList.getD i 0).toNat)&&decide ((s.data.toList.getD i 0).toNat≤122))<;>rfl)
 have hA:((List.range s.size).all fun i=>(fun b:UInt8=>decide (97≤b.toNat)&&decide (b.toNat≤122)) (s.data.toList.getD i 0))=s.data.toList.all (fun b=>decide (97≤b.toNat)&&decide (b.toNat≤122)):=by
  rw[Bool.eq_iff_iff,List.all_eq_true,List.all_eq_true]
  constructor
  ·intro h x hx
   obtain⟨i,hi,rfl⟩:=List.getElem_of_mem hx
   have:=h i (List.mem_range.mpr hi)
   rwa [q5g s hi] at this
  ·intro h i hi
   rw[q5g s (List.mem_range.mp hi)]
   exact h _ (List.getElem_mem _)
 rw[hA] at L
 rw[q62];unfold r53
 simp only[L,zOb]
 unfold u48
 cases s.data.toList.all (fun b=>decide (97≤b.toNat)&&decide (b.toNat≤122))
 ·rfl
 ·simp only[cond_true,s1o,zOb,Bool.true_and]
  unfold inB
  congr 1
  have e1:decide ((1:Int)≤(s.size:Int))=decide (1≤s.size):=by simp;omega
  have e2:decide ((s.size:Int)≤3)=decide (s.size≤3):=by simp;omega
  rw[e1,e2]
theorem q6f (r:s22) (h1:r.1.size≤u0p) (h2:r.2.size≤u0p):s0j r=some (u18 r):=by
 rw[q01];unfold s9c u18
 simp only[t7o _ h1,t7o _ h2,zOb]
 cases u48 r.1<;>cases u48 r.2<;>rfl
theorem s6b (r:s22) (h1:r.1.size≤u0p) (h2:r.2.size≤u0p):t1h r=some (u18 r):=by
 rw[q1i];unfold s9t u18
 simp only[t23 _ h1,t23 _ h2,zOb]
 cases u48 r.1<;>cases u48 r.2<;>rfl
theorem t2n (s:ByteArray):z7o s (⟨#[]⟩:ByteArray)=decide (s.size=0):=by
 rw[Bool.eq_iff_iff,y7f,decide_eq_true_eq]
 constructor
 ·intro h;subst h;rfl
 ·intro h;exact ByteArray.ext (Array.eq_empty_of_size_eq_zero h)
theorem o27 (s:ByteArray):decide ((s.size:Int)≤12)=decide (s.size≤12):=by simp;omega
theorem q6o (w:WrT) (h1:w.1.size≤u0p):s0m w=some (u19 w):=by
 rw[q06];unfold s9h u19
 simp only[t7o _ h1,zOb,t2n,o27]
 cases u48 w.1<;>cases decide (w.2.1.size≤12)<;>cases w.2.2<;>rfl
theorem s6e (w:WrT) (h1:w.1.size≤u0p):t1i w=some (u19 w):=by
 rw[q1r];unfold s92 u19
 simp only[t23 _ h1,zOb,t2n,o27]
 cases u48 w.1<;>cases decide (w.2.1.size≤12)<;>cases w.2.2<;>rfl
theorem q3s {l:List WrT} {w:WrT} (h:w∈l):w.1.size≤(Ty.sl u12).wt l∧w.2.1.size≤(Ty.sl u12).wt l:=by
 have h1:(Ty.sl u12).wt l=l.length+(l.map u12.wt).sum:=rfl
 have h2:=q3t (f:=u12.wt) h
 have h3:u12.wt w=w.1.size+(w.2.1.size+0):=rfl
 omega
theorem q3g {l:List s22} {w:s22} (h:w∈l):w.1.size≤(Ty.sl u9o).wt l∧w.2.size≤(Ty.sl u9o).wt l:=by
 have h1:(Ty.sl u9o).wt l=l.length+(l.map u9o.wt).sum:=rfl
 have h2:=q3t (f:=u9o.wt) h
 have h3:u9o.wt w=w.1.size+w.2.size:=rfl
 omega
theorem t8r {t:Ty} (l:List t.den):l.length≤(Ty.sl t).wt l:=by
 have h1:(Ty.sl t).wt l=l.length+(l.map t.wt).sum:=rfl
 omega
theorem le8 (n:Nat):decide ((n:Int)≤8)=decide (n≤8):=by simp;omega
theorem gt8 (n:Nat):decide ((n:Int) >8)= !decide (n≤8):=by by_cases h:n≤8<;>simp[h] <;>omega
theorem q36 (l:List WrT) (hl:(Ty.sl u12).wt l≤u0p):t8c l=some (u2i l):=by
 have hb:u0p=1099511627776:=rfl
 have hn:=t8r (t:=u12) l
 have L:=t26 t0l l.length (fun i=>(l,l,(l.length:Int),i)) (fun i=>u19 (rdL u12 l i)&&(decide (i=0) || (fun a b:WrT=>y3c a.1 b.1) (rdL u12 l (i - 1)) (rdL u12 l i))) (.inl l) (.inr false)
  (by rw[s2f];simp only[u93,u0b,Nat.lt_irrefl,decide_false,cond_false])
  (fun i hi=>by
   have hm:rdL u12 l i∈l:=by rw[y8k hi];exact List.getElem_mem hi
   rw[s2f];simp only[u93,u0b,hi,decide_true,cond_true,y7t hi,zTn,y7l (show i<4611686018427387904 by omega),q6o _ (Nat.le_trans (q3s hm).1 hl),zOb,t7g]
   by_cases h0:i=0
   ·subst h0;simp only[decide_true,Bool.not_true,cond_false,Bool.true_or,Bool.and_true]
    cases u19 (rdL u12 l 0)<;>rfl
   ·simp only[h0,decide_false,Bool.not_false,cond_true,Bool.false_or,t4q (show i<4611686018427387904 by omega) h0,y7t (show i - 1<l.length by omega),zTn]
    cases u19 (rdL u12 l i)
    ·rfl
    ·simp only[Bool.not_true,cond_false,zOb,Bool.true_and]
     cases y3c (rdL u12 l (i - 1)).1 (rdL u12 l i).1<;>rfl)
 rw[s26 (t:=u12) l u19 (fun a b=>y3c a.1 b.1)] at L
 rw[r8s];unfold s6j
 simp only[L,zOb]
 unfold u2i
 cases l.all u19
 ·rfl
 ·cases q2z u12 (fun a b=>y3c a.1 b.1) l
  ·rfl
  ·simp only[Bool.true_and,cond_true]
   rw[le8]
theorem r2c (l:List WrT) (hl:(Ty.sl u12).wt l≤u0p):t4e l=some (u2i l):=by
 have hb:u0p=1099511627776:=rfl
 have hn:=t8r (t:=u12) l
 have L:=t26 t0s l.length (fun i=>(l,i)) (fun i=>u19 (rdL u12 l i)&&(decide (i=0) || (fun a b:WrT=>y3c a.1 b.1) (rdL u12 l (i - 1)) (rdL u12 l i))) (.inl l) (.inr false)
  (by rw[s2t];simp only[t0h,u0b,Nat.lt_irrefl,decide_false,cond_false])
  (fun i hi=>by
   have hm:rdL u12 l i∈l:=by rw[y8k hi];exact List.getElem_mem hi
   rw[s2t];simp only[t0h,u0b,hi,decide_true,cond_true,y7t hi,zTn,y7l (show i<4611686018427387904 by omega),s6e _ (Nat.le_trans (q3s hm).1 hl),zOb,t7g]
   by_cases h0:i=0
   ·subst h0;simp only[decide_true,Bool.not_true,cond_false,Bool.true_or,Bool.and_true]
    cases u19 (rdL u12 l 0)<;>rfl
   ·simp only[h0,decide_false,Bool.not_false,cond_true,Bool.false_or,t4q (show i<4611686018427387904 by omega) h0,y7t (show i - 1<l.length by omega),zTn]
    cases u19 (rdL u12 l i)
    ·rfl
    ·simp only[Bool.not_true,cond_false,zOb,Bool.true_and]
     cases y3c (rdL u12 l (i - 1)).1 (rdL u12 l i).1<;>rfl)
 rw[s26 (t:=u12) l u19 (fun a b=>y3c a.1 b.1)] at L
 rw[r9e];unfold s66
 simp only[L,zOb]
 unfold u2i
 cases l.all u19
 ·rfl
 ·cases q2z u12 (fun a b=>y3c a.1 b.1) l
  ·rfl
  ·simp only[Bool.true_and,cond_true]
   rw[le8]
theorem p31 (t:u0g):u1f.wt t=0+(0+(0+(0+((Ty.sl u9o).wt t.2.2.2.2.1+((Ty.sl u12).wt t.2.2.2.2.2.1+(0+t.2.2.2.2.2.2.2.size)))))):=rfl
theorem r4n (t:u0g) (ht:u1f.wt t≤u0p):t3b t=some (u8j t):=by
 have hb:u0p=1099511627776:=rfl
 have hw:=p31 t
 have hn:=t8r (t:=u9o) t.2.2.2.2.1
 have L:=t26 t5h t.2.2.2.2.1.length (fun i=>(t,t.2.2.2.2.1,(t.2.2.2.2.1.length:Int),i)) (fun i=>u18 (rdL u9o t.2.2.2.2.1 i)) (.inl t) (.inr false)
  (by rw[r1a];simp only[t49,u0b,Nat.lt_irrefl,decide_false,cond_false])
  (fun i hi=>by
   have hm:rdL u9o t.2.2.2.2.1 i∈t.2.2.2.2.1:=by rw[y8k hi];exact List.getElem_mem hi
   have hz:=q3g hm
   rw[r1a];simp only[t49,u0b,hi,decide_true,cond_true,y7t hi,zTn,y7l (show i<4611686018427387904 by omega),q6f (rdL u9o t.2.2.2.2.1 i) (Nat.le_trans hz.1 (by omega)) (Nat.le_trans hz.2 (by omega)),zOb]
   cases u18 (rdL u9o t.2.2.2.2.1 i)<;>rfl)
 rw[t7x (t:=u9o) t.2.2.2.2.1 u18] at L
 rw[q6y];unfold r5z
 have k1:=q36 t.2.2.2.2.2.1 (by omega)
 have k2:=t7o t.2.2.2.2.2.2.2 (by omega)
 simp only[L,zOb]
 unfold u8j
 cases t.2.2.2.2.1.all u18
 ·simp only[cond_false,Bool.false_and,Bool.and_false]
 ·simp only[cond_true,s8w,k1,k2,zOb,t2n,gt8,Bool.true_and]
  cases h3:inB t.2.2.1 0 9999
  ·cases inB t.1 1 9999<;>cases inB t.2.1 1 3<;>simp
  ·have h3' :=r5b.mp h3
   rw[y4y (n:=t.2.2.1+1) (by omega) (by omega)]
   cases inB t.1 1 9999<;>cases inB t.2.1 1 3<;>cases decide (t.2.2.2.2.1.length≤8)<;>cases u2i t.2.2.2.2.2.1<;>simp
   generalize inB t.2.2.2.1 (t.2.2.1+1) 9999=b1
   generalize u48 t.2.2.2.2.2.2.2=b2
   by_cases e3:t.2.1=3
   ·cases t.2.2.2.2.2.2.1<;>cases b1<;>simp[e3]
   ·by_cases e2:t.2.1=2
    ·cases t.2.2.2.2.2.2.1<;>cases b2<;>by_cases e5:t.2.2.2.1=0<;>simp[e2,e5]
    ·by_cases e1:t.2.1=1<;>cases t.2.2.2.2.2.2.1<;>by_cases e5:t.2.2.2.1=0<;>simp[e1,e2,e3,e5]
theorem t25 (t:u0g) (ht:u1f.wt t≤u0p):u4v t=some (u8j t):=by
 have hb:u0p=1099511627776:=rfl
 have hw:=p31 t
 have hn:=t8r (t:=u9o) t.2.2.2.2.1
 have L:=t26 t5l t.2.2.2.2.1.length (fun i=>(t,i)) (fun i=>u18 (rdL u9o t.2.2.2.2.1 i)) (.inl t) (.inr false)
  (by rw[r1f];simp only[t5e,u0b,Nat.lt_irrefl,decide_false,cond_false])
  (fun i hi=>by
   have hm:rdL u9o t.2.2.2.2.1 i∈t.2.2.2.2.1:=by rw[y8k hi];exact List.getElem_mem hi
   have hz:=q3g hm
   rw[r1f];simp only[t5e,u0b,hi,decide_true,cond_true,y7t hi,zTn,y7l (show i<4611686018427387904 by omega),s6b (rdL u9o t.2.2.2.2.1 i) (Nat.le_trans hz.1 (by omega)) (Nat.le_trans hz.2 (by omega)),zOb]
   cases u18 (rdL u9o t.2.2.2.2.1 i)<;>rfl)
 rw[t7x (t:=u9o) t.2.2.2.2.1 u18] at L
 rw[q67];unfold r58
 have k1:=r2c t.2.2.2.2.2.1 (by omega)
 have k2:=t23 t.2.2.2.2.2.2.2 (by omega)
 simp only[L,s1o,k1,k2,zOb,t2n,gt8]
 unfold u8j
 cases t.2.2.2.2.1.all u18
 ·cases inB t.1 1 9999<;>cases inB t.2.1 1 3<;>cases inB t.2.2.1 0 9999<;>cases decide (t.2.2.2.2.1.length≤8)<;>cases u2i t.2.2.2.2.2.1<;>simp
 ·simp only[cond_true,Bool.true_and,s1o,k2,zOb,t2n]
  cases h3:inB t.2.2.1 0 9999
  ·cases inB t.1 1 9999<;>cases inB t.2.1 1 3<;>simp
  ·have h3' :=r5b.mp h3
   rw[y4y (n:=t.2.2.1+1) (by omega) (by omega)]
   cases inB t.1 1 9999<;>cases inB t.2.1 1 3<;>cases decide (t.2.2.2.2.1.length≤8)<;>cases u2i t.2.2.2.2.2.1<;>try rfl
   generalize decide (t.2.2.2.2.2.2.2.size=0)=b4
   generalize inB t.2.2.2.1 (t.2.2.1+1) 9999=b1
   generalize u48 t.2.2.2.2.2.2.2=b2
   by_cases e3:t.2.1=3
   ·cases t.2.2.2.2.2.2.1<;>cases b1<;>cases b4<;>simp[e3]
   ·by_cases e2:t.2.1=2
    ·cases t.2.2.2.2.2.2.1<;>cases b2<;>by_cases e5:t.2.2.2.1=0<;>simp[e2,e5]
    ·by_cases e1:t.2.1=1<;>cases t.2.2.2.2.2.2.1<;>cases b4<;>by_cases e5:t.2.2.2.1=0<;>simp[e1,e2,e3,e5]
end
section
section
variable {l:List u1f.den} (hl:p8u l) {u:List Nat} (ho:o09 l=some u)
include hl
include ho
def pre (l:List u1f.den) (u:List Nat) (a:Nat):List u1f.den:=(u.take a).map fun i=>rdL u1f l i
end
end
section
theorem p5p (l:List Int):(y7g l).size=l.length:=by
 simp[y7g,ByteArray.size]
theorem p2m (n:Nat) (b:Int) (hn:n≤1000000):∃t,u8m ((n:Int),b)=some t∧t.size=n:=by
 have key:∀(r i:Nat) (a:List Int),a.length=n→i+r=n→ ∃a' :List Int,u4g ((n:Int),b,a,(i:Int))=some (.inl a')∧a'.length=n:=by
  intro r
  induction r with
  | zero=>
   intro i a ha hi
   have:i=n:=by omega
   subst this
   rw[t2t]
   simp only[u7q,u0b,Nat.lt_irrefl,decide_false,cond_false]
   exact⟨a,rfl,ha⟩
  | succ r ih=>
   intro i a ha hi
   have hlt:i<n:=by omega
   rw[t2t]
   simp only[u7q,u0b,hlt,decide_true,cond_true,y7t (show i<a.length by omega)]
   rw[y7l (by omega)]
   exact ih (i+1) _ (by simp[ha]) (by omega)
 obtain⟨a',e1,h1⟩:=key n 0 (List.replicate n (Ty.int .u8).zero) (by simp) (by omega)
 have e1:u4g ((n:Int),b,List.replicate n (Ty.int .u8).zero,0)=_:=e1
 have hc:(decide (0≤(n:Int))&&decide ((n:Int)≤1099511627776))=true:=by simp;omega
 rw[r0q];unfold s0f
 rw[hc,cond_true]
 simp only[zTn,e1,zOb]
 exact⟨_,rfl,by rw[p5p];exact h1⟩
def p80 (w:u12.den):Prop:=w.1.size≤4∧w.2.1.size≤13
theorem p8e {s:Src} (h:s.ok):Dr (s3k s) p80:=by
 rw[q43];unfold r23
 obtain⟨w,s1,e1,k1,r1⟩:=q9z h
 obtain⟨y2,s2,e2,k2,r2⟩:=u2f k1 (n:=8) (by omega)
 simp only[e1,e2,zOb]
 by_cases c0:y2=0
 ·obtain⟨y3,s3,e3,k3,r3⟩:=s6a k2 (l:= [(⟨#[]⟩:ByteArray),(⟨#[65]⟩:ByteArray),(⟨#[97,98,99,100]⟩:ByteArray),(⟨#[97,98,99]⟩:ByteArray)]) (by decide)
  simp only[c0,decide_true,cond_true,e3,zOb]
  have hz:y3.size≤4:=by
   simp only[List.mem_cons,List.not_mem_nil,or_false] at r3
   rcases r3 with rfl | rfl | rfl | rfl<;>decide
  exact⟨_,_,rfl,k3,hz,by show w.2.1.size≤13;omega⟩
 ·simp only[c0,decide_false,cond_false]
  by_cases c1:y2=1
  ·obtain⟨y4,s4,e4,k4,r4⟩:=u2f k2 (n:=2) (by omega)
   have hw:IntKind.i64.wrap (12+y4)=(((12+y4).toNat:Nat):Int):=by rw[y4y (by omega) (by omega)];omega
   obtain⟨t,e5,h5⟩:=p2m (12+y4).toNat 97 (by omega)
   simp only[c1,decide_true,cond_true,e4,zOb,hw,e5]
   exact⟨_,_,rfl,k4,by show w.1.size≤4;omega,by show t.size≤13;omega⟩
  ·simp only[c1,decide_false,cond_false]
   by_cases c2:y2=2
   ·simp only[c2,decide_true,cond_true]
    exact⟨_,_,rfl,k2,by show w.1.size≤4;omega,by show w.2.1.size≤13;omega⟩
   ·simp only[c2,decide_false,cond_false]
    exact⟨_,_,rfl,k2,by show w.1.size≤4;omega,by show w.2.1.size≤13;omega⟩
def midTx (n:Nat) (t:u1f.den):Prop:=t.2.2.2.2.1.length≤n∧(∀r∈t.2.2.2.2.1,r.1.size≤2∧r.2.size≤2)∧t.2.2.2.2.2.1.length≤n∧(∀r∈t.2.2.2.2.2.1,p80 r)∧t.2.2.2.2.2.2.2.size≤16
theorem midTx.wt {n:Nat} (hn:n≤1000000) {t:u1f.den} (h:midTx n t):u1f.wt t≤u0p:=by
 obtain⟨h1,h2,h3,h4,h5⟩:=h
 have a1:=p0m (l:=t.2.2.2.2.1) (f:=(Ty.pair .str .str).wt) (k:=4) (fun x hx=>by have:=h2 x hx;simp only[Ty.wt];omega)
 have a2:=p0m (l:=t.2.2.2.2.2.1) (f:=(Ty.pair .str (.pair .str .bool)).wt) (k:=17) (fun x hx=>by have:=h4 x hx;unfold p80 at this;simp only[Ty.wt];omega)
 have hw:u1f.wt t=0+(0+(0+(0+((t.2.2.2.2.1.length+(t.2.2.2.2.1.map (Ty.pair .str .str).wt).sum)+((t.2.2.2.2.2.1.length+(t.2.2.2.2.2.1.map (Ty.pair .str (.pair .str .bool)).wt).sum)+(0+t.2.2.2.2.2.2.2.size)))))):=rfl
 rw[hw]
 unfold u0p
 omega
theorem p2s {s:Src} (h:s.ok):Dr (t4k s) (midTx 3):=by
 rw[q47];unfold r27
 obtain⟨y1,s1,e1,k1,r1⟩:=u2f h (n:=6) (by omega)
 obtain⟨y2,s2,e2,k2,r2⟩:=u2f k1 (n:=3) (by omega)
 obtain⟨y3,s3,e3,k3,r3⟩:=u2f k2 (n:=6) (by omega)
 obtain⟨y4,s4,e4,k4,r4⟩:=p2p k3
 obtain⟨y5,s5,e5,k5,r5⟩:=p2u k4
 have hw:∀r∈y5,p80 r:=fun r hr=>by have:=r5.2.1 r hr;exact⟨by omega,by omega⟩
 simp only[e1,e2,e3,e4,e5,zOb]
 cases decide (IntKind.i64.wrap (1+y2)=2) with
 | true=>
  obtain⟨y6,s6,e6,k6,r6⟩:=q9t k5
  obtain⟨y7,s7,e7,k7,r7⟩:=s2y k6 (n:=2) (by omega)
  simp only[cond_true,e6,e7,zOb]
  exact⟨_,_,rfl,k7,r4.1,r4.2,r5.1,hw,by show y6.size≤16;omega⟩
 | false=>
  simp only[cond_false]
  cases decide (IntKind.i64.wrap (1+y2)=3) with
  | true=>
   obtain⟨y8,s8,e8,k8,r8⟩:=u2f k5 (n:=4) (by omega)
   obtain⟨y9,s9,e9,k9,r9⟩:=s2y k8 (n:=2) (by omega)
   simp only[cond_true,e8,e9,zOb]
   exact⟨_,_,rfl,k9,r4.1,r4.2,r5.1,hw,by show ByteArray.size ⟨#[]⟩≤16;decide⟩
  | false=>
   exact⟨_,_,rfl,k5,r4.1,r4.2,r5.1,hw,by show ByteArray.size ⟨#[]⟩≤16;decide⟩
theorem p6v (t:u1f.den) (h1:t.2.2.2.2.1.length≤1000000) (h2:t.2.2.2.2.2.1.length≤1000000):u0w t=some t:=by
 rw[r0s];unfold s0g
 simp only[List.length_nil,Nat.zero_add,List.nil_append,u04 (show t.2.2.2.2.1.length≤1099511627776 by omega),u04 (show t.2.2.2.2.2.1.length≤1099511627776 by omega),cond_true]
theorem p28 {y:Int} (h:0≤y):y4q (Int.tmod y 3) 3=true:=by
 have:=s8s h (n:=3) (by omega)
 exact y7s.mpr ⟨this.1,by simpa using this.2⟩
theorem q33 {s:Src} (h:s.ok):Dr (t4j s) (midTx 4):=by
 rw[q45];unfold r25
 obtain⟨y1,s1,e1,k1,r1⟩:=u2f h (n:=12) (by omega)
 obtain⟨y2,s2,e2,k2,r2⟩:=u2f k1 (n:=60) (by omega)
 obtain⟨t,s3,e3,k3,m1,m2,m3,m4,m5⟩:=p2s k2
 have hc:=p6v t (by omega) (by omega)
 have hi:=p28 r2.1
 simp only[e1,e2,e3,hc,zOb,List.length_cons,List.length_nil,Nat.zero_add,Nat.reduceAdd,hi,cond_true]
 have base:midTx 4 t:=⟨by omega,m2,by omega,m4,m5⟩
 obtain⟨b1,b2,b3,b4,b5⟩:=base
 cases decide (y1=0) with
 | true=>exact⟨_,_,rfl,k3,b1,b2,b3,b4,b5⟩
 | false=>
  simp only[cond_false]
  cases decide (y1=1) with
  | true=>exact⟨_,_,rfl,k3,b1,b2,b3,b4,b5⟩
  | false=>
   simp only[cond_false]
   cases decide (y1=2) with
   | true=>exact⟨_,_,rfl,k3,b1,b2,b3,b4,b5⟩
   | false=>
    simp only[cond_false]
    cases decide (y1=3) with
    | true=>
     refine⟨_,_,rfl,k3,b1,b2,b3,b4,?_⟩
     show(rdL Ty.str _ _).size≤16
     have hr:=s8s r2.1 (n:=3) (by omega)
     have:(Int.tmod y2 3).toNat=0∨(Int.tmod y2 3).toNat=1∨(Int.tmod y2 3).toNat=2:=by omega
     rcases this with q | q | q<;>rw[q] <;>decide
    | false=>
     simp only[cond_false]
     cases decide (y1=4) with
     | true=>
      simp only[cond_true,u04 (show t.2.2.2.2.1.length+1≤1099511627776 by omega)]
      refine⟨_,_,rfl,k3,by show(t.2.2.2.2.1++ [_]).length≤4;simp;omega,?_,b3,b4,b5⟩
      intro r hr
      rcases List.mem_append.mp hr with q | q
      ·exact b2 r q
      ·simp only[List.mem_singleton] at q
       subst q
       exact⟨by decide,by decide⟩
     | false=>
      simp only[cond_false]
      cases decide (y1=5) with
      | true=>
       obtain⟨w,s4,e4,k4,r4⟩:=p8e k3
       simp only[cond_true,e4,zOb,u04 (show t.2.2.2.2.2.1.length+1≤1099511627776 by omega)]
       refine⟨_,_,rfl,k4,b1,b2,by show(t.2.2.2.2.2.1++ [_]).length≤4;simp;omega,?_,b5⟩
       intro r hr
       rcases List.mem_append.mp hr with q | q
       ·exact b4 r q
       ·simp only[List.mem_singleton] at q
        subst q
        exact r4
      | false=>
       simp only[cond_false]
       cases decide (y1=6) with
       | true=>exact⟨_,_,rfl,k3,b1,b2,b3,b4,b5⟩
       | false=>exact⟨_,_,rfl,k3,b1,b2,b3,b4,b5⟩
end
section
theorem p0p {l:List u14} {w:u14} (h:w∈l):w.1.size≤(Ty.sl u0c).wt l∧w.2.1.size≤(Ty.sl u0c).wt l:=by
 have h1:(Ty.sl u0c).wt l=l.length+(l.map u0c.wt).sum:=rfl
 have h2:=q3t (f:=u0c.wt) h
 have h3:u0c.wt w=w.1.size+(w.2.1.size+(0+0)):=rfl
 omega
theorem o0b (n:Nat):decide ((n:Int) >12)= !decide (n≤12):=by by_cases h:n≤12<;>simp[h] <;>omega
theorem p8s (n:Nat):decide ((n:Int)≤120)=decide (n≤120):=by simp;omega
theorem r9p (a b:Int):decide (a≥b)= !decide (a<b):=by
 by_cases h:a<b
 ·have: ¬a≥b:=by omega
  simp[h,this]
 ·have:a≥b:=by omega
  simp[h,this]
theorem r9r (a b:Int):decide (a >b)= !decide (a≤b):=by
 by_cases h:a≤b
 ·have: ¬a >b:=by omega
  simp[h,this]
 ·have:a >b:=by omega
  simp[h,this]
theorem p63 (a b:u14):∃r,u38 (a,b)=some r∧decide (r≥0)= !t94 a b:=by
 rw[t57];unfold u9n t94
 simp only[q2n,zOb]
 rcases r1y a.1 b.1 with h | h | h
 ·exact⟨-1,by simp[h],by simp[h]⟩
 ·simp only[h,u52,y6l,Bool.false_eq_true,if_false,if_true,decide_true,Bool.not_true,cond_false,p2c,zOb,Bool.false_or,Bool.true_and]
  refine⟨_,rfl,?_⟩
  by_cases h3:a.2.2.2<b.2.2.2
  ·simp[h3]
  ·by_cases h4:a.2.2.2 >b.2.2.2<;>simp[h3,h4]
 ·have e1:=s3o h
  have e2:z7o a.1 b.1=false:=q9m.mpr (fun e=>by rw[e,u52] at h;cases h)
  exact⟨1,by simp[e1,e2],by simp[e1,e2]⟩
theorem r8a (l:List u14) (hl:(Ty.sl u0c).wt l≤u0p):t4x l=some (u5l l):=by
 have hb:u0p=1099511627776:=rfl
 have hn:=t8r (t:=u0c) l
 have L:=t26 u67 l.length (fun i=>(l,l,(l.length:Int),i)) (fun i=>r12 (rdL u0c l i)&&(decide (i=0) || t94 (rdL u0c l (i - 1)) (rdL u0c l i))) (.inl l) (.inr false)
  (by rw[t8w];simp only[u61,u0b,Nat.lt_irrefl,decide_false,cond_false])
  (fun i hi=>by
   have hm:rdL u0c l i∈l:=by rw[y8k hi];exact List.getElem_mem hi
   rw[t8w];simp only[u61,u0b,hi,decide_true,cond_true,y7t hi,zTn,y7l (show i<4611686018427387904 by omega),t7o _ (Nat.le_trans (p0p hm).1 hl),s8w,zOb,t7g,t2n,o0b]
   unfold r12
   generalize u48 (rdL u0c l i).1=b1
   generalize decide ((rdL u0c l i).2.1.size≤12)=b2
   generalize decide ((rdL u0c l i).2.1.size=0)=b3
   generalize (rdL u0c l i).2.2.1=b4
   generalize inB (rdL u0c l i).2.2.2 1 9999=b5
   by_cases h0:i=0
   ·subst h0;simp only[decide_true,Bool.not_true,cond_false,Bool.true_or,Bool.and_true]
    cases b1<;>cases b2<;>cases b3<;>cases b4<;>cases b5<;>rfl
   ·obtain⟨r,hr,hr2⟩:=p63 (rdL u0c l (i - 1)) (rdL u0c l i)
    simp only[h0,decide_false,Bool.not_false,cond_true,Bool.false_or,t4q (show i<4611686018427387904 by omega) h0,y7t (show i - 1<l.length by omega),zTn,hr,hr2,zOb]
    cases t94 (rdL u0c l (i - 1)) (rdL u0c l i)<;>cases b1<;>cases b2<;>cases b3<;>cases b4<;>cases b5<;>rfl)
 rw[s26 (t:=u0c) l r12 t94] at L
 rw[r4x];unfold s05
 simp only[L,zOb]
 unfold u5l
 cases l.all r12
 ·rfl
 ·cases q2z u0c t94 l
  ·rfl
  ·simp only[Bool.true_and,cond_true]
   rw[p8s]
theorem r8b (l:List u14) (hl:(Ty.sl u0c).wt l≤u0p):t43 l=some (u5l l):=by
 have hb:u0p=1099511627776:=rfl
 have hn:=t8r (t:=u0c) l
 have L:=t26 u7b l.length (fun i=>(l,i)) (fun i=>r12 (rdL u0c l i)&&(decide (i=0) || t94 (rdL u0c l (i - 1)) (rdL u0c l i))) (.inl l) (.inr false)
  (by rw[t81];simp only[u66,u0b,Nat.lt_irrefl,decide_false,cond_false])
  (fun i hi=>by
   have hm:rdL u0c l i∈l:=by rw[y8k hi];exact List.getElem_mem hi
   rw[t81];simp only[u66,u0b,hi,decide_true,cond_true,y7t hi,zTn,y7l (show i<4611686018427387904 by omega),t23 _ (Nat.le_trans (p0p hm).1 hl),s1o,zOb,t7g,t2n,o0b]
   unfold r12 t94
   generalize u48 (rdL u0c l i).1=b1
   generalize decide ((rdL u0c l i).2.1.size≤12)=b2
   generalize decide ((rdL u0c l i).2.1.size=0)=b3
   generalize (rdL u0c l i).2.2.1=b4
   generalize inB (rdL u0c l i).2.2.2 1 9999=b5
   by_cases h0:i=0
   ·subst h0;simp only[decide_true,Bool.not_true,cond_false,Bool.true_or,Bool.and_true]
    cases b1<;>cases b2<;>cases b3<;>cases b4<;>cases b5<;>rfl
   ·simp only[h0,decide_false,Bool.not_false,cond_true,Bool.false_or,t4q (show i<4611686018427387904 by omega) h0,y7t (show i - 1<l.length by omega),zTn,zOb]
    rcases r1y (rdL u0c l (i - 1)).1 (rdL u0c l i).1 with h | h | h
    ·have e2:z7o (rdL u0c l (i - 1)).1 (rdL u0c l i).1=false:=q9m.mpr (fun e=>by rw[e,u52] at h;cases h)
     rw[h,e2]
     cases b1<;>cases b2<;>cases b3<;>cases b4<;>cases b5<;>rfl
    ·rw[h,u52,y6l]
     rw[r9p]
     cases decide ((rdL u0c l (i - 1)).2.2.2<(rdL u0c l i).2.2.2)<;>cases b1<;>cases b2<;>cases b3<;>cases b4<;>cases b5<;>rfl
    ·have e1:=s3o h
     have e2:z7o (rdL u0c l (i - 1)).1 (rdL u0c l i).1=false:=q9m.mpr (fun e=>by rw[e,u52] at h;cases h)
     rw[e1,e2]
     cases b1<;>cases b2<;>cases b3<;>cases b4<;>cases b5<;>rfl)
 rw[s26 (t:=u0c) l r12 t94] at L
 rw[r45];unfold s1d
 simp only[L,zOb]
 unfold u5l
 cases l.all r12
 ·rfl
 ·cases q2z u0c t94 l
  ·rfl
  ·simp only[Bool.true_and,cond_true]
   rw[p8s]
theorem p4i (n:Nat) (hn:n≤1099511627776):u8q ((),(n:Int))=some [] :=by
 rw[s57];unfold t4s
 have e0:IntKind.i64.wrap ((0:Int) - (0:Int))=0:=by rw[y4y (by omega) (by omega)];rfl
 have e1:IntKind.i64.wrap ((n:Int) - 0)=(n:Int):=by rw[y4y (by omega) (by omega)];omega
 have e2:decide ((n:Int)<0)=false:=decide_eq_false (by omega)
 simp only[e0,e1,e2,cond_false]
 by_cases h:n=0
 ·subst h;simp
 ·have e3:decide ((n:Int) >0)=true:=by simp;omega
  have e4:(decide ((1:Int)≤(n:Int))&&decide ((n:Int)≤1099511627776))=true:=by simp;omega
  simp only[e3,e4,cond_true]
  simp
theorem p0u (ls:List (List u0g)) (h:ls.flatten.length≤1099511627776) (hn:ls.length≤1099511627776):u4d ls=some ls.flatten:=by
 have fl:∀(i:Nat),i≤ls.length→(ls.take i).flatten.length≤ls.flatten.length:=fun i _=>by
  have:=List.take_append_drop i ls
  have h2:ls.flatten=(ls.take i).flatten++(ls.drop i).flatten:=by rw[←List.flatten_append,this]
  rw[h2,List.length_append];omega
 have st:∀(i:Nat) (hi:i<ls.length),(ls.take (i+1)).flatten=(ls.take i).flatten++ls[i] :=fun i hi=>by
  rw[List.take_add_one,List.getElem?_eq_getElem hi,List.flatten_append];simp
 have L1:=r1k u17 ls.length (fun(n:Nat) i=>(ls,(n:Int),ls,(ls.length:Int),i)) (fun _ _=> .inl (ls,(ls.flatten.length:Int))) (fun i n=>n=(ls.take i).flatten.length)
  (fun n hP=>by
   rw[List.take_length] at hP;subst hP
   rw[t03];simp only[u3t,u0b,Nat.lt_irrefl,decide_false,cond_false])
  (fun i n hi hP=> .inr ⟨(ls.take (i+1)).flatten.length,rfl,rfl,by
   have h1:=fl (i+1) (by omega)
   have h2:(ls.take (i+1)).flatten.length=n+ls[i].length:=by rw[st i hi,List.length_append,hP]
   have e1:IntKind.i64.wrap ((n:Int)+((ls[i].length:Nat):Int))=((n+ls[i].length:Nat):Int):=by rw[y4y (by omega) (by omega)];omega
   have e2:decide (((n+ls[i].length:Nat):Int)<0)=false:=by simp;omega
   rw[t03];simp only[u3t,u0b,hi,decide_true,cond_true,y7t hi,zTn,y8k (t:=Ty.sl u1f) hi,y7l (show i<4611686018427387904 by omega),h2]
   rw[e1,e2];rfl⟩) 0 0 (by omega) rfl
 have L2:=r1k u11 ls.length (fun(a:List u0g) i=>(a,ls,(ls.length:Int),i)) (fun _ _=> .inl ls.flatten) (fun i a=>a=(ls.take i).flatten)
  (fun a hP=>by
   rw[List.take_length] at hP;subst hP
   rw[u9y];simp only[u24,u0b,Nat.lt_irrefl,decide_false,cond_false])
  (fun i a hi hP=> .inr ⟨(ls.take (i+1)).flatten,rfl,rfl,by
   have h1:=fl (i+1) (by omega)
   have h2:(ls.take (i+1)).flatten.length=a.length+ls[i].length:=by rw[st i hi,List.length_append,hP]
   rw[u9y];simp only[u24,u0b,hi,decide_true,cond_true,y7t hi,zTn,y8k (t:=Ty.sl u1f) hi,y7l (show i<4611686018427387904 by omega)]
   rw[u04 (show a.length+ls[i].length≤1099511627776 by omega),st i hi,hP];rfl⟩) 0 [] (by omega) rfl
 rw[s1k];unfold t28
 have L1' :u17 (ls,(0:Int),ls,(ls.length:Int),0)=some (.inl (ls,(ls.flatten.length:Int))):=L1
 have L2' :u11 ([],ls,(ls.length:Int),0)=some (.inl ls.flatten):=L2
 simp only[L1',zOb,p4i _ h,L2']
end
end
end Go.Proofs.YtbkicjpdlchbgaaGreat.Ab
