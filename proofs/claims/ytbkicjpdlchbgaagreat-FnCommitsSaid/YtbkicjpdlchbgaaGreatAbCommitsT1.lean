import Derived.Test.YtbkicjpdlchbgaaGreatAbCommitsG2
import Derived.Test.YtbkicjpdlchbgaaGreatAbK2
import Derived.Test.YtbkicjpdlchbgaaGreatAbF4
import Derived.Test.YtbkicjpdlchbgaaGreatAbS2
namespace Go.Proofs.YtbkicjpdlchbgaaGreat.Ab
open Go
set_option linter.unusedVariables false
set_option linter.unusedSimpArgs false
set_option linter.unnecessarySimpa false
section
section
theorem p6y (n:Int):IntKind.u8.wrap n=n % 256:=by
 simp[IntKind.wrap,IntKind.bits,IntKind.signed]
theorem u0b (a b:Nat):decide ((a:Int)<(b:Int))=decide (a<b):=by simp
theorem r3c {X R A:Type} (W:X→Option R) (n:Nat) (mk:A→Int→X) (res:Nat→A→R) (P:Nat→A→Prop)
 (hend:∀a,P n a→W (mk a (n:Int))=some (res n a))
 (hstep:∀(i:Nat) a,i<n→P i a→W (mk a (i:Int))=some (res i a)∨ ∃a',P (i+1) a' ∧res (i+1) a' =res i a∧W (mk a (i:Int))=W (mk a' ((i+1:Nat):Int))):
 ∀(i:Nat) a,i≤n→P i a→W (mk a (i:Int))=some (res i a):=by
 intro i a hi hP
 obtain⟨d,hd⟩:∃d,i+d=n:=⟨n - i,by omega⟩
 clear hi
 induction d generalizing i a with
 | zero=>
  have:i=n:=by omega
  subst this
  exact hend a hP
 | succ d ih=>
  rcases hstep i a (by omega) hP with h | ⟨a',h1,h2,h3⟩
  ·exact h
  ·rw[h3,ih (i+1) a' h1 (by omega),h2]
def p86 {E A R:Type} (f:Nat→E→A→A⊕R) (fin:A→R):Nat→List E→A→R
 | _, [],a=>fin a
 | i,x::l,a=>match f i x a with
  | .inl a' =>p86 f fin (i+1) l a'
  | .inr r=>r
theorem p82 {X R A E:Type} (W:X→Option R) (l:List E) (mk:A→Int→X) (f:Nat→E→A→A⊕R) (fin:A→R) (P:Nat→A→Prop)
 (hend:∀a,P l.length a→W (mk a (l.length:Int))=some (fin a))
 (hstep:∀(i:Nat) (h:i<l.length) a,P i a→match f i l[i] a with
  | .inl a' =>P (i+1) a' ∧W (mk a (i:Int))=W (mk a' ((i+1:Nat):Int))
  | .inr r=>W (mk a (i:Int))=some r) (a:A) (hP:P 0 a):W (mk a 0)=some (p86 f fin 0 l a):=by
 have key:=r3c W l.length mk (fun i a=>p86 f fin i (l.drop i) a) P (fun a h=>by
  rw[hend a h,List.drop_eq_nil_of_le (Nat.le_refl _)];rfl) (fun i a hi hP=>by
   have hs:=hstep i hi a hP
   have hd:l.drop i=l[i] ::l.drop (i+1):=List.drop_eq_getElem_cons hi
   rw[hd]
   simp only[p86]
   cases hf:f i l[i] a with
   | inl a' =>
    rw[hf] at hs
    exact .inr ⟨a',hs.1,rfl,hs.2⟩
   | inr r=>
    rw[hf] at hs
    exact .inl hs) 0 a (Nat.zero_le _) hP
 exact key
def szr (b:Int) (w:Nat):Int:=if(w:Int)≤b then b - w else -1
def Ty.wt:(t:Ty)→t.den→Nat
 | .int _,_=>0
 | .bool,_=>0
 | .str,s=>s.size
 | .sl e,l=>l.length+(l.map e.wt).sum
 | .pair a b,x=>a.wt x.1+b.wt x.2
theorem s4l {X R E:Type} (W:X→Option R) (l:List E) (mk:Int→X) (p:E→Bool) (yes no:R) (hend:W (mk (l.length:Int))=some no)
 (hstep:∀(i:Nat) (h:i<l.length),W (mk (i:Int))=bif p l[i] then some yes else W (mk ((i+1:Nat):Int))):W (mk 0)=some (bif l.any p then yes else no):=by
 have:=p82 W l (fun(_:Unit) i=>mk i) (fun _ x _=>if p x then .inr yes else .inl ()) (fun _=>no) (fun _ _=>True) (fun _ _=>hend) (fun i h a _=>by
  have hs:=hstep i h
  cases hp:p l[i] with
  | true=>simp only[hp,cond_true] at hs;simp only[if_true];exact hs
  | false=>simp only[hp,cond_false] at hs;simp only[Bool.false_eq_true,if_false];exact⟨trivial,hs⟩) () trivial
 rw[this]
 congr 1
 have key:∀(l:List E) (i:Nat),p86 (fun _ x (_:Unit)=>if p x then .inr yes else .inl ()) (fun _=>no) i l ()=bif l.any p then yes else no:=by
  intro l
  induction l with
  | nil=>intro i;rfl
  | cons x l ih=>
   intro i
   simp only[p86,List.any_cons]
   cases hp:p x with
   | true=>simp
   | false=>simp only[Bool.false_eq_true,if_false,Bool.false_or];exact ih _
 exact key l 0
theorem t7v {X R E A:Type} (W:X→Option R) (l:List E) (mk:A→Int→X) (f:A→E→A) (fin:A→R) (P:Nat→A→Prop)
 (hend:∀a,P l.length a→W (mk a (l.length:Int))=some (fin a))
 (hstep:∀(i:Nat) (h:i<l.length) a,P i a→P (i+1) (f a l[i])∧W (mk a (i:Int))=W (mk (f a l[i]) ((i+1:Nat):Int))) (a:A) (hP:P 0 a):W (mk a 0)=some (fin (l.foldl f a)):=by
 have:=p82 W l mk (fun _ x a=> .inl (f a x)) fin P hend (fun i h a hp=>hstep i h a hp) a hP
 rw[this]
 congr 1
 have key:∀(l:List E) (i:Nat) (a:A),p86 (fun _ x a=>(.inl (f a x):A⊕R)) fin i l a=fin (l.foldl f a):=by
  intro l
  induction l with
  | nil=>intro i a;rfl
  | cons x l ih=>intro i a;simp only[p86,List.foldl_cons];exact ih _ _
 exact key l 0 a
theorem s0p {X R E B:Type} (W:X→Option R) (l:List E) (mk:List B→Int→X) (p:E→Bool) (g:E→B) (fin:List B→R) (hl:l.length≤1099511627776)
 (hend:∀a:List B,a.length≤l.length→W (mk a (l.length:Int))=some (fin a))
 (hstep:∀(i:Nat) (h:i<l.length) (a:List B),a.length≤i→W (mk a (i:Int))=bif p l[i] then W (mk (a++ [g l[i]]) ((i+1:Nat):Int)) else W (mk a ((i+1:Nat):Int))):W (mk [] 0)=some (fin ((l.filter p).map g)):=by
 have:=t7v W l mk (fun a x=>if p x then a++ [g x] else a) fin (fun i a=>a.length≤i) hend (fun i h a hp=>by
  have hs:=hstep i h a hp
  cases hc:p l[i] with
  | true=>
   simp only[hc,cond_true] at hs
   simp only[if_true]
   exact⟨by simp;omega,hs⟩
  | false=>
   simp only[hc,cond_false] at hs
   simp only[Bool.false_eq_true,if_false]
   exact⟨by omega,hs⟩) [] (Nat.le_refl 0)
 rw[this]
 congr 1
 have key:∀(l:List E) (a:List B),l.foldl (fun a x=>if p x then a++ [g x] else a) a=a++(l.filter p).map g:=by
  intro l
  induction l with
  | nil=>intro a;simp
  | cons x l ih=>
   intro a
   simp only[List.foldl_cons,ih,List.filter_cons]
   cases hp:p x<;>simp
 rw[key];simp
end
section
theorem q47 (b:ByteArray):b.toList=toS b:=by rw[ByteArray.toList_eq];rfl
theorem p97 {a b:ByteArray} (h:toS a=toS b):a=b:=by rw[←y8p a,h,y8p]
theorem r7z:∀(x y:List UInt8),Op.bytesLess x y=decide (x<y)
 | x, [] =>by simp[Op.bytesLess]
 | [],y::ys=>by simp[Op.bytesLess]
 | x::xs,y::ys=>by
  rw[Op.bytesLess,r7z xs ys,Bool.eq_iff_iff]
  simp[List.cons_lt_cons_iff]
theorem p6o {a b:ByteArray} :y3c a b=true↔toS a<toS b:=by
 unfold y3c
 rw[q47,q47,r7z]
 simp
theorem o25 {a b:ByteArray} :y3c a b=false↔ ¬toS a<toS b:=by
 rw[←p6o];simp
theorem o1g (x:List UInt8): ¬x<x:=List.lt_irrefl x
theorem o1h {x y z:List UInt8} (h:x<y) (k:y<z):x<z:=List.lt_trans h k
theorem o1i (x y:List UInt8):x<y∨x=y∨y<x:=by
 rcases List.le_total x y with h | h
 ·rcases List.le_iff_lt_or_eq.mp h with h | h
  ·exact .inl h
  ·exact .inr (.inl h)
 ·rcases List.le_iff_lt_or_eq.mp h with h | h
  ·exact .inr (.inr h)
  ·exact .inr (.inl h.symm)
theorem u6w (a:ByteArray):y3c a a=false:=o25.mpr (o1g _)
theorem s9n {a b c:ByteArray} (h:y3c a b=true) (k:y3c b c=true):y3c a c=true:=p6o.mpr (o1h (p6o.mp h) (p6o.mp k))
theorem r3t (a b:ByteArray):y3c a b=true∨a=b∨y3c b a=true:=by
 rcases o1i (toS a) (toS b) with h | h | h
 ·exact .inl (p6o.mpr h)
 ·exact .inr (.inl (p97 h))
 ·exact .inr (.inr (p6o.mpr h))
theorem s1f {a b:ByteArray} (h:y3c a b=true):y3c b a=false:=by
 cases k:y3c b a with
 | false=>rfl
 | true=>exact absurd (s9n h k) (by rw[u6w];exact Bool.false_ne_true)
theorem q12 {a b:ByteArray} :z7o a b=false↔a≠b:=by
 rw[←Bool.not_eq_true,y7f]
theorem q44 (a b:ByteArray):z7o a b=z7o b a:=by
 rw[Bool.eq_iff_iff,y7f,y7f]
 exact⟨Eq.symm,Eq.symm⟩
theorem q9b {a b:ByteArray} :(!(y3c a b || z7o a b))=y3c b a:=by
 rcases r3t a b with h | h | h
 ·rw[h,s1f h];rfl
 ·subst h;rw[u6w,y6l];rfl
 ·rw[s1f h,h]
  have:z7o a b=false:=q12.mpr (fun e=>by subst e;rw[u6w] at h;cases h)
  rw[this];rfl
def Asc (l:List ByteArray):Prop:=l.Pairwise fun a b=>y3c a b=true
theorem Asc.ext:∀ {l m:List ByteArray},Asc l→Asc m→(∀x,x∈l↔x∈m)→l=m
 | [], [],_,_,_=>rfl
 | [],y::m,_,_,h=>by have:=(h y).mpr (by simp);simp at this
 | x::l, [],_,_,h=>by have:=(h x).mp (by simp);simp at this
 | x::l,y::m,hl,hm,h=>by
  have hl' :=List.pairwise_cons.mp hl
  have hm' :=List.pairwise_cons.mp hm
  have hxy:x=y:=by
   rcases List.mem_cons.mp ((h x).mp (by simp)) with e | e
   ·exact e
   ·rcases List.mem_cons.mp ((h y).mpr (by simp)) with e' | e'
    ·exact e'.symm
    ·have:=s9n (hm'.1 x e) (hl'.1 y e')
     rw[u6w] at this;cases this
  subst hxy
  congr 1
  refine Asc.ext hl'.2 hm'.2 fun z=> ?_
  constructor
  ·intro hz
   rcases List.mem_cons.mp ((h z).mp (by simp[hz])) with e | e
   ·subst e;have:=hl'.1 z hz;rw[u6w] at this;cases this
   ·exact e
  ·intro hz
   rcases List.mem_cons.mp ((h z).mpr (by simp[hz])) with e | e
   ·subst e;have:=hm'.1 z hz;rw[u6w] at this;cases this
   ·exact e
theorem Asc.filter {l:List ByteArray} (h:Asc l) (p:ByteArray→Bool):Asc (l.filter p):=List.Pairwise.filter p h
def p4v (k:ByteArray) (l:List ByteArray):List ByteArray:=l.filter (fun x=>y3c x k)++ [k] ++l.filter (fun x=> !(y3c x k || z7o x k))
theorem p7s {k x:ByteArray} {l:List ByteArray} :x∈p4v k l↔x=k∨x∈l:=by
 simp only[p4v,List.mem_append,List.mem_filter,List.mem_singleton,q9b]
 constructor
 ·rintro((h | h) | h)
  ·exact .inr h.1
  ·exact .inl h
  ·exact .inr h.1
 ·rintro(h | h)
  ·exact .inl (.inr h)
  ·rcases r3t x k with e | e | e
   ·exact .inl (.inl ⟨h,e⟩)
   ·exact .inl (.inr e)
   ·exact .inr ⟨h,e⟩
theorem p7l {k:ByteArray} {l:List ByteArray} (h:Asc l):Asc (p4v k l):=by
 unfold Asc p4v
 rw[List.pairwise_append,List.pairwise_append]
 refine⟨⟨h.filter _,by simp,fun a ha b hb=> ?_⟩,h.filter _,fun a ha b hb=> ?_⟩
 ·simp only[List.mem_singleton] at hb
  subst hb
  exact(List.mem_filter.mp ha).2
 ·have hb:=(List.mem_filter.mp hb).2
  rw[q9b] at hb
  rcases List.mem_append.mp ha with ha | ha
  ·exact s9n (List.mem_filter.mp ha).2 hb
  ·simp only[List.mem_singleton] at ha
   subst ha
   exact hb
theorem p5v {l:List ByteArray} :∀ {a:List ByteArray},Asc a→Asc (l.foldl (fun a k=>p4v k a) a)∧ ∀x,x∈l.foldl (fun a k=>p4v k a) a↔x∈l∨x∈a:=by
 induction l with
 | nil=>intro a h;exact⟨h,fun x=>by simp⟩
 | cons k l ih=>
  intro a h
  obtain⟨h1,h2⟩:=ih (p7l (k:=k) h)
  refine⟨h1,fun x=> ?_⟩
  rw[List.foldl_cons,h2,p7s,List.mem_cons]
  constructor
  ·rintro(q | q | q)
   ·exact .inl (.inr q)
   ·exact .inl (.inl q)
   ·exact .inr q
  ·rintro((q | q) | q)
   ·exact .inr (.inl q)
   ·exact .inl q
   ·exact .inr (.inr q)
theorem r70 (d:Array (List UInt8)) (hs:∀i j:Nat,i≤j→j<d.size→d[i]! ≤d[j]!):∀m,m≤d.size→(Lib.compactUpTo d m).Pairwise (·< ·)∧(∀x,x∈Lib.compactUpTo d m↔ ∃i,i<m∧d[i]! =x)
 | 0,_=>by simp[Lib.compactUpTo]
 | m+1,hm=>by
  obtain⟨h1,h2⟩:=r70 d hs m (by omega)
  rw[Lib.compactUpTo_succ]
  by_cases hk:Lib.keeps d m=true
  ·rw[if_pos hk]
   constructor
   ·rw[List.pairwise_append]
    refine⟨h1,by simp,fun a ha b hb=> ?_⟩
    simp only[List.mem_singleton] at hb
    subst hb
    obtain⟨i,hi,rfl⟩:=(h2 a).mp ha
    unfold Lib.keeps at hk
    have hk:=of_decide_eq_true hk
    rcases hk with hk | hk
    ·omega
    ·have l1:=hs i (m - 1) (by omega) (by omega)
     have l2:=hs (m - 1) m (by omega) (by omega)
     rcases List.le_iff_lt_or_eq.mp l2 with l2 | l2
     ·rcases List.le_iff_lt_or_eq.mp l1 with l1 | l1
      ·exact o1h l1 l2
      ·rw[l1];exact l2
     ·exact absurd l2.symm hk
   ·intro x
    simp only[List.mem_append,List.mem_singleton,h2]
    constructor
    ·rintro(⟨i,hi,rfl⟩ | rfl)
     ·exact⟨i,by omega,rfl⟩
     ·exact⟨m,by omega,rfl⟩
    ·rintro⟨i,hi,rfl⟩
     rcases Nat.lt_or_ge i m with q | q
     ·exact .inl ⟨i,q,rfl⟩
     ·exact .inr (by rw[show i=m by omega])
  ·rw[if_neg hk,List.append_nil]
   refine⟨h1,fun x=> ?_⟩
   rw[h2]
   unfold Lib.keeps at hk
   simp only[decide_eq_true_eq,not_or,ne_eq,Decidable.not_not] at hk
   constructor
   ·rintro⟨i,hi,rfl⟩;exact⟨i,by omega,rfl⟩
   ·rintro⟨i,hi,rfl⟩
    rcases Nat.lt_or_ge i m with q | q
    ·exact⟨i,q,rfl⟩
    ·have:i=m:=by omega
     subst this
     exact⟨i - 1,by omega,hk.2.symm⟩
def q1h (l:List ByteArray):List ByteArray:=y6r (y4i l)
theorem r6v (l:List ByteArray):Asc (q1h l)∧ ∀x,x∈q1h l↔x∈l:=by
 obtain⟨d,hd⟩:∃d,d=(l.map toS).mergeSort fun x y=>decide (x≤y):=⟨_,rfl⟩
 have hk:q1h l=(Lib.compact d).map unS:=by
  unfold q1h y6r y4i
  rw[←hd,List.map_map]
  have:(toS ∘unS)=id:=by funext x;rfl
  rw[this,List.map_id]
 have hsort:d.Pairwise (·≤ ·):=by
  rw[hd]
  have:=List.pairwise_mergeSort (le:=fun(x y:List UInt8)=>decide (x≤y)) (fun a b c h1 h2=>by
   simp only[decide_eq_true_eq] at h1 h2 ⊢
   exact List.le_trans h1 h2) (fun a b=>by
   simp only[Bool.or_eq_true,decide_eq_true_eq]
   exact List.le_total a b) (l.map toS)
  exact this.imp (fun h=>by simpa using h)
 have hmem:∀x,x∈d↔x∈l.map toS:=fun x=>by rw[hd];exact(List.mergeSort_perm _ _).mem_iff
 have hs:∀i j:Nat,i≤j→j<d.toArray.size→d.toArray[i]! ≤d.toArray[j]! :=fun i j hij hj=>by
  have hj' :j<d.length:=by simpa using hj
  have hi' :i<d.length:=by omega
  rw[getElem!_pos _ i (by simpa using hi'),getElem!_pos _ j hj]
  simp only[List.getElem_toArray]
  rcases Nat.lt_or_ge i j with q | q
  ·exact List.pairwise_iff_getElem.mp hsort i j hi' hj' q
  ·have:i=j:=by omega
   subst this
   exact List.le_refl _
 obtain⟨h1,h2⟩:=r70 d.toArray hs d.length (by simp)
 rw[hk]
 constructor
 ·unfold Asc
  rw[List.pairwise_map]
  exact h1.imp (fun h=>p6o.mpr h)
 ·intro x
  rw[List.mem_map]
  constructor
  ·rintro⟨y,hy,rfl⟩
   obtain⟨i,hi,rfl⟩:=(h2 y).mp hy
   rw[getElem!_pos _ i (by simpa using hi)]
   have:d[i] ∈l.map toS:=(hmem _).mp (List.getElem_mem hi)
   obtain⟨z,hz,e⟩:=List.mem_map.mp this
   simp only[List.getElem_toArray]
   rw[←e,y8p]
   exact hz
  ·intro hx
   have:toS x∈d:=(hmem _).mpr (List.mem_map.mpr ⟨x,hx,rfl⟩)
   obtain⟨i,hi,e⟩:=List.mem_iff_getElem.mp this
   refine⟨toS x,(h2 _).mpr ⟨i,hi,?_⟩,y8p x⟩
   rw[getElem!_pos _ i (by simpa using hi)]
   simpa using e
theorem p6n (l:List ByteArray):(y4i l).length=l.length:=by simp[y4i]
theorem p9v (l:List ByteArray) (p:ByteArray→Bool):(l.filter p).foldl (fun a k=>p4v k a) [] =(q1h l).filter p:=by
 obtain⟨h1,h2⟩:=p5v (l:=l.filter p) (a:= []) List.Pairwise.nil
 obtain⟨k1,k2⟩:=r6v l
 refine Asc.ext h1 (k1.filter p) fun x=> ?_
 rw[h2,List.mem_filter,List.mem_filter,k2]
 simp
end
section
def u0l:Nat:=1099511627776
theorem Q.same {T:Ty} {S:Type} {q:T.den×T.den→Option Bool} {W:List T.den×List T.den×Int→Option (Unit⊕Bool)}
 (hW:∀x,W x=(bif (decide (x.2.2<(x.1.length:Int))) then(bif (y4q x.2.2 x.1.length) then(bif (y4q x.2.2 x.2.1.length) then
  ((q ((rdL T x.1 (x.2.2).toNat),(rdL T x.2.1 (x.2.2).toNat))).bind fun(y1:Bool)=>(bif (!y1) then(some (.inr false)) else(W (x.1,(x.2.1,(IntKind.i64.wrap (x.2.2+(1:Int)))))))) else none) else none) else(some (.inl ()))))
 (l:List T.den) (hl:l.length≤1099511627776) (hq:∀x∈l,q (x,x)=some true):W (l,(l,(0:Int)))=some (.inl ()):=
 r3c W l.length (fun(_:Unit) i=>(l,l,i)) (fun _ _=> .inl ()) (fun _ _=>True)
  (fun a _=>by
   rw[hW]
   simp only[u0b,Nat.lt_irrefl,decide_false,cond_false])
  (fun i a h _=> .inr ⟨(),trivial,rfl,by
   rw[hW]
   simp only[u0b,h,decide_true,cond_true,y7t h,zTn,y8k h,hq _ (List.getElem_mem h),zOb,Bool.not_true,cond_false]
   rw[y7l (by omega)]⟩) 0 () (by omega) trivial
theorem Q.size {T:Ty} {q:T.den×Int→Option Int} {W:List T.den×Int×Int→Option (Int⊕Int)}
 (hW:∀x,W x=(bif (decide (x.2.2<(x.1.length:Int))) then(bif (y4q x.2.2 x.1.length) then((q ((rdL T x.1 (x.2.2).toNat),x.2.1)).bind fun(y1:Int)=>
  (bif (decide (y1<(0:Int))) then(some (.inr (-1:Int))) else(W (x.1,(y1,(IntKind.i64.wrap (x.2.2+(1:Int)))))))) else none) else(some (.inl x.2.1))))
 (l:List T.den) (hl:l.length≤1099511627776) (hq:∀x∈l,∀c:Int,0≤c→c≤1048576→ ∃y,q (x,c)=some y∧if(T.wt x:Int)≤c then y=c - T.wt x else y<0) (b:Int) (hb:0≤b) (hb2:b≤1048576):
 ((W (l,(b,(0:Int)))).bind fun r=>match r with
  | .inl o=>some o
  | .inr z=>some z)=some (szr b (l.map T.wt).sum):=by
 have key:=r3c W l.length (fun(c:Int) i=>(l,c,i)) (fun i c=>if(((l.drop i).map T.wt).sum:Int)≤c then .inl (c - ((l.drop i).map T.wt).sum) else .inr (-1)) (fun _ c=>0≤c∧c≤1048576)
  (fun c hc=>by
   rw[hW]
   simp only[u0b,Nat.lt_irrefl,decide_false,cond_false,List.drop_length,List.map_nil,List.sum_nil]
   rw[if_pos (by simpa using hc.1)]
   simp)
  (fun i c h hc=>by
   have hd:l.drop i=l[i] ::l.drop (i+1):=List.drop_eq_getElem_cons h
   obtain⟨y,hy,hy2⟩:=hq _ (List.getElem_mem h) c hc.1 hc.2
   rw[hW,hd]
   simp only[u0b,h,decide_true,cond_true,y7t h,zTn,y8k h,hy,zOb,List.map_cons,List.sum_cons]
   by_cases hw:(T.wt l[i] :Int)≤c
   ·right
    rw[if_pos hw] at hy2
    subst hy2
    refine⟨c - T.wt l[i],⟨by omega,by omega⟩,?_,?_⟩
    ·by_cases h2:(((l.drop (i+1)).map T.wt).sum:Int)≤c - T.wt l[i]
     ·rw[if_pos h2,if_pos (by omega)];congr 1;omega
     ·rw[if_neg h2,if_neg (by omega)]
    ·have:decide (c - (T.wt l[i] :Int)<0)=false:=by simp;omega
     rw[this,cond_false,y7l (by omega)]
   ·left
    rw[if_neg hw] at hy2
    have:decide (y<0)=true:=by simp;omega
    rw[this,if_neg (by omega)]
    rfl) 0 b (by omega) ⟨hb,hb2⟩
 have key:W (l,b,0)=_:=key
 rw[key]
 simp only[List.drop_zero,zOb]
 unfold szr
 by_cases h:((l.map T.wt).sum:Int)≤b
 ·rw[if_pos h,if_pos h]
 ·rw[if_neg h,if_neg h]
theorem q5c {α:Type} {f:α→Nat} {l:List α} {x:α} (h:x∈l):f x≤(l.map f).sum:=by
 induction l with
 | nil=>cases h
 | cons y l ih=>
  simp only[List.map_cons,List.sum_cons]
  rcases List.mem_cons.mp h with rfl | h
  ·omega
  ·have:=ih h;omega
abbrev t2q:Ty:=(.pair .str .str)
abbrev u11:Ty:=(.pair .str (.pair .str .bool))
abbrev u0d:Ty:=(.pair .str (.pair .str (.pair .bool (.int .i64))))
abbrev o02:Ty:=(.pair .str .str)
abbrev o50:Ty:=(.pair .str .str)
abbrev p62:Ty:=(.pair (.int .i64) .str)
abbrev o51:Ty:=(.pair (.sl .str) (.sl p62))
abbrev u0t:Ty:=(.pair (.int .i64) (.pair (.int .i64) (.pair (.int .i64) (.pair (.int .i64) (.pair (.sl t2q) (.pair (.sl u11) (.pair .bool .str)))))))
abbrev o01:Ty:=(.pair (.sl u0d) (.pair (.sl u0t) (.pair (.sl u0t) (.pair (.int .i64) (.int .i64)))))
abbrev o3p:Ty:=(.pair (.int .i64) (.pair u0t (.pair .str (.pair .bool o01))))
abbrev o3o:Ty:=(.pair o01 (.sl u0t))
end
section
abbrev u0e:=Int×Int×Int×Int×List (ByteArray×ByteArray)×List (ByteArray×ByteArray×Bool)×Bool×ByteArray
theorem u07 {n:Nat} (h:n≤1099511627776):Nat.ble n z7w=true:=Nat.ble_eq_true_of_le h
def inR (r:ByteArray×ByteArray) (k:ByteArray):Bool:= !y3c k r.1&&(y3c k r.2 || z7o k r.2)
theorem r68 (r:ByteArray×ByteArray) (k:ByteArray):t7j (r,k)=some (inR r k):=by
 rw[q2z];unfold r05 inR;cases y3c k r.1<;>rfl
theorem q7z (r:ByteArray×ByteArray) (k:ByteArray):s1y (r,k)=some (inR r k):=by
 rw[q2l];unfold r0r inR;cases y3c k r.1<;>rfl
def t98 (r:List t2q.den) (w:List u11.den):Bool:=r.any fun x=>w.any fun y=>inR x y.1
def s1w (a b:List u11.den):Bool:=a.any fun x=>b.any fun y=>z7o x.1 y.1
end
section
theorem r9x {X R A:Type} (W:X→Option R) (n:Nat) (mk:A→Int→X) (v:Nat→A) (r:R) (hend:W (mk (v n) (n:Int))=some r)
 (hstep:∀i,i<n→W (mk (v i) (i:Int))=W (mk (v (i+1)) ((i+1:Nat):Int))):W (mk (v 0) 0)=some r:=by
 have:=r3c W n (fun(_:Unit) i=>mk (v i.toNat) i) (fun _ _=>r) (fun _ _=>True) (fun _ _=>by simpa using hend) (fun i a hi _=> .inr ⟨(),trivial,rfl,by
  have h:=hstep i hi
  have e:((i:Int)+1).toNat=i+1:=by omega
  simp only[zTn]
  exact h⟩) 0 () (Nat.zero_le _) trivial
 simpa using this
theorem p2h {α:Type} (p:α→Bool):∀(l a:List α),l.foldl (fun a x=>if p x=true then a++ [x] else a) a=a++l.filter p
 | [],a=>by simp
 | x::l,a=>by
  rw[List.foldl_cons,p2h p l]
  cases hc:p x<;>simp[hc]
abbrev u18:=ByteArray×ByteArray×Bool×Int
def emp:ByteArray:=⟨#[]⟩
def q8c (l:List u18) (k:ByteArray) (snap out:Int) (i:Nat):Int:=
 if z7o (rdL u0d l i).1 k=true∧(rdL u0d l i).2.2.2≤snap∧(out<0∨(rdL u0d l i).2.2.2 >(rdL u0d l out.toNat).2.2.2) then(i:Int) else out
def r43 (l:List u18) (k:ByteArray) (snap:Int):Nat→Int
 | 0=> -1
 | n+1=>q8c l k snap (r43 l k snap n) n
def t06 (l:List u18) (k:ByteArray) (snap:Int):Int:=r43 l k snap l.length
theorem r44 (l:List u18) (k:ByteArray) (snap:Int):∀n,-1≤r43 l k snap n∧r43 l k snap n<(n:Int)
 | 0=>by simp[r43]
 | n+1=>by
  have:=r44 l k snap n
  simp only[r43,q8c]
  split<;>omega
theorem r6w (l:List u18) (k:ByteArray) (snap:Int): -1≤t06 l k snap∧t06 l k snap<(l.length:Int):=r44 l k snap l.length
theorem q1m (l:List u18) (k:ByteArray) (snap:Int) (hl:l.length≤1099511627776):s1e (l,k,snap)=some (t06 l k snap):=by
 have L:=r9x t21 l.length (fun a i=>(l,k,snap,a,i)) (fun i=>r43 l k snap i) (.inl (t06 l k snap))
  (by rw[r27];simp only[t62,u0b,Nat.lt_irrefl,decide_false,cond_false];rfl)
  (fun i hi=>by
   have hr:=r44 l k snap i
   rw[r27]
   simp only[t62,u0b,hi,decide_true,cond_true,y7t hi,zTn,r43,q8c]
   rw[y7l (by omega)]
   cases h1:z7o (rdL u0d l i).1 k with
   | false=>simp[h1]
   | true=>
    by_cases h2:(rdL u0d l i).2.2.2≤snap
    ·by_cases h3:r43 l k snap i<0
     ·simp[h1,h2,h3]
     ·have hg:y4q (r43 l k snap i) l.length=true:=y7s.mpr ⟨by omega,by omega⟩
      by_cases h4:(rdL u0d l i).2.2.2 >(rdL u0d l (r43 l k snap i).toNat).2.2.2
      ·simp[h1,h2,h3,h4,hg]
      ·simp[h1,h2,h3,h4,hg]
    ·simp[h1,h2])
 have L:t21 (l,k,snap,-1,0)=_:=L
 rw[q83];unfold r7w
 simp only[L,zOb]
theorem p1n (l:List u18) (k:ByteArray) (snap:Int) (hl:l.length≤1099511627776):s4w (l,k,snap)=some (t06 l k snap):=by
 have L:=r9x t0s l.length (fun a i=>(l,k,snap,a,l,(l.length:Int),i)) (fun i=>r43 l k snap i) (.inl (t06 l k snap))
  (by rw[s9v];simp only[t44,u0b,Nat.lt_irrefl,decide_false,cond_false];rfl)
  (fun i hi=>by
   have hr:=r44 l k snap i
   rw[s9v]
   simp only[t44,u0b,hi,decide_true,cond_true,y7t hi,zTn,r43,q8c]
   rw[y7l (by omega)]
   cases h1:z7o (rdL u0d l i).1 k with
   | false=>simp[h1]
   | true=>
    by_cases h2:(rdL u0d l i).2.2.2≤snap
    ·by_cases h3:r43 l k snap i<0
     ·simp[h1,h2,h3]
     ·have hg:y4q (r43 l k snap i) l.length=true:=y7s.mpr ⟨by omega,by omega⟩
      by_cases h4:(rdL u0d l i).2.2.2 >(rdL u0d l (r43 l k snap i).toNat).2.2.2
      ·simp[h1,h2,h3,h4,hg]
      ·simp[h1,h2,h3,h4,hg]
    ·simp[h1,h2])
 have L:t0s (l,k,snap,-1,l,(l.length:Int),0)=_:=L
 rw[q6d];unfold r4d
 simp only[L,zOb]
def s9o (l:List u18) (k:ByteArray) (snap:Int):ByteArray×Bool:=
 if t06 l k snap<0∨(rdL u0d l (t06 l k snap).toNat).2.2.1=true then(emp,false) else((rdL u0d l (t06 l k snap).toNat).2.1,true)
theorem p6k (l:List u18) (k:ByteArray) (snap:Int) (y:Int) (hy:y=t06 l k snap):
 (((bif decide (y<0) then some true else(bif y4q y l.length then some (rdL u0d l y.toNat).2.2.1 else none)):Option Bool).bind fun j2=>(bif j2 then some ((⟨#[]⟩:ByteArray),false) else(bif y4q y l.length then some ((rdL u0d l y.toNat).2.1,true) else none)))=some (s9o l k snap):=by
 subst hy
 have hr:=r6w l k snap
 unfold s9o
 by_cases h:t06 l k snap<0
 ·simp[h,emp]
 ·have hg:y4q (t06 l k snap) l.length=true:=y7s.mpr ⟨by omega,by omega⟩
  cases h2:(rdL u0d l (t06 l k snap).toNat).2.2.1<;>simp[h,hg,h2,emp]
theorem r9t (l:List u18) (k:ByteArray) (snap:Int) (hl:l.length≤1099511627776):t85 (l,k,snap)=some (s9o l k snap):=by
 rw[q6t];unfold r4t
 simp only[q1m l k snap hl,zOb]
 exact p6k l k snap _ rfl
theorem q1i (l:List ByteArray):(q1h l).length≤l.length:=by
 have:=z6h (y4i l)
 rw[p6n] at this
 exact this
theorem p1m (k:ByteArray) (r:ByteArray×ByteArray) (l:List u18) (j:Int) (out:List ByteArray) (ho:out.length≤1099511627775):
 u9g (l,r,out,j,k, [],0)=some (.inl (l,r,out,j,k,out.filter fun x=>y3c x k)):=by
 have L:=s0p u9g out (fun a i=>(l,r,out,j,k,a,i)) (fun x=>y3c x k) (fun x=>x) (fun a=> .inl (l,r,out,j,k,a)) (by omega)
  (fun a _=>by rw[s7e];simp only[t33,u0b,Nat.lt_irrefl,decide_false,cond_false])
  (fun i hi a ha=>by
   rw[s7e];simp only[t33,u0b,hi,decide_true,cond_true,y7t hi,zTn,y8k (t:=Ty.str) hi,List.length_singleton,u07 (show a.length+1≤1099511627776 by omega)]
   rw[y7l (by omega)])
 rw[List.map_id'] at L
 exact L
theorem q9h (k:ByteArray) (r:ByteArray×ByteArray) (l:List u18) (j:Int) (out a0:List ByteArray) (ho:out.length+a0.length≤1099511627775):
 u7i (l,r,out,j,k,a0,0)=some (.inl (l,r,j,a0++out.filter fun x=> !(y3c x k || z7o x k))):=by
 have L:=t7v u7i out (fun a i=>(l,r,out,j,k,a,i)) (fun a x=>if(!(y3c x k || z7o x k))=true then a++ [x] else a) (fun a=> .inl (l,r,j,a)) (fun i a=>a.length≤a0.length+i)
  (fun a _=>by rw[s4c];simp only[t13,u0b,Nat.lt_irrefl,decide_false,cond_false])
  (fun i hi a ha=>by
   rw[s4c];simp only[t13,u0b,hi,decide_true,cond_true,y7t hi,zTn,y8k (t:=Ty.str) hi,List.length_singleton,u07 (show a.length+1≤1099511627776 by omega)]
   rw[y7l (by omega)]
   cases hc:(!(y3c out[i] k || z7o out[i] k)) with
   | true=>simp;omega
   | false=>simp;omega) a0 (by simp)
 rw[p2h (fun x=> !(y3c x k || z7o x k))] at L
 exact L
theorem p7m (k:ByteArray) (l:List ByteArray):(p4v k l).length≤l.length+1:=by
 unfold p4v
 have h:(fun x=> !(y3c x k || z7o x k))=fun x=>y3c k x:=by funext x;exact q9b
 rw[h]
 have:(l.filter fun x=>y3c x k).length+(l.filter fun x=>y3c k x).length≤l.length:=by
  induction l with
  | nil=>simp
  | cons x l ih=>
   simp only[List.filter_cons]
   cases h1:y3c x k with
   | true=>rw[s1f h1];simp;omega
   | false=>cases h2:y3c k x<;>simp<;>omega
 simp
 omega
theorem q70 (l:List u18) (r:ByteArray×ByteArray) (hl:l.length≤500000000000):t7p (l,r)=some ((q1h (l.map fun v=>v.1)).filter fun k=>inR r k):=by
 have L:=t7v t4c l (fun a i=>(l,r,a,i)) (fun a v=>if inR r v.1=true then p4v v.1 a else a) (fun a=> .inl a) (fun i a=>a.length≤i)
  (fun a _=>by rw[s7d];simp only[t32,u0b,Nat.lt_irrefl,decide_false,cond_false])
  (fun i hi a ha=>by
   rw[s7d];simp only[t32,u0b,hi,decide_true,cond_true,y7t hi,zTn,y8k (t:=u0d) hi,r68,zOb]
   cases hc:inR r l[i].1 with
   | false=>
    simp only[Bool.not_false,cond_true,Bool.false_eq_true,if_false]
    rw[y7l (by omega)]
    exact⟨by omega,rfl⟩
   | true=>
    have hlow:(a.filter fun x=>y3c x l[i].1).length≤a.length:=List.length_filter_le _ _
    simp only[Bool.not_true,cond_false,if_true,p1m l[i].1 r l (i:Int) a (by omega),zOb,List.length_singleton,u07 (show(a.filter fun x=>y3c x l[i].1).length+1≤1099511627776 by omega),cond_true,
     q9h l[i].1 r l (i:Int) a (a.filter (fun x=>y3c x l[i].1)++ [l[i].1]) (by simp;omega)]
    rw[y7l (by omega)]
    exact⟨Nat.le_trans (p7m _ _) (by omega),rfl⟩) [] (by simp)
 rw[q3m];unfold r1t
 simp only[L,zOb]
 have hfold:∀(m:List u18) (a:List ByteArray),m.foldl (fun a v=>if inR r v.1=true then p4v v.1 a else a) a=((m.map fun v=>v.1).filter fun k=>inR r k).foldl (fun a k=>p4v k a) a:=by
  intro m
  induction m with
  | nil=>intro a;rfl
  | cons x m ih=>
   intro a
   rw[List.foldl_cons,ih]
   cases hc:inR r x.1<;>simp[hc]
 rw[hfold,p9v]
def t8s (l:List u18) (r:ByteArray×ByteArray) (snap:Int):List (ByteArray×ByteArray):=
 ((q1h (l.map fun v=>v.1)).filter fun k=>(s9o l k snap).2&&inR r k).map fun k=>(k,(s9o l k snap).1)
theorem r9r (l:List u18) (r:ByteArray×ByteArray) (snap:Int) (hl:l.length≤500000000000):t2k (l,r,snap)=some (t8s l r snap):=by
 obtain⟨ks,hks⟩:∃ks,ks=(q1h (l.map fun v=>v.1)).filter fun k=>inR r k:=⟨_,rfl⟩
 have hkl:ks.length≤l.length:=by
  rw[hks]
  refine Nat.le_trans (List.length_filter_le _ _) (Nat.le_trans (q1i _) (by simp))
 have L:=s0p t5f ks (fun a i=>(l,snap,a,ks,i)) (fun k=>(s9o l k snap).2) (fun k=>(k,(s9o l k snap).1)) (fun a=> .inl a) (by omega)
  (fun a _=>by rw[s92];simp only[t49,u0b,Nat.lt_irrefl,decide_false,cond_false])
  (fun i hi a ha=>by
   rw[s92];simp only[t49,u0b,hi,decide_true,cond_true,y7t hi,zTn,y8k (t:=Ty.str) hi,r9t l _ snap (show l.length≤1099511627776 by omega),zOb,List.length_singleton,u07 (show a.length+1≤1099511627776 by omega)]
   rw[y7l (by omega)])
 rw[q6r];unfold r4r
 simp only[q70 l r hl,zOb]
 rw[←hks]
 simp only[L,zOb]
 rw[hks,List.filter_filter]
 rfl
theorem p4e (l:List u18) (r:ByteArray×ByteArray) (snap:Int):(t8s l r snap).length≤l.length:=by
 unfold t8s
 rw[List.length_map]
 refine Nat.le_trans (List.length_filter_le _ _) (Nat.le_trans (q1i _) (by simp))
end
section
theorem s44 {E:Type} (p:E→Bool):∀(l:List E),(l.takeWhile p).length≤l.length∧(∀(i:Nat) (h:i<l.length),i<(l.takeWhile p).length→p l[i] =true)∧
 (∀(h:(l.takeWhile p).length<l.length),p l[(l.takeWhile p).length] =false)∧l.takeWhile p=l.take (l.takeWhile p).length∧l.dropWhile p=l.drop (l.takeWhile p).length
 | [] =>⟨Nat.le_refl _,fun i h=>absurd h (Nat.not_lt_zero i),fun h=>absurd h (Nat.not_lt_zero _),rfl,rfl⟩
 | x::l=>by
  obtain⟨h1,h2,h3,h4,h5⟩:=s44 p l
  cases hp:p x with
  | false=>
   simp only[List.takeWhile_cons,hp,List.dropWhile_cons,Bool.false_eq_true,if_false,List.length_nil]
   exact⟨Nat.zero_le _,fun i _ h=>absurd h (Nat.not_lt_zero i),fun _=>hp,rfl,rfl⟩
  | true=>
   simp only[List.takeWhile_cons,hp,List.dropWhile_cons,if_true,List.length_cons]
   refine⟨by omega,fun i h k=> ?_,fun h=> ?_,?_,?_⟩
   ·cases i with
    | zero=>exact hp
    | succ i=>simpa using h2 i (by simpa using h) (by omega)
   ·simpa using h3 (by omega)
   ·rw[List.take_succ_cons,←h4]
   ·rw[List.drop_succ_cons,←h5]
theorem o00 {X R E:Type} (W:X→Option R) (l:List E) (mk:List E→Int→X) (p:E→Bool) (fin:List E→Int→R)
 (hend:W (mk l (l.length:Int))=some (fin l (l.length:Int)))
 (hstep:∀(i:Nat) (h:i<l.length),W (mk (l.take i) (i:Int))=bif p l[i] then W (mk (l.take (i+1)) ((i+1:Nat):Int)) else some (fin (l.take i) (i:Int))):
 W (mk [] 0)=some (fin (l.takeWhile p) ((l.takeWhile p).length:Int)):=by
 obtain⟨h1,h2,h3,h4,_⟩:=s44 p l
 have:=r3c W (l.takeWhile p).length (fun(a:List E) i=>mk a i) (fun _ _=>fin (l.takeWhile p) ((l.takeWhile p).length:Int)) (fun i a=>a=l.take i)
  (fun a ha=>by
   rw[ha]
   by_cases hk:(l.takeWhile p).length<l.length
   ·rw[hstep _ hk,h3 hk,cond_false,←h4]
   ·have e:(l.takeWhile p).length=l.length:=by omega
    have e2:l.takeWhile p=l:=by rw[h4,e];exact List.take_length
    rw[e2,List.take_length]
    exact hend)
  (fun i a hi ha=> .inr ⟨_,rfl,rfl,by rw[ha,hstep i (by omega),h2 i (by omega) hi,cond_true]⟩) 0 [] (Nat.zero_le _) (by simp)
 exact this
theorem p5g {X R E:Type} (W:X→Option R) (l:List E) (mk:Int→X) (p:E→Bool) (yes:Int→R) (no:R)
 (hend:W (mk (l.length:Int))=some no)
 (hstep:∀(i:Nat) (h:i<l.length),W (mk (i:Int))=bif p l[i] then W (mk ((i+1:Nat):Int)) else some (yes (i:Int))):
 W (mk 0)=some (if(l.takeWhile p).length<l.length then yes ((l.takeWhile p).length:Int) else no):=by
 obtain⟨h1,h2,h3,_,_⟩:=s44 p l
 have:=r3c W (l.takeWhile p).length (fun(_:Unit) i=>mk i) (fun _ _=>if(l.takeWhile p).length<l.length then yes ((l.takeWhile p).length:Int) else no) (fun _ _=>True)
  (fun a _=>by
   by_cases hk:(l.takeWhile p).length<l.length
   ·rw[hstep _ hk,h3 hk,cond_false,if_pos hk]
   ·have e:(l.takeWhile p).length=l.length:=by omega
    rw[if_neg hk,e]
    exact hend)
  (fun i a hi _=> .inr ⟨(),trivial,rfl,by rw[hstep i (by omega),h2 i (by omega) hi,cond_true]⟩) 0 () (Nat.zero_le _) trivial
 exact this
def u6y (v y:u18):Bool:=y3c y.1 v.1 || (z7o y.1 v.1&&decide (y.2.2.2≤v.2.2.2))
def p2p (l:List u18) (v:u18):List u18:=l.takeWhile (u6y v)++ [v] ++l.dropWhile (u6y v)
def t41 (l:List u18) (ws:List u11.den) (cs:Int):List u18:=ws.foldl (fun l w=>p2p l (w.1,w.2.1,w.2.2,cs)) l
theorem q69 (l:List u18) (v:u18):(p2p l v).length=l.length+1:=by
 have:l.length=(l.takeWhile (u6y v)).length+(l.dropWhile (u6y v)).length:=by rw[←List.length_append,List.takeWhile_append_dropWhile]
 simp[p2p]
 omega
theorem q1p:∀(ws:List u11.den) (l:List u18) (cs:Int),(t41 l ws cs).length=l.length+ws.length
 | [],l,cs=>rfl
 | w::ws,l,cs=>by
  have:=q1p ws (p2p l (w.1,w.2.1,w.2.2,cs)) cs
  unfold t41 at this ⊢
  rw[List.foldl_cons,this,q69]
  simp
  omega
theorem p9y (l:List u18) (v:u18):p2p l v=l.take (l.takeWhile (u6y v)).length++ [v] ++l.drop (l.takeWhile (u6y v)).length:=by
 obtain⟨_,_,_,h4,h5⟩:=s44 (u6y v) l
 unfold p2p
 rw[←h4,←h5]
theorem q39 (a b:ByteArray):t2v (a,b)=some (if y3c a b then -1 else if z7o a b then 0 else 1):=by
 have ns:∀x,t0f x=some false:=fun x=>by
  rw[r49];unfold s0q
  have:z7o x x=true:=by simp[z7o]
  rw[this];rfl
 rw[r0h];unfold t8l
 simp only[ns,zOb,cond_false]
 cases y3c a b<;>cases z7o a b<;>rfl
theorem p42 (a b:Int):t6j (a,b)=some (if a<b then -1 else if a >b then 1 else 0):=by
 have ns:∀x,t5p x=some false:=fun x=>by
  rw[r99];unfold s7s
  simp
 rw[r6g];unfold s2i
 simp only[ns,zOb,cond_false]
 by_cases h:a<b
 ·simp[h]
 ·by_cases h2:a >b<;>simp[h,h2]
theorem p9j (y v:u18):t2w (y,v)=some (!u6y v y):=by
 rw[r0i];unfold t8m
 rw[t7x];unfold t0z
 simp only[q39,zOb]
 unfold u6y
 cases h1:y3c y.1 v.1 with
 | true=>simp
 | false=>
  cases h2:z7o y.1 v.1 with
  | false=>simp
  | true=>
   simp only[Bool.false_eq_true,if_false,if_true,decide_true,Bool.not_true,cond_false,p42,zOb,Bool.false_or,Bool.true_and]
   by_cases h3:y.2.2.2<v.2.2.2
   ·have:y.2.2.2≤v.2.2.2:=by omega
    simp[h3,this]
   ·by_cases h4:y.2.2.2 >v.2.2.2
    ·have: ¬y.2.2.2≤v.2.2.2:=by omega
     simp[h3,h4,this]
    ·have:y.2.2.2≤v.2.2.2:=by omega
     simp[h3,h4,this]
theorem p5b (l:List u18) (v:u18) (hl:l.length≤1099511627775):u1j (l,v)=some (if(l.takeWhile (u6y v)).length<l.length then((l.takeWhile (u6y v)).length:Int) else -1):=by
 have L:=p5g u0r l (fun i=>(l,v,(l.length:Int),i)) (u6y v) (fun i=> .inr i) (.inl ())
  (by rw[u14];simp only[u0q,u0b,Nat.lt_irrefl,decide_false,cond_false])
  (fun i hi=>by
   rw[u14]
   simp only[u0q,u0b,hi,decide_true,cond_true,y7t hi,zTn,y8k (t:=u0d) hi,p9j,zOb]
   rw[y7l (by omega)]
   cases u6y v l[i] <;>rfl)
 rw[u52];unfold u2a
 simp only[L,zOb]
 by_cases h:(l.takeWhile (u6y v)).length<l.length
 ·simp only[if_pos h]
 ·simp only[if_neg h]
theorem q4b (l:List u18) (v:u18) (k:Nat) (hk:k≤l.length) (hl:l.length≤1099511627775):u20 (l,(k:Int), [v])=some (l.take k++ [v] ++l.drop k):=by
 rw[t80]
 unfold y2q
 have h1:decide ((0:Int)≤(k:Int))=true:=by simp
 have h2:decide ((k:Int)≤(l.length:Int))=true:=by simpa using hk
 simp only[h1,h2,u07 (show l.length+1≤1099511627776 by omega),Bool.true_and,List.length_singleton,zTn]
 rfl
theorem r8h (l:List u18) (ws:List u11.den) (cs:Int) (hl:l.length+ws.length≤1000000000000):t0g (l,ws,cs)=some (t41 l ws cs):=by
 have L:=t7v u67 ws (fun a i=>(cs,a,ws,(ws.length:Int),i)) (fun l w=>p2p l (w.1,w.2.1,w.2.2,cs)) (fun a=> .inl a) (fun i a=>a.length=l.length+i)
  (fun a _=>by rw[t8t];simp only[u63,u0b,Nat.lt_irrefl,decide_false,cond_false])
  (fun i hi a ha=>by
   have hal:a.length≤1099511627775:=by omega
   rw[t8t]
   simp only[u63,u0b,hi,decide_true,cond_true,y7t hi,zTn,y8k (t:=u11) hi,p5b a _ hal,zOb]
   refine⟨by rw[q69];omega,?_⟩
   obtain⟨t1,_⟩:=s44 (u6y (ws[i].1,ws[i].2.1,ws[i].2.2,cs)) a
   rw[p9y,y7l (by omega)]
   by_cases hk:(a.takeWhile (u6y (ws[i].1,ws[i].2.1,ws[i].2.2,cs))).length<a.length
   ·rw[if_pos hk]
    have:decide (((a.takeWhile (u6y (ws[i].1,ws[i].2.1,ws[i].2.2,cs))).length:Int)<0)=false:=by simp
    simp only[this,cond_false,q4b a _ _ t1 hal,zOb]
   ·rw[if_neg hk]
    have e:(a.takeWhile (u6y (ws[i].1,ws[i].2.1,ws[i].2.2,cs))).length=a.length:=by omega
    have:decide ((-1:Int)<0)=true:=by decide
    simp only[this,cond_true,q4b a _ _ (Nat.le_refl _) hal,zOb]
    rw[e]) l (by simp)
 rw[r5a];unfold s0r
 simp only[u07 (show l.length≤1099511627776 by omega),cond_true,L,zOb]
 rfl
theorem p7b (ws:List u11.den) (cs:Int) (l:List u18) (j:Int) (v:u18) (hl:l.length≤1000000000000):
 u5e (ws,cs,l,j,v, [],0)=some (.inl (ws,cs,l,j,v,l.takeWhile (u6y v),((l.takeWhile (u6y v)).length:Int))):=
 o00 u5e l (fun a i=>(ws,cs,l,j,v,a,i)) (u6y v) (fun a i=> .inl (ws,cs,l,j,v,a,i))
  (by rw[t8v];simp only[u65,u0b,Nat.lt_irrefl,decide_false,cond_false,zOb])
  (fun i hi=>by
   rw[t8v]
   have hb:((l.take i).length+ [l[i]].length)≤1099511627776:=by simp;omega
   simp only[u65,u0b,hi,decide_true,cond_true,y7t hi,zTn,y8k (t:=u0d) hi,u07 hb]
   rw[y7l (by omega),List.take_succ_eq_append_getElem hi]
   unfold u6y
   cases h1:y3c l[i].1 v.1 with
   | true=>simp
   | false=>
    cases h2:z7o l[i].1 v.1 with
    | false=>simp
    | true=>
     by_cases h3:l[i].2.2.2≤v.2.2.2<;>simp[h3])
theorem r8i (l:List u18) (ws:List u11.den) (cs:Int) (hl:l.length+ws.length≤1000000000000):t0h (l,ws,cs)=some (t41 l ws cs):=by
 have L:=t7v u68 ws (fun a i=>(ws,cs,a,i)) (fun l w=>p2p l (w.1,w.2.1,w.2.2,cs)) (fun a=> .inl a) (fun i a=>a.length=l.length+i)
  (fun a _=>by rw[t8u];simp only[u64,u0b,Nat.lt_irrefl,decide_false,cond_false])
  (fun i hi a ha=>by
   have hal:a.length≤1000000000000:=by omega
   rw[t8u]
   simp only[u64,u0b,hi,decide_true,cond_true,y7t hi,zTn,y8k (t:=u11) hi,p7b ws cs a _ _ hal,zOb]
   obtain⟨v,hv⟩:∃v:u18,v=(ws[i].1,ws[i].2.1,ws[i].2.2,cs):=⟨_,rfl⟩
   rw[←hv]
   obtain⟨t1,_,_,t4,t5⟩:=s44 (u6y v) a
   refine⟨by rw[q69];omega,?_⟩
   have g1:decide ((0:Int)≤((a.takeWhile (u6y v)).length:Int))=true:=by simp
   have g2:decide (((a.takeWhile (u6y v)).length:Int)≤(a.length:Int))=true:=by simpa using t1
   have g3:decide ((a.length:Int)≤(a.length:Int))=true:=by simp
   have b1:(a.takeWhile (u6y v)).length+ [v].length≤1099511627776:=by simp;omega
   have b2:(a.takeWhile (u6y v)++ [v]).length+(a.drop (a.takeWhile (u6y v)).length).length≤1099511627776:=by simp;omega
   simp only[g1,g2,g3,Bool.true_and,u07 b1,cond_true,List.take_length,u07 b2]
   rw[y7l (by omega),←t5]
   rfl) l (by simp)
 rw[r5c];unfold s0s
 simp only[List.length_nil,Nat.zero_add,List.nil_append,u07 (show l.length≤1099511627776 by omega),cond_true,L,zOb]
 rfl
end
section
abbrev PrT:=ByteArray×ByteArray
theorem p57 {a b:List PrT} (h:a.length=b.length):(bif (a.zip b).any (fun p=> !(z7o p.1.1 p.2.1&&(z7o p.1.2 p.2.2&&true))) then false else true)=decide (a=b):=by
 induction a generalizing b with
 | nil=>
  cases b with
  | nil=>rfl
  | cons _ _=>simp at h
 | cons x a ih=>
  cases b with
  | nil=>simp at h
  | cons y b=>
   have ih:=ih (b:=b) (by simpa using h)
   simp only[List.zip_cons_cons,List.any_cons]
   by_cases h1:x.1=y.1
   ·by_cases h2:x.2=y.2
    ·have hxy:x=y:=Prod.ext h1 h2
     subst hxy
     rw[y6l,y6l]
     simp only[Bool.and_self,Bool.not_true,Bool.false_or,ih]
     simp
    ·have:=q12.mpr h2
     rw[this]
     have hne: ¬(x::a=y::b):=fun e=>h2 (by injection e with e;rw[e])
     simp[hne]
   ·have:=q12.mpr h1
    rw[this]
    have hne: ¬(x::a=y::b):=fun e=>h1 (by injection e with e;rw[e])
    simp[hne]
end
section
theorem q78 (r:List t2q.den) (w:List u11.den) (hr:r.length≤u0l) (hw:w.length≤u0l):s16 (r,w)=some (t98 r w):=by
 unfold u0l at hr hw
 have inner:∀(i:Nat) (hi:i<r.length),u9b (r,w,(i:Int),0)=some (bif w.any (fun y=>inR r[i] y.1) then .inr true else .inl (r,w,(i:Int))):=fun i hi=>
  s4l u9b w (fun j=>(r,w,(i:Int),j)) (fun y=>inR r[i] y.1) _ _ (by
   rw[s69];simp only[t3z,u0b,Nat.lt_irrefl,decide_false,cond_false]) (fun j hj=>by
   rw[s69];simp only[t3z,u0b,hj,decide_true,cond_true,y7t hi,y7t hj,zTn,y8k hi,y8k hj,r68,zOb]
   rw[y7l (by omega)])
 have outer:=s4l t4b r (fun i=>(r,w,i)) (fun x=>w.any fun y=>inR x y.1) (.inr true) (.inl ()) (by
  rw[s68];simp only[t3y,u0b,Nat.lt_irrefl,decide_false,cond_false]) (fun i hi=>by
  rw[s68];simp only[t3y,u0b,hi,decide_true,cond_true,inner i hi,zOb]
  have ws:=y7l (i:=i) (by omega)
  cases w.any fun y=>inR r[i] y.1<;>simp only[cond_true,cond_false,ws])
 rw[q29];unfold r1f
 simp only[outer,zOb]
 unfold t98
 cases r.any fun x=>w.any fun y=>inR x y.1<;>rfl
theorem p3i (r w:List u11.den) (hr:r.length≤u0l) (hw:w.length≤u0l):s1c (r,w)=some (s1w r w):=by
 unfold u0l at hr hw
 have inner:∀(i:Nat) (hi:i<r.length),t20 (r,w,(i:Int),0)=some (bif w.any (fun y=>z7o r[i].1 y.1) then .inr true else .inl (r,w,(i:Int))):=fun i hi=>
  s4l t20 w (fun j=>(r,w,(i:Int),j)) (fun y=>z7o r[i].1 y.1) _ _ (by
   rw[r24];simp only[t6z,u0b,Nat.lt_irrefl,decide_false,cond_false]) (fun j hj=>by
   rw[r24];simp only[t6z,u0b,hj,decide_true,cond_true,y7t hi,y7t hj,zTn,y8k hi,y8k hj,zOb]
   rw[y7l (by omega)])
 have outer:=s4l t67 r (fun i=>(r,w,i)) (fun x=>w.any fun y=>z7o x.1 y.1) (.inr true) (.inl ()) (by
  rw[r23];simp only[t6y,u0b,Nat.lt_irrefl,decide_false,cond_false]) (fun i hi=>by
  rw[r23];simp only[t6y,u0b,hi,decide_true,cond_true,inner i hi,zOb]
  have ws:=y7l (i:=i) (by omega)
  cases w.any fun y=>z7o r[i].1 y.1<;>simp only[cond_true,cond_false,ws])
 rw[q8z];unfold r7s
 simp only[outer,zOb]
 unfold s1w
 cases r.any fun x=>w.any fun y=>z7o x.1 y.1<;>rfl
theorem q77 (r:List t2q.den) (w:List u11.den) (hr:r.length≤u0l) (hw:w.length≤u0l):s10 (r,w)=some (t98 r w):=by
 unfold u0l at hr hw
 have inner:∀(i:Nat) (hi:i<r.length),u81 (w,r[i],r,(r.length:Int),(i:Int),w,(w.length:Int),0)=some (bif w.any (fun y=>inR r[i] y.1) then .inr true else .inl (w,r,(r.length:Int),(i:Int))):=fun i hi=>
  s4l u81 w (fun j=>(w,r[i],r,(r.length:Int),(i:Int),w,(w.length:Int),j)) (fun y=>inR r[i] y.1) _ _ (by
   rw[s6s];simp only[t3k,u0b,Nat.lt_irrefl,decide_false,cond_false]) (fun j hj=>by
   rw[s6s];simp only[t3k,u0b,hj,decide_true,cond_true,y7t hi,y7t hj,zTn,y8k hi,y8k hj,q7z,zOb]
   rw[y7l (by omega)])
 have outer:=s4l t36 r (fun i=>(w,r,(r.length:Int),i)) (fun x=>w.any fun y=>inR x y.1) (.inr true) (.inl ()) (by
  rw[s6r];simp only[t3j,u0b,Nat.lt_irrefl,decide_false,cond_false]) (fun i hi=>by
  rw[s6r];simp only[t3j,u0b,hi,decide_true,cond_true,y7t hi,zTn,y8k hi,inner i hi,zOb]
  have ws:=y7l (i:=i) (by omega)
  cases w.any fun y=>inR r[i] y.1<;>simp only[cond_true,cond_false,ws])
 rw[q2p];unfold r0v
 simp only[outer,zOb]
 unfold t98
 cases r.any fun x=>w.any fun y=>inR x y.1<;>rfl
theorem p3h (r w:List u11.den) (hr:r.length≤u0l) (hw:w.length≤u0l):s07 (r,w)=some (s1w r w):=by
 unfold u0l at hr hw
 have inner:∀(i:Nat) (hi:i<r.length),t2z (w,r[i],r,(r.length:Int),(i:Int),w,(w.length:Int),0)=some (bif w.any (fun y=>z7o r[i].1 y.1) then .inr true else .inl (w,r,(r.length:Int),(i:Int))):=fun i hi=>
  s4l t2z w (fun j=>(w,r[i],r,(r.length:Int),(i:Int),w,(w.length:Int),j)) (fun y=>z7o r[i].1 y.1) _ _ (by
   rw[r20];simp only[t6v,u0b,Nat.lt_irrefl,decide_false,cond_false]) (fun j hj=>by
   rw[r20];simp only[t6v,u0b,hj,decide_true,cond_true,y7t hi,y7t hj,zTn,y8k hi,y8k hj,zOb]
   rw[y7l (by omega)])
 have outer:=s4l t64 r (fun i=>(w,r,(r.length:Int),i)) (fun x=>w.any fun y=>z7o x.1 y.1) (.inr true) (.inl ()) (by
  rw[r2z];simp only[t6u,u0b,Nat.lt_irrefl,decide_false,cond_false]) (fun i hi=>by
  rw[r2z];simp only[t6u,u0b,hi,decide_true,cond_true,y7t hi,zTn,y8k hi,inner i hi,zOb]
  have ws:=y7l (i:=i) (by omega)
  cases w.any fun y=>z7o r[i].1 y.1<;>simp only[cond_true,cond_false,ws])
 rw[q8p];unfold r7i
 simp only[outer,zOb]
 unfold s1w
 cases r.any fun x=>w.any fun y=>z7o x.1 y.1<;>rfl
def r7y (a b:u0t.den):Bool:=
 decide (a.2.1=3)&&decide (b.2.1=3)&& !decide (a.1=b.1)&&
 (decide (a.2.2.2.1≤b.2.2.1)&&t98 b.2.2.2.2.1 a.2.2.2.2.2.1 || decide (a.2.2.2.1<b.2.2.2.1)&&s1w a.2.2.2.2.2.1 b.2.2.2.2.2.1 || decide (b.2.2.2.1 >a.2.2.1)&&t98 a.2.2.2.2.1 b.2.2.2.2.2.1)
theorem p1i (a:u0t.den):u8l a=some (decide (a.2.1=3)):=by
 rw[t5m];rfl
end
section
def o54 (l:List u0t.den) (j i:Nat):Bool:=r7y (rdL u0t l j) (rdL u0t l i)
def o1k (l:List u0t.den) (t:List Nat) (i:Nat):Bool:= !t.contains i&& !(List.range l.length).any (fun j=> !decide (j=i)&&(!t.contains j&&o54 l j i))
def p71 (l:List u0t.den) (t:List Nat):Option Nat:=(List.range l.length).find? (o1k l t)
def o1l (l:List u0t.den):Nat→List Nat→Option (List Nat)
 | 0,t=>some t
 | k+1,t=>match p71 l t with
  | none=>none
  | some i=>o1l l k (t++ [i])
def o3x (l:List u0t.den):Option (List Nat):=o1l l l.length []
section
variable {l:List u0t.den} (hw:∀x∈l,u0t.wt x≤u0l) (hl:l.length≤1048576)
include hw hl
end
end
section
def o30 (l:List u0t.den):Nat:=(l.map fun t=>t.2.2.2.2.2.1.length).sum
section
variable {l:List u0t.den} (hw:∀x∈l,u0t.wt x≤u0l) (hl:l.length+o30 l≤1048576) (hr:∀x∈l,x.2.2.2.2.1.length≤1048576)
include hl
include hr
include hw
end
end
section
abbrev Src:=List Int×Int×Int
def Src.ok (s:Src):Prop:=s.1.length≤1048576∧0≤s.2.1∧s.2.1≤(s.1.length:Int)
def Dr {T:Type} (F:Option (T×Src)) (p:T→Prop):Prop:= ∃y s,F=some (y,s)∧s.ok∧p y
theorem p2f (v:BitVec IntKind.i64.bits):0≤IntKind.i64.wrap ((v&&&BitVec.ofInt IntKind.i64.bits 255).toNat:Int)∧IntKind.i64.wrap ((v&&&BitVec.ofInt IntKind.i64.bits 255).toNat:Int)<256:=by
 have h:(v&&&BitVec.ofInt IntKind.i64.bits 255).toNat≤255:=by
  rw[BitVec.toNat_and]
  exact Nat.le_trans Nat.and_le_right (by decide)
 rw[y4y (by omega) (by omega)]
 omega
theorem r9m {s:Src} (h:s.ok):Dr (u6v s) (fun y=>0≤y∧y<256):=by
 obtain⟨l,p,z⟩:=s
 obtain⟨h1,h2,h3⟩:=h
 simp only at h1 h2 h3
 rw[q3d];unfold r1j
 simp only
 by_cases hp:p<(l.length:Int)
 ·have hg:y4q p l.length=true:=by simp[y4q,h2,hp]
  simp only[hp,decide_true,cond_true,hg]
  exact⟨_,_,rfl,⟨h1,by simp only;rw[y4y (by omega) (by omega)];omega,by simp only;rw[y4y (by omega) (by omega)];omega⟩,p2f _⟩
 ·simp only[hp,decide_false,cond_false]
  exact⟨_,_,rfl,⟨h1,h2,h3⟩,p2f _⟩
theorem p23 {a n:Int} (ha:0≤a) (hn:0<n):0≤Int.tmod a n∧Int.tmod a n<n:=⟨Int.tmod_nonneg _ ha,Int.tmod_lt_of_pos _ hn⟩
theorem s4f {s:Src} (h:s.ok) {n:Int} (hn:0<n):Dr (u17 (s,n)) (fun y=>0≤y∧y<n):=by
 rw[q01];unfold s8k
 have h0:decide (n≤0)=false:=by simp;omega
 have h0' :(!decide (n=0))=true:=by simp;omega
 simp only[h0,cond_false,h0',cond_true]
 by_cases h1:n≤256
 ·simp only[h1,decide_true,cond_true]
  obtain⟨y,s1,e1,k1,r1⟩:=r9m h
  simp only[e1,zOb]
  exact⟨_,_,rfl,k1,p23 r1.1 hn⟩
 ·simp only[h1,decide_false,cond_false]
  obtain⟨y1,s1,e1,k1,r1⟩:=r9m h
  obtain⟨y2,s2,e2,k2,r2⟩:=r9m k1
  obtain⟨y3,s3,e3,k3,r3⟩:=r9m k2
  obtain⟨y4,s4,e4,k4,r4⟩:=r9m k3
  simp only[e1,e2,e3,e4,zOb]
  refine⟨_,_,rfl,k4,p23 ?_ hn⟩
  rw[y4y (n:=y1*16777216) (by omega) (by omega),y4y (n:=y2*65536) (by omega) (by omega),y4y (n:=y3*256) (by omega) (by omega),y4y (n:=y1*16777216+y2*65536) (by omega) (by omega),
   y4y (n:=y1*16777216+y2*65536+y3*256) (by omega) (by omega),y4y (n:=y1*16777216+y2*65536+y3*256+y4) (by omega) (by omega)]
  omega
theorem q5l {s:Src} (h:s.ok) {n:Int} (hn:0<n):Dr (u19 (s,n)) (fun _=>True):=by
 rw[q3f];unfold r1l
 obtain⟨y,s1,e1,k1,r1⟩:=s4f h hn
 simp only[e1,zOb]
 exact⟨_,_,rfl,k1,trivial⟩
theorem q5m {s:Src} (h:s.ok) {l:List ByteArray} (hl:0<l.length):Dr (u1v (s,l)) (fun y=>y∈l):=by
 rw[q3g];unfold r1m
 obtain⟨y,s1,e1,k1,r1⟩:=s4f h (n:=(l.length:Int)) (by omega)
 obtain⟨i,rfl⟩:∃i:Nat,y=(i:Int):=⟨y.toNat,by omega⟩
 have hi:i<l.length:=by omega
 simp only[e1,zOb,y7t hi,cond_true,zTn]
 exact⟨_,_,rfl,k1,by show rdL Ty.str l i∈l;have h:rdL Ty.str l i=l[i] :=y8k (t:=Ty.str) (l:=l) hi;rw[h];exact List.getElem_mem hi⟩
theorem o0x {l:List Int} (hl:l.length≤1048576):∃s:Src,s43 l=some s∧s.ok:=by
 have key:∀(d i:Nat) (z:Int),i≤l.length→l.length - i≤d→ ∃z',t0x (l,z,(i:Int))=some (.inl (l,z')):=by
  intro d
  induction d with
  | zero=>
   intro i z hi hd
   have:i=l.length:=by omega
   subst this
   rw[s0f]
   simp only[t0q,u0b,Nat.lt_irrefl,decide_false,cond_false,zOb]
   exact⟨_,rfl⟩
  | succ d ih=>
   intro i z hi hd
   by_cases h:i<l.length
   ·rw[s0f]
    simp only[t0q,u0b,h,decide_true,cond_true,zOb,y7t h]
    rw[y7l (by omega)]
    cases decide ((i:Int)<4000) with
    | false=>exact⟨_,rfl⟩
    | true=>exact ih (i+1) _ (by omega) (by omega)
   ·have:i=l.length:=by omega
    subst this
    rw[s0f]
    simp only[t0q,u0b,Nat.lt_irrefl,decide_false,cond_false,zOb]
    exact⟨_,rfl⟩
 obtain⟨z',hz⟩:=key l.length 0 (IntKind.i64.wrap (77601+(l.length:Int))) (Nat.zero_le _) (by omega)
 rw[q6v];unfold r4v
 have hz' :t0x (l,IntKind.i64.wrap (77601+(l.length:Int)),0)=_:=hz
 simp only[hz',zOb]
 exact⟨_,rfl,hl,Int.le_refl _,by simp only;omega⟩
def r3o (l:List u11.den) (w:u11.den):List u11.den:=l.filter (fun x=>y3c x.1 w.1)++ [w] ++l.filter (fun x=> !(y3c x.1 w.1 || z7o x.1 w.1))
theorem q5o (l:List u11.den) (w:u11.den) (hl:l.length≤1048576):t9y (l,w)=some (r3o l w):=by
 have L1:=s0p t2a l (fun a i=>(l,w,a,i)) (fun x=>y3c x.1 w.1) (fun x=>x) (fun a=> .inl (l,w,a)) (by omega) (fun a ha=>by
  rw[s33];simp only[t1t,u0b,Nat.lt_irrefl,decide_false,cond_false]) (fun i hi a ha=>by
  have hc:Nat.ble (a.length+([l[i]] :List u11.den).length) z7w=true:=by
   rw[Nat.ble_eq];simp only[List.length_cons,List.length_nil,z7w];omega
  rw[s33];simp only[t1t,u0b,hi,decide_true,cond_true,y7t hi,zTn,y8k hi]
  rw[y7l (by omega),hc]
  rfl)
 simp only[List.map_id'] at L1
 have L2:=t7v t2b l (fun a i=>(l,w,a,i)) (fun(a:List u11.den) x=>if y3c x.1 w.1 || z7o x.1 w.1 then a else a++ [x]) (fun a=> .inl a) (fun i a=>a.length≤1048577+i) (fun a ha=>by
  rw[s34];simp only[t1u,u0b,Nat.lt_irrefl,decide_false,cond_false]) (fun i hi a ha=>by
  have hc:Nat.ble (a.length+([l[i]] :List u11.den).length) z7w=true:=by
   rw[Nat.ble_eq];simp only[List.length_cons,List.length_nil,z7w];omega
  rw[s34];simp only[t1u,u0b,hi,decide_true,cond_true,y7t hi,zTn,y8k hi]
  rw[y7l (by omega),hc]
  cases hq:y3c l[i].1 w.1 || z7o l[i].1 w.1 with
  | true=>simp only[Bool.not_true,cond_false,if_true];refine⟨by omega,?_⟩;trivial
  | false=>simp only[Bool.not_false,cond_true,Bool.false_eq_true,if_false];refine⟨by simp;omega,?_⟩;trivial)
 have key:∀(l:List u11.den) (a:List u11.den),l.foldl (fun(a:List u11.den) x=>if y3c x.1 w.1 || z7o x.1 w.1 then a else a++ [x]) a=a++l.filter (fun x=> !(y3c x.1 w.1 || z7o x.1 w.1)):=by
  intro l
  induction l with
  | nil=>intro a;simp
  | cons x l ih=>
   intro a
   simp only[List.foldl_cons,ih,List.filter_cons]
   cases hq:y3c x.1 w.1 || z7o x.1 w.1<;>simp
 have hlen:(l.filter (fun x=>y3c x.1 w.1)).length≤l.length:=List.length_filter_le _ _
 have L2' :=L2 (l.filter (fun x=>y3c x.1 w.1)++ [w]) (by simp;omega)
 rw[key] at L2'
 have hc:Nat.ble ((l.filter (fun x=>y3c x.1 w.1)).length+([w] :List u11.den).length) z7w=true:=by
  rw[Nat.ble_eq];simp only[List.length_cons,List.length_nil,z7w];omega
 rw[q0s];unfold s8a
 simp only[L1,zOb]
 rw[hc]
 simp only[cond_true,L2',zOb]
 rfl
theorem q7a {l:List u11.den} {w x:u11.den} (h:x∈r3o l w):x∈l∨x=w:=by
 unfold r3o at h
 simp only[List.append_assoc,List.mem_append,List.mem_filter,List.mem_cons,List.not_mem_nil,or_false] at h
 rcases h with h | h | h
 ·exact .inl h.1
 ·exact .inr h
 ·exact .inl h.1
theorem p2q (l:List u11.den) (w:u11.den):(r3o l w).length≤l.length+1:=by
 have:∀l:List u11.den,(l.filter (fun x=>y3c x.1 w.1)).length+(l.filter (fun x=> !(y3c x.1 w.1 || z7o x.1 w.1))).length≤l.length:=by
  intro l
  induction l with
  | nil=>simp
  | cons x l ih=>
   simp only[List.filter_cons]
   cases y3c x.1 w.1<;>cases z7o x.1 w.1<;>simp only[Bool.or_true,Bool.or_false,Bool.not_true,Bool.not_false,if_true,if_false,Bool.false_eq_true,List.length_cons] <;>omega
 unfold r3o
 have:=this l
 simp only[List.length_append,List.length_cons,List.length_nil]
 omega
def KD (l:List u11.den):Prop:=l.Pairwise fun a b=>a.1≠b.1
def smallTx (t:u0t.den):Prop:=t.2.2.2.2.1.length≤3∧(∀r∈t.2.2.2.2.1,r.1.size≤2∧r.2.size≤2)∧t.2.2.2.2.2.1.length≤3∧(∀r∈t.2.2.2.2.2.1,r.1.size≤2∧r.2.1.size≤3)∧t.2.2.2.2.2.2.2.size≤16
theorem p22 {α:Type} {l:List α} {f:α→Nat} {k:Nat} (h:∀x∈l,f x≤k):(l.map f).sum≤l.length*k:=by
 induction l with
 | nil=>simp
 | cons x l ih=>
  have h1:=h x (List.mem_cons_self ..)
  have h2:=ih (fun y hy=>h y (List.mem_cons_of_mem _ hy))
  simp only[List.map_cons,List.sum_cons,List.length_cons,Nat.succ_mul]
  omega
theorem smallTx.wt {t:u0t.den} (h:smallTx t):u0t.wt t≤u0l:=by
 obtain⟨h1,h2,h3,h4,h5⟩:=h
 have a1:=p22 (l:=t.2.2.2.2.1) (f:=(Ty.pair .str .str).wt) (k:=4) (fun x hx=>by have:=h2 x hx;simp only[Ty.wt];omega)
 have a2:=p22 (l:=t.2.2.2.2.2.1) (f:=(Ty.pair .str (.pair .str .bool)).wt) (k:=5) (fun x hx=>by have:=h4 x hx;simp only[Ty.wt];omega)
 have hw:u0t.wt t=0+(0+(0+(0+((t.2.2.2.2.1.length+(t.2.2.2.2.1.map (Ty.pair .str .str).wt).sum)+((t.2.2.2.2.2.1.length+(t.2.2.2.2.2.1.map (Ty.pair .str (.pair .str .bool)).wt).sum)+(0+t.2.2.2.2.2.2.2.size)))))):=rfl
 rw[hw]
 unfold u0l
 omega
def tId (t:u0t.den):Int:=t.1
def tSt (t:u0t.den):Int:=t.2.1
def o3z (t:u0t.den):Int:=t.2.2.1
def tCs (t:u0t.den):Int:=t.2.2.2.1
def o06 (t:u0t.den):Prop:=tSt t=3∧o3z t<tCs t∧KD t.2.2.2.2.2.1
def o1d (l:List u0t.den):Prop:=(∀t∈l,o06 t)∧l.Pairwise fun a b=>tId a≠tId b∧tCs a<tCs b
end
section
def PAsc (m:List PrT):Prop:=m.Pairwise fun a b=>y3c a.1 b.1=true
theorem PAsc.ext:∀ {l m:List PrT},PAsc l→PAsc m→(∀x,x∈l↔x∈m)→l=m
 | [], [],_,_,_=>rfl
 | [],y::m,_,_,h=>by have:=(h y).mpr (by simp);simp at this
 | x::l, [],_,_,h=>by have:=(h x).mp (by simp);simp at this
 | x::l,y::m,hl,hm,h=>by
  have hl' :=List.pairwise_cons.mp hl
  have hm' :=List.pairwise_cons.mp hm
  have hxy:x=y:=by
   rcases List.mem_cons.mp ((h x).mp (by simp)) with e | e
   ·exact e
   ·rcases List.mem_cons.mp ((h y).mpr (by simp)) with e' | e'
    ·exact e'.symm
    ·have:=s9n (hm'.1 x e) (hl'.1 y e')
     rw[u6w] at this;cases this
  subst hxy
  congr 1
  refine PAsc.ext hl'.2 hm'.2 fun z=> ?_
  constructor
  ·intro hz
   rcases List.mem_cons.mp ((h z).mp (by simp[hz])) with e | e
   ·subst e;have:=hl'.1 z hz;rw[u6w] at this;cases this
   ·exact e
  ·intro hz
   rcases List.mem_cons.mp ((h z).mpr (by simp[hz])) with e | e
   ·subst e;have:=hm'.1 z hz;rw[u6w] at this;cases this
   ·exact e
theorem p7t {l:List u18} {v x:u18} :x∈p2p l v↔x=v∨x∈l:=by
 unfold p2p
 conv=>rhs;rw[←List.takeWhile_append_dropWhile (p:=u6y v) (l:=l)]
 simp only[List.mem_append,List.mem_singleton]
 constructor
 ·rintro((h | h) | h)
  ·exact .inr (.inl h)
  ·exact .inl h
  ·exact .inr (.inr h)
 ·rintro(h | h | h)
  ·exact .inl (.inr h)
  ·exact .inl (.inl h)
  ·exact .inr h
theorem t7z {x:u18} :∀(ws:List u11.den) (l:List u18) (cs:Int),x∈t41 l ws cs↔x∈l∨ ∃w∈ws,x=(w.1,w.2.1,w.2.2,cs)
 | [],l,cs=>by simp[t41]
 | w::ws,l,cs=>by
  have e:t41 l (w::ws) cs=t41 (p2p l (w.1,w.2.1,w.2.2,cs)) ws cs:=rfl
  rw[e,t7z ws,p7t]
  constructor
  ·rintro((h | h) | ⟨y,hy,h⟩)
   ·exact .inr ⟨w,by simp,h⟩
   ·exact .inl h
   ·exact .inr ⟨y,by simp[hy],h⟩
  ·rintro(h | ⟨y,hy,h⟩)
   ·exact .inl (.inr h)
   ·rcases List.mem_cons.mp hy with rfl | hy
    ·exact .inl (.inl h)
    ·exact .inr ⟨y,hy,h⟩
def vCs (x:u18):Int:=x.2.2.2
theorem r6b (l:List u18) (k:ByteArray) (snap:Int):∀n,n≤l.length→
 (r43 l k snap n<0→ ∀(i:Nat) (h:i<l.length),i<n→ ¬(l[i].1=k∧vCs l[i] ≤snap))∧
 (∀a:Nat,r43 l k snap n=(a:Int)→ ∃h:a<l.length,l[a].1=k∧vCs l[a] ≤snap∧ ∀(i:Nat) (h:i<l.length),i<n→l[i].1=k→vCs l[i] ≤snap→vCs l[i] ≤vCs l[a])
 | 0,_=>⟨fun _ i _ h=>absurd h (Nat.not_lt_zero i),fun a e=>by simp only[r43] at e;omega⟩
 | n+1,hn=>by
  obtain⟨h1,h2⟩:=r6b l k snap n (by omega)
  have hlt:n<l.length:=by omega
  have hr:=r44 l k snap n
  simp only[r43,q8c,y8k (t:=u0d) hlt]
  by_cases hc:z7o l[n].1 k=true∧l[n].2.2.2≤snap∧(r43 l k snap n<0∨l[n].2.2.2 >(rdL u0d l (r43 l k snap n).toNat).2.2.2)
  ·rw[if_pos hc]
   obtain⟨c1,c2,c3⟩:=hc
   have c1:l[n].1=k:=y7f.mp c1
   refine⟨fun h=>by omega,fun a e=> ?_⟩
   have e:n=a:=by omega
   subst e
   refine⟨hlt,c1,c2,fun i hi hin hk hs=> ?_⟩
   by_cases q:i=n
   ·subst q;exact Int.le_refl _
   ·rcases Int.lt_or_le (r43 l k snap n) 0 with z | z
    ·exact absurd ⟨hk,hs⟩ (h1 z i hi (by omega))
    ·obtain⟨b,hb⟩:∃b:Nat,r43 l k snap n=(b:Int):=⟨(r43 l k snap n).toNat,by omega⟩
     obtain⟨hbl,_,_,g3⟩:=h2 b hb
     rcases c3 with c3 | c3
     ·omega
     ·rw[hb,zTn,y8k (t:=u0d) hbl] at c3
      have h5:=g3 i hi (by omega) hk hs
      have c3:vCs l[n] >vCs l[b] :=c3
      omega
  ·rw[if_neg hc]
   have hc' :l[n].1=k→vCs l[n] ≤snap→ ∃b:Nat,r43 l k snap n=(b:Int)∧ ∃h:b<l.length,vCs l[n] ≤vCs l[b] :=fun c1 c2=>by
    rcases Int.lt_or_le (r43 l k snap n) 0 with z | z
    ·exact absurd ⟨y7f.mpr c1,c2, .inl z⟩ hc
    ·obtain⟨b,hb⟩:∃b:Nat,r43 l k snap n=(b:Int):=⟨(r43 l k snap n).toNat,by omega⟩
     obtain⟨hbl,_⟩:=h2 b hb
     refine⟨b,hb,hbl,Int.not_lt.mp fun z2=>hc ⟨y7f.mpr c1,c2, .inr ?_⟩⟩
     rw[hb,zTn,y8k (t:=u0d) hbl]
     exact z2
   refine⟨fun h i hi hin=> ?_,fun a e=> ?_⟩
   ·by_cases q:i=n
    ·subst q
     rintro⟨z1,z2⟩
     obtain⟨b,hb,_⟩:=hc' z1 z2
     omega
    ·exact h1 h i hi (by omega)
   ·obtain⟨ha,g1,g2,g3⟩:=h2 a e
    refine⟨ha,g1,g2,fun i hi hin hk hs=> ?_⟩
    by_cases q:i=n
    ·subst q
     obtain⟨b,hb,hbl,g4⟩:=hc' hk hs
     have e:b=a:=by omega
     subst e
     exact g4
    ·exact g3 i hi (by omega) hk hs
theorem p20 (l:List u18) (k v:ByteArray) (snap:Int) (hu:∀x∈l,∀y∈l,x.1=y.1→vCs x=vCs y→x=y):
 ((s9o l k snap).2=true∧(s9o l k snap).1=v)↔ ∃x∈l,x.1=k∧vCs x≤snap∧x.2.2.1=false∧x.2.1=v∧ ∀y∈l,y.1=k→vCs y≤snap→vCs y≤vCs x:=by
 obtain⟨h1,h2⟩:=r6b l k snap l.length (Nat.le_refl _)
 have hr:=r6w l k snap
 unfold s9o
 rcases Int.lt_or_le (t06 l k snap) 0 with z | z
 ·rw[if_pos (.inl z)]
  constructor
  ·rintro⟨h,_⟩;cases h
  ·rintro⟨x,hx,q1,q2,_⟩
   obtain⟨i,hi,rfl⟩:=List.getElem_of_mem hx
   exact absurd ⟨q1,q2⟩ (h1 z i hi hi)
 ·obtain⟨b,hb⟩:∃b:Nat,t06 l k snap=(b:Int):=⟨(t06 l k snap).toNat,by omega⟩
  obtain⟨hbl,g1,g2,g3⟩:=h2 b hb
  rw[hb,zTn,y8k (t:=u0d) hbl]
  have hmax:∀y∈l,y.1=k→vCs y≤snap→vCs y≤vCs l[b] :=fun y hy q1 q2=>by
   obtain⟨i,hi,rfl⟩:=List.getElem_of_mem hy
   exact g3 i hi hi q1 q2
  have hnn: ¬((b:Int)<0):=by omega
  cases hg:l[b].2.2.1 with
  | true=>
   rw[if_pos (.inr rfl)]
   constructor
   ·rintro⟨h,_⟩;cases h
   ·rintro⟨x,hx,q1,q2,q3,_,q5⟩
    have m1:=hmax x hx q1 q2
    have m2:=q5 l[b] (List.getElem_mem hbl) g1 g2
    have e:=hu x hx l[b] (List.getElem_mem hbl) (q1.trans g1.symm) (by omega)
    rw[e,hg] at q3
    cases q3
  | false=>
   rw[if_neg (by simp)]
   constructor
   ·rintro⟨_,h⟩
    exact⟨l[b],List.getElem_mem hbl,g1,g2,hg,h,hmax⟩
   ·rintro⟨x,hx,q1,q2,q3,q4,q5⟩
    have m1:=hmax x hx q1 q2
    have m2:=q5 l[b] (List.getElem_mem hbl) g1 g2
    have e:=hu x hx l[b] (List.getElem_mem hbl) (q1.trans g1.symm) (by omega)
    rw[e] at q4
    exact⟨rfl,q4⟩
theorem p2y (l:List u18) (r:PrT) (snap:Int):PAsc (t8s l r snap):=by
 unfold PAsc t8s
 rw[List.pairwise_map]
 exact((r6v _).1).filter _
theorem p2j (l:List u18) (r:PrT) (snap:Int) (k v:ByteArray) (hu:∀x∈l,∀y∈l,x.1=y.1→vCs x=vCs y→x=y):
 (k,v)∈t8s l r snap↔inR r k=true∧ ∃x∈l,x.1=k∧vCs x≤snap∧x.2.2.1=false∧x.2.1=v∧ ∀y∈l,y.1=k→vCs y≤snap→vCs y≤vCs x:=by
 unfold t8s
 simp only[List.mem_map,List.mem_filter,Bool.and_eq_true,Prod.mk.injEq]
 constructor
 ·rintro⟨k',⟨_,h2,h3⟩,rfl,h5⟩
  exact⟨h3,(p20 l k' v snap hu).mp ⟨h2,h5⟩⟩
 ·rintro⟨h1,h2⟩
  obtain⟨q1,q2⟩:=(p20 l k v snap hu).mpr h2
  obtain⟨x,hx,e,_⟩:=h2
  exact⟨k,⟨((r6v _).2 k).mpr (List.mem_map.mpr ⟨x,hx,e⟩),q1,h1⟩,rfl,q2⟩
end
section
theorem twl {E:Type} (p:E→Bool):∀(l:List E),(l.takeWhile p).length≤l.length∧(∀(i:Nat) (h:i<l.length),i<(l.takeWhile p).length→p l[i] =true)∧
 (∀(h:(l.takeWhile p).length<l.length),p l[(l.takeWhile p).length] =false)
 | [] =>⟨Nat.le_refl _,fun i h=>absurd h (Nat.not_lt_zero i),fun h=>absurd h (Nat.not_lt_zero _)⟩
 | x::l=>by
  obtain⟨h1,h2,h3⟩:=twl p l
  cases hp:p x with
  | false=>
   simp only[List.takeWhile_cons,hp,Bool.false_eq_true,if_false,List.length_nil]
   exact⟨Nat.zero_le _,fun i _ h=>absurd h (Nat.not_lt_zero i),fun _=>hp⟩
  | true=>
   simp only[List.takeWhile_cons,hp,if_true,List.length_cons]
   refine⟨by omega,fun i h k=> ?_,fun h=> ?_⟩
   ·cases i with
    | zero=>exact hp
    | succ i=>simpa using h2 i (by simpa using h) (by omega)
   ·simpa using h3 (by omega)
def u0n {E:Type} (p:E→Bool) (l:List E):Nat:=(l.takeWhile fun x=> !p x).length
theorem t2e {E:Type} (p:E→Bool) (l:List E):u0n p l≤l.length:=(twl _ l).1
theorem u7k {E:Type} {p:E→Bool} {l:List E} {i:Nat} (h:i<l.length) (hi:i<u0n p l):p l[i] =false:=by
 have:=(twl (fun x=> !p x) l).2.1 i h hi
 simpa using this
theorem u6r {E:Type} {p:E→Bool} {l:List E} (h:u0n p l<l.length):p l[u0n p l] =true:=by
 unfold u0n at h ⊢
 have:=(twl (fun x=> !p x) l).2.2 h
 simpa using this
theorem t4m {E:Type} (p:E→Bool) (l:List E):decide (u0n p l<l.length)=l.any p:=by
 cases hc:l.any p with
 | true=>
  obtain⟨x,hx,hp⟩:=List.any_eq_true.mp hc
  obtain⟨i,hi,rfl⟩:=List.getElem_of_mem hx
  have: ¬i<u0n p l:=fun q=>by rw[u7k hi q] at hp;cases hp
  simp only[decide_eq_true_eq]
  omega
 | false=>
  simp only[decide_eq_false_iff_not]
  intro h
  have:=u6r h
  have:=List.any_eq_false.mp hc _ (List.getElem_mem h)
  contradiction
theorem Q.first {T:Ty} {c:Type} {q:T.den×c→Option Bool} {p:T.den→Bool} {W:List T.den×c×Int×Int→Option (Unit⊕Int)}
 (hW:∀x,W x=(bif (decide (x.2.2.2<x.2.2.1)) then(bif (y4q x.2.2.2 x.1.length) then((q ((rdL T x.1 (x.2.2.2).toNat),x.2.1)).bind fun(y1:Bool)=>(bif y1 then(some (.inr x.2.2.2)) else(W (x.1,(x.2.1,(x.2.2.1,(IntKind.i64.wrap (x.2.2.2+(1:Int))))))))) else none) else(some (.inl ()))))
 (l:List T.den) (k:c) (hl:l.length≤1099511627776) (hq:∀x∈l,q (x,k)=some (p x)):
 W (l,k,(l.length:Int),0)=some (if u0n p l<l.length then .inr ((u0n p l:Nat):Int) else .inl ()):=by
 have hle:=t2e p l
 have:=r3c W (u0n p l) (fun(_:Unit) i=>(l,k,(l.length:Int),i)) (fun _ _=>if u0n p l<l.length then .inr ((u0n p l:Nat):Int) else .inl ()) (fun _ _=>True)
  (fun a _=>by
   rw[hW]
   by_cases hk:u0n p l<l.length
   ·simp only[u0b,hk,decide_true,cond_true,y7t hk,zTn,y8k hk,hq _ (List.getElem_mem hk),u6r hk,zOb,if_true]
   ·simp only[u0b,hk,decide_false,cond_false,if_false])
  (fun i a hi _=> .inr ⟨(),trivial,rfl,by
   have hil:i<l.length:=by omega
   rw[hW]
   simp only[u0b,hil,decide_true,cond_true,y7t hil,zTn,y8k hil,hq _ (List.getElem_mem hil),u7k hil hi,zOb,cond_false]
   rw[y7l (by omega)]⟩) 0 () (Nat.zero_le _) trivial
 exact this
theorem Q.delete {T:Ty} {c R:Type} {q:T.den×c→Option Bool} {p:T.den→Bool} {W:List T.den×c×Int×Int→Option ((List T.den×Int)⊕R)}
 (hW:∀x,W x=(bif (decide (x.2.2.2<(x.1.length:Int))) then(bif (y4q x.2.2.2 x.1.length) then((q ((rdL T x.1 (x.2.2.2).toNat),x.2.1)).bind fun(y2:Bool)=>(bif (!y2) then(bif (y4q x.2.2.1 x.1.length) then(W ((x.1.set (x.2.2.1).toNat (rdL T x.1 (x.2.2.2).toNat)),(x.2.1,((IntKind.i64.wrap (x.2.2.1+(1:Int))),(IntKind.i64.wrap (x.2.2.2+(1:Int))))))) else none) else(W (x.1,(x.2.1,(x.2.2.1,(IntKind.i64.wrap (x.2.2.2+(1:Int))))))))) else none) else(some (.inl (x.1,x.2.2.1)))))
 (l:List T.den) (k:c) (hl:l.length≤1099511627776) (hq:∀x∈l,q (x,k)=some (p x)) (hf:u0n p l<l.length):
 ∃a:List T.den,W (l,k,((u0n p l:Nat):Int),((u0n p l+1:Nat):Int))=some (.inl (a,((l.filter fun x=> !p x).length:Int)))∧a.length=l.length∧a.take (l.filter fun x=> !p x).length=l.filter fun x=> !p x:=by
 have key:∀(d j:Nat) (a:List T.den),j+d=l.length→a.length=l.length→a.drop j=l.drop j→((l.take j).filter fun x=> !p x).length≤j→((l.take j).filter fun x=> !p x).length<l.length→a.take ((l.take j).filter fun x=> !p x).length=(l.take j).filter (fun x=> !p x)→
  ((l.take j).filter fun x=> !p x).length<j→
  ∃a' :List T.den,W (a,k,(((l.take j).filter fun x=> !p x).length:Int),(j:Int))=some (.inl (a',((l.filter fun x=> !p x).length:Int)))∧a'.length=l.length∧a'.take (l.filter fun x=> !p x).length=l.filter fun x=> !p x:=by
  intro d
  induction d with
  | zero=>
   intro j a hj ha h1 h2 h3 h4 h5
   have e:j=l.length:=by omega
   subst e
   rw[List.take_length] at h4 ⊢
   rw[hW]
   simp only[ha,u0b,Nat.lt_irrefl,decide_false,cond_false]
   exact⟨a,rfl,ha,h4⟩
  | succ d ih=>
   intro j a hj ha h1 h2 h3 h4 h5
   have hjl:j<l.length:=by omega
   have hja:j<a.length:=by omega
   have haj:a[j] =l[j] :=by
    have e1:=List.drop_eq_getElem_cons hja
    have e2:=List.drop_eq_getElem_cons hjl
    rw[h1,e2] at e1
    injection e1 with e1 _
    exact e1.symm
   have hs:l.take (j+1)=l.take j++ [l[j]] :=List.take_succ_eq_append_getElem hjl
   have hd:a.drop (j+1)=l.drop (j+1):=by
    have:=congrArg List.tail h1
    simpa using this
   rw[hW]
   simp only[u0b,hja,decide_true,cond_true,y7t hja,zTn,y8k hja,haj,hq _ (List.getElem_mem hjl),zOb]
   rw[y7l (i:=j) (by omega)]
   cases hp:p l[j] with
   | true=>
    simp only[Bool.not_true,cond_false]
    have e:(l.take (j+1)).filter (fun x=> !p x)=(l.take j).filter fun x=> !p x:=by rw[hs,List.filter_append,List.filter_cons];simp only[hp,Bool.not_true,Bool.false_eq_true,if_false,List.filter_nil,List.append_nil]
    have:=ih (j+1) a (by omega) ha hd (by rw[e];omega) (by rw[e];exact h3) (by rw[e];exact h4) (by rw[e];omega)
    rwa [e] at this
   | false=>
    have e:(l.take (j+1)).filter (fun x=> !p x)=(l.take j).filter (fun x=> !p x)++ [l[j]] :=by rw[hs,List.filter_append,List.filter_cons];simp only[hp,Bool.not_false,if_true,List.filter_nil]
    have el:((l.take (j+1)).filter fun x=> !p x).length=((l.take j).filter fun x=> !p x).length+1:=by rw[e];simp
    have hia:((l.take j).filter fun x=> !p x).length<a.length:=by omega
    simp only[Bool.not_false,cond_true,y7t hia]
    rw[y7l (i:=((l.take j).filter fun x=> !p x).length) (by omega)]
    have:=ih (j+1) (a.set ((l.take j).filter fun x=> !p x).length l[j]) (by omega) (by simpa using ha) (by
     rw[List.drop_set_of_lt (by omega)]
     exact hd) (by rw[el];omega) (by rw[el];omega) (by
     rw[el,List.take_succ_eq_append_getElem (by simpa using hia),e]
     congr 1
     ·rw[List.take_set_of_le (Nat.le_refl _)]
      exact h4
     ·simp) (by rw[el];omega)
    rwa [el] at this
 have hk:=t2e p l
 have e:(l.take (u0n p l+1)).filter (fun x=> !p x)=l.take (u0n p l):=by
  rw[List.take_succ_eq_append_getElem hf,List.filter_append]
  have h1:(l.take (u0n p l)).filter (fun x=> !p x)=l.take (u0n p l):=by
   rw[List.filter_eq_self]
   intro x hx
   obtain⟨i,hi,rfl⟩:=List.getElem_of_mem hx
   have hi' :i<u0n p l:=by have:=hi;rw[List.length_take] at this;omega
   rw[List.getElem_take,u7k (by omega) hi']
   rfl
  rw[h1]
  simp[u6r hf]
 have el:((l.take (u0n p l+1)).filter fun x=> !p x).length=u0n p l:=by rw[e,List.length_take];omega
 have:=key (l.length - (u0n p l+1)) (u0n p l+1) l (by omega) rfl rfl (by rw[el];omega) (by rw[el];exact hf) (by rw[el,e]) (by rw[el];omega)
 rwa [el] at this
end
section
def r77 (x y:u0e):Bool:=decide (x.2.1=3)&&decide (x.2.2.2.1≤y.2.2.1)
def s8t (a b:u0e):Bool:= !decide (a.1=b.1)&&(!r77 a b&& !r77 b a)
def ahead (a b:u0e):Bool:=s8t a b&&t98 a.2.2.2.2.1 b.2.2.2.2.2.1
def s7k (t:u0e) (l:List u0e):Bool:=l.any fun x=>decide (x.2.1=3)&&ahead t x
theorem p0o (a b:u0e):s4x (a,b)=some (s8t a b):=by
 rw[q6g];unfold r4g s8t r77
 by_cases h1:a.1=b.1
 ·simp[h1]
 ·by_cases h2:a.2.1=3<;>by_cases h3:a.2.2.2.1≤b.2.2.1<;>by_cases h4:b.2.1=3<;>by_cases h5:b.2.2.2.1≤a.2.2.1<;>simp[h1,h2,h3,h4,h5]
theorem p0n (a b:u0e):s4t (a,b)=some (s8t a b):=by
 rw[q56];unfold r35
 simp only[q0a,s7t]
 unfold s8t r77
 by_cases h1:a.1=b.1
 ·simp[h1]
 ·by_cases h2:a.2.1=3<;>by_cases h3:a.2.2.2.1≤b.2.2.1<;>by_cases h4:b.2.1=3<;>by_cases h5:b.2.2.2.1≤a.2.2.1<;>simp[h1,h2,h3,h4,h5]
theorem t1i (a b:u0e) (ha:a.2.2.2.2.1.length≤u0l) (hb:b.2.2.2.2.2.1.length≤u0l):u2f (a,b)=some (ahead a b):=by
 rw[q8t];unfold r7m ahead
 have h1:=p0o a b
 have h2:=q78 _ _ ha hb
 simp only[h2,zOb]
 rw[h1]
 cases s8t a b<;>rfl
theorem t6d (a b:u0e) (ha:a.2.2.2.2.1.length≤u0l) (hb:b.2.2.2.2.2.1.length≤u0l):u45 (a,b)=some (ahead a b):=by
 rw[q8k];unfold r7d ahead
 have h1:=p0n a b
 have h2:=q77 _ _ ha hb
 simp only[h2,zOb]
 rw[h1]
 cases s8t a b<;>rfl
end
section
def r2f (t:u0e):Prop:=t.2.2.2.2.1.length≤1048576∧t.2.2.2.2.2.1.length≤1048576
def q1a (l:List u0e):Prop:=l.length≤4194304∧ ∀t∈l,r2f t
theorem t0l {n:Nat} (h:n≤1048576):n≤u0l:=by unfold u0l;omega
theorem r56 (t:u0e) (l:List u0e) (ht:r2f t) (hl:q1a l):t72 (t,l)=some (s7k t l):=by
 obtain⟨l1,l2⟩:=hl
 have L:=s4l t68 l (fun i=>(l,t,i)) (fun x=>decide (x.2.1=3)&&ahead t x) (.inr true) (.inl ())
  (by rw[r25];simp only[t60,u0b,Nat.lt_irrefl,decide_false,cond_false])
  (fun i hi=>by
   have h1:=t1i t l[i] (t0l ht.1) (t0l (l2 _ (List.getElem_mem hi)).2)
   rw[r25]
   simp only[t60,u0b,hi,decide_true,cond_true,y7t hi,zTn,y8k (t:=u0t) hi,h1,zOb]
   rw[y7l (by omega)]
   cases decide (l[i].2.1=3)<;>cases ahead t l[i] <;>rfl)
 rw[q80];unfold r7t s7k
 simp only[L,zOb]
 cases l.any fun x=>decide (x.2.1=3)&&ahead t x<;>rfl
theorem q4e (t:u0e) (l:List u0e) (ht:r2f t) (hl:q1a l):s08 (t,l)=some (s7k t l):=by
 obtain⟨l1,l2⟩:=hl
 have hq:∀x∈l,t7e (x,t)=some (decide (x.2.1=3)&&ahead t x):=fun x hx=>by
  have h1:=t6d t x (t0l ht.1) (t0l (l2 x hx).2)
  rw[q2m];unfold r0s
  simp only[t5m,t5i,zOb,h1]
  cases decide (x.2.1=3)<;>rfl
 have L:=Q.first (T:=u0t) (c:=u0e) (W:=u1f) (q:=t7e) (p:=fun x:u0e=>decide (x.2.1=3)&&ahead t x) (fun x=>u9s x) l t (by omega) hq
 rw[q8q];unfold r7j s7k
 simp only[s2x,t4s,u8g,u3l,t0k,u4w,L,zOb]
 rw[←t4m]
 by_cases h:u0n (fun x:u0e=>decide (x.2.1=3)&&ahead t x) l<l.length
 ·simp[h]
 ·simp[h]
theorem u8v (t:u0e) (h:r2f t):u02 t=some t:=by
 rw[q3n];unfold r1u
 simp only[List.length_nil,Nat.zero_add,List.nil_append,u07 (show t.2.2.2.2.1.length≤1099511627776 by have:=h.1;omega),u07 (show t.2.2.2.2.2.1.length≤1099511627776 by have:=h.2;omega),cond_true]
theorem r3z (t:u0e) (h:r2f t):u6s t=some t:=by
 rw[q2s];unfold r0y
 simp only[u07 (show t.2.2.2.2.1.length≤1099511627776 by have:=h.1;omega),u07 (show t.2.2.2.2.2.1.length≤1099511627776 by have:=h.2;omega),cond_true]
theorem r3a (l:List u0e) (h:q1a l):t3c l=some l:=by
 have L:=s0p t4d l (fun a i=>(l,a,i)) (fun _=>true) (fun x=>x) (fun a=> .inl a) (by have:=h.1;omega)
  (fun a _=>by rw[s7f];simp only[t34,u0b,Nat.lt_irrefl,decide_false,cond_false])
  (fun i hi a ha=>by
   have h1:=u8v l[i] (h.2 _ (List.getElem_mem hi))
   have:=h.1
   rw[s7f]
   simp only[t34,u0b,hi,decide_true,cond_true,y7t hi,zTn,y8k (t:=u0t) hi,h1,zOb,List.length_singleton,u07 (show a.length+1≤1099511627776 by omega)]
   rw[y7l (by omega)])
 rw[q3p];unfold r1w
 simp only[L,zOb]
 simp
theorem r29 (l:List u0e) (h:q1a l):t1c l=some l:=by
 have L:=s0p t18 l (fun a i=>(a,l,(l.length:Int),i)) (fun _=>true) (fun x=>x) (fun a=> .inl a) (by have:=h.1;omega)
  (fun a _=>by rw[s3z];simp only[t1p,u0b,Nat.lt_irrefl,decide_false,cond_false])
  (fun i hi a ha=>by
   have h1:=r3z l[i] (h.2 _ (List.getElem_mem hi))
   have:=h.1
   rw[s3z]
   simp only[t1p,u0b,hi,decide_true,cond_true,y7t hi,zTn,y8k (t:=u0t) hi,h1,zOb,List.length_singleton,u07 (show a.length+1≤1099511627776 by omega)]
   rw[y7l (by omega)])
 rw[q0l];unfold s73
 simp only[L,zOb]
 simp
abbrev u0i:=List u18×List u0e×List u0e×Int×Int
def fewB (b:u0i):Prop:=b.1.length≤4194304∧q1a b.2.1∧q1a b.2.2.1
theorem t6f (b:u0i) (h:fewB b):u2k b=some b:=by
 have h1:=r3a b.2.1 h.2.1
 have h2:=r3a b.2.2.1 h.2.2
 rw[q3o];unfold r1v
 simp only[List.length_nil,Nat.zero_add,List.nil_append,u07 (show b.1.length≤1099511627776 by have:=h.1;omega),cond_true,h1,h2,zOb]
theorem r54 (b:u0i) (h:fewB b):t1b b=some b:=by
 have h1:=r29 b.2.1 h.2.1
 have h2:=r29 b.2.2.1 h.2.2
 rw[q0k];unfold s72
 simp only[u07 (show b.1.length≤1099511627776 by have:=h.1;omega),cond_true,h1,h2,zOb]
end
section
def t5o (b:u0i) (open_:List u0e):Int:=open_.foldl (fun m t=>if t.2.2.1<m then t.2.2.1 else m) b.2.2.2.1
theorem p0x (b:u0i) (o:List u0e) (h:o.length≤4194304):t9x (b,o)=some (t5o b o):=by
 have L:=t7v t19 o (fun a i=>(o,a,i)) (fun(m:Int) t=>if t.2.2.1<m then t.2.2.1 else m) (fun a=> .inl a) (fun _ _=>True)
  (fun a _=>by rw[s32];simp only[t1s,u0b,Nat.lt_irrefl,decide_false,cond_false])
  (fun i hi a _=>by
   refine⟨trivial,?_⟩
   rw[s32]
   simp only[t1s,u0b,hi,decide_true,cond_true,y7t hi,zTn,y8k (t:=u0t) hi]
   rw[y7l (by omega)]
   by_cases hc:o[i].2.2.1<a
   ·simp only[hc,decide_true,cond_true,if_true]
   ·simp only[hc,decide_false,cond_false,if_false]) b.2.2.2.1 trivial
 rw[q0r];unfold s79
 simp only[L,zOb]
 rfl
theorem p0w (b:u0i) (o:List u0e) (h:o.length≤4194304):t9q (b,o)=some (t5o b o):=by
 have L:=t7v t15 o (fun a i=>(a,o,(o.length:Int),i)) (fun(m:Int) t=>if t.2.2.1<m then t.2.2.1 else m) (fun a=> .inl a) (fun _ _=>True)
  (fun a _=>by rw[s3v];simp only[t1l,u0b,Nat.lt_irrefl,decide_false,cond_false])
  (fun i hi a _=>by
   refine⟨trivial,?_⟩
   rw[s3v]
   simp only[t1l,u0b,hi,decide_true,cond_true,y7t hi,zTn,y8k (t:=u0t) hi]
   rw[y7l (by omega)]
   have e:y8i a o[i].2.2.1=if o[i].2.2.1<a then o[i].2.2.1 else a:=by
    unfold y8i
    split<;>rfl
   rw[e]) b.2.2.2.1 trivial
 rw[q0e];unfold s7x
 simp only[L,zOb]
 rfl
def u1k (b:u0i) (n:ByteArray):Int:=if u0n (fun x:u0e=>z7o x.2.2.2.2.2.2.2 n) b.2.2.1<b.2.2.1.length then((u0n (fun x:u0e=>z7o x.2.2.2.2.2.2.2 n) b.2.2.1:Nat):Int) else -1
theorem t7u (b:u0i) (n:ByteArray) (h:b.2.2.1.length≤4194304):u1u (b,n)=some (u1k b n):=by
 have L:=r3c u9a (u0n (fun x:u0e=>z7o x.2.2.2.2.2.2.2 n) b.2.2.1) (fun(_:Unit) i=>(n,b,i)) (fun _ _=>if u0n (fun x:u0e=>z7o x.2.2.2.2.2.2.2 n) b.2.2.1<b.2.2.1.length then .inr ((u0n (fun x:u0e=>z7o x.2.2.2.2.2.2.2 n) b.2.2.1:Nat):Int) else .inl ()) (fun _ _=>True)
  (fun a _=>by
   have hle:=t2e (fun x:u0e=>z7o x.2.2.2.2.2.2.2 n) b.2.2.1
   rw[s66]
   by_cases hk:u0n (fun x:u0e=>z7o x.2.2.2.2.2.2.2 n) b.2.2.1<b.2.2.1.length
   ·have hy:=u6r hk
    simp only[u8x,u0b,hk,decide_true,cond_true,y7t hk,zTn,y8k (t:=u0t) hk,hy,if_true]
   ·simp only[u8x,u0b,hk,decide_false,cond_false,if_false])
  (fun i a hi _=> .inr ⟨(),trivial,rfl,by
   have hle:=t2e (fun x:u0e=>z7o x.2.2.2.2.2.2.2 n) b.2.2.1
   have hil:i<b.2.2.1.length:=by omega
   have hn:=u7k hil hi
   rw[s66]
   simp only[u8x,u0b,hil,decide_true,cond_true,y7t hil,zTn,y8k (t:=u0t) hil,hn,cond_false]
   rw[y7l (by omega)]⟩) 0 () (Nat.zero_le _) trivial
 have L:u9a (n,b,0)=_:=L
 rw[q26];unfold r1c u1k
 simp only[L,zOb]
 by_cases hk:u0n (fun x:u0e=>z7o x.2.2.2.2.2.2.2 n) b.2.2.1<b.2.2.1.length
 ·simp only[if_pos hk]
 ·simp only[if_neg hk]
end
section
def q3y (l:List u18) (snap:Int) (i:Nat):Bool:=decide ((rdL u0d l i).2.2.2 >snap) || decide (t06 l (rdL u0d l i).1 snap=(i:Int))
def trA (l:List u18) (snap:Int):Nat→List u18
 | 0=> []
 | n+1=>if q3y l snap n=true then trA l snap n++ [rdL u0d l n] else trA l snap n
theorem r63 (l:List u18) (snap:Int):∀n,(trA l snap n).length≤n
 | 0=>Nat.le_refl _
 | n+1=>by
  have:=r63 l snap n
  simp only[trA]
  split
  ·simp;omega
  ·omega
def p65 (l:List u18) (k:ByteArray):Nat:=(l.filter fun v=>z7o v.1 k).length
def p32 (l:List u18) (snap:Int) (v:u18):Bool:= !v.2.2.1 || (decide (v.2.2.2 >snap) || decide ((p65 l v.1:Int) >1))
def u1z (l:List u18) (snap:Int):List u18:=(trA l snap l.length).filter (p32 (trA l snap l.length) snap)
theorem p4j (l:List u18) (snap:Int) (hl:l.length≤8388608):u9c (l,snap, [],0)=some (.inl (snap,trA l snap l.length)):=
 r9x u9c l.length (fun a i=>(l,snap,a,i)) (fun i=>trA l snap i) (.inl (snap,trA l snap l.length))
  (by rw[s7a];simp only[t30,u0b,Nat.lt_irrefl,decide_false,cond_false])
  (fun i hi=>by
   have hL:=q1m l (rdL u0d l i).1 snap (by omega)
   have hn:=r63 l snap i
   rw[s7a]
   simp only[t30,u0b,hi,decide_true,cond_true,y7t hi,zTn,hL,zOb,List.length_singleton,u07 (show(trA l snap i).length+1≤1099511627776 by omega)]
   rw[y7l (by omega)]
   simp only[trA,q3y]
   by_cases h1:(rdL u0d l i).2.2.2 >snap
   ·simp[h1]
   ·by_cases h2:t06 l (rdL u0d l i).1 snap=(i:Int)<;>simp[h1,h2])
theorem p4i (l:List u18) (snap:Int) (hl:l.length≤8388608):u82 (l,snap, [],l,(l.length:Int),0)=some (.inl (snap,trA l snap l.length)):=
 r9x u82 l.length (fun a i=>(l,snap,a,l,(l.length:Int),i)) (fun i=>trA l snap i) (.inl (snap,trA l snap l.length))
  (by rw[s6t];simp only[t3l,u0b,Nat.lt_irrefl,decide_false,cond_false])
  (fun i hi=>by
   have hL:=p1n l (rdL u0d l i).1 snap (by omega)
   have hn:=r63 l snap i
   rw[s6t]
   simp only[t3l,u0b,hi,decide_true,cond_true,y7t hi,zTn,hL,zOb,List.length_singleton,u07 (show(trA l snap i).length+1≤1099511627776 by omega)]
   rw[y7l (by omega)]
   simp only[trA,q3y]
   by_cases h1:(rdL u0d l i).2.2.2 >snap
   ·simp[h1]
   ·by_cases h2:t06 l (rdL u0d l i).1 snap=(i:Int)<;>simp[h1,h2])
end
section
theorem r96 (k:ByteArray):∀(l:List u18) (a:Nat),l.foldl (fun(a:Nat) v=>if z7o v.1 k=true then a+1 else a) a=a+p65 l k
 | [],a=>by simp[p65]
 | x::l,a=>by
  rw[List.foldl_cons,r96 k l]
  unfold p65
  cases hc:z7o x.1 k with
  | true=>simp[List.filter_cons,hc];omega
  | false=>simp[List.filter_cons,hc]
theorem p4l (s out:List u18) (snap:Int) (i:Nat) (hi:i<s.length) (hl:s.length≤8388608):
 u7g (snap,s,out,(i:Int),0,0)=some (.inl (snap,s,out,(i:Int),(p65 s s[i].1:Int))):=by
 have L:=t7v u7g s (fun(a:Nat) j=>(snap,s,out,(i:Int),(a:Int),j)) (fun(a:Nat) v=>if z7o v.1 s[i].1=true then a+1 else a) (fun a=> .inl (snap,s,out,(i:Int),(a:Int))) (fun j a=>a≤j)
  (fun a _=>by rw[s39];simp only[t1z,u0b,Nat.lt_irrefl,decide_false,cond_false])
  (fun j hj a ha=>by
   rw[s39]
   simp only[t1z,u0b,hj,decide_true,cond_true,y7t hj,y7t hi,zTn,y8k (t:=u0d) hj,y8k (t:=u0d) hi]
   rw[y7l (i:=j) (by omega),y7l (i:=a) (by omega)]
   cases z7o s[j].1 s[i].1 with
   | true=>simp only[cond_true,if_true];exact⟨by omega,trivial⟩
   | false=>simp only[cond_false,Bool.false_eq_true,if_false];exact⟨by omega,trivial⟩) 0 (Nat.zero_le _)
 rw[r96,Nat.zero_add] at L
 exact L
theorem p4k (s:List u18) (k:ByteArray) (hl:s.length≤8388608):t8c (k,s)=some (p65 s k:Int):=by
 have L:=t7v u6k s (fun(a:Nat) j=>(k,(a:Int),s,(s.length:Int),j)) (fun(a:Nat) v=>if z7o v.1 k=true then a+1 else a) (fun a=> .inl (a:Int)) (fun j a=>a≤j)
  (fun a _=>by rw[s1h];simp only[u91,u0b,Nat.lt_irrefl,decide_false,cond_false])
  (fun j hj a ha=>by
   rw[s1h]
   simp only[u91,u0b,hj,decide_true,cond_true,y7t hj,zTn,y8k (t:=u0d) hj]
   rw[y7l (i:=j) (by omega),y7l (i:=a) (by omega)]
   cases z7o s[j].1 k with
   | true=>simp only[cond_true,if_true];exact⟨by omega,trivial⟩
   | false=>simp only[cond_false,Bool.false_eq_true,if_false];exact⟨by omega,trivial⟩) 0 (Nat.zero_le _)
 rw[r96,Nat.zero_add] at L
 have L:u6k (k,0,s,(s.length:Int),0)=_:=L
 rw[r8r];unfold s48
 simp only[L,zOb]
theorem q8a (l:List u18) (snap:Int) (hl:l.length≤8388608):s17 (l,snap)=some (u1z l snap):=by
 have hs:(trA l snap l.length).length≤8388608:=Nat.le_trans (r63 _ _ _) hl
 obtain⟨s,hse⟩:∃s,s=trA l snap l.length:=⟨_,rfl⟩
 rw[←hse] at hs
 have L:=s0p t2c s (fun a i=>(snap,s,a,i)) (p32 s snap) (fun v=>v) (fun a=> .inl a) (by omega)
  (fun a _=>by rw[s38];simp only[t1y,u0b,Nat.lt_irrefl,decide_false,cond_false])
  (fun i hi a ha=>by
   rw[s38]
   simp only[t1y,u0b,hi,decide_true,cond_true,p4l s a snap i hi hs,zOb,y7t hi,zTn,y8k (t:=u0d) hi,List.length_singleton,u07 (show a.length+1≤1099511627776 by omega)]
   rw[y7l (by omega)]
   unfold p32
   cases h1:s[i].2.2.1 with
   | false=>simp
   | true=>
    by_cases h2:s[i].2.2.2 >snap
    ·simp[h2]
    ·by_cases h3:(p65 s s[i].1:Int) >1<;>simp[h2,h3])
 rw[List.map_id'] at L
 have hA:=p4j l snap hl
 rw[←hse] at hA
 rw[q3a];unfold r1g u1z
 rw[←hse]
 simp only[hA,L,zOb]
theorem q79 (l:List u18) (snap:Int) (hl:l.length≤8388608):s11 (l,snap)=some (u1z l snap):=by
 have hs:(trA l snap l.length).length≤8388608:=Nat.le_trans (r63 _ _ _) hl
 obtain⟨s,hse⟩:∃s,s=trA l snap l.length:=⟨_,rfl⟩
 rw[←hse] at hs
 have L:=s0p t16 s (fun a i=>(snap,s,a,s,(s.length:Int),i)) (p32 s snap) (fun v=>v) (fun a=> .inl a) (by omega)
  (fun a _=>by rw[s3x];simp only[t1n,u0b,Nat.lt_irrefl,decide_false,cond_false])
  (fun i hi a ha=>by
   rw[s3x]
   simp only[t1n,u0b,hi,decide_true,cond_true,p4k s _ hs,zOb,y7t hi,zTn,y8k (t:=u0d) hi,List.length_singleton,u07 (show a.length+1≤1099511627776 by omega)]
   rw[y7l (by omega)]
   unfold p32
   cases h1:s[i].2.2.1 with
   | false=>simp
   | true=>
    by_cases h2:s[i].2.2.2 >snap
    ·simp[h2]
    ·by_cases h3:(p65 s s[i].1:Int) >1<;>simp[h2,h3])
 rw[List.map_id'] at L
 have hA:=p4i l snap hl
 rw[←hse] at hA
 rw[q2q];unfold r0w u1z
 rw[←hse]
 simp only[hA,L,zOb]
theorem p15 (l:List u18) (snap:Int):(u1z l snap).length≤l.length:=Nat.le_trans (List.length_filter_le _ _) (r63 _ _ _)
end
section
theorem p6f {E:Type} {r:E→E→Prop} (hi:∀x,¬r x x) (ha:∀x y,r x y→ ¬r y x):∀ {l m:List E},l.Pairwise r→m.Pairwise r→(∀x,x∈l↔x∈m)→l=m
 | [], [],_,_,_=>rfl
 | [],y::m,_,_,h=>by have:=(h y).mpr (by simp);simp at this
 | x::l, [],_,_,h=>by have:=(h x).mp (by simp);simp at this
 | x::l,y::m,hl,hm,h=>by
  have hl' :=List.pairwise_cons.mp hl
  have hm' :=List.pairwise_cons.mp hm
  have hxy:x=y:=by
   rcases List.mem_cons.mp ((h x).mp (by simp)) with e | e
   ·exact e
   ·rcases List.mem_cons.mp ((h y).mpr (by simp)) with e' | e'
    ·exact e'.symm
    ·exact absurd (hm'.1 x e) (ha _ _ (hl'.1 y e'))
  subst hxy
  congr 1
  refine p6f hi ha hl'.2 hm'.2 fun z=> ?_
  constructor
  ·intro hz
   rcases List.mem_cons.mp ((h z).mp (by simp[hz])) with e | e
   ·subst e;exact absurd (hl'.1 z hz) (hi z)
   ·exact e
  ·intro hz
   rcases List.mem_cons.mp ((h z).mpr (by simp[hz])) with e | e
   ·subst e;exact absurd (hm'.1 z hz) (hi z)
   ·exact e
def vLt (a b:u18):Prop:=y3c a.1 b.1=true∨(a.1=b.1∧vCs a<vCs b)
def VAsc (l:List u18):Prop:=l.Pairwise vLt
theorem p16 (a:u18): ¬vLt a a:=fun h=>by
 rcases h with h | h
 ·rw[u6w] at h;cases h
 ·omega
theorem p8n (a b:u18) (h:vLt a b): ¬vLt b a:=fun k=>by
 rcases h with h | ⟨h,h'⟩<;>rcases k with k | ⟨k,k'⟩
 ·rw[s1f h] at k;cases k
 ·rw[k,u6w] at h;cases h
 ·rw[h,u6w] at k;cases k
 ·omega
theorem o0a (a b:u18) (h: ¬(a.1=b.1∧vCs a=vCs b)):vLt a b∨vLt b a:=by
 rcases r3t a.1 b.1 with c | c | c
 ·exact .inl (.inl c)
 ·rcases Int.lt_trichotomy (vCs a) (vCs b) with d | d | d
  ·exact .inl (.inr ⟨c,d⟩)
  ·exact absurd ⟨c,d⟩ h
  ·exact .inr (.inr ⟨c.symm,d⟩)
 ·exact .inr (.inl c)
theorem VAsc.ext {l m:List u18} (h:VAsc l) (k:VAsc m) (e:∀x,x∈l↔x∈m):l=m:=p6f p16 p8n h k e
theorem VAsc.uni:∀ {l:List u18},VAsc l→ ∀x∈l,∀y∈l,x.1=y.1→vCs x=vCs y→x=y
 | [],_,x,hx=>by cases hx
 | z::l,h,x,hx=>fun y hy e1 e2=>by
  have h' :=List.pairwise_cons.mp h
  have no:∀a b:u18,a.1=b.1→vCs a=vCs b→ ¬vLt a b:=fun a b e1 e2 k=>by
   rcases k with k | k
   ·rw[e1,u6w] at k;cases k
   ·omega
  rcases List.mem_cons.mp hx with rfl | hx' <;>rcases List.mem_cons.mp hy with rfl | hy'
  ·rfl
  ·exact absurd (h'.1 y hy') (no _ _ e1 e2)
  ·exact absurd (h'.1 x hx') (no _ _ e1.symm e2.symm)
  ·exact VAsc.uni h'.2 x hx' y hy' e1 e2
def p7p (l:List u18) (s:Int) (x:u18):Prop:=vCs x≤s∧ ∀y∈l,y.1=x.1→vCs y≤s→vCs y≤vCs x
theorem q4u {l:List u18} (hA:VAsc l) {s:Int} {i:Nat} (h:i<l.length):t06 l l[i].1 s=(i:Int)↔p7p l s l[i] :=by
 obtain⟨h1,h2⟩:=r6b l l[i].1 s l.length (Nat.le_refl _)
 constructor
 ·intro e
  obtain⟨_,g1,g2,g3⟩:=h2 i e
  refine⟨g2,fun y hy e1 e2=> ?_⟩
  obtain⟨j,hj,rfl⟩:=List.getElem_of_mem hy
  exact g3 j hj hj e1 e2
 ·rintro⟨g2,g3⟩
  have hr:=r6w l l[i].1 s
  rcases Int.lt_or_le (t06 l l[i].1 s) 0 with z | z
  ·exact absurd ⟨rfl,g2⟩ (h1 z i h h)
  ·obtain⟨b,hb⟩:∃b:Nat,t06 l l[i].1 s=(b:Int):=⟨(t06 l l[i].1 s).toNat,by omega⟩
   obtain⟨hbl,k1,k2,k3⟩:=h2 b hb
   have m1:=g3 l[b] (List.getElem_mem hbl) k1 k2
   have m2:=k3 i h h rfl g2
   have e:=VAsc.uni hA l[b] (List.getElem_mem hbl) l[i] (List.getElem_mem h) k1 (by omega)
   have hp:l.Nodup:=hA.imp fun h e=>by subst e;exact p16 _ h
   have:b=i:=(List.getElem_inj hp).mp e
   rw[hb,this]
theorem p14 (l:List u18) (s:Int):∀n,n≤l.length→(trA l s n).Sublist (l.take n)
 | 0,_=>by simp[trA]
 | n+1,h=>by
  have ih:=p14 l s n (by omega)
  have hn:n<l.length:=by omega
  rw[List.take_succ_eq_append_getElem hn]
  simp only[trA]
  split
  ·rw[y8k (t:=u0d) hn]
   exact ih.append (List.Sublist.refl _)
  ·exact ih.trans (List.sublist_append_left _ _)
theorem u8p (l:List u18) (s:Int):(u1z l s).Sublist l:=by
 have h:=p14 l s l.length (Nat.le_refl _)
 rw[List.take_length] at h
 exact List.filter_sublist.trans h
theorem t4o {l:List u18} (h:VAsc l) (s:Int):VAsc (u1z l s):=h.sublist (u8p l s)
theorem q9k {l:List u18} {s:Int} {x:u18} :∀n,n≤l.length→(x∈trA l s n↔ ∃(i:Nat) (h:i<l.length),i<n∧l[i] =x∧q3y l s i=true)
 | 0,_=>by simp[trA]
 | n+1,h=>by
  have ih:=q9k (x:=x) (s:=s) n (Nat.le_of_succ_le h)
  have hn:n<l.length:=by omega
  have split:(∃(i:Nat) (h:i<l.length),i<n+1∧l[i] =x∧q3y l s i=true)↔(∃(i:Nat) (h:i<l.length),i<n∧l[i] =x∧q3y l s i=true)∨(l[n] =x∧q3y l s n=true):=by
   constructor
   ·rintro⟨i,hi,h1,h2⟩
    by_cases e:i=n
    ·subst e;exact .inr h2
    ·exact .inl ⟨i,hi,by omega,h2⟩
   ·rintro(⟨i,hi,h1,h2⟩ | h2)
    ·exact⟨i,hi,by omega,h2⟩
    ·exact⟨n,hn,by omega,h2⟩
  rw[split,←ih]
  simp only[trA]
  by_cases c:q3y l s n=true
  ·rw[if_pos c,y8k (t:=u0d) hn,List.mem_append,List.mem_singleton]
   simp only[c,and_true]
   exact or_congr Iff.rfl eq_comm
  ·rw[if_neg c]
   simp[c]
theorem q67 {l:List u18} (hA:VAsc l) {s:Int} {x:u18} :x∈trA l s l.length↔x∈l∧(vCs x >s∨p7p l s x):=by
 rw[q9k _ (Nat.le_refl _)]
 constructor
 ·rintro⟨i,hi,_,rfl,k⟩
  refine⟨List.getElem_mem hi,?_⟩
  unfold q3y at k
  rw[y8k (t:=u0d) hi,Bool.or_eq_true,decide_eq_true_eq,decide_eq_true_eq] at k
  rcases k with k | k
  ·exact .inl k
  ·exact .inr ((q4u hA hi).mp k)
 ·rintro⟨hx,k⟩
  obtain⟨i,hi,rfl⟩:=List.getElem_of_mem hx
  refine⟨i,hi,hi,rfl,?_⟩
  unfold q3y
  rw[y8k (t:=u0d) hi,Bool.or_eq_true,decide_eq_true_eq,decide_eq_true_eq]
  rcases k with k | k
  ·exact .inl k
  ·exact .inr ((q4u hA hi).mpr k)
theorem p4n {E:Type} :∀ {l:List E},l.Nodup→1<l.length→ ∀x,∃y∈l,y≠x
 | [],_,h,_=>by simp at h
 | [_],_,h,_=>by simp at h
 | a::b::l,hn,_,x=>by
  by_cases e:a=x
  ·subst e
   refine⟨b,by simp,fun e=> ?_⟩
   subst e
   simp at hn
  ·exact⟨a,by simp,e⟩
theorem p36 {E:Type} {l:List E} {x y:E} (hx:x∈l) (hy:y∈l) (h:x≠y):1<l.length:=by
 match l,hx,hy with
 | [a],hx,hy=>rw[List.mem_singleton] at hx hy;exact absurd (hx.trans hy.symm) h
 | a::b::l,_,_=>simp
theorem u4v {l:List u18} (hA:VAsc l) {s:Int} {x:u18} :x∈u1z l s↔x∈l∧(vCs x >s∨(p7p l s x∧(x.2.2.1=false∨ ∃y∈l,y.1=x.1∧vCs y >s))):=by
 unfold u1z
 rw[List.mem_filter,q67 hA]
 unfold p32
 rw[Bool.or_eq_true,Bool.or_eq_true,decide_eq_true_eq,decide_eq_true_eq,Bool.not_eq_true']
 have hs:VAsc (trA l s l.length):=by
  have h:=p14 l s l.length (Nat.le_refl _)
  rw[List.take_length] at h
  exact hA.sublist h
 constructor
 ·rintro⟨⟨hx,h1⟩,h2⟩
  refine⟨hx,?_⟩
  by_cases c:vCs x >s
  ·exact .inl c
  ·rcases h1 with h1 | h1
   ·exact absurd h1 c
   ·refine .inr ⟨h1,?_⟩
    rcases h2 with h2 | h2 | h2
    ·exact .inl h2
    ·exact absurd h2 c
    ·have hn:((trA l s l.length).filter fun v=>z7o v.1 x.1).Nodup:=(hs.filter _).imp fun h e=>by subst e;exact p16 _ h
     have hl:1<((trA l s l.length).filter fun v=>z7o v.1 x.1).length:=by unfold p65 at h2;omega
     obtain⟨y,hy,hne⟩:=p4n hn hl x
     rw[List.mem_filter,q67 hA] at hy
     obtain⟨⟨hyl,hy1⟩,hy2⟩:=hy
     have hk:=y7f.mp hy2
     refine .inr ⟨y,hyl,hk,?_⟩
     rcases hy1 with hy1 | hy1
     ·exact hy1
     ·have a1:=h1.2 y hyl hk hy1.1
      have a2:=hy1.2 x hx hk.symm h1.1
      exact absurd (VAsc.uni hA y hyl x hx hk (by omega)) hne
 ·rintro⟨hx,h1⟩
  rcases h1 with h1 | ⟨h1,h2⟩
  ·exact⟨⟨hx, .inl h1⟩, .inr (.inl h1)⟩
  ·refine⟨⟨hx, .inr h1⟩,?_⟩
   rcases h2 with h2 | ⟨y,hy,hk,hc⟩
   ·exact .inl h2
   ·refine .inr (.inr ?_)
    have m1:x∈(trA l s l.length).filter fun v=>z7o v.1 x.1:=by rw[List.mem_filter,q67 hA];exact⟨⟨hx, .inr h1⟩,y7f.mpr rfl⟩
    have m2:y∈(trA l s l.length).filter fun v=>z7o v.1 x.1:=by rw[List.mem_filter,q67 hA];exact⟨⟨hy, .inl hc⟩,y7f.mpr hk⟩
    have:=p36 m1 m2 (fun e=>by have:=h1.1;subst e;omega)
    unfold p65
    omega
theorem p5z {s:Int} {k:ByteArray} :∀(l:List u18),(∃y∈l,y.1=k∧vCs y≤s)→ ∃x∈l,x.1=k∧vCs x≤s∧ ∀y∈l,y.1=k→vCs y≤s→vCs y≤vCs x
 | [],h=>by obtain⟨y,hy,_⟩:=h;cases hy
 | z::l,h=>by
  by_cases hl:∃y∈l,y.1=k∧vCs y≤s
  ·obtain⟨x,hx,h1,h2,h3⟩:=p5z l hl
   by_cases hz:z.1=k∧vCs z≤s∧vCs x<vCs z
   ·refine⟨z,by simp,hz.1,hz.2.1,fun y hy e1 e2=> ?_⟩
    rcases List.mem_cons.mp hy with rfl | hy
    ·exact Int.le_refl _
    ·have:=h3 y hy e1 e2;omega
   ·refine⟨x,by simp[hx],h1,h2,fun y hy e1 e2=> ?_⟩
    rcases List.mem_cons.mp hy with rfl | hy
    ·exact Int.not_lt.mp fun q=>hz ⟨e1,e2,q⟩
    ·exact h3 y hy e1 e2
  ·obtain⟨y,hy,h1,h2⟩:=h
   have hyz:y=z:=by
    rcases List.mem_cons.mp hy with e | e
    ·exact e
    ·exact absurd ⟨y,e,h1,h2⟩ hl
   subst hyz
   refine⟨y,by simp,h1,h2,fun w hw e1 e2=> ?_⟩
   rcases List.mem_cons.mp hw with rfl | hw
   ·exact Int.le_refl _
   ·exact absurd ⟨w,hw,e1,e2⟩ hl
theorem r5t {l:List u18} (hA:VAsc l) {a b:Int} (hab:a≤b):u1z (u1z l a) b=u1z l b:=by
 have hT:=t4o hA a
 refine(t4o hT b).ext (t4o hA b) fun x=> ?_
 refine Iff.trans (u4v hT) (Iff.trans ?_ (u4v hA).symm)
 have hsub:∀y,y∈u1z l a→y∈l:=fun y hy=>(u8p l a).subset hy
 have hup:∀y,y∈l→vCs y >a→y∈u1z l a:=fun y hy h=>(u4v hA).mpr ⟨hy, .inl h⟩
 constructor
 ·rintro⟨hx,h⟩
  have hxl:=hsub x hx
  refine⟨hxl,?_⟩
  rcases h with h | ⟨h1,h2⟩
  ·exact .inl h
  ·right
   have hL:p7p l b x:=by
    refine⟨h1.1,fun y hy e1 e2=> ?_⟩
    by_cases c:vCs y >a
    ·exact h1.2 y (hup y hy c) e1 e2
    ·by_cases c2:vCs x >a
     ·omega
     ·rcases(u4v hA).mp hx with ⟨_,h3 | ⟨h3,_⟩⟩
      ·exact absurd h3 c2
      ·exact h3.2 y hy e1 (by omega)
   refine⟨hL,?_⟩
   rcases h2 with h2 | ⟨y,hy,e1,e2⟩
   ·exact .inl h2
   ·exact .inr ⟨y,hsub y hy,e1,e2⟩
 ·rintro⟨hxl,h⟩
  rcases h with h | ⟨h1,h2⟩
  ·exact⟨hup x hxl (by omega), .inl h⟩
  ·have hx:x∈u1z l a:=by
    by_cases c:vCs x >a
    ·exact hup x hxl c
    ·refine(u4v hA).mpr ⟨hxl, .inr ⟨⟨by omega,fun y hy e1 e2=>h1.2 y hy e1 (by omega)⟩,?_⟩⟩
     rcases h2 with h2 | ⟨y,hy,e1,e2⟩
     ·exact .inl h2
     ·exact .inr ⟨y,hy,e1,by omega⟩
   refine⟨hx, .inr ⟨⟨h1.1,fun y hy=>h1.2 y (hsub y hy)⟩,?_⟩⟩
   rcases h2 with h2 | ⟨y,hy,e1,e2⟩
   ·exact .inl h2
   ·exact .inr ⟨y,hup y hy (by omega),e1,e2⟩
theorem r75 {l:List u18} (hA:VAsc l) {s:Int} (hs:∀x∈l,vCs x≤s) {x:u18} :x∈u1z l s↔x∈l∧x.2.2.1=false∧ ∀y∈l,y.1=x.1→vCs y≤vCs x:=by
 rw[u4v hA]
 constructor
 ·rintro⟨hx,h⟩
  refine⟨hx,?_⟩
  rcases h with h | ⟨h1,h2 | ⟨y,hy,_,h2⟩⟩
  ·have:=hs x hx;omega
  ·exact⟨h2,fun y hy e=>h1.2 y hy e (hs y hy)⟩
  ·have:=hs y hy;omega
 ·rintro⟨hx,h1,h2⟩
  exact⟨hx, .inr ⟨⟨hs x hx,fun y hy e _=>h2 y hy e⟩, .inl h1⟩⟩
theorem r6x {l:List u18} (hA:VAsc l) {a:Int} {x:u18} :(x∈u1z l a∧x.2.2.1=false∧ ∀y∈u1z l a,y.1=x.1→vCs y≤vCs x)↔(x∈l∧x.2.2.1=false∧ ∀y∈l,y.1=x.1→vCs y≤vCs x):=by
 constructor
 ·rintro⟨hx,h1,h2⟩
  have hxl:=(u8p l a).subset hx
  refine⟨hxl,h1,fun y hy e=> ?_⟩
  by_cases c:vCs y >a
  ·exact h2 y ((u4v hA).mpr ⟨hy, .inl c⟩) e
  ·rcases(u4v hA).mp hx with ⟨_,h3 | ⟨h3,_⟩⟩
   ·omega
   ·exact h3.2 y hy e (by omega)
 ·rintro⟨hx,h1,h2⟩
  refine⟨(u4v hA).mpr ⟨hx,?_⟩,h1,fun y hy=>h2 y ((u8p l a).subset hy)⟩
  by_cases c:vCs x >a
  ·exact .inl c
  ·exact .inr ⟨⟨by omega,fun y hy e _=>h2 y hy e⟩, .inl h1⟩
theorem p72 {l:List u18} (hA:VAsc l) {v:u18} (hn:∀x∈l,¬(x.1=v.1∧vCs x=vCs v)):VAsc (p2p l v):=by
 have le_iff:∀x:u18,u6y v x=true↔(vLt x v∨(x.1=v.1∧vCs x=vCs v)):=fun x=>by
  unfold u6y vLt
  rw[Bool.or_eq_true,Bool.and_eq_true,decide_eq_true_eq]
  constructor
  ·rintro(h | ⟨h1,h2⟩)
   ·exact .inl (.inl h)
   ·have h1:=y7f.mp h1
    have h2:vCs x≤vCs v:=h2
    rcases Int.lt_or_eq_of_le h2 with h2 | h2
    ·exact .inl (.inr ⟨h1,h2⟩)
    ·exact .inr ⟨h1,h2⟩
  ·rintro((h | ⟨h1,h2⟩) | ⟨h1,h2⟩)
   ·exact .inl h
   ·exact .inr ⟨y7f.mpr h1,Int.le_of_lt h2⟩
   ·exact .inr ⟨y7f.mpr h1,Int.le_of_eq h2⟩
 have tr:∀ {a b c:u18},vLt a b→vLt b c→vLt a c:=fun {a b c} h k=>by
  rcases h with h | ⟨h,h'⟩<;>rcases k with k | ⟨k,k'⟩
  ·exact .inl (s9n h k)
  ·exact .inl (k ▸ h)
  ·exact .inl (h ▸ k)
  ·exact .inr ⟨h.trans k,by omega⟩
 unfold p2p VAsc
 have hsplit:l.takeWhile (u6y v)++l.dropWhile (u6y v)=l:=List.takeWhile_append_dropWhile
 have hA' :(l.takeWhile (u6y v)++l.dropWhile (u6y v)).Pairwise vLt:=by rw[hsplit];exact hA
 obtain⟨p1,p2,p3⟩:=List.pairwise_append.mp hA'
 have lo:∀x∈l.takeWhile (u6y v),vLt x v:=fun x hx=>by
  have h1:u6y v x=true:=by
   have:=List.all_takeWhile (p:=u6y v) (l:=l)
   exact List.all_eq_true.mp this x hx
  have h2:x∈l:=(List.takeWhile_sublist _).subset hx
  rcases(le_iff x).mp h1 with h | h
  ·exact h
  ·exact absurd h (hn x h2)
 have hi:∀x∈l.dropWhile (u6y v),vLt v x:=by
  intro x hx
  match hd:l.dropWhile (u6y v),hx,p2 with
  | [],hx,_=>cases hx
  | y::r,hx,p2=>
   have hy:u6y v y=false:=by
    have:=List.head?_dropWhile_not (u6y v) l
    rw[hd] at this
    simpa using this
   have hyl:y∈l:=(List.dropWhile_sublist (p:=u6y v)).subset (by rw[hd];simp)
   have hvy:vLt v y:=by
    rcases o0a y v (hn y hyl) with h | h
    ·rw[(le_iff y).mpr (.inl h)] at hy;cases hy
    ·exact h
   rcases List.mem_cons.mp hx with rfl | hx
   ·exact hvy
   ·exact tr hvy ((List.pairwise_cons.mp p2).1 x hx)
 rw[List.append_assoc,List.pairwise_append]
 refine⟨p1,?_,?_⟩
 ·rw[List.singleton_append,List.pairwise_cons]
  exact⟨hi,p2⟩
 ·intro x hx y hy
  rcases List.mem_append.mp hy with hy | hy
  ·rw[List.mem_singleton] at hy;subst hy;exact lo x hx
  ·exact p3 x hx y hy
theorem r5n {cs:Int} :∀(ws:List u11.den) {l:List u18},VAsc l→KD ws→(∀x∈l,∀w∈ws,¬(x.1=w.1∧vCs x=cs))→VAsc (t41 l ws cs)
 | [],l,h,_,_=>h
 | w::ws,l,h,hk,hn=>by
  have hk' :=List.pairwise_cons.mp hk
  have e:t41 l (w::ws) cs=t41 (p2p l (w.1,w.2.1,w.2.2,cs)) ws cs:=rfl
  rw[e]
  refine r5n ws (p72 h fun x hx=>hn x hx w (by simp)) hk'.2 fun x hx z hz=> ?_
  rcases p7t.mp hx with rfl | hx
  ·exact fun q=>hk'.1 z hz q.1
  ·exact hn x hx z (by simp[hz])
theorem p8l {l:List u18} (hA:VAsc l) {ws:List u11.den} (hk:KD ws) {a c:Int} (hl:∀x∈l,vCs x<c):
 u1z (t41 (u1z l a) ws c) c=u1z (t41 l ws c) c:=by
 have hT:=t4o hA a
 have hlT:∀x∈u1z l a,vCs x<c:=fun x hx=>hl x ((u8p l a).subset hx)
 have P1:VAsc (t41 (u1z l a) ws c):=r5n ws hT hk fun x hx w _ q=>by have:=hlT x hx;omega
 have P2:VAsc (t41 l ws c):=r5n ws hA hk fun x hx w _ q=>by have:=hl x hx;omega
 have t1:∀x∈t41 (u1z l a) ws c,vCs x≤c:=fun x hx=>by
  rcases(t7z ws _ c).mp hx with h | ⟨w,_,rfl⟩
  ·have:=hlT x h;omega
  ·exact Int.le_refl _
 have t2:∀x∈t41 l ws c,vCs x≤c:=fun x hx=>by
  rcases(t7z ws _ c).mp hx with h | ⟨w,_,rfl⟩
  ·have:=hl x h;omega
  ·exact Int.le_refl _
 have key:∀(m:List u18),(∀x∈m,vCs x<c)→ ∀x,(x∈t41 m ws c∧x.2.2.1=false∧ ∀y∈t41 m ws c,y.1=x.1→vCs y≤vCs x)↔
  ((∃w∈ws,x=(w.1,w.2.1,w.2.2,c))∧x.2.2.1=false)∨((∀w∈ws,w.1≠x.1)∧x∈m∧x.2.2.1=false∧ ∀y∈m,y.1=x.1→vCs y≤vCs x):=by
  intro m hm x
  have mp:=fun y=>t7z (x:=y) ws m c
  constructor
  ·rintro⟨h1,h2,h3⟩
   rcases(mp x).mp h1 with h | h
   ·refine .inr ⟨fun w hw e=> ?_,h,h2,fun y hy e=>h3 y ((mp y).mpr (.inl hy)) e⟩
    have q:c≤vCs x:=h3 (w.1,w.2.1,w.2.2,c) ((mp _).mpr (.inr ⟨w,hw,rfl⟩)) e
    have:=hm x h
    omega
   ·exact .inl ⟨h,h2⟩
  ·rintro(⟨h1,h2⟩ | ⟨h1,h2,h3,h4⟩)
   ·refine⟨(mp x).mpr (.inr h1),h2,fun y hy _=> ?_⟩
    obtain⟨w,hw,rfl⟩:=h1
    show vCs y≤c
    rcases(mp y).mp hy with h | ⟨w,_,rfl⟩
    ·have:=hm y h;omega
    ·exact Int.le_refl _
   ·refine⟨(mp x).mpr (.inl h2),h3,fun y hy e=> ?_⟩
    rcases(mp y).mp hy with h | ⟨w,hw,rfl⟩
    ·exact h4 y h e
    ·exact absurd e (h1 w hw)
 refine(t4o P1 c).ext (t4o P2 c) fun x=> ?_
 rw[r75 P1 t1,r75 P2 t2,key _ hlT,key _ hl,r6x hA]
end
section
abbrev s2e:=ByteArray×ByteArray
abbrev WrT:=ByteArray×ByteArray×Bool
abbrev u1q:=u0i×List u0e
def inB (x lo hi:Int):Bool:=decide (lo≤x)&&decide (x≤hi)
theorem r6u {x lo hi:Int} :inB x lo hi=true↔lo≤x∧x≤hi:=by simp[inB]
def u55 (s:ByteArray):Bool:=s.data.toList.all (fun b=>decide (97≤b.toNat)&&decide (b.toNat≤122))&&(decide (1≤s.size)&&decide (s.size≤3))
def u2d (r:s2e):Bool:=u55 r.1&&(u55 r.2&&(y3c r.1 r.2 || z7o r.1 r.2))
def u10 (w:WrT):Bool:=u55 w.1&&(decide (w.2.1.size≤12)&&(!w.2.2 || decide (w.2.1.size=0)))
def q2j (t:Ty) (lt:t.den→t.den→Bool) (l:List t.den):Bool:=(List.range l.length).all fun i=>decide (i=0) || lt (rdL t l (i - 1)) (rdL t l i)
def u3x (l:List WrT):Bool:=l.all u10&&(q2j u11 (fun a b=>y3c a.1 b.1) l&&decide (l.length≤8))
def u6x (t:u0e):Bool:=
 inB t.1 1 9999&&(inB t.2.1 1 3&&(inB t.2.2.1 0 9999&&(decide (t.2.2.2.2.1.length≤8)&&(u3x t.2.2.2.2.2.1&&(t.2.2.2.2.1.all u2d&&
 ((if t.2.1=3 then inB t.2.2.2.1 (t.2.2.1+1) 9999 else decide (t.2.2.2.1=0))&&((if t.2.1=2 then u55 t.2.2.2.2.2.2.2 else decide (t.2.2.2.2.2.2.2.size=0))&&(!decide (t.2.1=1) || !t.2.2.2.2.2.2.1))))))))
def r3w (v:u18):Bool:=u55 v.1&&(decide (v.2.1.size≤12)&&((!v.2.2.1 || decide (v.2.1.size=0))&&inB v.2.2.2 1 9999))
def s1g (a b:u18):Bool:=y3c a.1 b.1 || (z7o a.1 b.1&&decide (a.2.2.2<b.2.2.2))
def u6i (l:List u18):Bool:=l.all r3w&&(q2j u0d s1g l&&decide (l.length≤120))
def r3i (l:List Int) (below:Int):Bool:=decide (∀x∈l,x<below)&&decide l.Nodup
def p2m (c:Int) (l:List u0e):Bool:=decide (l.length≤12)&&(l.all (fun t=>u6x t&&(decide (t.2.1=3)&&decide (t.2.2.2.1≤c)))&&q2j u0t (fun a b=>decide (a.2.2.2.1<b.2.2.2.1)) l)
def q7c (c:Int) (l:List u0e):Bool:=decide (l.length≤3)&&(l.all (fun t=>u6x t&&(decide (t.2.1=2)&&decide (t.2.2.1≤c)))&&q2j u0t (fun a b=>y3c a.2.2.2.2.2.2.2 b.2.2.2.2.2.2.2) l)
def p2l (c:Int) (l:List u0e):Bool:=decide (l.length≤4)&&(l.all (fun t=>u6x t&&(decide (t.2.1=1)&&decide (t.2.2.1≤c)))&&q2j u0t (fun a b=>decide (a.1<b.1)) l)
def u4k (l:List u0e):List Int:=l.map fun t=>t.1
def t24 (b:u0i):Bool:=u6i b.1&&(b.1.all (fun v=>decide (v.2.2.2≤b.2.2.2.1))&&(inB b.2.2.2.1 0 9999&&(inB b.2.2.2.2 1 9999&&(p2m b.2.2.2.1 b.2.1&&(q7c b.2.2.2.1 b.2.2.1&&r3i (u4k (b.2.1++b.2.2.1)) b.2.2.2.2)))))
def p3w (e:u1q):Bool:=t24 e.1&&(p2l e.1.2.2.2.1 e.2&&r3i (u4k (e.1.2.1++e.1.2.2.1++e.2)) e.1.2.2.2.2)
theorem q5x {t:Ty} {lt:t.den→t.den→Bool} (tr:∀a b c,lt a b=true→lt b c=true→lt a c=true) {l:List t.den} :q2j t lt l=true↔l.Pairwise fun a b=>lt a b=true:=by
 unfold q2j
 rw[List.all_eq_true]
 constructor
 ·intro h
  have step:∀(i:Nat) (hi:i+1<l.length),lt l[i] l[i+1] =true:=fun i hi=>by
   have:=h (i+1) (List.mem_range.mpr hi)
   rw[Bool.or_eq_true,decide_eq_true_eq] at this
   rcases this with q | q
   ·omega
   ·rw[Nat.add_sub_cancel,y8k (show i<l.length by omega),y8k hi] at q
    exact q
  rw[List.pairwise_iff_getElem]
  intro i j hi hj hij
  obtain⟨d,rfl⟩:∃d,j=i+1+d:=⟨j - (i+1),by omega⟩
  clear hij
  induction d with
  | zero=>exact step i hj
  | succ d ih=>exact tr _ _ _ (ih (by omega)) (step (i+1+d) hj)
 ·intro h i hi
  have hi:=List.mem_range.mp hi
  rw[Bool.or_eq_true,decide_eq_true_eq]
  by_cases e:i=0
  ·exact .inl e
  ·refine .inr ?_
   rw[y8k (show i - 1<l.length by omega),y8k hi]
   exact List.pairwise_iff_getElem.mp h (i - 1) i (by omega) hi (by omega)
theorem u30 {s:ByteArray} (h:u55 s=true):1≤s.size∧s.size≤3:=by
 unfold u55 at h
 simp only[Bool.and_eq_true,decide_eq_true_eq] at h
 exact h.2
structure TxnR (t:u0e):Prop where
 id:1≤t.1∧t.1≤9999
 st:1≤t.2.1∧t.2.1≤3
 snap:0≤t.2.2.1∧t.2.2.1≤9999
 rlen:t.2.2.2.2.1.length≤8
 ws:u3x t.2.2.2.2.2.1=true
 rs:∀r∈t.2.2.2.2.1,u2d r=true
 done:t.2.1=3→t.2.2.1+1≤t.2.2.2.1∧t.2.2.2.1≤9999
 nocs:t.2.1≠3→t.2.2.2.1=0
 name:t.2.1=2→u55 t.2.2.2.2.2.2.2=true
 noname:t.2.1≠2→t.2.2.2.2.2.2.2.size=0
 out:t.2.1=1→t.2.2.2.2.2.2.1=false
theorem r5u {t:u0e} :u6x t=true↔TxnR t:=by
 unfold u6x
 simp only[Bool.and_eq_true,Bool.or_eq_true,r6u,decide_eq_true_eq,List.all_eq_true,Bool.not_eq_true',decide_eq_false_iff_not]
 constructor
 ·rintro⟨h1,h2,h3,h4,h5,h6,h7,h8,h9⟩
  refine⟨h1,h2,h3,h4,h5,h6,fun e=> ?_,fun e=> ?_,fun e=> ?_,fun e=> ?_,fun e=> ?_⟩
  ·rw[if_pos e,r6u] at h7;exact h7
  ·rw[if_neg e,decide_eq_true_eq] at h7;exact h7
  ·rw[if_pos e] at h8;exact h8
  ·rw[if_neg e,decide_eq_true_eq] at h8;exact h8
  ·rcases h9 with h9 | h9
   ·exact absurd e h9
   ·exact h9
 ·intro h
  refine⟨h.id,h.st,h.snap,h.rlen,h.ws,h.rs,?_,?_,?_⟩
  ·split
   ·rename_i e;rw[r6u];exact h.done e
   ·rename_i e;rw[decide_eq_true_eq];exact h.nocs e
  ·split
   ·rename_i e;exact h.name e
   ·rename_i e;rw[decide_eq_true_eq];exact h.noname e
  ·by_cases e:t.2.1=1
   ·exact .inr (h.out e)
   ·exact .inl e
theorem p9a {l:List WrT} :u3x l=true↔(∀w∈l,u10 w=true)∧(l.Pairwise fun a b=>y3c a.1 b.1=true)∧l.length≤8:=by
 unfold u3x
 rw[Bool.and_eq_true,Bool.and_eq_true,decide_eq_true_eq,List.all_eq_true,q5x (t:=u11) (lt:=fun a b=>y3c a.1 b.1) (fun a b c h k=>s9n h k)]
theorem p0d {l:List WrT} (h:u3x l=true):KD l:=
 (p9a.mp h).2.1.imp fun {a b} q e=>by rw[e,u6w] at q;cases q
theorem p4o {a b:u18} :s1g a b=true↔vLt a b:=by
 unfold s1g vLt vCs
 rw[Bool.or_eq_true,Bool.and_eq_true,decide_eq_true_eq,y7f]
theorem o1u {a b c:u18} (h:vLt a b) (k:vLt b c):vLt a c:=by
 rcases h with h | ⟨h,h'⟩<;>rcases k with k | ⟨k,k'⟩
 ·exact .inl (s9n h k)
 ·exact .inl (k ▸ h)
 ·exact .inl (h ▸ k)
 ·exact .inr ⟨h.trans k,by omega⟩
theorem p66 {l:List u18} :u6i l=true↔(∀v∈l,r3w v=true)∧VAsc l∧l.length≤120:=by
 unfold u6i
 rw[Bool.and_eq_true,Bool.and_eq_true,decide_eq_true_eq,List.all_eq_true,q5x (t:=u0d) (lt:=s1g) (fun a b c h k=>p4o.mpr (o1u (p4o.mp h) (p4o.mp k)))]
 unfold VAsc
 simp only[p4o]
theorem s8x {l:List Int} {n:Int} :r3i l n=true↔(∀x∈l,x<n)∧l.Nodup:=by
 unfold r3i;rw[Bool.and_eq_true,decide_eq_true_eq,decide_eq_true_eq]
structure BaseR (b:u0i):Prop where
 vs:u6i b.1=true
 vcs:∀v∈b.1,v.2.2.2≤b.2.2.2.1
 cs:0≤b.2.2.2.1∧b.2.2.2.1≤9999
 next:1≤b.2.2.2.2∧b.2.2.2.2≤9999
 plen:b.2.1.length≤12
 past:∀t∈b.2.1,TxnR t∧t.2.1=3∧t.2.2.2.1≤b.2.2.2.1
 pasc:b.2.1.Pairwise fun x y=>x.2.2.2.1<y.2.2.2.1
 rlen:b.2.2.1.length≤3
 ready:∀t∈b.2.2.1,TxnR t∧t.2.1=2∧t.2.2.1≤b.2.2.2.1
 rasc:b.2.2.1.Pairwise fun x y=>y3c x.2.2.2.2.2.2.2 y.2.2.2.2.2.2.2=true
 below:∀x∈u4k (b.2.1++b.2.2.1),x<b.2.2.2.2
 nodup:(u4k (b.2.1++b.2.2.1)).Nodup
theorem o3t {l:List u0e} {f:u0e→Int} :q2j u0t (fun a b=>decide (f a<f b)) l=true↔l.Pairwise fun x y=>f x<f y:=by
 rw[q5x (t:=u0t) (lt:=fun a b=>decide (f a<f b)) (fun a b c h k=>by simp only[decide_eq_true_eq] at*;omega)]
 simp only[decide_eq_true_eq]
theorem o53 {l:List u0e} :q2j u0t (fun a b=>y3c a.2.2.2.2.2.2.2 b.2.2.2.2.2.2.2) l=true↔l.Pairwise fun x y=>y3c x.2.2.2.2.2.2.2 y.2.2.2.2.2.2.2=true:=
 q5x (t:=u0t) (lt:=fun a b=>y3c a.2.2.2.2.2.2.2 b.2.2.2.2.2.2.2) (fun a b c h k=>s9n h k)
theorem q4k {b:u0i} :t24 b=true↔BaseR b:=by
 unfold t24 p2m q7c
 simp only[Bool.and_eq_true,r6u,decide_eq_true_eq,List.all_eq_true,r5u,s8x,o53]
 rw[o3t (f:=fun t=>t.2.2.2.1)]
 constructor
 ·rintro⟨h1,h2,h3,h4,⟨h5,h6,h7⟩,⟨h8,h9,h10⟩,h11,h12⟩
  exact⟨h1,h2,h3,h4,h5,h6,h7,h8,h9,h10,h11,h12⟩
 ·intro h
  exact⟨h.vs,h.vcs,h.cs,h.next,⟨h.plen,h.past,h.pasc⟩,⟨h.rlen,h.ready,h.rasc⟩,h.below,h.nodup⟩
structure EngR (e:u1q):Prop where
 base:BaseR e.1
 olen:e.2.length≤4
 open_:∀t∈e.2,TxnR t∧t.2.1=1∧t.2.2.1≤e.1.2.2.2.1
 oasc:e.2.Pairwise fun x y=>x.1<y.1
 below:∀x∈u4k (e.1.2.1++e.1.2.2.1++e.2),x<e.1.2.2.2.2
 nodup:(u4k (e.1.2.1++e.1.2.2.1++e.2)).Nodup
theorem o07 {e:u1q} :p3w e=true↔EngR e:=by
 unfold p3w p2l
 simp only[Bool.and_eq_true,decide_eq_true_eq,List.all_eq_true,r5u,s8x,q4k]
 rw[o3t (f:=fun t=>t.1)]
 constructor
 ·rintro⟨h1,⟨h2,h3,h4⟩,h5,h6⟩
  exact⟨h1,h2,h3,h4,h5,h6⟩
 ·intro h
  exact⟨h.base,⟨h.olen,h.open_,h.oasc⟩,h.below,h.nodup⟩
end
section
theorem u51 (l:List Int):(y7g l).size=l.length:=by
 simp[y7g,ByteArray.size]
theorem p7f {s:ByteArray} {i:Nat} (h:i<s.size):s.data.toList.getD i 0=s.data.toList[i]'(by simpa using h):=by
 rw[List.getD_eq_getElem?_getD,List.getElem?_eq_getElem (by simpa using h)]
 rfl
theorem o1r (n m:Nat):Int.tdiv (n:Int) (m:Int)=((n / m:Nat):Int):=(Int.ofNat_tdiv n m).symm
theorem p6q (n m:Nat):Int.tmod (n:Int) (m:Int)=((n % m:Nat):Int):=(Int.ofNat_tmod n m).symm
theorem o0d {n:Nat} (h:n<256):IntKind.u8.wrap (n:Int)=(n:Int):=by
 simp[IntKind.wrap,IntKind.bits,IntKind.signed]
 omega
end
section
abbrev u0j:=List ByteArray×List (Int×ByteArray)
theorem p85:(⟨#[]⟩:ByteArray)=emp:=rfl
def r2i (a b c:Int):Bool:=decide (b≤a)&&decide (a≤c)
theorem p6x (a b c:Int):u2l (a,b,c)=some (r2i a b c):=by
 rw[q6e];unfold r4e r2i
 simp only[ge_iff_le]
 cases decide (b≤a)<;>rfl
theorem t7c (a b c:Int):u0o (a,b,c)=some (r2i a b c):=by
 rw[q82];unfold r7v r2i
 simp only[ge_iff_le]
 cases decide (b≤a)<;>rfl
theorem s2w {d:u0j} :d.1.length≤o51.wt d:=by simp only[Ty.wt];omega
theorem s8v {d:u0j} :d.2.length≤o51.wt d:=by simp only[Ty.wt];omega
theorem p8d {d:u0j} {s:ByteArray} (h:s∈d.1):s.size≤o51.wt d:=by
 have h1:o51.wt d=(d.1.length+(d.1.map Ty.str.wt).sum)+(d.2.length+(d.2.map p62.wt).sum):=rfl
 have h2:=q5c (f:=Ty.str.wt) h
 have h3:Ty.str.wt s=s.size:=rfl
 omega
theorem p75 {d:u0j} {p:Int×ByteArray} (h:p∈d.2):p.2.size≤o51.wt d:=by
 have h1:o51.wt d=(d.1.length+(d.1.map Ty.str.wt).sum)+(d.2.length+(d.2.map p62.wt).sum):=rfl
 have h2:=q5c (f:=p62.wt) h
 have h3:p62.wt p=0+p.2.size:=rfl
 omega
def t07 (c:List (Int×ByteArray)) (at_:Int):Option ByteArray:=c.foldl (fun t p=>if p.1=at_ then some p.2 else t) none
def u0h (d:u0j) (at_:Int):ByteArray×Bool:=if 0≤at_∧at_<d.1.length then((t07 d.2 at_).getD (rdL Ty.str d.1 at_.toNat),true) else(emp,false)
theorem s9d (c:List (Int×ByteArray)) (p:Int×ByteArray) (at_:Int):t07 (c++ [p]) at_=if p.1=at_ then some p.2 else t07 c at_:=by
 simp[t07,List.foldl_append]
theorem r3j {c:List (Int×ByteArray)} {at_:Int} {s:ByteArray} (h:t07 c at_=some s):∃p∈c,p.2=s:=by
 have key:∀(c:List (Int×ByteArray)) (z:Option ByteArray),c.foldl (fun t p=>if p.1=at_ then some p.2 else t) z=some s→z=some s∨ ∃p∈c,p.2=s:=by
  intro c
  induction c with
  | nil=>intro z h;exact .inl h
  | cons p c ih=>
   intro z h
   rw[List.foldl_cons] at h
   rcases ih _ h with h | ⟨q,hq,h⟩
   ·split at h
    ·exact .inr ⟨p,by simp,by simpa using h⟩
    ·exact .inl h
   ·exact .inr ⟨q,by simp[hq],h⟩
 rcases key c none h with h | h
 ·cases h
 ·exact h
theorem r79 (d:u0j) (at_:Int):(u0h d at_).1.size≤o51.wt d:=by
 unfold u0h
 split
 ·rename_i h
  cases hl:t07 d.2 at_ with
  | none=>
   simp only[Option.getD_none]
   have hi:at_.toNat<d.1.length:=by omega
   rw[y8k (t:=Ty.str) hi]
   exact p8d (List.getElem_mem hi)
  | some s=>
   simp only[Option.getD_some]
   obtain⟨p,hp,rfl⟩:=r3j hl
   exact p75 hp
 ·show 0≤_;omega
theorem p7o (d:u0j) (at_:Int) (hd:d.1.length≤u0l):r2i at_ 0 (IntKind.i64.wrap ((d.1.length:Int) - 1))=decide (0≤at_∧at_<d.1.length):=by
 unfold u0l at hd
 rw[y4y (by omega) (by omega)]
 unfold r2i
 by_cases h:0≤at_∧at_<d.1.length
 ·rw[decide_eq_true h,decide_eq_true h.1,decide_eq_true (by omega)];rfl
 ·rw[decide_eq_false h]
  by_cases h0:0≤at_
  ·rw[decide_eq_true h0,decide_eq_false (by omega)];rfl
  ·rw[decide_eq_false h0];rfl
theorem t9a (d:u0j) (at_:Int) (hd:o51.wt d≤u0l):u5t (d,at_)=some (u0h d at_):=by
 have h1:d.1.length≤u0l:=Nat.le_trans s2w hd
 have h2:d.2.length≤u0l:=Nat.le_trans s8v hd
 rw[r6m];unfold s2o
 simp only[t7c,p7o d at_ h1,zOb]
 unfold u0h
 unfold u0l at h1 h2
 by_cases h:0≤at_∧at_<d.1.length
 ·have hg:y4q at_ d.1.length=true:=by simp[y4q,h]
  have L:∀n:Nat,n≤d.2.length→u8c (at_,d,(n:Int) - 1)=some (match t07 (d.2.take n) at_ with
   | some s=> .inr (s,true)
   | none=> .inl (at_,d)):=by
   intro n
   induction n with
   | zero=>
    intro _
    rw[s0c];simp only[u78]
    rfl
   | succ n ih=>
    intro hn
    have hlt:n<d.2.length:=by omega
    rw[s0c];simp only[u78]
    have e0:((n+1:Nat):Int) - 1=(n:Int):=by simp
    have e1:decide ((n:Int)≥0)=true:=by simp
    simp only[e0,e1,cond_true,y7t hlt,zTn,y8k (t:=p62) hlt]
    rw[List.take_succ_eq_append_getElem hlt,s9d]
    by_cases hp:(d.2[n]).1=at_
    ·simp only[hp,decide_true,cond_true,if_true]
    ·simp only[hp,decide_false,cond_false,if_false]
     rw[y4y (by omega) (by omega)]
     exact ih (by omega)
  have L:=L d.2.length (Nat.le_refl _)
  rw[List.take_length] at L
  have wl:IntKind.i64.wrap ((d.2.length:Int) - 1)=(d.2.length:Int) - 1:=y4y (by omega) (by omega)
  simp only[h,and_self,decide_true,Bool.not_true,cond_false,if_true]
  rw[wl,L]
  cases t07 d.2 at_ with
  | none=>simp only[zOb,hg,cond_true,Option.getD_none]
  | some s=>rfl
 ·simp only[h,decide_false,Bool.not_false,cond_true,if_false];rfl
def r61 (d:u0j) (from_:Int):Nat→Nat→ByteArray→ByteArray×Bool
 | 0,_,acc=>(acc,true)
 | m+1,i,acc=>if(u0h d (from_+(i:Int))).2 then r61 d from_ m (i+1) (acc++(u0h d (from_+(i:Int))).1) else(emp,false)
def t1g (d:u0j) (from_ n:Int):ByteArray×Bool:=if 0≤n∧n≤100 then r61 d from_ n.toNat 0 emp else(emp,false)
theorem q64 {a b c:Int} :r2i a b c=decide (b≤a∧a≤c):=by
 unfold r2i
 by_cases h:b≤a<;>by_cases g:a≤c<;>simp[h,g]
theorem r9s (d:u0j) (from_ n:Int) (hd:o51.wt d≤1073741824) (h1: -4611686018427387904≤from_) (h2:from_≤4611686018427387904):t6m (d,from_,n)=some (t1g d from_ n):=by
 have hb:o51.wt d≤u0l:=by unfold u0l;omega
 rw[r6o];unfold s2q t1g
 simp only[t7c,q64,zOb]
 by_cases h:0≤n∧n≤100
 ·obtain⟨m,rfl⟩:∃m:Nat,n=m:=⟨n.toNat,by omega⟩
  have L:=r3c (fun x=>(u8d x).bind fun r=>match r with
   | .inl o=>some (o,true)
   | .inr z=>some z) m (fun(a:ByteArray) i=>(from_,(m:Int),d,a,i)) (fun i a=>r61 d from_ (m - i) i a) (fun i a=>a.size≤i*1073741824∧(i=0∨0≤from_))
   (fun a _=>by
    rw[s0d];simp only[u79,u0b,Nat.lt_irrefl,decide_false,cond_false,zOb,Nat.sub_self,r61])
   (fun i a hi ha=>by
    have e:m - i=(m - (i+1))+1:=by omega
    have hs:=r79 d (from_+(i:Int))
    rw[s0d];simp only[u79,u0b,hi,decide_true,cond_true]
    rw[e]
    simp only[r61]
    by_cases hf:from_<0∨from_ >(d.1.length:Int)
    ·left
     have hno:(u0h d (from_+(i:Int))).2=false:=by
      unfold u0h
      rw[if_neg (by omega)]
     rw[hno]
     by_cases hf1:from_<0
     ·rw[decide_eq_true hf1];rfl
     ·have hf2:from_ >(d.1.length:Int):=by omega
      rw[decide_eq_false hf1,decide_eq_true hf2];rfl
    ·have hf1: ¬from_<0:=by omega
     have hf2: ¬from_ >(d.1.length:Int):=by omega
     rw[decide_eq_false hf1,decide_eq_false hf2]
     simp only[cond_false,zOb]
     rw[y4y (n:=from_+(i:Int)) (by omega) (by omega),t9a d _ hb]
     simp only[zOb]
     cases hr:(u0h d (from_+(i:Int))).2 with
     | false=>left;rfl
     | true=>
      right
      refine⟨a++(u0h d (from_+(i:Int))).1,⟨by rw[ByteArray.size_append];omega,by omega⟩,by simp,?_⟩
      simp only[Bool.not_true,cond_false,decide_eq_true (show a.size+(u0h d (from_+(i:Int))).1.size≤140737488355328 by omega),cond_true]
      rw[y7l (by omega)]) 0 emp (by omega) ⟨by show 0≤_;omega, .inl rfl⟩
  rw[decide_eq_true h,if_pos h,Bool.not_true,cond_false]
  exact L
 ·rw[decide_eq_false h,if_neg h];rfl
end
section
theorem p5p (v:Nat):(bif decide ((v:Int)<97) then some true else some (decide ((v:Int) >122)))=some (!(decide (97≤v)&&decide (v≤122))):=by
 have e1:decide ((v:Int)<97)= !decide (97≤v):=by by_cases h:97≤v<;>simp[h] <;>omega
 have e2:decide ((v:Int) >122)= !decide (v≤122):=by by_cases h:v≤122<;>simp[h] <;>omega
 rw[e1,e2]
 cases decide (97≤v)<;>cases decide (v≤122)<;>rfl
theorem r0f (a b c:Int):u2l (a,b,c)=some (inB a b c):=p6x a b c
theorem s22 (a b c:Int):u0o (a,b,c)=some (inB a b c):=t7c a b c
theorem t2y {X R:Type} (W:X→Option R) (n:Nat) (mk:Int→X) (ok:Nat→Bool) (yes no:R) (hend:W (mk (n:Int))=some yes)
 (hstep:∀(i:Nat),i<n→W (mk (i:Int))=bif ok i then W (mk ((i+1:Nat):Int)) else some no):W (mk 0)=some (bif (List.range n).all ok then yes else no):=by
 have key:∀d i:Nat,i+d=n→W (mk (i:Int))=some (bif (List.range d).all (fun j=>ok (i+j)) then yes else no):=by
  intro d
  induction d with
  | zero=>intro i hi;have:i=n:=by omega
          subst this;simpa using hend
  | succ d ih=>
   intro i hi
   rw[hstep i (by omega),ih (i+1) (by omega),List.range_succ_eq_map,List.all_cons,List.all_map,Nat.add_zero]
   have e:((fun j=>ok (i+j)) ∘Nat.succ)=fun j=>ok (i+1+j):=by funext j;simp only[Function.comp];congr 1;omega
   rw[e]
   cases ok i<;>rfl
 have:=key n 0 (by omega)
 simpa using this
theorem t9d {t:Ty} (l:List t.den) (f:t.den→Bool):((List.range l.length).all fun i=>f (rdL t l i))=l.all f:=by
 rw[Bool.eq_iff_iff,List.all_eq_true,List.all_eq_true]
 constructor
 ·intro h x hx
  obtain⟨i,hi,rfl⟩:=List.getElem_of_mem hx
  have:=h i (List.mem_range.mpr hi)
  rwa [y8k hi] at this
 ·intro h i hi
  rw[y8k (List.mem_range.mp hi)]
  exact h _ (List.getElem_mem _)
theorem p5j {α:Type} (l:List α) (f g:α→Bool):(l.all fun i=>f i&&g i)=(l.all f&&l.all g):=by
 induction l with
 | nil=>rfl
 | cons x l ih=>simp only[List.all_cons,ih];cases f x<;>cases g x<;>simp
theorem s1r {t:Ty} (l:List t.den) (f:t.den→Bool) (lt:t.den→t.den→Bool):
 ((List.range l.length).all fun i=>f (rdL t l i)&&(decide (i=0) || lt (rdL t l (i - 1)) (rdL t l i)))=(l.all f&&q2j t lt l):=by
 rw[p5j (List.range l.length) (fun i=>f (rdL t l i)) (fun i=>decide (i=0) || lt (rdL t l (i - 1)) (rdL t l i)),t9d]
 rfl
theorem t7d (i:Nat):decide ((i:Int) >0)= !decide (i=0):=by by_cases h:i=0<;>simp[h] <;>omega
theorem t3f {i:Nat} (h:i<4611686018427387904) (h0:i≠0):IntKind.i64.wrap ((i:Int) - (1:Int))=((i - 1:Nat):Int):=by
 rw[y4y (by omega) (by omega)];omega
theorem q65 (s:ByteArray) {i:Nat} (h:i<s.size):s.data.toList.getD i 0=s.data.toList[i]'h:=by
 rw[List.getD_eq_getElem?_getD,List.getElem?_eq_getElem h];rfl
theorem s2g (s:ByteArray) (hs:s.size≤u0l):t09 s=some (u55 s):=by
 have hb:u0l=1099511627776:=rfl
 have L:=t2y t63 s.size (fun i=>(s,i)) (fun i=>(fun b:UInt8=>decide (97≤b.toNat)&&decide (b.toNat≤122)) (s.data.toList.getD i 0)) (.inl s) (.inr false)
  (by rw[r2y];simp only[t6t,u0b,Nat.lt_irrefl,decide_false,cond_false])
  (fun i hi=>by
   rw[r2y];simp only[t6t,u0b,hi,decide_true,cond_true,y7t hi,zTn,y7l (show i<4611686018427387904 by omega)]
   rw[p5p];simp only[zOb]
   cases (decide (97≤(s.data.toList.getD i 0).toNat)&&decide ((s.data.toList.getD i 0).toNat≤122))<;>rfl)
 have hA:((List.range s.size).all fun i=>(fun b:UInt8=>decide (97≤b.toNat)&&decide (b.toNat≤122)) (s.data.toList.getD i 0))=s.data.toList.all (fun b=>decide (97≤b.toNat)&&decide (b.toNat≤122)):=by
  rw[Bool.eq_iff_iff,List.all_eq_true,List.all_eq_true]
  constructor
  ·intro h x hx
   obtain⟨i,hi,rfl⟩:=List.getElem_of_mem hx
   have:=h i (List.mem_range.mpr hi)
   rwa [q65 s hi] at this
  ·intro h i hi
   rw[q65 s (List.mem_range.mp hi)]
   exact h _ (List.getElem_mem _)
 rw[hA] at L
 rw[q8n];unfold r7g
 simp only[L,zOb]
 unfold u55
 cases s.data.toList.all (fun b=>decide (97≤b.toNat)&&decide (b.toNat≤122))
 ·rfl
 ·simp only[cond_true,r0f,zOb,Bool.true_and]
  unfold inB
  congr 1
  have e1:decide ((1:Int)≤(s.size:Int))=decide (1≤s.size):=by simp;omega
  have e2:decide ((s.size:Int)≤3)=decide (s.size≤3):=by simp;omega
  rw[e1,e2]
theorem t4p (s:ByteArray) (hs:s.size≤u0l):u5n s=some (u55 s):=by
 have hb:u0l=1099511627776:=rfl
 have L:=t2y t66 s.size (fun i=>(s,i)) (fun i=>(fun b:UInt8=>decide (97≤b.toNat)&&decide (b.toNat≤122)) (s.data.toList.getD i 0)) (.inl s) (.inr false)
  (by rw[r22];simp only[t6x,u0b,Nat.lt_irrefl,decide_false,cond_false])
  (fun i hi=>by
   rw[r22];simp only[t6x,u0b,hi,decide_true,cond_true,y7t hi,zTn,y7l (show i<4611686018427387904 by omega)]
   rw[p5p];simp only[zOb]
   cases (decide (97≤(s.data.toList.getD i 0).toNat)&&decide ((s.data.toList.getD i 0).toNat≤122))<;>rfl)
 have hA:((List.range s.size).all fun i=>(fun b:UInt8=>decide (97≤b.toNat)&&decide (b.toNat≤122)) (s.data.toList.getD i 0))=s.data.toList.all (fun b=>decide (97≤b.toNat)&&decide (b.toNat≤122)):=by
  rw[Bool.eq_iff_iff,List.all_eq_true,List.all_eq_true]
  constructor
  ·intro h x hx
   obtain⟨i,hi,rfl⟩:=List.getElem_of_mem hx
   have:=h i (List.mem_range.mpr hi)
   rwa [q65 s hi] at this
  ·intro h i hi
   rw[q65 s (List.mem_range.mp hi)]
   exact h _ (List.getElem_mem _)
 rw[hA] at L
 rw[q8w];unfold r7p
 simp only[L,zOb]
 unfold u55
 cases s.data.toList.all (fun b=>decide (97≤b.toNat)&&decide (b.toNat≤122))
 ·rfl
 ·simp only[cond_true,s22,zOb,Bool.true_and]
  unfold inB
  congr 1
  have e1:decide ((1:Int)≤(s.size:Int))=decide (1≤s.size):=by simp;omega
  have e2:decide ((s.size:Int)≤3)=decide (s.size≤3):=by simp;omega
  rw[e1,e2]
theorem q74 (r:s2e) (h1:r.1.size≤u0l) (h2:r.2.size≤u0l):s1z r=some (u2d r):=by
 rw[q2n];unfold r0t u2d
 simp only[s2g _ h1,s2g _ h2,zOb]
 cases u55 r.1<;>cases u55 r.2<;>rfl
theorem s7n (r:s2e) (h1:r.1.size≤u0l) (h2:r.2.size≤u0l):t29 r=some (u2d r):=by
 rw[q23];unfold r09 u2d
 simp only[t4p _ h1,t4p _ h2,zOb]
 cases u55 r.1<;>cases u55 r.2<;>rfl
theorem t7a (s:ByteArray):z7o s (⟨#[]⟩:ByteArray)=decide (s.size=0):=by
 rw[Bool.eq_iff_iff,y7f,decide_eq_true_eq]
 constructor
 ·intro h;subst h;rfl
 ·intro h;exact ByteArray.ext (Array.eq_empty_of_size_eq_zero h)
theorem o5k (s:ByteArray):decide ((s.size:Int)≤12)=decide (s.size≤12):=by simp;omega
theorem s7q (w:WrT) (h1:w.1.size≤u0l):t27 w=some (u10 w):=by
 rw[q2r];unfold r0x u10
 simp only[s2g _ h1,zOb,t7a,o5k]
 cases u55 w.1<;>cases decide (w.2.1.size≤12)<;>cases w.2.2<;>rfl
theorem s7r (w:WrT) (h1:w.1.size≤u0l):t3a w=some (u10 w):=by
 rw[q3c];unfold r1i u10
 simp only[t4p _ h1,zOb,t7a,o5k]
 cases u55 w.1<;>cases decide (w.2.1.size≤12)<;>cases w.2.2<;>rfl
theorem q5b {l:List WrT} {w:WrT} (h:w∈l):w.1.size≤(Ty.sl u11).wt l∧w.2.1.size≤(Ty.sl u11).wt l:=by
 have h1:(Ty.sl u11).wt l=l.length+(l.map u11.wt).sum:=rfl
 have h2:=q5c (f:=u11.wt) h
 have h3:u11.wt w=w.1.size+(w.2.1.size+0):=rfl
 omega
theorem q4z {l:List s2e} {w:s2e} (h:w∈l):w.1.size≤(Ty.sl t2q).wt l∧w.2.size≤(Ty.sl t2q).wt l:=by
 have h1:(Ty.sl t2q).wt l=l.length+(l.map t2q.wt).sum:=rfl
 have h2:=q5c (f:=t2q.wt) h
 have h3:t2q.wt w=w.1.size+w.2.size:=rfl
 omega
theorem t6b {t:Ty} (l:List t.den):l.length≤(Ty.sl t).wt l:=by
 have h1:(Ty.sl t).wt l=l.length+(l.map t.wt).sum:=rfl
 omega
theorem le8 (n:Nat):decide ((n:Int)≤8)=decide (n≤8):=by simp;omega
theorem gt8 (n:Nat):decide ((n:Int) >8)= !decide (n≤8):=by by_cases h:n≤8<;>simp[h] <;>omega
theorem q5v (l:List WrT) (hl:(Ty.sl u11).wt l≤u0l):t9t l=some (u3x l):=by
 have hb:u0l=1099511627776:=rfl
 have hn:=t6b (t:=u11) l
 have L:=t2y t17 l.length (fun i=>(l,l,(l.length:Int),i)) (fun i=>u10 (rdL u11 l i)&&(decide (i=0) || (fun a b:WrT=>y3c a.1 b.1) (rdL u11 l (i - 1)) (rdL u11 l i))) (.inl l) (.inr false)
  (by rw[s3y];simp only[t1o,u0b,Nat.lt_irrefl,decide_false,cond_false])
  (fun i hi=>by
   have hm:rdL u11 l i∈l:=by rw[y8k hi];exact List.getElem_mem hi
   rw[s3y];simp only[t1o,u0b,hi,decide_true,cond_true,y7t hi,zTn,y7l (show i<4611686018427387904 by omega),s7q _ (Nat.le_trans (q5b hm).1 hl),zOb,t7d]
   by_cases h0:i=0
   ·subst h0;simp only[decide_true,Bool.not_true,cond_false,Bool.true_or,Bool.and_true]
    cases u10 (rdL u11 l 0)<;>rfl
   ·simp only[h0,decide_false,Bool.not_false,cond_true,Bool.false_or,t3f (show i<4611686018427387904 by omega) h0,y7t (show i - 1<l.length by omega),zTn]
    cases u10 (rdL u11 l i)
    ·rfl
    ·simp only[Bool.not_true,cond_false,zOb,Bool.true_and]
     cases y3c (rdL u11 l (i - 1)).1 (rdL u11 l i).1<;>rfl)
 rw[s1r (t:=u11) l u10 (fun a b=>y3c a.1 b.1)] at L
 rw[q0j];unfold s71
 simp only[L,zOb]
 unfold u3x
 cases l.all u10
 ·rfl
 ·cases q2j u11 (fun a b=>y3c a.1 b.1) l
  ·rfl
  ·simp only[Bool.true_and,cond_true]
   rw[le8]
theorem r33 (l:List WrT) (hl:(Ty.sl u11).wt l≤u0l):t51 l=some (u3x l):=by
 have hb:u0l=1099511627776:=rfl
 have hn:=t6b (t:=u11) l
 have L:=t2y t2d l.length (fun i=>(l,i)) (fun i=>u10 (rdL u11 l i)&&(decide (i=0) || (fun a b:WrT=>y3c a.1 b.1) (rdL u11 l (i - 1)) (rdL u11 l i))) (.inl l) (.inr false)
  (by rw[s4b];simp only[t12,u0b,Nat.lt_irrefl,decide_false,cond_false])
  (fun i hi=>by
   have hm:rdL u11 l i∈l:=by rw[y8k hi];exact List.getElem_mem hi
   rw[s4b];simp only[t12,u0b,hi,decide_true,cond_true,y7t hi,zTn,y7l (show i<4611686018427387904 by omega),s7r _ (Nat.le_trans (q5b hm).1 hl),zOb,t7d]
   by_cases h0:i=0
   ·subst h0;simp only[decide_true,Bool.not_true,cond_false,Bool.true_or,Bool.and_true]
    cases u10 (rdL u11 l 0)<;>rfl
   ·simp only[h0,decide_false,Bool.not_false,cond_true,Bool.false_or,t3f (show i<4611686018427387904 by omega) h0,y7t (show i - 1<l.length by omega),zTn]
    cases u10 (rdL u11 l i)
    ·rfl
    ·simp only[Bool.not_true,cond_false,zOb,Bool.true_and]
     cases y3c (rdL u11 l (i - 1)).1 (rdL u11 l i).1<;>rfl)
 rw[s1r (t:=u11) l u10 (fun a b=>y3c a.1 b.1)] at L
 rw[q00];unfold s8j
 simp only[L,zOb]
 unfold u3x
 cases l.all u10
 ·rfl
 ·cases q2j u11 (fun a b=>y3c a.1 b.1) l
  ·rfl
  ·simp only[Bool.true_and,cond_true]
   rw[le8]
theorem q99 (t:u0e):u0t.wt t=0+(0+(0+(0+((Ty.sl t2q).wt t.2.2.2.2.1+((Ty.sl u11).wt t.2.2.2.2.2.1+(0+t.2.2.2.2.2.2.2.size)))))):=rfl
theorem s2h (t:u0e) (ht:u0t.wt t≤u0l):t1a t=some (u6x t):=by
 have hb:u0l=1099511627776:=rfl
 have hw:=q99 t
 have hn:=t6b (t:=t2q) t.2.2.2.2.1
 have L:=t2y t65 t.2.2.2.2.1.length (fun i=>(t,t.2.2.2.2.1,(t.2.2.2.2.1.length:Int),i)) (fun i=>u2d (rdL t2q t.2.2.2.2.1 i)) (.inl t) (.inr false)
  (by rw[r21];simp only[t6w,u0b,Nat.lt_irrefl,decide_false,cond_false])
  (fun i hi=>by
   have hm:rdL t2q t.2.2.2.2.1 i∈t.2.2.2.2.1:=by rw[y8k hi];exact List.getElem_mem hi
   have hz:=q4z hm
   rw[r21];simp only[t6w,u0b,hi,decide_true,cond_true,y7t hi,zTn,y7l (show i<4611686018427387904 by omega),q74 (rdL t2q t.2.2.2.2.1 i) (Nat.le_trans hz.1 (by omega)) (Nat.le_trans hz.2 (by omega)),zOb]
   cases u2d (rdL t2q t.2.2.2.2.1 i)<;>rfl)
 rw[t9d (t:=t2q) t.2.2.2.2.1 u2d] at L
 rw[q8r];unfold r7k
 have k1:=q5v t.2.2.2.2.2.1 (by omega)
 have k2:=s2g t.2.2.2.2.2.2.2 (by omega)
 simp only[L,zOb]
 unfold u6x
 cases t.2.2.2.2.1.all u2d
 ·simp only[cond_false,Bool.false_and,Bool.and_false]
 ·simp only[cond_true,r0f,k1,k2,zOb,t7a,gt8,Bool.true_and]
  cases h3:inB t.2.2.1 0 9999
  ·cases inB t.1 1 9999<;>cases inB t.2.1 1 3<;>simp
  ·have h3' :=r6u.mp h3
   rw[y4y (n:=t.2.2.1+1) (by omega) (by omega)]
   cases inB t.1 1 9999<;>cases inB t.2.1 1 3<;>cases decide (t.2.2.2.2.1.length≤8)<;>cases u3x t.2.2.2.2.2.1<;>simp
   generalize inB t.2.2.2.1 (t.2.2.1+1) 9999=b1
   generalize u55 t.2.2.2.2.2.2.2=b2
   by_cases e3:t.2.1=3
   ·cases t.2.2.2.2.2.2.1<;>cases b1<;>simp[e3]
   ·by_cases e2:t.2.1=2
    ·cases t.2.2.2.2.2.2.1<;>cases b2<;>by_cases e5:t.2.2.2.1=0<;>simp[e2,e5]
    ·by_cases e1:t.2.1=1<;>cases t.2.2.2.2.2.2.1<;>by_cases e5:t.2.2.2.1=0<;>simp[e1,e2,e3,e5]
theorem t4r (t:u0e) (ht:u0t.wt t≤u0l):u5p t=some (u6x t):=by
 have hb:u0l=1099511627776:=rfl
 have hw:=q99 t
 have hn:=t6b (t:=t2q) t.2.2.2.2.1
 have L:=t2y t69 t.2.2.2.2.1.length (fun i=>(t,i)) (fun i=>u2d (rdL t2q t.2.2.2.2.1 i)) (.inl t) (.inr false)
  (by rw[r26];simp only[t61,u0b,Nat.lt_irrefl,decide_false,cond_false])
  (fun i hi=>by
   have hm:rdL t2q t.2.2.2.2.1 i∈t.2.2.2.2.1:=by rw[y8k hi];exact List.getElem_mem hi
   have hz:=q4z hm
   rw[r26];simp only[t61,u0b,hi,decide_true,cond_true,y7t hi,zTn,y7l (show i<4611686018427387904 by omega),s7n (rdL t2q t.2.2.2.2.1 i) (Nat.le_trans hz.1 (by omega)) (Nat.le_trans hz.2 (by omega)),zOb]
   cases u2d (rdL t2q t.2.2.2.2.1 i)<;>rfl)
 rw[t9d (t:=t2q) t.2.2.2.2.1 u2d] at L
 rw[q81];unfold r7u
 have k1:=r33 t.2.2.2.2.2.1 (by omega)
 have k2:=t4p t.2.2.2.2.2.2.2 (by omega)
 simp only[L,s22,k1,k2,zOb,t7a,gt8]
 unfold u6x
 cases t.2.2.2.2.1.all u2d
 ·cases inB t.1 1 9999<;>cases inB t.2.1 1 3<;>cases inB t.2.2.1 0 9999<;>cases decide (t.2.2.2.2.1.length≤8)<;>cases u3x t.2.2.2.2.2.1<;>simp
 ·simp only[cond_true,Bool.true_and,s22,k2,zOb,t7a]
  cases h3:inB t.2.2.1 0 9999
  ·cases inB t.1 1 9999<;>cases inB t.2.1 1 3<;>simp
  ·have h3' :=r6u.mp h3
   rw[y4y (n:=t.2.2.1+1) (by omega) (by omega)]
   cases inB t.1 1 9999<;>cases inB t.2.1 1 3<;>cases decide (t.2.2.2.2.1.length≤8)<;>cases u3x t.2.2.2.2.2.1<;>try rfl
   generalize decide (t.2.2.2.2.2.2.2.size=0)=b4
   generalize inB t.2.2.2.1 (t.2.2.1+1) 9999=b1
   generalize u55 t.2.2.2.2.2.2.2=b2
   by_cases e3:t.2.1=3
   ·cases t.2.2.2.2.2.2.1<;>cases b1<;>cases b4<;>simp[e3]
   ·by_cases e2:t.2.1=2
    ·cases t.2.2.2.2.2.2.1<;>cases b2<;>by_cases e5:t.2.2.2.1=0<;>simp[e2,e5]
    ·by_cases e1:t.2.1=1<;>cases t.2.2.2.2.2.2.1<;>cases b4<;>by_cases e5:t.2.2.2.1=0<;>simp[e1,e2,e3,e5]
end
section
section
variable {l:List u0t.den} (hl:o1d l) {u:List Nat} (ho:o3x l=some u)
include hl
include ho
def pre (l:List u0t.den) (u:List Nat) (a:Nat):List u0t.den:=(u.take a).map fun i=>rdL u0t l i
end
end
section
def o5m (w:u11.den):Prop:=w.1.size≤4∧w.2.1.size≤13
def midTx (n:Nat) (t:u0t.den):Prop:=t.2.2.2.2.1.length≤n∧(∀r∈t.2.2.2.2.1,r.1.size≤2∧r.2.size≤2)∧t.2.2.2.2.2.1.length≤n∧(∀r∈t.2.2.2.2.2.1,o5m r)∧t.2.2.2.2.2.2.2.size≤16
theorem midTx.wt {n:Nat} (hn:n≤1000000) {t:u0t.den} (h:midTx n t):u0t.wt t≤u0l:=by
 obtain⟨h1,h2,h3,h4,h5⟩:=h
 have a1:=p22 (l:=t.2.2.2.2.1) (f:=(Ty.pair .str .str).wt) (k:=4) (fun x hx=>by have:=h2 x hx;simp only[Ty.wt];omega)
 have a2:=p22 (l:=t.2.2.2.2.2.1) (f:=(Ty.pair .str (.pair .str .bool)).wt) (k:=17) (fun x hx=>by have:=h4 x hx;unfold o5m at this;simp only[Ty.wt];omega)
 have hw:u0t.wt t=0+(0+(0+(0+((t.2.2.2.2.1.length+(t.2.2.2.2.1.map (Ty.pair .str .str).wt).sum)+((t.2.2.2.2.2.1.length+(t.2.2.2.2.2.1.map (Ty.pair .str (.pair .str .bool)).wt).sum)+(0+t.2.2.2.2.2.2.2.size)))))):=rfl
 rw[hw]
 unfold u0l
 omega
end
section
theorem p25 {l:List u18} {w:u18} (h:w∈l):w.1.size≤(Ty.sl u0d).wt l∧w.2.1.size≤(Ty.sl u0d).wt l:=by
 have h1:(Ty.sl u0d).wt l=l.length+(l.map u0d.wt).sum:=rfl
 have h2:=q5c (f:=u0d.wt) h
 have h3:u0d.wt w=w.1.size+(w.2.1.size+(0+0)):=rfl
 omega
theorem o23 (n:Nat):decide ((n:Int) >12)= !decide (n≤12):=by by_cases h:n≤12<;>simp[h] <;>omega
theorem o1b (n:Nat):decide ((n:Int)≤120)=decide (n≤120):=by simp;omega
theorem r73 (a b:Int):decide (a≥b)= !decide (a<b):=by
 by_cases h:a<b
 ·have: ¬a≥b:=by omega
  simp[h,this]
 ·have:a≥b:=by omega
  simp[h,this]
theorem r74 (a b:Int):decide (a >b)= !decide (a≤b):=by
 by_cases h:a≤b
 ·have: ¬a >b:=by omega
  simp[h,this]
 ·have:a >b:=by omega
  simp[h,this]
theorem p9r (a b:u18):∃r,u46 (a,b)=some r∧decide (r≥0)= !s1g a b:=by
 rw[t7x];unfold t0z s1g
 simp only[q39,zOb]
 rcases r3t a.1 b.1 with h | h | h
 ·exact⟨-1,by simp[h],by simp[h]⟩
 ·simp only[h,u6w,y6l,Bool.false_eq_true,if_false,if_true,decide_true,Bool.not_true,cond_false,p42,zOb,Bool.false_or,Bool.true_and]
  refine⟨_,rfl,?_⟩
  by_cases h3:a.2.2.2<b.2.2.2
  ·simp[h3]
  ·by_cases h4:a.2.2.2 >b.2.2.2<;>simp[h3,h4]
 ·have e1:=s1f h
  have e2:z7o a.1 b.1=false:=q12.mpr (fun e=>by rw[e,u6w] at h;cases h)
  exact⟨1,by simp[e1,e2],by simp[e1,e2]⟩
theorem r9v (l:List u18) (hl:(Ty.sl u0d).wt l≤u0l):t6k l=some (u6i l):=by
 have hb:u0l=1099511627776:=rfl
 have hn:=t6b (t:=u0d) l
 have L:=t2y u8b l.length (fun i=>(l,l,(l.length:Int),i)) (fun i=>r3w (rdL u0d l i)&&(decide (i=0) || s1g (rdL u0d l (i - 1)) (rdL u0d l i))) (.inl l) (.inr false)
  (by rw[s0a];simp only[u76,u0b,Nat.lt_irrefl,decide_false,cond_false])
  (fun i hi=>by
   have hm:rdL u0d l i∈l:=by rw[y8k hi];exact List.getElem_mem hi
   rw[s0a];simp only[u76,u0b,hi,decide_true,cond_true,y7t hi,zTn,y7l (show i<4611686018427387904 by omega),s2g _ (Nat.le_trans (p25 hm).1 hl),r0f,zOb,t7d,t7a,o23]
   unfold r3w
   generalize u55 (rdL u0d l i).1=b1
   generalize decide ((rdL u0d l i).2.1.size≤12)=b2
   generalize decide ((rdL u0d l i).2.1.size=0)=b3
   generalize (rdL u0d l i).2.2.1=b4
   generalize inB (rdL u0d l i).2.2.2 1 9999=b5
   by_cases h0:i=0
   ·subst h0;simp only[decide_true,Bool.not_true,cond_false,Bool.true_or,Bool.and_true]
    cases b1<;>cases b2<;>cases b3<;>cases b4<;>cases b5<;>rfl
   ·obtain⟨r,hr,hr2⟩:=p9r (rdL u0d l (i - 1)) (rdL u0d l i)
    simp only[h0,decide_false,Bool.not_false,cond_true,Bool.false_or,t3f (show i<4611686018427387904 by omega) h0,y7t (show i - 1<l.length by omega),zTn,hr,hr2,zOb]
    cases s1g (rdL u0d l (i - 1)) (rdL u0d l i)<;>cases b1<;>cases b2<;>cases b3<;>cases b4<;>cases b5<;>rfl)
 rw[s1r (t:=u0d) l r3w s1g] at L
 rw[r6i];unfold s2k
 simp only[L,zOb]
 unfold u6i
 cases l.all r3w
 ·rfl
 ·cases q2j u0d s1g l
  ·rfl
  ·simp only[Bool.true_and,cond_true]
   rw[o1b]
theorem r9w (l:List u18) (hl:(Ty.sl u0d).wt l≤u0l):t6n l=some (u6i l):=by
 have hb:u0l=1099511627776:=rfl
 have hn:=t6b (t:=u0d) l
 have L:=t2y u8e l.length (fun i=>(l,i)) (fun i=>r3w (rdL u0d l i)&&(decide (i=0) || s1g (rdL u0d l (i - 1)) (rdL u0d l i))) (.inl l) (.inr false)
  (by rw[s0e];simp only[u8a,u0b,Nat.lt_irrefl,decide_false,cond_false])
  (fun i hi=>by
   have hm:rdL u0d l i∈l:=by rw[y8k hi];exact List.getElem_mem hi
   rw[s0e];simp only[u8a,u0b,hi,decide_true,cond_true,y7t hi,zTn,y7l (show i<4611686018427387904 by omega),t4p _ (Nat.le_trans (p25 hm).1 hl),s22,zOb,t7d,t7a,o23]
   unfold r3w s1g
   generalize u55 (rdL u0d l i).1=b1
   generalize decide ((rdL u0d l i).2.1.size≤12)=b2
   generalize decide ((rdL u0d l i).2.1.size=0)=b3
   generalize (rdL u0d l i).2.2.1=b4
   generalize inB (rdL u0d l i).2.2.2 1 9999=b5
   by_cases h0:i=0
   ·subst h0;simp only[decide_true,Bool.not_true,cond_false,Bool.true_or,Bool.and_true]
    cases b1<;>cases b2<;>cases b3<;>cases b4<;>cases b5<;>rfl
   ·simp only[h0,decide_false,Bool.not_false,cond_true,Bool.false_or,t3f (show i<4611686018427387904 by omega) h0,y7t (show i - 1<l.length by omega),zTn,zOb]
    rcases r3t (rdL u0d l (i - 1)).1 (rdL u0d l i).1 with h | h | h
    ·have e2:z7o (rdL u0d l (i - 1)).1 (rdL u0d l i).1=false:=q12.mpr (fun e=>by rw[e,u6w] at h;cases h)
     rw[h,e2]
     cases b1<;>cases b2<;>cases b3<;>cases b4<;>cases b5<;>rfl
    ·rw[h,u6w,y6l]
     rw[r73]
     cases decide ((rdL u0d l (i - 1)).2.2.2<(rdL u0d l i).2.2.2)<;>cases b1<;>cases b2<;>cases b3<;>cases b4<;>cases b5<;>rfl
    ·have e1:=s1f h
     have e2:z7o (rdL u0d l (i - 1)).1 (rdL u0d l i).1=false:=q12.mpr (fun e=>by rw[e,u6w] at h;cases h)
     rw[e1,e2]
     cases b1<;>cases b2<;>cases b3<;>cases b4<;>cases b5<;>rfl)
 rw[s1r (t:=u0d) l r3w s1g] at L
 rw[r6p];unfold s2r
 simp only[L,zOb]
 unfold u6i
 cases l.all r3w
 ·rfl
 ·cases q2j u0d s1g l
  ·rfl
  ·simp only[Bool.true_and,cond_true]
   rw[o1b]
theorem p68 (n:Nat) (hn:n≤1099511627776):u9z ((),(n:Int))=some [] :=by
 rw[s7j];unfold t59
 have e0:IntKind.i64.wrap ((0:Int) - (0:Int))=0:=by rw[y4y (by omega) (by omega)];rfl
 have e1:IntKind.i64.wrap ((n:Int) - 0)=(n:Int):=by rw[y4y (by omega) (by omega)];omega
 have e2:decide ((n:Int)<0)=false:=decide_eq_false (by omega)
 simp only[e0,e1,e2,cond_false]
 by_cases h:n=0
 ·subst h;simp
 ·have e3:decide ((n:Int) >0)=true:=by simp;omega
  have e4:(decide ((1:Int)≤(n:Int))&&decide ((n:Int)≤1099511627776))=true:=by simp;omega
  simp only[e3,e4,cond_true]
  simp
theorem r53 (ls:List (List u0e)) (h:ls.flatten.length≤1099511627776) (hn:ls.length≤1099511627776):u13 ls=some ls.flatten:=by
 have fl:∀(i:Nat),i≤ls.length→(ls.take i).flatten.length≤ls.flatten.length:=fun i _=>by
  have:=List.take_append_drop i ls
  have h2:ls.flatten=(ls.take i).flatten++(ls.drop i).flatten:=by rw[←List.flatten_append,this]
  rw[h2,List.length_append];omega
 have st:∀(i:Nat) (hi:i<ls.length),(ls.take (i+1)).flatten=(ls.take i).flatten++ls[i] :=fun i hi=>by
  rw[List.take_add_one,List.getElem?_eq_getElem hi,List.flatten_append];simp
 have L1:=r3c u2c ls.length (fun(n:Nat) i=>(ls,(n:Int),ls,(ls.length:Int),i)) (fun _ _=> .inl (ls,(ls.flatten.length:Int))) (fun i n=>n=(ls.take i).flatten.length)
  (fun n hP=>by
   rw[List.take_length] at hP;subst hP
   rw[t2t];simp only[u4e,u0b,Nat.lt_irrefl,decide_false,cond_false])
  (fun i n hi hP=> .inr ⟨(ls.take (i+1)).flatten.length,rfl,rfl,by
   have h1:=fl (i+1) (by omega)
   have h2:(ls.take (i+1)).flatten.length=n+ls[i].length:=by rw[st i hi,List.length_append,hP]
   have e1:IntKind.i64.wrap ((n:Int)+((ls[i].length:Nat):Int))=((n+ls[i].length:Nat):Int):=by rw[y4y (by omega) (by omega)];omega
   have e2:decide (((n+ls[i].length:Nat):Int)<0)=false:=by simp;omega
   rw[t2t];simp only[u4e,u0b,hi,decide_true,cond_true,y7t hi,zTn,y8k (t:=Ty.sl u0t) hi,y7l (show i<4611686018427387904 by omega),h2]
   rw[e1,e2];rfl⟩) 0 0 (by omega) rfl
 have L2:=r3c u15 ls.length (fun(a:List u0e) i=>(a,ls,(ls.length:Int),i)) (fun _ _=> .inl ls.flatten) (fun i a=>a=(ls.take i).flatten)
  (fun a hP=>by
   rw[List.take_length] at hP;subst hP
   rw[t1h];simp only[u3g,u0b,Nat.lt_irrefl,decide_false,cond_false])
  (fun i a hi hP=> .inr ⟨(ls.take (i+1)).flatten,rfl,rfl,by
   have h1:=fl (i+1) (by omega)
   have h2:(ls.take (i+1)).flatten.length=a.length+ls[i].length:=by rw[st i hi,List.length_append,hP]
   rw[t1h];simp only[u3g,u0b,hi,decide_true,cond_true,y7t hi,zTn,y8k (t:=Ty.sl u0t) hi,y7l (show i<4611686018427387904 by omega)]
   rw[u07 (show a.length+ls[i].length≤1099511627776 by omega),st i hi,hP];rfl⟩) 0 [] (by omega) rfl
 rw[s2y];unfold t4t
 have L1' :u2c (ls,(0:Int),ls,(ls.length:Int),0)=some (.inl (ls,(ls.flatten.length:Int))):=L1
 have L2' :u15 ([],ls,(ls.length:Int),0)=some (.inl ls.flatten):=L2
 simp only[L1',zOb,p68 _ h,L2']
end
end
end Go.Proofs.YtbkicjpdlchbgaaGreat.Ab
