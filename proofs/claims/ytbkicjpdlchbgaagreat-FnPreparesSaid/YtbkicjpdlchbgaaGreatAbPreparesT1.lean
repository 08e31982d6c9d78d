import Derived.Test.YtbkicjpdlchbgaaGreatAbPreparesG2
import Derived.Test.YtbkicjpdlchbgaaGreatAbK2
import Derived.Test.YtbkicjpdlchbgaaGreatAbF4
import Derived.Test.YtbkicjpdlchbgaaGreatAbS2
namespace Go.Proofs.YtbkicjpdlchbgaaGreat.Ab
open Go
set_option linter.unusedVariables false
set_option linter.unusedSimpArgs false
set_option linter.unnecessarySimpa false
section
section
theorem p6l (n:Int):IntKind.u8.wrap n=n % 256:=by
 simp[IntKind.wrap,IntKind.bits,IntKind.signed]
theorem u0b (a b:Nat):decide ((a:Int)<(b:Int))=decide (a<b):=by simp
theorem r3t {X R A:Type} (W:X→Option R) (n:Nat) (mk:A→Int→X) (res:Nat→A→R) (P:Nat→A→Prop)
 (hend:∀a,P n a→W (mk a (n:Int))=some (res n a))
 (hstep:∀(i:Nat) a,i<n→P i a→W (mk a (i:Int))=some (res i a)∨ ∃a',P (i+1) a' ∧res (i+1) a' =res i a∧W (mk a (i:Int))=W (mk a' ((i+1:Nat):Int))):
 ∀(i:Nat) a,i≤n→P i a→W (mk a (i:Int))=some (res i a):=by
 intro i a hi hP
 obtain⟨d,hd⟩:∃d,i+d=n:=⟨n - i,by omega⟩
 clear hi
 induction d generalizing i a with
 | zero=>
  have:i=n:=by omega
  subst this
  exact hend a hP
 | succ d ih=>
  rcases hstep i a (by omega) hP with h | ⟨a',h1,h2,h3⟩
  ·exact h
  ·rw[h3,ih (i+1) a' h1 (by omega),h2]
def p8s {E A R:Type} (f:Nat→E→A→A⊕R) (fin:A→R):Nat→List E→A→R
 | _, [],a=>fin a
 | i,x::l,a=>match f i x a with
  | .inl a' =>p8s f fin (i+1) l a'
  | .inr r=>r
theorem p8o {X R A E:Type} (W:X→Option R) (l:List E) (mk:A→Int→X) (f:Nat→E→A→A⊕R) (fin:A→R) (P:Nat→A→Prop)
 (hend:∀a,P l.length a→W (mk a (l.length:Int))=some (fin a))
 (hstep:∀(i:Nat) (h:i<l.length) a,P i a→match f i l[i] a with
  | .inl a' =>P (i+1) a' ∧W (mk a (i:Int))=W (mk a' ((i+1:Nat):Int))
  | .inr r=>W (mk a (i:Int))=some r) (a:A) (hP:P 0 a):W (mk a 0)=some (p8s f fin 0 l a):=by
 have key:=r3t W l.length mk (fun i a=>p8s f fin i (l.drop i) a) P (fun a h=>by
  rw[hend a h,List.drop_eq_nil_of_le (Nat.le_refl _)];rfl) (fun i a hi hP=>by
   have hs:=hstep i hi a hP
   have hd:l.drop i=l[i] ::l.drop (i+1):=List.drop_eq_getElem_cons hi
   rw[hd]
   simp only[p8s]
   cases hf:f i l[i] a with
   | inl a' =>
    rw[hf] at hs
    exact .inr ⟨a',hs.1,rfl,hs.2⟩
   | inr r=>
    rw[hf] at hs
    exact .inl hs) 0 a (Nat.zero_le _) hP
 exact key
def szr (b:Int) (w:Nat):Int:=if(w:Int)≤b then b - w else -1
def Ty.wt:(t:Ty)→t.den→Nat
 | .int _,_=>0
 | .bool,_=>0
 | .str,s=>s.size
 | .sl e,l=>l.length+(l.map e.wt).sum
 | .pair a b,x=>a.wt x.1+b.wt x.2
theorem s47 {X R E:Type} (W:X→Option R) (l:List E) (mk:Int→X) (p:E→Bool) (yes no:R) (hend:W (mk (l.length:Int))=some no)
 (hstep:∀(i:Nat) (h:i<l.length),W (mk (i:Int))=bif p l[i] then some yes else W (mk ((i+1:Nat):Int))):W (mk 0)=some (bif l.any p then yes else no):=by
 have:=p8o W l (fun(_:Unit) i=>mk i) (fun _ x _=>if p x then .inr yes else .inl ()) (fun _=>no) (fun _ _=>True) (fun _ _=>hend) (fun i h a _=>by
  have hs:=hstep i h
  cases hp:p l[i] with
  | true=>simp only[hp,cond_true] at hs;simp only[if_true];exact hs
  | false=>simp only[hp,cond_false] at hs;simp only[Bool.false_eq_true,if_false];exact⟨trivial,hs⟩) () trivial
 rw[this]
 congr 1
 have key:∀(l:List E) (i:Nat),p8s (fun _ x (_:Unit)=>if p x then .inr yes else .inl ()) (fun _=>no) i l ()=bif l.any p then yes else no:=by
  intro l
  induction l with
  | nil=>intro i;rfl
  | cons x l ih=>
   intro i
   simp only[p8s,List.any_cons]
   cases hp:p x with
   | true=>simp
   | false=>simp only[Bool.false_eq_true,if_false,Bool.false_or];exact ih _
 exact key l 0
theorem t59 {X R E A:Type} (W:X→Option R) (l:List E) (mk:A→Int→X) (f:A→E→A) (fin:A→R) (P:Nat→A→Prop)
 (hend:∀a,P l.length a→W (mk a (l.length:Int))=some (fin a))
 (hstep:∀(i:Nat) (h:i<l.length) a,P i a→P (i+1) (f a l[i])∧W (mk a (i:Int))=W (mk (f a l[i]) ((i+1:Nat):Int))) (a:A) (hP:P 0 a):W (mk a 0)=some (fin (l.foldl f a)):=by
 have:=p8o W l mk (fun _ x a=> .inl (f a x)) fin P hend (fun i h a hp=>hstep i h a hp) a hP
 rw[this]
 congr 1
 have key:∀(l:List E) (i:Nat) (a:A),p8s (fun _ x a=>(.inl (f a x):A⊕R)) fin i l a=fin (l.foldl f a):=by
  intro l
  induction l with
  | nil=>intro i a;rfl
  | cons x l ih=>intro i a;simp only[p8s,List.foldl_cons];exact ih _ _
 exact key l 0 a
theorem s1j {X R E B:Type} (W:X→Option R) (l:List E) (mk:List B→Int→X) (p:E→Bool) (g:E→B) (fin:List B→R) (hl:l.length≤1099511627776)
 (hend:∀a:List B,a.length≤l.length→W (mk a (l.length:Int))=some (fin a))
 (hstep:∀(i:Nat) (h:i<l.length) (a:List B),a.length≤i→W (mk a (i:Int))=bif p l[i] then W (mk (a++ [g l[i]]) ((i+1:Nat):Int)) else W (mk a ((i+1:Nat):Int))):W (mk [] 0)=some (fin ((l.filter p).map g)):=by
 have:=t59 W l mk (fun a x=>if p x then a++ [g x] else a) fin (fun i a=>a.length≤i) hend (fun i h a hp=>by
  have hs:=hstep i h a hp
  cases hc:p l[i] with
  | true=>
   simp only[hc,cond_true] at hs
   simp only[if_true]
   exact⟨by simp;omega,hs⟩
  | false=>
   simp only[hc,cond_false] at hs
   simp only[Bool.false_eq_true,if_false]
   exact⟨by omega,hs⟩) [] (Nat.le_refl 0)
 rw[this]
 congr 1
 have key:∀(l:List E) (a:List B),l.foldl (fun a x=>if p x then a++ [g x] else a) a=a++(l.filter p).map g:=by
  intro l
  induction l with
  | nil=>intro a;simp
  | cons x l ih=>
   intro a
   simp only[List.foldl_cons,ih,List.filter_cons]
   cases hp:p x<;>simp
 rw[key];simp
end
section
theorem q47 (b:ByteArray):b.toList=toS b:=by rw[ByteArray.toList_eq];rfl
theorem p9s {a b:ByteArray} (h:toS a=toS b):a=b:=by rw[←y8p a,h,y8p]
theorem r73:∀(x y:List UInt8),Op.bytesLess x y=decide (x<y)
 | x, [] =>by simp[Op.bytesLess]
 | [],y::ys=>by simp[Op.bytesLess]
 | x::xs,y::ys=>by
  rw[Op.bytesLess,r73 xs ys,Bool.eq_iff_iff]
  simp[List.cons_lt_cons_iff]
theorem p6c {a b:ByteArray} :y3c a b=true↔toS a<toS b:=by
 unfold y3c
 rw[q47,q47,r73]
 simp
theorem o2m {a b:ByteArray} :y3c a b=false↔ ¬toS a<toS b:=by
 rw[←p6c];simp
theorem o06 (x:List UInt8): ¬x<x:=List.lt_irrefl x
theorem o07 {x y z:List UInt8} (h:x<y) (k:y<z):x<z:=List.lt_trans h k
theorem o08 (x y:List UInt8):x<y∨x=y∨y<x:=by
 rcases List.le_total x y with h | h
 ·rcases List.le_iff_lt_or_eq.mp h with h | h
  ·exact .inl h
  ·exact .inr (.inl h)
 ·rcases List.le_iff_lt_or_eq.mp h with h | h
  ·exact .inr (.inr h)
  ·exact .inr (.inl h.symm)
theorem u9z (a:ByteArray):y3c a a=false:=o2m.mpr (o06 _)
theorem r3g {a b c:ByteArray} (h:y3c a b=true) (k:y3c b c=true):y3c a c=true:=p6c.mpr (o07 (p6c.mp h) (p6c.mp k))
theorem r65 (a b:ByteArray):y3c a b=true∨a=b∨y3c b a=true:=by
 rcases o08 (toS a) (toS b) with h | h | h
 ·exact .inl (p6c.mpr h)
 ·exact .inr (.inl (p9s h))
 ·exact .inr (.inr (p6c.mpr h))
theorem s5t {a b:ByteArray} (h:y3c a b=true):y3c b a=false:=by
 cases k:y3c b a with
 | false=>rfl
 | true=>exact absurd (r3g h k) (by rw[u9z];exact Bool.false_ne_true)
theorem p1t {a b:ByteArray} :z7o a b=false↔a≠b:=by
 rw[←Bool.not_eq_true,y7f]
theorem q44 (a b:ByteArray):z7o a b=z7o b a:=by
 rw[Bool.eq_iff_iff,y7f,y7f]
 exact⟨Eq.symm,Eq.symm⟩
theorem q89 {a b:ByteArray} :(!(y3c a b || z7o a b))=y3c b a:=by
 rcases r65 a b with h | h | h
 ·rw[h,s5t h];rfl
 ·subst h;rw[u9z,y6l];rfl
 ·rw[s5t h,h]
  have:z7o a b=false:=p1t.mpr (fun e=>by subst e;rw[u9z] at h;cases h)
  rw[this];rfl
def Asc (l:List ByteArray):Prop:=l.Pairwise fun a b=>y3c a b=true
theorem Asc.ext:∀ {l m:List ByteArray},Asc l→Asc m→(∀x,x∈l↔x∈m)→l=m
 | [], [],_,_,_=>rfl
 | [],y::m,_,_,h=>by have:=(h y).mpr (by simp);simp at this
 | x::l, [],_,_,h=>by have:=(h x).mp (by simp);simp at this
 | x::l,y::m,hl,hm,h=>by
  have hl' :=List.pairwise_cons.mp hl
  have hm' :=List.pairwise_cons.mp hm
  have hxy:x=y:=by
   rcases List.mem_cons.mp ((h x).mp (by simp)) with e | e
   ·exact e
   ·rcases List.mem_cons.mp ((h y).mpr (by simp)) with e' | e'
    ·exact e'.symm
    ·have:=r3g (hm'.1 x e) (hl'.1 y e')
     rw[u9z] at this;cases this
  subst hxy
  congr 1
  refine Asc.ext hl'.2 hm'.2 fun z=> ?_
  constructor
  ·intro hz
   rcases List.mem_cons.mp ((h z).mp (by simp[hz])) with e | e
   ·subst e;have:=hl'.1 z hz;rw[u9z] at this;cases this
   ·exact e
  ·intro hz
   rcases List.mem_cons.mp ((h z).mpr (by simp[hz])) with e | e
   ·subst e;have:=hm'.1 z hz;rw[u9z] at this;cases this
   ·exact e
theorem Asc.filter {l:List ByteArray} (h:Asc l) (p:ByteArray→Bool):Asc (l.filter p):=List.Pairwise.filter p h
def p4q (k:ByteArray) (l:List ByteArray):List ByteArray:=l.filter (fun x=>y3c x k)++ [k] ++l.filter (fun x=> !(y3c x k || z7o x k))
theorem p7j {k x:ByteArray} {l:List ByteArray} :x∈p4q k l↔x=k∨x∈l:=by
 simp only[p4q,List.mem_append,List.mem_filter,List.mem_singleton,q89]
 constructor
 ·rintro((h | h) | h)
  ·exact .inr h.1
  ·exact .inl h
  ·exact .inr h.1
 ·rintro(h | h)
  ·exact .inl (.inr h)
  ·rcases r65 x k with e | e | e
   ·exact .inl (.inl ⟨h,e⟩)
   ·exact .inl (.inr e)
   ·exact .inr ⟨h,e⟩
theorem p7c {k:ByteArray} {l:List ByteArray} (h:Asc l):Asc (p4q k l):=by
 unfold Asc p4q
 rw[List.pairwise_append,List.pairwise_append]
 refine⟨⟨h.filter _,by simp,fun a ha b hb=> ?_⟩,h.filter _,fun a ha b hb=> ?_⟩
 ·simp only[List.mem_singleton] at hb
  subst hb
  exact(List.mem_filter.mp ha).2
 ·have hb:=(List.mem_filter.mp hb).2
  rw[q89] at hb
  rcases List.mem_append.mp ha with ha | ha
  ·exact r3g (List.mem_filter.mp ha).2 hb
  ·simp only[List.mem_singleton] at ha
   subst ha
   exact hb
theorem p5j {l:List ByteArray} :∀ {a:List ByteArray},Asc a→Asc (l.foldl (fun a k=>p4q k a) a)∧ ∀x,x∈l.foldl (fun a k=>p4q k a) a↔x∈l∨x∈a:=by
 induction l with
 | nil=>intro a h;exact⟨h,fun x=>by simp⟩
 | cons k l ih=>
  intro a h
  obtain⟨h1,h2⟩:=ih (p7c (k:=k) h)
  refine⟨h1,fun x=> ?_⟩
  rw[List.foldl_cons,h2,p7j,List.mem_cons]
  constructor
  ·rintro(q | q | q)
   ·exact .inl (.inr q)
   ·exact .inl (.inl q)
   ·exact .inr q
  ·rintro((q | q) | q)
   ·exact .inr (.inl q)
   ·exact .inl q
   ·exact .inr (.inr q)
theorem r74 (d:Array (List UInt8)) (hs:∀i j:Nat,i≤j→j<d.size→d[i]! ≤d[j]!):∀m,m≤d.size→(Lib.compactUpTo d m).Pairwise (·< ·)∧(∀x,x∈Lib.compactUpTo d m↔ ∃i,i<m∧d[i]! =x)
 | 0,_=>by simp[Lib.compactUpTo]
 | m+1,hm=>by
  obtain⟨h1,h2⟩:=r74 d hs m (by omega)
  rw[Lib.compactUpTo_succ]
  by_cases hk:Lib.keeps d m=true
  ·rw[if_pos hk]
   constructor
   ·rw[List.pairwise_append]
    refine⟨h1,by simp,fun a ha b hb=> ?_⟩
    simp only[List.mem_singleton] at hb
    subst hb
    obtain⟨i,hi,rfl⟩:=(h2 a).mp ha
    unfold Lib.keeps at hk
    have hk:=of_decide_eq_true hk
    rcases hk with hk | hk
    ·omega
    ·have l1:=hs i (m - 1) (by omega) (by omega)
     have l2:=hs (m - 1) m (by omega) (by omega)
     rcases List.le_iff_lt_or_eq.mp l2 with l2 | l2
     ·rcases List.le_iff_lt_or_eq.mp l1 with l1 | l1
      ·exact o07 l1 l2
      ·rw[l1];exact l2
     ·exact absurd l2.symm hk
   ·intro x
    simp only[List.mem_append,List.mem_singleton,h2]
    constructor
    ·rintro(⟨i,hi,rfl⟩ | rfl)
     ·exact⟨i,by omega,rfl⟩
     ·exact⟨m,by omega,rfl⟩
    ·rintro⟨i,hi,rfl⟩
     rcases Nat.lt_or_ge i m with q | q
     ·exact .inl ⟨i,q,rfl⟩
     ·exact .inr (by rw[show i=m by omega])
  ·rw[if_neg hk,List.append_nil]
   refine⟨h1,fun x=> ?_⟩
   rw[h2]
   unfold Lib.keeps at hk
   simp only[decide_eq_true_eq,not_or,ne_eq,Decidable.not_not] at hk
   constructor
   ·rintro⟨i,hi,rfl⟩;exact⟨i,by omega,rfl⟩
   ·rintro⟨i,hi,rfl⟩
    rcases Nat.lt_or_ge i m with q | q
    ·exact⟨i,q,rfl⟩
    ·have:i=m:=by omega
     subst this
     exact⟨i - 1,by omega,hk.2.symm⟩
def q1l (l:List ByteArray):List ByteArray:=y6r (y4i l)
theorem r6x (l:List ByteArray):Asc (q1l l)∧ ∀x,x∈q1l l↔x∈l:=by
 obtain⟨d,hd⟩:∃d,d=(l.map toS).mergeSort fun x y=>decide (x≤y):=⟨_,rfl⟩
 have hk:q1l l=(Lib.compact d).map unS:=by
  unfold q1l y6r y4i
  rw[←hd,List.map_map]
  have:(toS ∘unS)=id:=by funext x;rfl
  rw[this,List.map_id]
 have hsort:d.Pairwise (·≤ ·):=by
  rw[hd]
  have:=List.pairwise_mergeSort (le:=fun(x y:List UInt8)=>decide (x≤y)) (fun a b c h1 h2=>by
   simp only[decide_eq_true_eq] at h1 h2 ⊢
   exact List.le_trans h1 h2) (fun a b=>by
   simp only[Bool.or_eq_true,decide_eq_true_eq]
   exact List.le_total a b) (l.map toS)
  exact this.imp (fun h=>by simpa using h)
 have hmem:∀x,x∈d↔x∈l.map toS:=fun x=>by rw[hd];exact(List.mergeSort_perm _ _).mem_iff
 have hs:∀i j:Nat,i≤j→j<d.toArray.size→d.toArray[i]! ≤d.toArray[j]! :=fun i j hij hj=>by
  have hj' :j<d.length:=by simpa using hj
  have hi' :i<d.length:=by omega
  rw[getElem!_pos _ i (by simpa using hi'),getElem!_pos _ j hj]
  simp only[List.getElem_toArray]
  rcases Nat.lt_or_ge i j with q | q
  ·exact List.pairwise_iff_getElem.mp hsort i j hi' hj' q
  ·have:i=j:=by omega
   subst this
   exact List.le_refl _
 obtain⟨h1,h2⟩:=r74 d.toArray hs d.length (by simp)
 rw[hk]
 constructor
 ·unfold Asc
  rw[List.pairwise_map]
  exact h1.imp (fun h=>p6c.mpr h)
 ·intro x
  rw[List.mem_map]
  constructor
  ·rintro⟨y,hy,rfl⟩
   obtain⟨i,hi,rfl⟩:=(h2 y).mp hy
   rw[getElem!_pos _ i (by simpa using hi)]
   have:d[i] ∈l.map toS:=(hmem _).mp (List.getElem_mem hi)
   obtain⟨z,hz,e⟩:=List.mem_map.mp this
   simp only[List.getElem_toArray]
   rw[←e,y8p]
   exact hz
  ·intro hx
   have:toS x∈d:=(hmem _).mpr (List.mem_map.mpr ⟨x,hx,rfl⟩)
   obtain⟨i,hi,e⟩:=List.mem_iff_getElem.mp this
   refine⟨toS x,(h2 _).mpr ⟨i,hi,?_⟩,y8p x⟩
   rw[getElem!_pos _ i (by simpa using hi)]
   simpa using e
theorem p6b (l:List ByteArray):(y4i l).length=l.length:=by simp[y4i]
theorem p9i (l:List ByteArray) (p:ByteArray→Bool):(l.filter p).foldl (fun a k=>p4q k a) [] =(q1l l).filter p:=by
 obtain⟨h1,h2⟩:=p5j (l:=l.filter p) (a:= []) List.Pairwise.nil
 obtain⟨k1,k2⟩:=r6x l
 refine Asc.ext h1 (k1.filter p) fun x=> ?_
 rw[h2,List.mem_filter,List.mem_filter,k2]
 simp
end
section
def u0p:Nat:=1099511627776
theorem Q.same {T:Ty} {S:Type} {q:T.den×T.den→Option Bool} {W:List T.den×List T.den×Int→Option (Unit⊕Bool)}
 (hW:∀x,W x=(bif (decide (x.2.2<(x.1.length:Int))) then(bif (y4q x.2.2 x.1.length) then(bif (y4q x.2.2 x.2.1.length) then
  ((q ((rdL T x.1 (x.2.2).toNat),(rdL T x.2.1 (x.2.2).toNat))).bind fun(y1:Bool)=>(bif (!y1) then(some (.inr false)) else(W (x.1,(x.2.1,(IntKind.i64.wrap (x.2.2+(1:Int)))))))) else none) else none) else(some (.inl ()))))
 (l:List T.den) (hl:l.length≤1099511627776) (hq:∀x∈l,q (x,x)=some true):W (l,(l,(0:Int)))=some (.inl ()):=
 r3t W l.length (fun(_:Unit) i=>(l,l,i)) (fun _ _=> .inl ()) (fun _ _=>True)
  (fun a _=>by
   rw[hW]
   simp only[u0b,Nat.lt_irrefl,decide_false,cond_false])
  (fun i a h _=> .inr ⟨(),trivial,rfl,by
   rw[hW]
   simp only[u0b,h,decide_true,cond_true,y7t h,zTn,y8k h,hq _ (List.getElem_mem h),zOb,Bool.not_true,cond_false]
   rw[y7l (by omega)]⟩) 0 () (by omega) trivial
theorem Q.size {T:Ty} {q:T.den×Int→Option Int} {W:List T.den×Int×Int→Option (Int⊕Int)}
 (hW:∀x,W x=(bif (decide (x.2.2<(x.1.length:Int))) then(bif (y4q x.2.2 x.1.length) then((q ((rdL T x.1 (x.2.2).toNat),x.2.1)).bind fun(y1:Int)=>
  (bif (decide (y1<(0:Int))) then(some (.inr (-1:Int))) else(W (x.1,(y1,(IntKind.i64.wrap (x.2.2+(1:Int)))))))) else none) else(some (.inl x.2.1))))
 (l:List T.den) (hl:l.length≤1099511627776) (hq:∀x∈l,∀c:Int,0≤c→c≤1048576→ ∃y,q (x,c)=some y∧if(T.wt x:Int)≤c then y=c - T.wt x else y<0) (b:Int) (hb:0≤b) (hb2:b≤1048576):
 ((W (l,(b,(0:Int)))).bind fun r=>match r with
  | .inl o=>some o
  | .inr z=>some z)=some (szr b (l.map T.wt).sum):=by
 have key:=r3t W l.length (fun(c:Int) i=>(l,c,i)) (fun i c=>if(((l.drop i).map T.wt).sum:Int)≤c then .inl (c - ((l.drop i).map T.wt).sum) else .inr (-1)) (fun _ c=>0≤c∧c≤1048576)
  (fun c hc=>by
   rw[hW]
   simp only[u0b,Nat.lt_irrefl,decide_false,cond_false,List.drop_length,List.map_nil,List.sum_nil]
   rw[if_pos (by simpa using hc.1)]
   simp)
  (fun i c h hc=>by
   have hd:l.drop i=l[i] ::l.drop (i+1):=List.drop_eq_getElem_cons h
   obtain⟨y,hy,hy2⟩:=hq _ (List.getElem_mem h) c hc.1 hc.2
   rw[hW,hd]
   simp only[u0b,h,decide_true,cond_true,y7t h,zTn,y8k h,hy,zOb,List.map_cons,List.sum_cons]
   by_cases hw:(T.wt l[i] :Int)≤c
   ·right
    rw[if_pos hw] at hy2
    subst hy2
    refine⟨c - T.wt l[i],⟨by omega,by omega⟩,?_,?_⟩
    ·by_cases h2:(((l.drop (i+1)).map T.wt).sum:Int)≤c - T.wt l[i]
     ·rw[if_pos h2,if_pos (by omega)];congr 1;omega
     ·rw[if_neg h2,if_neg (by omega)]
    ·have:decide (c - (T.wt l[i] :Int)<0)=false:=by simp;omega
     rw[this,cond_false,y7l (by omega)]
   ·left
    rw[if_neg hw] at hy2
    have:decide (y<0)=true:=by simp;omega
    rw[this,if_neg (by omega)]
    rfl) 0 b (by omega) ⟨hb,hb2⟩
 have key:W (l,b,0)=_:=key
 rw[key]
 simp only[List.drop_zero,zOb]
 unfold szr
 by_cases h:((l.map T.wt).sum:Int)≤b
 ·rw[if_pos h,if_pos h]
 ·rw[if_neg h,if_neg h]
theorem q5b {α:Type} {f:α→Nat} {l:List α} {x:α} (h:x∈l):f x≤(l.map f).sum:=by
 induction l with
 | nil=>cases h
 | cons y l ih=>
  simp only[List.map_cons,List.sum_cons]
  rcases List.mem_cons.mp h with rfl | h
  ·omega
  ·have:=ih h;omega
abbrev t9i:Ty:=(.pair .str .str)
abbrev u56:Ty:=(.pair .str (.pair .str .bool))
abbrev u0f:Ty:=(.pair .str (.pair .str (.pair .bool (.int .i64))))
abbrev o0u:Ty:=(.pair .str .str)
abbrev o5q:Ty:=(.pair .str .str)
abbrev p6o:Ty:=(.pair (.int .i64) .str)
abbrev o5r:Ty:=(.pair (.sl .str) (.sl p6o))
abbrev u1u:Ty:=(.pair (.int .i64) (.pair (.int .i64) (.pair (.int .i64) (.pair (.int .i64) (.pair (.sl t9i) (.pair (.sl u56) (.pair .bool .str)))))))
abbrev o0t:Ty:=(.pair (.sl u0f) (.pair (.sl u1u) (.pair (.sl u1u) (.pair (.int .i64) (.int .i64)))))
abbrev o27:Ty:=(.pair (.int .i64) (.pair u1u (.pair .str (.pair .bool o0t))))
abbrev o26:Ty:=(.pair o0t (.sl u1u))
end
section
abbrev u0d:=Int×Int×Int×Int×List (ByteArray×ByteArray)×List (ByteArray×ByteArray×Bool)×Bool×ByteArray
theorem u1q {n:Nat} (h:n≤1099511627776):Nat.ble n z7w=true:=Nat.ble_eq_true_of_le h
def inR (r:ByteArray×ByteArray) (k:ByteArray):Bool:= !y3c k r.1&&(y3c k r.2 || z7o k r.2)
theorem r7f (r:ByteArray×ByteArray) (k:ByteArray):t79 (r,k)=some (inR r k):=by
 rw[q20];unfold r1o inR;cases y3c k r.1<;>rfl
theorem q7x (r:ByteArray×ByteArray) (k:ByteArray):s2q (r,k)=some (inR r k):=by
 rw[q2m];unfold r1a inR;cases y3c k r.1<;>rfl
def s99 (r:List t9i.den) (w:List u56.den):Bool:=r.any fun x=>w.any fun y=>inR x y.1
def s5g (a b:List u56.den):Bool:=a.any fun x=>b.any fun y=>z7o x.1 y.1
end
section
theorem r96 {X R A:Type} (W:X→Option R) (n:Nat) (mk:A→Int→X) (v:Nat→A) (r:R) (hend:W (mk (v n) (n:Int))=some r)
 (hstep:∀i,i<n→W (mk (v i) (i:Int))=W (mk (v (i+1)) ((i+1:Nat):Int))):W (mk (v 0) 0)=some r:=by
 have:=r3t W n (fun(_:Unit) i=>mk (v i.toNat) i) (fun _ _=>r) (fun _ _=>True) (fun _ _=>by simpa using hend) (fun i a hi _=> .inr ⟨(),trivial,rfl,by
  have h:=hstep i hi
  have e:((i:Int)+1).toNat=i+1:=by omega
  simp only[zTn]
  exact h⟩) 0 () (Nat.zero_le _) trivial
 simpa using this
theorem p2b {α:Type} (p:α→Bool):∀(l a:List α),l.foldl (fun a x=>if p x=true then a++ [x] else a) a=a++l.filter p
 | [],a=>by simp
 | x::l,a=>by
  rw[List.foldl_cons,p2b p l]
  cases hc:p x<;>simp[hc]
abbrev u2j:=ByteArray×ByteArray×Bool×Int
def emp:ByteArray:=⟨#[]⟩
def q8c (l:List u2j) (k:ByteArray) (snap out:Int) (i:Nat):Int:=
 if z7o (rdL u0f l i).1 k=true∧(rdL u0f l i).2.2.2≤snap∧(out<0∨(rdL u0f l i).2.2.2 >(rdL u0f l out.toNat).2.2.2) then(i:Int) else out
def r49 (l:List u2j) (k:ByteArray) (snap:Int):Nat→Int
 | 0=> -1
 | n+1=>q8c l k snap (r49 l k snap n) n
def t2d (l:List u2j) (k:ByteArray) (snap:Int):Int:=r49 l k snap l.length
theorem r5a (l:List u2j) (k:ByteArray) (snap:Int):∀n,-1≤r49 l k snap n∧r49 l k snap n<(n:Int)
 | 0=>by simp[r49]
 | n+1=>by
  have:=r5a l k snap n
  simp only[r49,q8c]
  split<;>omega
theorem r6y (l:List u2j) (k:ByteArray) (snap:Int): -1≤t2d l k snap∧t2d l k snap<(l.length:Int):=r5a l k snap l.length
theorem q1q (l:List u2j) (k:ByteArray) (snap:Int) (hl:l.length≤1099511627776):s18 (l,k,snap)=some (t2d l k snap):=by
 have L:=r96 t32 l.length (fun a i=>(l,k,snap,a,i)) (fun i=>r49 l k snap i) (.inl (t2d l k snap))
  (by rw[r3p];simp only[t7y,u0b,Nat.lt_irrefl,decide_false,cond_false];rfl)
  (fun i hi=>by
   have hr:=r5a l k snap i
   rw[r3p]
   simp only[t7y,u0b,hi,decide_true,cond_true,y7t hi,zTn,r49,q8c]
   rw[y7l (by omega)]
   cases h1:z7o (rdL u0f l i).1 k with
   | false=>simp[h1]
   | true=>
    by_cases h2:(rdL u0f l i).2.2.2≤snap
    ·by_cases h3:r49 l k snap i<0
     ·simp[h1,h2,h3]
     ·have hg:y4q (r49 l k snap i) l.length=true:=y7s.mpr ⟨by omega,by omega⟩
      by_cases h4:(rdL u0f l i).2.2.2 >(rdL u0f l (r49 l k snap i).toNat).2.2.2
      ·simp[h1,h2,h3,h4,hg]
      ·simp[h1,h2,h3,h4,hg]
    ·simp[h1,h2])
 have L:t32 (l,k,snap,-1,0)=_:=L
 rw[q80];unfold r70
 simp only[L,zOb]
theorem p1d (l:List u2j) (k:ByteArray) (snap:Int) (hl:l.length≤1099511627776):s5l (l,k,snap)=some (t2d l k snap):=by
 have L:=r96 t11 l.length (fun a i=>(l,k,snap,a,l,(l.length:Int),i)) (fun i=>r49 l k snap i) (.inl (t2d l k snap))
  (by rw[r0b];simp only[t51,u0b,Nat.lt_irrefl,decide_false,cond_false];rfl)
  (fun i hi=>by
   have hr:=r5a l k snap i
   rw[r0b]
   simp only[t51,u0b,hi,decide_true,cond_true,y7t hi,zTn,r49,q8c]
   rw[y7l (by omega)]
   cases h1:z7o (rdL u0f l i).1 k with
   | false=>simp[h1]
   | true=>
    by_cases h2:(rdL u0f l i).2.2.2≤snap
    ·by_cases h3:r49 l k snap i<0
     ·simp[h1,h2,h3]
     ·have hg:y4q (r49 l k snap i) l.length=true:=y7s.mpr ⟨by omega,by omega⟩
      by_cases h4:(rdL u0f l i).2.2.2 >(rdL u0f l (r49 l k snap i).toNat).2.2.2
      ·simp[h1,h2,h3,h4,hg]
      ·simp[h1,h2,h3,h4,hg]
    ·simp[h1,h2])
 have L:t11 (l,k,snap,-1,l,(l.length:Int),0)=_:=L
 rw[q57];unfold r4j
 simp only[L,zOb]
def s94 (l:List u2j) (k:ByteArray) (snap:Int):ByteArray×Bool:=
 if t2d l k snap<0∨(rdL u0f l (t2d l k snap).toNat).2.2.1=true then(emp,false) else((rdL u0f l (t2d l k snap).toNat).2.1,true)
theorem p59 (l:List u2j) (k:ByteArray) (snap:Int) (y:Int) (hy:y=t2d l k snap):
 (((bif decide (y<0) then some true else(bif y4q y l.length then some (rdL u0f l y.toNat).2.2.1 else none)):Option Bool).bind fun j2=>(bif j2 then some ((⟨#[]⟩:ByteArray),false) else(bif y4q y l.length then some ((rdL u0f l y.toNat).2.1,true) else none)))=some (s94 l k snap):=by
 subst hy
 have hr:=r6y l k snap
 unfold s94
 by_cases h:t2d l k snap<0
 ·simp[h,emp]
 ·have hg:y4q (t2d l k snap) l.length=true:=y7s.mpr ⟨by omega,by omega⟩
  cases h2:(rdL u0f l (t2d l k snap).toNat).2.2.1<;>simp[h,hg,h2,emp]
theorem r94 (l:List u2j) (k:ByteArray) (snap:Int) (hl:l.length≤1099511627776):t94 (l,k,snap)=some (s94 l k snap):=by
 rw[q6n];unfold r4z
 simp only[q1q l k snap hl,zOb]
 exact p59 l k snap _ rfl
theorem q1m (l:List ByteArray):(q1l l).length≤l.length:=by
 have:=z6h (y4i l)
 rw[p6b] at this
 exact this
theorem p1c (k:ByteArray) (r:ByteArray×ByteArray) (l:List u2j) (j:Int) (out:List ByteArray) (ho:out.length≤1099511627775):
 t0o (l,r,out,j,k, [],0)=some (.inl (l,r,out,j,k,out.filter fun x=>y3c x k)):=by
 have L:=s1j t0o out (fun a i=>(l,r,out,j,k,a,i)) (fun x=>y3c x k) (fun x=>x) (fun a=> .inl (l,r,out,j,k,a)) (by omega)
  (fun a _=>by rw[s7y];simp only[t40,u0b,Nat.lt_irrefl,decide_false,cond_false])
  (fun i hi a ha=>by
   rw[s7y];simp only[t40,u0b,hi,decide_true,cond_true,y7t hi,zTn,y8k (t:=Ty.str) hi,List.length_singleton,u1q (show a.length+1≤1099511627776 by omega)]
   rw[y7l (by omega)])
 rw[List.map_id'] at L
 exact L
theorem q9d (k:ByteArray) (r:ByteArray×ByteArray) (l:List u2j) (j:Int) (out a0:List ByteArray) (ho:out.length+a0.length≤1099511627775):
 u8o (l,r,out,j,k,a0,0)=some (.inl (l,r,j,a0++out.filter fun x=> !(y3c x k || z7o x k))):=by
 have L:=t59 u8o out (fun a i=>(l,r,out,j,k,a,i)) (fun a x=>if(!(y3c x k || z7o x k))=true then a++ [x] else a) (fun a=> .inl (l,r,j,a)) (fun i a=>a.length≤a0.length+i)
  (fun a _=>by rw[s4x];simp only[t26,u0b,Nat.lt_irrefl,decide_false,cond_false])
  (fun i hi a ha=>by
   rw[s4x];simp only[t26,u0b,hi,decide_true,cond_true,y7t hi,zTn,y8k (t:=Ty.str) hi,List.length_singleton,u1q (show a.length+1≤1099511627776 by omega)]
   rw[y7l (by omega)]
   cases hc:(!(y3c out[i] k || z7o out[i] k)) with
   | true=>simp;omega
   | false=>simp;omega) a0 (by simp)
 rw[p2b (fun x=> !(y3c x k || z7o x k))] at L
 exact L
theorem p7d (k:ByteArray) (l:List ByteArray):(p4q k l).length≤l.length+1:=by
 unfold p4q
 have h:(fun x=> !(y3c x k || z7o x k))=fun x=>y3c k x:=by funext x;exact q89
 rw[h]
 have:(l.filter fun x=>y3c x k).length+(l.filter fun x=>y3c k x).length≤l.length:=by
  induction l with
  | nil=>simp
  | cons x l ih=>
   simp only[List.filter_cons]
   cases h1:y3c x k with
   | true=>rw[s5t h1];simp;omega
   | false=>cases h2:y3c k x<;>simp<;>omega
 simp
 omega
theorem q7y (l:List u2j) (r:ByteArray×ByteArray) (hl:l.length≤500000000000):t8f (l,r)=some ((q1l (l.map fun v=>v.1)).filter fun k=>inR r k):=by
 have L:=t59 t49 l (fun a i=>(l,r,a,i)) (fun a v=>if inR r v.1=true then p4q v.1 a else a) (fun a=> .inl a) (fun i a=>a.length≤i)
  (fun a _=>by rw[s7x];simp only[t4z,u0b,Nat.lt_irrefl,decide_false,cond_false])
  (fun i hi a ha=>by
   rw[s7x];simp only[t4z,u0b,hi,decide_true,cond_true,y7t hi,zTn,y8k (t:=u0f) hi,r7f,zOb]
   cases hc:inR r l[i].1 with
   | false=>
    simp only[Bool.not_false,cond_true,Bool.false_eq_true,if_false]
    rw[y7l (by omega)]
    exact⟨by omega,rfl⟩
   | true=>
    have hlow:(a.filter fun x=>y3c x l[i].1).length≤a.length:=List.length_filter_le _ _
    simp only[Bool.not_true,cond_false,if_true,p1c l[i].1 r l (i:Int) a (by omega),zOb,List.length_singleton,u1q (show(a.filter fun x=>y3c x l[i].1).length+1≤1099511627776 by omega),cond_true,
     q9d l[i].1 r l (i:Int) a (a.filter (fun x=>y3c x l[i].1)++ [l[i].1]) (by simp;omega)]
    rw[y7l (by omega)]
    exact⟨Nat.le_trans (p7d _ _) (by omega),rfl⟩) [] (by simp)
 rw[q3n];unfold r2k
 simp only[L,zOb]
 have hfold:∀(m:List u2j) (a:List ByteArray),m.foldl (fun a v=>if inR r v.1=true then p4q v.1 a else a) a=((m.map fun v=>v.1).filter fun k=>inR r k).foldl (fun a k=>p4q k a) a:=by
  intro m
  induction m with
  | nil=>intro a;rfl
  | cons x m ih=>
   intro a
   rw[List.foldl_cons,ih]
   cases hc:inR r x.1<;>simp[hc]
 rw[hfold,p9i]
def s0z (l:List u2j) (r:ByteArray×ByteArray) (snap:Int):List (ByteArray×ByteArray):=
 ((q1l (l.map fun v=>v.1)).filter fun k=>(s94 l k snap).2&&inR r k).map fun k=>(k,(s94 l k snap).1)
theorem r92 (l:List u2j) (r:ByteArray×ByteArray) (snap:Int) (hl:l.length≤500000000000):t6w (l,r,snap)=some (s0z l r snap):=by
 obtain⟨ks,hks⟩:∃ks,ks=(q1l (l.map fun v=>v.1)).filter fun k=>inR r k:=⟨_,rfl⟩
 have hkl:ks.length≤l.length:=by
  rw[hks]
  refine Nat.le_trans (List.length_filter_le _ _) (Nat.le_trans (q1m _) (by simp))
 have L:=s1j t6d ks (fun a i=>(l,snap,a,ks,i)) (fun k=>(s94 l k snap).2) (fun k=>(k,(s94 l k snap).1)) (fun a=> .inl a) (by omega)
  (fun a _=>by rw[r0i];simp only[t56,u0b,Nat.lt_irrefl,decide_false,cond_false])
  (fun i hi a ha=>by
   rw[r0i];simp only[t56,u0b,hi,decide_true,cond_true,y7t hi,zTn,y8k (t:=Ty.str) hi,r94 l _ snap (show l.length≤1099511627776 by omega),zOb,List.length_singleton,u1q (show a.length+1≤1099511627776 by omega)]
   rw[y7l (by omega)])
 rw[q6l];unfold r4x
 simp only[q7y l r hl,zOb]
 rw[←hks]
 simp only[L,zOb]
 rw[hks,List.filter_filter]
 rfl
theorem p35 (l:List u2j) (r:ByteArray×ByteArray) (snap:Int):(s0z l r snap).length≤l.length:=by
 unfold s0z
 rw[List.length_map]
 refine Nat.le_trans (List.length_filter_le _ _) (Nat.le_trans (q1m _) (by simp))
end
section
theorem r0u {E:Type} (p:E→Bool):∀(l:List E),(l.takeWhile p).length≤l.length∧(∀(i:Nat) (h:i<l.length),i<(l.takeWhile p).length→p l[i] =true)∧
 (∀(h:(l.takeWhile p).length<l.length),p l[(l.takeWhile p).length] =false)∧l.takeWhile p=l.take (l.takeWhile p).length∧l.dropWhile p=l.drop (l.takeWhile p).length
 | [] =>⟨Nat.le_refl _,fun i h=>absurd h (Nat.not_lt_zero i),fun h=>absurd h (Nat.not_lt_zero _),rfl,rfl⟩
 | x::l=>by
  obtain⟨h1,h2,h3,h4,h5⟩:=r0u p l
  cases hp:p x with
  | false=>
   simp only[List.takeWhile_cons,hp,List.dropWhile_cons,Bool.false_eq_true,if_false,List.length_nil]
   exact⟨Nat.zero_le _,fun i _ h=>absurd h (Nat.not_lt_zero i),fun _=>hp,rfl,rfl⟩
  | true=>
   simp only[List.takeWhile_cons,hp,List.dropWhile_cons,if_true,List.length_cons]
   refine⟨by omega,fun i h k=> ?_,fun h=> ?_,?_,?_⟩
   ·cases i with
    | zero=>exact hp
    | succ i=>simpa using h2 i (by simpa using h) (by omega)
   ·simpa using h3 (by omega)
   ·rw[List.take_succ_cons,←h4]
   ·rw[List.drop_succ_cons,←h5]
theorem o0s {X R E:Type} (W:X→Option R) (l:List E) (mk:List E→Int→X) (p:E→Bool) (fin:List E→Int→R)
 (hend:W (mk l (l.length:Int))=some (fin l (l.length:Int)))
 (hstep:∀(i:Nat) (h:i<l.length),W (mk (l.take i) (i:Int))=bif p l[i] then W (mk (l.take (i+1)) ((i+1:Nat):Int)) else some (fin (l.take i) (i:Int))):
 W (mk [] 0)=some (fin (l.takeWhile p) ((l.takeWhile p).length:Int)):=by
 obtain⟨h1,h2,h3,h4,_⟩:=r0u p l
 have:=r3t W (l.takeWhile p).length (fun(a:List E) i=>mk a i) (fun _ _=>fin (l.takeWhile p) ((l.takeWhile p).length:Int)) (fun i a=>a=l.take i)
  (fun a ha=>by
   rw[ha]
   by_cases hk:(l.takeWhile p).length<l.length
   ·rw[hstep _ hk,h3 hk,cond_false,←h4]
   ·have e:(l.takeWhile p).length=l.length:=by omega
    have e2:l.takeWhile p=l:=by rw[h4,e];exact List.take_length
    rw[e2,List.take_length]
    exact hend)
  (fun i a hi ha=> .inr ⟨_,rfl,rfl,by rw[ha,hstep i (by omega),h2 i (by omega) hi,cond_true]⟩) 0 [] (Nat.zero_le _) (by simp)
 exact this
theorem p9a {X R E:Type} (W:X→Option R) (l:List E) (mk:Int→X) (p:E→Bool) (yes:Int→R) (no:R)
 (hend:W (mk (l.length:Int))=some no)
 (hstep:∀(i:Nat) (h:i<l.length),W (mk (i:Int))=bif p l[i] then W (mk ((i+1:Nat):Int)) else some (yes (i:Int))):
 W (mk 0)=some (if(l.takeWhile p).length<l.length then yes ((l.takeWhile p).length:Int) else no):=by
 obtain⟨h1,h2,h3,_,_⟩:=r0u p l
 have:=r3t W (l.takeWhile p).length (fun(_:Unit) i=>mk i) (fun _ _=>if(l.takeWhile p).length<l.length then yes ((l.takeWhile p).length:Int) else no) (fun _ _=>True)
  (fun a _=>by
   by_cases hk:(l.takeWhile p).length<l.length
   ·rw[hstep _ hk,h3 hk,cond_false,if_pos hk]
   ·have e:(l.takeWhile p).length=l.length:=by omega
    rw[if_neg hk,e]
    exact hend)
  (fun i a hi _=> .inr ⟨(),trivial,rfl,by rw[hstep i (by omega),h2 i (by omega) hi,cond_true]⟩) 0 () (Nat.zero_le _) trivial
 exact this
def u71 (v y:u2j):Bool:=y3c y.1 v.1 || (z7o y.1 v.1&&decide (y.2.2.2≤v.2.2.2))
def p2k (l:List u2j) (v:u2j):List u2j:=l.takeWhile (u71 v)++ [v] ++l.dropWhile (u71 v)
def t5y (l:List u2j) (ws:List u56.den) (cs:Int):List u2j:=ws.foldl (fun l w=>p2k l (w.1,w.2.1,w.2.2,cs)) l
theorem q62 (l:List u2j) (v:u2j):(p2k l v).length=l.length+1:=by
 have:l.length=(l.takeWhile (u71 v)).length+(l.dropWhile (u71 v)).length:=by rw[←List.length_append,List.takeWhile_append_dropWhile]
 simp[p2k]
 omega
theorem q1u:∀(ws:List u56.den) (l:List u2j) (cs:Int),(t5y l ws cs).length=l.length+ws.length
 | [],l,cs=>rfl
 | w::ws,l,cs=>by
  have:=q1u ws (p2k l (w.1,w.2.1,w.2.2,cs)) cs
  unfold t5y at this ⊢
  rw[List.foldl_cons,this,q62]
  simp
  omega
theorem p9k (l:List u2j) (v:u2j):p2k l v=l.take (l.takeWhile (u71 v)).length++ [v] ++l.drop (l.takeWhile (u71 v)).length:=by
 obtain⟨_,_,_,h4,h5⟩:=r0u (u71 v) l
 unfold p2k
 rw[←h4,←h5]
theorem p21 (a b:ByteArray):t3x (a,b)=some (if y3c a b then -1 else if z7o a b then 0 else 1):=by
 have ns:∀x,t1p x=some false:=fun x=>by
  rw[r5f];unfold s1k
  have:z7o x x=true:=by simp[z7o]
  rw[this];rfl
 rw[r0y];unfold t9f
 simp only[ns,zOb,cond_false]
 cases y3c a b<;>cases z7o a b<;>rfl
theorem p86 (a b:Int):t7g (a,b)=some (if a<b then -1 else if a >b then 1 else 0):=by
 have ns:∀x,t6n x=some false:=fun x=>by
  rw[q0l];unfold s8h
  simp
 rw[r6h];unfold s3a
 simp only[ns,zOb,cond_false]
 by_cases h:a<b
 ·simp[h]
 ·by_cases h2:a >b<;>simp[h,h2]
theorem p87 (y v:u2j):t3y (y,v)=some (!u71 v y):=by
 rw[r0z];unfold t9g
 rw[s9i];unfold t8l
 simp only[p21,zOb]
 unfold u71
 cases h1:y3c y.1 v.1 with
 | true=>simp
 | false=>
  cases h2:z7o y.1 v.1 with
  | false=>simp
  | true=>
   simp only[Bool.false_eq_true,if_false,if_true,decide_true,Bool.not_true,cond_false,p86,zOb,Bool.false_or,Bool.true_and]
   by_cases h3:y.2.2.2<v.2.2.2
   ·have:y.2.2.2≤v.2.2.2:=by omega
    simp[h3,this]
   ·by_cases h4:y.2.2.2 >v.2.2.2
    ·have: ¬y.2.2.2≤v.2.2.2:=by omega
     simp[h3,h4,this]
    ·have:y.2.2.2≤v.2.2.2:=by omega
     simp[h3,h4,this]
theorem p42 (l:List u2j) (v:u2j) (hl:l.length≤1099511627775):u1p (l,v)=some (if(l.takeWhile (u71 v)).length<l.length then((l.takeWhile (u71 v)).length:Int) else -1):=by
 have L:=p9a u0s l (fun i=>(l,v,(l.length:Int),i)) (u71 v) (fun i=> .inr i) (.inl ())
  (by rw[u18];simp only[u0r,u0b,Nat.lt_irrefl,decide_false,cond_false])
  (fun i hi=>by
   rw[u18]
   simp only[u0r,u0b,hi,decide_true,cond_true,y7t hi,zTn,y8k (t:=u0f) hi,p87,zOb]
   rw[y7l (by omega)]
   cases u71 v l[i] <;>rfl)
 rw[u62];unfold u2g
 simp only[L,zOb]
 by_cases h:(l.takeWhile (u71 v)).length<l.length
 ·simp only[if_pos h]
 ·simp only[if_neg h]
theorem q4c (l:List u2j) (v:u2j) (k:Nat) (hk:k≤l.length) (hl:l.length≤1099511627775):u3n (l,(k:Int), [v])=some (l.take k++ [v] ++l.drop k):=by
 rw[t9x]
 unfold y2q
 have h1:decide ((0:Int)≤(k:Int))=true:=by simp
 have h2:decide ((k:Int)≤(l.length:Int))=true:=by simpa using hk
 simp only[h1,h2,u1q (show l.length+1≤1099511627776 by omega),Bool.true_and,List.length_singleton,zTn]
 rfl
theorem r8n (l:List u2j) (ws:List u56.den) (cs:Int) (hl:l.length+ws.length≤1000000000000):t1q (l,ws,cs)=some (t5y l ws cs):=by
 have L:=t59 u8d ws (fun a i=>(cs,a,ws,(ws.length:Int),i)) (fun l w=>p2k l (w.1,w.2.1,w.2.2,cs)) (fun a=> .inl a) (fun i a=>a.length=l.length+i)
  (fun a _=>by rw[t9q];simp only[u79,u0b,Nat.lt_irrefl,decide_false,cond_false])
  (fun i hi a ha=>by
   have hal:a.length≤1099511627775:=by omega
   rw[t9q]
   simp only[u79,u0b,hi,decide_true,cond_true,y7t hi,zTn,y8k (t:=u56) hi,p42 a _ hal,zOb]
   refine⟨by rw[q62];omega,?_⟩
   obtain⟨t1,_⟩:=r0u (u71 (ws[i].1,ws[i].2.1,ws[i].2.2,cs)) a
   rw[p9k,y7l (by omega)]
   by_cases hk:(a.takeWhile (u71 (ws[i].1,ws[i].2.1,ws[i].2.2,cs))).length<a.length
   ·rw[if_pos hk]
    have:decide (((a.takeWhile (u71 (ws[i].1,ws[i].2.1,ws[i].2.2,cs))).length:Int)<0)=false:=by simp
    simp only[this,cond_false,q4c a _ _ t1 hal,zOb]
   ·rw[if_neg hk]
    have e:(a.takeWhile (u71 (ws[i].1,ws[i].2.1,ws[i].2.2,cs))).length=a.length:=by omega
    have:decide ((-1:Int)<0)=true:=by decide
    simp only[this,cond_true,q4c a _ _ (Nat.le_refl _) hal,zOb]
    rw[e]) l (by simp)
 rw[r5g];unfold s1l
 simp only[u1q (show l.length≤1099511627776 by omega),cond_true,L,zOb]
 rfl
theorem p61 (ws:List u56.den) (cs:Int) (l:List u2j) (j:Int) (v:u2j) (hl:l.length≤1000000000000):
 u6b (ws,cs,l,j,v, [],0)=some (.inl (ws,cs,l,j,v,l.takeWhile (u71 v),((l.takeWhile (u71 v)).length:Int))):=
 o0s u6b l (fun a i=>(ws,cs,l,j,v,a,i)) (u71 v) (fun a i=> .inl (ws,cs,l,j,v,a,i))
  (by rw[t9s];simp only[u8b,u0b,Nat.lt_irrefl,decide_false,cond_false,zOb])
  (fun i hi=>by
   rw[t9s]
   have hb:((l.take i).length+ [l[i]].length)≤1099511627776:=by simp;omega
   simp only[u8b,u0b,hi,decide_true,cond_true,y7t hi,zTn,y8k (t:=u0f) hi,u1q hb]
   rw[y7l (by omega),List.take_succ_eq_append_getElem hi]
   unfold u71
   cases h1:y3c l[i].1 v.1 with
   | true=>simp
   | false=>
    cases h2:z7o l[i].1 v.1 with
    | false=>simp
    | true=>
     by_cases h3:l[i].2.2.2≤v.2.2.2<;>simp[h3])
theorem r8o (l:List u2j) (ws:List u56.den) (cs:Int) (hl:l.length+ws.length≤1000000000000):t1r (l,ws,cs)=some (t5y l ws cs):=by
 have L:=t59 u8e ws (fun a i=>(ws,cs,a,i)) (fun l w=>p2k l (w.1,w.2.1,w.2.2,cs)) (fun a=> .inl a) (fun i a=>a.length=l.length+i)
  (fun a _=>by rw[t9r];simp only[u8a,u0b,Nat.lt_irrefl,decide_false,cond_false])
  (fun i hi a ha=>by
   have hal:a.length≤1000000000000:=by omega
   rw[t9r]
   simp only[u8a,u0b,hi,decide_true,cond_true,y7t hi,zTn,y8k (t:=u56) hi,p61 ws cs a _ _ hal,zOb]
   obtain⟨v,hv⟩:∃v:u2j,v=(ws[i].1,ws[i].2.1,ws[i].2.2,cs):=⟨_,rfl⟩
   rw[←hv]
   obtain⟨t1,_,_,t4,t5⟩:=r0u (u71 v) a
   refine⟨by rw[q62];omega,?_⟩
   have g1:decide ((0:Int)≤((a.takeWhile (u71 v)).length:Int))=true:=by simp
   have g2:decide (((a.takeWhile (u71 v)).length:Int)≤(a.length:Int))=true:=by simpa using t1
   have g3:decide ((a.length:Int)≤(a.length:Int))=true:=by simp
   have b1:(a.takeWhile (u71 v)).length+ [v].length≤1099511627776:=by simp;omega
   have b2:(a.takeWhile (u71 v)++ [v]).length+(a.drop (a.takeWhile (u71 v)).length).length≤1099511627776:=by simp;omega
   simp only[g1,g2,g3,Bool.true_and,u1q b1,cond_true,List.take_length,u1q b2]
   rw[y7l (by omega),←t5]
   rfl) l (by simp)
 rw[r5i];unfold s1n
 simp only[List.length_nil,Nat.zero_add,List.nil_append,u1q (show l.length≤1099511627776 by omega),cond_true,L,zOb]
 rfl
end
section
abbrev PrT:=ByteArray×ByteArray
theorem p5v {a b:List PrT} (h:a.length=b.length):(bif (a.zip b).any (fun p=> !(z7o p.1.1 p.2.1&&(z7o p.1.2 p.2.2&&true))) then false else true)=decide (a=b):=by
 induction a generalizing b with
 | nil=>
  cases b with
  | nil=>rfl
  | cons _ _=>simp at h
 | cons x a ih=>
  cases b with
  | nil=>simp at h
  | cons y b=>
   have ih:=ih (b:=b) (by simpa using h)
   simp only[List.zip_cons_cons,List.any_cons]
   by_cases h1:x.1=y.1
   ·by_cases h2:x.2=y.2
    ·have hxy:x=y:=Prod.ext h1 h2
     subst hxy
     rw[y6l,y6l]
     simp only[Bool.and_self,Bool.not_true,Bool.false_or,ih]
     simp
    ·have:=p1t.mpr h2
     rw[this]
     have hne: ¬(x::a=y::b):=fun e=>h2 (by injection e with e;rw[e])
     simp[hne]
   ·have:=p1t.mpr h1
    rw[this]
    have hne: ¬(x::a=y::b):=fun e=>h1 (by injection e with e;rw[e])
    simp[hne]
end
section
theorem q78 (r:List t9i.den) (w:List u56.den) (hr:r.length≤u0p) (hw:w.length≤u0p):s2y (r,w)=some (s99 r w):=by
 unfold u0p at hr hw
 have inner:∀(i:Nat) (hi:i<r.length),t0j (r,w,(i:Int),0)=some (bif w.any (fun y=>inR r[i] y.1) then .inr true else .inl (r,w,(i:Int))):=fun i hi=>
  s47 t0j w (fun j=>(r,w,(i:Int),j)) (fun y=>inR r[i] y.1) _ _ (by
   rw[s7t];simp only[t4w,u0b,Nat.lt_irrefl,decide_false,cond_false]) (fun j hj=>by
   rw[s7t];simp only[t4w,u0b,hj,decide_true,cond_true,y7t hi,y7t hj,zTn,y8k hi,y8k hj,r7f,zOb]
   rw[y7l (by omega)])
 have outer:=s47 t48 r (fun i=>(r,w,i)) (fun x=>w.any fun y=>inR x y.1) (.inr true) (.inl ()) (by
  rw[s7s];simp only[t4v,u0b,Nat.lt_irrefl,decide_false,cond_false]) (fun i hi=>by
  rw[s7s];simp only[t4v,u0b,hi,decide_true,cond_true,inner i hi,zOb]
  have ws:=y7l (i:=i) (by omega)
  cases w.any fun y=>inR r[i] y.1<;>simp only[cond_true,cond_false,ws])
 rw[q3a];unfold r1y
 simp only[outer,zOb]
 unfold s99
 cases r.any fun x=>w.any fun y=>inR x y.1<;>rfl
theorem p29 (r w:List u56.den) (hr:r.length≤u0p) (hw:w.length≤u0p):s16 (r,w)=some (s5g r w):=by
 unfold u0p at hr hw
 have inner:∀(i:Nat) (hi:i<r.length),t31 (r,w,(i:Int),0)=some (bif w.any (fun y=>z7o r[i].1 y.1) then .inr true else .inl (r,w,(i:Int))):=fun i hi=>
  s47 t31 w (fun j=>(r,w,(i:Int),j)) (fun y=>z7o r[i].1 y.1) _ _ (by
   rw[r3m];simp only[t7v,u0b,Nat.lt_irrefl,decide_false,cond_false]) (fun j hj=>by
   rw[r3m];simp only[t7v,u0b,hj,decide_true,cond_true,y7t hi,y7t hj,zTn,y8k hi,y8k hj,zOb]
   rw[y7l (by omega)])
 have outer:=s47 t72 r (fun i=>(r,w,i)) (fun x=>w.any fun y=>z7o x.1 y.1) (.inr true) (.inl ()) (by
  rw[r3l];simp only[t7u,u0b,Nat.lt_irrefl,decide_false,cond_false]) (fun i hi=>by
  rw[r3l];simp only[t7u,u0b,hi,decide_true,cond_true,inner i hi,zOb]
  have ws:=y7l (i:=i) (by omega)
  cases w.any fun y=>z7o r[i].1 y.1<;>simp only[cond_true,cond_false,ws])
 rw[q8w];unfold r7w
 simp only[outer,zOb]
 unfold s5g
 cases r.any fun x=>w.any fun y=>z7o x.1 y.1<;>rfl
theorem q77 (r:List t9i.den) (w:List u56.den) (hr:r.length≤u0p) (hw:w.length≤u0p):s2r (r,w)=some (s99 r w):=by
 unfold u0p at hr hw
 have inner:∀(i:Nat) (hi:i<r.length),u99 (w,r[i],r,(r.length:Int),(i:Int),w,(w.length:Int),0)=some (bif w.any (fun y=>inR r[i] y.1) then .inr true else .inl (w,r,(r.length:Int),(i:Int))):=fun i hi=>
  s47 u99 w (fun j=>(w,r[i],r,(r.length:Int),(i:Int),w,(w.length:Int),j)) (fun y=>inR r[i] y.1) _ _ (by
   rw[s7c];simp only[t4h,u0b,Nat.lt_irrefl,decide_false,cond_false]) (fun j hj=>by
   rw[s7c];simp only[t4h,u0b,hj,decide_true,cond_true,y7t hi,y7t hj,zTn,y8k hi,y8k hj,q7x,zOb]
   rw[y7l (by omega)])
 have outer:=s47 t43 r (fun i=>(w,r,(r.length:Int),i)) (fun x=>w.any fun y=>inR x y.1) (.inr true) (.inl ()) (by
  rw[s7b];simp only[t4g,u0b,Nat.lt_irrefl,decide_false,cond_false]) (fun i hi=>by
  rw[s7b];simp only[t4g,u0b,hi,decide_true,cond_true,y7t hi,zTn,y8k hi,inner i hi,zOb]
  have ws:=y7l (i:=i) (by omega)
  cases w.any fun y=>inR r[i] y.1<;>simp only[cond_true,cond_false,ws])
 rw[q2r];unfold r1f
 simp only[outer,zOb]
 unfold s99
 cases r.any fun x=>w.any fun y=>inR x y.1<;>rfl
theorem p28 (r w:List u56.den) (hr:r.length≤u0p) (hw:w.length≤u0p):s13 (r,w)=some (s5g r w):=by
 unfold u0p at hr hw
 have inner:∀(i:Nat) (hi:i<r.length),t30 (w,r[i],r,(r.length:Int),(i:Int),w,(w.length:Int),0)=some (bif w.any (fun y=>z7o r[i].1 y.1) then .inr true else .inl (w,r,(r.length:Int),(i:Int))):=fun i hi=>
  s47 t30 w (fun j=>(w,r[i],r,(r.length:Int),(i:Int),w,(w.length:Int),j)) (fun y=>z7o r[i].1 y.1) _ _ (by
   rw[r3j];simp only[t7s,u0b,Nat.lt_irrefl,decide_false,cond_false]) (fun j hj=>by
   rw[r3j];simp only[t7s,u0b,hj,decide_true,cond_true,y7t hi,y7t hj,zTn,y8k hi,y8k hj,zOb]
   rw[y7l (by omega)])
 have outer:=s47 t70 r (fun i=>(w,r,(r.length:Int),i)) (fun x=>w.any fun y=>z7o x.1 y.1) (.inr true) (.inl ()) (by
  rw[r3i];simp only[t7r,u0b,Nat.lt_irrefl,decide_false,cond_false]) (fun i hi=>by
  rw[r3i];simp only[t7r,u0b,hi,decide_true,cond_true,y7t hi,zTn,y8k hi,inner i hi,zOb]
  have ws:=y7l (i:=i) (by omega)
  cases w.any fun y=>z7o r[i].1 y.1<;>simp only[cond_true,cond_false,ws])
 rw[q8n];unfold r7n
 simp only[outer,zOb]
 unfold s5g
 cases r.any fun x=>w.any fun y=>z7o x.1 y.1<;>rfl
def r72 (a b:u1u.den):Bool:=
 decide (a.2.1=3)&&decide (b.2.1=3)&& !decide (a.1=b.1)&&
 (decide (a.2.2.2.1≤b.2.2.1)&&s99 b.2.2.2.2.1 a.2.2.2.2.2.1 || decide (a.2.2.2.1<b.2.2.2.1)&&s5g a.2.2.2.2.2.1 b.2.2.2.2.2.1 || decide (b.2.2.2.1 >a.2.2.1)&&s99 a.2.2.2.2.1 b.2.2.2.2.2.1)
end
section
def o5u (l:List u1u.den) (j i:Nat):Bool:=r72 (rdL u1u l j) (rdL u1u l i)
def o09 (l:List u1u.den) (t:List Nat) (i:Nat):Bool:= !t.contains i&& !(List.range l.length).any (fun j=> !decide (j=i)&&(!t.contains j&&o5u l j i))
def p7q (l:List u1u.den) (t:List Nat):Option Nat:=(List.range l.length).find? (o09 l t)
def o1a (l:List u1u.den):Nat→List Nat→Option (List Nat)
 | 0,t=>some t
 | k+1,t=>match p7q l t with
  | none=>none
  | some i=>o1a l k (t++ [i])
def o3h (l:List u1u.den):Option (List Nat):=o1a l l.length []
section
variable {l:List u1u.den} (hw:∀x∈l,u1u.wt x≤u0p) (hl:l.length≤1048576)
include hw hl
end
end
section
def o3l (l:List u1u.den):Nat:=(l.map fun t=>t.2.2.2.2.2.1.length).sum
section
variable {l:List u1u.den} (hw:∀x∈l,u1u.wt x≤u0p) (hl:l.length+o3l l≤1048576) (hr:∀x∈l,x.2.2.2.2.1.length≤1048576)
include hl
include hr
include hw
end
end
section
abbrev Src:=List Int×Int×Int
def Src.ok (s:Src):Prop:=s.1.length≤1048576∧0≤s.2.1∧s.2.1≤(s.1.length:Int)
def Dr {T:Type} (F:Option (T×Src)) (p:T→Prop):Prop:= ∃y s,F=some (y,s)∧s.ok∧p y
theorem p19 (v:BitVec IntKind.i64.bits):0≤IntKind.i64.wrap ((v&&&BitVec.ofInt IntKind.i64.bits 255).toNat:Int)∧IntKind.i64.wrap ((v&&&BitVec.ofInt IntKind.i64.bits 255).toNat:Int)<256:=by
 have h:(v&&&BitVec.ofInt IntKind.i64.bits 255).toNat≤255:=by
  rw[BitVec.toNat_and]
  exact Nat.le_trans Nat.and_le_right (by decide)
 rw[y4y (by omega) (by omega)]
 omega
theorem r9v {s:Src} (h:s.ok):Dr (u70 s) (fun y=>0≤y∧y<256):=by
 obtain⟨l,p,z⟩:=s
 obtain⟨h1,h2,h3⟩:=h
 simp only at h1 h2 h3
 rw[q3e];unfold r2a
 simp only
 by_cases hp:p<(l.length:Int)
 ·have hg:y4q p l.length=true:=by simp[y4q,h2,hp]
  simp only[hp,decide_true,cond_true,hg]
  exact⟨_,_,rfl,⟨h1,by simp only;rw[y4y (by omega) (by omega)];omega,by simp only;rw[y4y (by omega) (by omega)];omega⟩,p19 _⟩
 ·simp only[hp,decide_false,cond_false]
  exact⟨_,_,rfl,⟨h1,h2,h3⟩,p19 _⟩
theorem p2v {a n:Int} (ha:0≤a) (hn:0<n):0≤Int.tmod a n∧Int.tmod a n<n:=⟨Int.tmod_nonneg _ ha,Int.tmod_lt_of_pos _ hn⟩
theorem s4z {s:Src} (h:s.ok) {n:Int} (hn:0<n):Dr (u2c (s,n)) (fun y=>0≤y∧y<n):=by
 rw[q09];unfold s85
 have h0:decide (n≤0)=false:=by simp;omega
 have h0' :(!decide (n=0))=true:=by simp;omega
 simp only[h0,cond_false,h0',cond_true]
 by_cases h1:n≤256
 ·simp only[h1,decide_true,cond_true]
  obtain⟨y,s1,e1,k1,r1⟩:=r9v h
  simp only[e1,zOb]
  exact⟨_,_,rfl,k1,p2v r1.1 hn⟩
 ·simp only[h1,decide_false,cond_false]
  obtain⟨y1,s1,e1,k1,r1⟩:=r9v h
  obtain⟨y2,s2,e2,k2,r2⟩:=r9v k1
  obtain⟨y3,s3,e3,k3,r3⟩:=r9v k2
  obtain⟨y4,s4,e4,k4,r4⟩:=r9v k3
  simp only[e1,e2,e3,e4,zOb]
  refine⟨_,_,rfl,k4,p2v ?_ hn⟩
  rw[y4y (n:=y1*16777216) (by omega) (by omega),y4y (n:=y2*65536) (by omega) (by omega),y4y (n:=y3*256) (by omega) (by omega),y4y (n:=y1*16777216+y2*65536) (by omega) (by omega),
   y4y (n:=y1*16777216+y2*65536+y3*256) (by omega) (by omega),y4y (n:=y1*16777216+y2*65536+y3*256+y4) (by omega) (by omega)]
  omega
theorem q5j {s:Src} (h:s.ok) {n:Int} (hn:0<n):Dr (u2d (s,n)) (fun _=>True):=by
 rw[q3g];unfold r2c
 obtain⟨y,s1,e1,k1,r1⟩:=s4z h hn
 simp only[e1,zOb]
 exact⟨_,_,rfl,k1,trivial⟩
theorem q5k {s:Src} (h:s.ok) {l:List ByteArray} (hl:0<l.length):Dr (u12 (s,l)) (fun y=>y∈l):=by
 rw[q3h];unfold r2d
 obtain⟨y,s1,e1,k1,r1⟩:=s4z h (n:=(l.length:Int)) (by omega)
 obtain⟨i,rfl⟩:∃i:Nat,y=(i:Int):=⟨y.toNat,by omega⟩
 have hi:i<l.length:=by omega
 simp only[e1,zOb,y7t hi,cond_true,zTn]
 exact⟨_,_,rfl,k1,by show rdL Ty.str l i∈l;have h:rdL Ty.str l i=l[i] :=y8k (t:=Ty.str) (l:=l) hi;rw[h];exact List.getElem_mem hi⟩
theorem o0p {l:List Int} (hl:l.length≤1048576):∃s:Src,s5s l=some s∧s.ok:=by
 have key:∀(d i:Nat) (z:Int),i≤l.length→l.length - i≤d→ ∃z',t16 (l,z,(i:Int))=some (.inl (l,z')):=by
  intro d
  induction d with
  | zero=>
   intro i z hi hd
   have:i=l.length:=by omega
   subst this
   rw[s09]
   simp only[t1z,u0b,Nat.lt_irrefl,decide_false,cond_false,zOb]
   exact⟨_,rfl⟩
  | succ d ih=>
   intro i z hi hd
   by_cases h:i<l.length
   ·rw[s09]
    simp only[t1z,u0b,h,decide_true,cond_true,zOb,y7t h]
    rw[y7l (by omega)]
    cases decide ((i:Int)<4000) with
    | false=>exact⟨_,rfl⟩
    | true=>exact ih (i+1) _ (by omega) (by omega)
   ·have:i=l.length:=by omega
    subst this
    rw[s09]
    simp only[t1z,u0b,Nat.lt_irrefl,decide_false,cond_false,zOb]
    exact⟨_,rfl⟩
 obtain⟨z',hz⟩:=key l.length 0 (IntKind.i64.wrap (77601+(l.length:Int))) (Nat.zero_le _) (by omega)
 rw[q6p];unfold r41
 have hz' :t16 (l,IntKind.i64.wrap (77601+(l.length:Int)),0)=_:=hz
 simp only[hz',zOb]
 exact⟨_,rfl,hl,Int.le_refl _,by simp only;omega⟩
def q7l (l:List u56.den) (w:u56.den):List u56.den:=l.filter (fun x=>y3c x.1 w.1)++ [w] ++l.filter (fun x=> !(y3c x.1 w.1 || z7o x.1 w.1))
theorem q5l (l:List u56.den) (w:u56.den) (hl:l.length≤1048576):s0t (l,w)=some (q7l l w):=by
 have L1:=s1j t3b l (fun a i=>(l,w,a,i)) (fun x=>y3c x.1 w.1) (fun x=>x) (fun a=> .inl (l,w,a)) (by omega) (fun a ha=>by
  rw[s4o];simp only[t2x,u0b,Nat.lt_irrefl,decide_false,cond_false]) (fun i hi a ha=>by
  have hc:Nat.ble (a.length+([l[i]] :List u56.den).length) z7w=true:=by
   rw[Nat.ble_eq];simp only[List.length_cons,List.length_nil,z7w];omega
  rw[s4o];simp only[t2x,u0b,hi,decide_true,cond_true,y7t hi,zTn,y8k hi]
  rw[y7l (by omega),hc]
  rfl)
 simp only[List.map_id'] at L1
 have L2:=t59 t3c l (fun a i=>(l,w,a,i)) (fun(a:List u56.den) x=>if y3c x.1 w.1 || z7o x.1 w.1 then a else a++ [x]) (fun a=> .inl a) (fun i a=>a.length≤1048577+i) (fun a ha=>by
  rw[s4p];simp only[t2y,u0b,Nat.lt_irrefl,decide_false,cond_false]) (fun i hi a ha=>by
  have hc:Nat.ble (a.length+([l[i]] :List u56.den).length) z7w=true:=by
   rw[Nat.ble_eq];simp only[List.length_cons,List.length_nil,z7w];omega
  rw[s4p];simp only[t2y,u0b,hi,decide_true,cond_true,y7t hi,zTn,y8k hi]
  rw[y7l (by omega),hc]
  cases hq:y3c l[i].1 w.1 || z7o l[i].1 w.1 with
  | true=>simp only[Bool.not_true,cond_false,if_true];refine⟨by omega,?_⟩;trivial
  | false=>simp only[Bool.not_false,cond_true,Bool.false_eq_true,if_false];refine⟨by simp;omega,?_⟩;trivial)
 have key:∀(l:List u56.den) (a:List u56.den),l.foldl (fun(a:List u56.den) x=>if y3c x.1 w.1 || z7o x.1 w.1 then a else a++ [x]) a=a++l.filter (fun x=> !(y3c x.1 w.1 || z7o x.1 w.1)):=by
  intro l
  induction l with
  | nil=>intro a;simp
  | cons x l ih=>
   intro a
   simp only[List.foldl_cons,ih,List.filter_cons]
   cases hq:y3c x.1 w.1 || z7o x.1 w.1<;>simp
 have hlen:(l.filter (fun x=>y3c x.1 w.1)).length≤l.length:=List.length_filter_le _ _
 have L2' :=L2 (l.filter (fun x=>y3c x.1 w.1)++ [w]) (by simp;omega)
 rw[key] at L2'
 have hc:Nat.ble ((l.filter (fun x=>y3c x.1 w.1)).length+([w] :List u56.den).length) z7w=true:=by
  rw[Nat.ble_eq];simp only[List.length_cons,List.length_nil,z7w];omega
 rw[q00];unfold s8v
 simp only[L1,zOb]
 rw[hc]
 simp only[cond_true,L2',zOb]
 rfl
theorem q63 {l:List u56.den} {w x:u56.den} (h:x∈q7l l w):x∈l∨x=w:=by
 unfold q7l at h
 simp only[List.append_assoc,List.mem_append,List.mem_filter,List.mem_cons,List.not_mem_nil,or_false] at h
 rcases h with h | h | h
 ·exact .inl h.1
 ·exact .inr h
 ·exact .inl h.1
theorem p7u (l:List u56.den) (w:u56.den):(q7l l w).length≤l.length+1:=by
 have:∀l:List u56.den,(l.filter (fun x=>y3c x.1 w.1)).length+(l.filter (fun x=> !(y3c x.1 w.1 || z7o x.1 w.1))).length≤l.length:=by
  intro l
  induction l with
  | nil=>simp
  | cons x l ih=>
   simp only[List.filter_cons]
   cases y3c x.1 w.1<;>cases z7o x.1 w.1<;>simp only[Bool.or_true,Bool.or_false,Bool.not_true,Bool.not_false,if_true,if_false,Bool.false_eq_true,List.length_cons] <;>omega
 unfold q7l
 have:=this l
 simp only[List.length_append,List.length_cons,List.length_nil]
 omega
def KD (l:List u56.den):Prop:=l.Pairwise fun a b=>a.1≠b.1
def smallTx (t:u1u.den):Prop:=t.2.2.2.2.1.length≤3∧(∀r∈t.2.2.2.2.1,r.1.size≤2∧r.2.size≤2)∧t.2.2.2.2.2.1.length≤3∧(∀r∈t.2.2.2.2.2.1,r.1.size≤2∧r.2.1.size≤3)∧t.2.2.2.2.2.2.2.size≤16
theorem p2u {α:Type} {l:List α} {f:α→Nat} {k:Nat} (h:∀x∈l,f x≤k):(l.map f).sum≤l.length*k:=by
 induction l with
 | nil=>simp
 | cons x l ih=>
  have h1:=h x (List.mem_cons_self ..)
  have h2:=ih (fun y hy=>h y (List.mem_cons_of_mem _ hy))
  simp only[List.map_cons,List.sum_cons,List.length_cons,Nat.succ_mul]
  omega
theorem smallTx.wt {t:u1u.den} (h:smallTx t):u1u.wt t≤u0p:=by
 obtain⟨h1,h2,h3,h4,h5⟩:=h
 have a1:=p2u (l:=t.2.2.2.2.1) (f:=(Ty.pair .str .str).wt) (k:=4) (fun x hx=>by have:=h2 x hx;simp only[Ty.wt];omega)
 have a2:=p2u (l:=t.2.2.2.2.2.1) (f:=(Ty.pair .str (.pair .str .bool)).wt) (k:=5) (fun x hx=>by have:=h4 x hx;simp only[Ty.wt];omega)
 have hw:u1u.wt t=0+(0+(0+(0+((t.2.2.2.2.1.length+(t.2.2.2.2.1.map (Ty.pair .str .str).wt).sum)+((t.2.2.2.2.2.1.length+(t.2.2.2.2.2.1.map (Ty.pair .str (.pair .str .bool)).wt).sum)+(0+t.2.2.2.2.2.2.2.size)))))):=rfl
 rw[hw]
 unfold u0p
 omega
def tId (t:u1u.den):Int:=t.1
def tSt (t:u1u.den):Int:=t.2.1
def o3k (t:u1u.den):Int:=t.2.2.1
def tCs (t:u1u.den):Int:=t.2.2.2.1
def o0x (t:u1u.den):Prop:=tSt t=3∧o3k t<tCs t∧KD t.2.2.2.2.2.1
def o03 (l:List u1u.den):Prop:=(∀t∈l,o0x t)∧l.Pairwise fun a b=>tId a≠tId b∧tCs a<tCs b
end
section
def PAsc (m:List PrT):Prop:=m.Pairwise fun a b=>y3c a.1 b.1=true
theorem PAsc.ext:∀ {l m:List PrT},PAsc l→PAsc m→(∀x,x∈l↔x∈m)→l=m
 | [], [],_,_,_=>rfl
 | [],y::m,_,_,h=>by have:=(h y).mpr (by simp);simp at this
 | x::l, [],_,_,h=>by have:=(h x).mp (by simp);simp at this
 | x::l,y::m,hl,hm,h=>by
  have hl' :=List.pairwise_cons.mp hl
  have hm' :=List.pairwise_cons.mp hm
  have hxy:x=y:=by
   rcases List.mem_cons.mp ((h x).mp (by simp)) with e | e
   ·exact e
   ·rcases List.mem_cons.mp ((h y).mpr (by simp)) with e' | e'
    ·exact e'.symm
    ·have:=r3g (hm'.1 x e) (hl'.1 y e')
     rw[u9z] at this;cases this
  subst hxy
  congr 1
  refine PAsc.ext hl'.2 hm'.2 fun z=> ?_
  constructor
  ·intro hz
   rcases List.mem_cons.mp ((h z).mp (by simp[hz])) with e | e
   ·subst e;have:=hl'.1 z hz;rw[u9z] at this;cases this
   ·exact e
  ·intro hz
   rcases List.mem_cons.mp ((h z).mpr (by simp[hz])) with e | e
   ·subst e;have:=hm'.1 z hz;rw[u9z] at this;cases this
   ·exact e
theorem p7k {l:List u2j} {v x:u2j} :x∈p2k l v↔x=v∨x∈l:=by
 unfold p2k
 conv=>rhs;rw[←List.takeWhile_append_dropWhile (p:=u71 v) (l:=l)]
 simp only[List.mem_append,List.mem_singleton]
 constructor
 ·rintro((h | h) | h)
  ·exact .inr (.inl h)
  ·exact .inl h
  ·exact .inr (.inr h)
 ·rintro(h | h | h)
  ·exact .inl (.inr h)
  ·exact .inl (.inl h)
  ·exact .inr h
theorem t8q {x:u2j} :∀(ws:List u56.den) (l:List u2j) (cs:Int),x∈t5y l ws cs↔x∈l∨ ∃w∈ws,x=(w.1,w.2.1,w.2.2,cs)
 | [],l,cs=>by simp[t5y]
 | w::ws,l,cs=>by
  have e:t5y l (w::ws) cs=t5y (p2k l (w.1,w.2.1,w.2.2,cs)) ws cs:=rfl
  rw[e,t8q ws,p7k]
  constructor
  ·rintro((h | h) | ⟨y,hy,h⟩)
   ·exact .inr ⟨w,by simp,h⟩
   ·exact .inl h
   ·exact .inr ⟨y,by simp[hy],h⟩
  ·rintro(h | ⟨y,hy,h⟩)
   ·exact .inl (.inr h)
   ·rcases List.mem_cons.mp hy with rfl | hy
    ·exact .inl (.inl h)
    ·exact .inr ⟨y,hy,h⟩
def vCs (x:u2j):Int:=x.2.2.2
theorem r6d (l:List u2j) (k:ByteArray) (snap:Int):∀n,n≤l.length→
 (r49 l k snap n<0→ ∀(i:Nat) (h:i<l.length),i<n→ ¬(l[i].1=k∧vCs l[i] ≤snap))∧
 (∀a:Nat,r49 l k snap n=(a:Int)→ ∃h:a<l.length,l[a].1=k∧vCs l[a] ≤snap∧ ∀(i:Nat) (h:i<l.length),i<n→l[i].1=k→vCs l[i] ≤snap→vCs l[i] ≤vCs l[a])
 | 0,_=>⟨fun _ i _ h=>absurd h (Nat.not_lt_zero i),fun a e=>by simp only[r49] at e;omega⟩
 | n+1,hn=>by
  obtain⟨h1,h2⟩:=r6d l k snap n (by omega)
  have hlt:n<l.length:=by omega
  have hr:=r5a l k snap n
  simp only[r49,q8c,y8k (t:=u0f) hlt]
  by_cases hc:z7o l[n].1 k=true∧l[n].2.2.2≤snap∧(r49 l k snap n<0∨l[n].2.2.2 >(rdL u0f l (r49 l k snap n).toNat).2.2.2)
  ·rw[if_pos hc]
   obtain⟨c1,c2,c3⟩:=hc
   have c1:l[n].1=k:=y7f.mp c1
   refine⟨fun h=>by omega,fun a e=> ?_⟩
   have e:n=a:=by omega
   subst e
   refine⟨hlt,c1,c2,fun i hi hin hk hs=> ?_⟩
   by_cases q:i=n
   ·subst q;exact Int.le_refl _
   ·rcases Int.lt_or_le (r49 l k snap n) 0 with z | z
    ·exact absurd ⟨hk,hs⟩ (h1 z i hi (by omega))
    ·obtain⟨b,hb⟩:∃b:Nat,r49 l k snap n=(b:Int):=⟨(r49 l k snap n).toNat,by omega⟩
     obtain⟨hbl,_,_,g3⟩:=h2 b hb
     rcases c3 with c3 | c3
     ·omega
     ·rw[hb,zTn,y8k (t:=u0f) hbl] at c3
      have h5:=g3 i hi (by omega) hk hs
      have c3:vCs l[n] >vCs l[b] :=c3
      omega
  ·rw[if_neg hc]
   have hc' :l[n].1=k→vCs l[n] ≤snap→ ∃b:Nat,r49 l k snap n=(b:Int)∧ ∃h:b<l.length,vCs l[n] ≤vCs l[b] :=fun c1 c2=>by
    rcases Int.lt_or_le (r49 l k snap n) 0 with z | z
    ·exact absurd ⟨y7f.mpr c1,c2, .inl z⟩ hc
    ·obtain⟨b,hb⟩:∃b:Nat,r49 l k snap n=(b:Int):=⟨(r49 l k snap n).toNat,by omega⟩
     obtain⟨hbl,_⟩:=h2 b hb
     refine⟨b,hb,hbl,Int.not_lt.mp fun z2=>hc ⟨y7f.mpr c1,c2, .inr ?_⟩⟩
     rw[hb,zTn,y8k (t:=u0f) hbl]
     exact z2
   refine⟨fun h i hi hin=> ?_,fun a e=> ?_⟩
   ·by_cases q:i=n
    ·subst q
     rintro⟨z1,z2⟩
     obtain⟨b,hb,_⟩:=hc' z1 z2
     omega
    ·exact h1 h i hi (by omega)
   ·obtain⟨ha,g1,g2,g3⟩:=h2 a e
    refine⟨ha,g1,g2,fun i hi hin hk hs=> ?_⟩
    by_cases q:i=n
    ·subst q
     obtain⟨b,hb,hbl,g4⟩:=hc' hk hs
     have e:b=a:=by omega
     subst e
     exact g4
    ·exact g3 i hi (by omega) hk hs
theorem p2t (l:List u2j) (k v:ByteArray) (snap:Int) (hu:∀x∈l,∀y∈l,x.1=y.1→vCs x=vCs y→x=y):
 ((s94 l k snap).2=true∧(s94 l k snap).1=v)↔ ∃x∈l,x.1=k∧vCs x≤snap∧x.2.2.1=false∧x.2.1=v∧ ∀y∈l,y.1=k→vCs y≤snap→vCs y≤vCs x:=by
 obtain⟨h1,h2⟩:=r6d l k snap l.length (Nat.le_refl _)
 have hr:=r6y l k snap
 unfold s94
 rcases Int.lt_or_le (t2d l k snap) 0 with z | z
 ·rw[if_pos (.inl z)]
  constructor
  ·rintro⟨h,_⟩;cases h
  ·rintro⟨x,hx,q1,q2,_⟩
   obtain⟨i,hi,rfl⟩:=List.getElem_of_mem hx
   exact absurd ⟨q1,q2⟩ (h1 z i hi hi)
 ·obtain⟨b,hb⟩:∃b:Nat,t2d l k snap=(b:Int):=⟨(t2d l k snap).toNat,by omega⟩
  obtain⟨hbl,g1,g2,g3⟩:=h2 b hb
  rw[hb,zTn,y8k (t:=u0f) hbl]
  have hmax:∀y∈l,y.1=k→vCs y≤snap→vCs y≤vCs l[b] :=fun y hy q1 q2=>by
   obtain⟨i,hi,rfl⟩:=List.getElem_of_mem hy
   exact g3 i hi hi q1 q2
  have hnn: ¬((b:Int)<0):=by omega
  cases hg:l[b].2.2.1 with
  | true=>
   rw[if_pos (.inr rfl)]
   constructor
   ·rintro⟨h,_⟩;cases h
   ·rintro⟨x,hx,q1,q2,q3,_,q5⟩
    have m1:=hmax x hx q1 q2
    have m2:=q5 l[b] (List.getElem_mem hbl) g1 g2
    have e:=hu x hx l[b] (List.getElem_mem hbl) (q1.trans g1.symm) (by omega)
    rw[e,hg] at q3
    cases q3
  | false=>
   rw[if_neg (by simp)]
   constructor
   ·rintro⟨_,h⟩
    exact⟨l[b],List.getElem_mem hbl,g1,g2,hg,h,hmax⟩
   ·rintro⟨x,hx,q1,q2,q3,q4,q5⟩
    have m1:=hmax x hx q1 q2
    have m2:=q5 l[b] (List.getElem_mem hbl) g1 g2
    have e:=hu x hx l[b] (List.getElem_mem hbl) (q1.trans g1.symm) (by omega)
    rw[e] at q4
    exact⟨rfl,q4⟩
theorem p2r (l:List u2j) (r:PrT) (snap:Int):PAsc (s0z l r snap):=by
 unfold PAsc s0z
 rw[List.pairwise_map]
 exact((r6x _).1).filter _
theorem p2e (l:List u2j) (r:PrT) (snap:Int) (k v:ByteArray) (hu:∀x∈l,∀y∈l,x.1=y.1→vCs x=vCs y→x=y):
 (k,v)∈s0z l r snap↔inR r k=true∧ ∃x∈l,x.1=k∧vCs x≤snap∧x.2.2.1=false∧x.2.1=v∧ ∀y∈l,y.1=k→vCs y≤snap→vCs y≤vCs x:=by
 unfold s0z
 simp only[List.mem_map,List.mem_filter,Bool.and_eq_true,Prod.mk.injEq]
 constructor
 ·rintro⟨k',⟨_,h2,h3⟩,rfl,h5⟩
  exact⟨h3,(p2t l k' v snap hu).mp ⟨h2,h5⟩⟩
 ·rintro⟨h1,h2⟩
  obtain⟨q1,q2⟩:=(p2t l k v snap hu).mpr h2
  obtain⟨x,hx,e,_⟩:=h2
  exact⟨k,⟨((r6x _).2 k).mpr (List.mem_map.mpr ⟨x,hx,e⟩),q1,h1⟩,rfl,q2⟩
end
section
theorem twl {E:Type} (p:E→Bool):∀(l:List E),(l.takeWhile p).length≤l.length∧(∀(i:Nat) (h:i<l.length),i<(l.takeWhile p).length→p l[i] =true)∧
 (∀(h:(l.takeWhile p).length<l.length),p l[(l.takeWhile p).length] =false)
 | [] =>⟨Nat.le_refl _,fun i h=>absurd h (Nat.not_lt_zero i),fun h=>absurd h (Nat.not_lt_zero _)⟩
 | x::l=>by
  obtain⟨h1,h2,h3⟩:=twl p l
  cases hp:p x with
  | false=>
   simp only[List.takeWhile_cons,hp,Bool.false_eq_true,if_false,List.length_nil]
   exact⟨Nat.zero_le _,fun i _ h=>absurd h (Nat.not_lt_zero i),fun _=>hp⟩
  | true=>
   simp only[List.takeWhile_cons,hp,if_true,List.length_cons]
   refine⟨by omega,fun i h k=> ?_,fun h=> ?_⟩
   ·cases i with
    | zero=>exact hp
    | succ i=>simpa using h2 i (by simpa using h) (by omega)
   ·simpa using h3 (by omega)
def u0m {E:Type} (p:E→Bool) (l:List E):Nat:=(l.takeWhile fun x=> !p x).length
theorem t3f {E:Type} (p:E→Bool) (l:List E):u0m p l≤l.length:=(twl _ l).1
theorem u7c {E:Type} {p:E→Bool} {l:List E} {i:Nat} (h:i<l.length) (hi:i<u0m p l):p l[i] =false:=by
 have:=(twl (fun x=> !p x) l).2.1 i h hi
 simpa using this
theorem u7x {E:Type} {p:E→Bool} {l:List E} (h:u0m p l<l.length):p l[u0m p l] =true:=by
 unfold u0m at h ⊢
 have:=(twl (fun x=> !p x) l).2.2 h
 simpa using this
theorem u9u {E:Type} (p:E→Bool) (l:List E):decide (u0m p l<l.length)=l.any p:=by
 cases hc:l.any p with
 | true=>
  obtain⟨x,hx,hp⟩:=List.any_eq_true.mp hc
  obtain⟨i,hi,rfl⟩:=List.getElem_of_mem hx
  have: ¬i<u0m p l:=fun q=>by rw[u7c hi q] at hp;cases hp
  simp only[decide_eq_true_eq]
  omega
 | false=>
  simp only[decide_eq_false_iff_not]
  intro h
  have:=u7x h
  have:=List.any_eq_false.mp hc _ (List.getElem_mem h)
  contradiction
theorem Q.first {T:Ty} {c:Type} {q:T.den×c→Option Bool} {p:T.den→Bool} {W:List T.den×c×Int×Int→Option (Unit⊕Int)}
 (hW:∀x,W x=(bif (decide (x.2.2.2<x.2.2.1)) then(bif (y4q x.2.2.2 x.1.length) then((q ((rdL T x.1 (x.2.2.2).toNat),x.2.1)).bind fun(y1:Bool)=>(bif y1 then(some (.inr x.2.2.2)) else(W (x.1,(x.2.1,(x.2.2.1,(IntKind.i64.wrap (x.2.2.2+(1:Int))))))))) else none) else(some (.inl ()))))
 (l:List T.den) (k:c) (hl:l.length≤1099511627776) (hq:∀x∈l,q (x,k)=some (p x)):
 W (l,k,(l.length:Int),0)=some (if u0m p l<l.length then .inr ((u0m p l:Nat):Int) else .inl ()):=by
 have hle:=t3f p l
 have:=r3t W (u0m p l) (fun(_:Unit) i=>(l,k,(l.length:Int),i)) (fun _ _=>if u0m p l<l.length then .inr ((u0m p l:Nat):Int) else .inl ()) (fun _ _=>True)
  (fun a _=>by
   rw[hW]
   by_cases hk:u0m p l<l.length
   ·simp only[u0b,hk,decide_true,cond_true,y7t hk,zTn,y8k hk,hq _ (List.getElem_mem hk),u7x hk,zOb,if_true]
   ·simp only[u0b,hk,decide_false,cond_false,if_false])
  (fun i a hi _=> .inr ⟨(),trivial,rfl,by
   have hil:i<l.length:=by omega
   rw[hW]
   simp only[u0b,hil,decide_true,cond_true,y7t hil,zTn,y8k hil,hq _ (List.getElem_mem hil),u7c hil hi,zOb,cond_false]
   rw[y7l (by omega)]⟩) 0 () (Nat.zero_le _) trivial
 exact this
theorem Q.delete {T:Ty} {c R:Type} {q:T.den×c→Option Bool} {p:T.den→Bool} {W:List T.den×c×Int×Int→Option ((List T.den×Int)⊕R)}
 (hW:∀x,W x=(bif (decide (x.2.2.2<(x.1.length:Int))) then(bif (y4q x.2.2.2 x.1.length) then((q ((rdL T x.1 (x.2.2.2).toNat),x.2.1)).bind fun(y2:Bool)=>(bif (!y2) then(bif (y4q x.2.2.1 x.1.length) then(W ((x.1.set (x.2.2.1).toNat (rdL T x.1 (x.2.2.2).toNat)),(x.2.1,((IntKind.i64.wrap (x.2.2.1+(1:Int))),(IntKind.i64.wrap (x.2.2.2+(1:Int))))))) else none) else(W (x.1,(x.2.1,(x.2.2.1,(IntKind.i64.wrap (x.2.2.2+(1:Int))))))))) else none) else(some (.inl (x.1,x.2.2.1)))))
 (l:List T.den) (k:c) (hl:l.length≤1099511627776) (hq:∀x∈l,q (x,k)=some (p x)) (hf:u0m p l<l.length):
 ∃a:List T.den,W (l,k,((u0m p l:Nat):Int),((u0m p l+1:Nat):Int))=some (.inl (a,((l.filter fun x=> !p x).length:Int)))∧a.length=l.length∧a.take (l.filter fun x=> !p x).length=l.filter fun x=> !p x:=by
 have key:∀(d j:Nat) (a:List T.den),j+d=l.length→a.length=l.length→a.drop j=l.drop j→((l.take j).filter fun x=> !p x).length≤j→((l.take j).filter fun x=> !p x).length<l.length→a.take ((l.take j).filter fun x=> !p x).length=(l.take j).filter (fun x=> !p x)→
  ((l.take j).filter fun x=> !p x).length<j→
  ∃a' :List T.den,W (a,k,(((l.take j).filter fun x=> !p x).length:Int),(j:Int))=some (.inl (a',((l.filter fun x=> !p x).length:Int)))∧a'.length=l.length∧a'.take (l.filter fun x=> !p x).length=l.filter fun x=> !p x:=by
  intro d
  induction d with
  | zero=>
   intro j a hj ha h1 h2 h3 h4 h5
   have e:j=l.length:=by omega
   subst e
   rw[List.take_length] at h4 ⊢
   rw[hW]
   simp only[ha,u0b,Nat.lt_irrefl,decide_false,cond_false]
   exact⟨a,rfl,ha,h4⟩
  | succ d ih=>
   intro j a hj ha h1 h2 h3 h4 h5
   have hjl:j<l.length:=by omega
   have hja:j<a.length:=by omega
   have haj:a[j] =l[j] :=by
    have e1:=List.drop_eq_getElem_cons hja
    have e2:=List.drop_eq_getElem_cons hjl
    rw[h1,e2] at e1
    injection e1 with e1 _
    exact e1.symm
   have hs:l.take (j+1)=l.take j++ [l[j]] :=List.take_succ_eq_append_getElem hjl
   have hd:a.drop (j+1)=l.drop (j+1):=by
    have:=congrArg List.tail h1
    simpa using this
   rw[hW]
   simp only[u0b,hja,decide_true,cond_true,y7t hja,zTn,y8k hja,haj,hq _ (List.getElem_mem hjl),zOb]
   rw[y7l (i:=j) (by omega)]
   cases hp:p l[j] with
   | true=>
    simp only[Bool.not_true,cond_false]
    have e:(l.take (j+1)).filter (fun x=> !p x)=(l.take j).filter fun x=> !p x:=by rw[hs,List.filter_append,List.filter_cons];simp only[hp,Bool.not_true,Bool.false_eq_true,if_false,List.filter_nil,List.append_nil]
    have:=ih (j+1) a (by omega) ha hd (by rw[e];omega) (by rw[e];exact h3) (by rw[e];exact h4) (by rw[e];omega)
    rwa [e] at this
   | false=>
    have e:(l.take (j+1)).filter (fun x=> !p x)=(l.take j).filter (fun x=> !p x)++ [l[j]] :=by rw[hs,List.filter_append,List.filter_cons];simp only[hp,Bool.not_false,if_true,List.filter_nil]
    have el:((l.take (j+1)).filter fun x=> !p x).length=((l.take j).filter fun x=> !p x).length+1:=by rw[e];simp
    have hia:((l.take j).filter fun x=> !p x).length<a.length:=by omega
    simp only[Bool.not_false,cond_true,y7t hia]
    rw[y7l (i:=((l.take j).filter fun x=> !p x).length) (by omega)]
    have:=ih (j+1) (a.set ((l.take j).filter fun x=> !p x).length l[j]) (by omega) (by simpa using ha) (by
     rw[List.drop_set_of_lt (by omega)]
     exact hd) (by rw[el];omega) (by rw[el];omega) (by
     rw[el,List.take_succ_eq_append_getElem (by simpa using hia),e]
     congr 1
     ·rw[List.take_set_of_le (Nat.le_refl _)]
      exact h4
     ·simp) (by rw[el];omega)
    rwa [el] at this
 have hk:=t3f p l
 have e:(l.take (u0m p l+1)).filter (fun x=> !p x)=l.take (u0m p l):=by
  rw[List.take_succ_eq_append_getElem hf,List.filter_append]
  have h1:(l.take (u0m p l)).filter (fun x=> !p x)=l.take (u0m p l):=by
   rw[List.filter_eq_self]
   intro x hx
   obtain⟨i,hi,rfl⟩:=List.getElem_of_mem hx
   have hi' :i<u0m p l:=by have:=hi;rw[List.length_take] at this;omega
   rw[List.getElem_take,u7c (by omega) hi']
   rfl
  rw[h1]
  simp[u7x hf]
 have el:((l.take (u0m p l+1)).filter fun x=> !p x).length=u0m p l:=by rw[e,List.length_take];omega
 have:=key (l.length - (u0m p l+1)) (u0m p l+1) l (by omega) rfl rfl (by rw[el];omega) (by rw[el];exact hf) (by rw[el,e]) (by rw[el];omega)
 rwa [el] at this
end
section
def q1t (x y:u0d):Bool:=decide (x.2.1=3)&&decide (x.2.2.2.1≤y.2.2.1)
def r2w (a b:u0d):Bool:= !decide (a.1=b.1)&&(!q1t a b&& !q1t b a)
def ahead (a b:u0d):Bool:=r2w a b&&s99 a.2.2.2.2.1 b.2.2.2.2.2.1
def s78 (t:u0d) (l:List u0d):Bool:=l.any fun x=>decide (x.2.1=3)&&ahead t x
theorem p0j (a b:u0d):s5m (a,b)=some (r2w a b):=by
 rw[q6a];unfold r4m r2w q1t
 by_cases h1:a.1=b.1
 ·simp[h1]
 ·by_cases h2:a.2.1=3<;>by_cases h3:a.2.2.2.1≤b.2.2.1<;>by_cases h4:b.2.1=3<;>by_cases h5:b.2.2.2.1≤a.2.2.1<;>simp[h1,h2,h3,h4,h5]
theorem p0i (a b:u0d):s5h (a,b)=some (r2w a b):=by
 rw[q50];unfold r4c
 simp only[q0m,s8i]
 unfold r2w q1t
 by_cases h1:a.1=b.1
 ·simp[h1]
 ·by_cases h2:a.2.1=3<;>by_cases h3:a.2.2.2.1≤b.2.2.1<;>by_cases h4:b.2.1=3<;>by_cases h5:b.2.2.2.1≤a.2.2.1<;>simp[h1,h2,h3,h4,h5]
theorem t2p (a b:u0d) (ha:a.2.2.2.2.1.length≤u0p) (hb:b.2.2.2.2.2.1.length≤u0p):u2w (a,b)=some (ahead a b):=by
 rw[q8q];unfold r7q ahead
 have h1:=p0j a b
 have h2:=q78 _ _ ha hb
 simp only[h2,zOb]
 rw[h1]
 cases r2w a b<;>rfl
theorem t04 (a b:u0d) (ha:a.2.2.2.2.1.length≤u0p) (hb:b.2.2.2.2.2.1.length≤u0p):u3j (a,b)=some (ahead a b):=by
 rw[q8j];unfold r7j ahead
 have h1:=p0i a b
 have h2:=q77 _ _ ha hb
 simp only[h2,zOb]
 rw[h1]
 cases r2w a b<;>rfl
end
section
def s76 (t:u0d):Prop:=t.2.2.2.2.1.length≤1048576∧t.2.2.2.2.2.1.length≤1048576
def r6u (l:List u0d):Prop:=l.length≤4194304∧ ∀t∈l,s76 t
theorem u77 {n:Nat} (h:n≤1048576):n≤u0p:=by unfold u0p;omega
theorem r59 (t:u0d) (l:List u0d) (ht:s76 t) (hl:r6u l):t8v (t,l)=some (s78 t l):=by
 obtain⟨l1,l2⟩:=hl
 have L:=s47 t73 l (fun i=>(l,t,i)) (fun x=>decide (x.2.1=3)&&ahead t x) (.inr true) (.inl ())
  (by rw[r3n];simp only[t7w,u0b,Nat.lt_irrefl,decide_false,cond_false])
  (fun i hi=>by
   have h1:=t2p t l[i] (u77 ht.1) (u77 (l2 _ (List.getElem_mem hi)).2)
   rw[r3n]
   simp only[t7w,u0b,hi,decide_true,cond_true,y7t hi,zTn,y8k (t:=u1u) hi,h1,zOb]
   rw[y7l (by omega)]
   cases decide (l[i].2.1=3)<;>cases ahead t l[i] <;>rfl)
 rw[q8x];unfold r7x s78
 simp only[L,zOb]
 cases l.any fun x=>decide (x.2.1=3)&&ahead t x<;>rfl
theorem r58 (t:u0d) (l:List u0d) (ht:s76 t) (hl:r6u l):t8s (t,l)=some (s78 t l):=by
 obtain⟨l1,l2⟩:=hl
 have hq:∀x∈l,t77 (x,t)=some (decide (x.2.1=3)&&ahead t x):=fun x hx=>by
  have h1:=t04 t x (u77 ht.1) (u77 (l2 x hx).2)
  rw[q2n];unfold r1b
  simp only[t9w,t6g,zOb,h1]
  cases decide (x.2.1=3)<;>rfl
 have L:=Q.first (T:=u1u) (c:=u0d) (W:=u1j) (q:=t77) (p:=fun x:u0d=>decide (x.2.1=3)&&ahead t x) (fun x=>t03 x) l t (by omega) hq
 rw[q8o];unfold r7o s78
 simp only[s3o,t5p,u9p,u4c,t1v,u5n,L,zOb]
 rw[←u9u]
 by_cases h:u0m (fun x:u0d=>decide (x.2.1=3)&&ahead t x) l<l.length
 ·simp[h]
 ·simp[h]
theorem u95 (t:u0d) (h:s76 t):u05 t=some t:=by
 rw[q3o];unfold r2l
 simp only[List.length_nil,Nat.zero_add,List.nil_append,u1q (show t.2.2.2.2.1.length≤1099511627776 by have:=h.1;omega),u1q (show t.2.2.2.2.2.1.length≤1099511627776 by have:=h.2;omega),cond_true]
theorem s8b (t:u0d) (h:s76 t):u36 t=some t:=by
 rw[q2t];unfold r1h
 simp only[u1q (show t.2.2.2.2.1.length≤1099511627776 by have:=h.1;omega),u1q (show t.2.2.2.2.2.1.length≤1099511627776 by have:=h.2;omega),cond_true]
theorem r3s (l:List u0d) (h:r6u l):t4c l=some l:=by
 have L:=s1j t5a l (fun a i=>(l,a,i)) (fun _=>true) (fun x=>x) (fun a=> .inl a) (by have:=h.1;omega)
  (fun a _=>by rw[s7z];simp only[t41,u0b,Nat.lt_irrefl,decide_false,cond_false])
  (fun i hi a ha=>by
   have h1:=u95 l[i] (h.2 _ (List.getElem_mem hi))
   have:=h.1
   rw[s7z]
   simp only[t41,u0b,hi,decide_true,cond_true,y7t hi,zTn,y8k (t:=u1u) hi,h1,zOb,List.length_singleton,u1q (show a.length+1≤1099511627776 by omega)]
   rw[y7l (by omega)])
 rw[q3q];unfold r2n
 simp only[L,zOb]
 simp
theorem r3r (l:List u0d) (h:r6u l):t2h l=some l:=by
 have L:=s1j t29 l (fun a i=>(a,l,(l.length:Int),i)) (fun _=>true) (fun x=>x) (fun a=> .inl a) (by have:=h.1;omega)
  (fun a _=>by rw[s4k];simp only[t2t,u0b,Nat.lt_irrefl,decide_false,cond_false])
  (fun i hi a ha=>by
   have h1:=s8b l[i] (h.2 _ (List.getElem_mem hi))
   have:=h.1
   rw[s4k]
   simp only[t2t,u0b,hi,decide_true,cond_true,y7t hi,zTn,y8k (t:=u1u) hi,h1,zOb,List.length_singleton,u1q (show a.length+1≤1099511627776 by omega)]
   rw[y7l (by omega)])
 rw[q0t];unfold s8o
 simp only[L,zOb]
 simp
abbrev u0h:=List u2j×List u0d×List u0d×Int×Int
def fewB (b:u0h):Prop:=b.1.length≤4194304∧r6u b.2.1∧r6u b.2.2.1
theorem t7e (b:u0h) (h:fewB b):u2z b=some b:=by
 have h1:=r3s b.2.1 h.2.1
 have h2:=r3s b.2.2.1 h.2.2
 rw[q3p];unfold r2m
 simp only[List.length_nil,Nat.zero_add,List.nil_append,u1q (show b.1.length≤1099511627776 by have:=h.1;omega),cond_true,h1,h2,zOb]
theorem s26 (b:u0h) (h:fewB b):u6x b=some b:=by
 have h1:=r3r b.2.1 h.2.1
 have h2:=r3r b.2.2.1 h.2.2
 rw[q0s];unfold s8n
 simp only[u1q (show b.1.length≤1099511627776 by have:=h.1;omega),cond_true,h1,h2,zOb]
end
section
def t6l (b:u0h) (open_:List u0d):Int:=open_.foldl (fun m t=>if t.2.2.1<m then t.2.2.1 else m) b.2.2.2.1
theorem p0s (b:u0h) (o:List u0d) (h:o.length≤4194304):s0s (b,o)=some (t6l b o):=by
 have L:=t59 t3a o (fun a i=>(o,a,i)) (fun(m:Int) t=>if t.2.2.1<m then t.2.2.1 else m) (fun a=> .inl a) (fun _ _=>True)
  (fun a _=>by rw[s4n];simp only[t2w,u0b,Nat.lt_irrefl,decide_false,cond_false])
  (fun i hi a _=>by
   refine⟨trivial,?_⟩
   rw[s4n]
   simp only[t2w,u0b,hi,decide_true,cond_true,y7t hi,zTn,y8k (t:=u1u) hi]
   rw[y7l (by omega)]
   by_cases hc:o[i].2.2.1<a
   ·simp only[hc,decide_true,cond_true,if_true]
   ·simp only[hc,decide_false,cond_false,if_false]) b.2.2.2.1 trivial
 rw[q0z];unfold s8u
 simp only[L,zOb]
 rfl
theorem p0r (b:u0h) (o:List u0d) (h:o.length≤4194304):s0o (b,o)=some (t6l b o):=by
 have L:=t59 t27 o (fun a i=>(a,o,(o.length:Int),i)) (fun(m:Int) t=>if t.2.2.1<m then t.2.2.1 else m) (fun a=> .inl a) (fun _ _=>True)
  (fun a _=>by rw[s4i];simp only[t2r,u0b,Nat.lt_irrefl,decide_false,cond_false])
  (fun i hi a _=>by
   refine⟨trivial,?_⟩
   rw[s4i]
   simp only[t2r,u0b,hi,decide_true,cond_true,y7t hi,zTn,y8k (t:=u1u) hi]
   rw[y7l (by omega)]
   have e:y8i a o[i].2.2.1=if o[i].2.2.1<a then o[i].2.2.1 else a:=by
    unfold y8i
    split<;>rfl
   rw[e]) b.2.2.2.1 trivial
 rw[q0p];unfold s8l
 simp only[L,zOb]
 rfl
def u0q (b:u0h) (n:ByteArray):Int:=if u0m (fun x:u0d=>z7o x.2.2.2.2.2.2.2 n) b.2.2.1<b.2.2.1.length then((u0m (fun x:u0d=>z7o x.2.2.2.2.2.2.2 n) b.2.2.1:Nat):Int) else -1
theorem s1i (b:u0h) (n:ByteArray) (h:b.2.2.1.length≤4194304):u1v (b,n)=some (u0q b n):=by
 have hq:∀x∈b.2.2.1,t5c (x,n)=some (z7o x.2.2.2.2.2.2.2 n):=fun x _=>by
  rw[r80];unfold s5y;rfl
 have L:=Q.first (T:=u1u) (c:=ByteArray) (W:=u09) (q:=t5c) (p:=fun x:u0d=>z7o x.2.2.2.2.2.2.2 n) (fun x=>u9a x) b.2.2.1 n (by omega) hq
 rw[q2p];unfold r1d u0q
 simp only[t0x,u4v,L,zOb]
 by_cases hk:u0m (fun x:u0d=>z7o x.2.2.2.2.2.2.2 n) b.2.2.1<b.2.2.1.length
 ·simp only[if_pos hk,zOb]
 ·simp only[if_neg hk,zOb]
theorem t8k (b:u0h) (n:ByteArray) (h:b.2.2.1.length≤4194304):u11 (b,n)=some (u0q b n):=by
 have L:=r3t t0i (u0m (fun x:u0d=>z7o x.2.2.2.2.2.2.2 n) b.2.2.1) (fun(_:Unit) i=>(n,b,i)) (fun _ _=>if u0m (fun x:u0d=>z7o x.2.2.2.2.2.2.2 n) b.2.2.1<b.2.2.1.length then .inr ((u0m (fun x:u0d=>z7o x.2.2.2.2.2.2.2 n) b.2.2.1:Nat):Int) else .inl ()) (fun _ _=>True)
  (fun a _=>by
   have hle:=t3f (fun x:u0d=>z7o x.2.2.2.2.2.2.2 n) b.2.2.1
   rw[s7q]
   by_cases hk:u0m (fun x:u0d=>z7o x.2.2.2.2.2.2.2 n) b.2.2.1<b.2.2.1.length
   ·have hy:=u7x hk
    simp only[u97,u0b,hk,decide_true,cond_true,y7t hk,zTn,y8k (t:=u1u) hk,hy,if_true]
   ·simp only[u97,u0b,hk,decide_false,cond_false,if_false])
  (fun i a hi _=> .inr ⟨(),trivial,rfl,by
   have hle:=t3f (fun x:u0d=>z7o x.2.2.2.2.2.2.2 n) b.2.2.1
   have hil:i<b.2.2.1.length:=by omega
   have hn:=u7c hil hi
   rw[s7q]
   simp only[u97,u0b,hil,decide_true,cond_true,y7t hil,zTn,y8k (t:=u1u) hil,hn,cond_false]
   rw[y7l (by omega)]⟩) 0 () (Nat.zero_le _) trivial
 have L:t0i (n,b,0)=_:=L
 rw[q27];unfold r1v u0q
 simp only[L,zOb]
 by_cases hk:u0m (fun x:u0d=>z7o x.2.2.2.2.2.2.2 n) b.2.2.1<b.2.2.1.length
 ·simp only[if_pos hk]
 ·simp only[if_neg hk]
end
section
def q30 (l:List u2j) (snap:Int) (i:Nat):Bool:=decide ((rdL u0f l i).2.2.2 >snap) || decide (t2d l (rdL u0f l i).1 snap=(i:Int))
def trA (l:List u2j) (snap:Int):Nat→List u2j
 | 0=> []
 | n+1=>if q30 l snap n=true then trA l snap n++ [rdL u0f l n] else trA l snap n
theorem r68 (l:List u2j) (snap:Int):∀n,(trA l snap n).length≤n
 | 0=>Nat.le_refl _
 | n+1=>by
  have:=r68 l snap n
  simp only[trA]
  split
  ·simp;omega
  ·omega
def p6q (l:List u2j) (k:ByteArray):Nat:=(l.filter fun v=>z7o v.1 k).length
def p3r (l:List u2j) (snap:Int) (v:u2j):Bool:= !v.2.2.1 || (decide (v.2.2.2 >snap) || decide ((p6q l v.1:Int) >1))
def u15 (l:List u2j) (snap:Int):List u2j:=(trA l snap l.length).filter (p3r (trA l snap l.length) snap)
theorem p4a (l:List u2j) (snap:Int) (hl:l.length≤8388608):t0k (l,snap, [],0)=some (.inl (snap,trA l snap l.length)):=
 r96 t0k l.length (fun a i=>(l,snap,a,i)) (fun i=>trA l snap i) (.inl (snap,trA l snap l.length))
  (by rw[s7u];simp only[t4x,u0b,Nat.lt_irrefl,decide_false,cond_false])
  (fun i hi=>by
   have hL:=q1q l (rdL u0f l i).1 snap (by omega)
   have hn:=r68 l snap i
   rw[s7u]
   simp only[t4x,u0b,hi,decide_true,cond_true,y7t hi,zTn,hL,zOb,List.length_singleton,u1q (show(trA l snap i).length+1≤1099511627776 by omega)]
   rw[y7l (by omega)]
   simp only[trA,q30]
   by_cases h1:(rdL u0f l i).2.2.2 >snap
   ·simp[h1]
   ·by_cases h2:t2d l (rdL u0f l i).1 snap=(i:Int)<;>simp[h1,h2])
theorem p39 (l:List u2j) (snap:Int) (hl:l.length≤8388608):t0a (l,snap, [],l,(l.length:Int),0)=some (.inl (snap,trA l snap l.length)):=
 r96 t0a l.length (fun a i=>(l,snap,a,l,(l.length:Int),i)) (fun i=>trA l snap i) (.inl (snap,trA l snap l.length))
  (by rw[s7d];simp only[t4i,u0b,Nat.lt_irrefl,decide_false,cond_false])
  (fun i hi=>by
   have hL:=p1d l (rdL u0f l i).1 snap (by omega)
   have hn:=r68 l snap i
   rw[s7d]
   simp only[t4i,u0b,hi,decide_true,cond_true,y7t hi,zTn,hL,zOb,List.length_singleton,u1q (show(trA l snap i).length+1≤1099511627776 by omega)]
   rw[y7l (by omega)]
   simp only[trA,q30]
   by_cases h1:(rdL u0f l i).2.2.2 >snap
   ·simp[h1]
   ·by_cases h2:t2d l (rdL u0f l i).1 snap=(i:Int)<;>simp[h1,h2])
end
section
theorem q0h (k:ByteArray):∀(l:List u2j) (a:Nat),l.foldl (fun(a:Nat) v=>if z7o v.1 k=true then a+1 else a) a=a+p6q l k
 | [],a=>by simp[p6q]
 | x::l,a=>by
  rw[List.foldl_cons,q0h k l]
  unfold p6q
  cases hc:z7o x.1 k with
  | true=>simp[List.filter_cons,hc];omega
  | false=>simp[List.filter_cons,hc]
theorem p4c (s out:List u2j) (snap:Int) (i:Nat) (hi:i<s.length) (hl:s.length≤8388608):
 u8m (snap,s,out,(i:Int),0,0)=some (.inl (snap,s,out,(i:Int),(p6q s s[i].1:Int))):=by
 have L:=t59 u8m s (fun(a:Nat) j=>(snap,s,out,(i:Int),(a:Int),j)) (fun(a:Nat) v=>if z7o v.1 s[i].1=true then a+1 else a) (fun a=> .inl (snap,s,out,(i:Int),(a:Int))) (fun j a=>a≤j)
  (fun a _=>by rw[s4u];simp only[t23,u0b,Nat.lt_irrefl,decide_false,cond_false])
  (fun j hj a ha=>by
   rw[s4u]
   simp only[t23,u0b,hj,decide_true,cond_true,y7t hj,y7t hi,zTn,y8k (t:=u0f) hj,y8k (t:=u0f) hi]
   rw[y7l (i:=j) (by omega),y7l (i:=a) (by omega)]
   cases z7o s[j].1 s[i].1 with
   | true=>simp only[cond_true,if_true];exact⟨by omega,trivial⟩
   | false=>simp only[cond_false,Bool.false_eq_true,if_false];exact⟨by omega,trivial⟩) 0 (Nat.zero_le _)
 rw[q0h,Nat.zero_add] at L
 exact L
theorem p4b (s:List u2j) (k:ByteArray) (hl:s.length≤8388608):t85 (k,s)=some (p6q s k:Int):=by
 have L:=t59 u7m s (fun(a:Nat) j=>(k,(a:Int),s,(s.length:Int),j)) (fun(a:Nat) v=>if z7o v.1 k=true then a+1 else a) (fun a=> .inl (a:Int)) (fun j a=>a≤j)
  (fun a _=>by rw[s2b];simp only[t1e,u0b,Nat.lt_irrefl,decide_false,cond_false])
  (fun j hj a ha=>by
   rw[s2b]
   simp only[t1e,u0b,hj,decide_true,cond_true,y7t hj,zTn,y8k (t:=u0f) hj]
   rw[y7l (i:=j) (by omega),y7l (i:=a) (by omega)]
   cases z7o s[j].1 k with
   | true=>simp only[cond_true,if_true];exact⟨by omega,trivial⟩
   | false=>simp only[cond_false,Bool.false_eq_true,if_false];exact⟨by omega,trivial⟩) 0 (Nat.zero_le _)
 rw[q0h,Nat.zero_add] at L
 have L:u7m (k,0,s,(s.length:Int),0)=_:=L
 rw[r82];unfold s5z
 simp only[L,zOb]
theorem q8a (l:List u2j) (snap:Int) (hl:l.length≤8388608):s2z (l,snap)=some (u15 l snap):=by
 have hs:(trA l snap l.length).length≤8388608:=Nat.le_trans (r68 _ _ _) hl
 obtain⟨s,hse⟩:∃s,s=trA l snap l.length:=⟨_,rfl⟩
 rw[←hse] at hs
 have L:=s1j t3d s (fun a i=>(snap,s,a,i)) (p3r s snap) (fun v=>v) (fun a=> .inl a) (by omega)
  (fun a _=>by rw[s4t];simp only[t22,u0b,Nat.lt_irrefl,decide_false,cond_false])
  (fun i hi a ha=>by
   rw[s4t]
   simp only[t22,u0b,hi,decide_true,cond_true,p4c s a snap i hi hs,zOb,y7t hi,zTn,y8k (t:=u0f) hi,List.length_singleton,u1q (show a.length+1≤1099511627776 by omega)]
   rw[y7l (by omega)]
   unfold p3r
   cases h1:s[i].2.2.1 with
   | false=>simp
   | true=>
    by_cases h2:s[i].2.2.2 >snap
    ·simp[h2]
    ·by_cases h3:(p6q s s[i].1:Int) >1<;>simp[h2,h3])
 rw[List.map_id'] at L
 have hA:=p4a l snap hl
 rw[←hse] at hA
 rw[q3b];unfold r1z u15
 rw[←hse]
 simp only[hA,L,zOb]
theorem q79 (l:List u2j) (snap:Int) (hl:l.length≤8388608):s2s (l,snap)=some (u15 l snap):=by
 have hs:(trA l snap l.length).length≤8388608:=Nat.le_trans (r68 _ _ _) hl
 obtain⟨s,hse⟩:∃s,s=trA l snap l.length:=⟨_,rfl⟩
 rw[←hse] at hs
 have L:=s1j t28 s (fun a i=>(snap,s,a,s,(s.length:Int),i)) (p3r s snap) (fun v=>v) (fun a=> .inl a) (by omega)
  (fun a _=>by rw[s4j];simp only[t2s,u0b,Nat.lt_irrefl,decide_false,cond_false])
  (fun i hi a ha=>by
   rw[s4j]
   simp only[t2s,u0b,hi,decide_true,cond_true,p4b s _ hs,zOb,y7t hi,zTn,y8k (t:=u0f) hi,List.length_singleton,u1q (show a.length+1≤1099511627776 by omega)]
   rw[y7l (by omega)]
   unfold p3r
   cases h1:s[i].2.2.1 with
   | false=>simp
   | true=>
    by_cases h2:s[i].2.2.2 >snap
    ·simp[h2]
    ·by_cases h3:(p6q s s[i].1:Int) >1<;>simp[h2,h3])
 rw[List.map_id'] at L
 have hA:=p39 l snap hl
 rw[←hse] at hA
 rw[q2s];unfold r1g u15
 rw[←hse]
 simp only[hA,L,zOb]
theorem p1y (l:List u2j) (snap:Int):(u15 l snap).length≤l.length:=Nat.le_trans (List.length_filter_le _ _) (r68 _ _ _)
end
section
theorem p55 {E:Type} {r:E→E→Prop} (hi:∀x,¬r x x) (ha:∀x y,r x y→ ¬r y x):∀ {l m:List E},l.Pairwise r→m.Pairwise r→(∀x,x∈l↔x∈m)→l=m
 | [], [],_,_,_=>rfl
 | [],y::m,_,_,h=>by have:=(h y).mpr (by simp);simp at this
 | x::l, [],_,_,h=>by have:=(h x).mp (by simp);simp at this
 | x::l,y::m,hl,hm,h=>by
  have hl' :=List.pairwise_cons.mp hl
  have hm' :=List.pairwise_cons.mp hm
  have hxy:x=y:=by
   rcases List.mem_cons.mp ((h x).mp (by simp)) with e | e
   ·exact e
   ·rcases List.mem_cons.mp ((h y).mpr (by simp)) with e' | e'
    ·exact e'.symm
    ·exact absurd (hm'.1 x e) (ha _ _ (hl'.1 y e'))
  subst hxy
  congr 1
  refine p55 hi ha hl'.2 hm'.2 fun z=> ?_
  constructor
  ·intro hz
   rcases List.mem_cons.mp ((h z).mp (by simp[hz])) with e | e
   ·subst e;exact absurd (hl'.1 z hz) (hi z)
   ·exact e
  ·intro hz
   rcases List.mem_cons.mp ((h z).mpr (by simp[hz])) with e | e
   ·subst e;exact absurd (hm'.1 z hz) (hi z)
   ·exact e
def vLt (a b:u2j):Prop:=y3c a.1 b.1=true∨(a.1=b.1∧vCs a<vCs b)
def VAsc (l:List u2j):Prop:=l.Pairwise vLt
theorem p1z (a:u2j): ¬vLt a a:=fun h=>by
 rcases h with h | h
 ·rw[u9z] at h;cases h
 ·omega
theorem p8b (a b:u2j) (h:vLt a b): ¬vLt b a:=fun k=>by
 rcases h with h | ⟨h,h'⟩<;>rcases k with k | ⟨k,k'⟩
 ·rw[s5t h] at k;cases k
 ·rw[k,u9z] at h;cases h
 ·rw[h,u9z] at k;cases k
 ·omega
theorem p9v (a b:u2j) (h: ¬(a.1=b.1∧vCs a=vCs b)):vLt a b∨vLt b a:=by
 rcases r65 a.1 b.1 with c | c | c
 ·exact .inl (.inl c)
 ·rcases Int.lt_trichotomy (vCs a) (vCs b) with d | d | d
  ·exact .inl (.inr ⟨c,d⟩)
  ·exact absurd ⟨c,d⟩ h
  ·exact .inr (.inr ⟨c.symm,d⟩)
 ·exact .inr (.inl c)
theorem VAsc.ext {l m:List u2j} (h:VAsc l) (k:VAsc m) (e:∀x,x∈l↔x∈m):l=m:=p55 p1z p8b h k e
theorem VAsc.uni:∀ {l:List u2j},VAsc l→ ∀x∈l,∀y∈l,x.1=y.1→vCs x=vCs y→x=y
 | [],_,x,hx=>by cases hx
 | z::l,h,x,hx=>fun y hy e1 e2=>by
  have h' :=List.pairwise_cons.mp h
  have no:∀a b:u2j,a.1=b.1→vCs a=vCs b→ ¬vLt a b:=fun a b e1 e2 k=>by
   rcases k with k | k
   ·rw[e1,u9z] at k;cases k
   ·omega
  rcases List.mem_cons.mp hx with rfl | hx' <;>rcases List.mem_cons.mp hy with rfl | hy'
  ·rfl
  ·exact absurd (h'.1 y hy') (no _ _ e1 e2)
  ·exact absurd (h'.1 x hx') (no _ _ e1.symm e2.symm)
  ·exact VAsc.uni h'.2 x hx' y hy' e1 e2
def p7g (l:List u2j) (s:Int) (x:u2j):Prop:=vCs x≤s∧ ∀y∈l,y.1=x.1→vCs y≤s→vCs y≤vCs x
theorem q4v {l:List u2j} (hA:VAsc l) {s:Int} {i:Nat} (h:i<l.length):t2d l l[i].1 s=(i:Int)↔p7g l s l[i] :=by
 obtain⟨h1,h2⟩:=r6d l l[i].1 s l.length (Nat.le_refl _)
 constructor
 ·intro e
  obtain⟨_,g1,g2,g3⟩:=h2 i e
  refine⟨g2,fun y hy e1 e2=> ?_⟩
  obtain⟨j,hj,rfl⟩:=List.getElem_of_mem hy
  exact g3 j hj hj e1 e2
 ·rintro⟨g2,g3⟩
  have hr:=r6y l l[i].1 s
  rcases Int.lt_or_le (t2d l l[i].1 s) 0 with z | z
  ·exact absurd ⟨rfl,g2⟩ (h1 z i h h)
  ·obtain⟨b,hb⟩:∃b:Nat,t2d l l[i].1 s=(b:Int):=⟨(t2d l l[i].1 s).toNat,by omega⟩
   obtain⟨hbl,k1,k2,k3⟩:=h2 b hb
   have m1:=g3 l[b] (List.getElem_mem hbl) k1 k2
   have m2:=k3 i h h rfl g2
   have e:=VAsc.uni hA l[b] (List.getElem_mem hbl) l[i] (List.getElem_mem h) k1 (by omega)
   have hp:l.Nodup:=hA.imp fun h e=>by subst e;exact p1z _ h
   have:b=i:=(List.getElem_inj hp).mp e
   rw[hb,this]
theorem p1x (l:List u2j) (s:Int):∀n,n≤l.length→(trA l s n).Sublist (l.take n)
 | 0,_=>by simp[trA]
 | n+1,h=>by
  have ih:=p1x l s n (by omega)
  have hn:n<l.length:=by omega
  rw[List.take_succ_eq_append_getElem hn]
  simp only[trA]
  split
  ·rw[y8k (t:=u0f) hn]
   exact ih.append (List.Sublist.refl _)
  ·exact ih.trans (List.sublist_append_left _ _)
theorem u90 (l:List u2j) (s:Int):(u15 l s).Sublist l:=by
 have h:=p1x l s l.length (Nat.le_refl _)
 rw[List.take_length] at h
 exact List.filter_sublist.trans h
theorem t5l {l:List u2j} (h:VAsc l) (s:Int):VAsc (u15 l s):=h.sublist (u90 l s)
theorem q9h {l:List u2j} {s:Int} {x:u2j} :∀n,n≤l.length→(x∈trA l s n↔ ∃(i:Nat) (h:i<l.length),i<n∧l[i] =x∧q30 l s i=true)
 | 0,_=>by simp[trA]
 | n+1,h=>by
  have ih:=q9h (x:=x) (s:=s) n (Nat.le_of_succ_le h)
  have hn:n<l.length:=by omega
  have split:(∃(i:Nat) (h:i<l.length),i<n+1∧l[i] =x∧q30 l s i=true)↔(∃(i:Nat) (h:i<l.length),i<n∧l[i] =x∧q30 l s i=true)∨(l[n] =x∧q30 l s n=true):=by
   constructor
   ·rintro⟨i,hi,h1,h2⟩
    by_cases e:i=n
    ·subst e;exact .inr h2
    ·exact .inl ⟨i,hi,by omega,h2⟩
   ·rintro(⟨i,hi,h1,h2⟩ | h2)
    ·exact⟨i,hi,by omega,h2⟩
    ·exact⟨n,hn,by omega,h2⟩
  rw[split,←ih]
  simp only[trA]
  by_cases c:q30 l s n=true
  ·rw[if_pos c,y8k (t:=u0f) hn,List.mem_append,List.mem_singleton]
   simp only[c,and_true]
   exact or_congr Iff.rfl eq_comm
  ·rw[if_neg c]
   simp[c]
theorem q61 {l:List u2j} (hA:VAsc l) {s:Int} {x:u2j} :x∈trA l s l.length↔x∈l∧(vCs x >s∨p7g l s x):=by
 rw[q9h _ (Nat.le_refl _)]
 constructor
 ·rintro⟨i,hi,_,rfl,k⟩
  refine⟨List.getElem_mem hi,?_⟩
  unfold q30 at k
  rw[y8k (t:=u0f) hi,Bool.or_eq_true,decide_eq_true_eq,decide_eq_true_eq] at k
  rcases k with k | k
  ·exact .inl k
  ·exact .inr ((q4v hA hi).mp k)
 ·rintro⟨hx,k⟩
  obtain⟨i,hi,rfl⟩:=List.getElem_of_mem hx
  refine⟨i,hi,hi,rfl,?_⟩
  unfold q30
  rw[y8k (t:=u0f) hi,Bool.or_eq_true,decide_eq_true_eq,decide_eq_true_eq]
  rcases k with k | k
  ·exact .inl k
  ·exact .inr ((q4v hA hi).mpr k)
theorem p4e {E:Type} :∀ {l:List E},l.Nodup→1<l.length→ ∀x,∃y∈l,y≠x
 | [],_,h,_=>by simp at h
 | [_],_,h,_=>by simp at h
 | a::b::l,hn,_,x=>by
  by_cases e:a=x
  ·subst e
   refine⟨b,by simp,fun e=> ?_⟩
   subst e
   simp at hn
  ·exact⟨a,by simp,e⟩
theorem p3v {E:Type} {l:List E} {x y:E} (hx:x∈l) (hy:y∈l) (h:x≠y):1<l.length:=by
 match l,hx,hy with
 | [a],hx,hy=>rw[List.mem_singleton] at hx hy;exact absurd (hx.trans hy.symm) h
 | a::b::l,_,_=>simp
theorem u5l {l:List u2j} (hA:VAsc l) {s:Int} {x:u2j} :x∈u15 l s↔x∈l∧(vCs x >s∨(p7g l s x∧(x.2.2.1=false∨ ∃y∈l,y.1=x.1∧vCs y >s))):=by
 unfold u15
 rw[List.mem_filter,q61 hA]
 unfold p3r
 rw[Bool.or_eq_true,Bool.or_eq_true,decide_eq_true_eq,decide_eq_true_eq,Bool.not_eq_true']
 have hs:VAsc (trA l s l.length):=by
  have h:=p1x l s l.length (Nat.le_refl _)
  rw[List.take_length] at h
  exact hA.sublist h
 constructor
 ·rintro⟨⟨hx,h1⟩,h2⟩
  refine⟨hx,?_⟩
  by_cases c:vCs x >s
  ·exact .inl c
  ·rcases h1 with h1 | h1
   ·exact absurd h1 c
   ·refine .inr ⟨h1,?_⟩
    rcases h2 with h2 | h2 | h2
    ·exact .inl h2
    ·exact absurd h2 c
    ·have hn:((trA l s l.length).filter fun v=>z7o v.1 x.1).Nodup:=(hs.filter _).imp fun h e=>by subst e;exact p1z _ h
     have hl:1<((trA l s l.length).filter fun v=>z7o v.1 x.1).length:=by unfold p6q at h2;omega
     obtain⟨y,hy,hne⟩:=p4e hn hl x
     rw[List.mem_filter,q61 hA] at hy
     obtain⟨⟨hyl,hy1⟩,hy2⟩:=hy
     have hk:=y7f.mp hy2
     refine .inr ⟨y,hyl,hk,?_⟩
     rcases hy1 with hy1 | hy1
     ·exact hy1
     ·have a1:=h1.2 y hyl hk hy1.1
      have a2:=hy1.2 x hx hk.symm h1.1
      exact absurd (VAsc.uni hA y hyl x hx hk (by omega)) hne
 ·rintro⟨hx,h1⟩
  rcases h1 with h1 | ⟨h1,h2⟩
  ·exact⟨⟨hx, .inl h1⟩, .inr (.inl h1)⟩
  ·refine⟨⟨hx, .inr h1⟩,?_⟩
   rcases h2 with h2 | ⟨y,hy,hk,hc⟩
   ·exact .inl h2
   ·refine .inr (.inr ?_)
    have m1:x∈(trA l s l.length).filter fun v=>z7o v.1 x.1:=by rw[List.mem_filter,q61 hA];exact⟨⟨hx, .inr h1⟩,y7f.mpr rfl⟩
    have m2:y∈(trA l s l.length).filter fun v=>z7o v.1 x.1:=by rw[List.mem_filter,q61 hA];exact⟨⟨hy, .inl hc⟩,y7f.mpr hk⟩
    have:=p3v m1 m2 (fun e=>by have:=h1.1;subst e;omega)
    unfold p6q
    omega
theorem p5m {s:Int} {k:ByteArray} :∀(l:List u2j),(∃y∈l,y.1=k∧vCs y≤s)→ ∃x∈l,x.1=k∧vCs x≤s∧ ∀y∈l,y.1=k→vCs y≤s→vCs y≤vCs x
 | [],h=>by obtain⟨y,hy,_⟩:=h;cases hy
 | z::l,h=>by
  by_cases hl:∃y∈l,y.1=k∧vCs y≤s
  ·obtain⟨x,hx,h1,h2,h3⟩:=p5m l hl
   by_cases hz:z.1=k∧vCs z≤s∧vCs x<vCs z
   ·refine⟨z,by simp,hz.1,hz.2.1,fun y hy e1 e2=> ?_⟩
    rcases List.mem_cons.mp hy with rfl | hy
    ·exact Int.le_refl _
    ·have:=h3 y hy e1 e2;omega
   ·refine⟨x,by simp[hx],h1,h2,fun y hy e1 e2=> ?_⟩
    rcases List.mem_cons.mp hy with rfl | hy
    ·exact Int.not_lt.mp fun q=>hz ⟨e1,e2,q⟩
    ·exact h3 y hy e1 e2
  ·obtain⟨y,hy,h1,h2⟩:=h
   have hyz:y=z:=by
    rcases List.mem_cons.mp hy with e | e
    ·exact e
    ·exact absurd ⟨y,e,h1,h2⟩ hl
   subst hyz
   refine⟨y,by simp,h1,h2,fun w hw e1 e2=> ?_⟩
   rcases List.mem_cons.mp hw with rfl | hw
   ·exact Int.le_refl _
   ·exact absurd ⟨w,hw,e1,e2⟩ hl
theorem r51 {l:List u2j} (hA:VAsc l) {a b:Int} (hab:a≤b):u15 (u15 l a) b=u15 l b:=by
 have hT:=t5l hA a
 refine(t5l hT b).ext (t5l hA b) fun x=> ?_
 refine Iff.trans (u5l hT) (Iff.trans ?_ (u5l hA).symm)
 have hsub:∀y,y∈u15 l a→y∈l:=fun y hy=>(u90 l a).subset hy
 have hup:∀y,y∈l→vCs y >a→y∈u15 l a:=fun y hy h=>(u5l hA).mpr ⟨hy, .inl h⟩
 constructor
 ·rintro⟨hx,h⟩
  have hxl:=hsub x hx
  refine⟨hxl,?_⟩
  rcases h with h | ⟨h1,h2⟩
  ·exact .inl h
  ·right
   have hL:p7g l b x:=by
    refine⟨h1.1,fun y hy e1 e2=> ?_⟩
    by_cases c:vCs y >a
    ·exact h1.2 y (hup y hy c) e1 e2
    ·by_cases c2:vCs x >a
     ·omega
     ·rcases(u5l hA).mp hx with ⟨_,h3 | ⟨h3,_⟩⟩
      ·exact absurd h3 c2
      ·exact h3.2 y hy e1 (by omega)
   refine⟨hL,?_⟩
   rcases h2 with h2 | ⟨y,hy,e1,e2⟩
   ·exact .inl h2
   ·exact .inr ⟨y,hsub y hy,e1,e2⟩
 ·rintro⟨hxl,h⟩
  rcases h with h | ⟨h1,h2⟩
  ·exact⟨hup x hxl (by omega), .inl h⟩
  ·have hx:x∈u15 l a:=by
    by_cases c:vCs x >a
    ·exact hup x hxl c
    ·refine(u5l hA).mpr ⟨hxl, .inr ⟨⟨by omega,fun y hy e1 e2=>h1.2 y hy e1 (by omega)⟩,?_⟩⟩
     rcases h2 with h2 | ⟨y,hy,e1,e2⟩
     ·exact .inl h2
     ·exact .inr ⟨y,hy,e1,by omega⟩
   refine⟨hx, .inr ⟨⟨h1.1,fun y hy=>h1.2 y (hsub y hy)⟩,?_⟩⟩
   rcases h2 with h2 | ⟨y,hy,e1,e2⟩
   ·exact .inl h2
   ·exact .inr ⟨y,hup y hy (by omega),e1,e2⟩
theorem r78 {l:List u2j} (hA:VAsc l) {s:Int} (hs:∀x∈l,vCs x≤s) {x:u2j} :x∈u15 l s↔x∈l∧x.2.2.1=false∧ ∀y∈l,y.1=x.1→vCs y≤vCs x:=by
 rw[u5l hA]
 constructor
 ·rintro⟨hx,h⟩
  refine⟨hx,?_⟩
  rcases h with h | ⟨h1,h2 | ⟨y,hy,_,h2⟩⟩
  ·have:=hs x hx;omega
  ·exact⟨h2,fun y hy e=>h1.2 y hy e (hs y hy)⟩
  ·have:=hs y hy;omega
 ·rintro⟨hx,h1,h2⟩
  exact⟨hx, .inr ⟨⟨hs x hx,fun y hy e _=>h2 y hy e⟩, .inl h1⟩⟩
theorem r6z {l:List u2j} (hA:VAsc l) {a:Int} {x:u2j} :(x∈u15 l a∧x.2.2.1=false∧ ∀y∈u15 l a,y.1=x.1→vCs y≤vCs x)↔(x∈l∧x.2.2.1=false∧ ∀y∈l,y.1=x.1→vCs y≤vCs x):=by
 constructor
 ·rintro⟨hx,h1,h2⟩
  have hxl:=(u90 l a).subset hx
  refine⟨hxl,h1,fun y hy e=> ?_⟩
  by_cases c:vCs y >a
  ·exact h2 y ((u5l hA).mpr ⟨hy, .inl c⟩) e
  ·rcases(u5l hA).mp hx with ⟨_,h3 | ⟨h3,_⟩⟩
   ·omega
   ·exact h3.2 y hy e (by omega)
 ·rintro⟨hx,h1,h2⟩
  refine⟨(u5l hA).mpr ⟨hx,?_⟩,h1,fun y hy=>h2 y ((u90 l a).subset hy)⟩
  by_cases c:vCs x >a
  ·exact .inl c
  ·exact .inr ⟨⟨by omega,fun y hy e _=>h2 y hy e⟩, .inl h1⟩
theorem p7s {l:List u2j} (hA:VAsc l) {v:u2j} (hn:∀x∈l,¬(x.1=v.1∧vCs x=vCs v)):VAsc (p2k l v):=by
 have le_iff:∀x:u2j,u71 v x=true↔(vLt x v∨(x.1=v.1∧vCs x=vCs v)):=fun x=>by
  unfold u71 vLt
  rw[Bool.or_eq_true,Bool.and_eq_true,decide_eq_true_eq]
  constructor
  ·rintro(h | ⟨h1,h2⟩)
   ·exact .inl (.inl h)
   ·have h1:=y7f.mp h1
    have h2:vCs x≤vCs v:=h2
    rcases Int.lt_or_eq_of_le h2 with h2 | h2
    ·exact .inl (.inr ⟨h1,h2⟩)
    ·exact .inr ⟨h1,h2⟩
  ·rintro((h | ⟨h1,h2⟩) | ⟨h1,h2⟩)
   ·exact .inl h
   ·exact .inr ⟨y7f.mpr h1,Int.le_of_lt h2⟩
   ·exact .inr ⟨y7f.mpr h1,Int.le_of_eq h2⟩
 have tr:∀ {a b c:u2j},vLt a b→vLt b c→vLt a c:=fun {a b c} h k=>by
  rcases h with h | ⟨h,h'⟩<;>rcases k with k | ⟨k,k'⟩
  ·exact .inl (r3g h k)
  ·exact .inl (k ▸ h)
  ·exact .inl (h ▸ k)
  ·exact .inr ⟨h.trans k,by omega⟩
 unfold p2k VAsc
 have hsplit:l.takeWhile (u71 v)++l.dropWhile (u71 v)=l:=List.takeWhile_append_dropWhile
 have hA' :(l.takeWhile (u71 v)++l.dropWhile (u71 v)).Pairwise vLt:=by rw[hsplit];exact hA
 obtain⟨p1,p2,p3⟩:=List.pairwise_append.mp hA'
 have lo:∀x∈l.takeWhile (u71 v),vLt x v:=fun x hx=>by
  have h1:u71 v x=true:=by
   have:=List.all_takeWhile (p:=u71 v) (l:=l)
   exact List.all_eq_true.mp this x hx
  have h2:x∈l:=(List.takeWhile_sublist _).subset hx
  rcases(le_iff x).mp h1 with h | h
  ·exact h
  ·exact absurd h (hn x h2)
 have hi:∀x∈l.dropWhile (u71 v),vLt v x:=by
  intro x hx
  match hd:l.dropWhile (u71 v),hx,p2 with
  | [],hx,_=>cases hx
  | y::r,hx,p2=>
   have hy:u71 v y=false:=by
    have:=List.head?_dropWhile_not (u71 v) l
    rw[hd] at this
    simpa using this
   have hyl:y∈l:=(List.dropWhile_sublist (p:=u71 v)).subset (by rw[hd];simp)
   have hvy:vLt v y:=by
    rcases p9v y v (hn y hyl) with h | h
    ·rw[(le_iff y).mpr (.inl h)] at hy;cases hy
    ·exact h
   rcases List.mem_cons.mp hx with rfl | hx
   ·exact hvy
   ·exact tr hvy ((List.pairwise_cons.mp p2).1 x hx)
 rw[List.append_assoc,List.pairwise_append]
 refine⟨p1,?_,?_⟩
 ·rw[List.singleton_append,List.pairwise_cons]
  exact⟨hi,p2⟩
 ·intro x hx y hy
  rcases List.mem_append.mp hy with hy | hy
  ·rw[List.mem_singleton] at hy;subst hy;exact lo x hx
  ·exact p3 x hx y hy
theorem r5v {cs:Int} :∀(ws:List u56.den) {l:List u2j},VAsc l→KD ws→(∀x∈l,∀w∈ws,¬(x.1=w.1∧vCs x=cs))→VAsc (t5y l ws cs)
 | [],l,h,_,_=>h
 | w::ws,l,h,hk,hn=>by
  have hk' :=List.pairwise_cons.mp hk
  have e:t5y l (w::ws) cs=t5y (p2k l (w.1,w.2.1,w.2.2,cs)) ws cs:=rfl
  rw[e]
  refine r5v ws (p7s h fun x hx=>hn x hx w (by simp)) hk'.2 fun x hx z hz=> ?_
  rcases p7k.mp hx with rfl | hx
  ·exact fun q=>hk'.1 z hz q.1
  ·exact hn x hx z (by simp[hz])
theorem p79 {l:List u2j} (hA:VAsc l) {ws:List u56.den} (hk:KD ws) {a c:Int} (hl:∀x∈l,vCs x<c):
 u15 (t5y (u15 l a) ws c) c=u15 (t5y l ws c) c:=by
 have hT:=t5l hA a
 have hlT:∀x∈u15 l a,vCs x<c:=fun x hx=>hl x ((u90 l a).subset hx)
 have P1:VAsc (t5y (u15 l a) ws c):=r5v ws hT hk fun x hx w _ q=>by have:=hlT x hx;omega
 have P2:VAsc (t5y l ws c):=r5v ws hA hk fun x hx w _ q=>by have:=hl x hx;omega
 have t1:∀x∈t5y (u15 l a) ws c,vCs x≤c:=fun x hx=>by
  rcases(t8q ws _ c).mp hx with h | ⟨w,_,rfl⟩
  ·have:=hlT x h;omega
  ·exact Int.le_refl _
 have t2:∀x∈t5y l ws c,vCs x≤c:=fun x hx=>by
  rcases(t8q ws _ c).mp hx with h | ⟨w,_,rfl⟩
  ·have:=hl x h;omega
  ·exact Int.le_refl _
 have key:∀(m:List u2j),(∀x∈m,vCs x<c)→ ∀x,(x∈t5y m ws c∧x.2.2.1=false∧ ∀y∈t5y m ws c,y.1=x.1→vCs y≤vCs x)↔
  ((∃w∈ws,x=(w.1,w.2.1,w.2.2,c))∧x.2.2.1=false)∨((∀w∈ws,w.1≠x.1)∧x∈m∧x.2.2.1=false∧ ∀y∈m,y.1=x.1→vCs y≤vCs x):=by
  intro m hm x
  have mp:=fun y=>t8q (x:=y) ws m c
  constructor
  ·rintro⟨h1,h2,h3⟩
   rcases(mp x).mp h1 with h | h
   ·refine .inr ⟨fun w hw e=> ?_,h,h2,fun y hy e=>h3 y ((mp y).mpr (.inl hy)) e⟩
    have q:c≤vCs x:=h3 (w.1,w.2.1,w.2.2,c) ((mp _).mpr (.inr ⟨w,hw,rfl⟩)) e
    have:=hm x h
    omega
   ·exact .inl ⟨h,h2⟩
  ·rintro(⟨h1,h2⟩ | ⟨h1,h2,h3,h4⟩)
   ·refine⟨(mp x).mpr (.inr h1),h2,fun y hy _=> ?_⟩
    obtain⟨w,hw,rfl⟩:=h1
    show vCs y≤c
    rcases(mp y).mp hy with h | ⟨w,_,rfl⟩
    ·have:=hm y h;omega
    ·exact Int.le_refl _
   ·refine⟨(mp x).mpr (.inl h2),h3,fun y hy e=> ?_⟩
    rcases(mp y).mp hy with h | ⟨w,hw,rfl⟩
    ·exact h4 y h e
    ·exact absurd e (h1 w hw)
 refine(t5l P1 c).ext (t5l P2 c) fun x=> ?_
 rw[r78 P1 t1,r78 P2 t2,key _ hlT,key _ hl,r6z hA]
end
section
abbrev s28:=ByteArray×ByteArray
abbrev WrT:=ByteArray×ByteArray×Bool
abbrev u1w:=u0h×List u0d
def inB (x lo hi:Int):Bool:=decide (lo≤x)&&decide (x≤hi)
theorem r6w {x lo hi:Int} :inB x lo hi=true↔lo≤x∧x≤hi:=by simp[inB]
def u78 (s:ByteArray):Bool:=s.data.toList.all (fun b=>decide (97≤b.toNat)&&decide (b.toNat≤122))&&(decide (1≤s.size)&&decide (s.size≤3))
def u5m (r:s28):Bool:=u78 r.1&&(u78 r.2&&(y3c r.1 r.2 || z7o r.1 r.2))
def u52 (w:WrT):Bool:=u78 w.1&&(decide (w.2.1.size≤12)&&(!w.2.2 || decide (w.2.1.size=0)))
def p0a (t:Ty) (lt:t.den→t.den→Bool) (l:List t.den):Bool:=(List.range l.length).all fun i=>decide (i=0) || lt (rdL t l (i - 1)) (rdL t l i)
def u7w (l:List WrT):Bool:=l.all u52&&(p0a u56 (fun a b=>y3c a.1 b.1) l&&decide (l.length≤8))
def t7l (t:u0d):Bool:=
 inB t.1 1 9999&&(inB t.2.1 1 3&&(inB t.2.2.1 0 9999&&(decide (t.2.2.2.2.1.length≤8)&&(u7w t.2.2.2.2.2.1&&(t.2.2.2.2.1.all u5m&&
 ((if t.2.1=3 then inB t.2.2.2.1 (t.2.2.1+1) 9999 else decide (t.2.2.2.1=0))&&((if t.2.1=2 then u78 t.2.2.2.2.2.2.2 else decide (t.2.2.2.2.2.2.2.size=0))&&(!decide (t.2.1=1) || !t.2.2.2.2.2.2.1))))))))
def q2b (v:u2j):Bool:=u78 v.1&&(decide (v.2.1.size≤12)&&((!v.2.2.1 || decide (v.2.1.size=0))&&inB v.2.2.2 1 9999))
def r8i (a b:u2j):Bool:=y3c a.1 b.1 || (z7o a.1 b.1&&decide (a.2.2.2<b.2.2.2))
def t3p (l:List u2j):Bool:=l.all q2b&&(p0a u0f r8i l&&decide (l.length≤120))
def q3z (l:List Int) (below:Int):Bool:=decide (∀x∈l,x<below)&&decide l.Nodup
def p5x (c:Int) (l:List u0d):Bool:=decide (l.length≤12)&&(l.all (fun t=>t7l t&&(decide (t.2.1=3)&&decide (t.2.2.2.1≤c)))&&p0a u1u (fun a b=>decide (a.2.2.2.1<b.2.2.2.1)) l)
def p1p (c:Int) (l:List u0d):Bool:=decide (l.length≤3)&&(l.all (fun t=>t7l t&&(decide (t.2.1=2)&&decide (t.2.2.1≤c)))&&p0a u1u (fun a b=>y3c a.2.2.2.2.2.2.2 b.2.2.2.2.2.2.2) l)
def p5u (c:Int) (l:List u0d):Bool:=decide (l.length≤4)&&(l.all (fun t=>t7l t&&(decide (t.2.1=1)&&decide (t.2.2.1≤c)))&&p0a u1u (fun a b=>decide (a.1<b.1)) l)
def u6f (l:List u0d):List Int:=l.map fun t=>t.1
def t7a (b:u0h):Bool:=t3p b.1&&(b.1.all (fun v=>decide (v.2.2.2≤b.2.2.2.1))&&(inB b.2.2.2.1 0 9999&&(inB b.2.2.2.2 1 9999&&(p5x b.2.2.2.1 b.2.1&&(p1p b.2.2.2.1 b.2.2.1&&q3z (u6f (b.2.1++b.2.2.1)) b.2.2.2.2)))))
def p68 (e:u1w):Bool:=t7a e.1&&(p5u e.1.2.2.2.1 e.2&&q3z (u6f (e.1.2.1++e.1.2.2.1++e.2)) e.1.2.2.2.2)
theorem q5t {t:Ty} {lt:t.den→t.den→Bool} (tr:∀a b c,lt a b=true→lt b c=true→lt a c=true) {l:List t.den} :p0a t lt l=true↔l.Pairwise fun a b=>lt a b=true:=by
 unfold p0a
 rw[List.all_eq_true]
 constructor
 ·intro h
  have step:∀(i:Nat) (hi:i+1<l.length),lt l[i] l[i+1] =true:=fun i hi=>by
   have:=h (i+1) (List.mem_range.mpr hi)
   rw[Bool.or_eq_true,decide_eq_true_eq] at this
   rcases this with q | q
   ·omega
   ·rw[Nat.add_sub_cancel,y8k (show i<l.length by omega),y8k hi] at q
    exact q
  rw[List.pairwise_iff_getElem]
  intro i j hi hj hij
  obtain⟨d,rfl⟩:∃d,j=i+1+d:=⟨j - (i+1),by omega⟩
  clear hij
  induction d with
  | zero=>exact step i hj
  | succ d ih=>exact tr _ _ _ (ih (by omega)) (step (i+1+d) hj)
 ·intro h i hi
  have hi:=List.mem_range.mp hi
  rw[Bool.or_eq_true,decide_eq_true_eq]
  by_cases e:i=0
  ·exact .inl e
  ·refine .inr ?_
   rw[y8k (show i - 1<l.length by omega),y8k hi]
   exact List.pairwise_iff_getElem.mp h (i - 1) i (by omega) hi (by omega)
theorem u3e {s:ByteArray} (h:u78 s=true):1≤s.size∧s.size≤3:=by
 unfold u78 at h
 simp only[Bool.and_eq_true,decide_eq_true_eq] at h
 exact h.2
structure TxnR (t:u0d):Prop where
 id:1≤t.1∧t.1≤9999
 st:1≤t.2.1∧t.2.1≤3
 snap:0≤t.2.2.1∧t.2.2.1≤9999
 rlen:t.2.2.2.2.1.length≤8
 ws:u7w t.2.2.2.2.2.1=true
 rs:∀r∈t.2.2.2.2.1,u5m r=true
 done:t.2.1=3→t.2.2.1+1≤t.2.2.2.1∧t.2.2.2.1≤9999
 nocs:t.2.1≠3→t.2.2.2.1=0
 name:t.2.1=2→u78 t.2.2.2.2.2.2.2=true
 noname:t.2.1≠2→t.2.2.2.2.2.2.2.size=0
 out:t.2.1=1→t.2.2.2.2.2.2.1=false
theorem r52 {t:u0d} :t7l t=true↔TxnR t:=by
 unfold t7l
 simp only[Bool.and_eq_true,Bool.or_eq_true,r6w,decide_eq_true_eq,List.all_eq_true,Bool.not_eq_true',decide_eq_false_iff_not]
 constructor
 ·rintro⟨h1,h2,h3,h4,h5,h6,h7,h8,h9⟩
  refine⟨h1,h2,h3,h4,h5,h6,fun e=> ?_,fun e=> ?_,fun e=> ?_,fun e=> ?_,fun e=> ?_⟩
  ·rw[if_pos e,r6w] at h7;exact h7
  ·rw[if_neg e,decide_eq_true_eq] at h7;exact h7
  ·rw[if_pos e] at h8;exact h8
  ·rw[if_neg e,decide_eq_true_eq] at h8;exact h8
  ·rcases h9 with h9 | h9
   ·exact absurd e h9
   ·exact h9
 ·intro h
  refine⟨h.id,h.st,h.snap,h.rlen,h.ws,h.rs,?_,?_,?_⟩
  ·split
   ·rename_i e;rw[r6w];exact h.done e
   ·rename_i e;rw[decide_eq_true_eq];exact h.nocs e
  ·split
   ·rename_i e;exact h.name e
   ·rename_i e;rw[decide_eq_true_eq];exact h.noname e
  ·by_cases e:t.2.1=1
   ·exact .inr (h.out e)
   ·exact .inl e
theorem p8y {l:List WrT} :u7w l=true↔(∀w∈l,u52 w=true)∧(l.Pairwise fun a b=>y3c a.1 b.1=true)∧l.length≤8:=by
 unfold u7w
 rw[Bool.and_eq_true,Bool.and_eq_true,decide_eq_true_eq,List.all_eq_true,q5t (t:=u56) (lt:=fun a b=>y3c a.1 b.1) (fun a b c h k=>r3g h k)]
theorem q96 {l:List WrT} (h:u7w l=true):KD l:=
 (p8y.mp h).2.1.imp fun {a b} q e=>by rw[e,u9z] at q;cases q
theorem p4f {a b:u2j} :r8i a b=true↔vLt a b:=by
 unfold r8i vLt vCs
 rw[Bool.or_eq_true,Bool.and_eq_true,decide_eq_true_eq,y7f]
theorem o1h {a b c:u2j} (h:vLt a b) (k:vLt b c):vLt a c:=by
 rcases h with h | ⟨h,h'⟩<;>rcases k with k | ⟨k,k'⟩
 ·exact .inl (r3g h k)
 ·exact .inl (k ▸ h)
 ·exact .inl (h ▸ k)
 ·exact .inr ⟨h.trans k,by omega⟩
theorem p6s {l:List u2j} :t3p l=true↔(∀v∈l,q2b v=true)∧VAsc l∧l.length≤120:=by
 unfold t3p
 rw[Bool.and_eq_true,Bool.and_eq_true,decide_eq_true_eq,List.all_eq_true,q5t (t:=u0f) (lt:=r8i) (fun a b c h k=>p4f.mpr (o1h (p4f.mp h) (p4f.mp k)))]
 unfold VAsc
 simp only[p4f]
theorem r5q {l:List Int} {n:Int} :q3z l n=true↔(∀x∈l,x<n)∧l.Nodup:=by
 unfold q3z;rw[Bool.and_eq_true,decide_eq_true_eq,decide_eq_true_eq]
structure BaseR (b:u0h):Prop where
 vs:t3p b.1=true
 vcs:∀v∈b.1,v.2.2.2≤b.2.2.2.1
 cs:0≤b.2.2.2.1∧b.2.2.2.1≤9999
 next:1≤b.2.2.2.2∧b.2.2.2.2≤9999
 plen:b.2.1.length≤12
 past:∀t∈b.2.1,TxnR t∧t.2.1=3∧t.2.2.2.1≤b.2.2.2.1
 pasc:b.2.1.Pairwise fun x y=>x.2.2.2.1<y.2.2.2.1
 rlen:b.2.2.1.length≤3
 ready:∀t∈b.2.2.1,TxnR t∧t.2.1=2∧t.2.2.1≤b.2.2.2.1
 rasc:b.2.2.1.Pairwise fun x y=>y3c x.2.2.2.2.2.2.2 y.2.2.2.2.2.2.2=true
 below:∀x∈u6f (b.2.1++b.2.2.1),x<b.2.2.2.2
 nodup:(u6f (b.2.1++b.2.2.1)).Nodup
theorem o3c {l:List u0d} {f:u0d→Int} :p0a u1u (fun a b=>decide (f a<f b)) l=true↔l.Pairwise fun x y=>f x<f y:=by
 rw[q5t (t:=u1u) (lt:=fun a b=>decide (f a<f b)) (fun a b c h k=>by simp only[decide_eq_true_eq] at*;omega)]
 simp only[decide_eq_true_eq]
theorem o5t {l:List u0d} :p0a u1u (fun a b=>y3c a.2.2.2.2.2.2.2 b.2.2.2.2.2.2.2) l=true↔l.Pairwise fun x y=>y3c x.2.2.2.2.2.2.2 y.2.2.2.2.2.2.2=true:=
 q5t (t:=u1u) (lt:=fun a b=>y3c a.2.2.2.2.2.2.2 b.2.2.2.2.2.2.2) (fun a b c h k=>r3g h k)
theorem q4m {b:u0h} :t7a b=true↔BaseR b:=by
 unfold t7a p5x p1p
 simp only[Bool.and_eq_true,r6w,decide_eq_true_eq,List.all_eq_true,r52,r5q,o5t]
 rw[o3c (f:=fun t=>t.2.2.2.1)]
 constructor
 ·rintro⟨h1,h2,h3,h4,⟨h5,h6,h7⟩,⟨h8,h9,h10⟩,h11,h12⟩
  exact⟨h1,h2,h3,h4,h5,h6,h7,h8,h9,h10,h11,h12⟩
 ·intro h
  exact⟨h.vs,h.vcs,h.cs,h.next,⟨h.plen,h.past,h.pasc⟩,⟨h.rlen,h.ready,h.rasc⟩,h.below,h.nodup⟩
structure EngR (e:u1w):Prop where
 base:BaseR e.1
 olen:e.2.length≤4
 open_:∀t∈e.2,TxnR t∧t.2.1=1∧t.2.2.1≤e.1.2.2.2.1
 oasc:e.2.Pairwise fun x y=>x.1<y.1
 below:∀x∈u6f (e.1.2.1++e.1.2.2.1++e.2),x<e.1.2.2.2.2
 nodup:(u6f (e.1.2.1++e.1.2.2.1++e.2)).Nodup
theorem o0y {e:u1w} :p68 e=true↔EngR e:=by
 unfold p68 p5u
 simp only[Bool.and_eq_true,decide_eq_true_eq,List.all_eq_true,r52,r5q,q4m]
 rw[o3c (f:=fun t=>t.1)]
 constructor
 ·rintro⟨h1,⟨h2,h3,h4⟩,h5,h6⟩
  exact⟨h1,h2,h3,h4,h5,h6⟩
 ·intro h
  exact⟨h.base,⟨h.olen,h.open_,h.oasc⟩,h.below,h.nodup⟩
end
section
theorem u60 (l:List Int):(y7g l).size=l.length:=by
 simp[y7g,ByteArray.size]
theorem p66 {s:ByteArray} {i:Nat} (h:i<s.size):s.data.toList.getD i 0=s.data.toList[i]'(by simpa using h):=by
 rw[List.getD_eq_getElem?_getD,List.getElem?_eq_getElem (by simpa using h)]
 rfl
theorem o1e (n m:Nat):Int.tdiv (n:Int) (m:Int)=((n / m:Nat):Int):=(Int.ofNat_tdiv n m).symm
theorem p6e (n m:Nat):Int.tmod (n:Int) (m:Int)=((n % m:Nat):Int):=(Int.ofNat_tmod n m).symm
theorem p9y {n:Nat} (h:n<256):IntKind.u8.wrap (n:Int)=(n:Int):=by
 simp[IntKind.wrap,IntKind.bits,IntKind.signed]
 omega
end
section
abbrev u0j:=List ByteArray×List (Int×ByteArray)
theorem p8q:(⟨#[]⟩:ByteArray)=emp:=rfl
def r21 (a b c:Int):Bool:=decide (b≤a)&&decide (a≤c)
theorem p6k (a b c:Int):t91 (a,b,c)=some (r21 a b c):=by
 rw[q58];unfold r4k r21
 simp only[ge_iff_le]
 cases decide (b≤a)<;>rfl
theorem t76 (a b c:Int):u0n (a,b,c)=some (r21 a b c):=by
 rw[q8z];unfold r7z r21
 simp only[ge_iff_le]
 cases decide (b≤a)<;>rfl
theorem s3n {d:u0j} :d.1.length≤o5r.wt d:=by simp only[Ty.wt];omega
theorem s9h {d:u0j} :d.2.length≤o5r.wt d:=by simp only[Ty.wt];omega
theorem p73 {d:u0j} {s:ByteArray} (h:s∈d.1):s.size≤o5r.wt d:=by
 have h1:o5r.wt d=(d.1.length+(d.1.map Ty.str.wt).sum)+(d.2.length+(d.2.map p6o.wt).sum):=rfl
 have h2:=q5b (f:=Ty.str.wt) h
 have h3:Ty.str.wt s=s.size:=rfl
 omega
theorem p7w {d:u0j} {p:Int×ByteArray} (h:p∈d.2):p.2.size≤o5r.wt d:=by
 have h1:o5r.wt d=(d.1.length+(d.1.map Ty.str.wt).sum)+(d.2.length+(d.2.map p6o.wt).sum):=rfl
 have h2:=q5b (f:=p6o.wt) h
 have h3:p6o.wt p=0+p.2.size:=rfl
 omega
def t2e (c:List (Int×ByteArray)) (at_:Int):Option ByteArray:=c.foldl (fun t p=>if p.1=at_ then some p.2 else t) none
def u0g (d:u0j) (at_:Int):ByteArray×Bool:=if 0≤at_∧at_<d.1.length then((t2e d.2 at_).getD (rdL Ty.str d.1 at_.toNat),true) else(emp,false)
theorem s9w (c:List (Int×ByteArray)) (p:Int×ByteArray) (at_:Int):t2e (c++ [p]) at_=if p.1=at_ then some p.2 else t2e c at_:=by
 simp[t2e,List.foldl_append]
theorem r30 {c:List (Int×ByteArray)} {at_:Int} {s:ByteArray} (h:t2e c at_=some s):∃p∈c,p.2=s:=by
 have key:∀(c:List (Int×ByteArray)) (z:Option ByteArray),c.foldl (fun t p=>if p.1=at_ then some p.2 else t) z=some s→z=some s∨ ∃p∈c,p.2=s:=by
  intro c
  induction c with
  | nil=>intro z h;exact .inl h
  | cons p c ih=>
   intro z h
   rw[List.foldl_cons] at h
   rcases ih _ h with h | ⟨q,hq,h⟩
   ·split at h
    ·exact .inr ⟨p,by simp,by simpa using h⟩
    ·exact .inl h
   ·exact .inr ⟨q,by simp[hq],h⟩
 rcases key c none h with h | h
 ·cases h
 ·exact h
theorem r8b (d:u0j) (at_:Int):(u0g d at_).1.size≤o5r.wt d:=by
 unfold u0g
 split
 ·rename_i h
  cases hl:t2e d.2 at_ with
  | none=>
   simp only[Option.getD_none]
   have hi:at_.toNat<d.1.length:=by omega
   rw[y8k (t:=Ty.str) hi]
   exact p73 (List.getElem_mem hi)
  | some s=>
   simp only[Option.getD_some]
   obtain⟨p,hp,rfl⟩:=r30 hl
   exact p7w hp
 ·show 0≤_;omega
theorem p7f (d:u0j) (at_:Int) (hd:d.1.length≤u0p):r21 at_ 0 (IntKind.i64.wrap ((d.1.length:Int) - 1))=decide (0≤at_∧at_<d.1.length):=by
 unfold u0p at hd
 rw[y4y (by omega) (by omega)]
 unfold r21
 by_cases h:0≤at_∧at_<d.1.length
 ·rw[decide_eq_true h,decide_eq_true h.1,decide_eq_true (by omega)];rfl
 ·rw[decide_eq_false h]
  by_cases h0:0≤at_
  ·rw[decide_eq_true h0,decide_eq_false (by omega)];rfl
  ·rw[decide_eq_false h0];rfl
theorem t99 (d:u0j) (at_:Int) (hd:o5r.wt d≤u0p):u6q (d,at_)=some (u0g d at_):=by
 have h1:d.1.length≤u0p:=Nat.le_trans s3n hd
 have h2:d.2.length≤u0p:=Nat.le_trans s9h hd
 rw[r6n];unfold s3g
 simp only[t76,p7f d at_ h1,zOb]
 unfold u0g
 unfold u0p at h1 h2
 by_cases h:0≤at_∧at_<d.1.length
 ·have hg:y4q at_ d.1.length=true:=by simp[y4q,h]
  have L:∀n:Nat,n≤d.2.length→u9m (at_,d,(n:Int) - 1)=some (match t2e (d.2.take n) at_ with
   | some s=> .inr (s,true)
   | none=> .inl (at_,d)):=by
   intro n
   induction n with
   | zero=>
    intro _
    rw[s06];simp only[u9j]
    rfl
   | succ n ih=>
    intro hn
    have hlt:n<d.2.length:=by omega
    rw[s06];simp only[u9j]
    have e0:((n+1:Nat):Int) - 1=(n:Int):=by simp
    have e1:decide ((n:Int)≥0)=true:=by simp
    simp only[e0,e1,cond_true,y7t hlt,zTn,y8k (t:=p6o) hlt]
    rw[List.take_succ_eq_append_getElem hlt,s9w]
    by_cases hp:(d.2[n]).1=at_
    ·simp only[hp,decide_true,cond_true,if_true]
    ·simp only[hp,decide_false,cond_false,if_false]
     rw[y4y (by omega) (by omega)]
     exact ih (by omega)
  have L:=L d.2.length (Nat.le_refl _)
  rw[List.take_length] at L
  have wl:IntKind.i64.wrap ((d.2.length:Int) - 1)=(d.2.length:Int) - 1:=y4y (by omega) (by omega)
  simp only[h,and_self,decide_true,Bool.not_true,cond_false,if_true]
  rw[wl,L]
  cases t2e d.2 at_ with
  | none=>simp only[zOb,hg,cond_true,Option.getD_none]
  | some s=>rfl
 ·simp only[h,decide_false,Bool.not_false,cond_true,if_false];rfl
def r66 (d:u0j) (from_:Int):Nat→Nat→ByteArray→ByteArray×Bool
 | 0,_,acc=>(acc,true)
 | m+1,i,acc=>if(u0g d (from_+(i:Int))).2 then r66 d from_ m (i+1) (acc++(u0g d (from_+(i:Int))).1) else(emp,false)
def t2n (d:u0j) (from_ n:Int):ByteArray×Bool:=if 0≤n∧n≤100 then r66 d from_ n.toNat 0 emp else(emp,false)
theorem q6z {a b c:Int} :r21 a b c=decide (b≤a∧a≤c):=by
 unfold r21
 by_cases h:b≤a<;>by_cases g:a≤c<;>simp[h,g]
theorem r93 (d:u0j) (from_ n:Int) (hd:o5r.wt d≤1073741824) (h1: -4611686018427387904≤from_) (h2:from_≤4611686018427387904):t7j (d,from_,n)=some (t2n d from_ n):=by
 have hb:o5r.wt d≤u0p:=by unfold u0p;omega
 rw[r6p];unfold s3i t2n
 simp only[t76,q6z,zOb]
 by_cases h:0≤n∧n≤100
 ·obtain⟨m,rfl⟩:∃m:Nat,n=m:=⟨n.toNat,by omega⟩
  have L:=r3t (fun x=>(u9n x).bind fun r=>match r with
   | .inl o=>some (o,true)
   | .inr z=>some z) m (fun(a:ByteArray) i=>(from_,(m:Int),d,a,i)) (fun i a=>r66 d from_ (m - i) i a) (fun i a=>a.size≤i*1073741824∧(i=0∨0≤from_))
   (fun a _=>by
    rw[s07];simp only[u9k,u0b,Nat.lt_irrefl,decide_false,cond_false,zOb,Nat.sub_self,r66])
   (fun i a hi ha=>by
    have e:m - i=(m - (i+1))+1:=by omega
    have hs:=r8b d (from_+(i:Int))
    rw[s07];simp only[u9k,u0b,hi,decide_true,cond_true]
    rw[e]
    simp only[r66]
    by_cases hf:from_<0∨from_ >(d.1.length:Int)
    ·left
     have hno:(u0g d (from_+(i:Int))).2=false:=by
      unfold u0g
      rw[if_neg (by omega)]
     rw[hno]
     by_cases hf1:from_<0
     ·rw[decide_eq_true hf1];rfl
     ·have hf2:from_ >(d.1.length:Int):=by omega
      rw[decide_eq_false hf1,decide_eq_true hf2];rfl
    ·have hf1: ¬from_<0:=by omega
     have hf2: ¬from_ >(d.1.length:Int):=by omega
     rw[decide_eq_false hf1,decide_eq_false hf2]
     simp only[cond_false,zOb]
     rw[y4y (n:=from_+(i:Int)) (by omega) (by omega),t99 d _ hb]
     simp only[zOb]
     cases hr:(u0g d (from_+(i:Int))).2 with
     | false=>left;rfl
     | true=>
      right
      refine⟨a++(u0g d (from_+(i:Int))).1,⟨by rw[ByteArray.size_append];omega,by omega⟩,by simp,?_⟩
      simp only[Bool.not_true,cond_false,decide_eq_true (show a.size+(u0g d (from_+(i:Int))).1.size≤140737488355328 by omega),cond_true]
      rw[y7l (by omega)]) 0 emp (by omega) ⟨by show 0≤_;omega, .inl rfl⟩
  rw[decide_eq_true h,if_pos h,Bool.not_true,cond_false]
  exact L
 ·rw[decide_eq_false h,if_neg h];rfl
end
section
theorem p5d (v:Nat):(bif decide ((v:Int)<97) then some true else some (decide ((v:Int) >122)))=some (!(decide (97≤v)&&decide (v≤122))):=by
 have e1:decide ((v:Int)<97)= !decide (97≤v):=by by_cases h:97≤v<;>simp[h] <;>omega
 have e2:decide ((v:Int) >122)= !decide (v≤122):=by by_cases h:v≤122<;>simp[h] <;>omega
 rw[e1,e2]
 cases decide (97≤v)<;>cases decide (v≤122)<;>rfl
theorem p4h (a b c:Int):t91 (a,b,c)=some (inB a b c):=p6k a b c
theorem s3t (a b c:Int):u0n (a,b,c)=some (inB a b c):=t76 a b c
theorem s29 {X R:Type} (W:X→Option R) (n:Nat) (mk:Int→X) (ok:Nat→Bool) (yes no:R) (hend:W (mk (n:Int))=some yes)
 (hstep:∀(i:Nat),i<n→W (mk (i:Int))=bif ok i then W (mk ((i+1:Nat):Int)) else some no):W (mk 0)=some (bif (List.range n).all ok then yes else no):=by
 have key:∀d i:Nat,i+d=n→W (mk (i:Int))=some (bif (List.range d).all (fun j=>ok (i+j)) then yes else no):=by
  intro d
  induction d with
  | zero=>intro i hi;have:i=n:=by omega
          subst this;simpa using hend
  | succ d ih=>
   intro i hi
   rw[hstep i (by omega),ih (i+1) (by omega),List.range_succ_eq_map,List.all_cons,List.all_map,Nat.add_zero]
   have e:((fun j=>ok (i+j)) ∘Nat.succ)=fun j=>ok (i+1+j):=by funext j;simp only[Function.comp];congr 1;omega
   rw[e]
   cases ok i<;>rfl
 have:=key n 0 (by omega)
 simpa using this
theorem s9d {t:Ty} (l:List t.den) (f:t.den→Bool):((List.range l.length).all fun i=>f (rdL t l i))=l.all f:=by
 rw[Bool.eq_iff_iff,List.all_eq_true,List.all_eq_true]
 constructor
 ·intro h x hx
  obtain⟨i,hi,rfl⟩:=List.getElem_of_mem hx
  have:=h i (List.mem_range.mpr hi)
  rwa [y8k hi] at this
 ·intro h i hi
  rw[y8k (List.mem_range.mp hi)]
  exact h _ (List.getElem_mem _)
theorem p48 {α:Type} (l:List α) (f g:α→Bool):(l.all fun i=>f i&&g i)=(l.all f&&l.all g):=by
 induction l with
 | nil=>rfl
 | cons x l ih=>simp only[List.all_cons,ih];cases f x<;>cases g x<;>simp
theorem q0b {t:Ty} (l:List t.den) (f:t.den→Bool) (lt:t.den→t.den→Bool):
 ((List.range l.length).all fun i=>f (rdL t l i)&&(decide (i=0) || lt (rdL t l (i - 1)) (rdL t l i)))=(l.all f&&p0a t lt l):=by
 rw[p48 (List.range l.length) (fun i=>f (rdL t l i)) (fun i=>decide (i=0) || lt (rdL t l (i - 1)) (rdL t l i)),s9d]
 rfl
theorem r5u (i:Nat):decide ((i:Int) >0)= !decide (i=0):=by by_cases h:i=0<;>simp[h] <;>omega
theorem r0l {i:Nat} (h:i<4611686018427387904) (h0:i≠0):IntKind.i64.wrap ((i:Int) - (1:Int))=((i - 1:Nat):Int):=by
 rw[y4y (by omega) (by omega)];omega
theorem q60 (s:ByteArray) {i:Nat} (h:i<s.size):s.data.toList.getD i 0=s.data.toList[i]'h:=by
 rw[List.getD_eq_getElem?_getD,List.getElem?_eq_getElem h];rfl
theorem p26 (s:ByteArray) (hs:s.size≤u0p):s9z s=some (u78 s):=by
 have hb:u0p=1099511627776:=rfl
 have L:=s29 t7z s.size (fun i=>(s,i)) (fun i=>(fun b:UInt8=>decide (97≤b.toNat)&&decide (b.toNat≤122)) (s.data.toList.getD i 0)) (.inl s) (.inr false)
  (by rw[r3h];simp only[t7q,u0b,Nat.lt_irrefl,decide_false,cond_false])
  (fun i hi=>by
   rw[r3h];simp only[t7q,u0b,hi,decide_true,cond_true,y7t hi,zTn,y7l (show i<4611686018427387904 by omega)]
   rw[p5d];simp only[zOb]
   cases (decide (97≤(s.data.toList.getD i 0).toNat)&&decide ((s.data.toList.getD i 0).toNat≤122))<;>rfl)
 have hA:((List.range s.size).all fun i=>(fun b:UInt8=>decide (97≤b.toNat)&&decide (b.toNat≤122)) (s.data.toList.getD i 0))=s.data.toList.all (fun b=>decide (97≤b.toNat)&&decide (b.toNat≤122)):=by
  rw[Bool.eq_iff_iff,List.all_eq_true,List.all_eq_true]
  constructor
  ·intro h x hx
   obtain⟨i,hi,rfl⟩:=List.getElem_of_mem hx
   have:=h i (List.mem_range.mpr hi)
   rwa [q60 s hi] at this
  ·intro h i hi
   rw[q60 s (List.mem_range.mp hi)]
   exact h _ (List.getElem_mem _)
 rw[hA] at L
 rw[q8l];unfold r7l
 simp only[L,zOb]
 unfold u78
 cases s.data.toList.all (fun b=>decide (97≤b.toNat)&&decide (b.toNat≤122))
 ·rfl
 ·simp only[cond_true,p4h,zOb,Bool.true_and]
  unfold inB
  congr 1
  have e1:decide ((1:Int)≤(s.size:Int))=decide (1≤s.size):=by simp;omega
  have e2:decide ((s.size:Int)≤3)=decide (s.size≤3):=by simp;omega
  rw[e1,e2]
theorem t5m (s:ByteArray) (hs:s.size≤u0p):u6l s=some (u78 s):=by
 have hb:u0p=1099511627776:=rfl
 have L:=s29 t71 s.size (fun i=>(s,i)) (fun i=>(fun b:UInt8=>decide (97≤b.toNat)&&decide (b.toNat≤122)) (s.data.toList.getD i 0)) (.inl s) (.inr false)
  (by rw[r3k];simp only[t7t,u0b,Nat.lt_irrefl,decide_false,cond_false])
  (fun i hi=>by
   rw[r3k];simp only[t7t,u0b,hi,decide_true,cond_true,y7t hi,zTn,y7l (show i<4611686018427387904 by omega)]
   rw[p5d];simp only[zOb]
   cases (decide (97≤(s.data.toList.getD i 0).toNat)&&decide ((s.data.toList.getD i 0).toNat≤122))<;>rfl)
 have hA:((List.range s.size).all fun i=>(fun b:UInt8=>decide (97≤b.toNat)&&decide (b.toNat≤122)) (s.data.toList.getD i 0))=s.data.toList.all (fun b=>decide (97≤b.toNat)&&decide (b.toNat≤122)):=by
  rw[Bool.eq_iff_iff,List.all_eq_true,List.all_eq_true]
  constructor
  ·intro h x hx
   obtain⟨i,hi,rfl⟩:=List.getElem_of_mem hx
   have:=h i (List.mem_range.mpr hi)
   rwa [q60 s hi] at this
  ·intro h i hi
   rw[q60 s (List.mem_range.mp hi)]
   exact h _ (List.getElem_mem _)
 rw[hA] at L
 rw[q8t];unfold r7t
 simp only[L,zOb]
 unfold u78
 cases s.data.toList.all (fun b=>decide (97≤b.toNat)&&decide (b.toNat≤122))
 ·rfl
 ·simp only[cond_true,s3t,zOb,Bool.true_and]
  unfold inB
  congr 1
  have e1:decide ((1:Int)≤(s.size:Int))=decide (1≤s.size):=by simp;omega
  have e2:decide ((s.size:Int)≤3)=decide (s.size≤3):=by simp;omega
  rw[e1,e2]
theorem s8c (r:s28) (h1:r.1.size≤u0p) (h2:r.2.size≤u0p):t39 r=some (u5m r):=by
 rw[q24];unfold r1s u5m
 simp only[t5m _ h1,t5m _ h2,zOb]
 cases u78 r.1<;>cases u78 r.2<;>rfl
theorem s5b (s:ByteArray):z7o s (⟨#[]⟩:ByteArray)=decide (s.size=0):=by
 rw[Bool.eq_iff_iff,y7f,decide_eq_true_eq]
 constructor
 ·intro h;subst h;rfl
 ·intro h;exact ByteArray.ext (Array.eq_empty_of_size_eq_zero h)
theorem o5y (s:ByteArray):decide ((s.size:Int)≤12)=decide (s.size≤12):=by simp;omega
theorem s8g (w:WrT) (h1:w.1.size≤u0p):t4a w=some (u52 w):=by
 rw[q3d];unfold r19 u52
 simp only[t5m _ h1,zOb,s5b,o5y]
 cases u78 w.1<;>cases decide (w.2.1.size≤12)<;>cases w.2.2<;>rfl
theorem p4i {l:List WrT} {w:WrT} (h:w∈l):w.1.size≤(Ty.sl u56).wt l∧w.2.1.size≤(Ty.sl u56).wt l:=by
 have h1:(Ty.sl u56).wt l=l.length+(l.map u56.wt).sum:=rfl
 have h2:=q5b (f:=u56.wt) h
 have h3:u56.wt w=w.1.size+(w.2.1.size+0):=rfl
 omega
theorem p3z {l:List s28} {w:s28} (h:w∈l):w.1.size≤(Ty.sl t9i).wt l∧w.2.size≤(Ty.sl t9i).wt l:=by
 have h1:(Ty.sl t9i).wt l=l.length+(l.map t9i.wt).sum:=rfl
 have h2:=q5b (f:=t9i.wt) h
 have h3:t9i.wt w=w.1.size+w.2.size:=rfl
 omega
theorem r5y {t:Ty} (l:List t.den):l.length≤(Ty.sl t).wt l:=by
 have h1:(Ty.sl t).wt l=l.length+(l.map t.wt).sum:=rfl
 omega
theorem le8 (n:Nat):decide ((n:Int)≤8)=decide (n≤8):=by simp;omega
theorem gt8 (n:Nat):decide ((n:Int) >8)= !decide (n≤8):=by by_cases h:n≤8<;>simp[h] <;>omega
theorem r4b (l:List WrT) (hl:(Ty.sl u56).wt l≤u0p):t6y l=some (u7w l):=by
 have hb:u0p=1099511627776:=rfl
 have hn:=r5y (t:=u56) l
 have L:=s29 t3e l.length (fun i=>(l,i)) (fun i=>u52 (rdL u56 l i)&&(decide (i=0) || (fun a b:WrT=>y3c a.1 b.1) (rdL u56 l (i - 1)) (rdL u56 l i))) (.inl l) (.inr false)
  (by rw[s4w];simp only[t25,u0b,Nat.lt_irrefl,decide_false,cond_false])
  (fun i hi=>by
   have hm:rdL u56 l i∈l:=by rw[y8k hi];exact List.getElem_mem hi
   rw[s4w];simp only[t25,u0b,hi,decide_true,cond_true,y7t hi,zTn,y7l (show i<4611686018427387904 by omega),s8g _ (Nat.le_trans (p4i hm).1 hl),zOb,r5u]
   by_cases h0:i=0
   ·subst h0;simp only[decide_true,Bool.not_true,cond_false,Bool.true_or,Bool.and_true]
    cases u52 (rdL u56 l 0)<;>rfl
   ·simp only[h0,decide_false,Bool.not_false,cond_true,Bool.false_or,r0l (show i<4611686018427387904 by omega) h0,y7t (show i - 1<l.length by omega),zTn]
    cases u52 (rdL u56 l i)
    ·rfl
    ·simp only[Bool.not_true,cond_false,zOb,Bool.true_and]
     cases y3c (rdL u56 l (i - 1)).1 (rdL u56 l i).1<;>rfl)
 rw[q0b (t:=u56) l u52 (fun a b=>y3c a.1 b.1)] at L
 rw[q08];unfold s84
 simp only[L,zOb]
 unfold u7w
 cases l.all u52
 ·rfl
 ·cases p0a u56 (fun a b=>y3c a.1 b.1) l
  ·rfl
  ·simp only[Bool.true_and,cond_true]
   rw[le8]
theorem p8x (t:u0d):u1u.wt t=0+(0+(0+(0+((Ty.sl t9i).wt t.2.2.2.2.1+((Ty.sl u56).wt t.2.2.2.2.2.1+(0+t.2.2.2.2.2.2.2.size)))))):=rfl
theorem t5o (t:u0d) (ht:u1u.wt t≤u0p):u6n t=some (t7l t):=by
 have hb:u0p=1099511627776:=rfl
 have hw:=p8x t
 have hn:=r5y (t:=t9i) t.2.2.2.2.1
 have L:=s29 t74 t.2.2.2.2.1.length (fun i=>(t,i)) (fun i=>u5m (rdL t9i t.2.2.2.2.1 i)) (.inl t) (.inr false)
  (by rw[r3o];simp only[t7x,u0b,Nat.lt_irrefl,decide_false,cond_false])
  (fun i hi=>by
   have hm:rdL t9i t.2.2.2.2.1 i∈t.2.2.2.2.1:=by rw[y8k hi];exact List.getElem_mem hi
   have hz:=p3z hm
   rw[r3o];simp only[t7x,u0b,hi,decide_true,cond_true,y7t hi,zTn,y7l (show i<4611686018427387904 by omega),s8c (rdL t9i t.2.2.2.2.1 i) (Nat.le_trans hz.1 (by omega)) (Nat.le_trans hz.2 (by omega)),zOb]
   cases u5m (rdL t9i t.2.2.2.2.1 i)<;>rfl)
 rw[s9d (t:=t9i) t.2.2.2.2.1 u5m] at L
 rw[q8y];unfold r7y
 have k1:=r4b t.2.2.2.2.2.1 (by omega)
 have k2:=t5m t.2.2.2.2.2.2.2 (by omega)
 simp only[L,s3t,k1,k2,zOb,s5b,gt8]
 unfold t7l
 cases t.2.2.2.2.1.all u5m
 ·cases inB t.1 1 9999<;>cases inB t.2.1 1 3<;>cases inB t.2.2.1 0 9999<;>cases decide (t.2.2.2.2.1.length≤8)<;>cases u7w t.2.2.2.2.2.1<;>simp
 ·simp only[cond_true,Bool.true_and,s3t,k2,zOb,s5b]
  cases h3:inB t.2.2.1 0 9999
  ·cases inB t.1 1 9999<;>cases inB t.2.1 1 3<;>simp
  ·have h3' :=r6w.mp h3
   rw[y4y (n:=t.2.2.1+1) (by omega) (by omega)]
   cases inB t.1 1 9999<;>cases inB t.2.1 1 3<;>cases decide (t.2.2.2.2.1.length≤8)<;>cases u7w t.2.2.2.2.2.1<;>try rfl
   generalize decide (t.2.2.2.2.2.2.2.size=0)=b4
   generalize inB t.2.2.2.1 (t.2.2.1+1) 9999=b1
   generalize u78 t.2.2.2.2.2.2.2=b2
   by_cases e3:t.2.1=3
   ·cases t.2.2.2.2.2.2.1<;>cases b1<;>cases b4<;>simp[e3]
   ·by_cases e2:t.2.1=2
    ·cases t.2.2.2.2.2.2.1<;>cases b2<;>by_cases e5:t.2.2.2.1=0<;>simp[e2,e5]
    ·by_cases e1:t.2.1=1<;>cases t.2.2.2.2.2.2.1<;>cases b4<;>by_cases e5:t.2.2.2.1=0<;>simp[e1,e2,e3,e5]
end
section
section
variable {l:List u1u.den} (hl:o03 l) {u:List Nat} (ho:o3h l=some u)
include hl
include ho
def pre (l:List u1u.den) (u:List Nat) (a:Nat):List u1u.den:=(u.take a).map fun i=>rdL u1u l i
end
end
section
def o5a (w:u56.den):Prop:=w.1.size≤4∧w.2.1.size≤13
def midTx (n:Nat) (t:u1u.den):Prop:=t.2.2.2.2.1.length≤n∧(∀r∈t.2.2.2.2.1,r.1.size≤2∧r.2.size≤2)∧t.2.2.2.2.2.1.length≤n∧(∀r∈t.2.2.2.2.2.1,o5a r)∧t.2.2.2.2.2.2.2.size≤16
theorem midTx.wt {n:Nat} (hn:n≤1000000) {t:u1u.den} (h:midTx n t):u1u.wt t≤u0p:=by
 obtain⟨h1,h2,h3,h4,h5⟩:=h
 have a1:=p2u (l:=t.2.2.2.2.1) (f:=(Ty.pair .str .str).wt) (k:=4) (fun x hx=>by have:=h2 x hx;simp only[Ty.wt];omega)
 have a2:=p2u (l:=t.2.2.2.2.2.1) (f:=(Ty.pair .str (.pair .str .bool)).wt) (k:=17) (fun x hx=>by have:=h4 x hx;unfold o5a at this;simp only[Ty.wt];omega)
 have hw:u1u.wt t=0+(0+(0+(0+((t.2.2.2.2.1.length+(t.2.2.2.2.1.map (Ty.pair .str .str).wt).sum)+((t.2.2.2.2.2.1.length+(t.2.2.2.2.2.1.map (Ty.pair .str (.pair .str .bool)).wt).sum)+(0+t.2.2.2.2.2.2.2.size)))))):=rfl
 rw[hw]
 unfold u0p
 omega
end
section
theorem p8f {l:List u2j} {w:u2j} (h:w∈l):w.1.size≤(Ty.sl u0f).wt l∧w.2.1.size≤(Ty.sl u0f).wt l:=by
 have h1:(Ty.sl u0f).wt l=l.length+(l.map u0f.wt).sum:=rfl
 have h2:=q5b (f:=u0f.wt) h
 have h3:u0f.wt w=w.1.size+(w.2.1.size+(0+0)):=rfl
 omega
theorem o48 (n:Nat):decide ((n:Int) >12)= !decide (n≤12):=by by_cases h:n≤12<;>simp[h] <;>omega
theorem o3f (n:Nat):decide ((n:Int)≤120)=decide (n≤120):=by simp;omega
theorem q88 (a b:Int):decide (a≥b)= !decide (a<b):=by
 by_cases h:a<b
 ·have: ¬a≥b:=by omega
  simp[h,this]
 ·have:a≥b:=by omega
  simp[h,this]
theorem p2c (a b:Int):decide (a >b)= !decide (a≤b):=by
 by_cases h:a≤b
 ·have: ¬a >b:=by omega
  simp[h,this]
 ·have:a >b:=by omega
  simp[h,this]
theorem r95 (l:List u2j) (hl:(Ty.sl u0f).wt l≤u0p):t7k l=some (t3p l):=by
 have hb:u0p=1099511627776:=rfl
 have hn:=r5y (t:=u0f) l
 have L:=s29 u9o l.length (fun i=>(l,i)) (fun i=>q2b (rdL u0f l i)&&(decide (i=0) || r8i (rdL u0f l (i - 1)) (rdL u0f l i))) (.inl l) (.inr false)
  (by rw[s08];simp only[u9l,u0b,Nat.lt_irrefl,decide_false,cond_false])
  (fun i hi=>by
   have hm:rdL u0f l i∈l:=by rw[y8k hi];exact List.getElem_mem hi
   rw[s08];simp only[u9l,u0b,hi,decide_true,cond_true,y7t hi,zTn,y7l (show i<4611686018427387904 by omega),t5m _ (Nat.le_trans (p8f hm).1 hl),s3t,zOb,r5u,s5b,o48]
   unfold q2b r8i
   generalize u78 (rdL u0f l i).1=b1
   generalize decide ((rdL u0f l i).2.1.size≤12)=b2
   generalize decide ((rdL u0f l i).2.1.size=0)=b3
   generalize (rdL u0f l i).2.2.1=b4
   generalize inB (rdL u0f l i).2.2.2 1 9999=b5
   by_cases h0:i=0
   ·subst h0;simp only[decide_true,Bool.not_true,cond_false,Bool.true_or,Bool.and_true]
    cases b1<;>cases b2<;>cases b3<;>cases b4<;>cases b5<;>rfl
   ·simp only[h0,decide_false,Bool.not_false,cond_true,Bool.false_or,r0l (show i<4611686018427387904 by omega) h0,y7t (show i - 1<l.length by omega),zTn,zOb]
    rcases r65 (rdL u0f l (i - 1)).1 (rdL u0f l i).1 with h | h | h
    ·have e2:z7o (rdL u0f l (i - 1)).1 (rdL u0f l i).1=false:=p1t.mpr (fun e=>by rw[e,u9z] at h;cases h)
     rw[h,e2]
     cases b1<;>cases b2<;>cases b3<;>cases b4<;>cases b5<;>rfl
    ·rw[h,u9z,y6l]
     rw[q88]
     cases decide ((rdL u0f l (i - 1)).2.2.2<(rdL u0f l i).2.2.2)<;>cases b1<;>cases b2<;>cases b3<;>cases b4<;>cases b5<;>rfl
    ·have e1:=s5t h
     have e2:z7o (rdL u0f l (i - 1)).1 (rdL u0f l i).1=false:=p1t.mpr (fun e=>by rw[e,u9z] at h;cases h)
     rw[e1,e2]
     cases b1<;>cases b2<;>cases b3<;>cases b4<;>cases b5<;>rfl)
 rw[q0b (t:=u0f) l q2b r8i] at L
 rw[r6q];unfold s3j
 simp only[L,zOb]
 unfold t3p
 cases l.all q2b
 ·rfl
 ·cases p0a u0f r8i l
  ·rfl
  ·simp only[Bool.true_and,cond_true]
   rw[o3f]
theorem p6y (n:Nat) (hn:n≤1099511627776):t1b ((),(n:Int))=some [] :=by
 rw[s75];unfold t69
 have e0:IntKind.i64.wrap ((0:Int) - (0:Int))=0:=by rw[y4y (by omega) (by omega)];rfl
 have e1:IntKind.i64.wrap ((n:Int) - 0)=(n:Int):=by rw[y4y (by omega) (by omega)];omega
 have e2:decide ((n:Int)<0)=false:=decide_eq_false (by omega)
 simp only[e0,e1,e2,cond_false]
 by_cases h:n=0
 ·subst h;simp
 ·have e3:decide ((n:Int) >0)=true:=by simp;omega
  have e4:(decide ((1:Int)≤(n:Int))&&decide ((n:Int)≤1099511627776))=true:=by simp;omega
  simp only[e3,e4,cond_true]
  simp
theorem p22 (ls:List (List u0d)) (h:ls.flatten.length≤1099511627776) (hn:ls.length≤1099511627776):u8t ls=some ls.flatten:=by
 have fl:∀(i:Nat),i≤ls.length→(ls.take i).flatten.length≤ls.flatten.length:=fun i _=>by
  have:=List.take_append_drop i ls
  have h2:ls.flatten=(ls.take i).flatten++(ls.drop i).flatten:=by rw[←List.flatten_append,this]
  rw[h2,List.length_append];omega
 have st:∀(i:Nat) (hi:i<ls.length),(ls.take (i+1)).flatten=(ls.take i).flatten++ls[i] :=fun i hi=>by
  rw[List.take_add_one,List.getElem?_eq_getElem hi,List.flatten_append];simp
 have L1:=r3t u2k ls.length (fun(n:Nat) i=>(ls,(n:Int),ls,(ls.length:Int),i)) (fun _ _=> .inl (ls,(ls.flatten.length:Int))) (fun i n=>n=(ls.take i).flatten.length)
  (fun n hP=>by
   rw[List.take_length] at hP;subst hP
   rw[t3t];simp only[u47,u0b,Nat.lt_irrefl,decide_false,cond_false])
  (fun i n hi hP=> .inr ⟨(ls.take (i+1)).flatten.length,rfl,rfl,by
   have h1:=fl (i+1) (by omega)
   have h2:(ls.take (i+1)).flatten.length=n+ls[i].length:=by rw[st i hi,List.length_append,hP]
   have e1:IntKind.i64.wrap ((n:Int)+((ls[i].length:Nat):Int))=((n+ls[i].length:Nat):Int):=by rw[y4y (by omega) (by omega)];omega
   have e2:decide (((n+ls[i].length:Nat):Int)<0)=false:=by simp;omega
   rw[t3t];simp only[u47,u0b,hi,decide_true,cond_true,y7t hi,zTn,y8k (t:=Ty.sl u1u) hi,y7l (show i<4611686018427387904 by omega),h2]
   rw[e1,e2];rfl⟩) 0 0 (by omega) rfl
 have L2:=r3t u19 ls.length (fun(a:List u0d) i=>(a,ls,(ls.length:Int),i)) (fun _ _=> .inl ls.flatten) (fun i a=>a=(ls.take i).flatten)
  (fun a hP=>by
   rw[List.take_length] at hP;subst hP
   rw[t2o];simp only[u37,u0b,Nat.lt_irrefl,decide_false,cond_false])
  (fun i a hi hP=> .inr ⟨(ls.take (i+1)).flatten,rfl,rfl,by
   have h1:=fl (i+1) (by omega)
   have h2:(ls.take (i+1)).flatten.length=a.length+ls[i].length:=by rw[st i hi,List.length_append,hP]
   rw[t2o];simp only[u37,u0b,hi,decide_true,cond_true,y7t hi,zTn,y8k (t:=Ty.sl u1u) hi,y7l (show i<4611686018427387904 by omega)]
   rw[u1q (show a.length+ls[i].length≤1099511627776 by omega),st i hi,hP];rfl⟩) 0 [] (by omega) rfl
 rw[s3p];unfold t5q
 have L1' :u2k (ls,(0:Int),ls,(ls.length:Int),0)=some (.inl (ls,(ls.flatten.length:Int))):=L1
 have L2' :u19 ([],ls,(ls.length:Int),0)=some (.inl ls.flatten):=L2
 simp only[L1',zOb,p6y _ h,L2']
end
section
theorem q0f (b:u0h):o0t.wt b=(Ty.sl u0f).wt b.1+((Ty.sl u1u).wt b.2.1+((Ty.sl u1u).wt b.2.2.1+(0+0))):=rfl
theorem q7a {l:List u0d} {t:u0d} (h:t∈l):u1u.wt t≤(Ty.sl u1u).wt l:=by
 have h1:(Ty.sl u1u).wt l=l.length+(l.map u1u.wt).sum:=rfl
 have h2:=q5b (f:=u1u.wt) h
 omega
theorem gt3 (n:Nat):decide ((n:Int) >3)= !decide (n≤3):=by by_cases h:n≤3<;>simp[h] <;>omega
theorem gt4 (n:Nat):decide ((n:Int) >4)= !decide (n≤4):=by by_cases h:n≤4<;>simp[h] <;>omega
theorem u9f (t:u0d):u5s t=some (decide (t.2.1=2)):=by rw[q2u];rfl
theorem p3p (l:List Int) (n:Int):((List.range l.length).all fun i=>((List.range i).all fun j=> !decide (rdL (Ty.int .i64) l j=rdL (Ty.int .i64) l i))&&decide (rdL (Ty.int .i64) l i<n))=q3z l n:=by
 rw[Bool.eq_iff_iff,List.all_eq_true,r5q]
 constructor
 ·intro h
  constructor
  ·intro x hx
   obtain⟨i,hi,rfl⟩:=List.getElem_of_mem hx
   have:=h i (List.mem_range.mpr hi)
   rw[Bool.and_eq_true,decide_eq_true_eq,y8k (t:=Ty.int .i64) hi] at this
   exact this.2
  ·rw[List.nodup_iff_pairwise_ne,List.pairwise_iff_getElem]
   intro i j hi hj hij e
   have:=h j (List.mem_range.mpr hj)
   rw[Bool.and_eq_true,List.all_eq_true] at this
   have:=this.1 i (List.mem_range.mpr hij)
   rw[y8k (t:=Ty.int .i64) hi,y8k (t:=Ty.int .i64) hj,Bool.not_eq_true',decide_eq_false_iff_not] at this
   exact this e
 ·rintro⟨h1,h2⟩ i hi
  have hi:=List.mem_range.mp hi
  rw[Bool.and_eq_true,decide_eq_true_eq,y8k (t:=Ty.int .i64) hi,List.all_eq_true]
  refine⟨fun j hj=> ?_,h1 _ (List.getElem_mem hi)⟩
  have hj:=List.mem_range.mp hj
  rw[List.nodup_iff_pairwise_ne,List.pairwise_iff_getElem] at h2
  rw[y8k (t:=Ty.int .i64) (show j<l.length by omega),Bool.not_eq_true',decide_eq_false_iff_not]
  exact h2 j i (by omega) hi hj
theorem q7o (b:u0h) (l:List Int) (hl:l.length≤1099511627776):u69 (b,l,0)=some (bif q3z l b.2.2.2.2 then .inl () else .inr false):=by
 have inner:∀i:Nat,i<l.length→t0c (b,l,(i:Int),0)=some (bif (List.range i).all (fun j=> !decide (rdL (Ty.int .i64) l j=rdL (Ty.int .i64) l i)) then .inl (b,l,(i:Int)) else .inr false):=by
  intro i hi
  exact s29 t0c i (fun j=>(b,l,(i:Int),j)) (fun j=> !decide (rdL (Ty.int .i64) l j=rdL (Ty.int .i64) l i)) (.inl (b,l,(i:Int))) (.inr false)
   (by rw[s7h];simp only[t4m,u0b,Nat.lt_irrefl,decide_false,cond_false])
   (fun j hj=>by
    rw[s7h];simp only[t4m,u0b,hj,decide_true,cond_true,y7t hi,y7t (show j<l.length by omega),zTn,y7l (show j<4611686018427387904 by omega)]
    by_cases e:rdL (Ty.int .i64) l j=rdL (Ty.int .i64) l i
    ·rw[decide_eq_true e];rfl
    ·rw[decide_eq_false e];rfl)
 have L:=s29 u69 l.length (fun i=>(b,l,i)) (fun i=>((List.range i).all fun j=> !decide (rdL (Ty.int .i64) l j=rdL (Ty.int .i64) l i))&&decide (rdL (Ty.int .i64) l i<b.2.2.2.2)) (.inl ()) (.inr false)
  (by rw[s7g];simp only[t4l,u0b,Nat.lt_irrefl,decide_false,cond_false])
  (fun i hi=>by
   rw[s7g];simp only[t4l,u0b,hi,decide_true,cond_true]
   rw[inner i hi]
   cases (List.range i).all fun j=> !decide (rdL (Ty.int .i64) l j=rdL (Ty.int .i64) l i)
   ·rfl
   ·simp only[cond_true,zOb,y7t hi,zTn,y7l (show i<4611686018427387904 by omega),Bool.true_and]
    rw[q88]
    cases decide (rdL (Ty.int .i64) l i<b.2.2.2.2)<;>rfl)
 rw[p3p] at L
 exact L
theorem p2d (l:List u0d) {i:Nat} (h:i<l.length):u6f (l.take i)++ [(rdL u1u l i).1] =u6f (l.take (i+1)):=by
 rw[y8k h];unfold u6f
 rw[List.take_add_one,List.getElem?_eq_getElem h,List.map_append];rfl
theorem t7d (b:u0h) (hw:o0t.wt b≤549755813888):u7s b=some (t7a b):=by
 have hb:u0p=1099511627776:=rfl
 have hbw:=q0f b
 have n1:=r5y (t:=u0f) b.1
 have n2:=r5y (t:=u1u) b.2.1
 have n3:=r5y (t:=u1u) b.2.2.1
 have L1:=s29 t12 b.1.length (fun i=>(b,i)) (fun i=>(fun v:u2j=>decide (v.2.2.2≤b.2.2.2.1)) (rdL u0f b.1 i)) (.inl b) (.inr false)
  (by rw[r0c];simp only[t52,u0b,Nat.lt_irrefl,decide_false,cond_false])
  (fun i hi=>by
   rw[r0c];simp only[t52,u0b,hi,decide_true,cond_true,y7t hi,zTn,y7l (show i<4611686018427387904 by omega),p2c (rdL u0f b.1 i).2.2.2 b.2.2.2.1]
   cases decide ((rdL u0f b.1 i).2.2.2≤b.2.2.2.1)<;>rfl)
 rw[s9d (t:=u0f) b.1 (fun v:u2j=>decide (v.2.2.2≤b.2.2.2.1))] at L1
 have il:∀(l:List u0d) (i:Nat),i≤l.length→(u6f (l.take i)).length=i:=fun l i h=>by unfold u6f;simp;omega
 have L2:=s29 u68 b.2.1.length (fun i=>(b,u6f (b.2.1.take i.toNat),i)) (fun i=>(fun t:u0d=>t7l t&&(decide (t.2.1=3)&&decide (t.2.2.2.1≤b.2.2.2.1))) (rdL u1u b.2.1 i)&&(decide (i=0) || (fun x y:u0d=>decide (x.2.2.2.1<y.2.2.2.1)) (rdL u1u b.2.1 (i - 1)) (rdL u1u b.2.1 i))) (.inl (b,u6f b.2.1)) (.inr false)
  (by rw[s7e];simp only[t4j,u0b,Nat.lt_irrefl,decide_false,cond_false,zTn,List.take_length])
  (fun i hi=>by
   have hm:rdL u1u b.2.1 i∈b.2.1:=by rw[y8k hi];exact List.getElem_mem hi
   have ht:=q7a hm
   have hk:=t5o (rdL u1u b.2.1 i) (by omega)
   rw[s7e];simp only[t4j,u0b,hi,decide_true,cond_true,y7t hi,zTn,y7l (show i<4611686018427387904 by omega),p2c (rdL u1u b.2.1 i).2.2.2.1 b.2.2.2.1,r5u,zOb]
   rw[hk]
   have hc:Nat.ble ((u6f (b.2.1.take i)).length+ [(rdL u1u b.2.1 i).1].length) z7w=true:=u1q (by rw[il _ _ (by omega)];simp;omega)
   simp only[zOb]
   rw[hc,p2d _ hi]
   generalize t7l (rdL u1u b.2.1 i)=b1
   generalize decide ((rdL u1u b.2.1 i).2.1=3)=b2
   generalize decide ((rdL u1u b.2.1 i).2.2.2.1≤b.2.2.2.1)=b3
   by_cases h0:i=0
   ·subst h0;simp only[decide_true,Bool.not_true,cond_false,Bool.true_or,Bool.and_true]
    cases b1<;>cases b2<;>cases b3<;>rfl
   ·simp only[h0,decide_false,Bool.not_false,cond_true,Bool.false_or,r0l (show i<4611686018427387904 by omega) h0,y7t (show i - 1<b.2.1.length by omega),zTn,q88 (rdL u1u b.2.1 (i - 1)).2.2.2.1 (rdL u1u b.2.1 i).2.2.2.1]
    generalize decide ((rdL u1u b.2.1 (i - 1)).2.2.2.1<(rdL u1u b.2.1 i).2.2.2.1)=b4
    cases b1<;>cases b2<;>cases b3<;>cases b4<;>rfl)
 rw[q0b (t:=u1u) b.2.1 (fun t:u0d=>t7l t&&(decide (t.2.1=3)&&decide (t.2.2.2.1≤b.2.2.2.1))) (fun x y:u0d=>decide (x.2.2.2.1<y.2.2.2.1))] at L2
 have L3:=s29 t0b b.2.2.1.length (fun i=>(b,u6f b.2.1++u6f (b.2.2.1.take i.toNat),i)) (fun i=>(fun t:u0d=>t7l t&&(decide (t.2.1=2)&&decide (t.2.2.1≤b.2.2.2.1))) (rdL u1u b.2.2.1 i)&&(decide (i=0) || (fun x y:u0d=>y3c x.2.2.2.2.2.2.2 y.2.2.2.2.2.2.2) (rdL u1u b.2.2.1 (i - 1)) (rdL u1u b.2.2.1 i))) (.inl (b,u6f (b.2.1++b.2.2.1))) (.inr false)
  (by rw[s7f];simp only[t4k,u0b,Nat.lt_irrefl,decide_false,cond_false,zTn,List.take_length];unfold u6f;rw[List.map_append])
  (fun i hi=>by
   have hm:rdL u1u b.2.2.1 i∈b.2.2.1:=by rw[y8k hi];exact List.getElem_mem hi
   have ht:=q7a hm
   have hk:=t5o (rdL u1u b.2.2.1 i) (by omega)
   rw[s7f];simp only[t4k,u0b,hi,decide_true,cond_true,y7t hi,zTn,y7l (show i<4611686018427387904 by omega),p2c (rdL u1u b.2.2.1 i).2.2.1 b.2.2.2.1,r5u,zOb]
   rw[hk]
   have hz:(u6f b.2.1).length=b.2.1.length:=by unfold u6f;simp
   have hc:Nat.ble ((u6f b.2.1++u6f (b.2.2.1.take i)).length+ [(rdL u1u b.2.2.1 i).1].length) z7w=true:=u1q (by rw[List.length_append,il _ _ (by omega),hz];simp;omega)
   simp only[zOb]
   rw[hc,List.append_assoc,p2d _ hi]
   generalize t7l (rdL u1u b.2.2.1 i)=b1
   generalize decide ((rdL u1u b.2.2.1 i).2.1=2)=b2
   generalize decide ((rdL u1u b.2.2.1 i).2.2.1≤b.2.2.2.1)=b3
   by_cases h0:i=0
   ·subst h0;simp only[decide_true,Bool.not_true,cond_false,Bool.true_or,Bool.and_true]
    cases b1<;>cases b2<;>cases b3<;>rfl
   ·simp only[h0,decide_false,Bool.not_false,cond_true,Bool.false_or,r0l (show i<4611686018427387904 by omega) h0,y7t (show i - 1<b.2.2.1.length by omega),zTn]
    generalize y3c (rdL u1u b.2.2.1 (i - 1)).2.2.2.2.2.2.2 (rdL u1u b.2.2.1 i).2.2.2.2.2.2.2=b4
    cases b1<;>cases b2<;>cases b3<;>cases b4<;>rfl)
 rw[q0b (t:=u1u) b.2.2.1 (fun t:u0d=>t7l t&&(decide (t.2.1=2)&&decide (t.2.2.1≤b.2.2.2.1))) (fun x y:u0d=>y3c x.2.2.2.2.2.2.2 y.2.2.2.2.2.2.2)] at L3
 have L2' :u68 (b, [],0)=_:=L2
 have e:u6f b.2.1++u6f (b.2.2.1.take (0:Int).toNat)=u6f b.2.1:=by simp[u6f]
 rw[e] at L3
 have hI:=q7o b (u6f (b.2.1++b.2.2.1)) (by unfold u6f;rw[List.length_map,List.length_append];omega)
 have hV:=r95 b.1 (by omega)
 rw[q59];unfold r4l
 rw[hV]
 simp only[s3t,o48,gt3,zOb]
 unfold t7a p5x p1p
 generalize t3p b.1=c1
 generalize inB b.2.2.2.1 0 9999=c3
 generalize inB b.2.2.2.2 1 9999=c4
 generalize decide (b.2.1.length≤12)=c5
 generalize decide (b.2.2.1.length≤3)=c6
 generalize ha1:b.1.all (fun v:u2j=>decide (v.2.2.2≤b.2.2.2.1))=a1 at L1
 generalize ha2:b.2.1.all (fun t:u0d=>t7l t&&(decide (t.2.1=3)&&decide (t.2.2.2.1≤b.2.2.2.1)))=a2 at L2'
 generalize ha3:p0a u1u (fun x y:u0d=>decide (x.2.2.2.1<y.2.2.2.1)) b.2.1=a3 at L2'
 generalize ha4:b.2.2.1.all (fun t:u0d=>t7l t&&(decide (t.2.1=2)&&decide (t.2.2.1≤b.2.2.2.1)))=a4 at L3
 generalize ha5:p0a u1u (fun x y:u0d=>y3c x.2.2.2.2.2.2.2 y.2.2.2.2.2.2.2) b.2.2.1=a5 at L3
 generalize q3z (u6f (b.2.1++b.2.2.1)) b.2.2.2.2=a6 at hI
 have hR:((t12 (b,0)).bind fun r5=>match r5 with
  | .inl o6=>(u68 (o6, [],0)).bind fun r9=>match r9 with
   | .inl o10=>(t0b (o10.1,o10.2,0)).bind fun r13=>match r13 with
    | .inl o14=>(u69 (o14.1,o14.2,0)).bind fun r18=>match r18 with
     | .inl o19=>some true
     | .inr z20=>some z20
    | .inr z21=>some z21
   | .inr z22=>some z22
  | .inr z23=>some z23)=some (a1&&((a2&&a3)&&((a4&&a5)&&a6))):=by
  rw[L1]
  cases a1
  ·rfl
  ·simp only[cond_true,zOb,Bool.true_and]
   rw[L2']
   cases (a2&&a3)
   ·rfl
   ·simp only[cond_true,zOb,Bool.true_and]
    rw[L3]
    cases (a4&&a5)
    ·rfl
    ·simp only[cond_true,zOb,Bool.true_and]
     rw[hI]
     cases a6<;>rfl
 cases c1<;>cases c3<;>cases c4<;>cases c5<;>cases c6<;>simp only[Bool.not_true,Bool.not_false,cond_true,cond_false,zOb,Bool.false_and,Bool.and_false,Bool.true_and,Bool.and_true]
 exact hR
theorem p8r (e:u1w):o26.wt e=o0t.wt e.1+(Ty.sl u1u).wt e.2:=rfl
theorem p7b {b:u0h} {o:List u0d} (hb:q3z (u6f (b.2.1++b.2.2.1)) b.2.2.2.2=true) (ho:p0a u1u (fun x y:u0d=>decide (x.1<y.1)) o=true):
 q3z (u6f (b.2.1++b.2.2.1++o)) b.2.2.2.2=o.all (fun t=>decide (t.1<b.2.2.2.2)&&((b.2.1.all fun x=> !decide (x.1=t.1))&&(b.2.2.1.all fun x=> !decide (x.1=t.1)))):=by
 rw[o3c (f:=fun t=>t.1)] at ho
 obtain⟨h1,h2⟩:=r5q.mp hb
 rw[Bool.eq_iff_iff,r5q,List.all_eq_true]
 simp only[Bool.and_eq_true,decide_eq_true_eq,List.all_eq_true,Bool.not_eq_true',decide_eq_false_iff_not]
 unfold u6f at*
 constructor
 ·rintro⟨k1,k2⟩ t ht
  rw[List.map_append,List.nodup_append] at k2
  refine⟨k1 _ (List.mem_map.mpr ⟨t,by simp[ht],rfl⟩),fun x hx=> ?_,fun x hx=> ?_⟩
  ·exact k2.2.2 _ (List.mem_map.mpr ⟨x,by simp[hx],rfl⟩) _ (List.mem_map.mpr ⟨t,ht,rfl⟩)
  ·exact k2.2.2 _ (List.mem_map.mpr ⟨x,by simp[hx],rfl⟩) _ (List.mem_map.mpr ⟨t,ht,rfl⟩)
 ·intro k
  constructor
  ·intro x hx
   obtain⟨t,ht,rfl⟩:=List.mem_map.mp hx
   rcases List.mem_append.mp ht with q | q
   ·exact h1 _ (List.mem_map.mpr ⟨t,q,rfl⟩)
   ·exact(k t q).1
  ·rw[List.map_append,List.nodup_append]
   refine⟨h2,?_,?_⟩
   ·rw[List.nodup_iff_pairwise_ne,List.pairwise_map]
    exact ho.imp fun {a b} q e=>by omega
   ·intro a ha c hc e
    obtain⟨x,hx,rfl⟩:=List.mem_map.mp ha
    obtain⟨t,ht,rfl⟩:=List.mem_map.mp hc
    rcases List.mem_append.mp hx with q | q
    ·exact(k t ht).2.1 x q e
    ·exact(k t ht).2.2 x q e
theorem q5f (e:u1w) (hw:o26.wt e≤549755813888):s0q e=some (p68 e):=by
 have hb:u0p=1099511627776:=rfl
 have hew:=p8r e
 have hbw:=q0f e.1
 have n1:=r5y (t:=u1u) e.2
 have n2:=r5y (t:=u1u) e.1.2.1
 have n3:=r5y (t:=u1u) e.1.2.2.1
 have I1:∀(j:Int) (t:u0d),u7n (e,j,t,0)=some (bif (e.1.2.1.all fun x=> !decide (x.1=t.1)) then .inl (e,j,t) else .inr false):=fun j t=>by
  have L:=s29 u7n e.1.2.1.length (fun i=>(e,j,t,i)) (fun i=>(fun x:u0d=> !decide (x.1=t.1)) (rdL u1u e.1.2.1 i)) (.inl (e,j,t)) (.inr false)
   (by rw[s2d];simp only[t1g,u0b,Nat.lt_irrefl,decide_false,cond_false])
   (fun i hi=>by
    rw[s2d];simp only[t1g,u0b,hi,decide_true,cond_true,y7t hi,zTn,y7l (show i<4611686018427387904 by omega)]
    cases decide ((rdL u1u e.1.2.1 i).1=t.1)<;>rfl)
  rw[s9d (t:=u1u) e.1.2.1 (fun x:u0d=> !decide (x.1=t.1))] at L
  exact L
 have I2:∀(j:Int) (t:u0d),u54 (e,j,t,0)=some (bif (e.1.2.2.1.all fun x=> !decide (x.1=t.1)) then .inl (e,j) else .inr false):=fun j t=>by
  have L:=s29 u54 e.1.2.2.1.length (fun i=>(e,j,t,i)) (fun i=>(fun x:u0d=> !decide (x.1=t.1)) (rdL u1u e.1.2.2.1 i)) (.inl (e,j)) (.inr false)
   (by rw[s2e];simp only[t1h,u0b,Nat.lt_irrefl,decide_false,cond_false])
   (fun i hi=>by
    rw[s2e];simp only[t1h,u0b,hi,decide_true,cond_true,y7t hi,zTn,y7l (show i<4611686018427387904 by omega)]
    cases decide ((rdL u1u e.1.2.2.1 i).1=t.1)<;>rfl)
  rw[s9d (t:=u1u) e.1.2.2.1 (fun x:u0d=> !decide (x.1=t.1))] at L
  exact L
 have L:=s29 u6o e.2.length (fun i=>(e,i)) (fun i=>(fun t:u0d=>(t7l t&&(decide (t.2.1=1)&&decide (t.2.2.1≤e.1.2.2.2.1)))&&(decide (t.1<e.1.2.2.2.2)&&((e.1.2.1.all fun x=> !decide (x.1=t.1))&&(e.1.2.2.1.all fun x=> !decide (x.1=t.1))))) (rdL u1u e.2 i)&&(decide (i=0) || (fun x y:u0d=>decide (x.1<y.1)) (rdL u1u e.2 (i - 1)) (rdL u1u e.2 i))) (.inl ()) (.inr false)
  (by rw[s4m];simp only[t2v,u0b,Nat.lt_irrefl,decide_false,cond_false])
  (fun i hi=>by
   have hm:rdL u1u e.2 i∈e.2:=by rw[y8k hi];exact List.getElem_mem hi
   have ht:=q7a hm
   have hk:=t5o (rdL u1u e.2 i) (by omega)
   have k1:=I1 (i:Int) (rdL u1u e.2 i)
   have k2:=I2 (i:Int) (rdL u1u e.2 i)
   rw[s4m];simp only[t2v,u0b,hi,decide_true,cond_true,y7t hi,zTn,y7l (show i<4611686018427387904 by omega),p2c (rdL u1u e.2 i).2.2.1 e.1.2.2.2.1,q88 (rdL u1u e.2 i).1 e.1.2.2.2.2,r5u,zOb]
   rw[hk,k1]
   simp only[zOb]
   generalize t7l (rdL u1u e.2 i)=b1
   generalize decide ((rdL u1u e.2 i).2.1=1)=b2
   generalize decide ((rdL u1u e.2 i).2.2.1≤e.1.2.2.2.1)=b3
   generalize decide ((rdL u1u e.2 i).1<e.1.2.2.2.2)=b5
   generalize (e.1.2.1.all fun x=> !decide (x.1=(rdL u1u e.2 i).1))=b6
   generalize (e.1.2.2.1.all fun x=> !decide (x.1=(rdL u1u e.2 i).1))=b7 at k2 ⊢
   have tail:((bif b6 then Sum.inl (e,(i:Int),rdL u1u e.2 i) else Sum.inr false:(u1w×Int×u0d)⊕Bool) |>fun r5=>(match r5 with
    | .inl o6=>(u54 (o6.1,o6.2.1,o6.2.2,0)).bind fun r7=>match r7 with
     | .inl o8=>u6o (o8.1,IntKind.i64.wrap (o8.2+1))
     | .inr z9=>some (.inr z9)
    | .inr z10=>some (.inr z10)))=bif b6&&b7 then u6o (e,((i+1:Nat):Int)) else some (.inr false):=by
    cases b6
    ·rfl
    ·simp only[cond_true]
     rw[k2]
     cases b7
     ·rfl
     ·simp only[cond_true,zOb,y7l (show i<4611686018427387904 by omega)];rfl
   by_cases h0:i=0
   ·subst h0;simp only[decide_true,Bool.not_true,cond_false,Bool.true_or,Bool.and_true]
    cases b1<;>cases b2<;>cases b3<;>cases b5<;>try rfl
    exact tail
   ·simp only[h0,decide_false,Bool.not_false,cond_true,Bool.false_or,r0l (show i<4611686018427387904 by omega) h0,y7t (show i - 1<e.2.length by omega),zTn,q88 (rdL u1u e.2 (i - 1)).1 (rdL u1u e.2 i).1]
    generalize decide ((rdL u1u e.2 (i - 1)).1<(rdL u1u e.2 i).1)=b4
    cases b1<;>cases b2<;>cases b3<;>cases b5<;>cases b4<;>(first | rfl | (rw[Bool.and_false];rfl) | (rw[Bool.and_true];exact tail)))
 rw[q0b (t:=u1u) e.2 (fun t:u0d=>(t7l t&&(decide (t.2.1=1)&&decide (t.2.2.1≤e.1.2.2.2.1)))&&(decide (t.1<e.1.2.2.2.2)&&((e.1.2.1.all fun x=> !decide (x.1=t.1))&&(e.1.2.2.1.all fun x=> !decide (x.1=t.1))))) (fun x y:u0d=>decide (x.1<y.1)),p48] at L
 have hB:=t7d e.1 (by omega)
 rw[q0w];unfold s8r
 rw[hB]
 simp only[zOb,gt4]
 rw[L]
 unfold p68 p5u
 cases h1:t7a e.1
 ·rfl
 ·have hbi:q3z (u6f (e.1.2.1++e.1.2.2.1)) e.1.2.2.2.2=true:=by
   have:=q4m.mp h1
   exact r5q.mpr ⟨this.below,this.nodup⟩
  cases ha:p0a u1u (fun x y:u0d=>decide (x.1<y.1)) e.2
  ·cases decide (e.2.length≤4)<;>simp
  ·rw[p7b hbi ha]
   cases decide (e.2.length≤4)
   ·rfl
   ·simp only[Bool.not_true,cond_false,zOb,Bool.true_and,Bool.and_true]
    cases (e.2.all fun t:u0d=>t7l t&&(decide (t.2.1=1)&&decide (t.2.2.1≤e.1.2.2.2.1)))
    ·rfl
    ·simp only[Bool.true_and]
     cases (e.2.all fun t:u0d=>decide (t.1<e.1.2.2.2.2)&&((e.1.2.1.all fun x=> !decide (x.1=t.1))&&(e.1.2.2.1.all fun x=> !decide (x.1=t.1))))<;>rfl
end
end
end Go.Proofs.YtbkicjpdlchbgaaGreat.Ab
